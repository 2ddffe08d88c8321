/- The law FnVisits answers true for every input that the row lets in, and leaves its arguments as they were. Conditions: none beyond the row's own. -/
import Derived.Test.YtpalafegcndccaaRows
import Derived.WalkKit
import Derived.ProofKit
import Derived.OpenShut
import Derived.ShutString
import Derived.ChangeOld
import Derived.Below
import Derived.SizedLaws
import Derived.Lib.SmallJoins
import Derived.Test.YtpalafegcndccaaKFnVisits1
import Derived.Test.YtpalafegcndccaaKFnVisits2
import Derived.Test.YtpalafegcndccaaKFnVisits3
-- written by a program of this session (wip/ext.py) out of the translation. Not trusted: Lean checks it.
namespace Go.Proofs.Ytpalafegcndccaa.X
open Go.RowKit Go.Proofs.YtpalafegcndccaaW.PrintWords Go.Proofs.YtpalafegcndccaaW.PrintLast Go.Proofs.YtpalafegcndccaaW.PrintMore
attribute [local go_sem] max2_int min2_int max_two min_two max_three min_three max_four min_four   -- for this text's walks alone
set_option linter.unusedVariables false
set_option linter.unusedSimpArgs false

/-! ### laws_markEventS: function 14 -/
def laws_markEventS.l0 : Nat → List (S61) → Int → Int → Option (Int × (List (S61)))
  | 0, _, _, _ => none
  | k + 1, x0, x1, x5 => if x5 < (x0.length : Int) then (if 0 ≤ x5 then ((some (x0.set (x5 : Int).toNat (⟨x1, (rd_T61 x0 x5).f1⟩ : S61) : List (S61))).bind fun y148 => (laws_markEventS.l0 k (y148.set (x5 : Int).toNat (⟨(rd_T61 y148 x5).f0, wrap64 (x1 + 1)⟩ : S61)) (wrap64 ((wrap64 (x1 + 1)) + 1)) (wrap64 (x5 + 1)))) else (none)) else (some (x1, x0))
def laws_markEventS.f (k : Nat) (l0 : List (S61)) (a1 : Int) : Option (Int × (List (S61))) := laws_markEventS.l0 k l0 a1 0
theorem laws_markEventS.mono_l : ∀ k, (∀ y0 y1 y2, LeO (laws_markEventS.l0 k y0 y1 y2) (laws_markEventS.l0 (k + 1) y0 y1 y2))
  | 0 => fun _ _ _ r h => by simp [laws_markEventS.l0] at h
  | k + 1 => by
    have ih0 := laws_markEventS.mono_l k
    · intro y0 y1 y2
      unfold laws_markEventS.l0
      repeat' first
      | (with_reducible exact ih0 _ _ _)
      | (with_reducible exact LeO.refl _)
      | (with_reducible exact LeO.none _)
      | (with_reducible refine LeO.ite ?_ ?_)
      | (with_reducible refine LeO.bind ?_ (fun _ => ?_))
      | exact ih0 _ _ _
      | exact LeO.none _
      | refine LeO.ite ?_ ?_
      | refine LeO.bind ?_ (fun _ => ?_)
theorem laws_markEventS.mono : ∀ a0 a1 k, LeO (laws_markEventS.f k a0 a1) (laws_markEventS.f (k + 1) a0 a1) := by
  intro a0 a1 k
  have ih0 := laws_markEventS.mono_l k
  unfold laws_markEventS.f
  repeat' first
      | (with_reducible exact ih0 _ _ _)
      | (with_reducible exact LeO.refl _)
      | (with_reducible exact LeO.none _)
      | (with_reducible refine LeO.ite ?_ ?_)
      | (with_reducible refine LeO.bind ?_ (fun _ => ?_))
      | exact ih0 _ _ _
      | exact LeO.none _
      | refine LeO.ite ?_ ?_
      | refine LeO.bind ?_ (fun _ => ?_)
set_option maxHeartbeats 8000000 in
set_option maxRecDepth 100000 in
theorem laws_markEventS.calls (k : Nat) (P0_ : Nat → Prop) (u9000_ : Value) (l0 : List (S61)) (a1 : Int) (r1 : Int) (r2 : List (S61)) (w0 w : World) (hB : Below w0.heap.size w0 w) (ho0 : Kd.R k61 61 w w0.heap.size P0_ u9000_ l0) (h : laws_markEventS.f k l0 a1 = some (r1, r2)) :
    Calls Try.prog 14 #[u9000_, .int .i64 a1] w fun e w' => e = .returned (.int .i64 r1) ∧ Kd.R k61 61 w' w0.heap.size (fun k_ => (P0_ k_ ∨ w.heap.size ≤ k_)) u9000_ r2 ∧ Below w0.heap.size w0 w' ∧ Kept w w' (fun k_ => P0_ k_) := by
  have HO0 := Aside0.mk (show Kd.R k61 61 w w0.heap.size (fun k_ => (P0_ k_ ∨ w.heap.size ≤ k_)) u9000_ l0 from Kd.R_mono ho0 (fun k_ hk => (.inl hk)))
  have HK := Aside0.mk (Kept.refl w (fun k_ => P0_ k_))
  have HW0 := Aside0.mk hB.size
  have HB := Aside0.mk hB
  clear hB
  have H : (laws_markEventS.l0 k l0 a1 0) = some (r1, r2) := h
  clear h
  have H' := Aside0.mk H
  clear H
  go_enter Try.func14, Try.ntmps14
  go_wp2
  go_loopg [1, 5] k (fun kq v1 v5 w' => ∃ (x0_1 : List (S61)) (x1_1 : Int) (x5_1 : Int), v1 = .int .i64 x1_1 ∧ v5 = .int .i64 x5_1 ∧ Aside0 (laws_markEventS.l0 kq x0_1 x1_1 x5_1 = some (r1, r2)) ∧ Aside0 (kq ≤ k) ∧ Aside0 (Kd.R k61 61 w' w0.heap.size (fun k_ => (P0_ k_ ∨ w.heap.size ≤ k_)) u9000_ x0_1) ∧ Aside0 (Kept w w' (fun k_ => P0_ k_)) ∧ Aside0 (Below w0.heap.size w0 w'))
  case atStart => exact ⟨(l0), (a1), (0), (by first | rfl | (simp; done) | (simp [*]; done)), (by first | rfl | (simp; done) | (simp [*]; done)), H', ⟨Nat.le_refl _⟩, ⟨by (with_reducible repeat (first | apply Kd.R_alloc | apply Kd.R_drewN | apply Kd.R_drew)); exact HO0.out⟩, ⟨by repeat (first | (with_reducible first | exact HK.out | apply Kept.alloc | apply Kept.drewN | apply Kept.drew) | exact HK.out)⟩, ⟨by repeat (first | (with_reducible first | exact HB.out | apply below_alloc | apply pw_below_drewN | apply below_drew1) | exact HB.out)⟩⟩
  case round =>
    clear H'
    try clear c1
    try clear p2
    obtain ⟨x0_1, x1_1, x5_1, rfl, rfl, HA, HK1, HO_0, HK, HB⟩ := hrel
    cases gk with
    | zero => exact absurd HA.out (by simp [laws_markEventS.l0])
    | succ k1 =>
      have H := HA.out
      clear HA
      simp only [laws_markEventS.l0] at H
      by_cases c3 : x5_1 < (x0_1.length : Int)
      · rw [if_pos c3] at H
        have c3b0 : decide (x5_1 < (x0_1.length : Int)) = true := decide_eq_true c3
        clear c3
        by_cases c4 : 0 ≤ x5_1
        · rw [if_pos c4] at H
          have c4b0 : decide (0 ≤ x5_1) = true := decide_eq_true c4
          clear c4
          obtain ⟨y148, hy148⟩ : ∃ y_ : List (S61), y_ = (x0_1.set (x5_1 : Int).toNat (⟨x1_1, (rd_T61 x0_1 x5_1).f1⟩ : S61)) := ⟨_, rfl⟩
          replace H : (laws_markEventS.l0 k1 (y148.set (x5_1 : Int).toNat (⟨(rd_T61 y148 x5_1).f0, wrap64 (x1_1 + 1)⟩ : S61)) (wrap64 ((wrap64 (x1_1 + 1)) + 1)) (wrap64 (x5_1 + 1))) = some (r1, r2) := by first | (rw [hy148]; with_reducible exact H) | (have H2_ := (Option.bind_some _ _).symm.trans H; rw [hy148]; with_reducible exact H2_) | (have H2_ := (Option.bind_some _ _).symm.trans H; with_reducible exact H2_) | with_reducible exact H | (rw [hy148]; exact H) | exact H
          have Ny148 := Aside0.mk hy148
          clear hy148
          obtain ⟨y149, hy149⟩ : ∃ y_ : List (S61), y_ = (y148.set (x5_1 : Int).toNat (⟨(rd_T61 y148 x5_1).f0, wrap64 (x1_1 + 1)⟩ : S61)) := ⟨_, rfl⟩
          replace H : (laws_markEventS.l0 k1 y149 (wrap64 ((wrap64 (x1_1 + 1)) + 1)) (wrap64 (x5_1 + 1))) = some (r1, r2) := by first | (rw [hy149]; with_reducible exact H) | (have H2_ := (Option.bind_some _ _).symm.trans H; rw [hy149]; with_reducible exact H2_) | (have H2_ := (Option.bind_some _ _).symm.trans H; with_reducible exact H2_) | with_reducible exact H | (rw [hy149]; exact H) | exact H
          have Ny149 := Aside0.mk hy149
          clear hy149
          have H' := Aside0.mk H
          clear H
          obtain ⟨Ao7, co7, eo7⟩ := Kd.R_slice HO_0.out
          subst eo7
          have p5 : 0 ≤ (x5_1 : Int) := of_decide_eq_true (by first | (with_reducible assumption) | assumption)
          have q5 : (x5_1 : Int) < ((x0_1.length : Int) : Int) := of_decide_eq_true (by first | (with_reducible assumption) | assumption)
          obtain ⟨go5, co5, eo5, gb5, gl5, cl5, HG5⟩ := Kd.R_form HO_0.out (by omega)
          (first | cases eo5 | (injection eo5 with ea_ en_ ec_; (first | subst ea_ | (injection ea_ with ea_; subst ea_)); subst ec_; clear en_))
          have GB5 := Aside0.mk gb5
          have GG5 := Aside0.mk HG5
          clear gb5 gl5 HG5
          have HMgo5 := Aside0.mk (show (P0_ go5 ∨ w.heap.size ≤ go5) from (HO_0.out.1 _ rfl))
          obtain ⟨ce5, hcl5, hM5, hcc5, hfr5⟩ := Kd.R_elem HO_0.out z61 (x5_1 : Int) p5 q5
          obtain rfl := k61_openM hM5
          have hx5_0 : wr.cell? ⟨go5, (x5_1 : Int).toNat * 2, none⟩ = some (.int .i64 ((rd_T61 x0_1 x5_1).f0)) := hcc5 0 _ rfl
          have hx5_1 : wr.cell? ⟨go5, (x5_1 : Int).toNat * 2 + 1, none⟩ = some (.int .i64 ((rd_T61 x0_1 x5_1).f1)) := hcc5 1 _ rfl
          have hf5_0 : wr.frozen? ⟨go5, (x5_1 : Int).toNat * 2, none⟩ = false := hfr5 0
          have hf5_1 : wr.frozen? ⟨go5, (x5_1 : Int).toNat * 2 + 1, none⟩ = false := hfr5 1
          clear hcl5 hcc5 hfr5 hM5
          replace p5 := eq_true p5
          replace q5 := eq_true q5
          have HX8 := Aside0.mk (show Kd.R k61 61 wr w0.heap.size (fun k_ => (P0_ k_ ∨ w.heap.size ≤ k_)) (.slice (some ⟨go5, 0, none⟩) x0_1.length co7) x0_1 from (by (with_reducible repeat (first | apply Kd.R_alloc | apply Kd.R_drewN | apply Kd.R_drew)); exact HO_0.out))
          obtain ⟨ce8, hcl8, hM8, hcc8, hfr8⟩ := Kd.R_elem HX8.out z61 (x5_1 : Int) (of_decide_eq_true (by first | (with_reducible assumption) | assumption)) (by have h_ : (x5_1 : Int) < ((x0_1.length : Int) : Int) := of_decide_eq_true (by first | (with_reducible assumption) | assumption); first | exact h_ | (have e_ := (Kd.R_reads' HO_0.out).1; omega) | simpa using h_)
          obtain rfl := k61_openM hM8
          have HP8 := Kd.R_seg HX8.out (x5_1 : Int) (of_decide_eq_true (by first | (with_reducible assumption) | assumption)) (by have h_ : (x5_1 : Int) < ((x0_1.length : Int) : Int) := of_decide_eq_true (by first | (with_reducible assumption) | assumption); first | exact h_ | (have e_ := (Kd.R_reads' HO_0.out).1; omega) | simpa using h_) (seg := [.int .i64 x1_1]) (j := 0) hcl8 hcc8 (show 1 ≤ 2 from by decide) (x' := (⟨x1_1, (rd_T61 x0_1 x5_1).f1⟩ : S61)) (k61_mkM _ _ _ (⟨x1_1, (rd_T61 x0_1 x5_1).f1⟩ : S61) ) (fun _ hk => hk)
          have hx8_0 := hcc8 0 _ rfl
          (try simp only [show (k61).sz = 2 from rfl, Nat.mul_one, Nat.add_zero] at hx8_0)
          have hf8_0 := hfr8 0
          (try simp only [show (k61).sz = 2 from rfl, Nat.mul_one, Nat.add_zero] at hf8_0)
          clear hcl8 hcc8 hfr8 hM8
          go_wp2_with (first | ((with_reducible refine gate_store (t := 3) (p := 16) rfl ?_); refine store_event (t := 3) (p := 16) (v := ?vo_w9) (w1 := (wr.setCell ⟨go5, (x5_1 : Int).toNat * 2, none⟩ (.int .i64 x1_1))) ?hg ?ho ?hn ?hr ?_; (case ho => rfl); (case hg => rfl); (case hn => rfl); (case hr => first | (go_simp; done) | (go_simp; rfl)); intro w9 hw; have hg : wr.grownBy w9 (some go5) := (by rw [hw]; exact HP8.2); have hp_ : Kd.R k61 61 w9 w0.heap.size (fun k_ => (P0_ k_ ∨ w.heap.size ≤ k_)) (.slice (some ⟨go5, 0, none⟩) x0_1.length co7) y148 := (by rw [hw, Ny148.out]; exact HP8.1); clear HP8; have n0_ := Aside0.mk (hp_); have n1_ := Aside0.mk ((by rw [hw]; exact below_set (HB.out) GB5.out : Below w0.heap.size w0 w9)); have n2_ := Aside0.mk (Kept.of_grown (S := (fun k_ => P0_ k_)) hg (by repeat (first | (with_reducible first | exact HK.out | apply Kept.alloc | apply Kept.drewN | apply Kept.drew) | exact HK.out)) (fun k_ e_ => (HO_0.out.1 k_ e_))); clear HO_0; clear HB; clear HK; have HO_0 := n0_; have HB := n1_; have HK := n2_; clear n0_ n1_ n2_; clear hg hw hp_; have p6 : 0 ≤ (x5_1 : Int) := of_decide_eq_true (by first | (with_reducible assumption) | assumption); have q6 : (x5_1 : Int) < ((x0_1.length : Int) : Int) := of_decide_eq_true (by first | (with_reducible assumption) | assumption); obtain ⟨ce6, hcl6, hM6, hcc6, hfr6⟩ := Kd.R_elem HO_0.out z61 (x5_1 : Int) p6 q6; obtain rfl := k61_openM hM6; have hx6_0 : w9.cell? ⟨go5, (x5_1 : Int).toNat * 2, none⟩ = some (.int .i64 ((rd_T61 y148 x5_1).f0)) := hcc6 0 _ rfl; have hx6_1 : w9.cell? ⟨go5, (x5_1 : Int).toNat * 2 + 1, none⟩ = some (.int .i64 ((rd_T61 y148 x5_1).f1)) := hcc6 1 _ rfl; have hf6_0 : w9.frozen? ⟨go5, (x5_1 : Int).toNat * 2, none⟩ = false := hfr6 0; have hf6_1 : w9.frozen? ⟨go5, (x5_1 : Int).toNat * 2 + 1, none⟩ = false := hfr6 1; clear hcl6 hcc6 hfr6 hM6; replace p6 := eq_true p6; replace q6 := eq_true q6; have HX10 := Aside0.mk (show Kd.R k61 61 w9 w0.heap.size (fun k_ => (P0_ k_ ∨ w.heap.size ≤ k_)) (.slice (some ⟨go5, 0, none⟩) x0_1.length co7) y148 from (by (with_reducible repeat (first | apply Kd.R_alloc | apply Kd.R_drewN | apply Kd.R_drew)); exact HO_0.out)); obtain ⟨ce10, hcl10, hM10, hcc10, hfr10⟩ := Kd.R_elem HX10.out z61 (x5_1 : Int) (of_decide_eq_true (by first | (with_reducible assumption) | assumption)) (by have h_ : (x5_1 : Int) < ((x0_1.length : Int) : Int) := of_decide_eq_true (by first | (with_reducible assumption) | assumption); first | exact h_ | (have e_ := (Kd.R_reads' HO_0.out).1; omega) | simpa using h_); obtain rfl := k61_openM hM10; have HP10 := Kd.R_seg HX10.out (x5_1 : Int) (of_decide_eq_true (by first | (with_reducible assumption) | assumption)) (by have h_ : (x5_1 : Int) < ((x0_1.length : Int) : Int) := of_decide_eq_true (by first | (with_reducible assumption) | assumption); first | exact h_ | (have e_ := (Kd.R_reads' HO_0.out).1; omega) | simpa using h_) (seg := [.int .i64 (wrap64 (x1_1 + 1))]) (j := 1) hcl10 hcc10 (show 2 ≤ 2 from by decide) (x' := (⟨(rd_T61 y148 x5_1).f0, wrap64 (x1_1 + 1)⟩ : S61)) (k61_mkM _ _ _ (⟨(rd_T61 y148 x5_1).f0, wrap64 (x1_1 + 1)⟩ : S61) ) (fun _ hk => hk); have hx10_1 := hcc10 1 _ rfl; (try simp only [show (k61).sz = 2 from rfl, Nat.mul_one, Nat.add_zero] at hx10_1); have hf10_1 := hfr10 1; (try simp only [show (k61).sz = 2 from rfl, Nat.mul_one, Nat.add_zero] at hf10_1); clear hcl10 hcc10 hfr10 hM10) | ((with_reducible refine gate_store (t := 3) (p := 23) rfl ?_); refine store_event (t := 3) (p := 23) (v := ?vo_w11) (w1 := (w9.setCell ⟨go5, (x5_1 : Int).toNat * 2 + 1, none⟩ (.int .i64 (wrap64 (x1_1 + 1))))) ?hg ?ho ?hn ?hr ?_; (case ho => rfl); (case hg => rfl); (case hn => rfl); (case hr => first | (go_simp; done) | (go_simp; rfl)); intro w11 hw; have hg : w9.grownBy w11 (some go5) := (by rw [hw]; exact HP10.2); have hp_ : Kd.R k61 61 w11 w0.heap.size (fun k_ => (P0_ k_ ∨ w.heap.size ≤ k_)) (.slice (some ⟨go5, 0, none⟩) x0_1.length co7) y149 := (by rw [hw, Ny149.out]; exact HP10.1); clear HP10; have n0_ := Aside0.mk (hp_); have n1_ := Aside0.mk ((by rw [hw]; exact below_set (HB.out) GB5.out : Below w0.heap.size w0 w11)); have n2_ := Aside0.mk (Kept.of_grown (S := (fun k_ => P0_ k_)) hg (by repeat (first | (with_reducible first | exact HK.out | apply Kept.alloc | apply Kept.drewN | apply Kept.drew) | exact HK.out)) (fun k_ e_ => (HO_0.out.1 k_ e_))); clear HO_0; clear HB; clear HK; have HO_0 := n0_; have HB := n1_; have HK := n2_; clear n0_ n1_ n2_; clear hg hw hp_))
          go_roundg k1
          case measure => have := HK1.out; omega
          case rel => exact ⟨(y149), (wrap64 ((wrap64 (x1_1 + 1)) + 1)), (wrap64 (x5_1 + 1)), (by first | rfl | (simp; done) | (simp [*]; done)), (by first | rfl | (simp; done) | (simp [*]; done)), H', ⟨by have := HK1.out; omega⟩, ⟨by (with_reducible repeat (first | apply Kd.R_alloc | apply Kd.R_drewN | apply Kd.R_drew)); exact HO_0.out⟩, ⟨by repeat (first | (with_reducible first | exact HK.out | apply Kept.alloc | apply Kept.drewN | apply Kept.drew) | exact HK.out)⟩, ⟨by repeat (first | (with_reducible first | exact HB.out | apply below_alloc | apply pw_below_drewN | apply below_drew1) | exact HB.out)⟩⟩
        · rw [if_neg c4] at H
          exact absurd H (by simp)
      · rw [if_neg c3] at H
        have c3b0 : decide (x5_1 < (x0_1.length : Int)) = false := decide_eq_false c3
        clear c3
        simp only [Option.some.injEq, Prod.mk.injEq] at H
        obtain ⟨rfl, rfl⟩ := H
        obtain ⟨Ao12, co12, eo12⟩ := Kd.R_slice HO_0.out
        subst eo12
        go_wp2
        go_ret
        exact ⟨by first | rfl | (simp [errW_none, errW_some] <;> rfl) | (simp [*, errW_none, errW_some] <;> rfl), by (with_reducible repeat (first | apply Kd.R_alloc | apply Kd.R_drewN | apply Kd.R_drew)); exact HO_0.out, by repeat (first | (with_reducible first | exact HB.out | apply below_alloc | apply pw_below_drewN | apply below_drew1) | exact HB.out), by repeat (first | (with_reducible first | exact HK.out | apply Kept.alloc | apply Kept.drewN | apply Kept.drew) | exact HK.out)⟩

end Go.Proofs.Ytpalafegcndccaa.X

-- written by a program of this session (wip/ext.py) out of the translation. Not trusted: Lean checks it.
namespace Go.Proofs.Ytpalafegcndccaa.X
open Go.RowKit Go.Proofs.YtpalafegcndccaaW.PrintWords Go.Proofs.YtpalafegcndccaaW.PrintLast Go.Proofs.YtpalafegcndccaaW.PrintMore
attribute [local go_sem] max2_int min2_int max_two min_two max_three min_three max_four min_four   -- for this text's walks alone
set_option linter.unusedVariables false
set_option linter.unusedSimpArgs false

/-! ### spec_NextKinds: function 9 -/
mutual
def spec_NextKinds.l0 : Nat → List (S61) → List Int → Int → Int → Option (List Int × Bool)
  | 0, _, _, _, _ => none
  | k + 1, x0, x4, x5, x6 => if x6 ≤ 6 then (spec_NextKinds.j1 k x0 x4 x5 x6 (decide ((x0.length : Int) < 20))) else (spec_NextKinds.j1 k x0 x4 x5 x6 false)
def spec_NextKinds.j1 : Nat → List (S61) → List Int → Int → Int → Bool → Option (List Int × Bool)
  | 0, _, _, _, _, _ => none
  | k + 1, x0, x4, x5, x6, x19 => if x19 = true then ((spec_l23Next.f k x5 x6).bind fun t111 => (if t111 ≥ 0 then (if x4.length < 17592186044416 then (spec_NextKinds.l0 k x0 (x4 ++ [x6]) x5 (wrap64 (x6 + 1))) else (none)) else (spec_NextKinds.l0 k x0 x4 x5 (wrap64 (x6 + 1))))) else (some (x4, true))
end
def spec_NextKinds.f (k : Nat) (l0 : List (S61)) : Option (List Int × Bool) := (some (([] : List Int) : List Int)).bind fun y107 => ((spec_l23State.f k l0).bind fun t110 => (if t110 < 0 then (some (y107, false)) else (spec_NextKinds.l0 k l0 y107 t110 1)))
theorem spec_NextKinds.mono_l : ∀ k, (∀ y0 y1 y2 y3, LeO (spec_NextKinds.l0 k y0 y1 y2 y3) (spec_NextKinds.l0 (k + 1) y0 y1 y2 y3)) ∧ (∀ y0 y1 y2 y3 y4, LeO (spec_NextKinds.j1 k y0 y1 y2 y3 y4) (spec_NextKinds.j1 (k + 1) y0 y1 y2 y3 y4))
  | 0 => ⟨fun _ _ _ _ r h => by simp [spec_NextKinds.l0] at h, fun _ _ _ _ _ r h => by simp [spec_NextKinds.j1] at h⟩
  | k + 1 => by
    obtain ⟨ih0, ih1⟩ := spec_NextKinds.mono_l k
    refine ⟨?_, ?_⟩
    · intro y0 y1 y2 y3
      unfold spec_NextKinds.l0
      repeat' first
      | (with_reducible exact ih0 _ _ _ _)
      | (with_reducible exact ih1 _ _ _ _ _)
      | (with_reducible exact spec_l23Next.mono _ _ _)
      | (with_reducible exact spec_l23State.mono _ _)
      | (with_reducible exact LeO.refl _)
      | (with_reducible exact LeO.none _)
      | (with_reducible refine LeO.ite ?_ ?_)
      | (with_reducible refine LeO.bind ?_ (fun _ => ?_))
      | exact ih0 _ _ _ _
      | exact ih1 _ _ _ _ _
      | exact spec_l23Next.mono _ _ _
      | exact spec_l23State.mono _ _
      | exact LeO.none _
      | refine LeO.ite ?_ ?_
      | refine LeO.bind ?_ (fun _ => ?_)
    · intro y0 y1 y2 y3 y4
      unfold spec_NextKinds.j1
      repeat' first
      | (with_reducible exact ih0 _ _ _ _)
      | (with_reducible exact ih1 _ _ _ _ _)
      | (with_reducible exact spec_l23Next.mono _ _ _)
      | (with_reducible exact spec_l23State.mono _ _)
      | (with_reducible exact LeO.refl _)
      | (with_reducible exact LeO.none _)
      | (with_reducible refine LeO.ite ?_ ?_)
      | (with_reducible refine LeO.bind ?_ (fun _ => ?_))
      | exact ih0 _ _ _ _
      | exact ih1 _ _ _ _ _
      | exact spec_l23Next.mono _ _ _
      | exact spec_l23State.mono _ _
      | exact LeO.none _
      | refine LeO.ite ?_ ?_
      | refine LeO.bind ?_ (fun _ => ?_)
theorem spec_NextKinds.mono : ∀ a0 k, LeO (spec_NextKinds.f k a0) (spec_NextKinds.f (k + 1) a0) := by
  intro a0 k
  obtain ⟨ih0, ih1⟩ := spec_NextKinds.mono_l k
  unfold spec_NextKinds.f
  repeat' first
      | (with_reducible exact ih0 _ _ _ _)
      | (with_reducible exact ih1 _ _ _ _ _)
      | (with_reducible exact spec_l23Next.mono _ _ _)
      | (with_reducible exact spec_l23State.mono _ _)
      | (with_reducible exact LeO.refl _)
      | (with_reducible exact LeO.none _)
      | (with_reducible refine LeO.ite ?_ ?_)
      | (with_reducible refine LeO.bind ?_ (fun _ => ?_))
      | exact ih0 _ _ _ _
      | exact ih1 _ _ _ _ _
      | exact spec_l23Next.mono _ _ _
      | exact spec_l23State.mono _ _
      | exact LeO.none _
      | refine LeO.ite ?_ ?_
      | refine LeO.bind ?_ (fun _ => ?_)
set_option maxHeartbeats 8000000 in
set_option maxRecDepth 100000 in
theorem spec_NextKinds.calls (k : Nat) (A0 : Option Addr) (c0 : Nat) (l0 : List (S61)) (r1 : List Int) (r2 : Bool) (w : World) (hr0 : Kd.C k61 w A0 l0.length l0) (hc0 : l0.length ≤ c0) (h : spec_NextKinds.f k l0 = some (r1, r2)) :
    Calls Try.prog 9 #[.slice A0 l0.length c0] w fun e w' => ∃ v0_ : Value, e = .returned (.tuple #[v0_, .bool r2]) ∧ Kd.R (Kd.int .i64) 3 w' w.heap.size (fun _ => True) v0_ r1 ∧ Below w.heap.size w w' := by
  have HR0 := Aside0.mk hr0
  have HC0 := Aside0.mk hc0
  clear hr0 hc0
  have HB := Aside0.mk (Below.refl w.heap.size w)
  have H : ((some (([] : List Int) : List Int)).bind fun y107 => ((spec_l23State.f k l0).bind fun t110 => (if t110 < 0 then (some (y107, false)) else (spec_NextKinds.l0 k l0 y107 t110 1)))) = some (r1, r2) := h
  clear h
  obtain ⟨y107, hy107⟩ : ∃ y_ : List Int, y_ = (([] : List Int)) := ⟨_, rfl⟩
  replace H : ((spec_l23State.f k l0).bind fun t110 => (if t110 < 0 then (some (y107, false)) else (spec_NextKinds.l0 k l0 y107 t110 1))) = some (r1, r2) := by first | (rw [hy107]; with_reducible exact H) | (have H2_ := (Option.bind_some _ _).symm.trans H; rw [hy107]; with_reducible exact H2_) | (have H2_ := (Option.bind_some _ _).symm.trans H; with_reducible exact H2_) | with_reducible exact H | (rw [hy107]; exact H) | exact H
  have Ny107 := Aside0.mk hy107
  clear hy107
  replace H := Option.bind_eq_some_iff.mp H
  obtain ⟨t110, A20, H⟩ := H
  replace H : (if t110 < 0 then (some (y107, false)) else (spec_NextKinds.l0 k l0 y107 t110 1)) = some (r1, r2) := H
  have A2 := Aside0.mk A20
  clear A20
  by_cases c3 : t110 < 0
  · rw [if_pos c3] at H
    have c3b0 : decide (t110 < 0) = true := decide_eq_true c3
    clear c3
    simp only [Option.some.injEq, Prod.mk.injEq] at H
    obtain ⟨rfl, rfl⟩ := H
    go_enter Try.func9, Try.ntmps9
    go_wp2_with (first | ((with_reducible refine gate_dst (N := 7) rfl ?_); (try (refine gate_guard (by rfl) ?_; dsimp only)); refine Kd.R_lit (Kd.int .i64) _ 3 ?hg (N := 7) ?hd (xs := ([] : List Int)) (inner := []) (ok := fun _ => True) (okp := fun _ => True) ?hr ?hp (fun _ hk => hk) trivial (Below.refl _ _) (Nat.le_refl _) (by simp) ?_; (case hd => rfl); (case hg => rfl); (case hr => first | (go_simp; done) | (go_simp; rfl)); (case hp => exact (Reps.none _ _)); intro v108 w4 ho5 hb hg_ hnew_; clear hg_ hnew_; (first | rw [← Ny107.out] at ho5 | (simp only [Int.reduceToNat] at ho5; rw [← Ny107.out] at ho5)); have n0_ := Aside0.mk (Kd.R_lower ho5 (below_size (by repeat (first | (with_reducible first | exact HB.out | apply below_alloc | apply pw_below_drewN | apply below_drew1) | exact HB.out)))); have n1_ := Aside0.mk (below_step (by repeat (first | (with_reducible first | exact HB.out | apply below_alloc | apply pw_below_drewN | apply below_drew1) | exact HB.out)) hb); clear HB; have HO109 := n0_; have HB := n1_; clear n0_ n1_; clear hb ho5) | ((with_reducible refine gate_callee (f := 34) rfl ?_); refine goesL_ (some 9) rfl rfl Try.func34 (by kernel_rfl) rfl #[.slice A0 l0.length c0] rfl (by (try simp only [List.map_toArray, List.map_cons, List.map_nil]); first | done | rfl | (simp only [List.length_drop, List.length_take]; rfl)) ?_; (with_reducible refine (spec_l23State.calls k _ _ l0 t110 _ ?side1 ?side2 A2.out).mono ?_); (case side1 => repeat (first | exact (Kd.C_below HR0.out HB.out) | (with_reducible refine Kd.C_alloc ?_ _) | (with_reducible refine Kd.C_drewN ?_ _) | (with_reducible refine Kd.C_drew ?_))); (case side2 => exact HC0.out); rintro e w' ⟨rfl, ⟨nd, rfl⟩⟩; refine ⟨_, rfl, ?_⟩))
    go_ret2
    exact ⟨_, by first | rfl | (simp [errW_none, errW_some] <;> rfl) | (simp [*, errW_none, errW_some] <;> rfl), by (with_reducible repeat (first | apply Kd.R_alloc | apply Kd.R_drewN | apply Kd.R_drew)); exact HO109.out, by repeat (first | (with_reducible first | exact HB.out | apply below_alloc | apply pw_below_drewN | apply below_drew1) | exact HB.out)⟩
  · rw [if_neg c3] at H
    have c3b0 : decide (t110 < 0) = false := decide_eq_false c3
    clear c3
    have H' := Aside0.mk H
    clear H
    go_enter Try.func9, Try.ntmps9
    go_wp2_with (first | ((with_reducible refine gate_dst (N := 7) rfl ?_); (try (refine gate_guard (by rfl) ?_; dsimp only)); refine Kd.R_lit (Kd.int .i64) _ 3 ?hg (N := 7) ?hd (xs := ([] : List Int)) (inner := []) (ok := fun _ => True) (okp := fun _ => True) ?hr ?hp (fun _ hk => hk) trivial (Below.refl _ _) (Nat.le_refl _) (by simp) ?_; (case hd => rfl); (case hg => rfl); (case hr => first | (go_simp; done) | (go_simp; rfl)); (case hp => exact (Reps.none _ _)); intro v108 w6 ho7 hb hg_ hnew_; clear hg_ hnew_; (first | rw [← Ny107.out] at ho7 | (simp only [Int.reduceToNat] at ho7; rw [← Ny107.out] at ho7)); have n0_ := Aside0.mk (Kd.R_lower ho7 (below_size (by repeat (first | (with_reducible first | exact HB.out | apply below_alloc | apply pw_below_drewN | apply below_drew1) | exact HB.out)))); have n1_ := Aside0.mk (below_step (by repeat (first | (with_reducible first | exact HB.out | apply below_alloc | apply pw_below_drewN | apply below_drew1) | exact HB.out)) hb); clear HB; have HO109 := n0_; have HB := n1_; clear n0_ n1_; clear hb ho7) | ((with_reducible refine gate_callee (f := 34) rfl ?_); refine goesL_ (some 9) rfl rfl Try.func34 (by kernel_rfl) rfl #[.slice A0 l0.length c0] rfl (by (try simp only [List.map_toArray, List.map_cons, List.map_nil]); first | done | rfl | (simp only [List.length_drop, List.length_take]; rfl)) ?_; (with_reducible refine (spec_l23State.calls k _ _ l0 t110 _ ?side1 ?side2 A2.out).mono ?_); (case side1 => repeat (first | exact (Kd.C_below HR0.out HB.out) | (with_reducible refine Kd.C_alloc ?_ _) | (with_reducible refine Kd.C_drewN ?_ _) | (with_reducible refine Kd.C_drew ?_))); (case side2 => exact HC0.out); rintro e w' ⟨rfl, ⟨nd, rfl⟩⟩; refine ⟨_, rfl, ?_⟩))
    go_loopg [4, 6] k (fun kq v4 v6 w' => ∃ (x4_1 : List Int) (x6_1 : Int), v6 = .int .i64 x6_1 ∧ Aside0 (spec_NextKinds.l0 kq l0 x4_1 t110 x6_1 = some (r1, r2)) ∧ Aside0 (kq ≤ k) ∧ Aside0 (Kd.R (Kd.int .i64) 3 w' w.heap.size (fun _ => True) v4 x4_1) ∧ Aside0 (Below w.heap.size w w'))
    case atStart => exact ⟨(y107), (1), (by first | rfl | (simp; done) | (simp [*]; done)), H', ⟨Nat.le_refl _⟩, ⟨by (with_reducible repeat (first | apply Kd.R_alloc | apply Kd.R_drewN | apply Kd.R_drew)); exact HO109.out⟩, ⟨by repeat (first | (with_reducible first | exact HB.out | apply below_alloc | apply pw_below_drewN | apply below_drew1) | exact HB.out)⟩⟩
    case round =>
      clear H'
      try clear p2
      try clear c3
      try clear c3b0
      obtain ⟨x4_1, x6_1, rfl, HA, HK1, HO_4, HB⟩ := hrel
      cases gk with
      | zero => exact absurd HA.out (by simp [spec_NextKinds.l0])
      | succ k1 =>
        have H := HA.out
        clear HA
        simp only [spec_NextKinds.l0] at H
        have HC8 := Aside0.mk H
        clear H
        go_upto_region 6 with (fail)
        go_cut [19] (fun v19 wc => ∃ (kq : Nat) (x19_7 : Bool), v19 = .bool x19_7 ∧ Aside0 (spec_NextKinds.j1 kq l0 x4_1 t110 x6_1 x19_7 = some (r1, r2)) ∧ Aside0 (kq ≤ k1) ∧ Aside0 (Kd.R (Kd.int .i64) 3 wc w.heap.size (fun _ => True) u4 x4_1) ∧ Aside0 (Below w.heap.size w wc))
        case first =>
          have H := HC8.out
          clear HC8
          by_cases c9 : x6_1 ≤ 6
          · rw [if_pos c9] at H
            have c9b0 : decide (x6_1 ≤ 6) = true := decide_eq_true c9
            clear c9
            (first | rw [c9b0] | (simp only [i64_w, i32_w]; rw [c9b0]) | skip)
            have H' := Aside0.mk H
            clear H
            go_wp2
            go_meet
            case rel => exact ⟨_, (decide ((l0.length : Int) < 20)), (by first | rfl | (simp; done) | (simp [*]; done)), H', ⟨by have := HK1.out; first | omega | exact Nat.le_refl _⟩, ⟨by (with_reducible repeat (first | apply Kd.R_alloc | apply Kd.R_drewN | apply Kd.R_drew)); exact HO_4.out⟩, ⟨by repeat (first | (with_reducible first | exact HB.out | apply below_alloc | apply pw_below_drewN | apply below_drew1) | exact HB.out)⟩⟩
          · rw [if_neg c9] at H
            have c9b0 : decide (x6_1 ≤ 6) = false := decide_eq_false c9
            clear c9
            (first | rw [c9b0] | (simp only [i64_w, i32_w]; rw [c9b0]) | skip)
            have H' := Aside0.mk H
            clear H
            go_wp2
            go_meet
            case rel => exact ⟨_, (false), (by first | rfl | (simp; done) | (simp [*]; done)), H', ⟨by have := HK1.out; first | omega | exact Nat.le_refl _⟩, ⟨by (with_reducible repeat (first | apply Kd.R_alloc | apply Kd.R_drewN | apply Kd.R_drew)); exact HO_4.out⟩, ⟨by repeat (first | (with_reducible first | exact HB.out | apply below_alloc | apply pw_below_drewN | apply below_drew1) | exact HB.out)⟩⟩
        case rest =>
          clear HC8
          try clear p2
          try clear c3
          try clear c3b0
          try clear c9
          try clear c9b0
          try clear p2
          obtain ⟨kq, x19_7, rfl, HA, HJ7, HO_4, HB⟩ := hcut
          cases kq with
          | zero => exact absurd HA.out (by simp [spec_NextKinds.j1])
          | succ kj7 =>
            have H := HA.out
            clear HA
            simp only [spec_NextKinds.j1] at H
            by_cases c10 : x19_7 = true
            · subst c10
              have H1 : ((spec_l23Next.f kj7 t110 x6_1).bind fun t111 => (if t111 ≥ 0 then (if x4_1.length < 17592186044416 then (spec_NextKinds.l0 kj7 l0 (x4_1 ++ [x6_1]) t110 (wrap64 (x6_1 + 1))) else (none)) else (spec_NextKinds.l0 kj7 l0 x4_1 t110 (wrap64 (x6_1 + 1))))) = some (r1, r2) := by rw [if_pos rfl] at H; exact H
              clear H
              have H := H1
              clear H1
              replace H := Option.bind_eq_some_iff.mp H
              obtain ⟨t111, A110, H⟩ := H
              replace H : (if t111 ≥ 0 then (if x4_1.length < 17592186044416 then (spec_NextKinds.l0 kj7 l0 (x4_1 ++ [x6_1]) t110 (wrap64 (x6_1 + 1))) else (none)) else (spec_NextKinds.l0 kj7 l0 x4_1 t110 (wrap64 (x6_1 + 1)))) = some (r1, r2) := H
              have A11 := Aside0.mk A110
              clear A110
              by_cases c12 : t111 ≥ 0
              · rw [if_pos c12] at H
                have c12b0 : decide (0 ≤ t111) = true := decide_eq_true c12
                clear c12
                by_cases c13 : x4_1.length < 17592186044416
                · rw [if_pos c13] at H
                  have LMc13 := Aside0.mk c13
                  clear c13
                  obtain ⟨y112, hy112⟩ : ∃ y_ : List Int, y_ = (x4_1 ++ [x6_1]) := ⟨_, rfl⟩
                  replace H : (spec_NextKinds.l0 kj7 l0 y112 t110 (wrap64 (x6_1 + 1))) = some (r1, r2) := by first | (rw [hy112]; with_reducible exact H) | (have H2_ := (Option.bind_some _ _).symm.trans H; rw [hy112]; with_reducible exact H2_) | (have H2_ := (Option.bind_some _ _).symm.trans H; with_reducible exact H2_) | with_reducible exact H | (rw [hy112]; exact H) | exact H
                  have Ny112 := Aside0.mk hy112
                  clear hy112
                  have H' := Aside0.mk H
                  clear H
                  go_wp2_with (first | ((with_reducible refine gate_callee (f := 35) rfl ?_); refine goesL_ (some 24) rfl rfl Try.func35 (by kernel_rfl) rfl #[.int .i64 t110, .int .i64 x6_1] rfl (by (try simp only [List.map_toArray, List.map_cons, List.map_nil]); first | done | rfl | (simp only [List.length_drop, List.length_take]; rfl)) ?_; (with_reducible refine (spec_l23Next.calls kj7 t110 x6_1 t111 _ A11.out).mono ?_); rintro e w' ⟨rfl, ⟨nd, rfl⟩⟩; refine ⟨_, rfl, ?_⟩) | ((with_reducible refine gate_builtin (b := .append) (xs := #[.tmp 26, .tmp 28]) rfl ?_); (try (refine gate_guard (by rfl) ?_; dsimp only)); at_builtin; refine Kd.R_append (Kd.int .i64) (w0 := w) w.heap.size rfl (.tmp 26) (.tmp 28) 24 3 (.int .i64 0) 8 rfl Try.underlying24 info3 rfl (by decide) (by omega) u4 x4_1 x6_1 [.int .i64 x6_1] (fun _ => True) (fun _ => False) rfl rfl ?aP (fun _ hk => hk.elim) ?aF ?aO ?aB ?aS ?aL ?_; (case aP => exact rfl); (case aB => exact (by repeat (first | (with_reducible first | exact HB.out | apply below_alloc | apply pw_below_drewN | apply below_drew1) | exact HB.out))); (case aF => exact (fun _ _ => trivial)); (case aO => exact (by (with_reducible repeat (first | apply Kd.R_alloc | apply Kd.R_drewN | apply Kd.R_drew)); exact HO_4.out)); (case aS => exact (below_size (by repeat (first | (with_reducible first | exact HB.out | apply below_alloc | apply pw_below_drewN | apply below_drew1) | exact HB.out)))); (case aL => have := LMc13.out; omega); intro v113 w14 ho hb hg hat; rw [← Ny112.out] at ho; have n0_ := Aside0.mk (hb); have n1_ := Aside0.mk (ho); clear HB; clear HO_4; have HB := n0_; have HO114 := n1_; clear n0_ n1_; clear ho hb hg hat))
                  go_roundg kj7
                  case measure => have := HK1.out; have := HJ7.out; omega
                  case rel => exact ⟨(y112), (wrap64 (x6_1 + 1)), (by first | rfl | (simp; done) | (simp [*]; done)), H', ⟨by have := HK1.out; have := HJ7.out; omega⟩, ⟨by (with_reducible repeat (first | apply Kd.R_alloc | apply Kd.R_drewN | apply Kd.R_drew)); exact HO114.out⟩, ⟨by repeat (first | (with_reducible first | exact HB.out | apply below_alloc | apply pw_below_drewN | apply below_drew1) | exact HB.out)⟩⟩
                · rw [if_neg c13] at H
                  exact absurd H (by simp)
              · rw [if_neg c12] at H
                have c12b0 : decide (0 ≤ t111) = false := decide_eq_false c12
                clear c12
                have H' := Aside0.mk H
                clear H
                go_wp2_with (first | ((with_reducible refine gate_callee (f := 35) rfl ?_); refine goesL_ (some 24) rfl rfl Try.func35 (by kernel_rfl) rfl #[.int .i64 t110, .int .i64 x6_1] rfl (by (try simp only [List.map_toArray, List.map_cons, List.map_nil]); first | done | rfl | (simp only [List.length_drop, List.length_take]; rfl)) ?_; (with_reducible refine (spec_l23Next.calls kj7 t110 x6_1 t111 _ A11.out).mono ?_); rintro e w' ⟨rfl, ⟨nd, rfl⟩⟩; refine ⟨_, rfl, ?_⟩))
                go_roundg kj7
                case measure => have := HK1.out; have := HJ7.out; omega
                case rel => exact ⟨(x4_1), (wrap64 (x6_1 + 1)), (by first | rfl | (simp; done) | (simp [*]; done)), H', ⟨by have := HK1.out; have := HJ7.out; omega⟩, ⟨by (with_reducible repeat (first | apply Kd.R_alloc | apply Kd.R_drewN | apply Kd.R_drew)); exact HO_4.out⟩, ⟨by repeat (first | (with_reducible first | exact HB.out | apply below_alloc | apply pw_below_drewN | apply below_drew1) | exact HB.out)⟩⟩
            · replace c10 := Bool.eq_false_iff.mpr c10
              subst c10
              have H1 : (some (x4_1, true)) = some (r1, r2) := by rw [if_neg (show ¬ (false = true) by decide)] at H; exact H
              clear H
              have H := H1
              clear H1
              simp only [Option.some.injEq, Prod.mk.injEq] at H
              obtain ⟨rfl, rfl⟩ := H
              go_wp2
              go_ret2
              exact ⟨_, by first | rfl | (simp [errW_none, errW_some] <;> rfl) | (simp [*, errW_none, errW_some] <;> rfl), by (with_reducible repeat (first | apply Kd.R_alloc | apply Kd.R_drewN | apply Kd.R_drew)); exact HO_4.out, by repeat (first | (with_reducible first | exact HB.out | apply below_alloc | apply pw_below_drewN | apply below_drew1) | exact HB.out)⟩

end Go.Proofs.Ytpalafegcndccaa.X

-- written by a program of this session (wip/ext.py) out of the translation. Not trusted: Lean checks it.
namespace Go.Proofs.Ytpalafegcndccaa.X
open Go.RowKit Go.Proofs.YtpalafegcndccaaW.PrintWords Go.Proofs.YtpalafegcndccaaW.PrintLast Go.Proofs.YtpalafegcndccaaW.PrintMore
attribute [local go_sem] max2_int min2_int max_two min_two max_three min_three max_four min_four   -- for this text's walks alone
set_option linter.unusedVariables false
set_option linter.unusedSimpArgs false

/-! ### laws_FnExactNextKinds: function 3 -/
mutual
def laws_FnExactNextKinds.j0 : Nat → List (S63) → List Int → Bool → List (S61) → List Int → Bool → Bool → Option (Bool)
  | 0, _, _, _, _, _, _, _ => none
  | k + 1, x0, x4, x5, x6, x7, x8, x40 => if x40 = true then (some false) else ((laws_toEventS.f k x0).bind fun t168 => ((laws_eqEventS.f k x6 t168).bind fun t171 => (if t171 = true then ((laws_markEventS.f k x6 1).bind fun bt172 => (if bt172.1 < 0 then (laws_FnExactNextKinds.j1 k x0 x4 x5 x7 true) else ((laws_eqIntS.f k x7 x4).bind fun t174 => (if t174 = true then (laws_FnExactNextKinds.j1 k x0 x4 x5 x7 (x8 != x5)) else (laws_FnExactNextKinds.j1 k x0 x4 x5 x7 true))))) else (some false))))
def laws_FnExactNextKinds.j1 : Nat → List (S63) → List Int → Bool → List Int → Bool → Option (Bool)
  | 0, _, _, _, _, _ => none
  | k + 1, x0, x4, x5, x7, x61 => if x61 = true then (some false) else ((laws_markIntS.f k x7 1).bind fun bt175 => ((laws_heldIntS.f k bt175.2 1).bind fun t177 => (if t177 < 0 then (some false) else (if t177 = bt175.1 then ((laws_toEventS.f k x0).bind fun t178 => ((impl_NextKinds.f k t178).bind fun bt181 => ((laws_eqIntS.f k bt181.1 x4).bind fun t185 => (if t185 = true then (laws_FnExactNextKinds.j2 k bt175.2 bt175.1 (bt181.2 != x5)) else (laws_FnExactNextKinds.j2 k bt175.2 bt175.1 true))))) else (some false)))))
def laws_FnExactNextKinds.j2 : Nat → List Int → Int → Bool → Option (Bool)
  | 0, _, _, _ => none
  | k + 1, x7, x10, x87 => if x87 = true then (some false) else ((laws_heldIntS.f k x7 1).bind fun t186 => (if t186 < 0 then (some false) else (if t186 = x10 then (some true) else (some false))))
end
def laws_FnExactNextKinds.f (k : Nat) (l0 : List (S63)) : Option (Bool) := (laws_szEventS.f l0 1048576).bind fun t152 => (if t152 < 0 then (some true) else ((laws_toEventS.f k l0).bind fun t153 => ((spec_NextKinds.f k t153).bind fun bt156 => ((laws_toEventS.f k l0).bind fun t160 => ((impl_NextKinds.f k t160).bind fun bt163 => ((laws_eqIntS.f k bt163.1 bt156.1).bind fun t167 => (if t167 = true then (laws_FnExactNextKinds.j0 k l0 bt156.1 bt156.2 t160 bt163.1 bt163.2 (bt163.2 != bt156.2)) else (laws_FnExactNextKinds.j0 k l0 bt156.1 bt156.2 t160 bt163.1 bt163.2 true))))))))
theorem laws_FnExactNextKinds.mono_l : ∀ k, (∀ y0 y1 y2 y3 y4 y5 y6, LeO (laws_FnExactNextKinds.j0 k y0 y1 y2 y3 y4 y5 y6) (laws_FnExactNextKinds.j0 (k + 1) y0 y1 y2 y3 y4 y5 y6)) ∧ (∀ y0 y1 y2 y3 y4, LeO (laws_FnExactNextKinds.j1 k y0 y1 y2 y3 y4) (laws_FnExactNextKinds.j1 (k + 1) y0 y1 y2 y3 y4)) ∧ (∀ y0 y1 y2, LeO (laws_FnExactNextKinds.j2 k y0 y1 y2) (laws_FnExactNextKinds.j2 (k + 1) y0 y1 y2))
  | 0 => ⟨fun _ _ _ _ _ _ _ r h => by simp [laws_FnExactNextKinds.j0] at h, fun _ _ _ _ _ r h => by simp [laws_FnExactNextKinds.j1] at h, fun _ _ _ r h => by simp [laws_FnExactNextKinds.j2] at h⟩
  | k + 1 => by
    obtain ⟨ih0, ih1, ih2⟩ := laws_FnExactNextKinds.mono_l k
    refine ⟨?_, ?_, ?_⟩
    · intro y0 y1 y2 y3 y4 y5 y6
      unfold laws_FnExactNextKinds.j0
      repeat' first
      | (with_reducible exact ih0 _ _ _ _ _ _ _)
      | (with_reducible exact ih1 _ _ _ _ _)
      | (with_reducible exact ih2 _ _ _)
      | (with_reducible exact impl_NextKinds.mono _ _)
      | (with_reducible exact laws_eqEventS.mono _ _ _)
      | (with_reducible exact laws_eqIntS.mono _ _ _)
      | (with_reducible exact laws_heldIntS.mono _ _ _)
      | (with_reducible exact laws_markEventS.mono _ _ _)
      | (with_reducible exact laws_markIntS.mono _ _ _)
      | (with_reducible exact laws_toEventS.mono _ _)
      | (with_reducible exact spec_NextKinds.mono _ _)
      | (with_reducible exact LeO.refl _)
      | (with_reducible exact LeO.none _)
      | (with_reducible refine LeO.ite ?_ ?_)
      | (with_reducible refine LeO.bind ?_ (fun _ => ?_))
      | exact ih0 _ _ _ _ _ _ _
      | exact ih1 _ _ _ _ _
      | exact ih2 _ _ _
      | exact impl_NextKinds.mono _ _
      | exact laws_eqEventS.mono _ _ _
      | exact laws_eqIntS.mono _ _ _
      | exact laws_heldIntS.mono _ _ _
      | exact laws_markEventS.mono _ _ _
      | exact laws_markIntS.mono _ _ _
      | exact laws_toEventS.mono _ _
      | exact spec_NextKinds.mono _ _
      | exact LeO.none _
      | refine LeO.ite ?_ ?_
      | refine LeO.bind ?_ (fun _ => ?_)
    · intro y0 y1 y2 y3 y4
      unfold laws_FnExactNextKinds.j1
      repeat' first
      | (with_reducible exact ih0 _ _ _ _ _ _ _)
      | (with_reducible exact ih1 _ _ _ _ _)
      | (with_reducible exact ih2 _ _ _)
      | (with_reducible exact impl_NextKinds.mono _ _)
      | (with_reducible exact laws_eqEventS.mono _ _ _)
      | (with_reducible exact laws_eqIntS.mono _ _ _)
      | (with_reducible exact laws_heldIntS.mono _ _ _)
      | (with_reducible exact laws_markEventS.mono _ _ _)
      | (with_reducible exact laws_markIntS.mono _ _ _)
      | (with_reducible exact laws_toEventS.mono _ _)
      | (with_reducible exact spec_NextKinds.mono _ _)
      | (with_reducible exact LeO.refl _)
      | (with_reducible exact LeO.none _)
      | (with_reducible refine LeO.ite ?_ ?_)
      | (with_reducible refine LeO.bind ?_ (fun _ => ?_))
      | exact ih0 _ _ _ _ _ _ _
      | exact ih1 _ _ _ _ _
      | exact ih2 _ _ _
      | exact impl_NextKinds.mono _ _
      | exact laws_eqEventS.mono _ _ _
      | exact laws_eqIntS.mono _ _ _
      | exact laws_heldIntS.mono _ _ _
      | exact laws_markEventS.mono _ _ _
      | exact laws_markIntS.mono _ _ _
      | exact laws_toEventS.mono _ _
      | exact spec_NextKinds.mono _ _
      | exact LeO.none _
      | refine LeO.ite ?_ ?_
      | refine LeO.bind ?_ (fun _ => ?_)
    · intro y0 y1 y2
      unfold laws_FnExactNextKinds.j2
      repeat' first
      | (with_reducible exact ih0 _ _ _ _ _ _ _)
      | (with_reducible exact ih1 _ _ _ _ _)
      | (with_reducible exact ih2 _ _ _)
      | (with_reducible exact impl_NextKinds.mono _ _)
      | (with_reducible exact laws_eqEventS.mono _ _ _)
      | (with_reducible exact laws_eqIntS.mono _ _ _)
      | (with_reducible exact laws_heldIntS.mono _ _ _)
      | (with_reducible exact laws_markEventS.mono _ _ _)
      | (with_reducible exact laws_markIntS.mono _ _ _)
      | (with_reducible exact laws_toEventS.mono _ _)
      | (with_reducible exact spec_NextKinds.mono _ _)
      | (with_reducible exact LeO.refl _)
      | (with_reducible exact LeO.none _)
      | (with_reducible refine LeO.ite ?_ ?_)
      | (with_reducible refine LeO.bind ?_ (fun _ => ?_))
      | exact ih0 _ _ _ _ _ _ _
      | exact ih1 _ _ _ _ _
      | exact ih2 _ _ _
      | exact impl_NextKinds.mono _ _
      | exact laws_eqEventS.mono _ _ _
      | exact laws_eqIntS.mono _ _ _
      | exact laws_heldIntS.mono _ _ _
      | exact laws_markEventS.mono _ _ _
      | exact laws_markIntS.mono _ _ _
      | exact laws_toEventS.mono _ _
      | exact spec_NextKinds.mono _ _
      | exact LeO.none _
      | refine LeO.ite ?_ ?_
      | refine LeO.bind ?_ (fun _ => ?_)
theorem laws_FnExactNextKinds.mono : ∀ a0 k, LeO (laws_FnExactNextKinds.f k a0) (laws_FnExactNextKinds.f (k + 1) a0) := by
  intro a0 k
  obtain ⟨ih0, ih1, ih2⟩ := laws_FnExactNextKinds.mono_l k
  unfold laws_FnExactNextKinds.f
  repeat' first
      | (with_reducible exact ih0 _ _ _ _ _ _ _)
      | (with_reducible exact ih1 _ _ _ _ _)
      | (with_reducible exact ih2 _ _ _)
      | (with_reducible exact impl_NextKinds.mono _ _)
      | (with_reducible exact laws_eqEventS.mono _ _ _)
      | (with_reducible exact laws_eqIntS.mono _ _ _)
      | (with_reducible exact laws_heldIntS.mono _ _ _)
      | (with_reducible exact laws_markEventS.mono _ _ _)
      | (with_reducible exact laws_markIntS.mono _ _ _)
      | (with_reducible exact laws_toEventS.mono _ _)
      | (with_reducible exact spec_NextKinds.mono _ _)
      | (with_reducible exact LeO.refl _)
      | (with_reducible exact LeO.none _)
      | (with_reducible refine LeO.ite ?_ ?_)
      | (with_reducible refine LeO.bind ?_ (fun _ => ?_))
      | exact ih0 _ _ _ _ _ _ _
      | exact ih1 _ _ _ _ _
      | exact ih2 _ _ _
      | exact impl_NextKinds.mono _ _
      | exact laws_eqEventS.mono _ _ _
      | exact laws_eqIntS.mono _ _ _
      | exact laws_heldIntS.mono _ _ _
      | exact laws_markEventS.mono _ _ _
      | exact laws_markIntS.mono _ _ _
      | exact laws_toEventS.mono _ _
      | exact spec_NextKinds.mono _ _
      | exact LeO.none _
      | refine LeO.ite ?_ ?_
      | refine LeO.bind ?_ (fun _ => ?_)
set_option maxHeartbeats 8000000 in
set_option maxRecDepth 100000 in
theorem laws_FnExactNextKinds.calls (k : Nat) (A0 : Option Addr) (c0 : Nat) (l0 : List (S63)) (r : Bool) (w : World) (hr0 : Kd.C k63 w A0 l0.length l0) (hc0 : l0.length ≤ c0) (h : laws_FnExactNextKinds.f k l0 = some r) :
    Calls Try.prog 3 #[.slice A0 l0.length c0] w fun e w' => e = .returned (.bool r) ∧ Below w.heap.size w w' := by
  have HR0 := Aside0.mk hr0
  have HC0 := Aside0.mk hc0
  clear hr0 hc0
  have HB := Aside0.mk (Below.refl w.heap.size w)
  have H : ((laws_szEventS.f l0 1048576).bind fun t152 => (if t152 < 0 then (some true) else ((laws_toEventS.f k l0).bind fun t153 => ((spec_NextKinds.f k t153).bind fun bt156 => ((laws_toEventS.f k l0).bind fun t160 => ((impl_NextKinds.f k t160).bind fun bt163 => ((laws_eqIntS.f k bt163.1 bt156.1).bind fun t167 => (if t167 = true then (laws_FnExactNextKinds.j0 k l0 bt156.1 bt156.2 t160 bt163.1 bt163.2 (bt163.2 != bt156.2)) else (laws_FnExactNextKinds.j0 k l0 bt156.1 bt156.2 t160 bt163.1 bt163.2 true))))))))) = some r := h
  clear h
  replace H := Option.bind_eq_some_iff.mp H
  obtain ⟨t152, A20, H⟩ := H
  replace H : (if t152 < 0 then (some true) else ((laws_toEventS.f k l0).bind fun t153 => ((spec_NextKinds.f k t153).bind fun bt156 => ((laws_toEventS.f k l0).bind fun t160 => ((impl_NextKinds.f k t160).bind fun bt163 => ((laws_eqIntS.f k bt163.1 bt156.1).bind fun t167 => (if t167 = true then (laws_FnExactNextKinds.j0 k l0 bt156.1 bt156.2 t160 bt163.1 bt163.2 (bt163.2 != bt156.2)) else (laws_FnExactNextKinds.j0 k l0 bt156.1 bt156.2 t160 bt163.1 bt163.2 true)))))))) = some r := H
  have A2 := Aside0.mk A20
  clear A20
  by_cases c3 : t152 < 0
  · rw [if_pos c3] at H
    have c3b0 : decide (t152 < 0) = true := decide_eq_true c3
    clear c3
    obtain rfl := Option.some.inj H
    go_enter Try.func3, Try.ntmps3
    go_wp2_with (first | ((with_reducible refine gate_callee (f := 8) rfl ?_); refine goesL_ (some 16) rfl rfl Try.func8 (by kernel_rfl) rfl #[.slice A0 l0.length c0, .int .i64 1048576] rfl (by (try simp only [List.map_toArray, List.map_cons, List.map_nil]); first | done | rfl | (simp only [List.length_drop, List.length_take]; rfl)) ?_; (with_reducible refine (laws_szEventS.calls _ _ l0 1048576 t152 _ ?side1 ?side2 A2.out).mono ?_); (case side1 => repeat (first | exact HR0.out | (with_reducible refine Kd.C_alloc ?_ _) | (with_reducible refine Kd.C_drewN ?_ _) | (with_reducible refine Kd.C_drew ?_))); (case side2 => exact HC0.out); rintro e w' ⟨rfl, ⟨nd, rfl⟩⟩; refine ⟨_, rfl, ?_⟩))
    go_ret
    exact ⟨by first | rfl | (simp [errW_none, errW_some] <;> rfl) | (simp [*, errW_none, errW_some] <;> rfl), by repeat (first | (with_reducible first | exact HB.out | apply below_alloc | apply pw_below_drewN | apply below_drew1) | exact HB.out)⟩
  · rw [if_neg c3] at H
    have c3b0 : decide (t152 < 0) = false := decide_eq_false c3
    clear c3
    replace H := Option.bind_eq_some_iff.mp H
    obtain ⟨t153, A40, H⟩ := H
    replace H : ((spec_NextKinds.f k t153).bind fun bt156 => ((laws_toEventS.f k l0).bind fun t160 => ((impl_NextKinds.f k t160).bind fun bt163 => ((laws_eqIntS.f k bt163.1 bt156.1).bind fun t167 => (if t167 = true then (laws_FnExactNextKinds.j0 k l0 bt156.1 bt156.2 t160 bt163.1 bt163.2 (bt163.2 != bt156.2)) else (laws_FnExactNextKinds.j0 k l0 bt156.1 bt156.2 t160 bt163.1 bt163.2 true)))))) = some r := H
    have A4 := Aside0.mk A40
    clear A40
    replace H := Option.bind_eq_some_iff.mp H
    obtain ⟨⟨t156, t157⟩, A50, H⟩ := H
    replace H : ((laws_toEventS.f k l0).bind fun t160 => ((impl_NextKinds.f k t160).bind fun bt163 => ((laws_eqIntS.f k bt163.1 t156).bind fun t167 => (if t167 = true then (laws_FnExactNextKinds.j0 k l0 t156 t157 t160 bt163.1 bt163.2 (bt163.2 != t157)) else (laws_FnExactNextKinds.j0 k l0 t156 t157 t160 bt163.1 bt163.2 true))))) = some r := H
    have A5 := Aside0.mk A50
    clear A50
    replace H := Option.bind_eq_some_iff.mp H
    obtain ⟨t160, A60, H⟩ := H
    replace H : ((impl_NextKinds.f k t160).bind fun bt163 => ((laws_eqIntS.f k bt163.1 t156).bind fun t167 => (if t167 = true then (laws_FnExactNextKinds.j0 k l0 t156 t157 t160 bt163.1 bt163.2 (bt163.2 != t157)) else (laws_FnExactNextKinds.j0 k l0 t156 t157 t160 bt163.1 bt163.2 true)))) = some r := H
    have A6 := Aside0.mk A60
    clear A60
    replace H := Option.bind_eq_some_iff.mp H
    obtain ⟨⟨t163, t164⟩, A70, H⟩ := H
    replace H : ((laws_eqIntS.f k t163 t156).bind fun t167 => (if t167 = true then (laws_FnExactNextKinds.j0 k l0 t156 t157 t160 t163 t164 (t164 != t157)) else (laws_FnExactNextKinds.j0 k l0 t156 t157 t160 t163 t164 true))) = some r := H
    have A7 := Aside0.mk A70
    clear A70
    have HC8 := Aside0.mk H
    clear H
    go_enter Try.func3, Try.ntmps3
    go_upto_region 8 with (first | ((with_reducible refine gate_callee (f := 8) rfl ?_); refine goesL_ (some 16) rfl rfl Try.func8 (by kernel_rfl) rfl #[.slice A0 l0.length c0, .int .i64 1048576] rfl (by (try simp only [List.map_toArray, List.map_cons, List.map_nil]); first | done | rfl | (simp only [List.length_drop, List.length_take]; rfl)) ?_; (with_reducible refine (laws_szEventS.calls _ _ l0 1048576 t152 _ ?side1 ?side2 A2.out).mono ?_); (case side1 => repeat (first | exact HR0.out | (with_reducible refine Kd.C_alloc ?_ _) | (with_reducible refine Kd.C_drewN ?_ _) | (with_reducible refine Kd.C_drew ?_))); (case side2 => exact HC0.out); rintro e w' ⟨rfl, ⟨nd, rfl⟩⟩; refine ⟨_, rfl, ?_⟩) | ((with_reducible refine gate_callee (f := 10) rfl ?_); refine goesL_ (some 21) rfl rfl Try.func10 (by kernel_rfl) rfl #[.slice A0 l0.length c0] rfl (by (try simp only [List.map_toArray, List.map_cons, List.map_nil]); first | done | rfl | (simp only [List.length_drop, List.length_take]; rfl)) ?_; (with_reducible refine (laws_toEventS.calls k _ _ l0 t153 _ ?side1 ?side2 A4.out).mono ?_); (case side1 => repeat (first | exact HR0.out | (with_reducible refine Kd.C_alloc ?_ _) | (with_reducible refine Kd.C_drewN ?_ _) | (with_reducible refine Kd.C_drew ?_))); (case side2 => exact HC0.out); rintro e w9 ⟨v154, rfl, ho0, hb⟩; refine ⟨_, rfl, ?_⟩; have n0_ := Aside0.mk (Kd.R_lower ho0 (below_size (by repeat (first | (with_reducible first | exact HB.out | apply below_alloc | apply pw_below_drewN | apply below_drew1) | exact HB.out)))); have n1_ := Aside0.mk (below_step (by repeat (first | (with_reducible first | exact HB.out | apply below_alloc | apply pw_below_drewN | apply below_drew1) | exact HB.out)) hb); clear HB; have HO155 := n0_; have HB := n1_; clear n0_ n1_; (try clear hb); (try clear hb2); (try clear hk); (try clear hi); (try clear ho0); obtain ⟨Ao10, co10, eo10⟩ := Kd.R_slice HO155.out; subst eo10) | ((with_reducible refine gate_callee (f := 9) rfl ?_); refine goesL_ (some 22) rfl rfl Try.func9 (by kernel_rfl) rfl #[.slice Ao10 t153.length co10] rfl (by (try simp only [List.map_toArray, List.map_cons, List.map_nil]); first | done | rfl | (simp only [List.length_drop, List.length_take]; rfl)) ?_; (with_reducible refine (spec_NextKinds.calls k _ _ t153 t156 t157 _ ?side1 ?side2 A5.out).mono ?_); (case side1 => repeat (first | exact (Kd.R_reads' HO155.out).2.2 | (with_reducible refine Kd.C_alloc ?_ _) | (with_reducible refine Kd.C_drewN ?_ _) | (with_reducible refine Kd.C_drew ?_))); (case side2 => exact (Kd.R_reads' HO155.out).2.1); rintro e w11 ⟨v158, rfl, ho0, hb⟩; refine ⟨_, rfl, ?_⟩; have n0_ := Aside0.mk (Kd.R_below (by (with_reducible repeat (first | apply Kd.R_alloc | apply Kd.R_drewN | apply Kd.R_drew)); exact HO155.out) hb); have n1_ := Aside0.mk (Kd.R_lower ho0 (below_size (by repeat (first | (with_reducible first | exact HB.out | apply below_alloc | apply pw_below_drewN | apply below_drew1) | exact HB.out)))); have n2_ := Aside0.mk (below_step (by repeat (first | (with_reducible first | exact HB.out | apply below_alloc | apply pw_below_drewN | apply below_drew1) | exact HB.out)) hb); clear HO155; clear HB; have HO155 := n0_; have HO159 := n1_; have HB := n2_; clear n0_ n1_ n2_; (try clear hb); (try clear hb2); (try clear hk); (try clear hi); (try clear ho0)) | ((with_reducible refine gate_callee (f := 10) rfl ?_); refine goesL_ (some 26) rfl rfl Try.func10 (by kernel_rfl) rfl #[.slice A0 l0.length c0] rfl (by (try simp only [List.map_toArray, List.map_cons, List.map_nil]); first | done | rfl | (simp only [List.length_drop, List.length_take]; rfl)) ?_; (with_reducible refine (laws_toEventS.calls k _ _ l0 t160 _ ?side1 ?side2 A6.out).mono ?_); (case side1 => repeat (first | exact (Kd.C_below HR0.out HB.out) | (with_reducible refine Kd.C_alloc ?_ _) | (with_reducible refine Kd.C_drewN ?_ _) | (with_reducible refine Kd.C_drew ?_))); (case side2 => exact HC0.out); rintro e w12 ⟨v161, rfl, ho0, hb⟩; refine ⟨_, rfl, ?_⟩; have n0_ := Aside0.mk (Kd.R_elder' (by (with_reducible repeat (first | apply Kd.R_alloc | apply Kd.R_drewN | apply Kd.R_drew)); exact HO155.out) (Kd.R_base ho0) hb); have n1_ := Aside0.mk (Kd.R_below (by (with_reducible repeat (first | apply Kd.R_alloc | apply Kd.R_drewN | apply Kd.R_drew)); exact HO159.out) hb); have n2_ := Aside0.mk (Kd.R_lower (Kd.R_new' ho0 (Kd.R_lt (by (with_reducible repeat (first | apply Kd.R_alloc | apply Kd.R_drewN | apply Kd.R_drew)); exact HO155.out))) (below_size (by repeat (first | (with_reducible first | exact HB.out | apply below_alloc | apply pw_below_drewN | apply below_drew1) | exact HB.out)))); have n3_ := Aside0.mk (below_step (by repeat (first | (with_reducible first | exact HB.out | apply below_alloc | apply pw_below_drewN | apply below_drew1) | exact HB.out)) hb); clear HO155; clear HO159; clear HB; have HO155 := n0_; have HO159 := n1_; have HO162 := n2_; have HB := n3_; clear n0_ n1_ n2_ n3_; (try clear hb); (try clear hb2); (try clear hk); (try clear hi); (try clear ho0); obtain ⟨Ao13, co13, eo13⟩ := Kd.R_slice HO162.out; subst eo13) | ((with_reducible refine gate_callee (f := 11) rfl ?_); refine goesL_ (some 29) rfl rfl Try.func11 (by kernel_rfl) rfl #[.slice Ao13 t160.length co13] rfl (by (try simp only [List.map_toArray, List.map_cons, List.map_nil]); first | done | rfl | (simp only [List.length_drop, List.length_take]; rfl)) ?_; (with_reducible refine (impl_NextKinds.calls k _ _ t160 t163 t164 _ ?side1 ?side2 A7.out).mono ?_); (case side1 => repeat (first | exact (Kd.R_reads' HO162.out).2.2 | (with_reducible refine Kd.C_alloc ?_ _) | (with_reducible refine Kd.C_drewN ?_ _) | (with_reducible refine Kd.C_drew ?_))); (case side2 => exact (Kd.R_reads' HO162.out).2.1); rintro e w14 ⟨v165, rfl, ho0, hb⟩; refine ⟨_, rfl, ?_⟩; have n0_ := Aside0.mk (Kd.R_below (by (with_reducible repeat (first | apply Kd.R_alloc | apply Kd.R_drewN | apply Kd.R_drew)); exact HO155.out) hb); have n1_ := Aside0.mk (Kd.R_elder' (by (with_reducible repeat (first | apply Kd.R_alloc | apply Kd.R_drewN | apply Kd.R_drew)); exact HO159.out) (Kd.R_base ho0) hb); have n2_ := Aside0.mk (Kd.R_below (by (with_reducible repeat (first | apply Kd.R_alloc | apply Kd.R_drewN | apply Kd.R_drew)); exact HO162.out) hb); have n3_ := Aside0.mk (Kd.R_lower (Kd.R_new' ho0 (Kd.R_lt (by (with_reducible repeat (first | apply Kd.R_alloc | apply Kd.R_drewN | apply Kd.R_drew)); exact HO159.out))) (below_size (by repeat (first | (with_reducible first | exact HB.out | apply below_alloc | apply pw_below_drewN | apply below_drew1) | exact HB.out)))); have n4_ := Aside0.mk (below_step (by repeat (first | (with_reducible first | exact HB.out | apply below_alloc | apply pw_below_drewN | apply below_drew1) | exact HB.out)) hb); clear HO155; clear HO159; clear HO162; clear HB; have HO155 := n0_; have HO159 := n1_; have HO162 := n2_; have HO166 := n3_; have HB := n4_; clear n0_ n1_ n2_ n3_ n4_; (try clear hb); (try clear hb2); (try clear hk); (try clear hi); (try clear ho0)))
    (try simp only [Act.put, List.setIfInBounds_toArray, List.set_cons_zero, List.set_cons_succ])
    go_cut [40] (fun v40 wc => ∃ (kq : Nat) (x40_7 : Bool), v40 = .bool x40_7 ∧ Aside0 (laws_FnExactNextKinds.j0 kq l0 t156 t157 t160 t163 t164 x40_7 = some r) ∧ Aside0 (kq ≤ k) ∧ Aside0 (Kd.R (Kd.int .i64) 3 wc w.heap.size (fun k_ => some k_ ≠ (v165 : Value).ownBlock) v158 t156) ∧ Aside0 (Kd.R k61 61 wc w.heap.size (fun _ => True) (.slice Ao13 t160.length co13) t160) ∧ Aside0 (Kd.R (Kd.int .i64) 3 wc w.heap.size (fun k_ => some k_ ≠ (v158 : Value).ownBlock) v165 t163) ∧ Aside0 (Below w.heap.size w wc))
    case first =>
      have H := HC8.out
      clear HC8
      replace H := Option.bind_eq_some_iff.mp H
      obtain ⟨t167, A150, H⟩ := H
      replace H : (if t167 = true then (laws_FnExactNextKinds.j0 k l0 t156 t157 t160 t163 t164 (t164 != t157)) else (laws_FnExactNextKinds.j0 k l0 t156 t157 t160 t163 t164 true)) = some r := H
      have A15 := Aside0.mk A150
      clear A150
      by_cases c16 : t167 = true
      · subst c16
        have H1 : (laws_FnExactNextKinds.j0 k l0 t156 t157 t160 t163 t164 (t164 != t157)) = some r := by rw [if_pos rfl] at H; exact H
        clear H
        have H := H1
        clear H1
        have H' := Aside0.mk H
        clear H
        obtain ⟨Ao17, co17, eo17⟩ := Kd.R_slice HO166.out
        subst eo17
        obtain ⟨Ao18, co18, eo18⟩ := Kd.R_slice HO159.out
        subst eo18
        go_wp2_with (first | ((with_reducible refine gate_callee (f := 12) rfl ?_); refine goesL_ (some 34) rfl rfl Try.func12 (by kernel_rfl) rfl #[.slice Ao17 t163.length co17, .slice Ao18 t156.length co18] rfl (by (try simp only [List.map_toArray, List.map_cons, List.map_nil]); first | done | rfl | (simp only [List.length_drop, List.length_take]; rfl)) ?_; (with_reducible refine (laws_eqIntS.calls k _ _ t163 _ _ t156 true _ ?side1 ?side2 ?side3 ?side4 A15.out).mono ?_); (case side1 => repeat (first | exact (Kd.R_reads' HO166.out).2.2 | (with_reducible refine Kd.C_alloc ?_ _) | (with_reducible refine Kd.C_drewN ?_ _) | (with_reducible refine Kd.C_drew ?_))); (case side2 => exact (Kd.R_reads' HO166.out).2.1); (case side3 => repeat (first | exact (Kd.R_reads' HO159.out).2.2 | (with_reducible refine Kd.C_alloc ?_ _) | (with_reducible refine Kd.C_drewN ?_ _) | (with_reducible refine Kd.C_drew ?_))); (case side4 => exact (Kd.R_reads' HO159.out).2.1); rintro e w' ⟨rfl, ⟨nd, rfl⟩⟩; refine ⟨_, rfl, ?_⟩))
        go_meet
        case rel => exact ⟨_, ((t164 != t157)), (by first | rfl | (simp; done) | (simp [*]; done)), H', ⟨by first | omega | exact Nat.le_refl _⟩, ⟨by (with_reducible repeat (first | apply Kd.R_alloc | apply Kd.R_drewN | apply Kd.R_drew)); exact Kd.R_mono HO159.out (fun _ hk => hk.2)⟩, ⟨by (with_reducible repeat (first | apply Kd.R_alloc | apply Kd.R_drewN | apply Kd.R_drew)); exact Kd.R_mono HO162.out (fun _ hk => trivial)⟩, ⟨by (with_reducible repeat (first | apply Kd.R_alloc | apply Kd.R_drewN | apply Kd.R_drew)); exact Kd.R_mono HO166.out (fun _ hk => hk.2)⟩, ⟨by repeat (first | (with_reducible first | exact HB.out | apply below_alloc | apply pw_below_drewN | apply below_drew1) | exact HB.out)⟩⟩
      · replace c16 := Bool.eq_false_iff.mpr c16
        subst c16
        have H1 : (laws_FnExactNextKinds.j0 k l0 t156 t157 t160 t163 t164 true) = some r := by rw [if_neg (show ¬ (false = true) by decide)] at H; exact H
        clear H
        have H := H1
        clear H1
        have H' := Aside0.mk H
        clear H
        obtain ⟨Ao19, co19, eo19⟩ := Kd.R_slice HO166.out
        subst eo19
        obtain ⟨Ao20, co20, eo20⟩ := Kd.R_slice HO159.out
        subst eo20
        go_wp2_with (first | ((with_reducible refine gate_callee (f := 12) rfl ?_); refine goesL_ (some 34) rfl rfl Try.func12 (by kernel_rfl) rfl #[.slice Ao19 t163.length co19, .slice Ao20 t156.length co20] rfl (by (try simp only [List.map_toArray, List.map_cons, List.map_nil]); first | done | rfl | (simp only [List.length_drop, List.length_take]; rfl)) ?_; (with_reducible refine (laws_eqIntS.calls k _ _ t163 _ _ t156 false _ ?side1 ?side2 ?side3 ?side4 A15.out).mono ?_); (case side1 => repeat (first | exact (Kd.R_reads' HO166.out).2.2 | (with_reducible refine Kd.C_alloc ?_ _) | (with_reducible refine Kd.C_drewN ?_ _) | (with_reducible refine Kd.C_drew ?_))); (case side2 => exact (Kd.R_reads' HO166.out).2.1); (case side3 => repeat (first | exact (Kd.R_reads' HO159.out).2.2 | (with_reducible refine Kd.C_alloc ?_ _) | (with_reducible refine Kd.C_drewN ?_ _) | (with_reducible refine Kd.C_drew ?_))); (case side4 => exact (Kd.R_reads' HO159.out).2.1); rintro e w' ⟨rfl, ⟨nd, rfl⟩⟩; refine ⟨_, rfl, ?_⟩))
        go_meet
        case rel => exact ⟨_, (true), (by first | rfl | (simp; done) | (simp [*]; done)), H', ⟨by first | omega | exact Nat.le_refl _⟩, ⟨by (with_reducible repeat (first | apply Kd.R_alloc | apply Kd.R_drewN | apply Kd.R_drew)); exact Kd.R_mono HO159.out (fun _ hk => hk.2)⟩, ⟨by (with_reducible repeat (first | apply Kd.R_alloc | apply Kd.R_drewN | apply Kd.R_drew)); exact Kd.R_mono HO162.out (fun _ hk => trivial)⟩, ⟨by (with_reducible repeat (first | apply Kd.R_alloc | apply Kd.R_drewN | apply Kd.R_drew)); exact Kd.R_mono HO166.out (fun _ hk => hk.2)⟩, ⟨by repeat (first | (with_reducible first | exact HB.out | apply below_alloc | apply pw_below_drewN | apply below_drew1) | exact HB.out)⟩⟩
    case rest =>
      clear HC8
      try clear c1
      try clear p2
      try clear c3
      try clear c3b0
      try clear c8
      try clear c9
      try clear c10
      try clear c11
      try clear c12
      try clear c16
      obtain ⟨kq, x40_7, rfl, HA, HJ7, HO_4, HO_6, HO_7, HB⟩ := hcut
      cases kq with
      | zero => exact absurd HA.out (by simp [laws_FnExactNextKinds.j0])
      | succ kj7 =>
        have H := HA.out
        clear HA
        simp only [laws_FnExactNextKinds.j0] at H
        by_cases c21 : x40_7 = true
        · subst c21
          have H1 : (some false) = some r := by rw [if_pos rfl] at H; exact H
          clear H
          have H := H1
          clear H1
          obtain rfl := Option.some.inj H
          go_wp2
          go_ret
          exact ⟨by first | rfl | (simp [errW_none, errW_some] <;> rfl) | (simp [*, errW_none, errW_some] <;> rfl), by repeat (first | (with_reducible first | exact HB.out | apply below_alloc | apply pw_below_drewN | apply below_drew1) | exact HB.out)⟩
        · replace c21 := Bool.eq_false_iff.mpr c21
          subst c21
          have H1 : ((laws_toEventS.f kj7 l0).bind fun t168 => ((laws_eqEventS.f kj7 t160 t168).bind fun t171 => (if t171 = true then ((laws_markEventS.f kj7 t160 1).bind fun bt172 => (if bt172.1 < 0 then (laws_FnExactNextKinds.j1 kj7 l0 t156 t157 t163 true) else ((laws_eqIntS.f kj7 t163 t156).bind fun t174 => (if t174 = true then (laws_FnExactNextKinds.j1 kj7 l0 t156 t157 t163 (t164 != t157)) else (laws_FnExactNextKinds.j1 kj7 l0 t156 t157 t163 true))))) else (some false)))) = some r := by rw [if_neg (show ¬ (false = true) by decide)] at H; exact H
          clear H
          have H := H1
          clear H1
          replace H := Option.bind_eq_some_iff.mp H
          obtain ⟨t168, A220, H⟩ := H
          replace H : ((laws_eqEventS.f kj7 t160 t168).bind fun t171 => (if t171 = true then ((laws_markEventS.f kj7 t160 1).bind fun bt172 => (if bt172.1 < 0 then (laws_FnExactNextKinds.j1 kj7 l0 t156 t157 t163 true) else ((laws_eqIntS.f kj7 t163 t156).bind fun t174 => (if t174 = true then (laws_FnExactNextKinds.j1 kj7 l0 t156 t157 t163 (t164 != t157)) else (laws_FnExactNextKinds.j1 kj7 l0 t156 t157 t163 true))))) else (some false))) = some r := H
          have A22 := Aside0.mk A220
          clear A220
          replace H := Option.bind_eq_some_iff.mp H
          obtain ⟨t171, A230, H⟩ := H
          replace H : (if t171 = true then ((laws_markEventS.f kj7 t160 1).bind fun bt172 => (if bt172.1 < 0 then (laws_FnExactNextKinds.j1 kj7 l0 t156 t157 t163 true) else ((laws_eqIntS.f kj7 t163 t156).bind fun t174 => (if t174 = true then (laws_FnExactNextKinds.j1 kj7 l0 t156 t157 t163 (t164 != t157)) else (laws_FnExactNextKinds.j1 kj7 l0 t156 t157 t163 true))))) else (some false)) = some r := H
          have A23 := Aside0.mk A230
          clear A230
          by_cases c24 : t171 = true
          · subst c24
            have H1 : ((laws_markEventS.f kj7 t160 1).bind fun bt172 => (if bt172.1 < 0 then (laws_FnExactNextKinds.j1 kj7 l0 t156 t157 t163 true) else ((laws_eqIntS.f kj7 t163 t156).bind fun t174 => (if t174 = true then (laws_FnExactNextKinds.j1 kj7 l0 t156 t157 t163 (t164 != t157)) else (laws_FnExactNextKinds.j1 kj7 l0 t156 t157 t163 true))))) = some r := by rw [if_pos rfl] at H; exact H
            clear H
            have H := H1
            clear H1
            replace H := Option.bind_eq_some_iff.mp H
            obtain ⟨⟨t172, t173⟩, A250, H⟩ := H
            replace H : (if t172 < 0 then (laws_FnExactNextKinds.j1 kj7 l0 t156 t157 t163 true) else ((laws_eqIntS.f kj7 t163 t156).bind fun t174 => (if t174 = true then (laws_FnExactNextKinds.j1 kj7 l0 t156 t157 t163 (t164 != t157)) else (laws_FnExactNextKinds.j1 kj7 l0 t156 t157 t163 true)))) = some r := H
            have A25 := Aside0.mk A250
            clear A250
            have HC26 := Aside0.mk H
            clear H
            go_upto_region 14 with (first | ((with_reducible refine gate_callee (f := 10) rfl ?_); refine goesL_ (some 43) rfl rfl Try.func10 (by kernel_rfl) rfl #[.slice A0 l0.length c0] rfl (by (try simp only [List.map_toArray, List.map_cons, List.map_nil]); first | done | rfl | (simp only [List.length_drop, List.length_take]; rfl)) ?_; (with_reducible refine (laws_toEventS.calls kj7 _ _ l0 t168 _ ?side1 ?side2 A22.out).mono ?_); (case side1 => repeat (first | exact (Kd.C_below HR0.out HB.out) | (with_reducible refine Kd.C_alloc ?_ _) | (with_reducible refine Kd.C_drewN ?_ _) | (with_reducible refine Kd.C_drew ?_))); (case side2 => exact HC0.out); rintro e w27 ⟨v169, rfl, ho0, hb⟩; refine ⟨_, rfl, ?_⟩; have n0_ := Aside0.mk (Kd.R_below (by (with_reducible repeat (first | apply Kd.R_alloc | apply Kd.R_drewN | apply Kd.R_drew)); exact HO_4.out) hb); have n1_ := Aside0.mk (Kd.R_elder' (by (with_reducible repeat (first | apply Kd.R_alloc | apply Kd.R_drewN | apply Kd.R_drew)); exact HO_6.out) (Kd.R_base ho0) hb); have n2_ := Aside0.mk (Kd.R_below (by (with_reducible repeat (first | apply Kd.R_alloc | apply Kd.R_drewN | apply Kd.R_drew)); exact HO_7.out) hb); have n3_ := Aside0.mk (Kd.R_lower (Kd.R_new' ho0 (Kd.R_lt (by (with_reducible repeat (first | apply Kd.R_alloc | apply Kd.R_drewN | apply Kd.R_drew)); exact HO_6.out))) (below_size (by repeat (first | (with_reducible first | exact HB.out | apply below_alloc | apply pw_below_drewN | apply below_drew1) | exact HB.out)))); have n4_ := Aside0.mk (below_step (by repeat (first | (with_reducible first | exact HB.out | apply below_alloc | apply pw_below_drewN | apply below_drew1) | exact HB.out)) hb); clear HO_4; clear HO_6; clear HO_7; clear HB; have HO_4 := n0_; have HO_6 := n1_; have HO_7 := n2_; have HO170 := n3_; have HB := n4_; clear n0_ n1_ n2_ n3_ n4_; (try clear hb); (try clear hb2); (try clear hk); (try clear hi); (try clear ho0); obtain ⟨Ao28, co28, eo28⟩ := Kd.R_slice HO170.out; subst eo28) | ((with_reducible refine gate_callee (f := 13) rfl ?_); refine goesL_ (some 44) rfl rfl Try.func13 (by kernel_rfl) rfl #[.slice Ao13 t160.length co13, .slice Ao28 t168.length co28] rfl (by (try simp only [List.map_toArray, List.map_cons, List.map_nil]); first | done | rfl | (simp only [List.length_drop, List.length_take]; rfl)) ?_; (with_reducible refine (laws_eqEventS.calls kj7 _ _ t160 _ _ t168 true _ ?side1 ?side2 ?side3 ?side4 A23.out).mono ?_); (case side1 => repeat (first | exact (Kd.R_reads' HO_6.out).2.2 | (with_reducible refine Kd.C_alloc ?_ _) | (with_reducible refine Kd.C_drewN ?_ _) | (with_reducible refine Kd.C_drew ?_))); (case side2 => exact (Kd.R_reads' HO_6.out).2.1); (case side3 => repeat (first | exact (Kd.R_reads' HO170.out).2.2 | (with_reducible refine Kd.C_alloc ?_ _) | (with_reducible refine Kd.C_drewN ?_ _) | (with_reducible refine Kd.C_drew ?_))); (case side4 => exact (Kd.R_reads' HO170.out).2.1); rintro e w29 ⟨rfl, hb⟩; refine ⟨_, rfl, ?_⟩; have n0_ := Aside0.mk (Kd.R_below (by (with_reducible repeat (first | apply Kd.R_alloc | apply Kd.R_drewN | apply Kd.R_drew)); exact HO_4.out) hb); have n1_ := Aside0.mk (Kd.R_below (by (with_reducible repeat (first | apply Kd.R_alloc | apply Kd.R_drewN | apply Kd.R_drew)); exact HO_6.out) hb); have n2_ := Aside0.mk (Kd.R_below (by (with_reducible repeat (first | apply Kd.R_alloc | apply Kd.R_drewN | apply Kd.R_drew)); exact HO_7.out) hb); have n3_ := Aside0.mk (Kd.R_below (by (with_reducible repeat (first | apply Kd.R_alloc | apply Kd.R_drewN | apply Kd.R_drew)); exact HO170.out) hb); have n4_ := Aside0.mk (below_step (by repeat (first | (with_reducible first | exact HB.out | apply below_alloc | apply pw_below_drewN | apply below_drew1) | exact HB.out)) hb); clear HO_4; clear HO_6; clear HO_7; clear HO170; clear HB; have HO_4 := n0_; have HO_6 := n1_; have HO_7 := n2_; have HO170 := n3_; have HB := n4_; clear n0_ n1_ n2_ n3_ n4_; (try clear hb); (try clear hb2); (try clear hk); (try clear hi)) | ((with_reducible refine gate_callee (f := 14) rfl ?_); refine goesL_ (some 48) rfl rfl Try.func14 (by kernel_rfl) rfl #[.slice Ao13 t160.length co13, .int .i64 1] rfl (by (try simp only [List.map_toArray, List.map_cons, List.map_nil]); first | done | rfl | (simp only [List.length_drop, List.length_take]; rfl)) ?_; (with_reducible refine (laws_markEventS.calls kj7 (fun k_ => some k_ = (.slice Ao13 t160.length co13 : Value).ownBlock) (.slice Ao13 t160.length co13) t160 1 t172 t173 w _ ?side1 ?side2 A25.out).mono ?_); (case side1 => repeat (first | (with_reducible first | exact HB.out | apply below_alloc | apply pw_below_drewN | apply below_drew1) | exact HB.out)); (case side2 => exact Kd.R_tight rfl HO_6.out); rintro e w30 ⟨rfl, hy0, hb, hkp⟩; refine ⟨_, rfl, ?_⟩; have n0_ := Aside0.mk (Kd.R_mono (ok' := fun k_ => some k_ ≠ (v165 : Value).ownBlock) (Kd.R_keptB ((Kd.R_apart' HO_4.out (Kd.R_typed HO_6.out) (by decide))) hkp (fun k_ hk_ hs_ => (hk_.2) hs_)) (fun k_ hk_ => hk_.1.1)); have n1_ := Aside0.mk (Kd.R_reok rfl hy0 (fun k_ e_ => HO_6.out.1 k_ e_)); have n2_ := Aside0.mk (Kd.R_mono (ok' := fun k_ => some k_ ≠ (v158 : Value).ownBlock) (Kd.R_keptB ((Kd.R_apart' HO_7.out (Kd.R_typed HO_6.out) (by decide))) hkp (fun k_ hk_ hs_ => (hk_.2) hs_)) (fun k_ hk_ => hk_.1.1)); have n3_ := Aside0.mk (Kd.R_mono (ok' := fun k_ => some k_ ≠ (.slice Ao13 t160.length co13 : Value).ownBlock) (Kd.R_keptB (HO170.out) hkp (fun k_ hk_ hs_ => (hk_.2) hs_)) (fun k_ hk_ => hk_.1.2)); have n4_ := Aside0.mk (hb); clear HO_4; clear HO_6; clear HO_7; clear HO170; clear HB; have HO_4 := n0_; have HO_6 := n1_; have HO_7 := n2_; have HO170 := n3_; have HB := n4_; clear n0_ n1_ n2_ n3_ n4_; (try clear hb); (try clear hkp); (try clear hy0)))
            (try simp only [Act.put, List.setIfInBounds_toArray, List.set_cons_zero, List.set_cons_succ])
            go_cut [61] (fun v61 wc => ∃ (kq : Nat) (x61_25 : Bool), v61 = .bool x61_25 ∧ Aside0 (laws_FnExactNextKinds.j1 kq l0 t156 t157 t163 x61_25 = some r) ∧ Aside0 (kq ≤ kj7) ∧ Aside0 (Kd.R (Kd.int .i64) 3 wc w.heap.size (fun k_ => some k_ ≠ (v165 : Value).ownBlock) v158 t156) ∧ Aside0 (Kd.R (Kd.int .i64) 3 wc w.heap.size (fun k_ => some k_ ≠ (v158 : Value).ownBlock) v165 t163) ∧ Aside0 (Below w.heap.size w wc))
            case first =>
              have H := HC26.out
              clear HC26
              by_cases c31 : t172 < 0
              · rw [if_pos c31] at H
                have c31b0 : decide (t172 < 0) = true := decide_eq_true c31
                clear c31
                (first | rw [c31b0] | (simp only [i64_w, i32_w]; rw [c31b0]) | skip)
                have H' := Aside0.mk H
                clear H
                go_wp2
                go_meet
                case rel => exact ⟨_, (true), (by first | rfl | (simp; done) | (simp [*]; done)), H', ⟨by have := HJ7.out; first | omega | exact Nat.le_refl _⟩, ⟨by (with_reducible repeat (first | apply Kd.R_alloc | apply Kd.R_drewN | apply Kd.R_drew)); exact HO_4.out⟩, ⟨by (with_reducible repeat (first | apply Kd.R_alloc | apply Kd.R_drewN | apply Kd.R_drew)); exact HO_7.out⟩, ⟨by repeat (first | (with_reducible first | exact HB.out | apply below_alloc | apply pw_below_drewN | apply below_drew1) | exact HB.out)⟩⟩
              · rw [if_neg c31] at H
                have c31b0 : decide (t172 < 0) = false := decide_eq_false c31
                clear c31
                (first | rw [c31b0] | (simp only [i64_w, i32_w]; rw [c31b0]) | skip)
                replace H := Option.bind_eq_some_iff.mp H
                obtain ⟨t174, A320, H⟩ := H
                replace H : (if t174 = true then (laws_FnExactNextKinds.j1 kj7 l0 t156 t157 t163 (t164 != t157)) else (laws_FnExactNextKinds.j1 kj7 l0 t156 t157 t163 true)) = some r := H
                have A32 := Aside0.mk A320
                clear A320
                by_cases c33 : t174 = true
                · subst c33
                  have H1 : (laws_FnExactNextKinds.j1 kj7 l0 t156 t157 t163 (t164 != t157)) = some r := by rw [if_pos rfl] at H; exact H
                  clear H
                  have H := H1
                  clear H1
                  have H' := Aside0.mk H
                  clear H
                  obtain ⟨Ao34, co34, eo34⟩ := Kd.R_slice HO_7.out
                  subst eo34
                  obtain ⟨Ao35, co35, eo35⟩ := Kd.R_slice HO_4.out
                  subst eo35
                  go_wp2_with (first | (go_at_call 12; (with_reducible refine (laws_eqIntS.calls kj7 _ _ t163 _ _ t156 true _ ?side1 ?side2 ?side3 ?side4 A32.out).mono ?_); (case side1 => repeat (first | exact (Kd.R_reads' HO_7.out).2.2 | (with_reducible refine Kd.C_alloc ?_ _) | (with_reducible refine Kd.C_drewN ?_ _) | (with_reducible refine Kd.C_drew ?_))); (case side2 => exact (Kd.R_reads' HO_7.out).2.1); (case side3 => repeat (first | exact (Kd.R_reads' HO_4.out).2.2 | (with_reducible refine Kd.C_alloc ?_ _) | (with_reducible refine Kd.C_drewN ?_ _) | (with_reducible refine Kd.C_drew ?_))); (case side4 => exact (Kd.R_reads' HO_4.out).2.1); rintro e w' ⟨rfl, ⟨nd, rfl⟩⟩))
                  go_meet
                  case rel => exact ⟨_, ((t164 != t157)), (by first | rfl | (simp; done) | (simp [*]; done)), H', ⟨by have := HJ7.out; first | omega | exact Nat.le_refl _⟩, ⟨by (with_reducible repeat (first | apply Kd.R_alloc | apply Kd.R_drewN | apply Kd.R_drew)); exact HO_4.out⟩, ⟨by (with_reducible repeat (first | apply Kd.R_alloc | apply Kd.R_drewN | apply Kd.R_drew)); exact HO_7.out⟩, ⟨by repeat (first | (with_reducible first | exact HB.out | apply below_alloc | apply pw_below_drewN | apply below_drew1) | exact HB.out)⟩⟩
                · replace c33 := Bool.eq_false_iff.mpr c33
                  subst c33
                  have H1 : (laws_FnExactNextKinds.j1 kj7 l0 t156 t157 t163 true) = some r := by rw [if_neg (show ¬ (false = true) by decide)] at H; exact H
                  clear H
                  have H := H1
                  clear H1
                  have H' := Aside0.mk H
                  clear H
                  obtain ⟨Ao36, co36, eo36⟩ := Kd.R_slice HO_7.out
                  subst eo36
                  obtain ⟨Ao37, co37, eo37⟩ := Kd.R_slice HO_4.out
                  subst eo37
                  go_wp2_with (first | (go_at_call 12; (with_reducible refine (laws_eqIntS.calls kj7 _ _ t163 _ _ t156 false _ ?side1 ?side2 ?side3 ?side4 A32.out).mono ?_); (case side1 => repeat (first | exact (Kd.R_reads' HO_7.out).2.2 | (with_reducible refine Kd.C_alloc ?_ _) | (with_reducible refine Kd.C_drewN ?_ _) | (with_reducible refine Kd.C_drew ?_))); (case side2 => exact (Kd.R_reads' HO_7.out).2.1); (case side3 => repeat (first | exact (Kd.R_reads' HO_4.out).2.2 | (with_reducible refine Kd.C_alloc ?_ _) | (with_reducible refine Kd.C_drewN ?_ _) | (with_reducible refine Kd.C_drew ?_))); (case side4 => exact (Kd.R_reads' HO_4.out).2.1); rintro e w' ⟨rfl, ⟨nd, rfl⟩⟩))
                  go_meet
                  case rel => exact ⟨_, (true), (by first | rfl | (simp; done) | (simp [*]; done)), H', ⟨by have := HJ7.out; first | omega | exact Nat.le_refl _⟩, ⟨by (with_reducible repeat (first | apply Kd.R_alloc | apply Kd.R_drewN | apply Kd.R_drew)); exact HO_4.out⟩, ⟨by (with_reducible repeat (first | apply Kd.R_alloc | apply Kd.R_drewN | apply Kd.R_drew)); exact HO_7.out⟩, ⟨by repeat (first | (with_reducible first | exact HB.out | apply below_alloc | apply pw_below_drewN | apply below_drew1) | exact HB.out)⟩⟩
            case rest =>
              clear HC26
              try clear c1
              try clear c2
              try clear p2
              try clear c3
              try clear c3b0
              try clear c8
              try clear c9
              try clear c10
              try clear c11
              try clear c12
              try clear c13
              try clear c14
              try clear c16
              try clear c21
              try clear c24
              try clear c31
              try clear c31b0
              try clear c33
              try clear p2
              obtain ⟨kq, x61_25, rfl, HA, HJ25, HO_4, HO_7, HB⟩ := hcut
              cases kq with
              | zero => exact absurd HA.out (by simp [laws_FnExactNextKinds.j1])
              | succ kj25 =>
                have H := HA.out
                clear HA
                simp only [laws_FnExactNextKinds.j1] at H
                by_cases c38 : x61_25 = true
                · subst c38
                  have H1 : (some false) = some r := by rw [if_pos rfl] at H; exact H
                  clear H
                  have H := H1
                  clear H1
                  obtain rfl := Option.some.inj H
                  go_wp2
                  go_ret
                  exact ⟨by first | rfl | (simp [errW_none, errW_some] <;> rfl) | (simp [*, errW_none, errW_some] <;> rfl), by repeat (first | (with_reducible first | exact HB.out | apply below_alloc | apply pw_below_drewN | apply below_drew1) | exact HB.out)⟩
                · replace c38 := Bool.eq_false_iff.mpr c38
                  subst c38
                  have H1 : ((laws_markIntS.f kj25 t163 1).bind fun bt175 => ((laws_heldIntS.f kj25 bt175.2 1).bind fun t177 => (if t177 < 0 then (some false) else (if t177 = bt175.1 then ((laws_toEventS.f kj25 l0).bind fun t178 => ((impl_NextKinds.f kj25 t178).bind fun bt181 => ((laws_eqIntS.f kj25 bt181.1 t156).bind fun t185 => (if t185 = true then (laws_FnExactNextKinds.j2 kj25 bt175.2 bt175.1 (bt181.2 != t157)) else (laws_FnExactNextKinds.j2 kj25 bt175.2 bt175.1 true))))) else (some false))))) = some r := by rw [if_neg (show ¬ (false = true) by decide)] at H; exact H
                  clear H
                  have H := H1
                  clear H1
                  replace H := Option.bind_eq_some_iff.mp H
                  obtain ⟨⟨t175, t176⟩, A390, H⟩ := H
                  replace H : ((laws_heldIntS.f kj25 t176 1).bind fun t177 => (if t177 < 0 then (some false) else (if t177 = t175 then ((laws_toEventS.f kj25 l0).bind fun t178 => ((impl_NextKinds.f kj25 t178).bind fun bt181 => ((laws_eqIntS.f kj25 bt181.1 t156).bind fun t185 => (if t185 = true then (laws_FnExactNextKinds.j2 kj25 t176 t175 (bt181.2 != t157)) else (laws_FnExactNextKinds.j2 kj25 t176 t175 true))))) else (some false)))) = some r := H
                  have A39 := Aside0.mk A390
                  clear A390
                  replace H := Option.bind_eq_some_iff.mp H
                  obtain ⟨t177, A400, H⟩ := H
                  replace H : (if t177 < 0 then (some false) else (if t177 = t175 then ((laws_toEventS.f kj25 l0).bind fun t178 => ((impl_NextKinds.f kj25 t178).bind fun bt181 => ((laws_eqIntS.f kj25 bt181.1 t156).bind fun t185 => (if t185 = true then (laws_FnExactNextKinds.j2 kj25 t176 t175 (bt181.2 != t157)) else (laws_FnExactNextKinds.j2 kj25 t176 t175 true))))) else (some false))) = some r := H
                  have A40 := Aside0.mk A400
                  clear A400
                  by_cases c41 : t177 < 0
                  · rw [if_pos c41] at H
                    have c41b0 : decide (t177 < 0) = true := decide_eq_true c41
                    clear c41
                    obtain rfl := Option.some.inj H
                    obtain ⟨Ao42, co42, eo42⟩ := Kd.R_slice HO_7.out
                    subst eo42
                    go_wp2_with (first | ((with_reducible refine gate_callee (f := 15) rfl ?_); refine goesL_ (some 64) rfl rfl Try.func15 (by kernel_rfl) rfl #[.slice Ao42 t163.length co42, .int .i64 1] rfl (by (try simp only [List.map_toArray, List.map_cons, List.map_nil]); first | done | rfl | (simp only [List.length_drop, List.length_take]; rfl)) ?_; (with_reducible refine (laws_markIntS.calls kj25 (fun k_ => some k_ = (.slice Ao42 t163.length co42 : Value).ownBlock) (.slice Ao42 t163.length co42) t163 1 t175 t176 w _ ?side1 ?side2 A39.out).mono ?_); (case side1 => repeat (first | (with_reducible first | exact HB.out | apply below_alloc | apply pw_below_drewN | apply below_drew1) | exact HB.out)); (case side2 => exact Kd.R_tight rfl HO_7.out); rintro e w43 ⟨rfl, hy0, hb, hkp⟩; refine ⟨_, rfl, ?_⟩; have n0_ := Aside0.mk (Kd.R_mono (ok' := fun k_ => some k_ ≠ (.slice Ao42 t163.length co42 : Value).ownBlock) (Kd.R_keptB (HO_4.out) hkp (fun k_ hk_ hs_ => (hk_) hs_)) (fun k_ hk_ => hk_.1)); have n1_ := Aside0.mk (Kd.R_reok rfl hy0 (fun k_ e_ => HO_7.out.1 k_ e_)); have n2_ := Aside0.mk (hb); clear HO_4; clear HO_7; clear HB; have HO_4 := n0_; have HO_7 := n1_; have HB := n2_; clear n0_ n1_ n2_; (try clear hb); (try clear hkp); (try clear hy0)) | ((with_reducible refine gate_callee (f := 16) rfl ?_); refine goesL_ (some 67) rfl rfl Try.func16 (by kernel_rfl) rfl #[.slice Ao42 t176.length co42, .int .i64 1] rfl (by (try simp only [List.map_toArray, List.map_cons, List.map_nil]); first | done | (rw [show t176.length = t163.length from (Kd.R_reads' HO_7.out).1.symm] <;> rfl) | rfl | (simp only [List.length_drop, List.length_take]; rfl)) ?_; (with_reducible refine (laws_heldIntS.calls kj25 _ _ t176 1 t177 _ ?side1 ?side2 A40.out).mono ?_); (case side1 => repeat (first | exact (Kd.R_reads' HO_7.out).2.2 | (with_reducible refine Kd.C_alloc ?_ _) | (with_reducible refine Kd.C_drewN ?_ _) | (with_reducible refine Kd.C_drew ?_))); (case side2 => rw [show t176.length = t163.length from (Kd.R_reads' HO_7.out).1.symm]; exact (Kd.R_reads' HO_7.out).2.1); rintro e w' ⟨rfl, ⟨nd, rfl⟩⟩; refine ⟨_, rfl, ?_⟩))
                    go_ret
                    exact ⟨by first | rfl | (simp [errW_none, errW_some] <;> rfl) | (simp [*, errW_none, errW_some] <;> rfl), by repeat (first | (with_reducible first | exact HB.out | apply below_alloc | apply pw_below_drewN | apply below_drew1) | exact HB.out)⟩
                  · rw [if_neg c41] at H
                    have c41b0 : decide (t177 < 0) = false := decide_eq_false c41
                    clear c41
                    by_cases c44 : t177 = t175
                    · rw [if_pos c44] at H
                      have c44b0 : (t177 == t175) = true := beq_iff_eq.mpr c44
                      have c44b1 : (t177 != t175) = false := bne_eq_false_iff_eq.mpr c44
                      clear c44
                      replace H := Option.bind_eq_some_iff.mp H
                      obtain ⟨t178, A450, H⟩ := H
                      replace H : ((impl_NextKinds.f kj25 t178).bind fun bt181 => ((laws_eqIntS.f kj25 bt181.1 t156).bind fun t185 => (if t185 = true then (laws_FnExactNextKinds.j2 kj25 t176 t175 (bt181.2 != t157)) else (laws_FnExactNextKinds.j2 kj25 t176 t175 true)))) = some r := H
                      have A45 := Aside0.mk A450
                      clear A450
                      replace H := Option.bind_eq_some_iff.mp H
                      obtain ⟨⟨t181, t182⟩, A460, H⟩ := H
                      replace H : ((laws_eqIntS.f kj25 t181 t156).bind fun t185 => (if t185 = true then (laws_FnExactNextKinds.j2 kj25 t176 t175 (t182 != t157)) else (laws_FnExactNextKinds.j2 kj25 t176 t175 true))) = some r := H
                      have A46 := Aside0.mk A460
                      clear A460
                      have HC47 := Aside0.mk H
                      clear H
                      obtain ⟨Ao48, co48, eo48⟩ := Kd.R_slice HO_7.out
                      subst eo48
                      go_upto_region 25 with (first | ((with_reducible refine gate_callee (f := 15) rfl ?_); refine goesL_ (some 64) rfl rfl Try.func15 (by kernel_rfl) rfl #[.slice Ao48 t163.length co48, .int .i64 1] rfl (by (try simp only [List.map_toArray, List.map_cons, List.map_nil]); first | done | rfl | (simp only [List.length_drop, List.length_take]; rfl)) ?_; (with_reducible refine (laws_markIntS.calls kj25 (fun k_ => some k_ = (.slice Ao48 t163.length co48 : Value).ownBlock) (.slice Ao48 t163.length co48) t163 1 t175 t176 w _ ?side1 ?side2 A39.out).mono ?_); (case side1 => repeat (first | (with_reducible first | exact HB.out | apply below_alloc | apply pw_below_drewN | apply below_drew1) | exact HB.out)); (case side2 => exact Kd.R_tight rfl HO_7.out); rintro e w49 ⟨rfl, hy0, hb, hkp⟩; refine ⟨_, rfl, ?_⟩; have n0_ := Aside0.mk (Kd.R_mono (ok' := fun k_ => some k_ ≠ (.slice Ao48 t163.length co48 : Value).ownBlock) (Kd.R_keptB (HO_4.out) hkp (fun k_ hk_ hs_ => (hk_) hs_)) (fun k_ hk_ => hk_.1)); have n1_ := Aside0.mk (Kd.R_reok rfl hy0 (fun k_ e_ => HO_7.out.1 k_ e_)); have n2_ := Aside0.mk (hb); clear HO_4; clear HO_7; clear HB; have HO_4 := n0_; have HO_7 := n1_; have HB := n2_; clear n0_ n1_ n2_; (try clear hb); (try clear hkp); (try clear hy0)) | ((with_reducible refine gate_callee (f := 16) rfl ?_); refine goesL_ (some 67) rfl rfl Try.func16 (by kernel_rfl) rfl #[.slice Ao48 t176.length co48, .int .i64 1] rfl (by (try simp only [List.map_toArray, List.map_cons, List.map_nil]); first | done | (rw [show t176.length = t163.length from (Kd.R_reads' HO_7.out).1.symm] <;> rfl) | rfl | (simp only [List.length_drop, List.length_take]; rfl)) ?_; (with_reducible refine (laws_heldIntS.calls kj25 _ _ t176 1 t177 _ ?side1 ?side2 A40.out).mono ?_); (case side1 => repeat (first | exact (Kd.R_reads' HO_7.out).2.2 | (with_reducible refine Kd.C_alloc ?_ _) | (with_reducible refine Kd.C_drewN ?_ _) | (with_reducible refine Kd.C_drew ?_))); (case side2 => rw [show t176.length = t163.length from (Kd.R_reads' HO_7.out).1.symm]; exact (Kd.R_reads' HO_7.out).2.1); rintro e w' ⟨rfl, ⟨nd, rfl⟩⟩; refine ⟨_, rfl, ?_⟩) | ((with_reducible refine gate_callee (f := 10) rfl ?_); refine goesL_ (some 75) rfl rfl Try.func10 (by kernel_rfl) rfl #[.slice A0 l0.length c0] rfl (by (try simp only [List.map_toArray, List.map_cons, List.map_nil]); first | done | rfl | (simp only [List.length_drop, List.length_take]; rfl)) ?_; (with_reducible refine (laws_toEventS.calls kj25 _ _ l0 t178 _ ?side1 ?side2 A45.out).mono ?_); (case side1 => repeat (first | exact (Kd.C_below HR0.out (by repeat (first | (with_reducible first | exact HB.out | apply below_alloc | apply pw_below_drewN | apply below_drew1) | exact HB.out))) | (with_reducible refine Kd.C_alloc ?_ _) | (with_reducible refine Kd.C_drewN ?_ _) | (with_reducible refine Kd.C_drew ?_))); (case side2 => exact HC0.out); rintro e w50 ⟨v179, rfl, ho0, hb⟩; refine ⟨_, rfl, ?_⟩; have n0_ := Aside0.mk (Kd.R_below (by (with_reducible repeat (first | apply Kd.R_alloc | apply Kd.R_drewN | apply Kd.R_drew)); exact HO_4.out) hb); have n1_ := Aside0.mk (Kd.R_below (by (with_reducible repeat (first | apply Kd.R_alloc | apply Kd.R_drewN | apply Kd.R_drew)); exact HO_7.out) hb); have n2_ := Aside0.mk (Kd.R_lower ho0 (below_size (by repeat (first | (with_reducible first | exact HB.out | apply below_alloc | apply pw_below_drewN | apply below_drew1) | exact HB.out)))); have n3_ := Aside0.mk (below_step (by repeat (first | (with_reducible first | exact HB.out | apply below_alloc | apply pw_below_drewN | apply below_drew1) | exact HB.out)) hb); clear HO_4; clear HO_7; clear HB; have HO_4 := n0_; have HO_7 := n1_; have HO180 := n2_; have HB := n3_; clear n0_ n1_ n2_ n3_; (try clear hb); (try clear hb2); (try clear hk); (try clear hi); (try clear ho0); obtain ⟨Ao51, co51, eo51⟩ := Kd.R_slice HO180.out; subst eo51) | ((with_reducible refine gate_callee (f := 11) rfl ?_); refine goesL_ (some 76) rfl rfl Try.func11 (by kernel_rfl) rfl #[.slice Ao51 t178.length co51] rfl (by (try simp only [List.map_toArray, List.map_cons, List.map_nil]); first | done | rfl | (simp only [List.length_drop, List.length_take]; rfl)) ?_; (with_reducible refine (impl_NextKinds.calls kj25 _ _ t178 t181 t182 _ ?side1 ?side2 A46.out).mono ?_); (case side1 => repeat (first | exact (Kd.R_reads' HO180.out).2.2 | (with_reducible refine Kd.C_alloc ?_ _) | (with_reducible refine Kd.C_drewN ?_ _) | (with_reducible refine Kd.C_drew ?_))); (case side2 => exact (Kd.R_reads' HO180.out).2.1); rintro e w52 ⟨v183, rfl, ho0, hb⟩; refine ⟨_, rfl, ?_⟩; have n0_ := Aside0.mk (Kd.R_elder' (by (with_reducible repeat (first | apply Kd.R_alloc | apply Kd.R_drewN | apply Kd.R_drew)); exact HO_4.out) (Kd.R_base ho0) hb); have n1_ := Aside0.mk (Kd.R_elder' (by (with_reducible repeat (first | apply Kd.R_alloc | apply Kd.R_drewN | apply Kd.R_drew)); exact HO_7.out) (Kd.R_base ho0) hb); have n2_ := Aside0.mk (Kd.R_below (by (with_reducible repeat (first | apply Kd.R_alloc | apply Kd.R_drewN | apply Kd.R_drew)); exact HO180.out) hb); have n3_ := Aside0.mk (Kd.R_lower (Kd.R_new' (Kd.R_new' ho0 (Kd.R_lt (by (with_reducible repeat (first | apply Kd.R_alloc | apply Kd.R_drewN | apply Kd.R_drew)); exact HO_4.out))) (Kd.R_lt (by (with_reducible repeat (first | apply Kd.R_alloc | apply Kd.R_drewN | apply Kd.R_drew)); exact HO_7.out))) (below_size (by repeat (first | (with_reducible first | exact HB.out | apply below_alloc | apply pw_below_drewN | apply below_drew1) | exact HB.out)))); have n4_ := Aside0.mk (below_step (by repeat (first | (with_reducible first | exact HB.out | apply below_alloc | apply pw_below_drewN | apply below_drew1) | exact HB.out)) hb); clear HO_4; clear HO_7; clear HO180; clear HB; have HO_4 := n0_; have HO_7 := n1_; have HO180 := n2_; have HO184 := n3_; have HB := n4_; clear n0_ n1_ n2_ n3_ n4_; (try clear hb); (try clear hb2); (try clear hk); (try clear hi); (try clear ho0)))
                      (try simp only [Act.put, List.setIfInBounds_toArray, List.set_cons_zero, List.set_cons_succ])
                      go_cut [87] (fun v87 wc => ∃ (kq : Nat) (x87_46 : Bool), v87 = .bool x87_46 ∧ Aside0 (laws_FnExactNextKinds.j2 kq t176 t175 x87_46 = some r) ∧ Aside0 (kq ≤ kj25) ∧ Aside0 (Kd.R (Kd.int .i64) 3 wc w.heap.size (fun _ => True) (.slice Ao48 t163.length co48) t176) ∧ Aside0 (Below w.heap.size w wc))
                      case first =>
                        have H := HC47.out
                        clear HC47
                        replace H := Option.bind_eq_some_iff.mp H
                        obtain ⟨t185, A530, H⟩ := H
                        replace H : (if t185 = true then (laws_FnExactNextKinds.j2 kj25 t176 t175 (t182 != t157)) else (laws_FnExactNextKinds.j2 kj25 t176 t175 true)) = some r := H
                        have A53 := Aside0.mk A530
                        clear A530
                        by_cases c54 : t185 = true
                        · subst c54
                          have H1 : (laws_FnExactNextKinds.j2 kj25 t176 t175 (t182 != t157)) = some r := by rw [if_pos rfl] at H; exact H
                          clear H
                          have H := H1
                          clear H1
                          have H' := Aside0.mk H
                          clear H
                          obtain ⟨Ao55, co55, eo55⟩ := Kd.R_slice HO184.out
                          subst eo55
                          obtain ⟨Ao56, co56, eo56⟩ := Kd.R_slice HO_4.out
                          subst eo56
                          go_wp2_with (first | ((with_reducible refine gate_callee (f := 12) rfl ?_); refine goesL_ (some 81) rfl rfl Try.func12 (by kernel_rfl) rfl #[.slice Ao55 t181.length co55, .slice Ao56 t156.length co56] rfl (by (try simp only [List.map_toArray, List.map_cons, List.map_nil]); first | done | rfl | (simp only [List.length_drop, List.length_take]; rfl)) ?_; (with_reducible refine (laws_eqIntS.calls kj25 _ _ t181 _ _ t156 true _ ?side1 ?side2 ?side3 ?side4 A53.out).mono ?_); (case side1 => repeat (first | exact (Kd.R_reads' HO184.out).2.2 | (with_reducible refine Kd.C_alloc ?_ _) | (with_reducible refine Kd.C_drewN ?_ _) | (with_reducible refine Kd.C_drew ?_))); (case side2 => exact (Kd.R_reads' HO184.out).2.1); (case side3 => repeat (first | exact (Kd.R_reads' HO_4.out).2.2 | (with_reducible refine Kd.C_alloc ?_ _) | (with_reducible refine Kd.C_drewN ?_ _) | (with_reducible refine Kd.C_drew ?_))); (case side4 => exact (Kd.R_reads' HO_4.out).2.1); rintro e w' ⟨rfl, ⟨nd, rfl⟩⟩; refine ⟨_, rfl, ?_⟩))
                          go_meet
                          case rel => exact ⟨_, ((t182 != t157)), (by first | rfl | (simp; done) | (simp [*]; done)), H', ⟨by have := HJ7.out; have := HJ25.out; first | omega | exact Nat.le_refl _⟩, ⟨by (with_reducible repeat (first | apply Kd.R_alloc | apply Kd.R_drewN | apply Kd.R_drew)); exact Kd.R_mono HO_7.out (fun _ hk => trivial)⟩, ⟨by repeat (first | (with_reducible first | exact HB.out | apply below_alloc | apply pw_below_drewN | apply below_drew1) | exact HB.out)⟩⟩
                        · replace c54 := Bool.eq_false_iff.mpr c54
                          subst c54
                          have H1 : (laws_FnExactNextKinds.j2 kj25 t176 t175 true) = some r := by rw [if_neg (show ¬ (false = true) by decide)] at H; exact H
                          clear H
                          have H := H1
                          clear H1
                          have H' := Aside0.mk H
                          clear H
                          obtain ⟨Ao57, co57, eo57⟩ := Kd.R_slice HO184.out
                          subst eo57
                          obtain ⟨Ao58, co58, eo58⟩ := Kd.R_slice HO_4.out
                          subst eo58
                          go_wp2_with (first | ((with_reducible refine gate_callee (f := 12) rfl ?_); refine goesL_ (some 81) rfl rfl Try.func12 (by kernel_rfl) rfl #[.slice Ao57 t181.length co57, .slice Ao58 t156.length co58] rfl (by (try simp only [List.map_toArray, List.map_cons, List.map_nil]); first | done | rfl | (simp only [List.length_drop, List.length_take]; rfl)) ?_; (with_reducible refine (laws_eqIntS.calls kj25 _ _ t181 _ _ t156 false _ ?side1 ?side2 ?side3 ?side4 A53.out).mono ?_); (case side1 => repeat (first | exact (Kd.R_reads' HO184.out).2.2 | (with_reducible refine Kd.C_alloc ?_ _) | (with_reducible refine Kd.C_drewN ?_ _) | (with_reducible refine Kd.C_drew ?_))); (case side2 => exact (Kd.R_reads' HO184.out).2.1); (case side3 => repeat (first | exact (Kd.R_reads' HO_4.out).2.2 | (with_reducible refine Kd.C_alloc ?_ _) | (with_reducible refine Kd.C_drewN ?_ _) | (with_reducible refine Kd.C_drew ?_))); (case side4 => exact (Kd.R_reads' HO_4.out).2.1); rintro e w' ⟨rfl, ⟨nd, rfl⟩⟩; refine ⟨_, rfl, ?_⟩))
                          go_meet
                          case rel => exact ⟨_, (true), (by first | rfl | (simp; done) | (simp [*]; done)), H', ⟨by have := HJ7.out; have := HJ25.out; first | omega | exact Nat.le_refl _⟩, ⟨by (with_reducible repeat (first | apply Kd.R_alloc | apply Kd.R_drewN | apply Kd.R_drew)); exact Kd.R_mono HO_7.out (fun _ hk => trivial)⟩, ⟨by repeat (first | (with_reducible first | exact HB.out | apply below_alloc | apply pw_below_drewN | apply below_drew1) | exact HB.out)⟩⟩
                      case rest =>
                        clear HC47
                        try clear c1
                        try clear c2
                        try clear p2
                        try clear c3
                        try clear c3b0
                        try clear c4
                        try clear c5
                        try clear c8
                        try clear c9
                        try clear c10
                        try clear c11
                        try clear c12
                        try clear c13
                        try clear c14
                        try clear c15
                        try clear c16
                        try clear c21
                        try clear c24
                        try clear c31
                        try clear c31b0
                        try clear c33
                        try clear c38
                        try clear c41
                        try clear c41b0
                        try clear c44
                        try clear c44b0
                        try clear c44b1
                        try clear c54
                        try clear p2
                        obtain ⟨kq, x87_46, rfl, HA, HJ46, HO_7, HB⟩ := hcut
                        have hl7_46 := (Kd.R_reads' HO_7.out).1
                        rw [hl7_46] at HO_7
                        (try simp only [hl7_46])
                        cases kq with
                        | zero => exact absurd HA.out (by simp [laws_FnExactNextKinds.j2])
                        | succ kj46 =>
                          have H := HA.out
                          clear HA
                          simp only [laws_FnExactNextKinds.j2] at H
                          by_cases c59 : x87_46 = true
                          · subst c59
                            have H1 : (some false) = some r := by rw [if_pos rfl] at H; exact H
                            clear H
                            have H := H1
                            clear H1
                            obtain rfl := Option.some.inj H
                            go_wp2
                            go_ret
                            exact ⟨by first | rfl | (simp [errW_none, errW_some] <;> rfl) | (simp [*, errW_none, errW_some] <;> rfl), by repeat (first | (with_reducible first | exact HB.out | apply below_alloc | apply pw_below_drewN | apply below_drew1) | exact HB.out)⟩
                          · replace c59 := Bool.eq_false_iff.mpr c59
                            subst c59
                            have H1 : ((laws_heldIntS.f kj46 t176 1).bind fun t186 => (if t186 < 0 then (some false) else (if t186 = t175 then (some true) else (some false)))) = some r := by rw [if_neg (show ¬ (false = true) by decide)] at H; exact H
                            clear H
                            have H := H1
                            clear H1
                            replace H := Option.bind_eq_some_iff.mp H
                            obtain ⟨t186, A600, H⟩ := H
                            replace H : (if t186 < 0 then (some false) else (if t186 = t175 then (some true) else (some false))) = some r := H
                            have A60 := Aside0.mk A600
                            clear A600
                            by_cases c61 : t186 < 0
                            · rw [if_pos c61] at H
                              have c61b0 : decide (t186 < 0) = true := decide_eq_true c61
                              clear c61
                              obtain rfl := Option.some.inj H
                              go_wp2_with (first | ((with_reducible refine gate_callee (f := 16) rfl ?_); refine goesL_ (some 90) rfl rfl Try.func16 (by kernel_rfl) rfl #[.slice Ao48 t176.length co48, .int .i64 1] rfl (by (try simp only [List.map_toArray, List.map_cons, List.map_nil]); first | done | rfl | (simp only [List.length_drop, List.length_take]; rfl)) ?_; (with_reducible refine (laws_heldIntS.calls kj46 _ _ t176 1 t186 _ ?side1 ?side2 A60.out).mono ?_); (case side1 => repeat (first | exact (Kd.R_reads' HO_7.out).2.2 | (with_reducible refine Kd.C_alloc ?_ _) | (with_reducible refine Kd.C_drewN ?_ _) | (with_reducible refine Kd.C_drew ?_))); (case side2 => exact (Kd.R_reads' HO_7.out).2.1); rintro e w' ⟨rfl, ⟨nd, rfl⟩⟩; refine ⟨_, rfl, ?_⟩))
                              go_ret
                              exact ⟨by first | rfl | (simp [errW_none, errW_some] <;> rfl) | (simp [*, errW_none, errW_some] <;> rfl), by repeat (first | (with_reducible first | exact HB.out | apply below_alloc | apply pw_below_drewN | apply below_drew1) | exact HB.out)⟩
                            · rw [if_neg c61] at H
                              have c61b0 : decide (t186 < 0) = false := decide_eq_false c61
                              clear c61
                              by_cases c62 : t186 = t175
                              · rw [if_pos c62] at H
                                have c62b0 : (t186 == t175) = true := beq_iff_eq.mpr c62
                                have c62b1 : (t186 != t175) = false := bne_eq_false_iff_eq.mpr c62
                                clear c62
                                obtain rfl := Option.some.inj H
                                go_wp2_with (first | ((with_reducible refine gate_callee (f := 16) rfl ?_); refine goesL_ (some 90) rfl rfl Try.func16 (by kernel_rfl) rfl #[.slice Ao48 t176.length co48, .int .i64 1] rfl (by (try simp only [List.map_toArray, List.map_cons, List.map_nil]); first | done | rfl | (simp only [List.length_drop, List.length_take]; rfl)) ?_; (with_reducible refine (laws_heldIntS.calls kj46 _ _ t176 1 t186 _ ?side1 ?side2 A60.out).mono ?_); (case side1 => repeat (first | exact (Kd.R_reads' HO_7.out).2.2 | (with_reducible refine Kd.C_alloc ?_ _) | (with_reducible refine Kd.C_drewN ?_ _) | (with_reducible refine Kd.C_drew ?_))); (case side2 => exact (Kd.R_reads' HO_7.out).2.1); rintro e w' ⟨rfl, ⟨nd, rfl⟩⟩; refine ⟨_, rfl, ?_⟩))
                                go_ret
                                exact ⟨by first | rfl | (simp [errW_none, errW_some] <;> rfl) | (simp [*, errW_none, errW_some] <;> rfl), by repeat (first | (with_reducible first | exact HB.out | apply below_alloc | apply pw_below_drewN | apply below_drew1) | exact HB.out)⟩
                              · rw [if_neg c62] at H
                                have c62b0 : (t186 == t175) = false := beq_eq_false_iff_ne.mpr c62
                                have c62b1 : (t186 != t175) = true := bne_iff_ne.mpr c62
                                obtain rfl := Option.some.inj H
                                go_wp2_with (first | ((with_reducible refine gate_callee (f := 16) rfl ?_); refine goesL_ (some 90) rfl rfl Try.func16 (by kernel_rfl) rfl #[.slice Ao48 t176.length co48, .int .i64 1] rfl (by (try simp only [List.map_toArray, List.map_cons, List.map_nil]); first | done | rfl | (simp only [List.length_drop, List.length_take]; rfl)) ?_; (with_reducible refine (laws_heldIntS.calls kj46 _ _ t176 1 t186 _ ?side1 ?side2 A60.out).mono ?_); (case side1 => repeat (first | exact (Kd.R_reads' HO_7.out).2.2 | (with_reducible refine Kd.C_alloc ?_ _) | (with_reducible refine Kd.C_drewN ?_ _) | (with_reducible refine Kd.C_drew ?_))); (case side2 => exact (Kd.R_reads' HO_7.out).2.1); rintro e w' ⟨rfl, ⟨nd, rfl⟩⟩; refine ⟨_, rfl, ?_⟩))
                                go_ret
                                exact ⟨by first | rfl | (simp [errW_none, errW_some] <;> rfl) | (simp [*, errW_none, errW_some] <;> rfl), by repeat (first | (with_reducible first | exact HB.out | apply below_alloc | apply pw_below_drewN | apply below_drew1) | exact HB.out)⟩
                    · rw [if_neg c44] at H
                      have c44b0 : (t177 == t175) = false := beq_eq_false_iff_ne.mpr c44
                      have c44b1 : (t177 != t175) = true := bne_iff_ne.mpr c44
                      obtain rfl := Option.some.inj H
                      obtain ⟨Ao63, co63, eo63⟩ := Kd.R_slice HO_7.out
                      subst eo63
                      go_wp2_with (first | ((with_reducible refine gate_callee (f := 15) rfl ?_); refine goesL_ (some 64) rfl rfl Try.func15 (by kernel_rfl) rfl #[.slice Ao63 t163.length co63, .int .i64 1] rfl (by (try simp only [List.map_toArray, List.map_cons, List.map_nil]); first | done | rfl | (simp only [List.length_drop, List.length_take]; rfl)) ?_; (with_reducible refine (laws_markIntS.calls kj25 (fun k_ => some k_ = (.slice Ao63 t163.length co63 : Value).ownBlock) (.slice Ao63 t163.length co63) t163 1 t175 t176 w _ ?side1 ?side2 A39.out).mono ?_); (case side1 => repeat (first | (with_reducible first | exact HB.out | apply below_alloc | apply pw_below_drewN | apply below_drew1) | exact HB.out)); (case side2 => exact Kd.R_tight rfl HO_7.out); rintro e w64 ⟨rfl, hy0, hb, hkp⟩; refine ⟨_, rfl, ?_⟩; have n0_ := Aside0.mk (Kd.R_mono (ok' := fun k_ => some k_ ≠ (.slice Ao63 t163.length co63 : Value).ownBlock) (Kd.R_keptB (HO_4.out) hkp (fun k_ hk_ hs_ => (hk_) hs_)) (fun k_ hk_ => hk_.1)); have n1_ := Aside0.mk (Kd.R_reok rfl hy0 (fun k_ e_ => HO_7.out.1 k_ e_)); have n2_ := Aside0.mk (hb); clear HO_4; clear HO_7; clear HB; have HO_4 := n0_; have HO_7 := n1_; have HB := n2_; clear n0_ n1_ n2_; (try clear hb); (try clear hkp); (try clear hy0)) | ((with_reducible refine gate_callee (f := 16) rfl ?_); refine goesL_ (some 67) rfl rfl Try.func16 (by kernel_rfl) rfl #[.slice Ao63 t176.length co63, .int .i64 1] rfl (by (try simp only [List.map_toArray, List.map_cons, List.map_nil]); first | done | (rw [show t176.length = t163.length from (Kd.R_reads' HO_7.out).1.symm] <;> rfl) | rfl | (simp only [List.length_drop, List.length_take]; rfl)) ?_; (with_reducible refine (laws_heldIntS.calls kj25 _ _ t176 1 t177 _ ?side1 ?side2 A40.out).mono ?_); (case side1 => repeat (first | exact (Kd.R_reads' HO_7.out).2.2 | (with_reducible refine Kd.C_alloc ?_ _) | (with_reducible refine Kd.C_drewN ?_ _) | (with_reducible refine Kd.C_drew ?_))); (case side2 => rw [show t176.length = t163.length from (Kd.R_reads' HO_7.out).1.symm]; exact (Kd.R_reads' HO_7.out).2.1); rintro e w' ⟨rfl, ⟨nd, rfl⟩⟩; refine ⟨_, rfl, ?_⟩))
                      go_ret
                      exact ⟨by first | rfl | (simp [errW_none, errW_some] <;> rfl) | (simp [*, errW_none, errW_some] <;> rfl), by repeat (first | (with_reducible first | exact HB.out | apply below_alloc | apply pw_below_drewN | apply below_drew1) | exact HB.out)⟩
          · replace c24 := Bool.eq_false_iff.mpr c24
            subst c24
            have H1 : (some false) = some r := by rw [if_neg (show ¬ (false = true) by decide)] at H; exact H
            clear H
            have H := H1
            clear H1
            obtain rfl := Option.some.inj H
            go_wp2_with (first | ((with_reducible refine gate_callee (f := 10) rfl ?_); refine goesL_ (some 43) rfl rfl Try.func10 (by kernel_rfl) rfl #[.slice A0 l0.length c0] rfl (by (try simp only [List.map_toArray, List.map_cons, List.map_nil]); first | done | rfl | (simp only [List.length_drop, List.length_take]; rfl)) ?_; (with_reducible refine (laws_toEventS.calls kj7 _ _ l0 t168 _ ?side1 ?side2 A22.out).mono ?_); (case side1 => repeat (first | exact (Kd.C_below HR0.out HB.out) | (with_reducible refine Kd.C_alloc ?_ _) | (with_reducible refine Kd.C_drewN ?_ _) | (with_reducible refine Kd.C_drew ?_))); (case side2 => exact HC0.out); rintro e w65 ⟨v169, rfl, ho0, hb⟩; refine ⟨_, rfl, ?_⟩; have n0_ := Aside0.mk (Kd.R_below (by (with_reducible repeat (first | apply Kd.R_alloc | apply Kd.R_drewN | apply Kd.R_drew)); exact HO_4.out) hb); have n1_ := Aside0.mk (Kd.R_elder' (by (with_reducible repeat (first | apply Kd.R_alloc | apply Kd.R_drewN | apply Kd.R_drew)); exact HO_6.out) (Kd.R_base ho0) hb); have n2_ := Aside0.mk (Kd.R_below (by (with_reducible repeat (first | apply Kd.R_alloc | apply Kd.R_drewN | apply Kd.R_drew)); exact HO_7.out) hb); have n3_ := Aside0.mk (Kd.R_lower (Kd.R_new' ho0 (Kd.R_lt (by (with_reducible repeat (first | apply Kd.R_alloc | apply Kd.R_drewN | apply Kd.R_drew)); exact HO_6.out))) (below_size (by repeat (first | (with_reducible first | exact HB.out | apply below_alloc | apply pw_below_drewN | apply below_drew1) | exact HB.out)))); have n4_ := Aside0.mk (below_step (by repeat (first | (with_reducible first | exact HB.out | apply below_alloc | apply pw_below_drewN | apply below_drew1) | exact HB.out)) hb); clear HO_4; clear HO_6; clear HO_7; clear HB; have HO_4 := n0_; have HO_6 := n1_; have HO_7 := n2_; have HO170 := n3_; have HB := n4_; clear n0_ n1_ n2_ n3_ n4_; (try clear hb); (try clear hb2); (try clear hk); (try clear hi); (try clear ho0); obtain ⟨Ao66, co66, eo66⟩ := Kd.R_slice HO170.out; subst eo66) | ((with_reducible refine gate_callee (f := 13) rfl ?_); refine goesL_ (some 44) rfl rfl Try.func13 (by kernel_rfl) rfl #[.slice Ao13 t160.length co13, .slice Ao66 t168.length co66] rfl (by (try simp only [List.map_toArray, List.map_cons, List.map_nil]); first | done | rfl | (simp only [List.length_drop, List.length_take]; rfl)) ?_; (with_reducible refine (laws_eqEventS.calls kj7 _ _ t160 _ _ t168 false _ ?side1 ?side2 ?side3 ?side4 A23.out).mono ?_); (case side1 => repeat (first | exact (Kd.R_reads' HO_6.out).2.2 | (with_reducible refine Kd.C_alloc ?_ _) | (with_reducible refine Kd.C_drewN ?_ _) | (with_reducible refine Kd.C_drew ?_))); (case side2 => exact (Kd.R_reads' HO_6.out).2.1); (case side3 => repeat (first | exact (Kd.R_reads' HO170.out).2.2 | (with_reducible refine Kd.C_alloc ?_ _) | (with_reducible refine Kd.C_drewN ?_ _) | (with_reducible refine Kd.C_drew ?_))); (case side4 => exact (Kd.R_reads' HO170.out).2.1); rintro e w67 ⟨rfl, hb⟩; refine ⟨_, rfl, ?_⟩; have n0_ := Aside0.mk (Kd.R_below (by (with_reducible repeat (first | apply Kd.R_alloc | apply Kd.R_drewN | apply Kd.R_drew)); exact HO_4.out) hb); have n1_ := Aside0.mk (Kd.R_below (by (with_reducible repeat (first | apply Kd.R_alloc | apply Kd.R_drewN | apply Kd.R_drew)); exact HO_6.out) hb); have n2_ := Aside0.mk (Kd.R_below (by (with_reducible repeat (first | apply Kd.R_alloc | apply Kd.R_drewN | apply Kd.R_drew)); exact HO_7.out) hb); have n3_ := Aside0.mk (Kd.R_below (by (with_reducible repeat (first | apply Kd.R_alloc | apply Kd.R_drewN | apply Kd.R_drew)); exact HO170.out) hb); have n4_ := Aside0.mk (below_step (by repeat (first | (with_reducible first | exact HB.out | apply below_alloc | apply pw_below_drewN | apply below_drew1) | exact HB.out)) hb); clear HO_4; clear HO_6; clear HO_7; clear HO170; clear HB; have HO_4 := n0_; have HO_6 := n1_; have HO_7 := n2_; have HO170 := n3_; have HB := n4_; clear n0_ n1_ n2_ n3_ n4_; (try clear hb); (try clear hb2); (try clear hk); (try clear hi)))
            go_ret
            exact ⟨by first | rfl | (simp [errW_none, errW_some] <;> rfl) | (simp [*, errW_none, errW_some] <;> rfl), by repeat (first | (with_reducible first | exact HB.out | apply below_alloc | apply pw_below_drewN | apply below_drew1) | exact HB.out)⟩

end Go.Proofs.Ytpalafegcndccaa.X

/- The next kinds of a history; marks of events. -/
namespace Go.Proofs.Ytpalafegcndccaa.X
open Go.RowKit Go.Proofs.YtpalafegcndccaaW.PrintWords Go.Proofs.YtpalafegcndccaaL
set_option linter.unusedVariables false
set_option linter.unusedSimpArgs false
theorem markEventS_ev (l : List Event) (h : l.length ≤ 1048576) : ∃ r, Ev (fun k => laws_markEventS.f k l 1) r ∧ 0 ≤ r.1 := by
  have key : ∀ (d n : Nat) (x : List Event), x.length = l.length → n + d = l.length → ∃ r, Ev (fun k => laws_markEventS.l0 k x (2 * (n : Int) + 1) n) r ∧ 0 ≤ r.1 := by
    intro d
    induction d with
    | zero => intro n x hx hn; exact ⟨(2 * (n : Int) + 1, x), Ev.step (f := fun _ => some _) (fun k => by simp only [laws_markEventS.l0]; rw [if_neg (by omega)]) (Ev.now _), by show (0 : Int) ≤ 2 * (n : Int) + 1; omega⟩
    | succ d ih =>
      intro n x hx hn
      obtain ⟨r, hr, h0⟩ := ih (n + 1) ((x.set (n : Int).toNat ⟨2 * (n : Int) + 1, (rd_T61 x n).f1⟩).set (n : Int).toNat ⟨(rd_T61 (x.set (n : Int).toNat ⟨2 * (n : Int) + 1, (rd_T61 x n).f1⟩) n).f0, 2 * (n : Int) + 1 + 1⟩) (by rw [List.length_set, List.length_set]; exact hx) (by omega)
      refine ⟨r, Ev.step (fun k => ?_) hr, h0⟩
      simp only [laws_markEventS.l0]
      rw [if_pos (by omega), if_pos (by omega)]
      simp only [Option.bind_some]
      rw [wrap_id (x := 2 * (n : Int) + 1 + 1) (by omega) (by omega), wrap_id (x := 2 * (n : Int) + 1 + 1 + 1) (by omega) (by omega), wrap_succ (by omega), show 2 * (n : Int) + 1 + 1 + 1 = 2 * ((n + 1 : Nat) : Int) + 1 by omega]
  obtain ⟨r, hr, h0⟩ := key l.length 0 l rfl (by omega)
  exact ⟨r, hr, h0⟩
def kindStep (s x : Int) (out : List Int) : List Int := if 0 ≤ nxt s x then out ++ [x] else out
def kindsOf (s : Int) (n : Nat) : List Int := if n < 20 then loopN (kindStep s) 6 1 [] else []
theorem loopKinds_length (s : Int) : ∀ (d : Nat) (x : Int) (out : List Int), (loopN (kindStep s) d x out).length ≤ out.length + d := by
  intro d
  induction d with
  | zero => intro x out; simp [loopN]
  | succ d ih =>
    intro x out
    show (loopN (kindStep s) d (x + 1) (kindStep s x out)).length ≤ _
    have := ih (x + 1) (kindStep s x out)
    have h2 : (kindStep s x out).length ≤ out.length + 1 := by unfold kindStep; split <;> simp
    omega
theorem kindsOf_length (s : Int) (n : Nat) : (kindsOf s n).length ≤ 6 := by
  unfold kindsOf
  split
  · have := loopKinds_length s 6 1 []; simpa using this
  · simp
theorem specKinds_loop (l : List Event) (s : Int) (hl : l.length < 20) : ∀ (d : Nat) (x : Int) (out : List Int), x + d = 7 → 1 ≤ x → out.length ≤ 100 - d → d ≤ 6 → Ev (fun k => spec_NextKinds.l0 k l out s x) (loopN (kindStep s) d x out, true) := by
  intro d
  induction d with
  | zero => intro x out hx h1 hb hd; exact Ev.step (f := fun k => spec_NextKinds.j1 k l out s x false) (fun k => by simp only [spec_NextKinds.l0]; rw [if_neg (by omega)]) (Ev.step (f := fun _ => some _) (fun k => by simp only [spec_NextKinds.j1]; rw [if_neg (by decide)]; rfl) (Ev.now _))
  | succ d ih =>
    intro x out hx h1 hb hd
    refine Ev.step (f := fun k => spec_NextKinds.j1 k l out s x true) (fun k => by simp only [spec_NextKinds.l0]; rw [if_pos (by omega), decide_eq_true (by omega)]) ?_
    refine Ev.step (f := fun k => (spec_l23Next.f k s x).bind fun t => if t ≥ 0 then spec_NextKinds.l0 k l (out ++ [x]) s (x + 1) else spec_NextKinds.l0 k l out s (x + 1)) (fun k => by simp only [spec_NextKinds.j1, if_true]; rw [wrap_id (x := x + 1) (by omega) (by omega), if_pos (show out.length < 17592186044416 by omega)]) ?_
    refine Ev.bind (specNext_ev _ _) ?_
    show Ev _ (loopN (kindStep s) d (x + 1) (kindStep s x out), true)
    unfold kindStep
    by_cases c : 0 ≤ nxt s x
    · simp only [if_pos c, if_pos (show nxt s x ≥ 0 from c)]; exact ih (x + 1) _ (by omega) (by omega) (by simp; omega) (by omega)
    · simp only [if_neg c, if_neg (show ¬ nxt s x ≥ 0 from c)]; exact ih (x + 1) _ (by omega) (by omega) (by omega) (by omega)
theorem implKinds_loop (l : List Event) (s : Int) (hl : l.length < 20) : ∀ (d : Nat) (x : Int) (out : List Int), x + d = 7 → 1 ≤ x → out.length ≤ 100 - d → d ≤ 6 → Ev (fun k => impl_NextKinds.l0 k l s out x) (loopN (kindStep s) d x out, true) := by
  intro d
  induction d with
  | zero => intro x out hx h1 hb hd; exact Ev.step (f := fun k => impl_NextKinds.j1 k l s out x false) (fun k => by simp only [impl_NextKinds.l0]; rw [if_neg (by omega)]) (Ev.step (f := fun _ => some _) (fun k => by simp only [impl_NextKinds.j1]; rw [if_neg (by decide)]; rfl) (Ev.now _))
  | succ d ih =>
    intro x out hx h1 hb hd
    refine Ev.step (f := fun k => impl_NextKinds.j1 k l s out x true) (fun k => by simp only [impl_NextKinds.l0]; rw [if_pos (by omega), decide_eq_true (by omega)]) ?_
    refine Ev.step (f := fun k => (impl_nextState.f k s x).bind fun t => if t.2 = true then impl_NextKinds.l0 k l s (out ++ [x]) (x + 1) else impl_NextKinds.l0 k l s out (x + 1)) (fun k => by simp only [impl_NextKinds.j1, if_true]; rw [wrap_id (x := x + 1) (by omega) (by omega), if_pos (show out.length < 17592186044416 by omega)]) ?_
    refine Ev.bind (implNext_ev _ _) ?_
    show Ev _ (loopN (kindStep s) d (x + 1) (kindStep s x out), true)
    unfold kindStep
    by_cases c : 0 ≤ nxt s x
    · simp only [if_pos c, if_true]; exact ih (x + 1) _ (by omega) (by omega) (by simp; omega) (by omega)
    · simp only [if_neg c, Bool.false_eq_true, if_false]; exact ih (x + 1) _ (by omega) (by omega) (by omega) (by omega)
noncomputable def nextKinds (l : List Event) : List Int × Bool := match hist l with | some s => (kindsOf s l.length, true) | none => ([], false)
theorem nextKinds_length (l : List Event) : (nextKinds l).1.length ≤ 6 := by
  unfold nextKinds
  cases hist l with
  | none => simp
  | some s => exact kindsOf_length s _
theorem specKinds_ev (l : List Event) : Ev (fun k => spec_NextKinds.f k l) (nextKinds l) := by
  unfold spec_NextKinds.f nextKinds
  simp only [Option.bind_some]
  refine Ev.bind (specState_ev l) ?_
  cases h : hist l with
  | none => simp only [Option.getD_none, if_pos (show (-1 : Int) < 0 by omega)]; exact Ev.now _
  | some s =>
    have hs := hist_nonneg h
    simp only [Option.getD_some, if_neg (show ¬ s < 0 by omega)]
    unfold kindsOf
    by_cases hl : l.length < 20
    · rw [if_pos hl]; exact specKinds_loop l s hl 6 1 [] (by omega) (by omega) (by simp) (by omega)
    · rw [if_neg hl]
      exact Ev.step (f := fun k => spec_NextKinds.j1 k l [] s 1 false) (fun k => by simp only [spec_NextKinds.l0]; rw [if_pos (by omega), decide_eq_false (by omega)]) (Ev.step (f := fun _ => some _) (fun k => by simp only [spec_NextKinds.j1]; rw [if_neg (by decide)]) (Ev.now _))
theorem implKinds_ev (l : List Event) (hb : l.length ≤ 1048576) : Ev (fun k => impl_NextKinds.f k l) (nextKinds l) := by
  unfold impl_NextKinds.f nextKinds
  obtain ⟨r, hr, h2, h1⟩ := implState_ev l hb
  refine Ev.bind hr ?_
  cases h : hist l with
  | none =>
    rw [h] at h2
    simp only [h2, Option.isSome_none, Bool.false_eq_true, if_false]; exact Ev.now _
  | some s =>
    rw [h] at h2
    simp only [h2, Option.isSome_some, if_true, h1 s h]
    unfold kindsOf
    by_cases hl : l.length < 20
    · rw [if_pos hl]; exact implKinds_loop l s hl 6 1 [] (by omega) (by omega) (by simp) (by omega)
    · rw [if_neg hl]
      exact Ev.step (f := fun k => impl_NextKinds.j1 k l s [] 1 false) (fun k => by simp only [impl_NextKinds.l0]; rw [if_pos (by omega), decide_eq_false (by omega)]) (Ev.step (f := fun _ => some _) (fun k => by simp only [impl_NextKinds.j1]; rw [if_neg (by decide)]) (Ev.now _))
end Go.Proofs.Ytpalafegcndccaa.X

/- A drawn history: the draw comes to an end, and its list is short. -/
namespace Go.Proofs.Ytpalafegcndccaa.X
open Go.RowKit Go.Proofs.YtpalafegcndccaaW.PrintWords Go.Proofs.YtpalafegcndccaaL
set_option linter.unusedVariables false
set_option linter.unusedSimpArgs false
theorem okE_append (l : List Event) (e : Event) (n : Nat) (s : Int) (h : n < l.length) : okE (l ++ [e]) n s (by rw [List.length_append]; omega) ↔ okE l n s h := by
  have a : (l ++ [e])[n]'(by rw [List.length_append]; omega) = l[n] := List.getElem_append_left h
  unfold okE
  constructor
  · rintro ⟨b, c, d, f⟩
    rw [a] at b c f
    refine ⟨b, c, fun h0 => ?_, f⟩
    have := d h0
    rw [a, List.getElem_append_left (show n - 1 < l.length by omega)] at this; exact this
  · rintro ⟨b, c, d, f⟩
    refine ⟨by rw [a]; exact b, by rw [a]; exact c, fun h0 => ?_, by rw [a]; exact f⟩
    have := d h0
    rw [a, List.getElem_append_left (show n - 1 < l.length by omega)]; exact this
theorem runE_append (l : List Event) (e : Event) (t : Int) (h0 : 0 ≤ e.f0) (h1 : e.f0 ≤ 9999) (hd : ∀ y ∈ l, y.f0 ≤ e.f0) (hk : 0 ≤ nxt t e.f1) : ∀ (d n : Nat) (s : Int), n + d = l.length → runE l d n s = some t → runE (l ++ [e]) (d + 1) n s = some (nxt t e.f1) := by
  intro d
  induction d with
  | zero =>
    intro n s hn hr
    simp only [runE, Option.some.injEq] at hr
    subst hr
    have hlt : n < (l ++ [e]).length := by rw [List.length_append]; simp; omega
    have a : (l ++ [e])[n]'hlt = e := by rw [List.getElem_append_right (by omega)]; simp [show n - l.length = 0 by omega]
    simp only [runE, dif_pos hlt, a]
    rw [if_pos]
    unfold okE
    refine ⟨by rw [a]; exact h0, by rw [a]; exact h1, fun hp => ?_, by rw [a]; exact hk⟩
    rw [a, List.getElem_append_left (show n - 1 < l.length by omega)]
    exact hd _ (List.getElem_mem _)
  | succ d ih =>
    intro n s hn hr
    have hln : n < l.length := by omega
    simp only [runE, dif_pos hln] at hr
    by_cases ok : okE l n s hln
    · rw [if_pos ok] at hr
      have i1 := ih (n + 1) _ (by omega) hr
      have hlt : n < (l ++ [e]).length := by rw [List.length_append]; omega
      have a : (l ++ [e])[n]'hlt = l[n] := List.getElem_append_left hln
      rw [runE, dif_pos hlt, if_pos ((okE_append l e n s hln).2 ok), a]
      exact i1
    · rw [if_neg ok] at hr; cases hr
theorem hist_append {l : List Event} {t : Int} (h : hist l = some t) (hl : l.length < 20) (e : Event) (h0 : 0 ≤ e.f0) (h1 : e.f0 ≤ 9999) (hd : ∀ y ∈ l, y.f0 ≤ e.f0) (hk : 0 ≤ nxt t e.f1) : hist (l ++ [e]) = some (nxt t e.f1) := by
  unfold hist at h ⊢
  rw [if_pos (by omega)] at h
  rw [if_pos (by rw [List.length_append]; simp; omega), List.length_append]
  exact runE_append l e t h0 h1 hd hk l.length 0 0 (by omega) h
theorem runE_state (l : List Event) : ∀ (d n : Nat) (s r : Int), (s = 0 ∨ s = 1 ∨ s = 2) → runE l d n s = some r → (r = 0 ∨ r = 1 ∨ r = 2) := by
  intro d
  induction d with
  | zero => intro n s r hs h; simp only [runE, Option.some.injEq] at h; omega
  | succ d ih =>
    intro n s r hs h
    simp only [runE] at h
    split at h
    · split at h
      · rename_i h1 h2
        refine ih _ _ _ ?_ h
        have := h2.2.2.2
        rcases nxt_or s l[n].f1 with a | a | a | a <;> omega
      · cases h
    · cases h
theorem hist_state {l : List Event} {s : Int} (h : hist l = some s) : s = 0 ∨ s = 1 ∨ s = 2 := by
  unfold hist at h; split at h
  · exact runE_state l _ _ _ _ (.inl rfl) h
  · cases h
theorem kinds6 (s : Int) (hs : s = 0 ∨ s = 1 ∨ s = 2) : loopN (kindStep s) 6 1 [] ≠ [] ∧ ∀ x ∈ loopN (kindStep s) 6 1 [], 0 ≤ nxt s x := by
  rcases hs with rfl | rfl | rfl <;> (simp only [loopN, kindStep, nxt]; simp)
theorem drawKinds_loop {b : List Int} (hb : okB b) (l : List Event) (s : Int) (hs : hist l = some s) (day n : Int) (r : List Event × Int × Int) (p sd : Int)
    (fin : ∀ kinds, kinds = loopN (kindStep s) 6 1 [] → Ev (fun k => (spec_l1Cur_among.f b p sd [0, 0, 1, 3, 10]).bind fun bt303 => (spec_l1Cur_pick.f b bt303.2.1 bt303.2.2 (kinds.length : Int)).bind fun bt306 => if 0 ≤ bt306.1 then (if bt306.1 < (kinds.length : Int) then (if l.length < 8796093022208 then spec_l1Cur_history.l0 k (l ++ [⟨wrap64 (day + bt303.1), rd kinds bt306.1⟩]) (wrap64 (day + bt303.1)) (wrap64 (n - 1)) b bt306.2.1 bt306.2.2 else none) else none) else none) r) :
    ∀ (d : Nat) (x : Int) (out : List Int), x + d = 7 → 1 ≤ x → out.length ≤ 100 - d → d ≤ 6 → loopN (kindStep s) d x out = loopN (kindStep s) 6 1 [] → Ev (fun k => spec_l1Cur_history.l1 k l day n out x b p sd) r := by
  intro d
  induction d with
  | zero =>
    intro x out hx h1 ho hd he
    refine Ev.step (fun k => ?_) (fin out he)
    simp only [spec_l1Cur_history.l1]
    rw [if_neg (by omega)]
  | succ d ih =>
    intro x out hx h1 ho hd he
    refine Ev.step (f := fun k => (spec_l23State.f k l).bind fun t => (spec_l23Next.f k t x).bind fun t2 => if t2 ≥ 0 then spec_l1Cur_history.l1 k l day n (out ++ [x]) (x + 1) b p sd else spec_l1Cur_history.l1 k l day n out (x + 1) b p sd) (fun k => ?_) ?_
    · simp only [spec_l1Cur_history.l1]
      rw [if_pos (by omega), wrap_id (x := x + 1) (by omega) (by omega), if_pos (show out.length < 17592186044416 by omega)]
    · have hsE := specState_ev l
      rw [hs] at hsE
      refine Ev.bind hsE (Ev.bind (specNext_ev _ _) ?_)
      simp only [Option.getD_some]
      have he2 : loopN (kindStep s) d (x + 1) (kindStep s x out) = loopN (kindStep s) 6 1 [] := he
      unfold kindStep at he2
      by_cases c : 0 ≤ nxt s x
      · simp only [if_pos (show nxt s x ≥ 0 from c)]
        rw [if_pos c] at he2
        exact ih (x + 1) _ (by omega) (by omega) (by simp; omega) (by omega) he2
      · simp only [if_neg (show ¬ nxt s x ≥ 0 from c)]
        rw [if_neg c] at he2
        exact ih (x + 1) _ (by omega) (by omega) (by omega) (by omega) he2
theorem drawHist_loop {b : List Int} (hb : okB b) : ∀ (d : Nat) (l : List Event) (day p sd s : Int), hist l = some s → l.length + d ≤ 9 → 0 ≤ day → day ≤ 19 + 10 * l.length → (∀ y ∈ l, y.f0 ≤ day) → 0 ≤ p → p + 4 * d ≤ 800000000000 →
    DrawnE (fun k => spec_l1Cur_history.l0 k l day (d : Int) b p sd) p (4 * d) (fun r => r.length ≤ 9 ∧ ∃ t, hist r = some t) := by
  intro d
  induction d with
  | zero => intro l day p sd s hs hl h0 h1 hd p0 p1; exact ⟨l, p, sd, Ev.step (f := fun _ => some _) (fun k => by simp only [spec_l1Cur_history.l0]; rw [if_neg (by omega)]) (Ev.now _), ⟨by omega, s, hs⟩, by omega, by omega⟩
  | succ d ih =>
    intro l day p sd s hs hl h0 h1 hd p0 p1
    obtain ⟨v, pa, sa, ea, qa, ba, ba2⟩ := among_ok hb p sd [0, 0, 1, 3, 10] p0 (by omega) (by simp) (by simp)
    have hv : 0 ≤ v ∧ v ≤ 10 := by simp at qa; omega
    obtain ⟨ne, km⟩ := kinds6 s (hist_state hs)
    have kl : (loopN (kindStep s) 6 1 []).length ≤ 6 := by have := loopKinds_length s 6 1 []; simpa using this
    have kp : 1 ≤ (loopN (kindStep s) 6 1 []).length := List.length_pos_iff.2 ne
    obtain ⟨w, pb, sb, eb, qb, bb, bb2⟩ := pick_ok hb pa sa ((loopN (kindStep s) 6 1 []).length : Int) (by omega) (by omega) (by omega)
    have hw := qb.2.1 (by omega)
    have hw2 : w = (w.toNat : Int) := by omega
    have hk : rd (loopN (kindStep s) 6 1 []) w ∈ loopN (kindStep s) 6 1 [] := by rw [hw2, rd_at _ w.toNat (by omega)]; exact List.getElem_mem _
    obtain ⟨r, pc, sc, ec, qc, bc, bc2⟩ := ih (l ++ [⟨day + v, rd (loopN (kindStep s) 6 1 []) w⟩]) (day + v) pb sb _ (hist_append hs (by omega) _ (show 0 ≤ day + v by omega) (show day + v ≤ 9999 by omega) (fun y hy => by have := hd y hy; show y.f0 ≤ day + v; omega) (km _ hk)) (by rw [List.length_append]; simp; omega) (by omega) (by rw [List.length_append]; simp; omega) (fun y hy => by
      rcases List.mem_append.1 hy with hy | hy
      · have := hd y hy; omega
      · simp only [List.mem_singleton] at hy; subst hy; show day + v ≤ day + v; omega) (by omega) (by omega)
    refine ⟨r, pc, sc, Ev.step (f := fun k => spec_l1Cur_history.l1 k l day ((d + 1 : Nat) : Int) [] 1 b p sd) (fun k => by simp only [spec_l1Cur_history.l0]; rw [if_pos (by omega)]) (drawKinds_loop hb l s hs day ((d + 1 : Nat) : Int) _ p sd (fun kinds hkk => ?_) 6 1 [] (by omega) (by omega) (by simp) (by omega) rfl), qc, by omega, by omega⟩
    subst hkk
    refine Ev.congr (fun k => ?_) ec
    simp only [ea, Option.bind_some, eb]
    rw [if_pos qb.1, if_pos hw, if_pos (by omega), wrap_id (x := day + v) (by omega) (by omega), wrap_id (x := ((d + 1 : Nat) : Int) - 1) (by omega) (by omega), show ((d + 1 : Nat) : Int) - 1 = (d : Int) by omega]
theorem hist_nil : hist [] = some 0 := by unfold hist; rw [if_pos (by simp)]; rfl
theorem history_ok {b : List Int} (hb : okB b) (p sd : Int) (p0 : 0 ≤ p) (p1 : p ≤ 700000000000) : DrawnE (fun k => spec_l1Cur_history.f k b p sd) p 100 (fun r => r.length ≤ 9 ∧ ∃ t, hist r = some t) := by
  obtain ⟨v, pa, sa, ea, qa, ba, ba2⟩ := pick_ok hb p sd 20 p0 (by omega) (by omega)
  obtain ⟨w, pb, sb, eb, qb, bb, bb2⟩ := pick_ok hb pa sa 10 (by omega) (by omega) (by omega)
  have v1 := qa.2.1 (by omega)
  have w1 := qb.2.1 (by omega)
  obtain ⟨r, pc, sc, ec, qc, bc, bc2⟩ := drawHist_loop hb w.toNat [] v pb sb 0 hist_nil (by simp; omega) qa.1 (by simp; omega) (by simp) (by omega) (by omega)
  refine ⟨r, pc, sc, Ev.congr (fun k => ?_) ec, qc, by omega, by omega⟩
  unfold spec_l1Cur_history.f
  rw [ea]; simp only [Option.bind_some]; rw [eb]; simp only [Option.bind_some]
  rw [show ((w.toNat : Nat) : Int) = w by omega]
theorem anyHist_l0 {b : List Int} (hb : okB b) : ∀ (d : Nat) (l : List Event) (x p sd : Int), x + d = 22 → 0 ≤ x → l.length ≤ x → 0 ≤ p → p + 2 * d ≤ 800000000000 →
    DrawnE (fun k => spec_l1Cur_anyHistory.l0 k l x b p sd) p (2 * d + 2) (fun r => r.length ≤ 22) := by
  intro d
  induction d with
  | zero =>
    intro l x p sd hx x0 hl p0 p1
    obtain ⟨v, pa, sa, ea, qa, ba, ba2⟩ := pick_ok hb p sd 2 p0 (by omega) (by omega)
    refine ⟨l, pa, sa, Ev.step (f := fun _ => some _) (fun k => ?_) (Ev.now _), by show l.length ≤ 22; omega, by omega, by omega⟩
    simp only [spec_l1Cur_anyHistory.l0, ea, Option.bind_some]
    rw [if_neg (show ¬ x < 22 by omega), ite_self]
  | succ d ih =>
    intro l x p sd hx x0 hl p0 p1
    obtain ⟨v, pa, sa, ea, qa, ba, ba2⟩ := pick_ok hb p sd 2 p0 (by omega) (by omega)
    have v1 := qa.2.1 (by omega)
    by_cases c : (l.length : Int) < 20 + v
    · obtain ⟨r, pc, sc, ec, qc, bc, bc2⟩ := ih (l ++ [⟨x, wrap64 (1 + (wrap64 (5 * (Int.tmod x 2))))⟩]) (x + 1) pa sa (by omega) (by omega) (by rw [List.length_append]; simp; omega) (by omega) (by omega)
      refine ⟨r, pc, sc, Ev.step (fun k => ?_) ec, qc, by omega, by omega⟩
      simp only [spec_l1Cur_anyHistory.l0, ea, Option.bind_some]
      rw [wrap_id (x := 20 + v) (by omega) (by omega), if_pos c, if_pos (show x < 22 by omega), if_pos (show l.length < 8796093022208 by omega), wrap_id (x := x + 1) (by omega) (by omega)]
    · refine ⟨l, pa, sa, Ev.step (f := fun _ => some _) (fun k => ?_) (Ev.now _), by show l.length ≤ 22; omega, by omega, by omega⟩
      simp only [spec_l1Cur_anyHistory.l0, ea, Option.bind_some]
      rw [wrap_id (x := 20 + v) (by omega) (by omega), if_neg c]
theorem anyHist_j2 {b : List Int} (hb : okB b) (l : List Event) (p sd : Int) (hl : l.length ≤ 22) (p0 : 0 ≤ p) (p1 : p ≤ 700000000000) : DrawnE (fun k => spec_l1Cur_anyHistory.j2 k l b p sd) p 100 (fun r => r.length ≤ 22) := by
  obtain ⟨v, pa, sa, ea, _, ba, ba2⟩ := one_ok hb p sd 24 p0 (by omega) (by omega)
  cases v with
  | true =>
    obtain ⟨r, pc, sc, ec, qc, bc, bc2⟩ := anyHist_l0 hb 22 [] 0 pa sa (by omega) (by omega) (by simp) (by omega) (by omega)
    exact ⟨r, pc, sc, Ev.step (fun k => by simp only [spec_l1Cur_anyHistory.j2, ea, Option.bind_some, if_true]) ec, qc, by omega, by omega⟩
  | false => exact ⟨l, pa, sa, Ev.step (f := fun _ => some _) (fun k => by simp only [spec_l1Cur_anyHistory.j2, ea, Option.bind_some]; rw [if_neg (by decide)]) (Ev.now _), hl, by omega, by omega⟩
theorem anyHist_j1 {b : List Int} (hb : okB b) (l : List Event) (c : Bool) (p sd : Int) (hc : c = true → 0 < l.length) (hl : l.length ≤ 22) (p0 : 0 ≤ p) (p1 : p ≤ 600000000000) : DrawnE (fun k => spec_l1Cur_anyHistory.j1 k l c b p sd) p 110 (fun r => r.length ≤ 22) := by
  cases c with
  | false =>
    obtain ⟨r, pc, sc, ec, qc, bc, bc2⟩ := anyHist_j2 hb l p sd hl p0 (by omega)
    exact ⟨r, pc, sc, Ev.step (fun k => by simp only [spec_l1Cur_anyHistory.j1]; rw [if_neg (by decide)]) ec, qc, by omega, by omega⟩
  | true =>
    have hp := hc rfl
    obtain ⟨v, pa, sa, ea, qa, ba, ba2⟩ := pick_ok hb p sd (l.length : Int) p0 (by omega) (by omega)
    obtain ⟨w, pb, sb, eb, qb, bb, bb2⟩ := pick_ok hb pa sa 30 (by omega) (by omega) (by omega)
    obtain ⟨y, pd, sd2, ed, qd, bd, bd2⟩ := pick_ok hb pb sb 6 (by omega) (by omega) (by omega)
    obtain ⟨r, pc, sc, ec, qc, bc, bc2⟩ := anyHist_j2 hb (l.set v.toNat ⟨w, wrap64 (1 + y)⟩) pd sd2 (by rw [List.length_set]; exact hl) (by omega) (by omega)
    have hv := qa.2.1 (by omega)
    refine ⟨r, pc, sc, Ev.step (fun k => ?_) ec, qc, by omega, by omega⟩
    simp only [spec_l1Cur_anyHistory.j1, if_true, ea, Option.bind_some, eb, ed]
    rw [if_pos qa.1, if_pos hv]
theorem anyHist_j0 {b : List Int} (hb : okB b) (l : List Event) (p sd : Int) (hl : l.length ≤ 22) (p0 : 0 ≤ p) (p1 : p ≤ 500000000000) : DrawnE (fun k => spec_l1Cur_anyHistory.j0 k l b p sd) p 120 (fun r => r.length ≤ 22) := by
  by_cases c : (l.length : Int) > 0
  · obtain ⟨v, pa, sa, ea, _, ba, ba2⟩ := one_ok hb p sd 16 p0 (by omega) (by omega)
    obtain ⟨r, pc, sc, ec, qc, bc, bc2⟩ := anyHist_j1 hb l v pa sa (fun _ => by omega) hl (by omega) (by omega)
    exact ⟨r, pc, sc, Ev.step (fun k => by simp only [spec_l1Cur_anyHistory.j0]; rw [if_pos c, ea]; simp only [Option.bind_some]) ec, qc, by omega, by omega⟩
  · obtain ⟨r, pc, sc, ec, qc, bc, bc2⟩ := anyHist_j1 hb l false p sd (fun z => by cases z) hl (by omega) (by omega)
    exact ⟨r, pc, sc, Ev.step (fun k => by simp only [spec_l1Cur_anyHistory.j0]; rw [if_neg c]) ec, qc, by omega, by omega⟩
theorem anyHistory_ok {b : List Int} (hb : okB b) (p sd : Int) (p0 : 0 ≤ p) (p1 : p ≤ 400000000000) : DrawnE (fun k => spec_l1Cur_anyHistory.f k b p sd) p 300 (fun r => r.length ≤ 22) := by
  obtain ⟨l, pa, sa, ea, qa, ba, ba2⟩ := history_ok hb p sd p0 (by omega)
  obtain ⟨v, pb, sb, eb, _, bb, bb2⟩ := one_ok hb pa sa 16 (by omega) (by omega) (by omega)
  cases v with
  | true =>
    obtain ⟨w, pd, sd2, ed, qd, bd, bd2⟩ := among_ok hb pb sb [(-1), 9999, 10000, 5] (by omega) (by omega) (by simp) (by simp)
    obtain ⟨y, pe, se, ee, qe, be, be2⟩ := pick_ok hb pd sd2 8 (by omega) (by omega) (by omega)
    obtain ⟨r, pc, sc, ec, qc, bc, bc2⟩ := anyHist_j0 hb (l ++ [⟨w, y⟩]) pe se (by have := qa.1; rw [List.length_append]; simp; omega) (by omega) (by omega)
    refine ⟨r, pc, sc, Ev.bind ea ?_, qc, by omega, by omega⟩
    refine Ev.congr (fun k => ?_) ec
    have := qa.1
    simp only [eb, Option.bind_some, if_true, ed, ee]
    rw [if_pos (show l.length < 8796093022208 by omega)]
  | false =>
    obtain ⟨r, pc, sc, ec, qc, bc, bc2⟩ := anyHist_j0 hb l pb sb (by have := qa.1; omega) (by omega) (by omega)
    refine ⟨r, pc, sc, Ev.bind ea ?_, qc, by omega, by omega⟩
    refine Ev.congr (fun k => ?_) ec
    simp only [eb, Option.bind_some]
    rw [if_neg (by decide)]
end Go.Proofs.Ytpalafegcndccaa.X

/- The law of the visits: whatever the draw, the visits and the days answer as it says. -/
namespace Go.Proofs.Ytpalafegcndccaa.X
open Go.RowKit Go.Proofs.YtpalafegcndccaaW.PrintWords Go.Proofs.YtpalafegcndccaaL
set_option linter.unusedVariables false
set_option linter.unusedSimpArgs false
def evCnt (x : Int) (l : List Event) : Nat := l.countP (fun e => e.f1 == x)
theorem evCnt_succ (x : Int) (l : List Event) (n : Nat) (h : n < l.length) : evCnt x (l.take (n + 1)) = evCnt x (l.take n) + if l[n].f1 = x then 1 else 0 := by
  unfold evCnt; rw [List.take_succ_eq_append_getElem h, List.countP_append]; simp
theorem evCnt_le (x : Int) (l : List Event) (n : Nat) : evCnt x (l.take n) ≤ n := Nat.le_trans List.countP_le_length (by rw [List.length_take]; omega)
/-- What the visits are worth in a state. -/
def InvV (s : Int) (out : List Visit) : Prop := (s ≠ 0 → out ≠ []) ∧ ∀ i (h : i < out.length), if i + 1 = out.length then (out[i].f1 < 0 ↔ s ≠ 0) else 0 ≤ out[i].f1
theorem inv_step {s : Int} {out : List Visit} {e : Event} (h : InvV s out) (hn : 0 ≤ nxt s e.f1) (hd : 0 ≤ e.f0) : InvV (nxt s e.f1) (visStep out e) := by
  refine ⟨vis_ne h.1 hn, fun i hi => ?_⟩
  have hne : ∀ (z : s ≠ 0), 0 < out.length := fun z => List.length_pos_iff.2 (h.1 z)
  by_cases c1 : e.f1 = 1 ∨ e.f1 = 2
  · have e1 : visStep out e = out ++ [⟨e.f0, -1⟩] := by unfold visStep; rw [if_pos c1]
    have hs : s = 0 := by
      unfold nxt at hn
      by_cases s0 : s = 0
      · exact s0
      · rw [if_neg (by intro z; exact s0 z.1), if_neg (by intro z; omega), if_neg (by intro z; omega), if_neg (by intro z; omega)] at hn; omega
    have hn1 : nxt s e.f1 = 1 := by unfold nxt; rw [if_pos ⟨hs, c1⟩]
    simp only [e1] at hi ⊢
    rw [List.length_append] at hi ⊢
    simp only [List.length_cons, List.length_nil] at hi ⊢
    by_cases c : i = out.length
    · subst c
      rw [if_pos rfl, hn1]
      simp
    · rw [if_neg (by omega), List.getElem_append_left (show i < out.length by omega)]
      have := h.2 i (by omega)
      by_cases d : i + 1 = out.length
      · rw [if_pos d] at this
        rcases Int.lt_or_le out[i].f1 0 with z | z
        · exact absurd hs (this.1 z)
        · exact z
      · rw [if_neg d] at this; exact this
  · by_cases c2 : e.f1 = 5 ∨ e.f1 = 6
    · have e1 : visStep out e = out.set (out.length - 1) ⟨(rd_T50 out ((out.length - 1 : Nat) : Int)).f0, e.f0⟩ := by unfold visStep; rw [if_neg c1, if_pos c2]
      have hn0 : nxt s e.f1 = 0 := by
        unfold nxt at hn ⊢
        rw [if_neg (by intro z; exact c1 z.2), if_neg (by intro z; omega), if_neg (by intro z; omega)] at hn ⊢
        by_cases d : s = 1 ∧ (e.f1 = 5 ∨ e.f1 = 6)
        · rw [if_pos d]
        · rw [if_neg d] at hn; omega
      simp only [e1] at hi ⊢
      rw [List.length_set] at hi ⊢
      by_cases d : i + 1 = out.length
      · rw [if_pos d, hn0]
        have : i = out.length - 1 := by omega
        subst this
        rw [List.getElem_set_self]
        show e.f0 < 0 ↔ _
        constructor
        · intro z; omega
        · intro z; exact absurd rfl z
      · rw [if_neg d, List.getElem_set_ne (by omega)]
        have := h.2 i hi
        rw [if_neg d] at this; exact this
    · have e1 : visStep out e = out := by unfold visStep; rw [if_neg c1, if_neg c2]
      simp only [e1] at hi ⊢
      have := h.2 i hi
      by_cases d : i + 1 = out.length
      · rw [if_pos d] at this ⊢
        rw [this]
        have hz : s ≠ 0 ∧ nxt s e.f1 ≠ 0 := by
          unfold nxt at hn ⊢
          rw [if_neg (by intro z; exact c1 z.2)] at hn ⊢
          by_cases a : s = 1 ∧ e.f1 = 3
          · rw [if_pos a]; omega
          · rw [if_neg a] at hn ⊢
            by_cases b : s = 2 ∧ e.f1 = 4
            · rw [if_pos b]; omega
            · rw [if_neg b, if_neg (by intro z; exact c2 z.2)] at hn; omega
        constructor
        · intro _; exact hz.2
        · intro _; exact hz.1
      · rw [if_neg d] at this ⊢; exact this
theorem evCnt_step {s : Int} {e : Event} (hn : 0 ≤ nxt s e.f1) (a b : Int) (h : a - b = if s = 2 then 1 else 0) : (a + if e.f1 = 3 then 1 else 0) - (b + if e.f1 = 4 then 1 else 0) = if nxt s e.f1 = 2 then 1 else 0 := by
  revert hn
  unfold nxt
  by_cases c1 : s = 0 ∧ (e.f1 = 1 ∨ e.f1 = 2)
  · rw [if_pos c1, if_neg (by omega), if_neg (by omega), if_neg (by omega)]; rw [if_neg (by omega)] at h; omega
  · rw [if_neg c1]
    by_cases c2 : s = 1 ∧ e.f1 = 3
    · rw [if_pos c2, if_pos c2.2, if_neg (by omega), if_pos rfl]; rw [if_neg (by omega)] at h; omega
    · rw [if_neg c2]
      by_cases c3 : s = 2 ∧ e.f1 = 4
      · rw [if_pos c3, if_neg (by omega), if_pos c3.2, if_neg (by omega)]; rw [if_pos c3.1] at h; omega
      · rw [if_neg c3]
        by_cases c4 : s = 1 ∧ (e.f1 = 5 ∨ e.f1 = 6)
        · rw [if_pos c4, if_neg (by omega), if_neg (by omega), if_neg (by omega)]; rw [if_neg (by omega)] at h; omega
        · rw [if_neg c4]; omega
theorem inv_run (l : List Event) : ∀ (d n : Nat) (s r : Int), n + d = l.length → InvV s (vis (l.take n)) → ((evCnt 3 (l.take n) : Int) - evCnt 4 (l.take n) = if s = 2 then 1 else 0) → runE l d n s = some r → InvV r (vis l) ∧ ((evCnt 3 l : Int) - evCnt 4 l = if r = 2 then 1 else 0) := by
  intro d
  induction d with
  | zero =>
    intro n s r hn hv hc h
    obtain rfl : n = l.length := by omega
    simp only [runE, Option.some.injEq] at h
    subst h
    rw [List.take_length] at hv hc
    exact ⟨hv, hc⟩
  | succ d ih =>
    intro n s r hn hv hc h
    have hln : n < l.length := by omega
    simp only [runE, dif_pos hln] at h
    by_cases ok : okE l n s hln
    · rw [if_pos ok] at h
      refine ih (n + 1) _ r (by omega) ?_ ?_ h
      · rw [vis_take_succ l n hln]; exact inv_step hv ok.2.2.2 ok.1
      · rw [evCnt_succ 3 l n hln, evCnt_succ 4 l n hln]
        have := evCnt_step ok.2.2.2 _ _ hc
        rw [← this]
        congr 1 <;> (split <;> simp)
    · rw [if_neg ok] at h; cases h
theorem hist_inv {l : List Event} {s : Int} (h : hist l = some s) : InvV s (vis l) ∧ ((evCnt 3 l : Int) - evCnt 4 l = if s = 2 then 1 else 0) :=
  inv_run l l.length 0 0 s (by omega) ⟨fun z => absurd rfl z, fun i hi => by simp [vis] at hi⟩ (by simp [evCnt]) (hist_some h).2
theorem day_fold (day : Int) (h0 : 0 ≤ day) (vs : List Visit) (hvs : ∀ v ∈ vs, okV v) : ∀ p : Int × Int, 0 ≤ p.1 → p.1 ≤ p.2 + 1 → p.2 ≤ day → 0 ≤ (vs.foldl (dayStep day) p).1 ∧ (vs.foldl (dayStep day) p).1 ≤ day + 1 := by
  induction vs with
  | nil => intro p a b c; simp only [List.foldl_nil]; omega
  | cons v vs ih =>
    intro p a b c
    rw [List.foldl_cons]
    obtain ⟨v0, v1, v2, v3⟩ := hvs v (List.mem_cons_self)
    have ht : till day v ≤ day := by
      unfold till; by_cases z : v.f1 < 0 ∨ v.f1 > day
      · rw [if_pos z]; omega
      · rw [if_neg z]; omega
    have hm : p.2 + 1 ≤ mx v.f0 (p.2 + 1) := by unfold mx; split <;> omega
    refine ih (fun y hy => hvs y (List.mem_cons_of_mem _ hy)) (dayStep day p v) ?_ ?_ ?_ <;> (unfold dayStep; split <;> (first | omega | (dsimp only; omega)))
theorem stacked_loop (l : List Event) (hl : l.length ≤ 1048576) : ∀ (d n : Nat), n + d = l.length → Ev (fun k => impl_TimesStacked.l0 k (evCnt 3 (l.take n) : Int) (evCnt 4 (l.take n) : Int) l (l.length : Int) n) ((evCnt 3 l : Int), (evCnt 4 l : Int), true) := by
  intro d
  induction d with
  | zero =>
    intro n hn
    obtain rfl : n = l.length := by omega
    rw [List.take_length]
    exact Ev.step (f := fun _ => some _) (fun k => by simp only [impl_TimesStacked.l0]; rw [if_neg (by omega)]) (Ev.now _)
  | succ d ih =>
    intro n hn
    have hln : n < l.length := by omega
    have c3 := evCnt_le 3 l n
    have c4 := evCnt_le 4 l n
    have i1 := ih (n + 1) (by omega)
    rw [evCnt_succ 3 l n hln, evCnt_succ 4 l n hln] at i1
    by_cases a : l[n].f1 = 3
    · rw [if_pos a, if_neg (by omega)] at i1
      refine Ev.step (fun k => ?_) i1
      simp only [impl_TimesStacked.l0]
      rw [if_pos (by omega), if_pos (by omega), if_pos (by omega), rdE l n hln, if_pos a, wrap_succ (n := n) (by omega), wrap_succ (by omega)]
      rfl
    · by_cases b : l[n].f1 = 4
      · rw [if_neg a, if_pos b] at i1
        refine Ev.step (fun k => ?_) i1
        simp only [impl_TimesStacked.l0]
        rw [if_pos (by omega), if_pos (by omega), if_pos (by omega), rdE l n hln, if_neg a, if_pos b, wrap_succ (n := n) (by omega), wrap_succ (by omega)]
        rfl
      · rw [if_neg a, if_neg b] at i1
        refine Ev.step (fun k => ?_) i1
        simp only [impl_TimesStacked.l0]
        rw [if_pos (by omega), if_pos (by omega), if_pos (by omega), rdE l n hln, if_neg a, if_neg b, wrap_succ (n := n) (by omega)]
        rfl
theorem stacked_ev (l : List Event) (hl : l.length ≤ 1048576) : Ev (fun k => impl_TimesStacked.f k l) (if (hist l).isSome = true then ((evCnt 3 l : Int), (evCnt 4 l : Int), true) else (0, 0, false)) := by
  unfold impl_TimesStacked.f
  refine Ev.bind (implHist_ev l hl) ?_
  cases (hist l).isSome with
  | false => simp only [Bool.false_eq_true, if_false]; exact Ev.now _
  | true => simp only [if_true]; exact stacked_loop l hl l.length 0 (by omega)
theorem law_loop (day x : Int) (fl : Bool) (vs : List Visit) (s c3 c4 : Int) (h : InvV s vs) (hl : vs.length ≤ 1048576) (hc : c3 - c4 = if s = 2 then 1 else 0) (h3 : -9223372036854775808 ≤ c3 - c4 ∧ c3 - c4 ≤ 9223372036854775807)
    (hx : fl = true → 0 ≤ x ∧ x ≤ day + 1 ∧ 0 ≤ day ∧ day ≤ 9999) : ∀ (d n : Nat), n + d = vs.length → Ev (fun k => laws_FnVisits.l0 k day x fl vs s c3 c4 vs n) true := by
  intro d
  induction d with
  | zero =>
    intro n hn
    have fin : (if fl = true then (if x ≥ 0 then some (decide (x ≤ wrap64 (day + 1))) else some false) else some true) = some true := by
      cases fl with
      | false => rfl
      | true =>
        have z := hx rfl
        rw [if_pos rfl, if_pos (by omega), wrap_id (by omega) (by omega), decide_eq_true (by omega)]
    refine Ev.step (f := fun _ => some _) (fun k => ?_) (Ev.now _)
    simp only [laws_FnVisits.l0]
    rw [if_neg (by omega), wrap_id h3.1 h3.2, hc]
    by_cases s2 : s = 2
    · rw [if_pos s2, if_pos s2, if_pos rfl, fin]
    · rw [if_neg s2, if_neg s2, if_pos rfl, fin]
  | succ d ih =>
    intro n hn
    have hln : n < vs.length := by omega
    refine Ev.step (fun k => ?_) (ih (n + 1) (by omega))
    simp only [laws_FnVisits.l0]
    rw [if_pos (by omega), if_pos (by omega), if_pos (by omega), rdV vs n hln, wrap_succ (by omega), wrap_id (x := (vs.length : Int) - 1) (by omega) (by omega)]
    have hi := h.2 n hln
    rw [if_neg (by simp)]
    by_cases e : n + 1 = vs.length
    · rw [if_pos e] at hi
      rw [if_pos (by omega), if_neg]
      by_cases z : vs[n].f1 < 0
      · have := hi.1 z; simp [z, this]
      · have : ¬ s ≠ 0 := fun y => z (hi.2 y)
        have y : s = 0 := by omega
        simp [z, y]
    · rw [if_neg e] at hi
      rw [if_neg (by omega), if_neg]
      simp; omega
end Go.Proofs.Ytpalafegcndccaa.X
namespace Go.Proofs.Ytpalafegcndccaa.Pure
open Go.RowKit Go.Proofs.YtpalafegcndccaaW.PrintWords Go.Proofs.YtpalafegcndccaaL Go.Proofs.Ytpalafegcndccaa.X
theorem FnVisits : OFnVisits.Pure := by
  intro b hb
  refine ev_rounds ?_
  have hB := okB_of hb.2.2
  unfold laws_FnVisits.f laws_vBig.f
  simp only [Option.bind_some]
  by_cases big : (b.length : Int) > 65536
  · simp only [decide_eq_true big, if_true]; exact Ev.now _
  · simp only [decide_eq_false big, Bool.false_eq_true, if_false]
    obtain ⟨l, pa, sa, ea, qa, ba, ba2⟩ := anyHistory_ok hB 0 0 (by omega) (by omega)
    obtain ⟨day, pb, sb, eb, qb, _, _⟩ := among_ok hB pa sa [5, 20, 30, 60, 9999, 0, 10000, (-1)] (by omega) (by omega) (by simp) (by simp)
    have draw : Ev (fun k => spec_DrawDaysInside.f k b) (l, day) := by
      unfold spec_DrawDaysInside.f
      refine Ev.bind ea ?_
      refine Ev.congr (f := fun _ => some _) (fun k => ?_) (Ev.now _)
      simp only [eb, Option.bind_some]
    have hl : l.length ≤ 1048576 := by have : l.length ≤ 22 := qa; omega
    refine Ev.bind draw (Ev.bind (implDays_ev l hl day) (Ev.bind (specDays_ev l day) ?_))
    simp only [if_true, bne_self_eq_false]
    obtain ⟨st, hst, st2, st1⟩ := implState_ev l hl
    have hSA : Ev (fun k => impl_StateAfter.f k l) (if (hist l).isSome = true then (st.1, true) else (0, false)) := by
      unfold impl_StateAfter.f
      refine Ev.bind hst ?_
      rw [st2]
      cases (hist l).isSome with
      | false => simp only [Bool.false_eq_true, if_false]; exact Ev.now _
      | true => simp only [if_true]; exact Ev.now _
    have hVO : Ev (fun k => impl_VisitsOf.f k l) (if (hist l).isSome = true then (vis l, true) else ([], false)) := by
      unfold impl_VisitsOf.f
      refine Ev.bind (implHist_ev l hl) ?_
      cases h : hist l with
      | none => simp only [Option.isSome_none, Bool.false_eq_true, if_false]; exact Ev.now _
      | some s => simp only [Option.isSome_some, if_true]; exact Ev.bind (implVisits_ev h) (Ev.now _)
    refine Ev.step (f := fun k => (impl_VisitsOf.f k l).bind fun v => (impl_StateAfter.f k l).bind fun a => (impl_TimesStacked.f k l).bind fun t => if (v.2 != a.2) = true then laws_FnVisits.j1 k l day (days l day).1 (days l day).2 v.1 v.2 a.1 t.1 t.2.1 true else if (t.2.2 != a.2) = true then laws_FnVisits.j1 k l day (days l day).1 (days l day).2 v.1 v.2 a.1 t.1 t.2.1 true else (impl_IsHistory.f k l).bind fun t401 => laws_FnVisits.j1 k l day (days l day).1 (days l day).2 v.1 v.2 a.1 t.1 t.2.1 (a.2 != t401)) (fun k => by simp only [laws_FnVisits.j0]; rw [if_neg (by decide)]) ?_
    refine Ev.bind hVO (Ev.bind hSA (Ev.bind (stacked_ev l hl) ?_))
    cases h : hist l with
    | none =>
      simp only [Option.isSome_none, Bool.false_eq_true, if_false, bne_self_eq_false]
      have hi := implHist_ev l hl
      rw [h] at hi
      refine Ev.bind hi ?_
      refine Ev.step (f := fun _ => some _) (fun k => ?_) (Ev.now _)
      simp only [laws_FnVisits.j1, Option.isSome_none, bne_self_eq_false, Bool.false_eq_true, if_false]
      unfold days
      rw [if_neg (by rw [h]; simp)]
      rfl
    | some s =>
      simp only [Option.isSome_some, Bool.false_eq_true, if_false, if_true, bne_self_eq_false]
      have hi := implHist_ev l hl
      rw [h] at hi
      refine Ev.bind hi ?_
      have hv : Ev (fun k => spec_VisitsOf.f k l) (vis l, true) := by
        unfold spec_VisitsOf.f
        refine Ev.bind (specState_ev l) ?_
        rw [h]
        have := hist_nonneg h
        simp only [Option.getD_some, if_neg (show ¬ s < 0 by omega)]
        exact Ev.bind (specVisits_ev h) (Ev.now _)
      have hinv := hist_inv h
      have hlen := vis_length l l.length (Nat.le_refl _)
      rw [List.take_length] at hlen
      have h3 : evCnt 3 l ≤ l.length := List.countP_le_length
      have h4 : evCnt 4 l ≤ l.length := List.countP_le_length
      refine Ev.step (f := fun k => (spec_VisitsOf.f k l).bind fun t => if ((vis l).length : Int) = (t.1.length : Int) then laws_FnVisits.l0 k day (days l day).1 (days l day).2 (vis l) st.1 (evCnt 3 l) (evCnt 4 l) t.1 0 else some false) (fun k => ?_) (Ev.bind hv ?_)
      · simp only [laws_FnVisits.j1, Option.isSome_some, bne_self_eq_false, Bool.false_eq_true, if_false, if_true]
      · simp only [if_true]
        rw [st1 s h]
        refine law_loop day _ _ (vis l) s _ _ hinv.1 (by omega) hinv.2 (by omega) (fun hf => ?_) (vis l).length 0 (by omega)
        unfold days at hf ⊢
        by_cases c : (hist l).isSome = true ∧ 0 ≤ day ∧ day ≤ 9999
        · rw [if_pos c]
          have hk := vis_ok h l.length (Nat.le_refl _)
          rw [List.take_length] at hk
          have := day_fold day c.2.1 (vis l) hk (0, -1) (by show (0:Int) ≤ 0; omega) (by show (0:Int) ≤ -1 + 1; omega) (by show (-1 : Int) ≤ day; omega)
          exact ⟨this.1, this.2, c.2⟩
        · rw [if_neg c] at hf; cases hf
end Go.Proofs.Ytpalafegcndccaa.Pure


namespace Go.Proofs.Ytpalafegcndccaa.fnVisits
open Go.ChangeShapes Go.WideShapes Go.ChangeAt Go.RowKit
open Go.ChangeMaps (open_string shut_string)
open Go.Joins
open Go.Proofs.YtpalafegcndccaaW.PrintWords Go.Proofs.YtpalafegcndccaaW.PrintLast Go.Proofs.YtpalafegcndccaaW.PrintMore
open Go.Proofs.YtpalafegcndccaaZ Go.Proofs.Ytpalafegcndccaa.X Go.Proofs.Ytpalafegcndccaa.X.OFnVisits
set_option linter.unusedVariables false
set_option linter.unusedSimpArgs false
theorem own : ownKnob Try.prog.godebug = none := by kernel_rfl
theorem laidOut : laidOutB Try.prog = true := by kernel_rfl
set_option maxRecDepth 100000 in
set_option maxHeartbeats 2000000 in
theorem lifted (os : Os) (started : os.Started) (H : Type) (enc : TypeId × Value → H) :
    ReturnsInHanded {} Try.checked os 6 .any (Rows.fnVisitsSpec.pre6 enc Try.prog Try.f6 Rows.fnVisitsRow.domain false) (Rows.fnVisitsSpec.post enc Try.prog Try.f6 false true false false) := by
  refine returnsInHanded_of_change_sized (C := Try.checked) own started (by kernel_rfl) Try.func6
    (ChangeSpec.witness6 (enc := enc) (C := Try.checked) false ⟨#[], #[.slice none 0 0], []⟩ 8 (by kernel_rfl) (by kernel_rfl) (by kernel_rfl) (by kernel_rfl)) ?_
  intro W base args ds gs before hval0 hW hcnd hsz0 _
  have hsz : (DataW.weightsEach Try.prog (Try.f6.params.toList ++ Rows.fnVisitsSpec.plain.varTypes Try.prog) (ds ++ gs)).all (· ≤ reachBytes) = true := hsz0
  have hval : ∀ (j : Nat) t v, Try.f6.params[j]? = some t → args[j]? = some v → Value.okWide Try.prog W .any base t v := hval0
  have hW' := hW
  obtain ⟨p, q, hA0, hV, rfl, hfz, hnd⟩ := hW
  have hA : DataW.TrodAll enc Try.prog W 0 (fun _ => true) true Try.f6.params.toList args.toList ds p := hA0
  rw [Try.params6] at hA hval hsz
  obtain ⟨v0, vs0, d0, ds0, p0, q0, hargs, rfl, rfl, h0, r0⟩ := trodAll_cons hA
  obtain ⟨rfl, rfl, rfl⟩ := trodAll_nil r0
  obtain rfl : args = #[v0] := by cases args; simp_all
  obtain ⟨rfl, rfl⟩ := trodVars_none hV
  obtain ⟨a0, len0, cap0, rfl⟩ := okWide_slice Try.underlying42 (hval 0 42 v0 rfl rfl)
  have k0 := h0
  have lt0 : ∀ x ∈ p0, x.block < W.heap.size := by obtain ⟨m, hm⟩ := k0; exact DataW.trod_lt m _ _ _ hm
  obtain ⟨l0, rfl, hc0, hr0, w0⟩ : ∃ l : List Int, len0 = l.length ∧ l.length ≤ cap0 ∧ Kd.C (Kd.int .u8) W a0 l.length l ∧ (l.length * 1 ≤ 140737488351232 ∧ l.length ≤ 9223372036854775807 ∧ ∀ y1 ∈ l, (Lit.int .u8 y1).wf = true) := by
    obtain ⟨fuel, hf⟩ := h0
    obtain ⟨l, ⟨A_, c_, e_, hl_, hC_⟩, hfit_⟩ := (opens_slice 0 Try.underlying42 (by kernel_rfl) (opens_int Try.underlying5) (by kernel_rfl)) hf (weights_param hsz (j := 0) rfl rfl)
    simp [Value.cells] at e_
    obtain ⟨rfl, rfl, rfl⟩ := e_
    exact ⟨l, rfl, hl_, hC_, hfit_⟩
  clear hA0 hval0 hsz0 hsz
  obtain ⟨k, h⟩ := Go.Proofs.Ytpalafegcndccaa.Pure.FnVisits l0 w0
  refine (laws_FnVisits.calls k a0 cap0 l0 true W hr0 hc0 h).mono fun e W' ⟨he, bel0⟩ => ?_
  have bel : Below W.heap.size W W' := bel0
  subst he
  exact ⟨_, rfl, _, _, _, [], _, [], hW', trodAll_mk1 (shut_bool Try.underlying4 _), (trodAll_cons_mk (Below.trod laidOut (by kernel_rfl) (of_decide_eq_true (by kernel_rfl)) k0 bel lt0) trodAll_mk0), rfl, bel.frame _, fun h => by cases h⟩
theorem over : Rows.fnVisitsRow.holds Try.pinned (OpenSpec.ofChange Rows.fnVisitsSpec) :=
  OpenClaim.holds_of_wide 6 Try.f6 rfl rfl rfl rfl rfl rfl rfl ⟨rfl, rfl, rfl, rfl, rfl⟩ rfl rfl rfl rfl rfl (by kernel_rfl) Try.func6 (by kernel_rfl)
    (of_decide_eq_true (by kernel_rfl)) (by unfold Func.isWrapper; first | (rw [if_pos (by decide +kernel)]; kernel_rfl) | (rw [if_neg (by decide +kernel)]; exact ⟨rfl, rfl⟩))
    (fun os started H enc _ => lifted os started H enc)
theorem proved : Rows.FnVisitsSaid := over
#print axioms proved
end Go.Proofs.Ytpalafegcndccaa.fnVisits
namespace Go.Proofs.Ytpalafegcndccaa
/-- The row, under a short name, for the claim. -/
theorem fnVisits_holds : Rows.FnVisitsSaid := fnVisits.proved
end Go.Proofs.Ytpalafegcndccaa

