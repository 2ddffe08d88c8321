/- The law FnExactParseHistory answers true for every input that the row lets in, and leaves its arguments as they were. Conditions: none beyond the row's own. -/
import Derived.Deep.Slices
import Derived.ChangeSame
import Derived.ChangeArms
import Derived.DataReads
import Derived.SizedLaws
import Derived.ProofKit
import Derived.Lib.SmallJoins
import Derived.ChangeOld
import Derived.Below
import Derived.Lib.IndexAny
import Derived.Lib.ItoaNum
import Derived.Lib.ItoaLen
import Derived.Lib.SplitLaws
import Derived.Lib.IndexMore
import Derived.Lib.AtoiAll
import Derived.Handed
import Derived.HandedShaped
import Derived.Test.YtpalafegcndccaaDoorProg
import Derived.Test.YtpalafegcndccaaDoorRows
import Derived.WalkKit
import Derived.OpenShut
import Derived.ShutString
import Derived.Handy
import Derived.Lay
import Derived.SevenTiedAt
import Derived.LaidSub
import Derived.Lib.LaidTab
import Derived.Test.YtpalafegcndccaaDoorCards
import Derived.Test.YtpalafegcndccaaDoorTie
import Derived.Test.YtpalafegcndccaaDoorKFnExactParseHistory0
import Derived.Test.YtpalafegcndccaaDoorKFnExactParseHistory1
import Derived.Test.YtpalafegcndccaaDoorKFnExactParseHistory2
-- written by a program of this session (wip/ext.py) out of the translation. Not trusted: Lean checks it.
namespace Go.Proofs.YtpalafegcndccaaDoor.X
open Go.RowKit Go.Proofs.YtpalafegcndccaaDoorW.PrintWords Go.Proofs.YtpalafegcndccaaDoorW.PrintLast Go.Proofs.YtpalafegcndccaaDoorW.PrintMore
attribute [local go_sem] max2_int min2_int max_two min_two max_three min_three max_four min_four   -- for this text's walks alone
open Go.Proofs.YtpalafegcndccaaDoorG
set_option linter.unusedVariables false
set_option linter.unusedSimpArgs false

def laws_markEventS.l0 : Nat → List (S40) → Int → Int → Option (Int × (List (S40)))
  | 0, _, _, _ => none
  | k + 1, x0, x1, x5 => if x5 < (x0.length : Int) then (if 0 ≤ x5 then ((some (x0.set (x5 : Int).toNat (⟨x1, (rd_T40 x0 x5).f1⟩ : S40) : List (S40))).bind fun y276 => (laws_markEventS.l0 k (y276.set (x5 : Int).toNat (⟨(rd_T40 y276 x5).f0, wrap64 (x1 + 1)⟩ : S40)) (wrap64 ((wrap64 (x1 + 1)) + 1)) (wrap64 (x5 + 1)))) else (none)) else (some (x1, x0))
def laws_markEventS.f (k : Nat) (l0 : List (S40)) (a1 : Int) : Option (Int × (List (S40))) := laws_markEventS.l0 k l0 a1 0
theorem laws_markEventS.mono_l : ∀ k, (∀ y0 y1 y2, LeO (laws_markEventS.l0 k y0 y1 y2) (laws_markEventS.l0 (k + 1) y0 y1 y2))
  | 0 => fun _ _ _ r h => by simp [laws_markEventS.l0] at h
  | k + 1 => by
    have ih0 := laws_markEventS.mono_l k
    · intro y0 y1 y2
      unfold laws_markEventS.l0
      repeat' first
      | (with_reducible exact ih0 _ _ _)
      | (with_reducible exact LeO.refl _)
      | (with_reducible exact LeO.none _)
      | (with_reducible refine LeO.ite ?_ ?_)
      | (with_reducible refine LeO.bind ?_ (fun _ => ?_))
      | exact ih0 _ _ _
      | exact LeO.none _
      | refine LeO.ite ?_ ?_
      | refine LeO.bind ?_ (fun _ => ?_)
theorem laws_markEventS.mono : ∀ a0 a1 k, LeO (laws_markEventS.f k a0 a1) (laws_markEventS.f (k + 1) a0 a1) := by
  intro a0 a1 k
  have ih0 := laws_markEventS.mono_l k
  unfold laws_markEventS.f
  repeat' first
      | (with_reducible exact ih0 _ _ _)
      | (with_reducible exact LeO.refl _)
      | (with_reducible exact LeO.none _)
      | (with_reducible refine LeO.ite ?_ ?_)
      | (with_reducible refine LeO.bind ?_ (fun _ => ?_))
      | exact ih0 _ _ _
      | exact LeO.none _
      | refine LeO.ite ?_ ?_
      | refine LeO.bind ?_ (fun _ => ?_)
set_option maxHeartbeats 8000000 in
set_option maxRecDepth 100000 in
theorem laws_markEventS.calls (k : Nat) (P0_ : Nat → Prop) (u9000_ : Value) (l0 : List (S40)) (a1 : Int) (r1 : Int) (r2 : List (S40)) (w0 w : World) (hB : Below w0.heap.size w0 w) (ho0 : Kd.R k40 40 w w0.heap.size P0_ u9000_ l0) (h : laws_markEventS.f k l0 a1 = some (r1, r2)) :
    Calls Tryd.prog 13 #[u9000_, .int .i64 a1] w fun e w' => e = .returned (.int .i64 r1) ∧ Kd.R k40 40 w' w0.heap.size (fun k_ => (P0_ k_ ∨ w.heap.size ≤ k_)) u9000_ r2 ∧ Below w0.heap.size w0 w' ∧ Kept w w' (fun k_ => P0_ k_) := by
  have HO0 := Aside0.mk (show Kd.R k40 40 w w0.heap.size (fun k_ => (P0_ k_ ∨ w.heap.size ≤ k_)) u9000_ l0 from Kd.R_mono ho0 (fun k_ hk => (.inl hk)))
  have HK := Aside0.mk (Kept.refl w (fun k_ => P0_ k_))
  have HW0 := Aside0.mk hB.size
  have HB := Aside0.mk hB
  clear hB
  have H : (laws_markEventS.l0 k l0 a1 0) = some (r1, r2) := h
  clear h
  have H' := Aside0.mk H
  clear H
  go_enter Tryd.func13, Tryd.ntmps13
  go_wp2
  go_loopg [1, 5] k (fun kq v1 v5 w' => ∃ (x0_1 : List (S40)) (x1_1 : Int) (x5_1 : Int), v1 = .int .i64 x1_1 ∧ v5 = .int .i64 x5_1 ∧ Aside0 (laws_markEventS.l0 kq x0_1 x1_1 x5_1 = some (r1, r2)) ∧ Aside0 (kq ≤ k) ∧ Aside0 (Kd.R k40 40 w' w0.heap.size (fun k_ => (P0_ k_ ∨ w.heap.size ≤ k_)) u9000_ x0_1) ∧ Aside0 (Kept w w' (fun k_ => P0_ k_)) ∧ Aside0 (Below w0.heap.size w0 w'))
  case atStart => exact ⟨(l0), (a1), (0), (by first | rfl | (simp; done) | (simp [*]; done)), (by first | rfl | (simp; done) | (simp [*]; done)), H', ⟨Nat.le_refl _⟩, ⟨by (with_reducible repeat (first | apply Kd.R_alloc | apply Kd.R_drewN | apply Kd.R_drew)); exact HO0.out⟩, ⟨by repeat (first | (with_reducible first | exact HK.out | apply Kept.alloc | apply Kept.drewN | apply Kept.drew) | exact HK.out)⟩, ⟨by repeat (first | (with_reducible first | exact HB.out | apply below_alloc | apply pw_below_drewN | apply below_drew1) | exact HB.out)⟩⟩
  case round =>
    clear H'
    try clear c1
    try clear p2
    obtain ⟨x0_1, x1_1, x5_1, rfl, rfl, HA, HK1, HO_0, HK, HB⟩ := hrel
    cases gk with
    | zero => exact absurd HA.out (by simp [laws_markEventS.l0])
    | succ k1 =>
      have H := HA.out
      clear HA
      simp only [laws_markEventS.l0] at H
      by_cases c3 : x5_1 < (x0_1.length : Int)
      · rw [if_pos c3] at H
        have c3b0 : decide (x5_1 < (x0_1.length : Int)) = true := decide_eq_true c3
        clear c3
        by_cases c4 : 0 ≤ x5_1
        · rw [if_pos c4] at H
          have c4b0 : decide (0 ≤ x5_1) = true := decide_eq_true c4
          clear c4
          obtain ⟨y276, hy276⟩ : ∃ y_ : List (S40), y_ = (x0_1.set (x5_1 : Int).toNat (⟨x1_1, (rd_T40 x0_1 x5_1).f1⟩ : S40)) := ⟨_, rfl⟩
          replace H : (laws_markEventS.l0 k1 (y276.set (x5_1 : Int).toNat (⟨(rd_T40 y276 x5_1).f0, wrap64 (x1_1 + 1)⟩ : S40)) (wrap64 ((wrap64 (x1_1 + 1)) + 1)) (wrap64 (x5_1 + 1))) = some (r1, r2) := by first | (rw [hy276]; with_reducible exact H) | (have H2_ := (Option.bind_some _ _).symm.trans H; rw [hy276]; with_reducible exact H2_) | (have H2_ := (Option.bind_some _ _).symm.trans H; with_reducible exact H2_) | with_reducible exact H | (rw [hy276]; exact H) | exact H
          have Ny276 := Aside0.mk hy276
          clear hy276
          obtain ⟨y277, hy277⟩ : ∃ y_ : List (S40), y_ = (y276.set (x5_1 : Int).toNat (⟨(rd_T40 y276 x5_1).f0, wrap64 (x1_1 + 1)⟩ : S40)) := ⟨_, rfl⟩
          replace H : (laws_markEventS.l0 k1 y277 (wrap64 ((wrap64 (x1_1 + 1)) + 1)) (wrap64 (x5_1 + 1))) = some (r1, r2) := by first | (rw [hy277]; with_reducible exact H) | (have H2_ := (Option.bind_some _ _).symm.trans H; rw [hy277]; with_reducible exact H2_) | (have H2_ := (Option.bind_some _ _).symm.trans H; with_reducible exact H2_) | with_reducible exact H | (rw [hy277]; exact H) | exact H
          have Ny277 := Aside0.mk hy277
          clear hy277
          have H' := Aside0.mk H
          clear H
          obtain ⟨Ao7, co7, eo7⟩ := Kd.R_slice HO_0.out
          subst eo7
          have p5 : 0 ≤ (x5_1 : Int) := of_decide_eq_true (by first | (with_reducible assumption) | assumption)
          have q5 : (x5_1 : Int) < ((x0_1.length : Int) : Int) := of_decide_eq_true (by first | (with_reducible assumption) | assumption)
          obtain ⟨go5, co5, eo5, gb5, gl5, cl5, HG5⟩ := Kd.R_form HO_0.out (by omega)
          (first | cases eo5 | (injection eo5 with ea_ en_ ec_; (first | subst ea_ | (injection ea_ with ea_; subst ea_)); subst ec_; clear en_))
          have GB5 := Aside0.mk gb5
          have GG5 := Aside0.mk HG5
          clear gb5 gl5 HG5
          have HMgo5 := Aside0.mk (show (P0_ go5 ∨ w.heap.size ≤ go5) from (HO_0.out.1 _ rfl))
          obtain ⟨ce5, hcl5, hM5, hcc5, hfr5⟩ := Kd.R_elem HO_0.out z40 (x5_1 : Int) p5 q5
          obtain rfl := k40_openM hM5
          have hx5_0 : wr.cell? ⟨go5, (x5_1 : Int).toNat * 2, none⟩ = some (.int .i64 ((rd_T40 x0_1 x5_1).f0)) := hcc5 0 _ rfl
          have hx5_1 : wr.cell? ⟨go5, (x5_1 : Int).toNat * 2 + 1, none⟩ = some (.int .i64 ((rd_T40 x0_1 x5_1).f1)) := hcc5 1 _ rfl
          have hf5_0 : wr.frozen? ⟨go5, (x5_1 : Int).toNat * 2, none⟩ = false := hfr5 0
          have hf5_1 : wr.frozen? ⟨go5, (x5_1 : Int).toNat * 2 + 1, none⟩ = false := hfr5 1
          clear hcl5 hcc5 hfr5 hM5
          replace p5 := eq_true p5
          replace q5 := eq_true q5
          have HX8 := Aside0.mk (show Kd.R k40 40 wr w0.heap.size (fun k_ => (P0_ k_ ∨ w.heap.size ≤ k_)) (.slice (some ⟨go5, 0, none⟩) x0_1.length co7) x0_1 from (by (with_reducible repeat (first | apply Kd.R_alloc | apply Kd.R_drewN | apply Kd.R_drew)); exact HO_0.out))
          obtain ⟨ce8, hcl8, hM8, hcc8, hfr8⟩ := Kd.R_elem HX8.out z40 (x5_1 : Int) (of_decide_eq_true (by first | (with_reducible assumption) | assumption)) (by have h_ : (x5_1 : Int) < ((x0_1.length : Int) : Int) := of_decide_eq_true (by first | (with_reducible assumption) | assumption); first | exact h_ | (have e_ := (Kd.R_reads' HO_0.out).1; omega) | simpa using h_)
          obtain rfl := k40_openM hM8
          have HP8 := Kd.R_seg HX8.out (x5_1 : Int) (of_decide_eq_true (by first | (with_reducible assumption) | assumption)) (by have h_ : (x5_1 : Int) < ((x0_1.length : Int) : Int) := of_decide_eq_true (by first | (with_reducible assumption) | assumption); first | exact h_ | (have e_ := (Kd.R_reads' HO_0.out).1; omega) | simpa using h_) (seg := [.int .i64 x1_1]) (j := 0) hcl8 hcc8 (show 1 ≤ 2 from by decide) (x' := (⟨x1_1, (rd_T40 x0_1 x5_1).f1⟩ : S40)) (k40_mkM _ _ _ (⟨x1_1, (rd_T40 x0_1 x5_1).f1⟩ : S40) ) (fun _ hk => hk)
          have hx8_0 := hcc8 0 _ rfl
          (try simp only [show (k40).sz = 2 from rfl, Nat.mul_one, Nat.add_zero] at hx8_0)
          have hf8_0 := hfr8 0
          (try simp only [show (k40).sz = 2 from rfl, Nat.mul_one, Nat.add_zero] at hf8_0)
          clear hcl8 hcc8 hfr8 hM8
          go_wp2_with (first | ((with_reducible refine gate_store (t := 3) (p := 16) rfl ?_); refine store_event (t := 3) (p := 16) (v := ?vo_w9) (w1 := (wr.setCell ⟨go5, (x5_1 : Int).toNat * 2, none⟩ (.int .i64 x1_1))) ?hg ?ho ?hn ?hr ?_; (case ho => rfl); (case hg => rfl); (case hn => rfl); (case hr => first | (go_simp; done) | (go_simp; rfl)); intro w9 hw; have hg : wr.grownBy w9 (some go5) := (by rw [hw]; exact HP8.2); have hp_ : Kd.R k40 40 w9 w0.heap.size (fun k_ => (P0_ k_ ∨ w.heap.size ≤ k_)) (.slice (some ⟨go5, 0, none⟩) x0_1.length co7) y276 := (by rw [hw, Ny276.out]; exact HP8.1); clear HP8; have n0_ := Aside0.mk (hp_); have n1_ := Aside0.mk ((by rw [hw]; exact below_set (HB.out) GB5.out : Below w0.heap.size w0 w9)); have n2_ := Aside0.mk (Kept.of_grown (S := (fun k_ => P0_ k_)) hg (by repeat (first | (with_reducible first | exact HK.out | apply Kept.alloc | apply Kept.drewN | apply Kept.drew) | exact HK.out)) (fun k_ e_ => (HO_0.out.1 k_ e_))); clear HO_0; clear HB; clear HK; have HO_0 := n0_; have HB := n1_; have HK := n2_; clear n0_ n1_ n2_; clear hg hw hp_; have p6 : 0 ≤ (x5_1 : Int) := of_decide_eq_true (by first | (with_reducible assumption) | assumption); have q6 : (x5_1 : Int) < ((x0_1.length : Int) : Int) := of_decide_eq_true (by first | (with_reducible assumption) | assumption); obtain ⟨ce6, hcl6, hM6, hcc6, hfr6⟩ := Kd.R_elem HO_0.out z40 (x5_1 : Int) p6 q6; obtain rfl := k40_openM hM6; have hx6_0 : w9.cell? ⟨go5, (x5_1 : Int).toNat * 2, none⟩ = some (.int .i64 ((rd_T40 y276 x5_1).f0)) := hcc6 0 _ rfl; have hx6_1 : w9.cell? ⟨go5, (x5_1 : Int).toNat * 2 + 1, none⟩ = some (.int .i64 ((rd_T40 y276 x5_1).f1)) := hcc6 1 _ rfl; have hf6_0 : w9.frozen? ⟨go5, (x5_1 : Int).toNat * 2, none⟩ = false := hfr6 0; have hf6_1 : w9.frozen? ⟨go5, (x5_1 : Int).toNat * 2 + 1, none⟩ = false := hfr6 1; (try clear hcl6); (try clear hcc6); (try clear hfr6); (try clear hM6); replace p6 := eq_true p6; replace q6 := eq_true q6; have HX10 := Aside0.mk (show Kd.R k40 40 w9 w0.heap.size (fun k_ => (P0_ k_ ∨ w.heap.size ≤ k_)) (.slice (some ⟨go5, 0, none⟩) x0_1.length co7) y276 from (by (with_reducible repeat (first | apply Kd.R_alloc | apply Kd.R_drewN | apply Kd.R_drew)); exact HO_0.out)); obtain ⟨ce10, hcl10, hM10, hcc10, hfr10⟩ := Kd.R_elem HX10.out z40 (x5_1 : Int) (of_decide_eq_true (by first | (with_reducible assumption) | assumption)) (by have h_ : (x5_1 : Int) < ((x0_1.length : Int) : Int) := of_decide_eq_true (by first | (with_reducible assumption) | assumption); first | exact h_ | (have e_ := (Kd.R_reads' HO_0.out).1; omega) | simpa using h_); obtain rfl := k40_openM hM10; have HP10 := Kd.R_seg HX10.out (x5_1 : Int) (of_decide_eq_true (by first | (with_reducible assumption) | assumption)) (by have h_ : (x5_1 : Int) < ((x0_1.length : Int) : Int) := of_decide_eq_true (by first | (with_reducible assumption) | assumption); first | exact h_ | (have e_ := (Kd.R_reads' HO_0.out).1; omega) | simpa using h_) (seg := [.int .i64 (wrap64 (x1_1 + 1))]) (j := 1) hcl10 hcc10 (show 2 ≤ 2 from by decide) (x' := (⟨(rd_T40 y276 x5_1).f0, wrap64 (x1_1 + 1)⟩ : S40)) (k40_mkM _ _ _ (⟨(rd_T40 y276 x5_1).f0, wrap64 (x1_1 + 1)⟩ : S40) ) (fun _ hk => hk); have hx10_1 := hcc10 1 _ rfl; (try simp only [show (k40).sz = 2 from rfl, Nat.mul_one, Nat.add_zero] at hx10_1); have hf10_1 := hfr10 1; (try simp only [show (k40).sz = 2 from rfl, Nat.mul_one, Nat.add_zero] at hf10_1); clear hcl10 hcc10 hfr10 hM10) | ((with_reducible refine gate_store (t := 3) (p := 23) rfl ?_); refine store_event (t := 3) (p := 23) (v := ?vo_w11) (w1 := (w9.setCell ⟨go5, (x5_1 : Int).toNat * 2 + 1, none⟩ (.int .i64 (wrap64 (x1_1 + 1))))) ?hg ?ho ?hn ?hr ?_; (case ho => rfl); (case hg => rfl); (case hn => rfl); (case hr => first | (go_simp; done) | (go_simp; rfl)); intro w11 hw; have hg : w9.grownBy w11 (some go5) := (by rw [hw]; exact HP10.2); have hp_ : Kd.R k40 40 w11 w0.heap.size (fun k_ => (P0_ k_ ∨ w.heap.size ≤ k_)) (.slice (some ⟨go5, 0, none⟩) x0_1.length co7) y277 := (by rw [hw, Ny277.out]; exact HP10.1); clear HP10; have n0_ := Aside0.mk (hp_); have n1_ := Aside0.mk ((by rw [hw]; exact below_set (HB.out) GB5.out : Below w0.heap.size w0 w11)); have n2_ := Aside0.mk (Kept.of_grown (S := (fun k_ => P0_ k_)) hg (by repeat (first | (with_reducible first | exact HK.out | apply Kept.alloc | apply Kept.drewN | apply Kept.drew) | exact HK.out)) (fun k_ e_ => (HO_0.out.1 k_ e_))); clear HO_0; clear HB; clear HK; have HO_0 := n0_; have HB := n1_; have HK := n2_; clear n0_ n1_ n2_; clear hg hw hp_))
          go_roundg k1
          case measure => have := HK1.out; omega
          case rel => exact ⟨(y277), (wrap64 ((wrap64 (x1_1 + 1)) + 1)), (wrap64 (x5_1 + 1)), (by first | rfl | (simp; done) | (simp [*]; done)), (by first | rfl | (simp; done) | (simp [*]; done)), H', ⟨by have := HK1.out; omega⟩, ⟨by (with_reducible repeat (first | apply Kd.R_alloc | apply Kd.R_drewN | apply Kd.R_drew)); exact HO_0.out⟩, ⟨by repeat (first | (with_reducible first | exact HK.out | apply Kept.alloc | apply Kept.drewN | apply Kept.drew) | exact HK.out)⟩, ⟨by repeat (first | (with_reducible first | exact HB.out | apply below_alloc | apply pw_below_drewN | apply below_drew1) | exact HB.out)⟩⟩
        · rw [if_neg c4] at H
          exact absurd H (by simp)
      · rw [if_neg c3] at H
        have c3b0 : decide (x5_1 < (x0_1.length : Int)) = false := decide_eq_false c3
        clear c3
        simp only [Option.some.injEq, Prod.mk.injEq] at H
        obtain ⟨rfl, rfl⟩ := H
        obtain ⟨Ao12, co12, eo12⟩ := Kd.R_slice HO_0.out
        subst eo12
        go_wp2
        go_ret
        exact ⟨by first | rfl | (simp [errW_none, errW_some] <;> rfl) | (simp [*, errW_none, errW_some] <;> rfl), by (with_reducible repeat (first | apply Kd.R_alloc | apply Kd.R_drewN | apply Kd.R_drew)); exact HO_0.out, by repeat (first | (with_reducible first | exact HB.out | apply below_alloc | apply pw_below_drewN | apply below_drew1) | exact HB.out), by repeat (first | (with_reducible first | exact HK.out | apply Kept.alloc | apply Kept.drewN | apply Kept.drew) | exact HK.out)⟩

end Go.Proofs.YtpalafegcndccaaDoor.X


-- written by a program of this session (wip/ext.py) out of the translation. Not trusted: Lean checks it.
namespace Go.Proofs.YtpalafegcndccaaDoor.X
open Go.RowKit Go.Proofs.YtpalafegcndccaaDoorW.PrintWords Go.Proofs.YtpalafegcndccaaDoorW.PrintLast Go.Proofs.YtpalafegcndccaaDoorW.PrintMore
attribute [local go_sem] max2_int min2_int max_two min_two max_three min_three max_four min_four   -- for this text's walks alone
open Go.Proofs.YtpalafegcndccaaDoorG
set_option linter.unusedVariables false
set_option linter.unusedSimpArgs false

def laws_heldEventS.l0 : Nat → List (S40) → Int → Int → Option (Int)
  | 0, _, _, _ => none
  | k + 1, x0, x1, x5 => if x5 < (x0.length : Int) then (if 0 ≤ x5 then (if ((rd_T40 x0 x5).f0) = x1 then (if ((rd_T40 x0 x5).f1) = (wrap64 (x1 + 1)) then (laws_heldEventS.l0 k x0 (wrap64 ((wrap64 (x1 + 1)) + 1)) (wrap64 (x5 + 1))) else (some (-1))) else (some (-1))) else (none)) else (some x1)
def laws_heldEventS.f (k : Nat) (l0 : List (S40)) (a1 : Int) : Option (Int) := laws_heldEventS.l0 k l0 a1 0
theorem laws_heldEventS.mono_l : ∀ k, (∀ y0 y1 y2, LeO (laws_heldEventS.l0 k y0 y1 y2) (laws_heldEventS.l0 (k + 1) y0 y1 y2))
  | 0 => fun _ _ _ r h => by simp [laws_heldEventS.l0] at h
  | k + 1 => by
    have ih0 := laws_heldEventS.mono_l k
    · intro y0 y1 y2
      unfold laws_heldEventS.l0
      repeat' first
      | (with_reducible exact ih0 _ _ _)
      | (with_reducible exact LeO.refl _)
      | (with_reducible exact LeO.none _)
      | (with_reducible refine LeO.ite ?_ ?_)
      | (with_reducible refine LeO.bind ?_ (fun _ => ?_))
      | exact ih0 _ _ _
      | exact LeO.none _
      | refine LeO.ite ?_ ?_
      | refine LeO.bind ?_ (fun _ => ?_)
theorem laws_heldEventS.mono : ∀ a0 a1 k, LeO (laws_heldEventS.f k a0 a1) (laws_heldEventS.f (k + 1) a0 a1) := by
  intro a0 a1 k
  have ih0 := laws_heldEventS.mono_l k
  unfold laws_heldEventS.f
  repeat' first
      | (with_reducible exact ih0 _ _ _)
      | (with_reducible exact LeO.refl _)
      | (with_reducible exact LeO.none _)
      | (with_reducible refine LeO.ite ?_ ?_)
      | (with_reducible refine LeO.bind ?_ (fun _ => ?_))
      | exact ih0 _ _ _
      | exact LeO.none _
      | refine LeO.ite ?_ ?_
      | refine LeO.bind ?_ (fun _ => ?_)
set_option maxHeartbeats 8000000 in
set_option maxRecDepth 100000 in
theorem laws_heldEventS.calls (k : Nat) (A0 : Option Addr) (c0 : Nat) (l0 : List (S40)) (a1 : Int) (r : Int) (w : World) (hr0 : Kd.C k40 w A0 l0.length l0) (hc0 : l0.length ≤ c0) (h : laws_heldEventS.f k l0 a1 = some r) :
    Calls Tryd.prog 14 #[.slice A0 l0.length c0, .int .i64 a1] w fun e w' => e = .returned (.int .i64 r) ∧ Drawn0 w w' := by
  have HR0 := Aside0.mk hr0
  have HC0 := Aside0.mk hc0
  clear hr0 hc0
  have H : (laws_heldEventS.l0 k l0 a1 0) = some r := h
  clear h
  have H' := Aside0.mk H
  clear H
  go_enter Tryd.func14, Tryd.ntmps14
  go_wp2
  go_loopg [1, 5] k (fun kq v1 v5 w' => ∃ (x1_1 : Int) (x5_1 : Int), v1 = .int .i64 x1_1 ∧ v5 = .int .i64 x5_1 ∧ Aside0 (laws_heldEventS.l0 kq l0 x1_1 x5_1 = some r) ∧ Aside0 (kq ≤ k) ∧ Drawn0 w w')
  case atStart => exact ⟨(a1), (0), (by first | rfl | (simp; done) | (simp [*]; done)), (by first | rfl | (simp; done) | (simp [*]; done)), H', ⟨Nat.le_refl _⟩, by repeat (first | exact Drawn0.refl _ | apply Drawn0.step)⟩
  case round =>
    clear H'
    try clear c1
    try clear p2
    obtain ⟨x1_1, x5_1, rfl, rfl, HA, HK1, ⟨m1, rfl⟩⟩ := hrel
    cases gk with
    | zero => exact absurd HA.out (by simp [laws_heldEventS.l0])
    | succ k1 =>
      have H := HA.out
      clear HA
      simp only [laws_heldEventS.l0] at H
      by_cases c3 : x5_1 < (l0.length : Int)
      · rw [if_pos c3] at H
        have c3b0 : decide (x5_1 < (l0.length : Int)) = true := decide_eq_true c3
        clear c3
        by_cases c4 : 0 ≤ x5_1
        · rw [if_pos c4] at H
          have c4b0 : decide (0 ≤ x5_1) = true := decide_eq_true c4
          clear c4
          by_cases c5 : ((rd_T40 l0 x5_1).f0) = x1_1
          · rw [if_pos c5] at H
            have c5b0 : (((rd_T40 l0 x5_1).f0) == x1_1) = true := beq_iff_eq.mpr c5
            have c5b1 : (((rd_T40 l0 x5_1).f0) != x1_1) = false := bne_eq_false_iff_eq.mpr c5
            clear c5
            by_cases c6 : ((rd_T40 l0 x5_1).f1) = (wrap64 (x1_1 + 1))
            · rw [if_pos c6] at H
              have c6b0 : (((rd_T40 l0 x5_1).f1) == (wrap64 (x1_1 + 1))) = true := beq_iff_eq.mpr c6
              have c6b1 : (((rd_T40 l0 x5_1).f1) != (wrap64 (x1_1 + 1))) = false := bne_eq_false_iff_eq.mpr c6
              clear c6
              have H' := Aside0.mk H
              clear H
              have p278 : 0 ≤ (x5_1 : Int) := of_decide_eq_true (by first | (with_reducible assumption) | assumption)
              have q278 : x5_1 < (l0.length : Int) := of_decide_eq_true (by first | (with_reducible assumption) | assumption)
              obtain ⟨ad278, e278, hx278_0, hx278_1⟩ := at_T40 HR0.out x5_1 p278 q278
              cases e278
              replace p278 := eq_true p278
              replace q278 := eq_true q278
              have p279 : 0 ≤ (x5_1 : Int) := of_decide_eq_true (by first | (with_reducible assumption) | assumption)
              have q279 : x5_1 < (l0.length : Int) := of_decide_eq_true (by first | (with_reducible assumption) | assumption)
              obtain ⟨ad279, e279, hx279_0, hx279_1⟩ := at_T40 HR0.out x5_1 p279 q279
              obtain rfl : ad278 = ad279 := (by injection e279)
              replace p279 := eq_true p279
              replace q279 := eq_true q279
              go_wp2
              go_roundg k1
              case measure => have := HK1.out; omega
              case rel => exact ⟨(wrap64 ((wrap64 (x1_1 + 1)) + 1)), (wrap64 (x5_1 + 1)), (by first | rfl | (simp; done) | (simp [*]; done)), (by first | rfl | (simp; done) | (simp [*]; done)), H', ⟨by have := HK1.out; omega⟩, by repeat (first | exact Drawn0.refl _ | apply Drawn0.step)⟩
            · rw [if_neg c6] at H
              have c6b0 : (((rd_T40 l0 x5_1).f1) == (wrap64 (x1_1 + 1))) = false := beq_eq_false_iff_ne.mpr c6
              have c6b1 : (((rd_T40 l0 x5_1).f1) != (wrap64 (x1_1 + 1))) = true := bne_iff_ne.mpr c6
              obtain rfl := Option.some.inj H
              have p278 : 0 ≤ (x5_1 : Int) := of_decide_eq_true (by first | (with_reducible assumption) | assumption)
              have q278 : x5_1 < (l0.length : Int) := of_decide_eq_true (by first | (with_reducible assumption) | assumption)
              obtain ⟨ad278, e278, hx278_0, hx278_1⟩ := at_T40 HR0.out x5_1 p278 q278
              cases e278
              replace p278 := eq_true p278
              replace q278 := eq_true q278
              have p279 : 0 ≤ (x5_1 : Int) := of_decide_eq_true (by first | (with_reducible assumption) | assumption)
              have q279 : x5_1 < (l0.length : Int) := of_decide_eq_true (by first | (with_reducible assumption) | assumption)
              obtain ⟨ad279, e279, hx279_0, hx279_1⟩ := at_T40 HR0.out x5_1 p279 q279
              obtain rfl : ad278 = ad279 := (by injection e279)
              replace p279 := eq_true p279
              replace q279 := eq_true q279
              go_wp2
              go_ret
              exact ⟨by first | rfl | (simp; done) | (simp [*]; done), by repeat (first | exact Drawn0.refl _ | apply Drawn0.step)⟩
          · rw [if_neg c5] at H
            have c5b0 : (((rd_T40 l0 x5_1).f0) == x1_1) = false := beq_eq_false_iff_ne.mpr c5
            have c5b1 : (((rd_T40 l0 x5_1).f0) != x1_1) = true := bne_iff_ne.mpr c5
            obtain rfl := Option.some.inj H
            have p278 : 0 ≤ (x5_1 : Int) := of_decide_eq_true (by first | (with_reducible assumption) | assumption)
            have q278 : x5_1 < (l0.length : Int) := of_decide_eq_true (by first | (with_reducible assumption) | assumption)
            obtain ⟨ad278, e278, hx278_0, hx278_1⟩ := at_T40 HR0.out x5_1 p278 q278
            cases e278
            replace p278 := eq_true p278
            replace q278 := eq_true q278
            go_wp2
            go_ret
            exact ⟨by first | rfl | (simp; done) | (simp [*]; done), by repeat (first | exact Drawn0.refl _ | apply Drawn0.step)⟩
        · rw [if_neg c4] at H
          exact absurd H (by simp)
      · rw [if_neg c3] at H
        have c3b0 : decide (x5_1 < (l0.length : Int)) = false := decide_eq_false c3
        clear c3
        obtain rfl := Option.some.inj H
        go_wp2
        go_ret
        exact ⟨by first | rfl | (simp; done) | (simp [*]; done), by repeat (first | exact Drawn0.refl _ | apply Drawn0.step)⟩

end Go.Proofs.YtpalafegcndccaaDoor.X


-- written by a program of this session (wip/ext.py) out of the translation. Not trusted: Lean checks it.
namespace Go.Proofs.YtpalafegcndccaaDoor.X
open Go.RowKit Go.Proofs.YtpalafegcndccaaDoorW.PrintWords Go.Proofs.YtpalafegcndccaaDoorW.PrintLast Go.Proofs.YtpalafegcndccaaDoorW.PrintMore
attribute [local go_sem] max2_int min2_int max_two min_two max_three min_three max_four min_four   -- for this text's walks alone
open Go.Proofs.YtpalafegcndccaaDoorG
set_option linter.unusedVariables false
set_option linter.unusedSimpArgs false

mutual
def laws_FnExactParseHistory.j0 : Nat → ByteArray → List (S40) → Bool → List (S40) → Bool → Option (Bool)
  | 0, _, _, _, _, _ => none
  | k + 1, x0, x3, x4, x5, x32 => if x32 = true then (some false) else ((laws_markEventS.f k x5 1).bind fun bt289 => ((laws_heldEventS.f k bt289.2 1).bind fun t291 => (if t291 < 0 then (some false) else (if t291 = bt289.1 then ((impl_ParseHistory.f k x0).bind fun bt292 => ((laws_eqEventS.f k bt292.1 x3).bind fun t296 => (if t296 = true then (laws_FnExactParseHistory.j1 k bt289.2 bt289.1 (bt292.2 != x4)) else (laws_FnExactParseHistory.j1 k bt289.2 bt289.1 true)))) else (some false)))))
def laws_FnExactParseHistory.j1 : Nat → List (S40) → Int → Bool → Option (Bool)
  | 0, _, _, _ => none
  | k + 1, x5, x7, x57 => if x57 = true then (some false) else ((laws_heldEventS.f k x5 1).bind fun t297 => (if t297 < 0 then (some false) else (if t297 = x7 then (some true) else (some false))))
end
def laws_FnExactParseHistory.f (k : Nat) (a0 : ByteArray) : Option (Bool) := if (a0.size : Int) > 1048576 then (some true) else ((spec_ParseHistory.f k a0).bind fun bt280 => ((impl_ParseHistory.f k a0).bind fun bt284 => ((laws_eqEventS.f k bt284.1 bt280.1).bind fun t288 => (if t288 = true then (laws_FnExactParseHistory.j0 k a0 bt280.1 bt280.2 bt284.1 (bt284.2 != bt280.2)) else (laws_FnExactParseHistory.j0 k a0 bt280.1 bt280.2 bt284.1 true)))))
theorem laws_FnExactParseHistory.mono_l : ∀ k, (∀ y0 y1 y2 y3 y4, LeO (laws_FnExactParseHistory.j0 k y0 y1 y2 y3 y4) (laws_FnExactParseHistory.j0 (k + 1) y0 y1 y2 y3 y4)) ∧ (∀ y0 y1 y2, LeO (laws_FnExactParseHistory.j1 k y0 y1 y2) (laws_FnExactParseHistory.j1 (k + 1) y0 y1 y2))
  | 0 => ⟨fun _ _ _ _ _ r h => by simp [laws_FnExactParseHistory.j0] at h, fun _ _ _ r h => by simp [laws_FnExactParseHistory.j1] at h⟩
  | k + 1 => by
    obtain ⟨ih0, ih1⟩ := laws_FnExactParseHistory.mono_l k
    refine ⟨?_, ?_⟩
    · intro y0 y1 y2 y3 y4
      unfold laws_FnExactParseHistory.j0
      repeat' first
      | (with_reducible exact ih0 _ _ _ _ _)
      | (with_reducible exact ih1 _ _ _)
      | (with_reducible exact impl_ParseHistory.mono _ _)
      | (with_reducible exact laws_eqEventS.mono _ _ _)
      | (with_reducible exact laws_heldEventS.mono _ _ _)
      | (with_reducible exact laws_markEventS.mono _ _ _)
      | (with_reducible exact spec_ParseHistory.mono _ _)
      | (with_reducible exact LeO.refl _)
      | (with_reducible exact LeO.none _)
      | (with_reducible refine LeO.ite ?_ ?_)
      | (with_reducible refine LeO.bind ?_ (fun _ => ?_))
      | exact ih0 _ _ _ _ _
      | exact ih1 _ _ _
      | exact impl_ParseHistory.mono _ _
      | exact laws_eqEventS.mono _ _ _
      | exact laws_heldEventS.mono _ _ _
      | exact laws_markEventS.mono _ _ _
      | exact spec_ParseHistory.mono _ _
      | exact LeO.none _
      | refine LeO.ite ?_ ?_
      | refine LeO.bind ?_ (fun _ => ?_)
    · intro y0 y1 y2
      unfold laws_FnExactParseHistory.j1
      repeat' first
      | (with_reducible exact ih0 _ _ _ _ _)
      | (with_reducible exact ih1 _ _ _)
      | (with_reducible exact impl_ParseHistory.mono _ _)
      | (with_reducible exact laws_eqEventS.mono _ _ _)
      | (with_reducible exact laws_heldEventS.mono _ _ _)
      | (with_reducible exact laws_markEventS.mono _ _ _)
      | (with_reducible exact spec_ParseHistory.mono _ _)
      | (with_reducible exact LeO.refl _)
      | (with_reducible exact LeO.none _)
      | (with_reducible refine LeO.ite ?_ ?_)
      | (with_reducible refine LeO.bind ?_ (fun _ => ?_))
      | exact ih0 _ _ _ _ _
      | exact ih1 _ _ _
      | exact impl_ParseHistory.mono _ _
      | exact laws_eqEventS.mono _ _ _
      | exact laws_heldEventS.mono _ _ _
      | exact laws_markEventS.mono _ _ _
      | exact spec_ParseHistory.mono _ _
      | exact LeO.none _
      | refine LeO.ite ?_ ?_
      | refine LeO.bind ?_ (fun _ => ?_)
theorem laws_FnExactParseHistory.mono : ∀ a0 k, LeO (laws_FnExactParseHistory.f k a0) (laws_FnExactParseHistory.f (k + 1) a0) := by
  intro a0 k
  obtain ⟨ih0, ih1⟩ := laws_FnExactParseHistory.mono_l k
  unfold laws_FnExactParseHistory.f
  repeat' first
      | (with_reducible exact ih0 _ _ _ _ _)
      | (with_reducible exact ih1 _ _ _)
      | (with_reducible exact impl_ParseHistory.mono _ _)
      | (with_reducible exact laws_eqEventS.mono _ _ _)
      | (with_reducible exact laws_heldEventS.mono _ _ _)
      | (with_reducible exact laws_markEventS.mono _ _ _)
      | (with_reducible exact spec_ParseHistory.mono _ _)
      | (with_reducible exact LeO.refl _)
      | (with_reducible exact LeO.none _)
      | (with_reducible refine LeO.ite ?_ ?_)
      | (with_reducible refine LeO.bind ?_ (fun _ => ?_))
      | exact ih0 _ _ _ _ _
      | exact ih1 _ _ _
      | exact impl_ParseHistory.mono _ _
      | exact laws_eqEventS.mono _ _ _
      | exact laws_heldEventS.mono _ _ _
      | exact laws_markEventS.mono _ _ _
      | exact spec_ParseHistory.mono _ _
      | exact LeO.none _
      | refine LeO.ite ?_ ?_
      | refine LeO.bind ?_ (fun _ => ?_)
set_option maxHeartbeats 8000000 in
set_option maxRecDepth 100000 in
theorem laws_FnExactParseHistory.calls (k : Nat) (a0 : ByteArray) (r : Bool) (w : World) (hG : Glob w) (h : laws_FnExactParseHistory.f k a0 = some r) (hr_ : r = true) :
    Calls Tryd.prog 4 #[.string a0] w fun e w' => e = .returned (.bool r) ∧ Below w.heap.size w w' := by
  have HR_ := Aside0.mk hr_
  clear hr_
  have HGL := Aside0.mk hG
  clear hG
  have HB := Aside0.mk (Below.refl w.heap.size w)
  have H : (if (a0.size : Int) > 1048576 then (some true) else ((spec_ParseHistory.f k a0).bind fun bt280 => ((impl_ParseHistory.f k a0).bind fun bt284 => ((laws_eqEventS.f k bt284.1 bt280.1).bind fun t288 => (if t288 = true then (laws_FnExactParseHistory.j0 k a0 bt280.1 bt280.2 bt284.1 (bt284.2 != bt280.2)) else (laws_FnExactParseHistory.j0 k a0 bt280.1 bt280.2 bt284.1 true)))))) = some r := h
  clear h
  by_cases c2 : (a0.size : Int) > 1048576
  · rw [if_pos c2] at H
    have c2b0 : decide (1048576 < (a0.size : Int)) = true := decide_eq_true c2
    have c2b1 : decide (1048576 < a0.size) = true := decide_eq_true (by omega)
    clear c2
    obtain rfl := Option.some.inj H
    go_enter Tryd.func4, Tryd.ntmps4
    go_wp2
    go_ret
    exact ⟨by first | rfl | (simp [errW_none, errW_some] <;> rfl) | (simp [*, errW_none, errW_some] <;> rfl), by repeat (first | (with_reducible first | exact HB.out | apply below_alloc | apply pw_below_drewN | apply below_drew1) | exact HB.out)⟩
  · rw [if_neg c2] at H
    have c2b0 : decide (1048576 < (a0.size : Int)) = false := decide_eq_false c2
    have c2b1 : decide (1048576 < a0.size) = false := decide_eq_false (by omega)
    clear c2
    replace H := Option.bind_eq_some_iff.mp H
    obtain ⟨⟨t280, t281⟩, A30, H⟩ := H
    replace H : ((impl_ParseHistory.f k a0).bind fun bt284 => ((laws_eqEventS.f k bt284.1 t280).bind fun t288 => (if t288 = true then (laws_FnExactParseHistory.j0 k a0 t280 t281 bt284.1 (bt284.2 != t281)) else (laws_FnExactParseHistory.j0 k a0 t280 t281 bt284.1 true)))) = some r := H
    have A3 := Aside0.mk A30
    clear A30
    replace H := Option.bind_eq_some_iff.mp H
    obtain ⟨⟨t284, t285⟩, A40, H⟩ := H
    replace H : ((laws_eqEventS.f k t284 t280).bind fun t288 => (if t288 = true then (laws_FnExactParseHistory.j0 k a0 t280 t281 t284 (t285 != t281)) else (laws_FnExactParseHistory.j0 k a0 t280 t281 t284 true))) = some r := H
    have A4 := Aside0.mk A40
    clear A40
    have HC5 := Aside0.mk H
    clear H
    go_enter Tryd.func4, Tryd.ntmps4
    go_upto_region 5 with (first | ((with_reducible refine gate_callee (f := 11) rfl ?_); refine goesL_ (some 16) rfl rfl Tryd.func11 (by kernel_rfl) rfl #[.string a0] rfl (by (try simp only [List.map_toArray, List.map_cons, List.map_nil]); first | done | rfl | (simp only [List.length_drop, List.length_take]; rfl)) ?_; (with_reducible refine (spec_ParseHistory.calls k a0 t280 t281 _ A3.out).mono ?_); rintro e w6 ⟨v282, rfl, ho0, hb⟩; refine ⟨_, rfl, ?_⟩; have n0_ := Aside0.mk (Kd.R_lower ho0 (below_size (by repeat (first | (with_reducible first | exact HB.out | apply below_alloc | apply pw_below_drewN | apply below_drew1) | exact HB.out)))); have n1_ := Aside0.mk (below_step (by repeat (first | (with_reducible first | exact HB.out | apply below_alloc | apply pw_below_drewN | apply below_drew1) | exact HB.out)) hb); clear HB; have HO283 := n0_; have HB := n1_; clear n0_ n1_; (try clear hb); (try clear hb2); (try clear hk); (try clear hi); (try clear ho0)) | ((with_reducible refine gate_callee (f := 12) rfl ?_); refine goesL_ (some 21) rfl rfl Tryd.func12 (by kernel_rfl) rfl #[.string a0] rfl (by (try simp only [List.map_toArray, List.map_cons, List.map_nil]); first | done | rfl | (simp only [List.length_drop, List.length_take]; rfl)) ?_; (with_reducible refine (impl_ParseHistory.calls k a0 t284 t285 _ ?side1 A4.out).mono ?_); (case side1 => exact Glob.below HGL.out (by repeat (first | (with_reducible first | exact HB.out | apply below_alloc | apply pw_below_drewN | apply below_drew1) | exact HB.out))); rintro e w7 ⟨v286, rfl, ho0, hb⟩; refine ⟨_, rfl, ?_⟩; have n0_ := Aside0.mk (Kd.R_elder' (by (with_reducible repeat (first | apply Kd.R_alloc | apply Kd.R_drewN | apply Kd.R_drew)); exact HO283.out) (Kd.R_base ho0) hb); have n1_ := Aside0.mk (Kd.R_lower (Kd.R_new' ho0 (Kd.R_lt (by (with_reducible repeat (first | apply Kd.R_alloc | apply Kd.R_drewN | apply Kd.R_drew)); exact HO283.out))) (below_size (by repeat (first | (with_reducible first | exact HB.out | apply below_alloc | apply pw_below_drewN | apply below_drew1) | exact HB.out)))); have n2_ := Aside0.mk (below_step (by repeat (first | (with_reducible first | exact HB.out | apply below_alloc | apply pw_below_drewN | apply below_drew1) | exact HB.out)) hb); clear HO283; clear HB; have HO283 := n0_; have HO287 := n1_; have HB := n2_; clear n0_ n1_ n2_; (try clear hb); (try clear hb2); (try clear hk); (try clear hi); (try clear ho0)))
    (try simp only [Act.put, List.setIfInBounds_toArray, List.set_cons_zero, List.set_cons_succ])
    go_cut [32] (fun v32 wc => ∃ (kq : Nat) (x32_4 : Bool), v32 = .bool x32_4 ∧ Aside0 (laws_FnExactParseHistory.j0 kq a0 t280 t281 t284 x32_4 = some r) ∧ Aside0 (kq ≤ k) ∧ Aside0 (Kd.R k40 40 wc w.heap.size (fun k_ => some k_ ≠ (v286 : Value).ownBlock) v282 t280) ∧ Aside0 (Kd.R k40 40 wc w.heap.size (fun k_ => some k_ ≠ (v282 : Value).ownBlock) v286 t284) ∧ Aside0 (Below w.heap.size w wc))
    case first =>
      have H := HC5.out
      clear HC5
      replace H := Option.bind_eq_some_iff.mp H
      obtain ⟨t288, A80, H⟩ := H
      replace H : (if t288 = true then (laws_FnExactParseHistory.j0 k a0 t280 t281 t284 (t285 != t281)) else (laws_FnExactParseHistory.j0 k a0 t280 t281 t284 true)) = some r := H
      have A8 := Aside0.mk A80
      clear A80
      by_cases c9 : t288 = true
      · subst c9
        have H1 : (laws_FnExactParseHistory.j0 k a0 t280 t281 t284 (t285 != t281)) = some r := by rw [if_pos rfl] at H; exact H
        clear H
        have H := H1
        clear H1
        have H' := Aside0.mk H
        clear H
        obtain ⟨Ao10, co10, eo10⟩ := Kd.R_slice HO287.out
        subst eo10
        obtain ⟨Ao11, co11, eo11⟩ := Kd.R_slice HO283.out
        subst eo11
        go_wp2_with (first | ((with_reducible refine gate_callee (f := 10) rfl ?_); refine goesL_ (some 26) rfl rfl Tryd.func10 (by kernel_rfl) rfl #[.slice Ao10 t284.length co10, .slice Ao11 t280.length co11] rfl (by (try simp only [List.map_toArray, List.map_cons, List.map_nil]); first | done | rfl | (simp only [List.length_drop, List.length_take]; rfl)) ?_; (with_reducible refine (laws_eqEventS.calls k _ _ t284 _ _ t280 true _ ?side1 ?side2 ?side3 ?side4 A8.out).mono ?_); (case side1 => repeat (first | exact (Kd.R_reads' HO287.out).2.2 | (with_reducible refine Kd.C_alloc ?_ _) | (with_reducible refine Kd.C_drewN ?_ _) | (with_reducible refine Kd.C_drew ?_))); (case side2 => exact (Kd.R_reads' HO287.out).2.1); (case side3 => repeat (first | exact (Kd.R_reads' HO283.out).2.2 | (with_reducible refine Kd.C_alloc ?_ _) | (with_reducible refine Kd.C_drewN ?_ _) | (with_reducible refine Kd.C_drew ?_))); (case side4 => exact (Kd.R_reads' HO283.out).2.1); rintro e w12 ⟨rfl, hb⟩; refine ⟨_, rfl, ?_⟩; have n0_ := Aside0.mk (Kd.R_below (by (with_reducible repeat (first | apply Kd.R_alloc | apply Kd.R_drewN | apply Kd.R_drew)); exact HO283.out) hb); have n1_ := Aside0.mk (Kd.R_below (by (with_reducible repeat (first | apply Kd.R_alloc | apply Kd.R_drewN | apply Kd.R_drew)); exact HO287.out) hb); have n2_ := Aside0.mk (below_step (by repeat (first | (with_reducible first | exact HB.out | apply below_alloc | apply pw_below_drewN | apply below_drew1) | exact HB.out)) hb); clear HO283; clear HO287; clear HB; have HO283 := n0_; have HO287 := n1_; have HB := n2_; clear n0_ n1_ n2_; (try clear hb); (try clear hb2); (try clear hk); (try clear hi)))
        go_meet
        case rel => exact ⟨_, ((t285 != t281)), (by first | rfl | (simp; done) | (simp [*]; done)), H', ⟨by first | omega | exact Nat.le_refl _⟩, ⟨by (with_reducible repeat (first | apply Kd.R_alloc | apply Kd.R_drewN | apply Kd.R_drew)); exact Kd.R_mono HO283.out (fun _ hk => hk.2)⟩, ⟨by (with_reducible repeat (first | apply Kd.R_alloc | apply Kd.R_drewN | apply Kd.R_drew)); exact Kd.R_mono HO287.out (fun _ hk => hk.2)⟩, ⟨by repeat (first | (with_reducible first | exact HB.out | apply below_alloc | apply pw_below_drewN | apply below_drew1) | exact HB.out)⟩⟩
      · replace c9 := Bool.eq_false_iff.mpr c9
        subst c9
        have H1 : (laws_FnExactParseHistory.j0 k a0 t280 t281 t284 true) = some r := by rw [if_neg (show ¬ (false = true) by decide)] at H; exact H
        clear H
        have H := H1
        clear H1
        have H' := Aside0.mk H
        clear H
        obtain ⟨Ao13, co13, eo13⟩ := Kd.R_slice HO287.out
        subst eo13
        obtain ⟨Ao14, co14, eo14⟩ := Kd.R_slice HO283.out
        subst eo14
        go_wp2_with (first | ((with_reducible refine gate_callee (f := 10) rfl ?_); refine goesL_ (some 26) rfl rfl Tryd.func10 (by kernel_rfl) rfl #[.slice Ao13 t284.length co13, .slice Ao14 t280.length co14] rfl (by (try simp only [List.map_toArray, List.map_cons, List.map_nil]); first | done | rfl | (simp only [List.length_drop, List.length_take]; rfl)) ?_; (with_reducible refine (laws_eqEventS.calls k _ _ t284 _ _ t280 false _ ?side1 ?side2 ?side3 ?side4 A8.out).mono ?_); (case side1 => repeat (first | exact (Kd.R_reads' HO287.out).2.2 | (with_reducible refine Kd.C_alloc ?_ _) | (with_reducible refine Kd.C_drewN ?_ _) | (with_reducible refine Kd.C_drew ?_))); (case side2 => exact (Kd.R_reads' HO287.out).2.1); (case side3 => repeat (first | exact (Kd.R_reads' HO283.out).2.2 | (with_reducible refine Kd.C_alloc ?_ _) | (with_reducible refine Kd.C_drewN ?_ _) | (with_reducible refine Kd.C_drew ?_))); (case side4 => exact (Kd.R_reads' HO283.out).2.1); rintro e w15 ⟨rfl, hb⟩; refine ⟨_, rfl, ?_⟩; have n0_ := Aside0.mk (Kd.R_below (by (with_reducible repeat (first | apply Kd.R_alloc | apply Kd.R_drewN | apply Kd.R_drew)); exact HO283.out) hb); have n1_ := Aside0.mk (Kd.R_below (by (with_reducible repeat (first | apply Kd.R_alloc | apply Kd.R_drewN | apply Kd.R_drew)); exact HO287.out) hb); have n2_ := Aside0.mk (below_step (by repeat (first | (with_reducible first | exact HB.out | apply below_alloc | apply pw_below_drewN | apply below_drew1) | exact HB.out)) hb); clear HO283; clear HO287; clear HB; have HO283 := n0_; have HO287 := n1_; have HB := n2_; clear n0_ n1_ n2_; (try clear hb); (try clear hb2); (try clear hk); (try clear hi)))
        go_meet
        case rel => exact ⟨_, (true), (by first | rfl | (simp; done) | (simp [*]; done)), H', ⟨by first | omega | exact Nat.le_refl _⟩, ⟨by (with_reducible repeat (first | apply Kd.R_alloc | apply Kd.R_drewN | apply Kd.R_drew)); exact Kd.R_mono HO283.out (fun _ hk => hk.2)⟩, ⟨by (with_reducible repeat (first | apply Kd.R_alloc | apply Kd.R_drewN | apply Kd.R_drew)); exact Kd.R_mono HO287.out (fun _ hk => hk.2)⟩, ⟨by repeat (first | (with_reducible first | exact HB.out | apply below_alloc | apply pw_below_drewN | apply below_drew1) | exact HB.out)⟩⟩
    case rest =>
      clear HC5
      try clear c1
      try clear c2
      try clear c2b0
      try clear c2b1
      try clear p2
      try clear c4
      try clear c9
      try clear c10
      try clear c11
      try clear c12
      obtain ⟨kq, x32_4, rfl, HA, HJ4, HO_3, HO_5, HB⟩ := hcut
      cases kq with
      | zero => exact absurd HA.out (by simp [laws_FnExactParseHistory.j0])
      | succ kj4 =>
        have H := HA.out
        clear HA
        simp only [laws_FnExactParseHistory.j0] at H
        by_cases c16 : x32_4 = true
        · subst c16
          have H1 : (some false) = some r := by rw [if_pos rfl] at H; exact H
          clear H
          have H := H1
          clear H1
          exact absurd (Option.some.inj H) (by rw [HR_.out]; decide)
        · replace c16 := Bool.eq_false_iff.mpr c16
          subst c16
          have H1 : ((laws_markEventS.f kj4 t284 1).bind fun bt289 => ((laws_heldEventS.f kj4 bt289.2 1).bind fun t291 => (if t291 < 0 then (some false) else (if t291 = bt289.1 then ((impl_ParseHistory.f kj4 a0).bind fun bt292 => ((laws_eqEventS.f kj4 bt292.1 t280).bind fun t296 => (if t296 = true then (laws_FnExactParseHistory.j1 kj4 bt289.2 bt289.1 (bt292.2 != t281)) else (laws_FnExactParseHistory.j1 kj4 bt289.2 bt289.1 true)))) else (some false))))) = some r := by rw [if_neg (show ¬ (false = true) by decide)] at H; exact H
          clear H
          have H := H1
          clear H1
          replace H := Option.bind_eq_some_iff.mp H
          obtain ⟨⟨t289, t290⟩, A170, H⟩ := H
          replace H : ((laws_heldEventS.f kj4 t290 1).bind fun t291 => (if t291 < 0 then (some false) else (if t291 = t289 then ((impl_ParseHistory.f kj4 a0).bind fun bt292 => ((laws_eqEventS.f kj4 bt292.1 t280).bind fun t296 => (if t296 = true then (laws_FnExactParseHistory.j1 kj4 t290 t289 (bt292.2 != t281)) else (laws_FnExactParseHistory.j1 kj4 t290 t289 true)))) else (some false)))) = some r := H
          have A17 := Aside0.mk A170
          clear A170
          replace H := Option.bind_eq_some_iff.mp H
          obtain ⟨t291, A180, H⟩ := H
          replace H : (if t291 < 0 then (some false) else (if t291 = t289 then ((impl_ParseHistory.f kj4 a0).bind fun bt292 => ((laws_eqEventS.f kj4 bt292.1 t280).bind fun t296 => (if t296 = true then (laws_FnExactParseHistory.j1 kj4 t290 t289 (bt292.2 != t281)) else (laws_FnExactParseHistory.j1 kj4 t290 t289 true)))) else (some false))) = some r := H
          have A18 := Aside0.mk A180
          clear A180
          by_cases c19 : t291 < 0
          · rw [if_pos c19] at H
            have c19b0 : decide (t291 < 0) = true := decide_eq_true c19
            clear c19
            exact absurd (Option.some.inj H) (by rw [HR_.out]; decide)
          · rw [if_neg c19] at H
            have c19b0 : decide (t291 < 0) = false := decide_eq_false c19
            clear c19
            by_cases c22 : t291 = t289
            · rw [if_pos c22] at H
              have c22b0 : (t291 == t289) = true := beq_iff_eq.mpr c22
              have c22b1 : (t291 != t289) = false := bne_eq_false_iff_eq.mpr c22
              clear c22
              replace H := Option.bind_eq_some_iff.mp H
              obtain ⟨⟨t292, t293⟩, A230, H⟩ := H
              replace H : ((laws_eqEventS.f kj4 t292 t280).bind fun t296 => (if t296 = true then (laws_FnExactParseHistory.j1 kj4 t290 t289 (t293 != t281)) else (laws_FnExactParseHistory.j1 kj4 t290 t289 true))) = some r := H
              have A23 := Aside0.mk A230
              clear A230
              have HC24 := Aside0.mk H
              clear H
              obtain ⟨Ao25, co25, eo25⟩ := Kd.R_slice HO_5.out
              subst eo25
              go_upto_region 16 with (first | ((with_reducible refine gate_callee (f := 13) rfl ?_); refine goesL_ (some 35) rfl rfl Tryd.func13 (by kernel_rfl) rfl #[.slice Ao25 t284.length co25, .int .i64 1] rfl (by (try simp only [List.map_toArray, List.map_cons, List.map_nil]); first | done | rfl | (simp only [List.length_drop, List.length_take]; rfl)) ?_; (with_reducible refine (laws_markEventS.calls kj4 (fun k_ => some k_ = (.slice Ao25 t284.length co25 : Value).ownBlock) (.slice Ao25 t284.length co25) t284 1 t289 t290 w _ ?side1 ?side2 A17.out).mono ?_); (case side1 => repeat (first | (with_reducible first | exact HB.out | apply below_alloc | apply pw_below_drewN | apply below_drew1) | exact HB.out)); (case side2 => exact Kd.R_tight rfl HO_5.out); rintro e w26 ⟨rfl, hy0, hb, hkp⟩; refine ⟨_, rfl, ?_⟩; have n0_ := Aside0.mk (Kd.R_mono (ok' := fun k_ => some k_ ≠ (.slice Ao25 t284.length co25 : Value).ownBlock) (Kd.R_keptB (HO_3.out) hkp (fun k_ hk_ hs_ => (hk_) hs_)) (fun k_ hk_ => hk_.1)); have n1_ := Aside0.mk (Kd.R_reok rfl hy0 (fun k_ e_ => HO_5.out.1 k_ e_)); have n2_ := Aside0.mk (hb); clear HO_3; clear HO_5; clear HB; have HO_3 := n0_; have HO_5 := n1_; have HB := n2_; clear n0_ n1_ n2_; (try clear hb); (try clear hkp); (try clear hy0)) | ((with_reducible refine gate_callee (f := 14) rfl ?_); refine goesL_ (some 38) rfl rfl Tryd.func14 (by kernel_rfl) rfl #[.slice Ao25 t290.length co25, .int .i64 1] rfl (by (try simp only [List.map_toArray, List.map_cons, List.map_nil]); first | done | (rw [show t290.length = t284.length from (Kd.R_reads' HO_5.out).1.symm] <;> rfl) | rfl | (simp only [List.length_drop, List.length_take]; rfl)) ?_; (with_reducible refine (laws_heldEventS.calls kj4 _ _ t290 1 t291 _ ?side1 ?side2 A18.out).mono ?_); (case side1 => repeat (first | exact (Kd.R_reads' HO_5.out).2.2 | (with_reducible refine Kd.C_alloc ?_ _) | (with_reducible refine Kd.C_drewN ?_ _) | (with_reducible refine Kd.C_drew ?_))); (case side2 => rw [show t290.length = t284.length from (Kd.R_reads' HO_5.out).1.symm]; exact (Kd.R_reads' HO_5.out).2.1); rintro e w' ⟨rfl, ⟨nd, rfl⟩⟩; refine ⟨_, rfl, ?_⟩) | ((with_reducible refine gate_callee (f := 12) rfl ?_); refine goesL_ (some 46) rfl rfl Tryd.func12 (by kernel_rfl) rfl #[.string a0] rfl (by (try simp only [List.map_toArray, List.map_cons, List.map_nil]); first | done | rfl | (simp only [List.length_drop, List.length_take]; rfl)) ?_; (with_reducible refine (impl_ParseHistory.calls kj4 a0 t292 t293 _ ?side1 A23.out).mono ?_); (case side1 => exact Glob.below HGL.out (by repeat (first | (with_reducible first | exact HB.out | apply below_alloc | apply pw_below_drewN | apply below_drew1) | exact HB.out))); rintro e w27 ⟨v294, rfl, ho0, hb⟩; refine ⟨_, rfl, ?_⟩; have n0_ := Aside0.mk (Kd.R_elder' (by (with_reducible repeat (first | apply Kd.R_alloc | apply Kd.R_drewN | apply Kd.R_drew)); exact HO_3.out) (Kd.R_base ho0) hb); have n1_ := Aside0.mk (Kd.R_elder' (by (with_reducible repeat (first | apply Kd.R_alloc | apply Kd.R_drewN | apply Kd.R_drew)); exact HO_5.out) (Kd.R_base ho0) hb); have n2_ := Aside0.mk (Kd.R_lower (Kd.R_new' (Kd.R_new' ho0 (Kd.R_lt (by (with_reducible repeat (first | apply Kd.R_alloc | apply Kd.R_drewN | apply Kd.R_drew)); exact HO_3.out))) (Kd.R_lt (by (with_reducible repeat (first | apply Kd.R_alloc | apply Kd.R_drewN | apply Kd.R_drew)); exact HO_5.out))) (below_size (by repeat (first | (with_reducible first | exact HB.out | apply below_alloc | apply pw_below_drewN | apply below_drew1) | exact HB.out)))); have n3_ := Aside0.mk (below_step (by repeat (first | (with_reducible first | exact HB.out | apply below_alloc | apply pw_below_drewN | apply below_drew1) | exact HB.out)) hb); clear HO_3; clear HO_5; clear HB; have HO_3 := n0_; have HO_5 := n1_; have HO295 := n2_; have HB := n3_; clear n0_ n1_ n2_ n3_; (try clear hb); (try clear hb2); (try clear hk); (try clear hi); (try clear ho0)))
              (try simp only [Act.put, List.setIfInBounds_toArray, List.set_cons_zero, List.set_cons_succ])
              go_cut [57] (fun v57 wc => ∃ (kq : Nat) (x57_23 : Bool), v57 = .bool x57_23 ∧ Aside0 (laws_FnExactParseHistory.j1 kq t290 t289 x57_23 = some r) ∧ Aside0 (kq ≤ kj4) ∧ Aside0 (Kd.R k40 40 wc w.heap.size (fun _ => True) (.slice Ao25 t284.length co25) t290) ∧ Aside0 (Below w.heap.size w wc))
              case first =>
                have H := HC24.out
                clear HC24
                replace H := Option.bind_eq_some_iff.mp H
                obtain ⟨t296, A280, H⟩ := H
                replace H : (if t296 = true then (laws_FnExactParseHistory.j1 kj4 t290 t289 (t293 != t281)) else (laws_FnExactParseHistory.j1 kj4 t290 t289 true)) = some r := H
                have A28 := Aside0.mk A280
                clear A280
                by_cases c29 : t296 = true
                · subst c29
                  have H1 : (laws_FnExactParseHistory.j1 kj4 t290 t289 (t293 != t281)) = some r := by rw [if_pos rfl] at H; exact H
                  clear H
                  have H := H1
                  clear H1
                  have H' := Aside0.mk H
                  clear H
                  obtain ⟨Ao30, co30, eo30⟩ := Kd.R_slice HO295.out
                  subst eo30
                  obtain ⟨Ao31, co31, eo31⟩ := Kd.R_slice HO_3.out
                  subst eo31
                  go_wp2_with (first | ((with_reducible refine gate_callee (f := 10) rfl ?_); refine goesL_ (some 51) rfl rfl Tryd.func10 (by kernel_rfl) rfl #[.slice Ao30 t292.length co30, .slice Ao31 t280.length co31] rfl (by (try simp only [List.map_toArray, List.map_cons, List.map_nil]); first | done | rfl | (simp only [List.length_drop, List.length_take]; rfl)) ?_; (with_reducible refine (laws_eqEventS.calls kj4 _ _ t292 _ _ t280 true _ ?side1 ?side2 ?side3 ?side4 A28.out).mono ?_); (case side1 => repeat (first | exact (Kd.R_reads' HO295.out).2.2 | (with_reducible refine Kd.C_alloc ?_ _) | (with_reducible refine Kd.C_drewN ?_ _) | (with_reducible refine Kd.C_drew ?_))); (case side2 => exact (Kd.R_reads' HO295.out).2.1); (case side3 => repeat (first | exact (Kd.R_reads' HO_3.out).2.2 | (with_reducible refine Kd.C_alloc ?_ _) | (with_reducible refine Kd.C_drewN ?_ _) | (with_reducible refine Kd.C_drew ?_))); (case side4 => exact (Kd.R_reads' HO_3.out).2.1); rintro e w32 ⟨rfl, hb⟩; refine ⟨_, rfl, ?_⟩; have n0_ := Aside0.mk (Kd.R_below (by (with_reducible repeat (first | apply Kd.R_alloc | apply Kd.R_drewN | apply Kd.R_drew)); exact HO_3.out) hb); have n1_ := Aside0.mk (Kd.R_below (by (with_reducible repeat (first | apply Kd.R_alloc | apply Kd.R_drewN | apply Kd.R_drew)); exact HO_5.out) hb); have n2_ := Aside0.mk (Kd.R_below (by (with_reducible repeat (first | apply Kd.R_alloc | apply Kd.R_drewN | apply Kd.R_drew)); exact HO295.out) hb); have n3_ := Aside0.mk (below_step (by repeat (first | (with_reducible first | exact HB.out | apply below_alloc | apply pw_below_drewN | apply below_drew1) | exact HB.out)) hb); clear HO_3; clear HO_5; clear HO295; clear HB; have HO_3 := n0_; have HO_5 := n1_; have HO295 := n2_; have HB := n3_; clear n0_ n1_ n2_ n3_; (try clear hb); (try clear hb2); (try clear hk); (try clear hi)))
                  go_meet
                  case rel => exact ⟨_, ((t293 != t281)), (by first | rfl | (simp; done) | (simp [*]; done)), H', ⟨by have := HJ4.out; first | omega | exact Nat.le_refl _⟩, ⟨by (with_reducible repeat (first | apply Kd.R_alloc | apply Kd.R_drewN | apply Kd.R_drew)); exact Kd.R_mono HO_5.out (fun _ hk => trivial)⟩, ⟨by repeat (first | (with_reducible first | exact HB.out | apply below_alloc | apply pw_below_drewN | apply below_drew1) | exact HB.out)⟩⟩
                · replace c29 := Bool.eq_false_iff.mpr c29
                  subst c29
                  have H1 : (laws_FnExactParseHistory.j1 kj4 t290 t289 true) = some r := by rw [if_neg (show ¬ (false = true) by decide)] at H; exact H
                  clear H
                  have H := H1
                  clear H1
                  have H' := Aside0.mk H
                  clear H
                  obtain ⟨Ao33, co33, eo33⟩ := Kd.R_slice HO295.out
                  subst eo33
                  obtain ⟨Ao34, co34, eo34⟩ := Kd.R_slice HO_3.out
                  subst eo34
                  go_wp2_with (first | ((with_reducible refine gate_callee (f := 10) rfl ?_); refine goesL_ (some 51) rfl rfl Tryd.func10 (by kernel_rfl) rfl #[.slice Ao33 t292.length co33, .slice Ao34 t280.length co34] rfl (by (try simp only [List.map_toArray, List.map_cons, List.map_nil]); first | done | rfl | (simp only [List.length_drop, List.length_take]; rfl)) ?_; (with_reducible refine (laws_eqEventS.calls kj4 _ _ t292 _ _ t280 false _ ?side1 ?side2 ?side3 ?side4 A28.out).mono ?_); (case side1 => repeat (first | exact (Kd.R_reads' HO295.out).2.2 | (with_reducible refine Kd.C_alloc ?_ _) | (with_reducible refine Kd.C_drewN ?_ _) | (with_reducible refine Kd.C_drew ?_))); (case side2 => exact (Kd.R_reads' HO295.out).2.1); (case side3 => repeat (first | exact (Kd.R_reads' HO_3.out).2.2 | (with_reducible refine Kd.C_alloc ?_ _) | (with_reducible refine Kd.C_drewN ?_ _) | (with_reducible refine Kd.C_drew ?_))); (case side4 => exact (Kd.R_reads' HO_3.out).2.1); rintro e w35 ⟨rfl, hb⟩; refine ⟨_, rfl, ?_⟩; have n0_ := Aside0.mk (Kd.R_below (by (with_reducible repeat (first | apply Kd.R_alloc | apply Kd.R_drewN | apply Kd.R_drew)); exact HO_3.out) hb); have n1_ := Aside0.mk (Kd.R_below (by (with_reducible repeat (first | apply Kd.R_alloc | apply Kd.R_drewN | apply Kd.R_drew)); exact HO_5.out) hb); have n2_ := Aside0.mk (Kd.R_below (by (with_reducible repeat (first | apply Kd.R_alloc | apply Kd.R_drewN | apply Kd.R_drew)); exact HO295.out) hb); have n3_ := Aside0.mk (below_step (by repeat (first | (with_reducible first | exact HB.out | apply below_alloc | apply pw_below_drewN | apply below_drew1) | exact HB.out)) hb); clear HO_3; clear HO_5; clear HO295; clear HB; have HO_3 := n0_; have HO_5 := n1_; have HO295 := n2_; have HB := n3_; clear n0_ n1_ n2_ n3_; (try clear hb); (try clear hb2); (try clear hk); (try clear hi)))
                  go_meet
                  case rel => exact ⟨_, (true), (by first | rfl | (simp; done) | (simp [*]; done)), H', ⟨by have := HJ4.out; first | omega | exact Nat.le_refl _⟩, ⟨by (with_reducible repeat (first | apply Kd.R_alloc | apply Kd.R_drewN | apply Kd.R_drew)); exact Kd.R_mono HO_5.out (fun _ hk => trivial)⟩, ⟨by repeat (first | (with_reducible first | exact HB.out | apply below_alloc | apply pw_below_drewN | apply below_drew1) | exact HB.out)⟩⟩
              case rest =>
                clear HC24
                try clear c1
                try clear c2
                try clear c2b0
                try clear c2b1
                try clear p2
                try clear c4
                try clear c9
                try clear c10
                try clear c11
                try clear c12
                try clear c13
                try clear c14
                try clear c16
                try clear c19
                try clear c19b0
                try clear c22
                try clear c22b0
                try clear c22b1
                try clear c29
                try clear p2
                obtain ⟨kq, x57_23, rfl, HA, HJ23, HO_5, HB⟩ := hcut
                have hl5_23 := (Kd.R_reads' HO_5.out).1
                rw [hl5_23] at HO_5
                (try simp only [hl5_23])
                cases kq with
                | zero => exact absurd HA.out (by simp [laws_FnExactParseHistory.j1])
                | succ kj23 =>
                  have H := HA.out
                  clear HA
                  simp only [laws_FnExactParseHistory.j1] at H
                  by_cases c36 : x57_23 = true
                  · subst c36
                    have H1 : (some false) = some r := by rw [if_pos rfl] at H; exact H
                    clear H
                    have H := H1
                    clear H1
                    exact absurd (Option.some.inj H) (by rw [HR_.out]; decide)
                  · replace c36 := Bool.eq_false_iff.mpr c36
                    subst c36
                    have H1 : ((laws_heldEventS.f kj23 t290 1).bind fun t297 => (if t297 < 0 then (some false) else (if t297 = t289 then (some true) else (some false)))) = some r := by rw [if_neg (show ¬ (false = true) by decide)] at H; exact H
                    clear H
                    have H := H1
                    clear H1
                    replace H := Option.bind_eq_some_iff.mp H
                    obtain ⟨t297, A370, H⟩ := H
                    replace H : (if t297 < 0 then (some false) else (if t297 = t289 then (some true) else (some false))) = some r := H
                    have A37 := Aside0.mk A370
                    clear A370
                    by_cases c38 : t297 < 0
                    · rw [if_pos c38] at H
                      have c38b0 : decide (t297 < 0) = true := decide_eq_true c38
                      clear c38
                      exact absurd (Option.some.inj H) (by rw [HR_.out]; decide)
                    · rw [if_neg c38] at H
                      have c38b0 : decide (t297 < 0) = false := decide_eq_false c38
                      clear c38
                      by_cases c39 : t297 = t289
                      · rw [if_pos c39] at H
                        have c39b0 : (t297 == t289) = true := beq_iff_eq.mpr c39
                        have c39b1 : (t297 != t289) = false := bne_eq_false_iff_eq.mpr c39
                        clear c39
                        obtain rfl := Option.some.inj H
                        go_wp2_with (first | ((with_reducible refine gate_callee (f := 14) rfl ?_); refine goesL_ (some 60) rfl rfl Tryd.func14 (by kernel_rfl) rfl #[.slice Ao25 t290.length co25, .int .i64 1] rfl (by (try simp only [List.map_toArray, List.map_cons, List.map_nil]); first | done | rfl | (simp only [List.length_drop, List.length_take]; rfl)) ?_; (with_reducible refine (laws_heldEventS.calls kj23 _ _ t290 1 t297 _ ?side1 ?side2 A37.out).mono ?_); (case side1 => repeat (first | exact (Kd.R_reads' HO_5.out).2.2 | (with_reducible refine Kd.C_alloc ?_ _) | (with_reducible refine Kd.C_drewN ?_ _) | (with_reducible refine Kd.C_drew ?_))); (case side2 => exact (Kd.R_reads' HO_5.out).2.1); rintro e w' ⟨rfl, ⟨nd, rfl⟩⟩; refine ⟨_, rfl, ?_⟩))
                        go_ret
                        exact ⟨by first | rfl | (simp [errW_none, errW_some] <;> rfl) | (simp [*, errW_none, errW_some] <;> rfl), by repeat (first | (with_reducible first | exact HB.out | apply below_alloc | apply pw_below_drewN | apply below_drew1) | exact HB.out)⟩
                      · rw [if_neg c39] at H
                        have c39b0 : (t297 == t289) = false := beq_eq_false_iff_ne.mpr c39
                        have c39b1 : (t297 != t289) = true := bne_iff_ne.mpr c39
                        exact absurd (Option.some.inj H) (by rw [HR_.out]; decide)
            · rw [if_neg c22] at H
              have c22b0 : (t291 == t289) = false := beq_eq_false_iff_ne.mpr c22
              have c22b1 : (t291 != t289) = true := bne_iff_ne.mpr c22
              exact absurd (Option.some.inj H) (by rw [HR_.out]; decide)
end Go.Proofs.YtpalafegcndccaaDoor.X


namespace Go.Proofs.YtpalafegcndccaaDoorZ
open Go.ChangeShapes Go.WideShapes Go.ChangeAt Go.RowKit
open Go.Proofs.YtpalafegcndccaaDoorW.PrintWords
set_option linter.unusedVariables false
set_option linter.unusedSimpArgs false
section
variable {P : Program}

end
end Go.Proofs.YtpalafegcndccaaDoorZ


-- written by a program of this session (wip/ext.py): what the law says, without Go and memory.
namespace Go.Proofs.YtpalafegcndccaaDoor.X
open Go.RowKit Go.Proofs.YtpalafegcndccaaDoorW.PrintWords Go.Proofs.YtpalafegcndccaaDoorW.PrintLast Go.Proofs.YtpalafegcndccaaDoorW.PrintMore
open Go.Proofs.YtpalafegcndccaaDoorZ
namespace OFnExactParseHistory
def Pure : Prop := ∀ (a0 : ByteArray), a0.size ≤ 140737488351232 → ∃ k, laws_FnExactParseHistory.f k a0 = some true
end OFnExactParseHistory
end Go.Proofs.YtpalafegcndccaaDoor.X


namespace Go.Proofs.YtpalafegcndccaaDoorL
open Go.RowKit Go.Proofs.YtpalafegcndccaaDoorW.PrintWords
set_option linter.unusedVariables false
set_option linter.unusedSimpArgs false

theorem ev_eq {α : Type} {g : Nat → Option α} {r : α} (h : ∀ k, g k = some r) : Ev g r := ⟨0, fun k _ => h k⟩
theorem ev_rounds {α : Type} {g : Nat → Option α} {r : α} (h : Ev g r) : ∃ k, g k = some r := h.rounds
theorem wrap_id {x : Int} (h0 : -9223372036854775808 ≤ x) (h1 : x ≤ 9223372036854775807) : wrap64 x = x := by unfold wrap64; omega
theorem wrap_succ {n : Nat} (h : n < 9223372036854775807) : wrap64 ((n : Int) + 1) = ((n + 1 : Nat) : Int) := by rw [wrap_id (by omega) (by omega)]; rfl
end Go.Proofs.YtpalafegcndccaaDoorL


-- written by a program of this session (wip/ext.py) out of the translation. Not trusted: Lean checks it.
namespace Go.Proofs.YtpalafegcndccaaDoor.X
open Go.RowKit Go.Proofs.YtpalafegcndccaaDoorW.PrintWords Go.Proofs.YtpalafegcndccaaDoorW.PrintLast Go.Proofs.YtpalafegcndccaaDoorW.PrintMore
attribute [local go_sem] max2_int min2_int max_two min_two max_three min_three max_four min_four   -- for this text's walks alone
open Go.Proofs.YtpalafegcndccaaDoorG
set_option linter.unusedVariables false
set_option linter.unusedSimpArgs false

def laws_szEventS.f (l0 : List (S51)) (a1 : Int) : Option (Int) := if (wrap64 (a1 - (l0.length : Int))) < 0 then (some (-1)) else (some (wrap64 (a1 - (l0.length : Int))))
set_option maxHeartbeats 8000000 in
set_option maxRecDepth 100000 in
theorem laws_szEventS.calls (A0 : Option Addr) (c0 : Nat) (l0 : List (S51)) (a1 : Int) (r : Int) (w : World) (hr0 : Kd.C k51 w A0 l0.length l0) (hc0 : l0.length ≤ c0) (h : laws_szEventS.f l0 a1 = some r) :
    Calls Tryd.prog 6 #[.slice A0 l0.length c0, .int .i64 a1] w fun e w' => e = .returned (.int .i64 r) ∧ Drawn0 w w' := by
  have HR0 := Aside0.mk hr0
  have HC0 := Aside0.mk hc0
  clear hr0 hc0
  have H : (if (wrap64 (a1 - (l0.length : Int))) < 0 then (some (-1)) else (some (wrap64 (a1 - (l0.length : Int))))) = some r := h
  clear h
  by_cases c3 : (wrap64 (a1 - (l0.length : Int))) < 0
  · rw [if_pos c3] at H
    have c3b0 : decide ((wrap64 (a1 - (l0.length : Int))) < 0) = true := decide_eq_true c3
    clear c3
    obtain rfl := Option.some.inj H
    go_enter Tryd.func6, Tryd.ntmps6
    go_wp2
    go_ret
    exact ⟨by first | rfl | (simp; done) | (simp [*]; done), by repeat (first | exact Drawn0.refl _ | apply Drawn0.step)⟩
  · rw [if_neg c3] at H
    have c3b0 : decide ((wrap64 (a1 - (l0.length : Int))) < 0) = false := decide_eq_false c3
    clear c3
    obtain rfl := Option.some.inj H
    go_enter Tryd.func6, Tryd.ntmps6
    go_wp2
    go_ret
    exact ⟨by first | rfl | (simp; done) | (simp [*]; done), by repeat (first | exact Drawn0.refl _ | apply Drawn0.step)⟩

end Go.Proofs.YtpalafegcndccaaDoor.X


-- written by a program of this session (wip/ext.py) out of the translation. Not trusted: Lean checks it.
namespace Go.Proofs.YtpalafegcndccaaDoor.X
open Go.RowKit Go.Proofs.YtpalafegcndccaaDoorW.PrintWords Go.Proofs.YtpalafegcndccaaDoorW.PrintLast Go.Proofs.YtpalafegcndccaaDoorW.PrintMore
attribute [local go_sem] max2_int min2_int max_two min_two max_three min_three max_four min_four   -- for this text's walks alone
open Go.Proofs.YtpalafegcndccaaDoorG
set_option linter.unusedVariables false
set_option linter.unusedSimpArgs false

def laws_toEvent.f (a0_0 : Int) (a0_1 : Int) : Option (Int × Int) := some (a0_0, a0_1)
set_option maxHeartbeats 8000000 in
set_option maxRecDepth 100000 in
theorem laws_toEvent.calls (a0_0 : Int) (a0_1 : Int) (r1 : Int) (r2 : Int) (w : World) (h : laws_toEvent.f a0_0 a0_1 = some (r1, r2)) :
    Calls Tryd.prog 27 #[.agg #[.int .i64 a0_0, .int .i64 a0_1]] w fun e w' => e = .returned (.agg #[.int .i64 r1, .int .i64 r2]) ∧ Below w.heap.size w w' := by
  have hu51 := Tryd.underlying51
  have hu40 := Tryd.underlying40
  have HB := Aside0.mk (Below.refl w.heap.size w)
  have H : (some (a0_0, a0_1)) = some (r1, r2) := h
  clear h
  simp only [Option.some.injEq, Prod.mk.injEq] at H
  obtain ⟨rfl, rfl⟩ := H
  go_enter Tryd.func27, Tryd.ntmps27
  go_wp2_with (first | ((with_reducible refine gate_dst (N := 1) rfl ?_); refine box_event ?hg (N := 1) ?hd (cs := #[.int .i64 a0_0, .int .i64 a0_1]) (t := 51) ?hr ?_; (case hd => rfl); (case hg => rfl); (case hr => first | (go_simp; done) | (go_simp; rfl)); intro gb121 hg w2 hbox hb; have n0_ := Aside0.mk (below_step (by repeat (first | (with_reducible first | exact HB.out | apply below_alloc | apply pw_below_drewN | apply below_drew1) | exact HB.out)) hb); have n1_ := Aside0.mk (hbox); have n2_ := Aside0.mk ((by rw [hg]; exact (below_size (by repeat (first | (with_reducible first | exact HB.out | apply below_alloc | apply pw_below_drewN | apply below_drew1) | exact HB.out))) : w.heap.size ≤ gb121)); have n3_ := Aside0.mk ((by rw [hg]; exact (below_size (by repeat (first | (with_reducible first | exact HB.out | apply below_alloc | apply pw_below_drewN | apply below_drew1) | exact HB.out))) : w.heap.size ≤ gb121)); clear HB; have HB := n0_; have BK121 := n1_; have GW121 := n2_; have GE121 := n3_; clear n0_ n1_ n2_ n3_; clear hb hbox hg) | ((with_reducible refine gate_dst (N := 2) rfl ?_); refine box_event ?hg (N := 2) ?hd (cs := #[.int .i64 0, .int .i64 0]) (t := 40) ?hr ?_; (case hd => rfl); (case hg => rfl); (case hr => first | (go_simp; done) | (go_simp; rfl)); intro gb122 hg w3 hbox hb; have n0_ := Aside0.mk (blk_below (g := gb121) (o := .cells #[.int .i64 a0_0, .int .i64 a0_1] 51 (0, 0)) (by (with_reducible repeat (first | refine blk_drewN ?_ _ | refine blk_drew ?_ | refine blk_alloc ?_ _)); exact BK121.out) hb); have n1_ := Aside0.mk (below_step (by repeat (first | (with_reducible first | exact HB.out | apply below_alloc | apply pw_below_drewN | apply below_drew1 | refine below_set ?_ GE121.out) | exact HB.out)) hb); have n2_ := Aside0.mk (hbox); have n3_ := Aside0.mk ((by rw [hg]; exact (below_size (by repeat (first | (with_reducible first | exact HB.out | apply below_alloc | apply pw_below_drewN | apply below_drew1 | refine below_set ?_ GE121.out) | exact HB.out))) : w.heap.size ≤ gb122)); have n4_ := Aside0.mk ((by rw [hg]; exact (below_size (by repeat (first | (with_reducible first | exact HB.out | apply below_alloc | apply pw_below_drewN | apply below_drew1 | refine below_set ?_ GE121.out) | exact HB.out))) : w.heap.size ≤ gb122)); have n5_ := Aside0.mk ((by rw [hg]; exact Nat.ne_of_lt (blk_lt (g := gb121) (o := .cells #[.int .i64 a0_0, .int .i64 a0_1] 51 (0, 0)) (by (with_reducible repeat (first | refine blk_drewN ?_ _ | refine blk_drew ?_ | refine blk_alloc ?_ _)); exact BK121.out)) : gb121 ≠ gb122)); have n6_ := Aside0.mk ((by rw [hg]; exact Nat.ne_of_gt (blk_lt (g := gb121) (o := .cells #[.int .i64 a0_0, .int .i64 a0_1] 51 (0, 0)) (by (with_reducible repeat (first | refine blk_drewN ?_ _ | refine blk_drew ?_ | refine blk_alloc ?_ _)); exact BK121.out)) : gb122 ≠ gb121)); clear BK121; clear HB; have BK121 := n0_; have HB := n1_; have BK122 := n2_; have GW122 := n3_; have GE122 := n4_; have NB121_122 := n5_; have NB122_121 := n6_; clear n0_ n1_ n2_ n3_ n4_ n5_ n6_; clear hb hbox hg) | ((with_reducible refine gate_dst (N := 3) rfl ?_); refine box_event ?hg (N := 3) ?hd (cs := #[.int .i64 0, .int .i64 0]) (t := 40) ?hr ?_; (case hd => rfl); (case hg => rfl); (case hr => first | (go_simp; done) | (go_simp; rfl)); intro gb123 hg w4 hbox hb; have n0_ := Aside0.mk (blk_below (g := gb121) (o := .cells #[.int .i64 a0_0, .int .i64 a0_1] 51 (0, 0)) (by (with_reducible repeat (first | refine blk_drewN ?_ _ | refine blk_drew ?_ | refine blk_alloc ?_ _)); exact BK121.out) hb); have n1_ := Aside0.mk (blk_below (g := gb122) (o := .cells #[.int .i64 0, .int .i64 0] 40 (0, 0)) (by (with_reducible repeat (first | refine blk_drewN ?_ _ | refine blk_drew ?_ | refine blk_alloc ?_ _)); exact BK122.out) hb); have n2_ := Aside0.mk (below_step (by repeat (first | (with_reducible first | exact HB.out | apply below_alloc | apply pw_below_drewN | apply below_drew1 | refine below_set ?_ GE121.out | refine below_set ?_ GE122.out) | exact HB.out)) hb); have n3_ := Aside0.mk (hbox); have n4_ := Aside0.mk ((by rw [hg]; exact (below_size (by repeat (first | (with_reducible first | exact HB.out | apply below_alloc | apply pw_below_drewN | apply below_drew1 | refine below_set ?_ GE121.out | refine below_set ?_ GE122.out) | exact HB.out))) : w.heap.size ≤ gb123)); have n5_ := Aside0.mk ((by rw [hg]; exact (below_size (by repeat (first | (with_reducible first | exact HB.out | apply below_alloc | apply pw_below_drewN | apply below_drew1 | refine below_set ?_ GE121.out | refine below_set ?_ GE122.out) | exact HB.out))) : w.heap.size ≤ gb123)); have n6_ := Aside0.mk ((by rw [hg]; exact Nat.ne_of_lt (blk_lt (g := gb121) (o := .cells #[.int .i64 a0_0, .int .i64 a0_1] 51 (0, 0)) (by (with_reducible repeat (first | refine blk_drewN ?_ _ | refine blk_drew ?_ | refine blk_alloc ?_ _)); exact BK121.out)) : gb121 ≠ gb123)); have n7_ := Aside0.mk ((by rw [hg]; exact Nat.ne_of_gt (blk_lt (g := gb121) (o := .cells #[.int .i64 a0_0, .int .i64 a0_1] 51 (0, 0)) (by (with_reducible repeat (first | refine blk_drewN ?_ _ | refine blk_drew ?_ | refine blk_alloc ?_ _)); exact BK121.out)) : gb123 ≠ gb121)); have n8_ := Aside0.mk ((by rw [hg]; exact Nat.ne_of_lt (blk_lt (g := gb122) (o := .cells #[.int .i64 0, .int .i64 0] 40 (0, 0)) (by (with_reducible repeat (first | refine blk_drewN ?_ _ | refine blk_drew ?_ | refine blk_alloc ?_ _)); exact BK122.out)) : gb122 ≠ gb123)); have n9_ := Aside0.mk ((by rw [hg]; exact Nat.ne_of_gt (blk_lt (g := gb122) (o := .cells #[.int .i64 0, .int .i64 0] 40 (0, 0)) (by (with_reducible repeat (first | refine blk_drewN ?_ _ | refine blk_drew ?_ | refine blk_alloc ?_ _)); exact BK122.out)) : gb123 ≠ gb122)); clear BK121; clear BK122; clear HB; have BK121 := n0_; have BK122 := n1_; have HB := n2_; have BK123 := n3_; have GW123 := n4_; have GE123 := n5_; have NB121_123 := n6_; have NB123_121 := n7_; have NB122_123 := n8_; have NB123_122 := n9_; clear n0_ n1_ n2_ n3_ n4_ n5_ n6_ n7_ n8_ n9_; clear hb hbox hg; have hnb5 := NB121_122.out; have hnc5 := NB122_121.out; have hnb6 := NB121_123.out; have hnc6 := NB123_121.out; have hcz7_0 : w4.cell? ⟨gb121, 0, none⟩ = some (.int .i64 a0_0) := (blk_cell BK121.out 0).trans rfl; have hcz7_1 : w4.cell? ⟨gb121, 1, none⟩ = some (.int .i64 a0_1) := (blk_cell BK121.out 1).trans rfl; have hfz7_0 := blk_frozen BK121.out 0; have hfz7_1 := blk_frozen BK121.out 1; have hnb8 := NB123_122.out; have hnc8 := NB122_123.out; have hcz9_0 : w4.cell? ⟨gb123, 0, none⟩ = some (.int .i64 0) := (blk_cell BK123.out 0).trans rfl; have hcz9_1 : w4.cell? ⟨gb123, 1, none⟩ = some (.int .i64 0) := (blk_cell BK123.out 1).trans rfl; have hfz9_0 := blk_frozen BK123.out 0; have hfz9_1 := blk_frozen BK123.out 1; have hcz10_0 : w4.cell? ⟨gb122, 0, none⟩ = some (.int .i64 0) := (blk_cell BK122.out 0).trans rfl; have hcz10_1 : w4.cell? ⟨gb122, 1, none⟩ = some (.int .i64 0) := (blk_cell BK122.out 1).trans rfl; have hfz10_0 := blk_frozen BK122.out 0; have hfz10_1 := blk_frozen BK122.out 1))
  refine bodyPost_ret (results_cell_row rfl _ _ gb122 40 #[.int .i64 a0_0, .int .i64 a0_1] (0, 0) _ rfl (by (with_reducible repeat (first | refine blk_drewN ?_ _ | refine blk_drew ?_ | refine blk_alloc ?_ _)); refine blk_put (cs := #[.int .i64 a0_0, .int .i64 0]) ?_ 1 _ rfl; (with_reducible repeat (first | refine blk_drewN ?_ _ | refine blk_drew ?_ | refine blk_alloc ?_ _)); refine blk_put (cs := #[.int .i64 0, .int .i64 0]) ?_ 0 _ rfl; (with_reducible repeat (first | refine blk_drewN ?_ _ | refine blk_drew ?_ | refine blk_alloc ?_ _)); refine blk_far ?_ NB122_123.out _; (with_reducible repeat (first | refine blk_drewN ?_ _ | refine blk_drew ?_ | refine blk_alloc ?_ _)); refine blk_far ?_ NB122_123.out _; (with_reducible repeat (first | refine blk_drewN ?_ _ | refine blk_drew ?_ | refine blk_alloc ?_ _)); exact BK122.out) Tryd.underlying40 rfl (by kernel_rfl)) rfl ?_
  exact ⟨by first | rfl | (simp [errW_none, errW_some] <;> rfl) | (simp [*, errW_none, errW_some] <;> rfl), by repeat (first | (with_reducible first | exact HB.out | apply below_alloc | apply pw_below_drewN | apply below_drew1 | refine below_set ?_ GE121.out | refine below_set ?_ GE122.out | refine below_set ?_ GE123.out) | exact HB.out)⟩

end Go.Proofs.YtpalafegcndccaaDoor.X


-- written by a program of this session (wip/ext.py) out of the translation. Not trusted: Lean checks it.
namespace Go.Proofs.YtpalafegcndccaaDoor.X
open Go.RowKit Go.Proofs.YtpalafegcndccaaDoorW.PrintWords Go.Proofs.YtpalafegcndccaaDoorW.PrintLast Go.Proofs.YtpalafegcndccaaDoorW.PrintMore
attribute [local go_sem] max2_int min2_int max_two min_two max_three min_three max_four min_four   -- for this text's walks alone
open Go.Proofs.YtpalafegcndccaaDoorG
set_option linter.unusedVariables false
set_option linter.unusedSimpArgs false

def laws_toEventS.l0 : Nat → List (S51) → List (S40) → Int → Option ((List (S40)))
  | 0, _, _, _ => none
  | k + 1, x0, x3, x4 => if x4 < (x0.length : Int) then (if 0 ≤ x4 then ((laws_toEvent.f ((rd_T51 x0 x4).f0) ((rd_T51 x0 x4).f1)).bind fun bt128 => (if x4 < (x3.length : Int) then (laws_toEventS.l0 k x0 (x3.set (x4 : Int).toNat (⟨bt128.1, bt128.2⟩ : S40)) (wrap64 (x4 + 1))) else (none))) else (none)) else (some x3)
def laws_toEventS.f (k : Nat) (l0 : List (S51)) : Option ((List (S40))) := if 0 ≤ (l0.length : Int) then (if ((l0.length : Int) : Int).toNat ≤ 17592186044416 then (laws_toEventS.l0 k l0 (List.replicate ((l0.length : Int) : Int).toNat z40) 0) else (none)) else (none)
theorem laws_toEventS.mono_l : ∀ k, (∀ y0 y1 y2, LeO (laws_toEventS.l0 k y0 y1 y2) (laws_toEventS.l0 (k + 1) y0 y1 y2))
  | 0 => fun _ _ _ r h => by simp [laws_toEventS.l0] at h
  | k + 1 => by
    have ih0 := laws_toEventS.mono_l k
    · intro y0 y1 y2
      unfold laws_toEventS.l0
      repeat' first
      | (with_reducible exact ih0 _ _ _)
      | (with_reducible exact LeO.refl _)
      | (with_reducible exact LeO.none _)
      | (with_reducible refine LeO.ite ?_ ?_)
      | (with_reducible refine LeO.bind ?_ (fun _ => ?_))
      | exact ih0 _ _ _
      | exact LeO.none _
      | refine LeO.ite ?_ ?_
      | refine LeO.bind ?_ (fun _ => ?_)
theorem laws_toEventS.mono : ∀ a0 k, LeO (laws_toEventS.f k a0) (laws_toEventS.f (k + 1) a0) := by
  intro a0 k
  have ih0 := laws_toEventS.mono_l k
  unfold laws_toEventS.f
  repeat' first
      | (with_reducible exact ih0 _ _ _)
      | (with_reducible exact LeO.refl _)
      | (with_reducible exact LeO.none _)
      | (with_reducible refine LeO.ite ?_ ?_)
      | (with_reducible refine LeO.bind ?_ (fun _ => ?_))
      | exact ih0 _ _ _
      | exact LeO.none _
      | refine LeO.ite ?_ ?_
      | refine LeO.bind ?_ (fun _ => ?_)
set_option maxHeartbeats 8000000 in
set_option maxRecDepth 100000 in
theorem laws_toEventS.calls (k : Nat) (A0 : Option Addr) (c0 : Nat) (l0 : List (S51)) (r : List (S40)) (w : World) (hr0 : Kd.C k51 w A0 l0.length l0) (hc0 : l0.length ≤ c0) (h : laws_toEventS.f k l0 = some r) :
    Calls Tryd.prog 8 #[.slice A0 l0.length c0] w fun e w' => ∃ v0_ : Value, e = .returned (v0_) ∧ Kd.R k40 40 w' w.heap.size (fun _ => True) v0_ r ∧ Below w.heap.size w w' := by
  have hu51 := Tryd.underlying51
  have hu40 := Tryd.underlying40
  have HR0 := Aside0.mk hr0
  have HC0 := Aside0.mk hc0
  clear hr0 hc0
  have HB := Aside0.mk (Below.refl w.heap.size w)
  have H : (if 0 ≤ (l0.length : Int) then (if ((l0.length : Int) : Int).toNat ≤ 17592186044416 then (laws_toEventS.l0 k l0 (List.replicate ((l0.length : Int) : Int).toNat z40) 0) else (none)) else (none)) = some r := h
  clear h
  by_cases c2 : 0 ≤ (l0.length : Int)
  · rw [if_pos c2] at H
    have c2b0 := eq_true c2
    have c2b1 : decide (0 ≤ (l0.length : Int)) = true := decide_eq_true c2
    clear c2
    by_cases c3 : ((l0.length : Int) : Int).toNat ≤ 17592186044416
    · rw [if_pos c3] at H
      have c3b0 := eq_true c3
      have c3b1 : decide (((l0.length : Int) : Int).toNat ≤ 17592186044416) = true := decide_eq_true c3
      clear c3
      obtain ⟨y124, hy124⟩ : ∃ y_ : List (S40), y_ = (List.replicate ((l0.length : Int) : Int).toNat z40) := ⟨_, rfl⟩
      replace H : (laws_toEventS.l0 k l0 y124 0) = some r := by first | (rw [hy124]; with_reducible exact H) | (have H2_ := (Option.bind_some _ _).symm.trans H; rw [hy124]; with_reducible exact H2_) | (have H2_ := (Option.bind_some _ _).symm.trans H; with_reducible exact H2_) | with_reducible exact H | (rw [hy124]; exact H) | exact H
      have Ny124 := Aside0.mk hy124
      clear hy124
      have H' := Aside0.mk H
      clear H
      go_enter Tryd.func8, Tryd.ntmps8
      go_wp2_with (first | ((with_reducible refine gate_dst (N := 7) rfl ?_); refine Kd.R_make k40 _ 40 rfl (N := 7) rfl 26 _ _ rfl (l0.length : Int) rfl rfl Tryd.underlying26 (.agg #[(.int .i64 0), (.int .i64 0)]) 16 info40 rfl (by decide) (by omega) z40 (ok := fun _ => True) (okp := fun _ => True) (k40_mkM _ _ _ z40 ) (fun _ hk => hk) trivial (of_decide_eq_true (by first | (with_reducible assumption) | assumption)) (Nat.le_trans (Nat.mul_le_mul_right _ (of_decide_eq_true (by first | (with_reducible assumption) | assumption) : (l0.length : Int).toNat ≤ 17592186044416)) (by omega)) (Below.refl _ _) (Nat.le_refl _) ?_; intro v125 w4 ho5 hb hg_ hnew_; clear hg_ hnew_; (first | rw [← Ny124.out] at ho5 | (simp only [Int.reduceToNat] at ho5; rw [← Ny124.out] at ho5)); have n0_ := Aside0.mk (Kd.R_lower ho5 (below_size (by repeat (first | (with_reducible first | exact HB.out | apply below_alloc | apply pw_below_drewN | apply below_drew1) | exact HB.out)))); have n1_ := Aside0.mk (below_step (by repeat (first | (with_reducible first | exact HB.out | apply below_alloc | apply pw_below_drewN | apply below_drew1) | exact HB.out)) hb); clear HB; have HO126 := n0_; have HB := n1_; clear n0_ n1_; clear hb ho5))
      go_loopg [4] k (fun kq v4 w' => ∃ (x3_1 : List (S40)) (x4_1 : Int), v4 = .int .i64 x4_1 ∧ Aside0 (laws_toEventS.l0 kq l0 x3_1 x4_1 = some r) ∧ Aside0 (kq ≤ k) ∧ Aside0 (Kd.R k40 40 w' w.heap.size (fun _ => True) v125 x3_1) ∧ Aside0 (Below w.heap.size w w'))
      case atStart => exact ⟨(y124), (0), (by first | rfl | (simp; done) | (simp [*]; done)), H', ⟨Nat.le_refl _⟩, ⟨by (with_reducible repeat (first | apply Kd.R_alloc | apply Kd.R_drewN | apply Kd.R_drew)); exact HO126.out⟩, ⟨by repeat (first | (with_reducible first | exact HB.out | apply below_alloc | apply pw_below_drewN | apply below_drew1) | exact HB.out)⟩⟩
      case round =>
        clear H'
        try clear c2
        try clear c2b0
        try clear c2b1
        try clear p2
        try clear c3
        try clear c3b0
        try clear c3b1
        obtain ⟨x3_1, x4_1, rfl, HA, HK1, HO_3, HB⟩ := hrel
        cases gk with
        | zero => exact absurd HA.out (by simp [laws_toEventS.l0])
        | succ k1 =>
          have H := HA.out
          clear HA
          simp only [laws_toEventS.l0] at H
          by_cases c6 : x4_1 < (l0.length : Int)
          · rw [if_pos c6] at H
            have c6b0 : decide (x4_1 < (l0.length : Int)) = true := decide_eq_true c6
            clear c6
            by_cases c7 : 0 ≤ x4_1
            · rw [if_pos c7] at H
              have c7b0 : decide (0 ≤ x4_1) = true := decide_eq_true c7
              clear c7
              replace H := Option.bind_eq_some_iff.mp H
              obtain ⟨⟨t128, t129⟩, A80, H⟩ := H
              replace H : (if x4_1 < (x3_1.length : Int) then (laws_toEventS.l0 k1 l0 (x3_1.set (x4_1 : Int).toNat (⟨t128, t129⟩ : S40)) (wrap64 (x4_1 + 1))) else (none)) = some r := H
              have A8 := Aside0.mk A80
              clear A80
              by_cases c9 : x4_1 < (x3_1.length : Int)
              · rw [if_pos c9] at H
                have c9b0 : decide (x4_1 < (x3_1.length : Int)) = true := decide_eq_true c9
                clear c9
                obtain ⟨y130, hy130⟩ : ∃ y_ : List (S40), y_ = (x3_1.set (x4_1 : Int).toNat (⟨t128, t129⟩ : S40)) := ⟨_, rfl⟩
                replace H : (laws_toEventS.l0 k1 l0 y130 (wrap64 (x4_1 + 1))) = some r := by first | (rw [hy130]; with_reducible exact H) | (have H2_ := (Option.bind_some _ _).symm.trans H; rw [hy130]; with_reducible exact H2_) | (have H2_ := (Option.bind_some _ _).symm.trans H; with_reducible exact H2_) | with_reducible exact H | (rw [hy130]; exact H) | exact H
                have Ny130 := Aside0.mk hy130
                clear hy130
                have H' := Aside0.mk H
                clear H
                have p127 : 0 ≤ (x4_1 : Int) := of_decide_eq_true (by first | (with_reducible assumption) | assumption)
                have q127 : x4_1 < (l0.length : Int) := of_decide_eq_true (by first | (with_reducible assumption) | assumption)
                obtain ⟨ad127, e127, hx127_0, hx127_1⟩ := at_T51 HR0.out x4_1 p127 q127
                cases e127
                replace hx127_0 := (HB.out.cell (World.block_lt_of_cell? w _ hx127_0)).trans hx127_0
                replace hx127_1 := (HB.out.cell (World.block_lt_of_cell? w _ hx127_1)).trans hx127_1
                replace p127 := eq_true p127
                replace q127 := eq_true q127
                go_wp2_with (first | ((with_reducible refine gate_callee (f := 27) rfl ?_); refine goesL_ (some 20) rfl rfl Tryd.func27 (by kernel_rfl) rfl #[.agg #[.int .i64 ((rd_T51 l0 x4_1).f0), .int .i64 ((rd_T51 l0 x4_1).f1)]] rfl (by (try simp only [List.map_toArray, List.map_cons, List.map_nil]); first | done | rfl | (simp only [List.length_drop, List.length_take]; rfl)) ?_; (with_reducible refine (laws_toEvent.calls ((rd_T51 l0 x4_1).f0) ((rd_T51 l0 x4_1).f1) t128 t129 _ A8.out).mono ?_); rintro e w11 ⟨rfl, hb⟩; refine ⟨_, rfl, ?_⟩; have n0_ := Aside0.mk (Kd.R_below (by (with_reducible repeat (first | apply Kd.R_alloc | apply Kd.R_drewN | apply Kd.R_drew)); exact HO_3.out) hb); have n1_ := Aside0.mk (below_step (by repeat (first | (with_reducible first | exact HB.out | apply below_alloc | apply pw_below_drewN | apply below_drew1) | exact HB.out)) hb); clear HO_3; clear HB; have HO_3 := n0_; have HB := n1_; clear n0_ n1_; (try clear hb); (try clear hb2); (try clear hk); (try clear hi); have p10 : 0 ≤ (x4_1 : Int) := of_decide_eq_true (by first | (with_reducible assumption) | assumption); have q10 : (x4_1 : Int) < ((x3_1.length : Int) : Int) := of_decide_eq_true (by first | (with_reducible assumption) | assumption); obtain ⟨go10, co10, eo10, gb10, gl10, cl10, HG10⟩ := Kd.R_form HO_3.out (by omega); (first | cases eo10 | (injection eo10 with ea_ en_ ec_; (first | subst ea_ | (injection ea_ with ea_; subst ea_)); subst ec_; clear en_)); have GB10 := Aside0.mk gb10; have GG10 := Aside0.mk HG10; clear gb10 gl10 HG10; obtain ⟨ce10, hcl10, hM10, hcc10, hfr10⟩ := Kd.R_elem HO_3.out z40 (x4_1 : Int) p10 q10; obtain rfl := k40_openM hM10; have hx10_0 : w11.cell? ⟨go10, (x4_1 : Int).toNat * 2, none⟩ = some (.int .i64 ((rd_T40 x3_1 x4_1).f0)) := hcc10 0 _ rfl; have hx10_1 : w11.cell? ⟨go10, (x4_1 : Int).toNat * 2 + 1, none⟩ = some (.int .i64 ((rd_T40 x3_1 x4_1).f1)) := hcc10 1 _ rfl; have hf10_0 : w11.frozen? ⟨go10, (x4_1 : Int).toNat * 2, none⟩ = false := hfr10 0; have hf10_1 : w11.frozen? ⟨go10, (x4_1 : Int).toNat * 2 + 1, none⟩ = false := hfr10 1; (try clear hcl10); (try clear hcc10); (try clear hfr10); (try clear hM10); replace p10 := eq_true p10; replace q10 := eq_true q10; have HX12 := Aside0.mk (show Kd.R k40 40 w11 w.heap.size (fun _ => True) (.slice (some ⟨go10, 0, none⟩) x3_1.length co10) x3_1 from (by (with_reducible repeat (first | apply Kd.R_alloc | apply Kd.R_drewN | apply Kd.R_drew)); exact HO_3.out)); obtain ⟨ce12, hcl12, hM12, hcc12, hfr12⟩ := Kd.R_elem HX12.out z40 (x4_1 : Int) (of_decide_eq_true (by first | (with_reducible assumption) | assumption)) (by have h_ : (x4_1 : Int) < ((x3_1.length : Int) : Int) := of_decide_eq_true (by first | (with_reducible assumption) | assumption); first | exact h_ | (have e_ := (Kd.R_reads' HO_3.out).1; omega) | simpa using h_); obtain rfl := k40_openM hM12; have HP12 := Kd.R_seg HX12.out (x4_1 : Int) (of_decide_eq_true (by first | (with_reducible assumption) | assumption)) (by have h_ : (x4_1 : Int) < ((x3_1.length : Int) : Int) := of_decide_eq_true (by first | (with_reducible assumption) | assumption); first | exact h_ | (have e_ := (Kd.R_reads' HO_3.out).1; omega) | simpa using h_) (seg := [.int .i64 t128, .int .i64 t129]) (j := 0) hcl12 hcc12 (show 2 ≤ 2 from by decide) (x' := (⟨t128, t129⟩ : S40)) (k40_mkM _ _ _ (⟨t128, t129⟩ : S40) ) (fun _ hk => hk); have hx12_0 := hcc12 0 _ rfl; (try simp only [show (k40).sz = 2 from rfl, Nat.mul_one, Nat.add_zero] at hx12_0); have hf12_0 := hfr12 0; (try simp only [show (k40).sz = 2 from rfl, Nat.mul_one, Nat.add_zero] at hf12_0); have hx12_1 := hcc12 1 _ rfl; (try simp only [show (k40).sz = 2 from rfl, Nat.mul_one, Nat.add_zero] at hx12_1); have hf12_1 := hfr12 1; (try simp only [show (k40).sz = 2 from rfl, Nat.mul_one, Nat.add_zero] at hf12_1); clear hcl12 hcc12 hfr12 hM12) | ((with_reducible refine gate_store (t := 40) (p := 21) rfl ?_); refine store_event (t := 40) (p := 21) (v := ?vo_w13) (w1 := ((w11.setCell ⟨go10, (x4_1 : Int).toNat * 2, none⟩ (.int .i64 t128)).setCell ⟨go10, (x4_1 : Int).toNat * 2 + 1, none⟩ (.int .i64 t129))) ?hg ?ho ?hn ?hr ?_; (case ho => rfl); (case hg => rfl); (case hn => rfl); (case hr => first | (go_simp; done) | (go_simp; rfl)); intro w13 hw; have hg : w11.grownBy w13 (some go10) := (by rw [hw]; exact HP12.2); have hp_ : Kd.R k40 40 w13 w.heap.size (fun _ => True) (.slice (some ⟨go10, 0, none⟩) x3_1.length co10) y130 := (by rw [hw, Ny130.out]; exact HP12.1); clear HP12; have n0_ := Aside0.mk (hp_); have n1_ := Aside0.mk ((by rw [hw]; exact below_set (below_set (HB.out) GB10.out) GB10.out : Below w.heap.size w w13)); clear HO_3; clear HB; have HO_3 := n0_; have HB := n1_; clear n0_ n1_; clear hg hw hp_))
                go_roundg k1
                case measure => have := HK1.out; omega
                case rel => exact ⟨(y130), (wrap64 (x4_1 + 1)), (by first | rfl | (simp; done) | (simp [*]; done)), H', ⟨by have := HK1.out; omega⟩, ⟨by (with_reducible repeat (first | apply Kd.R_alloc | apply Kd.R_drewN | apply Kd.R_drew)); exact HO_3.out⟩, ⟨by repeat (first | (with_reducible first | exact HB.out | apply below_alloc | apply pw_below_drewN | apply below_drew1) | exact HB.out)⟩⟩
              · rw [if_neg c9] at H
                exact absurd H (by simp)
            · rw [if_neg c7] at H
              exact absurd H (by simp)
          · rw [if_neg c6] at H
            have c6b0 : decide (x4_1 < (l0.length : Int)) = false := decide_eq_false c6
            clear c6
            obtain rfl := Option.some.inj H
            go_wp2
            go_ret
            exact ⟨_, by first | rfl | (simp [errW_none, errW_some] <;> rfl) | (simp [*, errW_none, errW_some] <;> rfl), by (with_reducible repeat (first | apply Kd.R_alloc | apply Kd.R_drewN | apply Kd.R_drew)); exact HO_3.out, by repeat (first | (with_reducible first | exact HB.out | apply below_alloc | apply pw_below_drewN | apply below_drew1) | exact HB.out)⟩
    · rw [if_neg c3] at H
      exact absurd H (by simp)
  · rw [if_neg c2] at H
    exact absurd H (by simp)

end Go.Proofs.YtpalafegcndccaaDoor.X


namespace Go.Proofs.YtpalafegcndccaaDoor.X
open Go.RowKit Go.Proofs.YtpalafegcndccaaDoorW.PrintWords Go.Proofs.YtpalafegcndccaaDoorL
set_option linter.unusedVariables false
set_option linter.unusedSimpArgs false
abbrev Event := S40
theorem rdE (l : List Event) (n : Nat) (h : n < l.length) : rd_T40 l (n : Int) = l[n] := by simp [rd_T40, List.getD_eq_getElem?_getD, List.getElem?_eq_getElem h]
theorem eqEventS_ev (l : List Event) (h : l.length ≤ 1048576) : Ev (fun k => laws_eqEventS.f k l l) true := by
  have key : ∀ (d n : Nat), n + d = l.length → Ev (fun k => laws_eqEventS.l0 k l l n) true := by
    intro d
    induction d with
    | zero => intro n hn; exact Ev.step (f := fun _ => some _) (fun k => by simp only [laws_eqEventS.l0]; rw [if_neg (by omega)]) (Ev.now _)
    | succ d ih =>
      intro n hn
      refine Ev.step (f := fun k => laws_eqEventS.l0 k l l ((n + 1 : Nat) : Int)) (fun k => ?_) (ih (n + 1) (by omega))
      simp only [laws_eqEventS.l0]
      rw [if_pos (by omega), if_pos (by omega), if_pos (by omega), wrap_succ (by omega)]
      simp [laws_eqEvent.f]
  exact Ev.congr (f := fun k => laws_eqEventS.l0 k l l ((0 : Nat) : Int)) (fun k => by unfold laws_eqEventS.f; rw [if_pos rfl]; rfl) (key l.length 0 (by omega))
/-- The state after an event in a state; -1. -/
def nxt (s k : Int) : Int := if s = 0 ∧ (k = 1 ∨ k = 2) then 1 else if s = 1 ∧ k = 3 then 2 else if s = 2 ∧ k = 4 then 1 else if s = 1 ∧ (k = 5 ∨ k = 6) then 0 else -1
theorem specNext_ev (s e : Int) : Ev (fun k => spec_l23Next.f k s e) (nxt s e) := by
  refine ⟨4, fun k hk => ?_⟩
  obtain ⟨m, rfl⟩ : ∃ m, k = m + 4 := ⟨k - 4, by omega⟩
  simp only [spec_l23Next.f, spec_l23Next.j0, spec_l23Next.j1, spec_l23Next.j2, nxt]
  by_cases s0 : s = 0
  · subst s0; by_cases e1 : e = 1
    · subst e1; simp
    · by_cases e2 : e = 2
      · subst e2; simp
      · simp [e1, e2]
  · by_cases s1 : s = 1
    · subst s1; by_cases e3 : e = 3
      · subst e3; simp
      · by_cases e5 : e = 5
        · subst e5; simp
        · by_cases e6 : e = 6
          · subst e6; simp
          · simp [e3, e5, e6]
    · by_cases s2 : s = 2
      · subst s2; by_cases e4 : e = 4
        · subst e4; simp
        · simp [e4]
      · simp [s0, s1, s2]
theorem implNext_ev (s e : Int) : Ev (fun k => impl_nextState.f k s e) (if 0 ≤ nxt s e then (nxt s e, true) else (0, false)) := by
  refine ⟨4, fun k hk => ?_⟩
  obtain ⟨m, rfl⟩ : ∃ m, k = m + 4 := ⟨k - 4, by omega⟩
  simp only [impl_nextState.f, impl_nextState.j0, impl_nextState.j1, impl_nextState.j2, nxt]
  by_cases s0 : s = 0
  · subst s0; by_cases e1 : e = 1
    · subst e1; simp
    · by_cases e2 : e = 2
      · subst e2; simp
      · simp [e1, e2]
  · by_cases s1 : s = 1
    · subst s1; by_cases e3 : e = 3
      · subst e3; simp
      · by_cases e5 : e = 5
        · subst e5; simp
        · by_cases e6 : e = 6
          · subst e6; simp
          · simp [e3, e5, e6]
    · by_cases s2 : s = 2
      · subst s2; by_cases e4 : e = 4
        · subst e4; simp
        · simp [e4]
      · simp [s0, s1, s2]
/-- May event n follow in state s? -/
def okE (l : List Event) (n : Nat) (s : Int) (h : n < l.length) : Prop := 0 ≤ l[n].f0 ∧ l[n].f0 ≤ 9999 ∧ (∀ h0 : 0 < n, l[n - 1].f0 ≤ l[n].f0) ∧ 0 ≤ nxt s l[n].f1
open Classical in
/-- The state after the events from n on. -/
noncomputable def runE (l : List Event) : Nat → Nat → Int → Option Int
  | 0, _, s => some s
  | d + 1, n, s => if h : n < l.length then (if okE l n s h then runE l d (n + 1) (nxt s l[n].f1) else none) else none
theorem runE_nonneg (l : List Event) : ∀ (d n : Nat) (s r : Int), 0 ≤ s → runE l d n s = some r → 0 ≤ r := by
  intro d
  induction d with
  | zero => intro n s r hs h; simp only [runE, Option.some.injEq] at h; omega
  | succ d ih =>
    intro n s r hs h
    simp only [runE] at h
    split at h
    · split at h
      · rename_i h1 h2; exact ih _ _ _ h2.2.2.2 h
      · cases h
    · cases h
theorem specState_loop (l : List Event) (hl : l.length ≤ 20) : ∀ (d n : Nat) (s : Int), n + d = l.length → 0 ≤ s → Ev (fun k => spec_l23State.l0 k l s n) ((runE l d n s).getD (-1)) := by
  intro d
  induction d with
  | zero => intro n s hn hs; exact Ev.step (f := fun _ => some _) (fun k => by simp only [spec_l23State.l0]; rw [if_neg (by omega)]; rfl) (Ev.now _)
  | succ d ih =>
    intro n s hn hs
    have hln : n < l.length := by omega
    have hw : 0 < n → wrap64 ((n : Int) - 1) = ((n - 1 : Nat) : Int) := fun h0 => by rw [wrap_id (by omega) (by omega)]; omega
    have bad : ∀ (c : Bool), c = true → Ev (fun k => spec_l23State.j1 k l s n c) (-1) := fun c hc => by subst hc; exact Ev.step (f := fun _ => some (-1)) (fun k => by simp [spec_l23State.j1]) (Ev.now _)
    have good : Ev (fun k => spec_l23State.j1 k l s n false) (if 0 ≤ nxt s l[n].f1 then (runE l d (n + 1) (nxt s l[n].f1)).getD (-1) else -1) := by
      refine Ev.step (f := fun k => (spec_l23Next.f k s l[n].f1).bind fun t => if t < 0 then some (-1) else spec_l23State.l0 k l t ((n + 1 : Nat) : Int)) (fun k => ?_) ?_
      · simp only [spec_l23State.j1]
        rw [if_neg (by decide), if_pos (by omega), if_pos (by omega), rdE l n hln, wrap_succ (by omega)]
      · refine Ev.bind (specNext_ev _ _) ?_
        by_cases c : 0 ≤ nxt s l[n].f1
        · simp only [if_pos c, if_neg (show ¬ nxt s l[n].f1 < 0 by omega)]; exact ih (n + 1) _ (by omega) c
        · simp only [if_neg c, if_pos (show nxt s l[n].f1 < 0 by omega)]; exact Ev.now _
    simp only [runE, dif_pos hln]
    refine Ev.step (f := fun k => if 0 ≤ l[n].f0 ∧ l[n].f0 ≤ 9999 then (if h0 : 0 < n then spec_l23State.j1 k l s n (decide (l[n - 1].f0 > l[n].f0)) else spec_l23State.j1 k l s n false) else spec_l23State.j1 k l s n true) (fun k => ?_) ?_
    · simp only [spec_l23State.l0]
      rw [if_pos (by omega), if_pos (by omega), rdE l n hln]
      unfold spec_l1In.f
      by_cases a1 : l[n].f0 ≥ 0
      · by_cases a2 : l[n].f0 ≤ 9999
        · simp only [if_pos a1, a2, decide_true, Option.bind_some, if_true, if_pos (show 0 ≤ l[n].f0 ∧ True from ⟨a1, trivial⟩)]
          by_cases h0 : 0 < n
          · rw [if_pos (by omega), if_pos (by rw [hw h0]; omega), if_pos (by rw [hw h0]; omega), hw h0, rdE l (n - 1) (by omega), dif_pos h0]
          · rw [if_neg (by omega), dif_neg h0]
        · simp only [if_pos a1, a2, decide_false, Option.bind_some, Bool.false_eq_true, if_false, and_false]
      · simp only [if_neg a1, Option.bind_some, Bool.false_eq_true, if_false, if_neg (show ¬ (0 ≤ l[n].f0 ∧ l[n].f0 ≤ 9999) from fun z => a1 z.1)]
    · by_cases a : 0 ≤ l[n].f0 ∧ l[n].f0 ≤ 9999
      · simp only [if_pos a]
        by_cases h0 : 0 < n
        · simp only [dif_pos h0]
          by_cases b : l[n - 1].f0 ≤ l[n].f0
          · rw [decide_eq_false (by omega)]
            by_cases c : 0 ≤ nxt s l[n].f1
            · rw [if_pos (show okE l n s hln from ⟨a.1, a.2, fun _ => b, c⟩)]; rw [if_pos c] at good; exact good
            · rw [if_neg (show ¬ okE l n s hln from fun z => c z.2.2.2)]; rw [if_neg c] at good; exact good
          · rw [if_neg (show ¬ okE l n s hln from fun z => b (z.2.2.1 h0))]; exact bad _ (decide_eq_true (by omega))
        · simp only [dif_neg h0]
          by_cases c : 0 ≤ nxt s l[n].f1
          · rw [if_pos (show okE l n s hln from ⟨a.1, a.2, fun z => absurd z h0, c⟩)]; rw [if_pos c] at good; exact good
          · rw [if_neg (show ¬ okE l n s hln from fun z => c z.2.2.2)]; rw [if_neg c] at good; exact good
      · simp only [if_neg a]
        rw [if_neg (show ¬ okE l n s hln from fun z => a ⟨z.1, z.2.1⟩)]; exact bad _ rfl
theorem implState_loop (l : List Event) (hl : l.length ≤ 1048576) : ∀ (d n : Nat) (s : Int), n + d = l.length → Ev (fun k => impl_stateAfter.l0 k l s l (l.length : Int) n) (match runE l d n s with | some r => (r, decide (l.length ≤ 20)) | none => (0, false)) := by
  intro d
  induction d with
  | zero => intro n s hn; exact Ev.step (f := fun _ => some _) (fun k => by simp only [impl_stateAfter.l0]; rw [if_neg (by omega)]; simp [runE] <;> omega) (Ev.now _)
  | succ d ih =>
    intro n s hn
    have hln : n < l.length := by omega
    have hw : 0 < n → wrap64 ((n : Int) - 1) = ((n - 1 : Nat) : Int) := fun h0 => by rw [wrap_id (by omega) (by omega)]; omega
    simp only [runE, dif_pos hln]
    refine Ev.step (f := fun k => (impl_nextState.f k s l[n].f1).bind fun b => if b.2 = true then (if 0 ≤ l[n].f0 ∧ l[n].f0 ≤ 9999 then (if h0 : 0 < n then (if l[n].f0 < l[n - 1].f0 then some (0, false) else impl_stateAfter.l0 k l b.1 l (l.length : Int) ((n + 1 : Nat) : Int)) else impl_stateAfter.l0 k l b.1 l (l.length : Int) ((n + 1 : Nat) : Int)) else some (0, false)) else some (0, false)) (fun k => ?_) ?_
    · simp only [impl_stateAfter.l0]
      rw [if_pos (by omega), if_pos (by omega), if_pos (by omega), rdE l n hln, wrap_succ (by omega)]
      congr 1
      funext b
      unfold impl_within.f
      by_cases a1 : l[n].f0 ≥ 0
      · by_cases a2 : l[n].f0 ≤ 9999
        · simp only [if_pos a1, a2, decide_true, Option.bind_some, if_true, if_pos (show 0 ≤ l[n].f0 ∧ True from ⟨a1, trivial⟩)]
          by_cases h0 : 0 < n
          · rw [if_pos (show (n : Int) > 0 by omega), if_pos (show 0 ≤ wrap64 ((n : Int) - 1) by rw [hw h0]; omega), if_pos (show wrap64 ((n : Int) - 1) < (l.length : Int) by rw [hw h0]; omega), hw h0, rdE l (n - 1) (by omega), dif_pos h0]
          · rw [if_neg (show ¬ (n : Int) > 0 by omega), dif_neg h0]
        · simp only [if_pos a1, a2, decide_false, Option.bind_some, Bool.false_eq_true, if_false, and_false]
      · simp only [if_neg a1, Option.bind_some, Bool.false_eq_true, if_false, if_neg (show ¬ (0 ≤ l[n].f0 ∧ l[n].f0 ≤ 9999) from fun z => a1 z.1)]
    · refine Ev.bind (implNext_ev _ _) ?_
      by_cases c : 0 ≤ nxt s l[n].f1
      · simp only [if_pos c, if_true]
        by_cases a : 0 ≤ l[n].f0 ∧ l[n].f0 ≤ 9999
        · simp only [if_pos a]
          by_cases h0 : 0 < n
          · simp only [dif_pos h0]
            by_cases b : l[n].f0 < l[n - 1].f0
            · simp only [if_pos b]
              rw [if_neg (show ¬ okE l n s hln from fun z => by have := z.2.2.1 h0; omega)]; exact Ev.now _
            · simp only [if_neg b]
              rw [if_pos (show okE l n s hln from ⟨a.1, a.2, fun _ => by omega, c⟩)]; exact ih (n + 1) _ (by omega)
          · simp only [dif_neg h0]
            rw [if_pos (show okE l n s hln from ⟨a.1, a.2, fun z => absurd z h0, c⟩)]; exact ih (n + 1) _ (by omega)
        · simp only [if_neg a]
          rw [if_neg (show ¬ okE l n s hln from fun z => a ⟨z.1, z.2.1⟩)]; exact Ev.now _
      · simp only [if_neg c, Bool.false_eq_true, if_false]
        rw [if_neg (show ¬ okE l n s hln from fun z => c z.2.2.2)]; exact Ev.now _
/-- The state after a history; none if it is none. -/
noncomputable def hist (l : List Event) : Option Int := if l.length ≤ 20 then runE l l.length 0 0 else none
theorem hist_nonneg {l : List Event} {s : Int} (h : hist l = some s) : 0 ≤ s := by
  unfold hist at h
  split at h
  · exact runE_nonneg l _ _ _ _ (by omega) h
  · cases h
theorem specState_ev (l : List Event) : Ev (fun k => spec_l23State.f k l) ((hist l).getD (-1)) := by
  unfold spec_l23State.f hist
  by_cases h : l.length ≤ 20
  · simp only [if_neg (show ¬ (l.length : Int) > 20 by omega), if_pos h]; exact specState_loop l h l.length 0 0 (by omega) (by omega)
  · simp only [if_pos (show (l.length : Int) > 20 by omega), if_neg h]; exact Ev.now _
theorem implState_ev (l : List Event) (hl : l.length ≤ 1048576) : ∃ r, Ev (fun k => impl_stateAfter.f k l) r ∧ r.2 = (hist l).isSome ∧ ∀ s, hist l = some s → r.1 = s := by
  refine ⟨_, implState_loop l hl l.length 0 0 (by omega), ?_⟩
  unfold hist
  by_cases h : l.length ≤ 20
  · rw [if_pos h]; cases runE l l.length 0 0 <;> simp [h]
  · rw [if_neg h]; cases runE l l.length 0 0 <;> simp [h]
end Go.Proofs.YtpalafegcndccaaDoor.X


namespace Go.Proofs.YtpalafegcndccaaDoorL
open Go.RowKit Go.Proofs.YtpalafegcndccaaDoorW.PrintWords
set_option linter.unusedVariables false
set_option linter.unusedSimpArgs false
/-- A text's bytes. -/
def B (s : ByteArray) : List UInt8 := s.data.toList
theorem B_length (s : ByteArray) : (B s).length = s.size := by simp [B]
theorem bt_B (s : ByteArray) (n : Nat) (h : n < (B s).length) : bt s n = ((B s)[n].toNat : Int) := by
  have h2 : n < s.size := by rw [B_length] at h; exact h
  unfold bt
  rw [Int.toNat_natCast, dif_pos h2]
  rfl
theorem B_toList (s : ByteArray) : s.toList = B s := by
  unfold B
  have key : ∀ (d i : Nat) (r : List UInt8), i + d = s.size → ByteArray.toList.loop s i r = r.reverse ++ (s.data.toList.drop i) := by
    intro d
    induction d with
    | zero =>
      intro i r h
      unfold ByteArray.toList.loop
      rw [if_neg (by omega), List.drop_of_length_le (by simp; omega)]; simp
    | succ d ih =>
      intro i r h
      unfold ByteArray.toList.loop
      have hi : i < s.size := by omega
      rw [if_pos hi, ih (i + 1) _ (by omega), List.drop_eq_getElem_cons (show i < s.data.toList.length by simp; omega)]
      have e : s.get! i = s.data.toList[i]'(by simp; omega) := by
        show s.data[i]! = _
        rw [getElem!_pos s.data i hi]; simp
      rw [e, List.reverse_cons]
      simp
  have := key s.size 0 [] (by omega)
  simpa [ByteArray.toList] using this
theorem B_inj {s t : ByteArray} (h : B s = B t) : s = t := by
  have : s.data = t.data := Array.toList_inj.1 h
  cases s; cases t; simp_all
end Go.Proofs.YtpalafegcndccaaDoorL


namespace Go.Proofs.YtpalafegcndccaaDoor.X
open Go.RowKit Go.Proofs.YtpalafegcndccaaDoorW.PrintWords Go.Proofs.YtpalafegcndccaaDoorL
set_option linter.unusedVariables false
set_option linter.unusedSimpArgs false
theorem B_append (s t : ByteArray) : B (s ++ t) = B s ++ B t := by unfold B; simp
theorem B_mk (l : List UInt8) : B ⟨l.toArray⟩ = l := by simp [B]
theorem size_B (s : ByteArray) : s.size = (B s).length := (B_length s).symm
theorem mk_append (a b : List UInt8) : (⟨a.toArray⟩ : ByteArray) ++ ⟨b.toArray⟩ = ⟨(a ++ b).toArray⟩ := B_inj (by rw [B_append, B_mk, B_mk, B_mk])
def dec (n : Int) : ByteArray := ⟨(Lib.itoa n).toArray⟩
theorem B_dec (n : Int) : B (dec n) = Lib.itoa n := B_mk _
theorem dec_size (n : Int) (h0 : -9223372036854775808 ≤ n) (h1 : n ≤ 9223372036854775807) : (dec n).size ≤ 21 := by
  rw [size_B, B_dec]; exact Lib.itoa_length_le n h0 h1
theorem implDec (n : Int) (h0 : -9223372036854775808 ≤ n) (h1 : n ≤ 9223372036854775807) : impl_decimal.f n = some (dec n) := by
  unfold impl_decimal.f strconv_Itoa_62.f
  rw [if_pos ⟨h0, h1⟩]
  rfl
theorem digit_cut (d : Nat) (h : d < 10) : (⟨#[48, 49, 50, 51, 52, 53, 54, 55, 56, 57]⟩ : ByteArray).extract d (d + 1) = ⟨[UInt8.ofNat (48 + d)].toArray⟩ := by
  have : d = 0 ∨ d = 1 ∨ d = 2 ∨ d = 3 ∨ d = 4 ∨ d = 5 ∨ d = 6 ∨ d = 7 ∨ d = 8 ∨ d = 9 := by omega
  rcases this with rfl | rfl | rfl | rfl | rfl | rfl | rfl | rfl | rfl | rfl <;> rfl
theorem decDigits_le (u : Nat) (h : u ≤ 9223372036854775807) : (Lib.decDigits u).length ≤ 21 := by
  have := Lib.itoa_length_le (u : Int) (by omega) (by omega)
  unfold Lib.itoa at this
  rw [if_neg (by omega), Int.toNat_natCast] at this
  exact this
theorem specNum_nat : ∀ (m u : Nat), u ≤ m → u ≤ 9223372036854775807 → Ev (fun k => spec_l1Num.f k (u : Int)) ⟨(Lib.decDigits u).toArray⟩ := by
  intro m
  induction m with
  | zero =>
    intro u hu hb
    obtain rfl : u = 0 := by omega
    refine Ev.step (f := fun _ => some _) (fun k => ?_) (Ev.now _)
    simp only [spec_l1Num.f]
    rw [if_neg (by omega), if_pos (by omega), if_pos (by omega), wrap_id (by omega) (by omega), if_pos (by omega), if_pos (by omega), Lib.decDigits, dif_pos (by omega)]
    rfl
  | succ m ih =>
    intro u hu hb
    by_cases h : u < 10
    · refine Ev.step (f := fun _ => some _) (fun k => ?_) (Ev.now _)
      simp only [spec_l1Num.f]
      rw [if_neg (by omega), if_pos (by omega), if_pos (by omega), wrap_id (by omega) (by omega), if_pos (by omega), if_pos (by omega), Lib.decDigits, dif_pos h, ← digit_cut u h]
      rfl
    · have hd : wrap64 (Int.tdiv (u : Int) 10) = ((u / 10 : Nat) : Int) := by
        rw [Int.tdiv_eq_ediv_of_nonneg (by omega), wrap_id (by omega) (by omega)]; omega
      have hm : Int.tmod (u : Int) 10 = ((u % 10 : Nat) : Int) := by rw [Int.tmod_eq_emod_of_nonneg (by omega)]; omega
      refine Ev.step (f := fun k => (spec_l1Num.f k ((u / 10 : Nat) : Int)).bind fun t => if t.size + (⟨[UInt8.ofNat (48 + u % 10)].toArray⟩ : ByteArray).size ≤ 9223372036854775807 then some (t ++ ⟨[UInt8.ofNat (48 + u % 10)].toArray⟩) else none) (fun k => ?_) ?_
      · simp only [spec_l1Num.f]
        rw [if_neg (by omega), if_neg (by omega), hd, hm]
        congr 1
        funext t
        rw [if_pos (by omega), wrap_id (x := ((u % 10 : Nat) : Int) + 1) (by omega) (by omega), if_pos (by omega), if_pos (by omega)]
        have e : (((u % 10 : Nat) : Int) + 1).toNat = u % 10 + 1 := by omega
        rw [Int.toNat_natCast, e, digit_cut (u % 10) (by omega)]
      · have i1 := ih (u / 10) (by omega) (by omega)
        have hs := decDigits_le (u / 10) (by omega)
        refine Ev.bind i1 (Ev.congr (fun k => if_pos ?_) ?_)
        · rw [size_B, size_B, B_mk, B_mk]; simp only [List.length_cons, List.length_nil]; omega
        · rw [mk_append, Lib.decDigits.eq_1 u, dif_neg h]; exact Ev.now _
theorem specNum_ev (n : Int) (h0 : -9223372036854775807 ≤ n) (h1 : n ≤ 9223372036854775807) : Ev (fun k => spec_l1Num.f k n) (dec n) := by
  by_cases h : n < 0
  · have e : wrap64 (-n) = ((n.natAbs : Nat) : Int) := by rw [wrap_id (by omega) (by omega)]; omega
    have hs := decDigits_le n.natAbs (by omega)
    refine Ev.step (f := fun k => (spec_l1Num.f k ((n.natAbs : Nat) : Int)).bind fun t => if 1 + t.size ≤ 9223372036854775807 then some ((⟨#[45]⟩ : ByteArray) ++ t) else none) (fun k => ?_) (Ev.bind (specNum_nat n.natAbs n.natAbs (Nat.le_refl _) (by omega)) (Ev.congr (fun k => if_pos ?_) ?_))
    · simp only [spec_l1Num.f]
      rw [if_pos h, e]
    · rw [size_B, B_mk]; omega
    · have : dec n = (⟨#[45]⟩ : ByteArray) ++ ⟨(Lib.decDigits n.natAbs).toArray⟩ := B_inj (by rw [B_append, B_dec, B_mk]; unfold Lib.itoa; rw [if_pos h]; rfl)
      rw [this]; exact Ev.now _
  · obtain ⟨u, rfl⟩ : ∃ u : Nat, n = (u : Int) := ⟨n.toNat, by omega⟩
    have : dec (u : Int) = ⟨(Lib.decDigits u).toArray⟩ := by unfold dec Lib.itoa; rw [if_neg h, Int.toNat_natCast]
    rw [this]
    exact specNum_nat u u (Nat.le_refl _) (by omega)
end Go.Proofs.YtpalafegcndccaaDoor.X


-- written by a program of this session (wip/ext.py) out of the translation. Not trusted: Lean checks it.
namespace Go.Proofs.YtpalafegcndccaaDoor.X
open Go.RowKit Go.Proofs.YtpalafegcndccaaDoorW.PrintWords Go.Proofs.YtpalafegcndccaaDoorW.PrintLast Go.Proofs.YtpalafegcndccaaDoorW.PrintMore
attribute [local go_sem] max2_int min2_int max_two min_two max_three min_three max_four min_four   -- for this text's walks alone
open Go.Proofs.YtpalafegcndccaaDoorG
set_option linter.unusedVariables false
set_option linter.unusedSimpArgs false

def spec_HistoryText.f (k : Nat) (l0 : List (S40)) : Option (ByteArray × Bool) := (spec_l23State.f k l0).bind fun t119 => (if t119 < 0 then (some ((⟨#[]⟩ : ByteArray), false)) else ((spec_l23Text.f k l0).bind fun t120 => (some (t120, true))))
theorem spec_HistoryText.mono : ∀ a0 k, LeO (spec_HistoryText.f k a0) (spec_HistoryText.f (k + 1) a0) := by
  intro a0 k
  unfold spec_HistoryText.f
  repeat' first
      | (with_reducible exact spec_l23State.mono _ _)
      | (with_reducible exact spec_l23Text.mono _ _)
      | (with_reducible exact LeO.refl _)
      | (with_reducible exact LeO.none _)
      | (with_reducible refine LeO.ite ?_ ?_)
      | (with_reducible refine LeO.bind ?_ (fun _ => ?_))
      | exact spec_l23State.mono _ _
      | exact spec_l23Text.mono _ _
      | exact LeO.none _
      | refine LeO.ite ?_ ?_
      | refine LeO.bind ?_ (fun _ => ?_)
set_option maxHeartbeats 8000000 in
set_option maxRecDepth 100000 in
theorem spec_HistoryText.calls (k : Nat) (A0 : Option Addr) (c0 : Nat) (l0 : List (S40)) (r1 : ByteArray) (r2 : Bool) (w : World) (hr0 : Kd.C k40 w A0 l0.length l0) (hc0 : l0.length ≤ c0) (h : spec_HistoryText.f k l0 = some (r1, r2)) :
    Calls Tryd.prog 7 #[.slice A0 l0.length c0] w fun e w' => e = .returned (.tuple #[.string r1, .bool r2]) ∧ Below w.heap.size w w' := by
  have HR0 := Aside0.mk hr0
  have HC0 := Aside0.mk hc0
  clear hr0 hc0
  have HB := Aside0.mk (Below.refl w.heap.size w)
  have H : ((spec_l23State.f k l0).bind fun t119 => (if t119 < 0 then (some ((⟨#[]⟩ : ByteArray), false)) else ((spec_l23Text.f k l0).bind fun t120 => (some (t120, true))))) = some (r1, r2) := h
  clear h
  replace H := Option.bind_eq_some_iff.mp H
  obtain ⟨t119, A20, H⟩ := H
  replace H : (if t119 < 0 then (some ((⟨#[]⟩ : ByteArray), false)) else ((spec_l23Text.f k l0).bind fun t120 => (some (t120, true)))) = some (r1, r2) := H
  have A2 := Aside0.mk A20
  clear A20
  by_cases c3 : t119 < 0
  · rw [if_pos c3] at H
    have c3b0 : decide (t119 < 0) = true := decide_eq_true c3
    clear c3
    simp only [Option.some.injEq, Prod.mk.injEq] at H
    obtain ⟨rfl, rfl⟩ := H
    go_enter Tryd.func7, Tryd.ntmps7
    go_wp2_with (first | ((with_reducible refine gate_callee (f := 25) rfl ?_); refine goesL_ (some 5) rfl rfl Tryd.func25 (by kernel_rfl) rfl #[.slice A0 l0.length c0] rfl (by (try simp only [List.map_toArray, List.map_cons, List.map_nil]); first | done | rfl | (simp only [List.length_drop, List.length_take]; rfl)) ?_; (with_reducible refine (spec_l23State.calls k _ _ l0 t119 _ ?side1 ?side2 A2.out).mono ?_); (case side1 => repeat (first | exact HR0.out | (with_reducible refine Kd.C_alloc ?_ _) | (with_reducible refine Kd.C_drewN ?_ _) | (with_reducible refine Kd.C_drew ?_))); (case side2 => exact HC0.out); rintro e w' ⟨rfl, ⟨nd, rfl⟩⟩; refine ⟨_, rfl, ?_⟩))
    go_ret2
    exact ⟨by first | rfl | (simp [errW_none, errW_some] <;> rfl) | (simp [*, errW_none, errW_some] <;> rfl), by repeat (first | (with_reducible first | exact HB.out | apply below_alloc | apply pw_below_drewN | apply below_drew1) | exact HB.out)⟩
  · rw [if_neg c3] at H
    have c3b0 : decide (t119 < 0) = false := decide_eq_false c3
    clear c3
    replace H := Option.bind_eq_some_iff.mp H
    obtain ⟨t120, A40, H⟩ := H
    replace H : (some (t120, true)) = some (r1, r2) := H
    have A4 := Aside0.mk A40
    clear A40
    simp only [Option.some.injEq, Prod.mk.injEq] at H
    obtain ⟨rfl, rfl⟩ := H
    go_enter Tryd.func7, Tryd.ntmps7
    go_wp2_with (first | ((with_reducible refine gate_callee (f := 25) rfl ?_); refine goesL_ (some 5) rfl rfl Tryd.func25 (by kernel_rfl) rfl #[.slice A0 l0.length c0] rfl (by (try simp only [List.map_toArray, List.map_cons, List.map_nil]); first | done | rfl | (simp only [List.length_drop, List.length_take]; rfl)) ?_; (with_reducible refine (spec_l23State.calls k _ _ l0 t119 _ ?side1 ?side2 A2.out).mono ?_); (case side1 => repeat (first | exact HR0.out | (with_reducible refine Kd.C_alloc ?_ _) | (with_reducible refine Kd.C_drewN ?_ _) | (with_reducible refine Kd.C_drew ?_))); (case side2 => exact HC0.out); rintro e w' ⟨rfl, ⟨nd, rfl⟩⟩; refine ⟨_, rfl, ?_⟩) | ((with_reducible refine gate_callee (f := 26) rfl ?_); refine goesL_ (some 8) rfl rfl Tryd.func26 (by kernel_rfl) rfl #[.slice A0 l0.length c0] rfl (by (try simp only [List.map_toArray, List.map_cons, List.map_nil]); first | done | rfl | (simp only [List.length_drop, List.length_take]; rfl)) ?_; (with_reducible refine (spec_l23Text.calls k _ _ l0 t120 _ ?side1 ?side2 A4.out).mono ?_); (case side1 => repeat (first | exact HR0.out | (with_reducible refine Kd.C_alloc ?_ _) | (with_reducible refine Kd.C_drewN ?_ _) | (with_reducible refine Kd.C_drew ?_))); (case side2 => exact HC0.out); rintro e w5 ⟨rfl, hb⟩; refine ⟨_, rfl, ?_⟩; have n0_ := Aside0.mk (below_step (by repeat (first | (with_reducible first | exact HB.out | apply below_alloc | apply pw_below_drewN | apply below_drew1) | exact HB.out)) hb); clear HB; have HB := n0_; clear n0_; (try clear hb); (try clear hb2); (try clear hk); (try clear hi)))
    go_ret2
    exact ⟨by first | rfl | (simp [errW_none, errW_some] <;> rfl) | (simp [*, errW_none, errW_some] <;> rfl), by repeat (first | (with_reducible first | exact HB.out | apply below_alloc | apply pw_below_drewN | apply below_drew1) | exact HB.out)⟩

end Go.Proofs.YtpalafegcndccaaDoor.X


-- written by a program of this session (wip/ext.py) out of the translation. Not trusted: Lean checks it.
namespace Go.Proofs.YtpalafegcndccaaDoor.X
open Go.RowKit Go.Proofs.YtpalafegcndccaaDoorW.PrintWords Go.Proofs.YtpalafegcndccaaDoorW.PrintLast Go.Proofs.YtpalafegcndccaaDoorW.PrintMore
attribute [local go_sem] max2_int min2_int max_two min_two max_three min_three max_four min_four   -- for this text's walks alone
open Go.Proofs.YtpalafegcndccaaDoorG
set_option linter.unusedVariables false
set_option linter.unusedSimpArgs false

def impl_HistoryText.f (k : Nat) (l0 : List (S40)) : Option (ByteArray × Bool) := (impl_IsHistory.f k l0).bind fun t162 => (if t162 = true then ((impl_historyText.f k l0).bind fun t163 => (some (t163, true))) else (some ((⟨#[]⟩ : ByteArray), false)))
theorem impl_HistoryText.mono : ∀ a0 k, LeO (impl_HistoryText.f k a0) (impl_HistoryText.f (k + 1) a0) := by
  intro a0 k
  unfold impl_HistoryText.f
  repeat' first
      | (with_reducible exact impl_IsHistory.mono _ _)
      | (with_reducible exact impl_historyText.mono _ _)
      | (with_reducible exact LeO.refl _)
      | (with_reducible exact LeO.none _)
      | (with_reducible refine LeO.ite ?_ ?_)
      | (with_reducible refine LeO.bind ?_ (fun _ => ?_))
      | exact impl_IsHistory.mono _ _
      | exact impl_historyText.mono _ _
      | exact LeO.none _
      | refine LeO.ite ?_ ?_
      | refine LeO.bind ?_ (fun _ => ?_)
set_option maxHeartbeats 8000000 in
set_option maxRecDepth 100000 in
theorem impl_HistoryText.calls (k : Nat) (A0 : Option Addr) (c0 : Nat) (l0 : List (S40)) (r1 : ByteArray) (r2 : Bool) (w : World) (hr0 : Kd.C k40 w A0 l0.length l0) (hc0 : l0.length ≤ c0) (hG : Glob w) (h : impl_HistoryText.f k l0 = some (r1, r2)) :
    Calls Tryd.prog 9 #[.slice A0 l0.length c0] w fun e w' => e = .returned (.tuple #[.string r1, .bool r2]) ∧ Below w.heap.size w w' := by
  have HGL := Aside0.mk hG
  clear hG
  have HR0 := Aside0.mk hr0
  have HC0 := Aside0.mk hc0
  clear hr0 hc0
  have HB := Aside0.mk (Below.refl w.heap.size w)
  have H : ((impl_IsHistory.f k l0).bind fun t162 => (if t162 = true then ((impl_historyText.f k l0).bind fun t163 => (some (t163, true))) else (some ((⟨#[]⟩ : ByteArray), false)))) = some (r1, r2) := h
  clear h
  replace H := Option.bind_eq_some_iff.mp H
  obtain ⟨t162, A20, H⟩ := H
  replace H : (if t162 = true then ((impl_historyText.f k l0).bind fun t163 => (some (t163, true))) else (some ((⟨#[]⟩ : ByteArray), false))) = some (r1, r2) := H
  have A2 := Aside0.mk A20
  clear A20
  by_cases c3 : t162 = true
  · subst c3
    have H1 : ((impl_historyText.f k l0).bind fun t163 => (some (t163, true))) = some (r1, r2) := by rw [if_pos rfl] at H; exact H
    clear H
    have H := H1
    clear H1
    replace H := Option.bind_eq_some_iff.mp H
    obtain ⟨t163, A40, H⟩ := H
    replace H : (some (t163, true)) = some (r1, r2) := H
    have A4 := Aside0.mk A40
    clear A40
    simp only [Option.some.injEq, Prod.mk.injEq] at H
    obtain ⟨rfl, rfl⟩ := H
    go_enter Tryd.func9, Tryd.ntmps9
    go_wp2_with (first | ((with_reducible refine gate_callee (f := 17) rfl ?_); refine goesL_ (some 5) rfl rfl Tryd.func17 (by kernel_rfl) rfl #[.slice A0 l0.length c0] rfl (by (try simp only [List.map_toArray, List.map_cons, List.map_nil]); first | done | rfl | (simp only [List.length_drop, List.length_take]; rfl)) ?_; (with_reducible refine (impl_IsHistory.calls k _ _ l0 true _ ?side1 ?side2 A2.out).mono ?_); (case side1 => repeat (first | exact HR0.out | (with_reducible refine Kd.C_alloc ?_ _) | (with_reducible refine Kd.C_drewN ?_ _) | (with_reducible refine Kd.C_drew ?_))); (case side2 => exact HC0.out); rintro e w5 ⟨rfl, hb⟩; refine ⟨_, rfl, ?_⟩; have n0_ := Aside0.mk (below_step (by repeat (first | (with_reducible first | exact HB.out | apply below_alloc | apply pw_below_drewN | apply below_drew1) | exact HB.out)) hb); clear HB; have HB := n0_; clear n0_; (try clear hb); (try clear hb2); (try clear hk); (try clear hi)) | ((with_reducible refine gate_callee (f := 28) rfl ?_); refine goesL_ (some 8) rfl rfl Tryd.func28 (by kernel_rfl) rfl #[.slice A0 l0.length c0] rfl (by (try simp only [List.map_toArray, List.map_cons, List.map_nil]); first | done | rfl | (simp only [List.length_drop, List.length_take]; rfl)) ?_; (with_reducible refine (impl_historyText.calls k _ _ l0 t163 _ ?side1 ?side2 ?side3 A4.out).mono ?_); (case side1 => repeat (first | exact (Kd.C_below HR0.out HB.out) | (with_reducible refine Kd.C_alloc ?_ _) | (with_reducible refine Kd.C_drewN ?_ _) | (with_reducible refine Kd.C_drew ?_))); (case side2 => exact HC0.out); (case side3 => exact Glob.below HGL.out (by repeat (first | (with_reducible first | exact HB.out | apply below_alloc | apply pw_below_drewN | apply below_drew1) | exact HB.out))); rintro e w6 ⟨rfl, hb⟩; refine ⟨_, rfl, ?_⟩; have n0_ := Aside0.mk (below_step (by repeat (first | (with_reducible first | exact HB.out | apply below_alloc | apply pw_below_drewN | apply below_drew1) | exact HB.out)) hb); clear HB; have HB := n0_; clear n0_; (try clear hb); (try clear hb2); (try clear hk); (try clear hi)))
    go_ret2
    exact ⟨by first | rfl | (simp [errW_none, errW_some] <;> rfl) | (simp [*, errW_none, errW_some] <;> rfl), by repeat (first | (with_reducible first | exact HB.out | apply below_alloc | apply pw_below_drewN | apply below_drew1) | exact HB.out)⟩
  · replace c3 := Bool.eq_false_iff.mpr c3
    subst c3
    have H1 : (some ((⟨#[]⟩ : ByteArray), false)) = some (r1, r2) := by rw [if_neg (show ¬ (false = true) by decide)] at H; exact H
    clear H
    have H := H1
    clear H1
    simp only [Option.some.injEq, Prod.mk.injEq] at H
    obtain ⟨rfl, rfl⟩ := H
    go_enter Tryd.func9, Tryd.ntmps9
    go_wp2_with (first | ((with_reducible refine gate_callee (f := 17) rfl ?_); refine goesL_ (some 5) rfl rfl Tryd.func17 (by kernel_rfl) rfl #[.slice A0 l0.length c0] rfl (by (try simp only [List.map_toArray, List.map_cons, List.map_nil]); first | done | rfl | (simp only [List.length_drop, List.length_take]; rfl)) ?_; (with_reducible refine (impl_IsHistory.calls k _ _ l0 false _ ?side1 ?side2 A2.out).mono ?_); (case side1 => repeat (first | exact HR0.out | (with_reducible refine Kd.C_alloc ?_ _) | (with_reducible refine Kd.C_drewN ?_ _) | (with_reducible refine Kd.C_drew ?_))); (case side2 => exact HC0.out); rintro e w7 ⟨rfl, hb⟩; refine ⟨_, rfl, ?_⟩; have n0_ := Aside0.mk (below_step (by repeat (first | (with_reducible first | exact HB.out | apply below_alloc | apply pw_below_drewN | apply below_drew1) | exact HB.out)) hb); clear HB; have HB := n0_; clear n0_; (try clear hb); (try clear hb2); (try clear hk); (try clear hi)))
    go_ret2
    exact ⟨by first | rfl | (simp [errW_none, errW_some] <;> rfl) | (simp [*, errW_none, errW_some] <;> rfl), by repeat (first | (with_reducible first | exact HB.out | apply below_alloc | apply pw_below_drewN | apply below_drew1) | exact HB.out)⟩

end Go.Proofs.YtpalafegcndccaaDoor.X


namespace Go.Proofs.YtpalafegcndccaaDoor.X
open Go.RowKit Go.Proofs.YtpalafegcndccaaDoorW.PrintWords Go.Proofs.YtpalafegcndccaaDoorL
set_option linter.unusedVariables false
set_option linter.unusedSimpArgs false
def okEv (x : Event) : Prop := (0 ≤ x.f0 ∧ x.f0 ≤ 9999) ∧ (1 ≤ x.f1 ∧ x.f1 ≤ 6)
def okH (l : List Event) : Prop := l.length ≤ 20 ∧ ∀ x ∈ l, okEv x
theorem nxt_kind {s k : Int} (h : 0 ≤ nxt s k) : 1 ≤ k ∧ k ≤ 6 := by
  unfold nxt at h
  (repeat' split at h) <;> omega
theorem runE_ok (l : List Event) : ∀ (d n : Nat) (s r : Int), runE l d n s = some r → ∀ (i : Nat) (h : i < l.length), n ≤ i → i < n + d → okEv l[i] := by
  intro d
  induction d with
  | zero => intro n s r _ i h h1 h2; omega
  | succ d ih =>
    intro n s r hr i h h1 h2
    simp only [runE] at hr
    split at hr
    · rename_i hn
      split at hr
      · rename_i hok
        by_cases e : i = n
        · subst e
          exact ⟨⟨hok.1, hok.2.1⟩, nxt_kind hok.2.2.2⟩
        · exact ih (n + 1) _ r hr i h (by omega) (by omega)
      · cases hr
    · cases hr
theorem hist_ok {l : List Event} {s : Int} (h : hist l = some s) : okH l := by
  unfold hist at h
  split at h
  · rename_i hl
    refine ⟨hl, fun x hx => ?_⟩
    obtain ⟨i, hi, rfl⟩ := List.getElem_of_mem hx
    exact runE_ok l l.length 0 0 s h i hi (by omega) (by omega)
  · cases h
def wordsE : List ByteArray := [(⟨#[]⟩ : ByteArray), (⟨#[108, 97, 110, 100]⟩ : ByteArray), (⟨#[103, 97, 116, 101, 32, 105, 110]⟩ : ByteArray), (⟨#[115, 116, 97, 99, 107]⟩ : ByteArray), (⟨#[112, 105, 99, 107]⟩ : ByteArray), (⟨#[108, 111, 97, 100]⟩ : ByteArray), (⟨#[103, 97, 116, 101, 32, 111, 117, 116]⟩ : ByteArray)]
def wordE (a : Int) : ByteArray := rdOf ByteArray.empty wordsE a
def lineE (x : Event) : ByteArray := ((dec x.f0 ++ (⟨#[32]⟩ : ByteArray)) ++ wordE x.f1) ++ (⟨#[10]⟩ : ByteArray)
def textH (l : List Event) : ByteArray := l.foldl (fun s x => s ++ lineE x) ⟨#[]⟩
theorem textH_snoc (l : List Event) (x : Event) : textH (l ++ [x]) = textH l ++ lineE x := by unfold textH; rw [List.foldl_append]; rfl
theorem wordE_size (a : Int) (h0 : 1 ≤ a) (h1 : a ≤ 6) : (wordE a).size ≤ 8 := by
  have : a = 1 ∨ a = 2 ∨ a = 3 ∨ a = 4 ∨ a = 5 ∨ a = 6 := by omega
  rcases this with rfl | rfl | rfl | rfl | rfl | rfl <;> decide
theorem lineE_parts (x : Event) : (lineE x).size = (dec x.f0).size + 1 + (wordE x.f1).size + 1 := by
  unfold lineE
  simp only [ByteArray.size_append]
  rfl
theorem lineE_size (x : Event) (h : okEv x) : (lineE x).size ≤ 31 := by
  have h1 := dec_size x.f0 (by have := h.1; omega) (by have := h.1; omega)
  have h2 := wordE_size x.f1 h.2.1 h.2.2
  rw [lineE_parts]; omega
theorem textH_size : ∀ (n : Nat) (l : List Event), l.length = n → (∀ x ∈ l, okEv x) → (textH l).size ≤ 31 * n
  | 0, l, hl, _ => by rw [List.eq_nil_of_length_eq_zero hl]; exact Nat.le_refl _
  | n + 1, l, hl, h => by
    have hne : l ≠ [] := by intro e; rw [e] at hl; cases hl
    have hd : l = l.dropLast ++ [l.getLast hne] := (List.dropLast_concat_getLast hne).symm
    have ih := textH_size n l.dropLast (by simp [hl]) (fun x hx => h x (List.dropLast_subset l hx))
    have hx := lineE_size _ (h _ (List.getLast_mem hne))
    rw [hd, textH_snoc, ByteArray.size_append]
    omega
theorem app4 (s a b c d : ByteArray) : (((s ++ a) ++ b) ++ c) ++ d = s ++ (((a ++ b) ++ c) ++ d) := B_inj (by simp only [B_append, List.append_assoc])
theorem rdE_take (l : List Event) (n : Nat) (h : n < l.length) : l.take (n + 1) = l.take n ++ [l[n]] := List.take_succ_eq_append_getElem h
theorem take_size {l : List Event} (h : okH l) (n : Nat) : (textH (l.take n)).size ≤ 620 := by
  have h1 := textH_size _ (l.take n) rfl (fun x hx => h.2 x (List.mem_of_mem_take hx))
  have h2 := h.1
  rw [List.length_take] at h1
  omega
theorem specTextH_ev (l : List Event) (h : okH l) : Ev (fun k => spec_l23Text.f k l) (textH l) := by
  have key : ∀ (d n : Nat), n + d = l.length → Ev (fun k => spec_l23Text.l0 k l (textH (l.take n)) (n : Int)) (textH l) := by
    intro d
    induction d with
    | zero =>
      intro n hn
      obtain rfl : n = l.length := by omega
      refine Ev.step (f := fun _ => some _) (fun k => ?_) (Ev.now _)
      simp only [spec_l23Text.l0]
      rw [if_neg (by omega), List.take_length]
    | succ d ih =>
      intro n hn
      have hn2 : n < l.length := by omega
      have hl := h.1
      have ih := ih (n + 1) (by omega)
      rw [rdE_take l n hn2, textH_snoc] at ih
      have hs := take_size h n
      have ho := h.2 _ (List.getElem_mem hn2)
      have hw := wordE_size _ ho.2.1 ho.2.2
      have hd := dec_size l[n].f0 (by have := ho.1; omega) (by have := ho.1; omega)
      have e1 : (⟨#[32]⟩ : ByteArray).size = 1 := rfl
      have e2 : (⟨#[10]⟩ : ByteArray).size = 1 := rfl
      generalize textH (l.take n) = s at hs ih ⊢
      have ew : spec_l23Words.f = some wordsE := rfl
      have hlen : (wordsE.length : Int) = 7 := rfl
      refine Ev.step (f := fun k => (spec_l1Num.f k l[n].f0).bind fun t => if s.size + t.size ≤ 9223372036854775807 then if (s ++ t).size + 1 ≤ 9223372036854775807 then if ((s ++ t) ++ (⟨#[32]⟩ : ByteArray)).size + (wordE l[n].f1).size ≤ 9223372036854775807 then if (((s ++ t) ++ (⟨#[32]⟩ : ByteArray)) ++ wordE l[n].f1).size + 1 ≤ 9223372036854775807 then spec_l23Text.l0 k l ((((s ++ t) ++ (⟨#[32]⟩ : ByteArray)) ++ wordE l[n].f1) ++ (⟨#[10]⟩ : ByteArray)) ((n + 1 : Nat) : Int) else none else none else none else none) (fun k => ?_) ?_
      · simp only [spec_l23Text.l0]
        rw [if_pos (by omega), if_pos (by omega), rdE l n hn2, wrap_succ (by omega)]
        have q0 : 0 ≤ l[n].f1 := by have := ho.2; omega
        have q1 : l[n].f1 < (wordsE.length : Int) := by have := ho.2; omega
        simp only [ew, Option.bind_some, if_pos q0, if_pos q1]
        rfl
      · refine Ev.bind (specNum_ev _ (by have := ho.1; omega) (by have := ho.1; omega)) ?_
        refine Ev.congr (fun k => by rw [if_pos (by omega), if_pos (by rw [ByteArray.size_append]; omega), if_pos (by simp only [ByteArray.size_append]; omega), if_pos (by simp only [ByteArray.size_append]; omega)]) ?_
        rw [app4]
        exact ih
  exact key l.length 0 (by omega)
theorem implTextH_ev (l : List Event) (h : okH l) : Ev (fun k => impl_historyText.f k l) (textH l) := by
  have key : ∀ (d n : Nat), n + d = l.length → Ev (fun k => impl_historyText.l0 k l (textH (l.take n)) (n : Int)) (textH l) := by
    intro d
    induction d with
    | zero =>
      intro n hn
      obtain rfl : n = l.length := by omega
      refine Ev.step (f := fun _ => some _) (fun k => ?_) (Ev.now _)
      simp only [impl_historyText.l0]
      rw [if_neg (by omega), List.take_length]
    | succ d ih =>
      intro n hn
      have hn2 : n < l.length := by omega
      have hl := h.1
      have ih := ih (n + 1) (by omega)
      rw [rdE_take l n hn2, textH_snoc] at ih
      have hs := take_size h n
      have ho := h.2 _ (List.getElem_mem hn2)
      have hz := lineE_size _ ho
      generalize textH (l.take n) = s at hs ih ⊢
      have ew : impl_eventWords.f = some wordsE := rfl
      have hlen : (wordsE.length : Int) = 7 := rfl
      refine Ev.step (f := fun k => impl_historyText.l0 k l (s ++ lineE l[n]) ((n + 1 : Nat) : Int)) (fun k => ?_) ih
      simp only [impl_historyText.l0]
      rw [if_pos (by omega), if_pos (by omega), rdE l n hn2, wrap_succ (by omega), implDec _ (by have := ho.1; omega) (by have := ho.1; omega)]
      simp only [ew, Option.bind_some]
      rw [if_pos (by have := ho.2; omega), if_pos (by have := ho.2; omega)]
      exact if_pos (show s.size + (lineE l[n]).size ≤ 140737488355328 by omega)
  exact key l.length 0 (by omega)
theorem implIsHist_ev (l : List Event) (hl : l.length ≤ 1048576) : Ev (fun k => impl_IsHistory.f k l) ((hist l).isSome) := by
  obtain ⟨r, hr, h1, _⟩ := implState_ev l hl
  unfold impl_IsHistory.f
  refine Ev.bind hr ?_
  rw [h1]
  exact Ev.now _
end Go.Proofs.YtpalafegcndccaaDoor.X


namespace Go.Proofs.YtpalafegcndccaaDoor.X
open Go.RowKit Go.Proofs.YtpalafegcndccaaDoorW.PrintWords Go.Proofs.YtpalafegcndccaaDoorL
set_option linter.unusedVariables false
set_option linter.unusedSimpArgs false
def mk (l : List UInt8) : ByteArray := ⟨l.toArray⟩
theorem B_of_mk (l : List UInt8) : B (mk l) = l := B_mk l
theorem mk_of_B (s : ByteArray) : mk (B s) = s := B_inj (B_mk _)
theorem mk_size (l : List UInt8) : (mk l).size = l.length := by rw [size_B, B_of_mk]
theorem B_extract (s : ByteArray) (i j : Nat) : B (s.extract i j) = ((B s).drop i).take (j - i) := by
  unfold B; simp [List.extract_eq_take_drop]
end Go.Proofs.YtpalafegcndccaaDoor.X


namespace Go.Proofs.YtpalafegcndccaaDoor.X
open Go.RowKit Go.Proofs.YtpalafegcndccaaDoorW.PrintWords Go.Proofs.YtpalafegcndccaaDoorL
set_option linter.unusedVariables false
set_option linter.unusedSimpArgs false
def cutL (c : UInt8) : List UInt8 → List UInt8 × List UInt8 × Bool
  | [] => ([], [], false)
  | b :: l => if b = c then ([], l, true) else (b :: (cutL c l).1, (cutL c l).2.1, (cutL c l).2.2)
theorem cutL_hit (c : UInt8) : ∀ (a b : List UInt8), c ∉ a → cutL c (a ++ c :: b) = (a, b, true)
  | [], b, _ => by simp [cutL]
  | x :: a, b, h => by
    have hx : x ≠ c := fun e => h (by simp [e])
    have ih := cutL_hit c a b (fun e => h (by simp [e]))
    simp only [List.cons_append, cutL, if_neg hx, ih]
theorem cutL_found (c : UInt8) : ∀ l : List UInt8, (cutL c l).2.2 = true → l = (cutL c l).1 ++ c :: (cutL c l).2.1
  | [], h => by simp [cutL] at h
  | x :: l, h => by
    by_cases hx : x = c
    · subst hx; simp [cutL]
    · simp only [cutL, if_neg hx] at h ⊢
      have := cutL_found c l h
      rw [List.cons_append, ← this]
theorem cutL_notin (c : UInt8) : ∀ l : List UInt8, c ∉ (cutL c l).1
  | [] => by simp [cutL]
  | x :: l => by
    by_cases hx : x = c
    · subst hx; simp [cutL]
    · simp only [cutL, if_neg hx, List.mem_cons, not_or]
      exact ⟨fun e => hx e.symm, cutL_notin c l⟩
theorem cutL_lost (c : UInt8) : ∀ l : List UInt8, (cutL c l).2.2 = false → cutL c l = (l, [], false)
  | [], h => rfl
  | x :: l, h => by
    by_cases hx : x = c
    · subst hx; simp [cutL] at h
    · simp only [cutL, if_neg hx] at h ⊢
      rw [cutL_lost c l h]
theorem cutL_idx (c : UInt8) (l : List UInt8) : Lib.index l [c] = if (cutL c l).2.2 = true then ((cutL c l).1.length : Int) else -1 := by
  by_cases h : (cutL c l).2.2 = true
  · rw [if_pos h]
    have hf := cutL_found c l h
    have hn := cutL_notin c l
    generalize (cutL c l).1 = a at hf hn ⊢
    generalize (cutL c l).2.1 = b at hf
    rw [hf]
    refine Lib.index_first (by simp) (by unfold Lib.occAt; rw [List.drop_left' rfl]; simp [List.isPrefixOf]) (fun j hj => ?_)
    unfold Lib.occAt
    rw [List.drop_append_of_le_length (by omega), List.drop_eq_getElem_cons hj, List.cons_append]
    have hne : a[j] ≠ c := fun e => hn (by rw [← e]; exact List.getElem_mem hj)
    simp only [List.isPrefixOf]
    rw [show (c == a[j]) = false from beq_eq_false_iff_ne.2 (fun h => hne h.symm), Bool.false_and]
  · rw [if_neg h]
    have hl := cutL_lost c l (by simpa using h)
    have hn : c ∉ l := by
      have := cutL_notin c l
      rw [hl] at this
      exact this
    refine Lib.index_none (fun j hj => ?_)
    unfold Lib.occAt
    rcases Nat.lt_or_ge j l.length with h | h
    · rw [List.drop_eq_getElem_cons h]
      have hne : l[j] ≠ c := fun e => hn (by rw [← e]; exact List.getElem_mem h)
      simp only [List.isPrefixOf]
      rw [show (c == l[j]) = false from beq_eq_false_iff_ne.2 (fun h => hne h.symm), Bool.false_and]
    · rw [List.drop_eq_nil_of_le h]; rfl
theorem stringsCut_eq (s : ByteArray) (c : UInt8) (hs : s.size ≤ 4000000000) : strings_Cut.f s ⟨#[c]⟩ = some (mk (cutL c (B s)).1, mk (cutL c (B s)).2.1, (cutL c (B s)).2.2) := by
  have e : stringslite_Index.f s ⟨#[c]⟩ = some (Lib.index (B s) [c]) := by unfold stringslite_Index.f; rw [if_pos (by omega)]; rfl
  have h1 : (⟨#[c]⟩ : ByteArray).size = 1 := rfl
  unfold strings_Cut.f stringslite_Cut.f
  rw [e, cutL_idx]
  simp only [Option.bind_some]
  by_cases h : (cutL c (B s)).2.2 = true
  · have hf := cutL_found c (B s) h
    have hl : (B s).length = (cutL c (B s)).1.length + 1 + (cutL c (B s)).2.1.length := by
      conv => lhs; rw [hf]
      simp; omega
    rw [B_length] at hl
    simp only [if_pos h]
    rw [if_pos (by omega), if_pos (by omega), if_pos (by omega), h1, wrap_id (by omega) (by omega), if_pos (by omega), if_pos (by omega)]
    simp only [Option.bind_some, Option.some.injEq, Prod.mk.injEq]
    generalize (cutL c (B s)).1 = a at *
    generalize (cutL c (B s)).2.1 = b at *
    refine ⟨B_inj ?_, B_inj ?_, h.symm⟩
    · rw [B_extract, B_of_mk, hf]
      simp
    · rw [B_extract, B_of_mk, hf]
      rw [show ((a.length : Int) + ((1 : Nat) : Int)).toNat = a.length + 1 by omega]
      rw [List.take_of_length_le (by simp; omega)]
      rw [List.drop_append, List.drop_of_length_le (by omega)]
      simp
  · have hl := cutL_lost c (B s) (by simpa using h)
    simp only [if_neg h]
    rw [if_neg (by omega), hl]
    simp only [Option.bind_some, mk_of_B]
    rfl
/-- A text's pieces between all of a byte. -/
def addHead (p : List UInt8) : List (List UInt8) → List (List UInt8)
  | [] => [p]
  | q :: r => (p ++ q) :: r
def pieces (c : UInt8) : List UInt8 → List (List UInt8)
  | [] => [[]]
  | b :: l => if b = c then [] :: pieces c l else addHead [b] (pieces c l)
theorem pieces_ne (c : UInt8) : ∀ l, pieces c l ≠ []
  | [] => by simp [pieces]
  | b :: l => by
    unfold pieces
    by_cases h : b = c
    · rw [if_pos h]; simp
    · rw [if_neg h]; cases pieces c l <;> simp [addHead]
theorem addHead_two (p q : List UInt8) (r : List (List UInt8)) : addHead p (addHead q r) = addHead (p ++ q) r := by cases r <;> simp [addHead]
theorem addHead_nil (c : UInt8) (l : List UInt8) : addHead [] (pieces c l) = pieces c l := by
  cases h : pieces c l with
  | nil => exact absurd h (pieces_ne c l)
  | cons a b => simp [addHead]
theorem addHead_length (p : List UInt8) (c : UInt8) (l : List UInt8) : (addHead p (pieces c l)).length = (pieces c l).length := by
  cases h : pieces c l with
  | nil => exact absurd h (pieces_ne c l)
  | cons a b => simp [addHead]
theorem pieces_length (c : UInt8) : ∀ l : List UInt8, 1 ≤ (pieces c l).length ∧ (pieces c l).length ≤ l.length + 1
  | [] => by simp [pieces]
  | b :: l => by
    have ih := pieces_length c l
    unfold pieces
    by_cases h : b = c
    · rw [if_pos h]; simp; omega
    · rw [if_neg h, addHead_length]; simp; omega
def seg (s : ByteArray) (i j : Nat) : List UInt8 := ((B s).drop i).take (j - i)
theorem seg_succ (s : ByteArray) (i j : Nat) (h : i ≤ j) (hj : j < (B s).length) : seg s i (j + 1) = seg s i j ++ [(B s)[j]] := by
  unfold seg
  rw [show j + 1 - i = (j - i) + 1 by omega, List.take_succ_eq_append_getElem (by simp; omega)]
  simp [show i + (j - i) = j by omega]
theorem specSplit_ev (s : ByteArray) (c : UInt8) (hs : s.size ≤ 1000000000) : Ev (fun k => spec_l1Split.f k s (c.toNat : Int)) ((pieces c (B s)).map mk) := by
  have hlen := B_length s
  have key : ∀ (d i st : Nat) (xs : List ByteArray), i + d = (B s).length → st ≤ i → xs.length ≤ i →
      Ev (fun k => spec_l1Split.l0 k s (c.toNat : Int) xs st i) (xs ++ (addHead (seg s st i) (pieces c ((B s).drop i))).map mk) := by
    intro d
    induction d with
    | zero =>
      intro i st xs hi hst hx
      obtain rfl : i = (B s).length := by omega
      refine Ev.step (f := fun _ => some _) (fun k => ?_) (Ev.now _)
      simp only [spec_l1Split.l0]
      rw [if_neg (by omega), if_pos (by omega), if_pos (by omega), if_pos (by omega), List.drop_length]
      have e : s.extract (st : Int).toNat s.size = mk (seg s st (B s).length) := B_inj (by rw [B_extract, B_of_mk, hlen]; rfl)
      rw [e]
      simp [pieces, addHead]
    | succ d ih =>
      intro i st xs hi hst hx
      have hl : i < (B s).length := by omega
      have hb := bt_B s i hl
      rw [List.drop_eq_getElem_cons hl]
      unfold pieces
      by_cases e : (B s)[i] = c
      · rw [if_pos e]
        have i1 := ih (i + 1) (i + 1) (xs ++ [mk (seg s st i)]) (by omega) (by omega) (by simp; omega)
        have e0 : seg s (i + 1) (i + 1) = [] := by simp [seg]
        rw [e0, addHead_nil] at i1
        have e1 : addHead (seg s st i) ([] :: pieces c ((B s).drop (i + 1))) = seg s st i :: pieces c ((B s).drop (i + 1)) := by simp [addHead]
        rw [e1, List.map_cons]
        rw [List.append_assoc] at i1
        refine Ev.step (fun k => ?_) i1
        simp only [spec_l1Split.l0]
        have e2 : s.extract (st : Int).toNat (i : Int).toNat = mk (seg s st i) := B_inj (by rw [B_extract, B_of_mk]; rfl)
        rw [if_pos (by omega), if_pos (by omega), hb, e, if_pos rfl, if_pos (by omega), if_pos (by omega), if_pos (by omega), if_pos (by omega), e2, wrap_succ (by omega)]
      · rw [if_neg e]
        have i1 := ih (i + 1) st xs (by omega) (by omega) (by omega)
        rw [seg_succ s st i hst hl, ← addHead_two] at i1
        refine Ev.step (fun k => ?_) i1
        simp only [spec_l1Split.l0]
        rw [if_pos (by omega), if_pos (by omega), hb, if_neg (fun z => e (UInt8.toNat_inj.1 (by omega))), wrap_succ (by omega)]
  have := key (B s).length 0 0 [] (by omega) (by omega) (by simp)
  have e0 : seg s 0 0 = [] := by simp [seg]
  rw [e0, List.drop_zero, addHead_nil, List.nil_append] at this
  exact this
theorem pieces_cons (c b : UInt8) (l : List UInt8) : pieces c (b :: l) = if b = c then [] :: pieces c l else addHead [b] (pieces c l) := rfl
theorem cutL_cons (c b : UInt8) (l : List UInt8) : cutL c (b :: l) = if b = c then ([], l, true) else (b :: (cutL c l).1, (cutL c l).2.1, (cutL c l).2.2) := rfl
theorem pieces_cut (c : UInt8) : ∀ l : List UInt8, pieces c l = if (cutL c l).2.2 = true then (cutL c l).1 :: pieces c (cutL c l).2.1 else [l]
  | [] => rfl
  | b :: l => by
    have ih := pieces_cut c l
    rw [pieces_cons, cutL_cons]
    by_cases h : b = c
    · rw [if_pos h, if_pos h, if_pos rfl]
    · rw [if_neg h, if_neg h, ih]
      by_cases k : (cutL c l).2.2 = true
      · rw [if_pos k, if_pos k]; rfl
      · rw [if_neg k, if_neg k]; rfl
theorem splitAll (c : UInt8) : ∀ (m : Nat) (s : ByteArray), s.size ≤ m → Lib.splitB ⟨#[c]⟩ 0 (Lib.countB s ⟨#[c]⟩) s = (pieces c (B s)).map mk ∧ (pieces c (B s)).length = Lib.countB s ⟨#[c]⟩ + 1 := by
  have h1 : 1 ≤ (⟨#[c]⟩ : ByteArray).size := Nat.le_refl 1
  intro m
  induction m with
  | zero =>
    intro s hs
    have hB : B s = [] := List.eq_nil_of_length_eq_zero (by rw [B_length]; omega)
    have hi : Lib.indexB s ⟨#[c]⟩ = -1 := by
      show Lib.index (B s) [c] = -1
      rw [cutL_idx, hB]; rfl
    rw [Lib.countB_miss s _ hi, Lib.splitB_zero, hB]
    simp only [pieces, List.map_cons, List.map_nil, List.length_cons, List.length_nil, and_true]
    rw [← hB, mk_of_B]
  | succ m ih =>
    intro s hs
    have hlen := B_length s
    by_cases h : (cutL c (B s)).2.2 = true
    · have hi : Lib.indexB s ⟨#[c]⟩ = ((cutL c (B s)).1.length : Int) := by
        show Lib.index (B s) [c] = _
        rw [cutL_idx, if_pos h]
      have hp := pieces_cut c (B s)
      rw [if_pos h] at hp
      have hf := cutL_found c (B s) h
      generalize (cutL c (B s)).1 = a at hf hi hp
      generalize (cutL c (B s)).2.1 = b at hf hp
      have hl := congrArg List.length hf
      rw [List.length_append, List.length_cons, hlen] at hl
      have et : s.extract (a.length + (⟨#[c]⟩ : ByteArray).size) s.size = mk b := B_inj (by
        rw [B_extract, B_of_mk, List.take_of_length_le (by rw [List.length_drop]; omega), hf, show a.length + (⟨#[c]⟩ : ByteArray).size = (a ++ [c]).length from by simp; rfl, show a ++ c :: b = (a ++ [c]) ++ b from by simp, List.drop_left' rfl])
      have eh : s.extract 0 (a.length + 0) = mk a := B_inj (by rw [B_extract, B_of_mk, hf, List.drop_zero, Nat.sub_zero, Nat.add_zero, List.take_left' rfl])
      have ih := ih (mk b) (by rw [mk_size]; omega)
      rw [B_of_mk] at ih
      rw [Lib.countB_hit s _ _ h1 hi, et, Nat.add_comm 1, Lib.splitB_hit _ 0 _ s _ hi, eh, et, ih.1, hp]
      exact ⟨rfl, by rw [List.length_cons, ih.2]⟩
    · have hi : Lib.indexB s ⟨#[c]⟩ = -1 := by
        show Lib.index (B s) [c] = -1
        rw [cutL_idx, if_neg h]
      have hp := pieces_cut c (B s)
      rw [if_neg h] at hp
      rw [Lib.countB_miss s _ hi, Lib.splitB_zero, hp]
      simp [mk_of_B]
theorem stringsSplit_eq (s : ByteArray) (c : UInt8) (hs : s.size ≤ 1048576) : strings_Split.f s ⟨#[c]⟩ = some ((pieces c (B s)).map mk) := by
  have h1 : 1 ≤ (⟨#[c]⟩ : ByteArray).size := Nat.le_refl 1
  obtain ⟨e1, e2⟩ := splitAll c s.size s (Nat.le_refl _)
  have hl := pieces_length c (B s)
  rw [B_length] at hl
  unfold strings_Split.f
  rw [e1, if_pos ⟨by omega, h1, by rw [List.length_map]; exact e2, by omega⟩]
end Go.Proofs.YtpalafegcndccaaDoor.X


namespace Go.Proofs.YtpalafegcndccaaDoor.X
open Go.RowKit Go.Proofs.YtpalafegcndccaaDoorW.PrintWords Go.Proofs.YtpalafegcndccaaDoorL
set_option linter.unusedVariables false
set_option linter.unusedSimpArgs false
theorem rdW (l : List ByteArray) (n : Nat) (h : n < l.length) : rdOf ByteArray.empty l (n : Int) = l[n] := by simp [rdOf, List.getD_eq_getElem?_getD, List.getElem?_eq_getElem h]
/-- The words' places, found by both. -/
theorem implIndex_ev (l : List ByteArray) (x : ByteArray) (hl : l.length ≤ 1000) : ∃ r, Ev (fun k => slices_Index_string_string.f k l x) r ∧ ∀ j : Nat, (h : j < l.length) → l[j] = x → (∀ i : Nat, (h2 : i < j) → l[i]'(by omega) ≠ x) → r = (j : Int) := by
  have key : ∀ (d n : Nat), n + d = l.length → ∃ r, Ev (fun k => slices_Index_string_string.l0 k l x (l.length : Int) (n : Int)) r ∧ ∀ j : Nat, n ≤ j → (h : j < l.length) → l[j] = x → (∀ i : Nat, n ≤ i → (h2 : i < j) → l[i]'(by omega) ≠ x) → r = (j : Int) := by
    intro d
    induction d with
    | zero =>
      intro n hn
      refine ⟨-1, Ev.step (f := fun _ => some _) (fun k => ?_) (Ev.now _), fun j h1 h2 => by omega⟩
      simp only [slices_Index_string_string.l0]
      rw [if_neg (by omega)]
    | succ d ih =>
      intro n hn
      have hn2 : n < l.length := by omega
      by_cases c : x.toList = l[n].toList
      · refine ⟨(n : Int), Ev.step (f := fun _ => some _) (fun k => ?_) (Ev.now _), fun j h1 h2 h3 h4 => ?_⟩
        · simp only [slices_Index_string_string.l0]
          rw [if_pos (by omega), if_pos (by omega), if_pos (by omega), rdW l n hn2, if_pos c]
        · by_cases e : j = n
          · rw [e]
          · exact absurd (B_inj (by rw [B_toList, B_toList] at c; exact c.symm)) (h4 n (Nat.le_refl _) (by omega))
      · obtain ⟨r, h1, h2⟩ := ih (n + 1) (by omega)
        refine ⟨r, Ev.step (fun k => ?_) h1, fun j q1 q2 q3 q4 => ?_⟩
        · simp only [slices_Index_string_string.l0]
          rw [if_pos (by omega), if_pos (by omega), if_pos (by omega), rdW l n hn2, if_neg c, wrap_succ (by omega)]
        · by_cases e : j = n
          · subst e; exact absurd (by rw [q3]) c
          · exact h2 j (by omega) q2 q3 (fun i hi hij => q4 i (by omega) hij)
  obtain ⟨r, h1, h2⟩ := key l.length 0 (by omega)
  exact ⟨r, Ev.congr (fun k => rfl) h1, fun j h q1 q2 => h2 j (by omega) h q1 (fun i _ hij => q2 i hij)⟩
theorem specIndex_ev (l : List ByteArray) (x : ByteArray) (hl : l.length ≤ 1000) : ∃ r, Ev (fun k => spec_l4Index.f k l x) r ∧ ∀ j : Nat, 1 ≤ j → (h : j < l.length) → l[j] = x → (∀ i : Nat, 1 ≤ i → (h2 : i < j) → l[i]'(by omega) ≠ x) → r = (j : Int) := by
  have key : ∀ (d n : Nat), n + d = l.length ∨ (d = 0 ∧ l.length ≤ n) → ∃ r, Ev (fun k => spec_l4Index.l0 k l x (n : Int)) r ∧ ∀ j : Nat, n ≤ j → (h : j < l.length) → l[j] = x → (∀ i : Nat, n ≤ i → (h2 : i < j) → l[i]'(by omega) ≠ x) → r = (j : Int) := by
    intro d
    induction d with
    | zero =>
      intro n hn
      refine ⟨0, Ev.step (f := fun _ => some _) (fun k => ?_) (Ev.now _), fun j h1 h2 => by omega⟩
      simp only [spec_l4Index.l0]
      rw [if_neg (by omega)]
    | succ d ih =>
      intro n hn
      have hn2 : n < l.length := by omega
      by_cases c : l[n].toList = x.toList
      · refine ⟨(n : Int), Ev.step (f := fun _ => some _) (fun k => ?_) (Ev.now _), fun j h1 h2 h3 h4 => ?_⟩
        · simp only [spec_l4Index.l0]
          rw [if_pos (by omega), if_pos (by omega), rdW l n hn2, if_pos c]
        · by_cases e : j = n
          · rw [e]
          · exact absurd (B_inj (by rw [B_toList, B_toList] at c; exact c)) (h4 n (Nat.le_refl _) (by omega))
      · obtain ⟨r, h1, h2⟩ := ih (n + 1) (by omega)
        refine ⟨r, Ev.step (fun k => ?_) h1, fun j q1 q2 q3 q4 => ?_⟩
        · simp only [spec_l4Index.l0]
          rw [if_pos (by omega), if_pos (by omega), rdW l n hn2, if_neg c, wrap_succ (by omega)]
        · by_cases e : j = n
          · subst e; exact absurd (by rw [q3]) c
          · exact h2 j (by omega) q2 q3 (fun i hi hij => q4 i (by omega) hij)
  obtain ⟨r, h1, h2⟩ := key (l.length - 1) 1 (by omega)
  exact ⟨r, Ev.congr (fun k => rfl) h1, h2⟩
end Go.Proofs.YtpalafegcndccaaDoor.X


namespace Go.Proofs.YtpalafegcndccaaDoor.X
open Go.RowKit Go.Proofs.YtpalafegcndccaaDoorW.PrintWords Go.Proofs.YtpalafegcndccaaDoorL
set_option linter.unusedVariables false
set_option linter.unusedSimpArgs false
def isD (b : UInt8) : Prop := 48 ≤ b.toNat ∧ b.toNat ≤ 57
theorem digit_ofNat (d : Nat) (h : d < 10) : (UInt8.ofNat (48 + d)).toNat = 48 + d := by simp; omega
theorem dd_range : ∀ (m u : Nat), u ≤ m → ∀ b ∈ Lib.decDigits u, isD b := by
  intro m
  have one : ∀ d : Nat, d < 10 → isD (UInt8.ofNat (48 + d)) := by
    intro d hd
    have := digit_ofNat d hd
    unfold isD; omega
  induction m with
  | zero =>
    intro u hu b hb
    rw [Lib.decDigits, dif_pos (by omega)] at hb
    simp only [List.mem_singleton] at hb
    subst hb; exact one u (by omega)
  | succ m ih =>
    intro u hu b hb
    by_cases c : u < 10
    · rw [Lib.decDigits, dif_pos c] at hb
      simp only [List.mem_singleton] at hb
      subst hb; exact one u c
    · rw [Lib.decDigits.eq_1 u, dif_neg c] at hb
      rcases List.mem_append.1 hb with hb | hb
      · exact ih (u / 10) (by omega) b hb
      · simp only [List.mem_singleton] at hb
        subst hb; exact one _ (by omega)
@[irreducible] def push (a : Nat) (b : UInt8) : Nat := a * 10 + (b.toNat - 48)
theorem push_eq (a : Nat) (b : UInt8) : push a b = a * 10 + (b.toNat - 48) := by unfold push; rfl
def val (a : Nat) (l : List UInt8) : Nat := l.foldl push a
theorem val_nil (a : Nat) : val a [] = a := rfl
theorem val_cons (a : Nat) (b : UInt8) (l : List UInt8) : val a (b :: l) = val (a * 10 + (b.toNat - 48)) l := by rw [← push_eq]; rfl
theorem val_snoc (b : UInt8) (l : List UInt8) (a : Nat) : val a (l ++ [b]) = val a l * 10 + (b.toNat - 48) := by rw [← push_eq]; unfold val; rw [List.foldl_append]; rfl
theorem val_ge : ∀ (l : List UInt8) (a : Nat), a ≤ val a l
  | [], a => by rw [val_nil]; exact Nat.le_refl _
  | b :: l, a => by have := val_ge l (a * 10 + (b.toNat - 48)); rw [val_cons]; omega
theorem val_dd : ∀ (m u : Nat), u ≤ m → val 0 (Lib.decDigits u) = u := by
  intro m
  induction m with
  | zero =>
    intro u hu
    obtain rfl : u = 0 := by omega
    rw [Lib.decDigits, dif_pos (by omega)]
    rw [val_cons, val_nil, digit_ofNat 0 (by omega)]
  | succ m ih =>
    intro u hu
    by_cases c : u < 10
    · rw [Lib.decDigits, dif_pos c]; rw [val_cons, val_nil, digit_ofNat u c]; omega
    · rw [Lib.decDigits.eq_1 u, dif_neg c, val_snoc, ih (u / 10) (by omega), digit_ofNat _ (by omega)]; omega
theorem val_lt : ∀ (l : List UInt8) (a n : Nat), (∀ b ∈ l, isD b) → a < 10 ^ n → val a l < 10 ^ (n + l.length)
  | [], a, n, _, h => by rw [val_nil]; exact h
  | b :: l, a, n, hl, h => by
    have hb := hl b (by simp)
    unfold isD at hb
    rw [val_cons, List.length_cons, show n + (l.length + 1) = (n + 1) + l.length from by omega]
    exact val_lt l _ (n + 1) (fun x hx => hl x (by simp [hx])) (by rw [Nat.pow_succ]; omega)
theorem dd_ne (u : Nat) : Lib.decDigits u ≠ [] := by
  rw [Lib.decDigits]; split <;> simp
theorem dd_len : ∀ (n u : Nat), 1 ≤ n → u < 10 ^ n → (Lib.decDigits u).length ≤ n := by
  intro n
  induction n with
  | zero => intro u h; omega
  | succ n ih =>
    intro u _ h
    rw [Lib.decDigits]
    by_cases c : u < 10
    · rw [dif_pos c]; simp
    · rw [dif_neg c, List.length_append]
      have : 1 ≤ n := by
        rcases Nat.eq_zero_or_pos n with rfl | h2
        · simp at h; omega
        · exact h2
      have := ih (u / 10) this (by rw [Nat.pow_succ] at h; omega)
      simp; omega
theorem parse10 : ∀ (l : List UInt8) (a : Nat), (∀ b ∈ l, isD b) → val a l < 1000000000 → Lib.parseUint10 a l = .ok (val a l)
  | [], a, _, _ => by rw [val_nil]; rfl
  | b :: l, a, hl, h => by
    have hb := hl b (by simp)
    unfold isD at hb
    rw [val_cons] at h ⊢
    have := val_ge l (a * 10 + (b.toNat - 48))
    rw [Lib.parseUint10, if_pos hb, if_neg (by omega), if_neg (by omega)]
    exact parse10 l _ (fun x hx => hl x (by simp [hx])) h
theorem B_decN (u : Nat) : B (dec (u : Int)) = Lib.decDigits u := by rw [B_dec]; unfold Lib.itoa; rw [if_neg (by omega)]; simp
theorem atoi_dd (u : Nat) (h : u ≤ 999999) : Lib.atoiAll (Lib.decDigits u) = .ok (u : Int) := by
  have hr := dd_range u u (Nat.le_refl _)
  have hv := val_dd u u (Nat.le_refl _)
  cases e : Lib.decDigits u with
  | nil => exact absurd e (dd_ne u)
  | cons c r =>
    rw [e] at hr hv
    have hc := hr c (by simp)
    unfold isD at hc
    have hp := parse10 (c :: r) 0 hr (by omega)
    unfold Lib.atoiAll
    simp only [if_neg (show ¬ (c.toNat = 43 ∨ c.toNat = 45) by omega)]
    unfold Lib.parseMag
    rw [if_neg (by simp), hp, hv]
    simp only [show ¬ c.toNat = 45 from by omega, false_and, not_false_eq_true, true_and, if_false]
    rw [if_neg (by omega)]
theorem parseInt_dd (u : Nat) (h : u ≤ 999999) : impl_ParseInt.f (mk (Lib.decDigits u)) = some ((u : Int), true) := by
  have hl := dd_len 6 u (by omega) (by omega)
  unfold impl_ParseInt.f
  rw [if_pos (by rw [mk_size]; omega), show (mk (Lib.decDigits u)).data.toList = Lib.decDigits u from B_of_mk _, atoi_dd u h]
  simp only [implDec (u : Int) (by omega) (by omega), Option.bind_some]
  rw [if_pos (by omega), if_pos (by rw [B_toList, B_toList, B_decN, B_of_mk])]
/-- ParseInt comes to an end. -/
theorem parseInt_total (w : ByteArray) (h : w.size ≤ 281474976710656) : ∃ v o, impl_ParseInt.f w = some (v, o) := by
  unfold impl_ParseInt.f
  rw [if_pos h]
  rcases Lib.atoiAll w.data.toList with v | _ | _
  · dsimp only
    by_cases c : -999999 ≤ v ∧ v ≤ 999999
    · rw [if_pos c, implDec v (by omega) (by omega), Option.bind_some]
      by_cases d : (dec v).toList = w.toList
      · rw [if_pos d]; exact ⟨_, _, rfl⟩
      · rw [if_neg d]; exact ⟨_, _, rfl⟩
    · rw [if_neg c]; exact ⟨_, _, rfl⟩
  · exact ⟨_, _, rfl⟩
  · exact ⟨_, _, rfl⟩
end Go.Proofs.YtpalafegcndccaaDoor.X


namespace Go.Proofs.YtpalafegcndccaaDoor.X
open Go.RowKit Go.Proofs.YtpalafegcndccaaDoorW.PrintWords Go.Proofs.YtpalafegcndccaaDoorL
set_option linter.unusedVariables false
set_option linter.unusedSimpArgs false
theorem l1In_is (a b c : Int) : spec_l1In.f a b c = some (decide (b ≤ a) && decide (a ≤ c)) := by
  unfold spec_l1In.f
  by_cases h : a ≥ b
  · rw [if_pos h]; simp [show b ≤ a from h]
  · rw [if_neg h]; simp [show ¬ b ≤ a from h]
end Go.Proofs.YtpalafegcndccaaDoor.X


namespace Go.Proofs.YtpalafegcndccaaDoor.X
open Go.RowKit Go.Proofs.YtpalafegcndccaaDoorW.PrintWords Go.Proofs.YtpalafegcndccaaDoorL
set_option linter.unusedVariables false
set_option linter.unusedSimpArgs false
theorem readAny_ev (x : ByteArray) (hx : x.size ≤ 1000) : ∃ v o, Ev (fun k => spec_l1Read.f k x) (v, o) ∧ ∀ u : Nat, u ≤ 999999 → B x = Lib.decDigits u → v = (u : Int) ∧ o = true := by
  have hs := B_length x
  have loop : ∀ y : ByteArray, (B y).length ≤ 6 → ∀ (d n : Nat), n + d = (B y).length → (∀ b ∈ (B y).take n, isD b) → ∃ v o, Ev (fun k => spec_l1Read.l0 k x y (val 0 ((B y).take n) : Int) (n : Int)) (v, o) ∧ (y = x → ∀ u : Nat, u ≤ 999999 → B x = Lib.decDigits u → v = (u : Int) ∧ o = true) := by
    intro y hy6 d
    have hys := B_length y
    have vb : ∀ n, n ≤ (B y).length → (∀ b ∈ (B y).take n, isD b) → val 0 ((B y).take n) < 1000000 := fun n hn hd => by
      have hv := val_lt ((B y).take n) 0 0 hd (by simp)
      have hv2 : val 0 ((B y).take n) < 10 ^ 6 := Nat.lt_of_lt_of_le hv (Nat.pow_le_pow_right (by omega) (by rw [List.length_take]; omega))
      exact hv2
    induction d with
    | zero =>
      intro n hn hd
      obtain rfl : n = (B y).length := by omega
      have hv3 := vb _ (Nat.le_refl _) hd
      rw [List.take_length] at hd hv3 ⊢
      by_cases c : (y.size : Int) < (x.size : Int)
      · have w1 : wrap64 (-(val 0 (B y) : Int)) = -(val 0 (B y) : Int) := wrap_id (by omega) (by omega)
        have fin : ∀ r, Ev (fun k => (spec_l1Num.f k (-(val 0 (B y) : Int))).bind fun t => if t.toList = x.toList then some (-(val 0 (B y) : Int), true) else some (0, false)) r → Ev (fun k => spec_l1Read.l0 k x y (val 0 (B y) : Int) ((B y).length : Int)) r := fun r h => by
          refine Ev.step (fun k => ?_) h
          simp only [spec_l1Read.l0]
          rw [if_neg (by omega), if_pos c, w1]
        by_cases e : (dec (-(val 0 (B y) : Int))).toList = x.toList
        · exact ⟨_, true, fin _ (Ev.bind (specNum_ev _ (by omega) (by omega)) (Ev.congr (fun k => if_pos e) (Ev.now _))), fun h => by subst h; omega⟩
        · exact ⟨0, false, fin _ (Ev.bind (specNum_ev _ (by omega) (by omega)) (Ev.congr (fun k => if_neg e) (Ev.now _))), fun h => by subst h; omega⟩
      · have fin : ∀ r, Ev (fun k => (spec_l1Num.f k (val 0 (B y) : Int)).bind fun t => if t.toList = x.toList then some ((val 0 (B y) : Int), true) else some (0, false)) r → Ev (fun k => spec_l1Read.l0 k x y (val 0 (B y) : Int) ((B y).length : Int)) r := fun r h => by
          refine Ev.step (fun k => ?_) h
          simp only [spec_l1Read.l0]
          rw [if_neg (by omega), if_neg c]
        by_cases e : (dec (val 0 (B y) : Int)).toList = x.toList
        · refine ⟨_, true, fin _ (Ev.bind (specNum_ev _ (by omega) (by omega)) (Ev.congr (fun k => if_pos e) (Ev.now _))), fun h u hu eu => ⟨?_, rfl⟩⟩
          rw [h, eu, val_dd u u (Nat.le_refl _)]
        · refine ⟨0, false, fin _ (Ev.bind (specNum_ev _ (by omega) (by omega)) (Ev.congr (fun k => if_neg e) (Ev.now _))), fun h u hu eu => absurd ?_ e⟩
          rw [B_toList, B_toList, h, eu, val_dd u u (Nat.le_refl _), B_decN]
    | succ d ih =>
      intro n hn hd
      have hl2 : n < (B y).length := by omega
      have hb := bt_B y n hl2
      by_cases c : isD (B y)[n]
      · have hd2 : ∀ b ∈ (B y).take (n + 1), isD b := by
          intro b hb2
          rw [List.take_succ_eq_append_getElem hl2, List.mem_append] at hb2
          rcases hb2 with h | h
          · exact hd b h
          · simp only [List.mem_singleton] at h; rw [h]; exact c
        obtain ⟨v, o, he, hr⟩ := ih (n + 1) (by omega) hd2
        refine ⟨v, o, Ev.step (fun k => ?_) he, hr⟩
        have hv3 := vb (n + 1) (by omega) hd2
        unfold isD at c
        rw [List.take_succ_eq_append_getElem hl2, val_snoc] at hv3 ⊢
        simp only [spec_l1Read.l0]
        rw [if_pos (by omega), if_pos (by omega), if_neg (by omega), if_neg (by omega), wrap_succ (by omega)]
        have e1 : wrap64 (10 * (val 0 ((B y).take n) : Int)) = 10 * (val 0 ((B y).take n) : Int) := wrap_id (by omega) (by omega)
        have e2 : (bt y (n : Int) - 48) % 256 = ((B y)[n].toNat - 48 : Nat) := by omega
        have e3 : wrap64 (10 * (val 0 ((B y).take n) : Int) + (((B y)[n].toNat - 48 : Nat) : Int)) = ((val 0 ((B y).take n) * 10 + ((B y)[n].toNat - 48) : Nat) : Int) := by rw [wrap_id (by omega) (by omega)]; omega
        rw [e1, e2, e3]
      · refine ⟨0, false, Ev.step (f := fun _ => some (0, false)) (fun k => ?_) (Ev.now _), fun h u hu eu => absurd ?_ c⟩
        · simp only [spec_l1Read.l0]
          unfold isD at c
          rw [if_pos (by omega), if_pos (by omega)]
          by_cases q : bt y (n : Int) < 48
          · rw [if_pos q]
          · rw [if_neg q, if_pos (by omega)]
        · subst h
          have := dd_range u u (Nat.le_refl _)
          rw [← eu] at this
          exact this _ (List.getElem_mem hl2)
  have j1 : ∀ y : ByteArray, y.size ≤ 1000 → ∃ v o, Ev (fun k => spec_l1Read.j1 k x y) (v, o) ∧ (y = x → ∀ u : Nat, u ≤ 999999 → B x = Lib.decDigits u → v = (u : Int) ∧ o = true) := by
    intro y hy
    have hys := B_length y
    by_cases c : 1 ≤ y.size ∧ y.size ≤ 6
    · obtain ⟨v, o, he, hr⟩ := loop y (by omega) (B y).length 0 (by omega) (by simp)
      refine ⟨v, o, Ev.step (fun k => ?_) he, hr⟩
      simp only [spec_l1Read.j1, l1In_is, Option.bind_some]
      rw [show (decide ((1 : Int) ≤ (y.size : Int)) && decide ((y.size : Int) ≤ 6)) = true from by simp; omega, if_pos rfl]
      rfl
    · refine ⟨0, false, Ev.step (f := fun _ => some (0, false)) (fun k => ?_) (Ev.now _), fun h u hu eu => absurd ?_ c⟩
      · simp only [spec_l1Read.j1, l1In_is, Option.bind_some]
        rw [show (decide ((1 : Int) ≤ (y.size : Int)) && decide ((y.size : Int) ≤ 6)) = false from by simp; omega]
        rfl
      · subst h
        have h1 := dd_len 6 u (by omega) (by omega)
        have h2 := List.length_pos_iff.2 (dd_ne u)
        rw [← eu] at h1 h2
        omega
  by_cases c : (x.size : Int) > 1
  · by_cases m : (bt x 0 == 45) = true
    · obtain ⟨v, o, he, _⟩ := j1 (x.extract 1 x.size) (by rw [ByteArray.size_extract]; omega)
      refine ⟨v, o, Ev.congr (f := fun k => spec_l1Read.j0 k x x true) (fun k => ?_) (Ev.step (fun k => ?_) he), fun u hu eu => ?_⟩
      · unfold spec_l1Read.f; rw [if_pos c, if_pos (by omega), m]
      · simp only [spec_l1Read.j0, if_true]; rw [if_pos (by omega)]
      · exfalso
        have hl0 : 0 < (B x).length := by omega
        have h0 := bt_B x 0 hl0
        have hh := dd_range u u (Nat.le_refl _)
        rw [← eu] at hh
        have := hh _ (List.getElem_mem hl0)
        unfold isD at this
        have m2 : bt x 0 = 45 := by simpa using m
        have h1 : bt x ((0 : Nat) : Int) = 45 := m2
        omega
    · obtain ⟨v, o, he, hr⟩ := j1 x (by omega)
      refine ⟨v, o, Ev.congr (f := fun k => spec_l1Read.j0 k x x false) (fun k => ?_) (Ev.step (fun k => ?_) he), hr rfl⟩
      · unfold spec_l1Read.f; rw [if_pos c, if_pos (by omega), Bool.eq_false_iff.2 m]
      · simp only [spec_l1Read.j0, Bool.false_eq_true, if_false]
  · obtain ⟨v, o, he, hr⟩ := j1 x (by omega)
    refine ⟨v, o, Ev.congr (f := fun k => spec_l1Read.j0 k x x false) (fun k => ?_) (Ev.step (fun k => ?_) he), hr rfl⟩
    · unfold spec_l1Read.f; rw [if_neg c]
    · simp only [spec_l1Read.j0, Bool.false_eq_true, if_false]
end Go.Proofs.YtpalafegcndccaaDoor.X


namespace Go.Proofs.YtpalafegcndccaaDoor.X
open Go.RowKit Go.Proofs.YtpalafegcndccaaDoorW.PrintWords Go.Proofs.YtpalafegcndccaaDoorL
set_option linter.unusedVariables false
set_option linter.unusedSimpArgs false
/-- The bytes of an event's line, without its end. -/
def bodyE (x : Event) : List UInt8 := Lib.itoa x.f0 ++ 32 :: B (wordE x.f1)
theorem B_lineE (x : Event) : B (lineE x) = bodyE x ++ [10] := by
  unfold lineE bodyE
  rw [B_append, B_append, B_append, B_dec]
  simp [B]
theorem words7 : ∀ p : Fin 7, (∀ b ∈ B (wordsE.getD p.val ByteArray.empty), b ≠ 10) := by decide
theorem words_far : ∀ p q : Fin 7, p ≠ q → wordsE.getD p.val ByteArray.empty ≠ wordsE.getD q.val ByteArray.empty := by decide
theorem itoa_nat {n : Int} (h0 : 0 ≤ n) : Lib.itoa n = Lib.decDigits n.toNat := by unfold Lib.itoa; rw [if_neg (by omega)]
theorem wordE_at {a : Int} (h0 : 1 ≤ a) (h1 : a ≤ 6) : ∃ j : Nat, (j : Int) = a ∧ 1 ≤ j ∧ ∃ hj : j < wordsE.length, wordE a = wordsE[j] := by
  obtain ⟨j, rfl⟩ := Int.eq_ofNat_of_zero_le (show 0 ≤ a by omega)
  have hj : j < wordsE.length := by show j < 7; omega
  exact ⟨j, rfl, by omega, hj, rdW wordsE j hj⟩
theorem word_ne {i j : Nat} (hi : i < wordsE.length) (hj : j < wordsE.length) (h : i ≠ j) : wordsE[i] ≠ wordsE[j] := by
  have := words_far ⟨i, hi⟩ ⟨j, hj⟩ (fun e => h (by injection e))
  simpa [List.getD_eq_getElem?_getD, List.getElem?_eq_getElem hi, List.getElem?_eq_getElem hj] using this
theorem word_no10 {a : Int} (h0 : 1 ≤ a) (h1 : a ≤ 6) : (10 : UInt8) ∉ B (wordE a) := by
  obtain ⟨j, _, _, hj, e⟩ := wordE_at h0 h1
  have := words7 ⟨j, hj⟩
  rw [e]
  intro h
  have h2 : (10 : UInt8) ∈ B (wordsE.getD j ByteArray.empty) := by
    simpa [List.getD_eq_getElem?_getD, List.getElem?_eq_getElem hj] using h
  exact this 10 h2 rfl
theorem dig_not (u : Nat) {b : UInt8} (h : b ∈ Lib.decDigits u) (c : UInt8) (hc : c.toNat < 48) : b ≠ c := by
  have := dd_range u u (Nat.le_refl _) b h
  unfold isD at this
  intro e
  subst e
  omega
theorem body_no10 {x : Event} (h : okEv x) : (10 : UInt8) ∉ bodyE x := by
  unfold bodyE
  rw [itoa_nat h.1.1]
  intro hm
  rcases List.mem_append.1 hm with hm | hm
  · exact dig_not _ hm 10 (by decide) rfl
  · rcases List.mem_cons.1 hm with hm | hm
    · exact absurd hm (by decide)
    · exact word_no10 h.2.1 h.2.2 hm
theorem body_cut {x : Event} (h : okEv x) : cutL 32 (bodyE x) = (Lib.decDigits x.f0.toNat, B (wordE x.f1), true) := by
  unfold bodyE
  rw [itoa_nat h.1.1]
  exact cutL_hit 32 _ _ (fun hm => dig_not _ hm 32 (by decide) rfl)
theorem body_len {x : Event} (h : okEv x) : (bodyE x).length ≤ 13 := by
  have h1 : (Lib.decDigits x.f0.toNat).length ≤ 4 := dd_len 4 _ (by omega) (by have := h.1; omega)
  have h2 := wordE_size x.f1 h.2.1 h.2.2
  rw [size_B] at h2
  unfold bodyE
  rw [itoa_nat h.1.1, List.length_append, List.length_cons]
  omega
/-- The bytes of a history's text. -/
def bytesH (l : List Event) : List UInt8 := l.flatMap fun x => bodyE x ++ [10]
theorem bytesH_cons (x : Event) (l : List Event) : bytesH (x :: l) = bodyE x ++ 10 :: bytesH l := by unfold bytesH; simp
theorem B_textH (l : List Event) : B (textH l) = bytesH l := by
  have key : ∀ (l : List Event) (s : ByteArray), B (l.foldl (fun s x => s ++ lineE x) s) = B s ++ bytesH l := by
    intro l
    induction l with
    | nil => intro s; simp [bytesH]
    | cons x l ih => intro s; rw [List.foldl_cons, ih, B_append, B_lineE, bytesH_cons]; simp
  have := key l ⟨#[]⟩
  unfold textH
  rw [this]
  simp [B]
theorem bytesH_len : ∀ l : List Event, (∀ x ∈ l, okEv x) → (bytesH l).length ≤ 14 * l.length
  | [], _ => by simp [bytesH]
  | x :: l, h => by
    have ih := bytesH_len l (fun y hy => h y (by simp [hy]))
    have := body_len (h x (by simp))
    rw [bytesH_cons, List.length_append, List.length_cons, List.length_cons]
    omega
theorem text_small {l : List Event} (h : okH l) : (textH l).size ≤ 280 := by
  have h1 := bytesH_len l h.2
  have h2 := h.1
  rw [size_B, B_textH]
  omega
theorem pieces_bytesH : ∀ l : List Event, (∀ x ∈ l, okEv x) → pieces 10 (bytesH l) = l.map bodyE ++ [[]]
  | [], _ => rfl
  | x :: l, h => by
    have ih := pieces_bytesH l (fun y hy => h y (by simp [hy]))
    rw [bytesH_cons, pieces_cut, cutL_hit 10 _ _ (body_no10 (h x (by simp))), if_pos rfl, ih]
    rfl
/-- What the program reads in a line. -/
theorem implLine (y : ByteArray) (hy : y.size ≤ 1048576) : ∃ (a b : ByteArray) (o o2 : Bool) (i v : Int), strings_Cut.f y (⟨#[32]⟩ : ByteArray) = some (a, b, o) ∧ Ev (fun k => slices_Index_string_string.f k wordsE b) i ∧ impl_ParseInt.f a = some (v, o2) ∧ ∀ x, okEv x → B y = bodyE x → (⟨v, i⟩ : Event) = x := by
  have hc := stringsCut_eq y 32 (by omega)
  obtain ⟨i, hi, hip⟩ := implIndex_ev wordsE (mk (cutL 32 (B y)).2.1) (by decide)
  have hl : (cutL 32 (B y)).1.length ≤ (B y).length := by
    by_cases h : (cutL 32 (B y)).2.2 = true
    · have := congrArg List.length (cutL_found 32 (B y) h)
      rw [List.length_append, List.length_cons] at this
      omega
    · rw [cutL_lost 32 (B y) (by simpa using h)]; exact Nat.le_refl _
  rw [B_length] at hl
  obtain ⟨v, o2, hv⟩ := parseInt_total (mk (cutL 32 (B y)).1) (by rw [mk_size]; omega)
  refine ⟨_, _, _, o2, i, v, hc, hi, hv, fun x hx e => ?_⟩
  rw [e, body_cut hx] at hv hip
  have h1 : v = x.f0 := by
    rw [parseInt_dd x.f0.toNat (by have := hx.1; omega)] at hv
    simp only [Option.some.injEq, Prod.mk.injEq] at hv
    have := hx.1
    omega
  have h2 : i = x.f1 := by
    obtain ⟨j, ej, j1, hj, ew⟩ := wordE_at hx.2.1 hx.2.2
    rw [← ej]
    refine hip j hj ?_ (fun k hk => ?_)
    · rw [mk_of_B, ew]
    · rw [mk_of_B, ew]
      exact word_ne (by omega) hj (by omega)
  subst h1 h2
  rfl
/-- What the reference reads in a line. -/
theorem specLine (y : ByteArray) (hy : y.size ≤ 400) : ∃ (v i : Int) (o : Bool), Ev (fun k => spec_l23Parse.f k y) (v, i, o) ∧ ∀ x, okEv x → B y = bodyE x → (v, i, o) = (x.f0, x.f1, true) := by
  have hlen := B_length y
  by_cases h : (cutL 32 (B y)).2.2 = true
  · have hf := cutL_found 32 (B y) h
    have hn := cutL_notin 32 (B y)
    have hbody : ∀ x, okEv x → B y = bodyE x → (cutL 32 (B y)).1 = Lib.decDigits x.f0.toNat ∧ (cutL 32 (B y)).2.1 = B (wordE x.f1) := fun x hx e => by rw [e, body_cut hx]; exact ⟨rfl, rfl⟩
    generalize (cutL 32 (B y)).1 = a at hf hn hbody
    generalize (cutL 32 (B y)).2.1 = b at hf hbody
    have hl := congrArg List.length hf
    rw [List.length_append, List.length_cons, hlen] at hl
    have e1 : y.extract 0 a.length = mk a := B_inj (by rw [B_extract, B_of_mk, hf, List.drop_zero, Nat.sub_zero, List.take_left' rfl])
    have e2 : y.extract (a.length + 1) y.size = mk b := B_inj (by
      rw [B_extract, B_of_mk, List.take_of_length_le (by rw [List.length_drop]; omega), hf, show a.length + 1 = (a ++ [(32 : UInt8)]).length from by simp, show a ++ 32 :: b = (a ++ [32]) ++ b from by simp, List.drop_left' rfl])
    obtain ⟨v, o, hv, hvp⟩ := readAny_ev (mk a) (by rw [mk_size]; omega)
    obtain ⟨i, hi, hip⟩ := specIndex_ev wordsE (mk b) (by decide)
    have key : ∀ (d n : Nat), n + d = a.length → Ev (fun k => spec_l23Parse.l0 k y (n : Int)) (v, i, if o = true then decide (i > 0) else false) := by
      intro d
      induction d with
      | zero =>
        intro n hn2
        obtain rfl : n = a.length := by omega
        have hb := bt_B y a.length (by omega)
        have h32 : (B y)[a.length]'(by omega) = 32 := by
          have : (a ++ 32 :: b)[a.length]'(by simp) = 32 := by simp
          simp only [hf, this]
        refine Ev.step (f := fun k => (spec_l1Read.f k (mk a)).bind fun t => (spec_l4Index.f k wordsE (mk b)).bind fun i => if t.2 = true then some (t.1, i, decide (i > 0)) else some (t.1, i, false)) (fun k => ?_) ?_
        · simp only [spec_l23Parse.l0]
          have ew : spec_l23Words.f = some wordsE := rfl
          have q1 : (0 : Int) ≤ ((a.length + 1 : Nat) : Int) := by omega
          have q2 : ((a.length + 1 : Nat) : Int) ≤ (y.size : Int) := by omega
          rw [if_pos (by omega), if_pos (by omega), hb, h32, if_pos (by rfl), if_pos (by omega), wrap_succ (by omega), Int.toNat_natCast, e1]
          simp only [ew, Option.bind_some, if_pos q1, if_pos q2, Int.toNat_natCast, e2]
        · refine Ev.bind hv (Ev.bind hi ?_)
          cases o with
          | true => simp only [if_true]; exact Ev.now _
          | false => simp only [Bool.false_eq_true, if_false]; exact Ev.now _
      | succ d ih =>
        intro n hn2
        have hn3 : n < a.length := by omega
        have hb := bt_B y n (by omega)
        have hne : (B y)[n]'(by omega) ≠ 32 := by
          have : (a ++ 32 :: b)[n]'(by simp; omega) = a[n] := List.getElem_append_left hn3
          simp only [hf, this]
          intro e
          exact hn (by rw [← e]; exact List.getElem_mem hn3)
        refine Ev.step (fun k => ?_) (ih (n + 1) (by omega))
        simp only [spec_l23Parse.l0]
        rw [if_pos (by omega), if_pos (by omega), hb, if_neg (fun z => hne (UInt8.toNat_inj.1 (by show _ = 32; omega))), wrap_succ (by omega)]
    refine ⟨v, i, _, Ev.congr (fun k => rfl) (key a.length 0 (by omega)), fun x hx e => ?_⟩
    obtain ⟨ea, eb⟩ := hbody x hx e
    have h1 := hvp x.f0.toNat (by have := hx.1; omega) (by rw [B_of_mk, ea])
    have h2 : i = x.f1 := by
      obtain ⟨j, ej, j1, hj, ew⟩ := wordE_at hx.2.1 hx.2.2
      rw [← ej]
      refine hip j j1 hj ?_ (fun k _ hk => ?_)
      · rw [eb, mk_of_B, ew]
      · rw [eb, mk_of_B, ew]
        exact word_ne (by omega) hj (by omega)
    have h3 : v = x.f0 := by have := hx.1; omega
    rw [h2, h3, h1.2, if_pos rfl, decide_eq_true (by have := hx.2; omega)]
  · have hl := cutL_lost 32 (B y) (by simpa using h)
    have hn : (32 : UInt8) ∉ B y := by
      have := cutL_notin 32 (B y)
      rw [hl] at this
      exact this
    have key : ∀ (d n : Nat), n + d = y.size → Ev (fun k => spec_l23Parse.l0 k y (n : Int)) ((0, 0, false) : Int × Int × Bool) := by
      intro d
      induction d with
      | zero =>
        intro n hn2
        refine Ev.step (f := fun _ => some _) (fun k => ?_) (Ev.now _)
        simp only [spec_l23Parse.l0]
        rw [if_neg (by omega)]
      | succ d ih =>
        intro n hn2
        have hb := bt_B y n (by omega)
        have hne : (B y)[n]'(by omega) ≠ 32 := fun e => hn (by rw [← e]; exact List.getElem_mem _)
        refine Ev.step (fun k => ?_) (ih (n + 1) (by omega))
        simp only [spec_l23Parse.l0]
        rw [if_pos (by omega), if_pos (by omega), hb, if_neg (fun z => hne (UInt8.toNat_inj.1 (by show _ = 32; omega))), wrap_succ (by omega)]
    refine ⟨0, 0, false, Ev.congr (fun k => rfl) (key y.size 0 (by omega)), fun x hx e => ?_⟩
    rw [e, body_cut hx] at h
    exact absurd rfl h
end Go.Proofs.YtpalafegcndccaaDoor.X


namespace Go.Proofs.YtpalafegcndccaaDoor.X
open Go.RowKit Go.Proofs.YtpalafegcndccaaDoorW.PrintWords Go.Proofs.YtpalafegcndccaaDoorL
set_option linter.unusedVariables false
set_option linter.unusedSimpArgs false
abbrev noH : List Event × Bool := ([], false)
/-- What a result of reading s may be. -/
def readsH (s : ByteArray) (r : List Event × Bool) : Prop := (r = noH ∨ ∃ L, (hist L).isSome = true ∧ textH L = s ∧ r = (L, true)) ∧ ∀ L, (hist L).isSome = true → textH L = s → r = (L, true)
theorem someH {L : List Event} (h : (hist L).isSome = true) : okH L := by
  cases e : hist L with
  | none => rw [e] at h; cases h
  | some t => exact hist_ok e
open Classical in
/-- The end of reading: the check. -/
noncomputable def endH (s : ByteArray) (out : List Event) : List Event × Bool := if (hist out).isSome = true ∧ textH out = s then (out, true) else noH
theorem endH_hit {s : ByteArray} {out : List Event} (h : (hist out).isSome = true) (e : textH out = s) : endH s out = (out, true) := by unfold endH; exact if_pos ⟨h, e⟩
theorem endH_miss {s : ByteArray} {out : List Event} (h : ¬ ((hist out).isSome = true ∧ textH out = s)) : endH s out = noH := by unfold endH; exact if_neg h
theorem endH_or (s : ByteArray) (out : List Event) : endH s out = noH ∨ ∃ L, (hist L).isSome = true ∧ textH L = s ∧ endH s out = (L, true) := by
  by_cases c : (hist out).isSome = true ∧ textH out = s
  · exact .inr ⟨out, c.1, c.2, endH_hit c.1 c.2⟩
  · exact .inl (endH_miss c)
theorem implEnd (s : ByteArray) (out : List Event) (hl : out.length ≤ 1048576) : Ev (fun k => (impl_IsHistory.f k out).bind fun t => (if t = true then ((impl_historyText.f k out).bind fun t2 => (if t2.toList = s.toList then (some (out, true)) else (some (([] : List Event), false)))) else (some (([] : List Event), false)))) (endH s out) := by
  refine Ev.bind (implIsHist_ev out hl) ?_
  by_cases h : (hist out).isSome = true
  · refine Ev.congr (fun k => if_pos h) (Ev.bind (implTextH_ev out (someH h)) ?_)
    by_cases e : textH out = s
    · rw [endH_hit h e]
      exact Ev.congr (fun k => if_pos (by rw [e])) (Ev.now _)
    · rw [endH_miss (fun z => e z.2)]
      exact Ev.congr (fun k => if_neg (fun z => e (B_inj (by rwa [B_toList, B_toList] at z)))) (Ev.now _)
  · rw [endH_miss (fun z => h z.1)]
    exact Ev.congr (fun k => if_neg h) (Ev.now _)
theorem implLoopH (s : ByteArray) (ys : List ByteArray) (hys : ys.length ≤ 1048576) (hsz : ∀ y ∈ ys, y.size ≤ 1048576) : ∀ (d n : Nat) (acc : List Event), n + d = ys.length → acc.length = n →
    ∃ out : List Event, out.length = d ∧ Ev (fun k => impl_ParseHistory.l0 k s acc ys (ys.length : Int) (n : Int)) (endH s (acc ++ out)) ∧ ∀ L : List Event, L.length = d → (∀ i : Nat, (h : i < L.length) → (h2 : n + i < ys.length) → okEv L[i] ∧ B ys[n + i] = bodyE L[i]) → out = L := by
  intro d
  induction d with
  | zero =>
    intro n acc hn ha
    refine ⟨[], rfl, ?_, fun L hL _ => (List.eq_nil_of_length_eq_zero hL).symm⟩
    rw [List.append_nil]
    refine Ev.step (fun k => ?_) (implEnd s acc (by omega))
    simp only [impl_ParseHistory.l0]
    rw [if_neg (by omega)]
  | succ d ih =>
    intro n acc hn ha
    have hn2 : n < ys.length := by omega
    obtain ⟨a, b, o, o2, i, v, hc, hi, hv, hp⟩ := implLine ys[n] (hsz _ (List.getElem_mem hn2))
    obtain ⟨out, ho, he, hL⟩ := ih (n + 1) (acc ++ [⟨v, i⟩]) (by omega) (by simp [ha])
    refine ⟨⟨v, i⟩ :: out, by simp [ho], ?_, fun L hLl hb => ?_⟩
    · rw [List.append_assoc] at he
      have ew : impl_eventWords.f = some wordsE := rfl
      refine Ev.step (f := fun k => (slices_Index_string_string.f k wordsE b).bind fun t => impl_ParseHistory.l0 k s (acc ++ [(⟨v, t⟩ : Event)]) ys (ys.length : Int) ((n + 1 : Nat) : Int)) (fun k => ?_) (Ev.bind hi he)
      have q : acc.length < 8796093022208 := by omega
      simp only [impl_ParseHistory.l0]
      rw [if_pos (by omega), if_pos (by omega), if_pos (by omega), rdW ys n hn2, hc, wrap_succ (by omega)]
      simp only [ew, hv, Option.bind_some, if_pos q]
    · cases L with
      | nil => cases hLl
      | cons x L =>
        have h0 := hb 0 (by simp) (by omega)
        have e0 : (⟨v, i⟩ : Event) = x := hp x h0.1 h0.2
        have e1 : out = L := hL L (by simpa using hLl) (fun j hj hj2 => by
          have := hb (j + 1) (by simpa using hj) (by omega)
          simp only [List.getElem_cons_succ] at this
          have e : n + (j + 1) = n + 1 + j := by omega
          simp only [e] at this
          exact this)
        rw [e0, e1]
/-- A history's lines stand in the text's pieces. -/
theorem lines_of {s : ByteArray} {L : List Event} (h : (hist L).isSome = true) (e : textH L = s) : pieces 10 (B s) = L.map bodyE ++ [[]] := by
  rw [← e, B_textH]
  exact pieces_bytesH L (someH h).2
theorem piece_size (s : ByteArray) : ∀ p ∈ pieces 10 (B s), p.length ≤ s.size := by
  have key : ∀ (m : Nat) (l : List UInt8), l.length ≤ m → ∀ p ∈ pieces 10 l, p.length ≤ l.length := by
    intro m
    induction m with
    | zero =>
      intro l hl p hp
      obtain rfl : l = [] := List.eq_nil_of_length_eq_zero (by omega)
      simp [pieces] at hp
      rw [hp]
      exact Nat.le_refl _
    | succ m ih =>
      intro l hl p hp
      rw [pieces_cut] at hp
      by_cases h : (cutL 10 l).2.2 = true
      · rw [if_pos h] at hp
        have hf := congrArg List.length (cutL_found 10 l h)
        rw [List.length_append, List.length_cons] at hf
        rcases List.mem_cons.1 hp with rfl | hp
        · omega
        · have := ih _ (by omega) p hp
          omega
      · rw [if_neg h] at hp
        rw [List.mem_singleton.1 hp]
        exact Nat.le_refl _
  intro p hp
  have := key _ _ (Nat.le_refl _) p hp
  rwa [B_length] at this
theorem implHist_read (s : ByteArray) (hs : s.size ≤ 1048576) : ∃ r, Ev (fun k => impl_ParseHistory.f k s) r ∧ readsH s r := by
  have hB := B_length s
  have hpl := pieces_length 10 (B s)
  -- what lines there are
  obtain ⟨ys, ok, hlo, hlen, hmem, hokk⟩ : ∃ (ys : List ByteArray) (ok : Bool), impl_linesOf.f s = some (ys, ok) ∧ ys.length ≤ 1048576 ∧ (∀ y ∈ ys, y.size ≤ 1048576) ∧ ∀ L, (hist L).isSome = true → textH L = s → ok = true ∧ ys = L.map fun x => mk (bodyE x) := by
    by_cases c : s.toList = []
    · refine ⟨[], true, by unfold impl_linesOf.f; rw [if_pos c], by simp, fun y hy => (by cases hy), fun L h e => ⟨rfl, ?_⟩⟩
      have hp := lines_of h e
      have hb : B s = [] := by rw [← B_toList]; exact c
      rw [hb] at hp
      cases L with
      | nil => rfl
      | cons x L => have := congrArg List.length hp; simp [pieces] at this
    · have hsp := stringsSplit_eq s 10 hs
      have hsp2 : strings_Split.f s (⟨#[10]⟩ : ByteArray) = some ((pieces 10 (B s)).map mk) := hsp
      refine ⟨((pieces 10 (B s)).map mk).take (((pieces 10 (B s)).map mk).length - 1), _, by unfold impl_linesOf.f; rw [if_neg c, hsp2, Option.bind_some, if_pos ⟨by rw [List.length_map]; omega, by rw [List.length_map]; omega⟩], by rw [List.length_take, List.length_map]; omega, fun y hy => ?_, fun L h e => ?_⟩
      · obtain ⟨p, hp, rfl⟩ := List.mem_map.1 (List.mem_of_mem_take hy)
        have := piece_size s p hp
        rw [mk_size]
        omega
      · have hp := lines_of h e
        rw [hp]
        simp only [List.map_append, List.map_map, List.map_cons, List.map_nil, List.length_append, List.length_map, List.length_cons, List.length_nil]
        refine ⟨?_, ?_⟩
        · rw [show L.length + (0 + 1) - 1 = L.length by omega, rdW _ L.length (by simp)]
          simp [mk]
        · rw [show L.length + (0 + 1) - 1 = L.length by omega, List.take_left' (by simp)]
          rfl
  unfold impl_ParseHistory.f
  rw [hlo]
  simp only [Option.bind_some]
  cases ok with
  | false =>
    exact ⟨noH, ev_eq (fun k => if_neg (by decide)), .inl rfl, fun L h e => by have := (hokk L h e).1; cases this⟩
  | true =>
    obtain ⟨out, ho, he, hL⟩ := implLoopH s ys hlen hmem ys.length 0 [] (by omega) rfl
    rw [List.nil_append] at he
    refine ⟨endH s out, Ev.congr (fun k => if_pos rfl) he, endH_or s out, fun L h e => ?_⟩
    · have hy := (hokk L h e).2
      have hout : out = L := hL L (by rw [hy, List.length_map]) (fun i hi hi2 => by
        refine ⟨(someH h).2 _ (List.getElem_mem hi), ?_⟩
        simp only [hy, List.getElem_map, B_of_mk, Nat.zero_add])
      rw [hout]
      exact endH_hit h e
theorem specEnd (s : ByteArray) (out : List Event) : Ev (fun k => (spec_l23State.f k out).bind fun t222 => (if t222 < 0 then (some ((([] : List Event)), false)) else ((spec_l23Text.f k out).bind fun t226 => (if t226.toList = s.toList then (some (out, true)) else (some ((([] : List Event)), false)))))) (endH s out) := by
  refine Ev.bind (specState_ev out) ?_
  cases e0 : hist out with
  | none =>
    rw [endH_miss (fun z => by rw [e0] at z; cases z.1)]
    exact Ev.congr (fun k => if_pos (by decide)) (Ev.now _)
  | some t =>
    have := hist_nonneg e0
    refine Ev.congr (fun k => if_neg (by simp only [Option.getD_some]; omega)) (Ev.bind (specTextH_ev out (hist_ok e0)) ?_)
    by_cases e : textH out = s
    · rw [endH_hit (by rw [e0]; rfl) e]
      exact Ev.congr (fun k => if_pos (by rw [e])) (Ev.now _)
    · rw [endH_miss (fun z => e z.2)]
      exact Ev.congr (fun k => if_neg (fun z => e (B_inj (by rwa [B_toList, B_toList] at z)))) (Ev.now _)
theorem specLoopH (s : ByteArray) (ys : List ByteArray) (m : Nat) (hm : ys.length = m + 1) (hys : ys.length ≤ 1000) (hsz : ∀ y ∈ ys, y.size ≤ 400) : ∀ (d n : Nat) (acc : List Event), n + d = m → acc.length = n →
    ∃ r, Ev (fun k => spec_ParseHistory.l0 k s acc ys (n : Int)) r ∧ ((r = noH ∧ ∀ L : List Event, L.length = d → ¬ (∀ i : Nat, (h : i < L.length) → (h2 : n + i < ys.length) → okEv L[i] ∧ B ys[n + i] = bodyE L[i])) ∨
      ∃ out : List Event, r = endH s (acc ++ out) ∧ ∀ L : List Event, L.length = d → (∀ i : Nat, (h : i < L.length) → (h2 : n + i < ys.length) → okEv L[i] ∧ B ys[n + i] = bodyE L[i]) → out = L) := by
  intro d
  induction d with
  | zero =>
    intro n acc hn ha
    refine ⟨endH s acc, ?_, .inr ⟨[], by rw [List.append_nil], fun L hL _ => (List.eq_nil_of_length_eq_zero hL).symm⟩⟩
    refine Ev.step (fun k => ?_) (specEnd s acc)
    simp only [spec_ParseHistory.l0]
    rw [wrap_id (x := (ys.length : Int) - 1) (by omega) (by omega), if_neg (by omega)]
  | succ d ih =>
    intro n acc hn ha
    have hn2 : n < ys.length := by omega
    obtain ⟨v, i, o, hp, hpp⟩ := specLine ys[n] (hsz _ (List.getElem_mem hn2))
    have q : acc.length < 8796093022208 := by omega
    have step : ∀ k, spec_ParseHistory.l0 (k + 1) s acc ys (n : Int) = (spec_l23Parse.f k ys[n]).bind fun b => if b.2.2 = true then spec_ParseHistory.l0 k s (acc ++ [(⟨b.1, b.2.1⟩ : Event)]) ys ((n + 1 : Nat) : Int) else some (([] : List Event), false) := fun k => by
      simp only [spec_ParseHistory.l0]
      rw [wrap_id (x := (ys.length : Int) - 1) (by omega) (by omega), if_pos (by omega), if_pos (by omega), if_pos (by omega), rdW ys n hn2, wrap_succ (by omega)]
      simp only [if_pos q]
    cases o with
    | false =>
      refine ⟨noH, Ev.step step (Ev.bind hp (Ev.congr (fun k => if_neg Bool.false_ne_true) (Ev.now _))), .inl ⟨rfl, fun L hL hb => ?_⟩⟩
      cases L with
      | nil => cases hL
      | cons x L =>
        have h0 := hb 0 (by simp) (by omega)
        have := hpp x h0.1 h0.2
        simp only [Prod.mk.injEq] at this
        exact absurd this.2.2 (by decide)
    | true =>
      obtain ⟨r, he, hr⟩ := ih (n + 1) (acc ++ [⟨v, i⟩]) (by omega) (by simp [ha])
      have tl : ∀ (x : Event) (L : List Event), (∀ j : Nat, (h : j < (x :: L).length) → (h2 : n + j < ys.length) → okEv (x :: L)[j] ∧ B ys[n + j] = bodyE (x :: L)[j]) → (⟨v, i⟩ : Event) = x ∧ ∀ j : Nat, (h : j < L.length) → (h2 : n + 1 + j < ys.length) → okEv L[j] ∧ B ys[n + 1 + j] = bodyE L[j] := fun x L hb => by
        have h0 := hb 0 (by simp) (by omega)
        have := hpp x h0.1 h0.2
        simp only [Prod.mk.injEq] at this
        refine ⟨by cases x; simp_all, fun j hj hj2 => ?_⟩
        have := hb (j + 1) (by simpa using hj) (by omega)
        simp only [List.getElem_cons_succ] at this
        have e : n + (j + 1) = n + 1 + j := by omega
        simp only [e] at this
        exact this
      refine ⟨r, Ev.step step (Ev.bind hp (Ev.congr (fun k => if_pos rfl) he)), ?_⟩
      rcases hr with ⟨rfl, hno⟩ | ⟨out, rfl, hL⟩
      · refine .inl ⟨rfl, fun L hLl hb => ?_⟩
        cases L with
        | nil => cases hLl
        | cons x L => exact hno L (by simpa using hLl) (tl x L hb).2
      · refine .inr ⟨⟨v, i⟩ :: out, by rw [List.append_assoc]; rfl, fun L hLl hb => ?_⟩
        cases L with
        | nil => cases hLl
        | cons x L => rw [hL L (by simpa using hLl) (tl x L hb).2, (tl x L hb).1]
theorem specHist_read (s : ByteArray) (hs : s.size ≤ 1048576) : ∃ r, Ev (fun k => spec_ParseHistory.f k s) r ∧ readsH s r := by
  have hB := B_length s
  have hpl := pieces_length 10 (B s)
  have hsp : Ev (fun k => spec_l1Split.f k s 10) ((pieces 10 (B s)).map mk) := specSplit_ev s 10 (by omega)
  have bad : ∀ ts, Ev (fun k => spec_ParseHistory.j0 k s [] ts true) noH := fun ts => Ev.step (f := fun _ => some _) (fun k => by simp only [spec_ParseHistory.j0, if_true]) (Ev.now _)
  unfold spec_ParseHistory.f
  simp only [Option.bind_some]
  by_cases c : (s.size : Int) > 400
  · refine ⟨noH, Ev.bind hsp (Ev.congr (fun k => if_pos c) (bad _)), .inl rfl, fun L h e => ?_⟩
    have := text_small (someH h)
    rw [e] at this
    omega
  · have hl : ((pieces 10 (B s)).map mk).length = (pieces 10 (B s)).length := List.length_map _
    obtain ⟨m, hm⟩ : ∃ m, (pieces 10 (B s)).length = m + 1 := ⟨(pieces 10 (B s)).length - 1, by omega⟩
    have hmm : ((pieces 10 (B s)).map mk).length = m + 1 := by omega
    have hw : wrap64 ((((pieces 10 (B s)).map mk).length : Int) - 1) = (m : Int) := by rw [hmm, wrap_id (by omega) (by omega)]; omega
    have hms : m < ((pieces 10 (B s)).map mk).length := by omega
    have hlast : ∀ L, (hist L).isSome = true → textH L = s → m = L.length ∧ (((pieces 10 (B s)).map mk)[m]).toList = [] ∧ ∀ i : Nat, (h : i < L.length) → (h2 : i < ((pieces 10 (B s)).map mk).length) → okEv L[i] ∧ B ((pieces 10 (B s)).map mk)[i] = bodyE L[i] := fun L h e => by
      have hp := lines_of h e
      have e1 : m = L.length := by have := congrArg List.length hp; simp at this; omega
      refine ⟨e1, ?_, fun i hi hi2 => ⟨(someH h).2 _ (List.getElem_mem hi), ?_⟩⟩
      · simp only [hp, List.getElem_map]
        rw [List.getElem_append_right (by simp; omega), B_toList, B_of_mk]
        simp [e1]
      · simp only [hp, List.getElem_map, B_of_mk]
        rw [List.getElem_append_left (by simpa using hi)]
        simp
    have pre : ∀ {r : List Event × Bool}, Ev (fun k => spec_ParseHistory.j0 k s [] ((pieces 10 (B s)).map mk) ((((pieces 10 (B s)).map mk)[m]).toList != ([] : List UInt8))) r → Ev (fun k => (spec_l1Split.f k s 10).bind fun t207 => (if (s.size : Int) > 400 then (spec_ParseHistory.j0 k s [] t207 true) else (if 0 ≤ (wrap64 ((t207.length : Int) - 1)) then (if (wrap64 ((t207.length : Int) - 1)) < (t207.length : Int) then (spec_ParseHistory.j0 k s [] t207 ((rdOf ByteArray.empty t207 (wrap64 ((t207.length : Int) - 1))).toList != ([] : List UInt8))) else (none)) else (none)))) r := fun h => by
      refine Ev.bind hsp (Ev.congr (fun k => ?_) h)
      rw [if_neg c, hw, if_pos (by omega), if_pos (by omega), rdW _ m hms]
    by_cases z : (((pieces 10 (B s)).map mk)[m]).toList = []
    · obtain ⟨r, he, hr⟩ := specLoopH s ((pieces 10 (B s)).map mk) m hmm (by omega) (fun y hy => by
        obtain ⟨p, hp, rfl⟩ := List.mem_map.1 hy
        have := piece_size s p hp
        rw [mk_size]
        omega) m 0 [] (by omega) rfl
      refine ⟨r, pre ?_, ?_⟩
      · rw [z]
        exact Ev.step (fun k => by simp only [spec_ParseHistory.j0]; rw [if_neg (by decide)]; rfl) he
      · rcases hr with ⟨rfl, hno⟩ | ⟨out, rfl, hL⟩
        · refine ⟨.inl rfl, fun L h e => ?_⟩
          obtain ⟨e1, _, hb⟩ := hlast L h e
          exact absurd (fun i hi hi2 => by
            have := hb i hi (by omega)
            simp only [Nat.zero_add]
            exact this) (hno L e1.symm)
        · rw [List.nil_append]
          refine ⟨endH_or s out, fun L h e => ?_⟩
          · obtain ⟨e1, _, hb⟩ := hlast L h e
            have hout : out = L := hL L e1.symm (fun i hi hi2 => by
              have := hb i hi (by omega)
              simp only [Nat.zero_add]
              exact this)
            rw [hout]
            exact endH_hit h e
    · refine ⟨noH, pre ?_, .inl rfl, fun L h e => absurd (hlast L h e).2.1 z⟩
      rw [show ((((pieces 10 (B s)).map mk)[m]).toList != ([] : List UInt8)) = true from bne_iff_ne.2 z]
      exact bad _
theorem histBoth (s : ByteArray) (hs : s.size ≤ 1048576) : ∃ r, Ev (fun k => spec_ParseHistory.f k s) r ∧ Ev (fun k => impl_ParseHistory.f k s) r ∧ readsH s r ∧ r.1.length ≤ 20 := by
  obtain ⟨r, h1, a1, b1⟩ := specHist_read s hs
  obtain ⟨q, h2, a2, b2⟩ := implHist_read s hs
  have e : q = r := by
    rcases a1 with rfl | ⟨L, hL, eL, rfl⟩
    · rcases a2 with rfl | ⟨L, hL, eL, rfl⟩
      · rfl
      · exact (b1 L hL eL).symm
    · exact b2 L hL eL
  refine ⟨r, h1, by rw [← e]; exact h2, ⟨a1, b1⟩, ?_⟩
  rcases a1 with rfl | ⟨L, hL, eL, rfl⟩
  · simp
  · exact (someH hL).1
end Go.Proofs.YtpalafegcndccaaDoor.X


namespace Go.Proofs.YtpalafegcndccaaDoor.X
open Go.RowKit Go.Proofs.YtpalafegcndccaaDoorW.PrintWords Go.Proofs.YtpalafegcndccaaDoorL
set_option linter.unusedVariables false
set_option linter.unusedSimpArgs false
theorem markHeldE (l : List Event) (h : l.length ≤ 1048576) : ∃ y : List Event, Ev (fun k => laws_markEventS.f k l 1) (2 * (l.length : Int) + 1, y) ∧ Ev (fun k => laws_heldEventS.f k y 1) (2 * (l.length : Int) + 1) := by
  have key : ∀ (d n : Nat) (x : List Event), x.length = l.length → n + d = l.length → ∃ y : List Event, Ev (fun k => laws_markEventS.l0 k x (2 * (n : Int) + 1) (n : Int)) (2 * (l.length : Int) + 1, y) ∧ y.length = l.length ∧ (∀ j : Nat, j < n → y[j]? = x[j]?) ∧ Ev (fun k => laws_heldEventS.l0 k y (2 * (n : Int) + 1) (n : Int)) (2 * (l.length : Int) + 1) := by
    intro d
    induction d with
    | zero =>
      intro n x hx hn
      obtain rfl : n = l.length := by omega
      refine ⟨x, Ev.step (f := fun _ => some _) (fun k => by simp only [laws_markEventS.l0]; rw [if_neg (by omega)]) (Ev.now _), hx, fun _ _ => rfl, Ev.step (f := fun _ => some _) (fun k => by simp only [laws_heldEventS.l0]; rw [if_neg (by omega)]) (Ev.now _)⟩
    | succ d ih =>
      intro n x hx hn
      have w1 : wrap64 (2 * (n : Int) + 1 + 1) = 2 * (n : Int) + 2 := by rw [wrap_id (by omega) (by omega)]; omega
      have w2 : wrap64 (2 * (n : Int) + 2 + 1) = 2 * ((n + 1 : Nat) : Int) + 1 := by rw [wrap_id (by omega) (by omega)]; omega
      have hn2 : n < x.length := by omega
      obtain ⟨y, hy1, hy2, hy3, hy4⟩ := ih (n + 1) (x.set n (⟨2 * (n : Int) + 1, 2 * (n : Int) + 2⟩ : Event)) (by rw [List.length_set]; exact hx) (by omega)
      have hny : n < y.length := by omega
      have hyn : y[n] = (⟨2 * (n : Int) + 1, 2 * (n : Int) + 2⟩ : Event) := by
        have := hy3 n (by omega)
        rw [List.getElem?_eq_getElem hny, List.getElem?_eq_getElem (by rw [List.length_set]; exact hn2), List.getElem_set_self] at this
        exact Option.some.inj this
      refine ⟨y, Ev.step (fun k => ?_) hy1, hy2, fun j hj => ?_, Ev.step (fun k => ?_) hy4⟩
      · simp only [laws_markEventS.l0]
        rw [if_pos (by omega), if_pos (by omega), w1, w2, wrap_succ (by omega)]
        simp only [Option.bind_some, Int.toNat_natCast, List.set_set]
        have rdS : ∀ v : Event, rd_T40 (x.set n v) (n : Int) = v := fun v => by rw [rdE _ n (by rw [List.length_set]; exact hn2), List.getElem_set_self]
        simp only [rdS]
      · rw [hy3 j (by omega), List.getElem?_set_ne (by omega)]
      · simp only [laws_heldEventS.l0]
        rw [if_pos (by omega), if_pos (by omega), rdE y n hny, w1, w2, wrap_succ (by omega), hyn, if_pos rfl, if_pos rfl]
  obtain ⟨y, h1, _, _, h4⟩ := key l.length 0 l rfl (by omega)
  exact ⟨y, h1, h4⟩
end Go.Proofs.YtpalafegcndccaaDoor.X
namespace Go.Proofs.YtpalafegcndccaaDoor.Pure
open Go.RowKit Go.Proofs.YtpalafegcndccaaDoorW.PrintWords Go.Proofs.YtpalafegcndccaaDoorL Go.Proofs.YtpalafegcndccaaDoor.X
set_option linter.unusedVariables false
set_option linter.unusedSimpArgs false
theorem FnExactParseHistory : OFnExactParseHistory.Pure := by
  intro s hs
  refine ev_rounds ?_
  unfold laws_FnExactParseHistory.f
  by_cases c : (s.size : Int) > 1048576
  · simp only [if_pos c]; exact Ev.now _
  · simp only [if_neg c]
    obtain ⟨r, h1, h2, _, hl⟩ := histBoth s (by omega)
    obtain ⟨y, hm, hh⟩ := markHeldE r.1 (by omega)
    refine Ev.bind h1 (Ev.bind h2 (Ev.bind (eqEventS_ev r.1 (by omega)) ?_))
    simp only [if_true, bne_self_eq_false]
    refine Ev.step (f := fun k => (laws_markEventS.f k r.1 1).bind fun bt => (laws_heldEventS.f k bt.2 1).bind fun t => if t < 0 then some false else if t = bt.1 then ((impl_ParseHistory.f k s).bind fun b2 => (laws_eqEventS.f k b2.1 r.1).bind fun t2 => if t2 = true then laws_FnExactParseHistory.j1 k bt.2 bt.1 (b2.2 != r.2) else laws_FnExactParseHistory.j1 k bt.2 bt.1 true) else some false) (fun k => by simp only [laws_FnExactParseHistory.j0, Bool.false_eq_true, if_false]) ?_
    refine Ev.bind hm (Ev.bind hh (Ev.congr (fun k => by rw [if_neg (by omega), if_pos rfl]) (Ev.bind h2 (Ev.bind (eqEventS_ev r.1 (by omega)) ?_))))
    simp only [if_true, bne_self_eq_false]
    refine Ev.step (f := fun k => (laws_heldEventS.f k y 1).bind fun t => if t < 0 then some false else if t = 2 * (r.1.length : Int) + 1 then some true else some false) (fun k => by simp only [laws_FnExactParseHistory.j1, Bool.false_eq_true, if_false]) (Ev.bind hh (Ev.congr (fun k => by rw [if_neg (by omega), if_pos rfl]) (Ev.now _)))
end Go.Proofs.YtpalafegcndccaaDoor.Pure


namespace Go.Proofs.YtpalafegcndccaaDoorHs
open Go
set_option linter.unusedVariables false
set_option linter.unusedSimpArgs false
theorem handed_shaped {H : Type} {enc : TypeId × Value → H} {a : Assume} {C : Checked} {os : Os} {f : FuncId} {fn : Func} {s : ChangeSpec} {conds : List PathCond} {apart fresh handsOn again : Bool} {X : World → Array Value → Prop}
    (hX : ∀ (w w' : World) (args : Array Value), w.heap = w'.heap → X w args → X w' args)
    (own : ownKnob C.prog.godebug = none) (started : os.Started) (noInit : C.prog.inits.idxOf? f = none) (hfn : C.prog.funcs[f]? = some fn)
    (witness : ∃ (w : World) (tape : Tape) (i : Input), w.os = os ∧ (w.forCall tape i).Shaped C.prog ∧ i.vars = [] ∧ Input.okWide C.prog (w.forCall tape i) .any w.heap.size f i ∧
      ((s.pre enc C.prog fn conds apart (w.forCall tape i).memory i.args ∧ X (w.forCall tape i).memory i.args) ∧ sizedMet enc C.prog fn (OpenSpec.ofChange s) apart (w.forCall tape i).memory i.args) ∧ a.holds C.prog (lone (Frame.enter C.prog f i.args .normal) [] (w.forCall tape i)))
    (contract : ∀ (W : World) (base : Nat) (args : Array Value) (ds gs : List (DataW H)) (before : List MemPlace),
      (∀ (j : Nat) t v, fn.params[j]? = some t → args[j]? = some v → Value.okWide C.prog W .any base t v) →
      DataW.Whole enc C.prog fn.params.toList s.vars apart W args.toList ds gs before →
      conds.all (PathCond.test C.prog ⟨fn.params.toList, ds, s.plain.varTypes C.prog, gs⟩) = true →
      (DataW.weightsEach C.prog (fn.params.toList ++ s.plain.varTypes C.prog) (ds ++ gs)).all (· ≤ reachBytes) = true → X W args →
      W.ShapedOpen C.prog →
      Calls C.prog f args W fun e W' => ∃ v, e = .returned v ∧ s.post enc C.prog fn apart fresh handsOn again W args v W') :
    ReturnsInHanded a C os f .any (fun w args => (s.pre enc C.prog fn conds apart w args ∧ X w args) ∧ sizedMet enc C.prog fn (OpenSpec.ofChange s) apart w args) (s.post enc C.prog fn apart fresh handsOn again) := by
  refine returnsInHanded_of_calls own started noInit witness ?_
  intro w tape i _ hsh _ hok hpre hholds
  obtain ⟨_, _, _, fn', hfn', _, _, _, _, hval⟩ := hok
  obtain rfl : fn' = fn := Option.some.inj (hfn'.symm.trans hfn)
  obtain ⟨⟨⟨ds, gs, before, hw, hc⟩, hx⟩, hz⟩ := hpre
  have hw' := DataW.Whole.of_heap (w' := w.forCall tape i) (by rfl) hw
  refine (contract (w.forCall tape i) w.heap.size i.args ds gs before hval hw' hc (hz.weights hw) (hX _ _ _ (by rfl) hx) hsh).mono fun e W' ⟨v, he, hp⟩ => ?_
  subst he
  exact ChangeSpec.post_blind hp
end Go.Proofs.YtpalafegcndccaaDoorHs



namespace Go.Proofs.YtpalafegcndccaaDoor.fnExactParseHistory
open Go.ChangeShapes Go.WideShapes Go.ChangeAt Go.RowKit
open Go.ChangeMaps (open_string shut_string)
open Go.Joins
open Go.Proofs.YtpalafegcndccaaDoorW.PrintWords Go.Proofs.YtpalafegcndccaaDoorW.PrintLast Go.Proofs.YtpalafegcndccaaDoorW.PrintMore
open Go.Proofs.YtpalafegcndccaaDoorZ Go.Proofs.YtpalafegcndccaaDoor.X Go.Proofs.YtpalafegcndccaaDoor.X.OFnExactParseHistory
set_option linter.unusedVariables false
set_option linter.unusedSimpArgs false
theorem own : ownKnob Tryd.prog.godebug = none := by kernel_rfl
theorem laidOut : laidOutB Tryd.prog = true := by kernel_rfl
open Go Go.Proofs.YtpalafegcndccaaDoorG
def laidL : List (String × DataW Unit) := [("math/bits.deBruijn32tab", Rows.laid_math_bits_deBruijn32tab), ("math/bits.deBruijn64tab", Rows.laid_math_bits_deBruijn64tab), ("internal/strconv.uint64pow10", Rows.laid_internal_strconv_uint64pow10), ("unicode/utf8.acceptRanges", Rows.laid_unicode_utf8_acceptRanges), ("strconv.ErrRange", Rows.laid_strconv_ErrRange), ("strconv.ErrSyntax", Rows.laid_strconv_ErrSyntax), ("unicode/utf8.first", Rows.laid_unicode_utf8_first)]
theorem globOf {W : World} (h : laidMetH Tryd.prog laidL W) (hs : W.ShapedOpen Tryd.prog) : Glob W := by
  rw [MakeChecks.laidMetH_plain _ _ _ (by kernel_rfl)] at h
  exact Glob.of_tabs (ts := [105, 110, 118, 97, 108, 105, 100, 32, 115, 121, 110, 116, 97, 120]) (tr := [118, 97, 108, 117, 101, 32, 111, 117, 116, 32, 111, 102, 32, 114, 97, 110, 103, 101]) (h.filter fun x => x.1 == "internal/strconv.uint64pow10") (h.filter fun x => x.1 == "strconv.ErrSyntax") (h.filter fun x => x.1 == "strconv.ErrRange") (Go.Proofs.Tryd.laysM219.s1_3 W hs)
set_option maxRecDepth 100000 in
set_option maxHeartbeats 2000000 in
theorem lifted (os : Os) (started : os.Started) (H : Type) (enc : TypeId × Value → H) :
    ReturnsInHanded {} Tryd.checked os 4 .any (fun w args => (Rows.fnExactParseHistorySpec.pre enc Tryd.prog Tryd.f4 Rows.fnExactParseHistoryRow.domain false w args ∧ laidMetH Tryd.prog laidL w) ∧ sizedMet enc Tryd.prog Tryd.f4 (OpenSpec.ofChange Rows.fnExactParseHistorySpec) false w args) (Rows.fnExactParseHistorySpec.post enc Tryd.prog Tryd.f4 false true false false) := by
  refine Go.Proofs.YtpalafegcndccaaDoorHs.handed_shaped (C := Tryd.checked) (X := fun w _ => laidMetH Tryd.prog laidL w) (fun _ _ _ hh h => h.of_heap hh) own started (by kernel_rfl) Tryd.func4
    (ChangeSpec.witness_shaped (enc := enc) (C := Tryd.checked) (os := os) (X := fun w _ => laidMetH Tryd.prog laidL w) false (World.laidAll Tryd.prog os laidL) #[.string ByteArray.empty] 8 (World.laidAll_os _ _ _)
      (World.shaped_of_ZipB (by kernel_rfl) (by kernel_rfl)) (by kernel_rfl) (by kernel_rfl) (by kernel_rfl)
      (by rw [MakeChecks.laidMetH_plain _ _ _ (by kernel_rfl)]; exact laidMet_laidAll _ (by kernel_rfl) (by kernel_rfl))) ?_
  intro W base args ds gs before hval0 hW hcnd hsz0 hL hSh
  have hG := globOf hL hSh
  have hsz : (DataW.weightsEach Tryd.prog (Tryd.f4.params.toList ++ Rows.fnExactParseHistorySpec.plain.varTypes Tryd.prog) (ds ++ gs)).all (· ≤ reachBytes) = true := hsz0
  have hval : ∀ (j : Nat) t v, Tryd.f4.params[j]? = some t → args[j]? = some v → Value.okWide Tryd.prog W .any base t v := hval0
  have hW' := hW
  obtain ⟨p, q, hA0, hV, rfl, hfz, hnd⟩ := hW
  have hA : DataW.TrodAll enc Tryd.prog W 0 (fun _ => true) true Tryd.f4.params.toList args.toList ds p := hA0
  rw [Tryd.params4] at hA hval hsz
  obtain ⟨v0, vs0, d0, ds0, p0, q0, hargs, rfl, rfl, h0, r0⟩ := trodAll_cons hA
  obtain ⟨rfl, rfl, rfl⟩ := trodAll_nil r0
  obtain rfl : args = #[v0] := by cases args; simp_all
  obtain ⟨rfl, rfl⟩ := trodVars_none hV
  obtain ⟨a0, rfl, rfl, rfl, y0⟩ := open_string Tryd.underlying9 (hval 0 9 v0 rfl rfl) h0
  have w0 : a0.size ≤ 140737488351232 := by
    have z := sized_string hsz (j := 0) (t := 9) rfl rfl
    rw [Array.length_toList] at z
    exact z
  clear hA0 hval0 hsz0 hsz
  obtain ⟨k, h⟩ := Go.Proofs.YtpalafegcndccaaDoor.Pure.FnExactParseHistory a0 w0
  refine (laws_FnExactParseHistory.calls k a0 true W hG h rfl).mono fun e W' ⟨he, bel0⟩ => ?_
  have bel : Below W.heap.size W W' := bel0
  subst he
  exact ⟨_, rfl, _, _, _, [], _, [], hW', trodAll_mk1 (shut_bool Tryd.underlying4 _), (trodAll_cons_mk (shut_string Tryd.underlying9 y0) trodAll_mk0), rfl, bel.frame _, fun h => by cases h⟩
theorem over : Rows.fnExactParseHistoryRow.holds Tryd.pinned (OpenSpec.ofChange Rows.fnExactParseHistorySpec) :=
  OpenClaim.holds_of_wide 4 Tryd.f4 rfl rfl rfl rfl rfl rfl rfl ⟨rfl, rfl, rfl, rfl, rfl⟩ rfl rfl rfl rfl rfl (by kernel_rfl) Tryd.func4 (by kernel_rfl)
    (of_decide_eq_true (by kernel_rfl)) (by unfold Func.isWrapper; first | (rw [if_pos (by decide +kernel)]; kernel_rfl) | (rw [if_neg (by decide +kernel)]; exact ⟨rfl, rfl⟩))
    (fun os started H enc _ => lifted os started H enc)
theorem proved : Rows.FnExactParseHistorySaid := over
theorem carded : Rows.FnExactParseHistoryCardSaid :=
  Claim7.holds_tied_plain_at .later [] [.data, .data, .data, .data, .sentinel, .sentinel, .pinned] true (true, "d63b0e492804cc4184f76d7010eba84c8670ebb5bab97d3b8c5f434333da6478") true
    proved (fun _ h => by cases h) (by kernel_rfl) (fun _ h => by cases h) fnExactParseHistory_row_tie rfl ⟨rfl, rfl⟩ (by kernel_rfl) rfl
    (fun f fn hf hfn => by
      obtain rfl : f = 4 := Option.some.inj ((show Tryd.prog.funcNamed "loop.example/g00906/laws.FnExactParseHistory" = some 4 by kernel_rfl).symm.trans hf) |>.symm
      obtain rfl : fn = Tryd.f4 := (Option.some.inj (Tryd.func4.symm.trans hfn)).symm
      exact ⟨by kernel_rfl, fun j t ht => by
        rw [Tryd.params4] at ht
        have hm : t ∈ [9] := by simpa using Array.mem_of_getElem? ht
        have hall : ([9].all fun u => !Tryd.prog.wantsStandIn u) = true := by kernel_rfl
        exact (show Tryd.prog.wantsStandIn t = false by simpa using List.all_eq_true.1 hall t hm)⟩)
    (by kernel_rfl)
#print axioms carded
end Go.Proofs.YtpalafegcndccaaDoor.fnExactParseHistory
namespace Go.Proofs.YtpalafegcndccaaDoor
/-- The card, under a short name, for the claim. -/
theorem fnExactParseHistory_holds : Rows.FnExactParseHistoryCardSaid := fnExactParseHistory.carded
end Go.Proofs.YtpalafegcndccaaDoor

