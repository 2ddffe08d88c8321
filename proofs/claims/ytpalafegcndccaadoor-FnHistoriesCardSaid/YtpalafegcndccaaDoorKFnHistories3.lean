/- Texts that the proof of the law FnHistories leans on, part 4 of 6. -/
import Derived.Test.YtpalafegcndccaaDoorKFnHistories1
import Derived.Test.YtpalafegcndccaaDoorKFnHistories2
set_option linter.unusedVariables false
set_option linter.unusedSimpArgs false
namespace Go.Proofs.YtpalafegcndccaaDoor.X
open Go.RowKit Go.Proofs.YtpalafegcndccaaDoorW.PrintWords Go.Proofs.YtpalafegcndccaaDoorW.PrintLast Go.Proofs.YtpalafegcndccaaDoorW.PrintMore
attribute [local go_sem] Ej Eg Eu Ew D9 D8 Ei Eh
open Go.Proofs.YtpalafegcndccaaDoorG
def Fe.f (k : Nat) (l0 : List (S40)) (a1_0 : Int) (a1_1 : Int) : Option ((List (S40)) × Bool) := (Ie.f l0).bind fun t438 => ((some (([(⟨a1_0, a1_1⟩ : S40)] : List (S40)) : List (S40))).bind fun y441 => (if t438.length + y441.length < 8796093022208 then ((some (t438 ++ y441 : List (S40))).bind fun y444 => ((Cm.f k y444).bind fun t447 => (if t447 = true then (some (y444, true)) else (some (([] : List (S40)), false))))) else (none)))
theorem Fe.mono : ∀ a0 a1 a2 k, LeO (Fe.f k a0 a1 a2) (Fe.f (k + 1) a0 a1 a2) := by
  intro a0 a1 a2 k
  unfold Fe.f
  repeat' first
      | (with_reducible exact Cm.mono _ _)
      | (with_reducible exact LeO.refl _)
      | (with_reducible exact LeO.none _)
      | (with_reducible refine LeO.ite ?_ ?_)
      | (with_reducible refine LeO.bind ?_ (fun _ => ?_))
      | exact Cm.mono _ _
      | exact LeO.none _
      | refine LeO.ite ?_ ?_
      | refine LeO.bind ?_ (fun _ => ?_)
set_option maxHeartbeats 8000000 in
set_option maxRecDepth 100000 in
theorem Fe.calls (k : Nat) (A0 : Option Addr) (c0 : Nat) (l0 : List (S40)) (a1_0 : Int) (a1_1 : Int) (r1 : List (S40)) (r2 : Bool) (w : World) (hr0 : Kd.C k40 w A0 l0.length l0) (hc0 : l0.length ≤ c0) (h : Fe.f k l0 a1_0 a1_1 = some (r1, r2)) :
    Calls Tryd.prog 21 #[.slice A0 l0.length c0, .agg #[.int .i64 a1_0, .int .i64 a1_1]] w fun e w' => ∃ v0_ : Value, e = .returned (.tuple #[v0_, .bool r2]) ∧ Kd.R k40 40 w' w.heap.size (fun _ => True) v0_ r1 ∧ Below w.heap.size w w' := by
  have hu40 := Tryd.underlying40
  have HR0 := Aa.mk hr0
  have HC0 := Aa.mk hc0
  clear hr0 hc0
  have HB := Aa.mk (Below.refl w.heap.size w)
  have H : ((Ie.f l0).bind fun t438 => ((some (([(⟨a1_0, a1_1⟩ : S40)] : List (S40)) : List (S40))).bind fun y441 => (if t438.length + y441.length < 8796093022208 then ((some (t438 ++ y441 : List (S40))).bind fun y444 => ((Cm.f k y444).bind fun t447 => (if t447 = true then (some (y444, true)) else (some (([] : List (S40)), false))))) else (none)))) = some (r1, r2) := h
  clear h
  replace H := Option.bind_eq_some_iff.mp H
  obtain ⟨t438, A30, H⟩ := H
  replace H : ((some (([(⟨a1_0, a1_1⟩ : S40)] : List (S40)) : List (S40))).bind fun y441 => (if t438.length + y441.length < 8796093022208 then ((some (t438 ++ y441 : List (S40))).bind fun y444 => ((Cm.f k y444).bind fun t447 => (if t447 = true then (some (y444, true)) else (some (([] : List (S40)), false))))) else (none))) = some (r1, r2) := H
  have A3 := Aa.mk A30
  clear A30
  obtain ⟨y441, hy441⟩ : ∃ y_ : List (S40), y_ = (([(⟨a1_0, a1_1⟩ : S40)] : List (S40))) := ⟨_, rfl⟩
  replace H : (if t438.length + y441.length < 8796093022208 then ((some (t438 ++ y441 : List (S40))).bind fun y444 => ((Cm.f k y444).bind fun t447 => (if t447 = true then (some (y444, true)) else (some (([] : List (S40)), false))))) else (none)) = some (r1, r2) := by first | (rw [hy441]; with_reducible exact H) | (have H2_ := (Option.bind_some _ _).symm.trans H; rw [hy441]; with_reducible exact H2_) | (have H2_ := (Option.bind_some _ _).symm.trans H; with_reducible exact H2_) | with_reducible exact H | (rw [hy441]; exact H) | exact H
  have Ny441 := Aa.mk hy441
  clear hy441
  by_cases c4 : t438.length + y441.length < 8796093022208
  · rw [if_pos c4] at H
    have LMc4 := Aa.mk c4
    clear c4
    obtain ⟨y444, hy444⟩ : ∃ y_ : List (S40), y_ = (t438 ++ y441) := ⟨_, rfl⟩
    replace H : ((Cm.f k y444).bind fun t447 => (if t447 = true then (some (y444, true)) else (some (([] : List (S40)), false)))) = some (r1, r2) := by first | (rw [hy444]; with_reducible exact H) | (have H2_ := (Option.bind_some _ _).symm.trans H; rw [hy444]; with_reducible exact H2_) | (have H2_ := (Option.bind_some _ _).symm.trans H; with_reducible exact H2_) | with_reducible exact H | (rw [hy444]; exact H) | exact H
    have Ny444 := Aa.mk hy444
    clear hy444
    replace H := Option.bind_eq_some_iff.mp H
    obtain ⟨t447, A50, H⟩ := H
    replace H : (if t447 = true then (some (y444, true)) else (some (([] : List (S40)), false))) = some (r1, r2) := H
    have A5 := Aa.mk A50
    clear A50
    by_cases c6 : t447 = true
    · subst c6
      have H1 : (some (y444, true)) = some (r1, r2) := by rw [if_pos rfl] at H; exact H
      clear H
      have H := H1
      clear H1
      simp only [Option.some.injEq, Prod.mk.injEq] at H
      obtain ⟨rfl, rfl⟩ := H
      go_enter Tryd.func21, Tryd.ntmps21
      try go_wp2_with (first | ((with_reducible refine D7 (N := 3) rfl ?_); refine Es ?hg (N := 3) ?hd (cs := #[.int .i64 a1_0, .int .i64 a1_1]) (t := 40) ?hr ?_; (case hd => rfl); (case hg => rfl); (case hr => first | (go_simp; done) | (go_simp; rfl)); intro gb437 hg w7 hbox hb; have n0_ := Aa.mk (Ap (by repeat (first | (with_reducible first | exact HB.out | apply Ae | apply Ac | apply Ad) | exact HB.out)) hb); have n1_ := Aa.mk (hbox); have n2_ := Aa.mk ((by rw [hg]; exact (Aq (by repeat (first | (with_reducible first | exact HB.out | apply Ae | apply Ac | apply Ad) | exact HB.out))) : w.heap.size ≤ gb437)); have n3_ := Aa.mk ((by rw [hg]; exact (Aq (by repeat (first | (with_reducible first | exact HB.out | apply Ae | apply Ac | apply Ad) | exact HB.out))) : w.heap.size ≤ gb437)); clear HB; have HB := n0_; have BK437 := n1_; have GW437 := n2_; have GE437 := n3_; clear n0_ n1_ n2_ n3_; clear hb hbox hg))
      have n0_ := Aa.mk (Az BK437.out)
      have n1_ := Aa.mk (Ad HB.out)
      clear BK437
      clear HB
      have BK437 := n0_
      have HB := n1_
      clear n0_ n1_
      refine start_ (n := 6) (S := fun w' => w'.cell? ⟨gb437, 0, none⟩ = some (.int .i64 a1_0) ∧ w'.cell? ⟨gb437, 1, none⟩ = some (.int .i64 a1_1)) (ds := []) #[false, false, false, false, false, false] (by kernel_rfl) rfl rfl ⟨(Bd BK437.out 0).trans rfl, (Bd BK437.out 1).trans rfl⟩ (fun hHeld => ?_)
      generalize w7.drew = w8 at BK437 HB hHeld ⊢
      refine Fq (i := 0) (N := some 7) (v := ?_) (a' := ?_) #[true, false, false, false, false, false] rfl rfl (by kernel_rfl) (fun _ _ _ h => h) (Or.inl ⟨by rfl, ?_⟩) ?_ ?_
      rotate_left
      · intro w'
        go_simp
        with_reducible rfl
      rotate_left
      · simp only [Act.put, List.setIfInBounds_toArray, List.set_cons_zero, List.set_cons_succ, Dh, Dp]
        rfl
      refine take_ (i := 2) (N := some 9) (v := ?_) (a' := ?_) #[true, false, true, false, false, false] rfl rfl (by kernel_rfl) (fun _ _ _ h => h) (Or.inl ⟨by rfl, ?_⟩) hHeld ?_ ?_
      rotate_left
      · rintro w' ⟨s0, s1⟩
        go_simp
        with_reducible rfl
      rotate_left
      · simp only [Act.put, List.setIfInBounds_toArray, List.set_cons_zero, List.set_cons_succ, Dh, Dp]
        rfl
      refine join_ (σ := Value × Value) 2 #[true, true, true, true, false, false] (fun s_ => [(8, s_.1), (10, s_.2)]) (fun s_ w' => (w'.cell? ⟨gb437, 0, none⟩ = some (.int .i64 a1_0) ∧ w'.cell? ⟨gb437, 1, none⟩ = some (.int .i64 a1_1)) ∧ (Kd.R k40 40 w' w.heap.size (fun k_ => some k_ ≠ (s_.2 : Value).ownBlock ∧ k_ ≠ gb437) s_.1 t438) ∧ (Kd.R k40 40 w' w.heap.size (fun k_ => some k_ ≠ (s_.1 : Value).ownBlock ∧ k_ ≠ gb437) s_.2 y441) ∧ (w'.heap[gb437]? = some (.cells #[.int .i64 a1_0, .int .i64 a1_1] 40 (0, 0))) ∧ (Below w.heap.size w w')) ?_ ?_
      rotate_left
      · intro hCont
        refine two_ (i := 1) (j := 3) (Ni := some 8) (Nj := some 10) #[true, true, true, false, false, false] #[true, false, true, true, false, false] rfl rfl rfl rfl (by kernel_rfl) (by decide) (by decide) (fun K hK => ?_) (fun K hK => ?_)
        · skip
          refine goes_ Tryd.func45 (by kernel_rfl) rfl #[.slice A0 l0.length c0] (by rfl) rfl rfl (by (try simp only [List.map_toArray, List.map_cons, List.map_nil]); first | done | rfl | (simp only [List.length_drop, List.length_take]; rfl)) ?_
          with_reducible refine (Ie.calls _ _ l0 t438 _ ?side1 ?side2 A3.out).mono ?_
          (case side1 => repeat (first | exact (Kd.Gm HR0.out HB.out) | (with_reducible refine Kd.Ci ?_ _) | (with_reducible refine Kd.Cf ?_ _) | (with_reducible refine Kd.Di ?_)))
          (case side2 => exact HC0.out)
          rintro e w9 ⟨v439, rfl, ho0, hb⟩
          refine ⟨_, rfl, ?_⟩
          have n0_ := Aa.mk (Kd.Du (Kd.Gj ho0 (g := gb437) (o := .cells #[.int .i64 a1_0, .int .i64 a1_1] 40 (0, 0)) (by (with_reducible repeat (first | refine Au ?_ _ | refine Az ?_ | refine Ar ?_ _)); exact BK437.out)) (Aq (by repeat (first | (with_reducible first | exact HB.out | apply Ae | apply Ac | apply Ad | refine Ag ?_ GE437.out) | exact HB.out))))
          have n1_ := Aa.mk (Dv (g := gb437) (o := .cells #[.int .i64 a1_0, .int .i64 a1_1] 40 (0, 0)) (by (with_reducible repeat (first | refine Au ?_ _ | refine Az ?_ | refine Ar ?_ _)); exact BK437.out) hb)
          have n2_ := Aa.mk (Ap (by repeat (first | (with_reducible first | exact HB.out | apply Ae | apply Ac | apply Ad | refine Ag ?_ GE437.out) | exact HB.out)) hb)
          clear BK437
          clear HB
          have HO440 := n0_
          have BK437 := n1_
          have HB := n2_
          clear n0_ n1_ n2_
          (try clear hb)
          (try clear hb2)
          (try clear hk)
          (try clear hi)
          (try clear ho0)
          refine hK.out _ _ ⟨(Bd BK437.out 0).trans rfl, (Bd BK437.out 1).trans rfl⟩ (fun hHeld => ?_)
          clear hK K
          refine E5 (a' := ?_) ?_ ?_
          rotate_left
          · show Act.put _ (some 8) _ = _
            simp only [Act.put, List.setIfInBounds_toArray, List.set_cons_zero, List.set_cons_succ, Dh, Dp]
            rfl
          refine one_ (i := 3) (N := some 10) #[true, true, true, true, false, false] rfl rfl (by kernel_rfl) (by decide) (fun K hK => ?_)
          refine Kd.Gn k40 _ 40 ?hg (N := 10) ?hd (xs := ([(⟨a1_0, a1_1⟩ : S40)] : List (S40))) (inner := [.int .i64 a1_0, .int .i64 a1_1]) (ok := fun _ => True) (okp := fun _ => True) ?hr ?hp (fun _ hk => hk) trivial (Below.refl _ _) (Nat.le_refl _) (by simp) ?_; (case hd => rfl); (case hg => rfl); (case hr => first | (go_simp; done) | (go_simp; rfl)); (case hp => exact (Dw.c2 (show Kd.M k40 _ _ _ (⟨a1_0, a1_1⟩ : S40) [.int .i64 a1_0, .int .i64 a1_1] from (G8 _ _ _ (⟨a1_0, a1_1⟩ : S40) )) (Dw.none _ _)))
          intro v442 w10 ho11 hb hg_ hnew_
          clear hg_ hnew_
          (first | rw [← Ny441.out] at ho11 | (simp only [Int.reduceToNat] at ho11; rw [← Ny441.out] at ho11))
          have n0_ := Aa.mk (Kd.Ff (by (with_reducible repeat (first | apply Kd.Ah | apply Kd.Ai | apply Kd.Ak)); exact HO440.out) (Kd.Gg ho11) hb)
          have n1_ := Aa.mk (Kd.Du (Kd.Gj (Kd.Gh ho11 (Kd.Gs (by (with_reducible repeat (first | apply Kd.Ah | apply Kd.Ai | apply Kd.Ak)); exact HO440.out))) (g := gb437) (o := .cells #[.int .i64 a1_0, .int .i64 a1_1] 40 (0, 0)) (by (with_reducible repeat (first | refine Au ?_ _ | refine Az ?_ | refine Ar ?_ _)); exact BK437.out)) (Aq (by repeat (first | (with_reducible first | exact HB.out | apply Ae | apply Ac | apply Ad | refine Ag ?_ GE437.out) | exact HB.out))))
          have n2_ := Aa.mk (Dv (g := gb437) (o := .cells #[.int .i64 a1_0, .int .i64 a1_1] 40 (0, 0)) (by (with_reducible repeat (first | refine Au ?_ _ | refine Az ?_ | refine Ar ?_ _)); exact BK437.out) hb)
          have n3_ := Aa.mk (Ap (by repeat (first | (with_reducible first | exact HB.out | apply Ae | apply Ac | apply Ad | refine Ag ?_ GE437.out) | exact HB.out)) hb)
          clear HO440
          clear BK437
          clear HB
          have HO440 := n0_
          have HO443 := n1_
          have BK437 := n2_
          have HB := n3_
          clear n0_ n1_ n2_ n3_
          clear hb ho11
          refine hK.out _ _ ⟨(Bd BK437.out 0).trans rfl, (Bd BK437.out 1).trans rfl⟩ (fun hHeld => ?_)
          clear hK K
          refine E5 (a' := ?_) ?_ ?_
          rotate_left
          · show Act.put _ (some 10) _ = _
            simp only [Act.put, List.setIfInBounds_toArray, List.set_cons_zero, List.set_cons_succ, Dh, Dp]
            rfl
          exact E5 (by simp only [Ht, Act.put, List.setIfInBounds_toArray, List.set_cons_zero, List.set_cons_succ]) (hCont (v439, v442) _ ⟨hHeld, (by (with_reducible repeat (first | apply Kd.Ah | apply Kd.Ai | apply Kd.Ak)); exact Kd.R_mono HO440.out (fun _ hk => ⟨hk.2, hk.1.2⟩)), (by (with_reducible repeat (first | apply Kd.Ah | apply Kd.Ai | apply Kd.Ak)); exact Kd.R_mono HO443.out (fun _ hk => ⟨hk.1.2, hk.2⟩)), (by (with_reducible repeat (first | refine Au ?_ _ | refine Az ?_ | refine Ar ?_ _)); exact BK437.out), (by repeat (first | (with_reducible first | exact HB.out | apply Ae | apply Ac | apply Ad | refine Ag ?_ GE437.out) | exact HB.out))⟩)
        · skip
          refine Kd.Gn k40 _ 40 ?hg (N := 10) ?hd (xs := ([(⟨a1_0, a1_1⟩ : S40)] : List (S40))) (inner := [.int .i64 a1_0, .int .i64 a1_1]) (ok := fun _ => True) (okp := fun _ => True) ?hr ?hp (fun _ hk => hk) trivial (Below.refl _ _) (Nat.le_refl _) (by simp) ?_; (case hd => rfl); (case hg => rfl); (case hr => first | (go_simp; done) | (go_simp; rfl)); (case hp => exact (Dw.c2 (show Kd.M k40 _ _ _ (⟨a1_0, a1_1⟩ : S40) [.int .i64 a1_0, .int .i64 a1_1] from (G8 _ _ _ (⟨a1_0, a1_1⟩ : S40) )) (Dw.none _ _)))
          intro v442 w9 ho10 hb hg_ hnew_
          clear hg_ hnew_
          (first | rw [← Ny441.out] at ho10 | (simp only [Int.reduceToNat] at ho10; rw [← Ny441.out] at ho10))
          have n0_ := Aa.mk (Kd.Du (Kd.Gj ho10 (g := gb437) (o := .cells #[.int .i64 a1_0, .int .i64 a1_1] 40 (0, 0)) (by (with_reducible repeat (first | refine Au ?_ _ | refine Az ?_ | refine Ar ?_ _)); exact BK437.out)) (Aq (by repeat (first | (with_reducible first | exact HB.out | apply Ae | apply Ac | apply Ad | refine Ag ?_ GE437.out) | exact HB.out))))
          have n1_ := Aa.mk (Dv (g := gb437) (o := .cells #[.int .i64 a1_0, .int .i64 a1_1] 40 (0, 0)) (by (with_reducible repeat (first | refine Au ?_ _ | refine Az ?_ | refine Ar ?_ _)); exact BK437.out) hb)
          have n2_ := Aa.mk (Ap (by repeat (first | (with_reducible first | exact HB.out | apply Ae | apply Ac | apply Ad | refine Ag ?_ GE437.out) | exact HB.out)) hb)
          clear BK437
          clear HB
          have HO443 := n0_
          have BK437 := n1_
          have HB := n2_
          clear n0_ n1_ n2_
          clear hb ho10
          refine hK.out _ _ ⟨(Bd BK437.out 0).trans rfl, (Bd BK437.out 1).trans rfl⟩ (fun hHeld => ?_)
          clear hK K
          refine E5 (a' := ?_) ?_ ?_
          rotate_left
          · show Act.put _ (some 10) _ = _
            simp only [Act.put, List.setIfInBounds_toArray, List.set_cons_zero, List.set_cons_succ, Dh, Dp]
            rfl
          refine one_ (i := 1) (N := some 8) #[true, true, true, true, false, false] rfl rfl (by kernel_rfl) (by decide) (fun K hK => ?_)
          refine goes_ Tryd.func45 (by kernel_rfl) rfl #[.slice A0 l0.length c0] (by rfl) rfl rfl (by (try simp only [List.map_toArray, List.map_cons, List.map_nil]); first | done | rfl | (simp only [List.length_drop, List.length_take]; rfl)) ?_
          with_reducible refine (Ie.calls _ _ l0 t438 _ ?side1 ?side2 A3.out).mono ?_
          (case side1 => repeat (first | exact (Kd.Gm HR0.out HB.out) | (with_reducible refine Kd.Ci ?_ _) | (with_reducible refine Kd.Cf ?_ _) | (with_reducible refine Kd.Di ?_)))
          (case side2 => exact HC0.out)
          rintro e w11 ⟨v439, rfl, ho0, hb⟩
          refine ⟨_, rfl, ?_⟩
          have n0_ := Aa.mk (Kd.Ff (by (with_reducible repeat (first | apply Kd.Ah | apply Kd.Ai | apply Kd.Ak)); exact HO443.out) (Kd.Gg ho0) hb)
          have n1_ := Aa.mk (Kd.Du (Kd.Gj (Kd.Gh ho0 (Kd.Gs (by (with_reducible repeat (first | apply Kd.Ah | apply Kd.Ai | apply Kd.Ak)); exact HO443.out))) (g := gb437) (o := .cells #[.int .i64 a1_0, .int .i64 a1_1] 40 (0, 0)) (by (with_reducible repeat (first | refine Au ?_ _ | refine Az ?_ | refine Ar ?_ _)); exact BK437.out)) (Aq (by repeat (first | (with_reducible first | exact HB.out | apply Ae | apply Ac | apply Ad | refine Ag ?_ GE437.out) | exact HB.out))))
          have n2_ := Aa.mk (Dv (g := gb437) (o := .cells #[.int .i64 a1_0, .int .i64 a1_1] 40 (0, 0)) (by (with_reducible repeat (first | refine Au ?_ _ | refine Az ?_ | refine Ar ?_ _)); exact BK437.out) hb)
          have n3_ := Aa.mk (Ap (by repeat (first | (with_reducible first | exact HB.out | apply Ae | apply Ac | apply Ad | refine Ag ?_ GE437.out) | exact HB.out)) hb)
          clear HO443
          clear BK437
          clear HB
          have HO443 := n0_
          have HO440 := n1_
          have BK437 := n2_
          have HB := n3_
          clear n0_ n1_ n2_ n3_
          (try clear hb)
          (try clear hb2)
          (try clear hk)
          (try clear hi)
          (try clear ho0)
          refine hK.out _ _ ⟨(Bd BK437.out 0).trans rfl, (Bd BK437.out 1).trans rfl⟩ (fun hHeld => ?_)
          clear hK K
          refine E5 (a' := ?_) ?_ ?_
          rotate_left
          · show Act.put _ (some 8) _ = _
            simp only [Act.put, List.setIfInBounds_toArray, List.set_cons_zero, List.set_cons_succ, Dh, Dp]
            rfl
          exact E5 (by simp only [Ht, Act.put, List.setIfInBounds_toArray, List.set_cons_zero, List.set_cons_succ]) (hCont (v439, v442) _ ⟨hHeld, (by (with_reducible repeat (first | apply Kd.Ah | apply Kd.Ai | apply Kd.Ak)); exact Kd.R_mono HO440.out (fun _ hk => ⟨hk.1.2, hk.2⟩)), (by (with_reducible repeat (first | apply Kd.Ah | apply Kd.Ai | apply Kd.Ak)); exact Kd.R_mono HO443.out (fun _ hk => ⟨hk.2, hk.1.2⟩)), (by (with_reducible repeat (first | refine Au ?_ _ | refine Az ?_ | refine Ar ?_ _)); exact BK437.out), (by repeat (first | (with_reducible first | exact HB.out | apply Ae | apply Ac | apply Ad | refine Ag ?_ GE437.out) | exact HB.out))⟩)
      rintro ⟨v439, v442⟩ w12 ⟨hS_, h0_, h1_, h2_, h3_⟩
      have n0_ : Aa (Kd.R k40 40 w12 w.heap.size (fun k_ => some k_ ≠ (v442 : Value).ownBlock ∧ k_ ≠ gb437) v439 t438) := ⟨h0_⟩
      have n1_ : Aa (Kd.R k40 40 w12 w.heap.size (fun k_ => some k_ ≠ (v439 : Value).ownBlock ∧ k_ ≠ gb437) v442 y441) := ⟨h1_⟩
      have n2_ : Aa (w12.heap[gb437]? = some (.cells #[.int .i64 a1_0, .int .i64 a1_1] 40 (0, 0))) := ⟨h2_⟩
      have n3_ : Aa (Below w.heap.size w w12) := ⟨h3_⟩
      clear BK437
      clear HB
      clear h0_ h1_ h2_ h3_
      have HO440 := n0_
      have HO443 := n1_
      have BK437 := n2_
      have HB := n3_
      clear n0_ n1_ n2_ n3_
      have hHeld : w12.cell? ⟨gb437, 0, none⟩ = some (.int .i64 a1_0) ∧ w12.cell? ⟨gb437, 1, none⟩ = some (.int .i64 a1_1) := hS_
      obtain ⟨Ao14, co14, eo14⟩ := Kd.Ef HO443.out
      (first | subst eo14 | (injection eo14 with f1_ f2_ f3_; have f4_ := f1_.symm; have f5_ := f3_.symm; clear f1_ f2_ f3_; subst f4_; subst f5_))
      refine E5 (a' := ?_) ?_ ?_
      rotate_left
      · simp only [Ht, Act.put, List.setIfInBounds_toArray, List.set_cons_zero, List.set_cons_succ]
        rfl
      refine one_ (i := 4) (N := some 11) #[true, true, true, true, true, false] rfl rfl (by kernel_rfl) (by decide) (fun K hK => ?_)
      refine Kd.Fz k40 (w0 := w) w.heap.size (by rfl) (.tmp 8) (.tmp 10) 26 40 (.agg #[(.int .i64 0), (.int .i64 0)]) 16 rfl Tryd.underlying26 Hr rfl (by decide) (by omega) v439 t438 y441 _ _ _ (fun k_ => some k_ ≠ (.slice Ao14 y441.length co14 : Value).ownBlock ∧ k_ ≠ gb437) (fun _ => False) rfl rfl ?aO ?aR (fun _ _ h => h) (fun _ h => h.elim) ?aF ?aB ?aS ?aL ?_
      (case aR => repeat (first | exact (Kd.Ba HO443.out).2.2 | (with_reducible refine Kd.Ci ?_ _) | (with_reducible refine Kd.Cf ?_ _) | (with_reducible refine Kd.Di ?_)))
      (case aB => exact (by repeat (first | (with_reducible first | exact HB.out | apply Ae | apply Ac | apply Ad | refine Ag ?_ GE437.out) | exact HB.out)))
      (case aF => exact (fun k_ hk => ⟨Kd.fresh' (Kd.Gs (by (with_reducible repeat (first | apply Kd.Ah | apply Kd.Ai | apply Kd.Ak)); exact HO443.out)) k_ hk, Kd.Ih (g := gb437) (o := .cells #[.int .i64 a1_0, .int .i64 a1_1] 40 (0, 0)) (by (with_reducible repeat (first | refine Au ?_ _ | refine Az ?_ | refine Ar ?_ _)); exact BK437.out) k_ hk⟩))
      (case aO => exact (by (with_reducible repeat (first | apply Kd.Ah | apply Kd.Ai | apply Kd.Ak)); exact HO440.out))
      (case aS => exact (Aq (by repeat (first | (with_reducible first | exact HB.out | apply Ae | apply Ac | apply Ad | refine Ag ?_ GE437.out) | exact HB.out))))
      (case aL => have := LMc4.out; omega)
      intro v445 w13 ho hb hg hat
      rw [← Ny444.out] at ho
      have n0_ := Aa.mk (Gy (g := gb437) (o := .cells #[.int .i64 a1_0, .int .i64 a1_1] 40 (0, 0)) (by (with_reducible repeat (first | refine Au ?_ _ | refine Az ?_ | refine Ar ?_ _)); exact BK437.out) hg (Kd.Ij HO440.out (fun _ hk => hk.2)))
      have n1_ := Aa.mk (Kd.Ir (ok := (fun k_ => k_ ≠ gb437)) (by (with_reducible repeat (first | apply Kd.Ah | apply Kd.Ai | apply Kd.Ak)); exact Kd.R_mono HO443.out (fun _ hk => ⟨hk.2, hk.1⟩)) hg hat)
      have n2_ := Aa.mk (hb)
      have n3_ := Aa.mk (ho)
      clear BK437
      clear HO443
      clear HB
      clear HO440
      have BK437 := n0_
      have HO443 := n1_
      have HB := n2_
      have HO446 := n3_
      clear n0_ n1_ n2_ n3_
      clear ho hb hg hat
      refine hK.out _ _ ⟨(Bd BK437.out 0).trans rfl, (Bd BK437.out 1).trans rfl⟩ (fun hHeld => ?_)
      clear hK K
      refine E5 (a' := ?_) ?_ ?_
      rotate_left
      · show Act.put _ (some 11) _ = _
        simp only [Act.put, List.setIfInBounds_toArray, List.set_cons_zero, List.set_cons_succ, Dh, Dp]
        rfl
      refine Fq (i := 5) (N := some 6) (v := ?_) (a' := ?_) #[true, true, true, true, true, true] rfl rfl (by kernel_rfl) (fun _ _ _ h => h) (Or.inl ⟨by rfl, ?_⟩) ?_ ?_
      rotate_left
      · intro w'
        go_simp
        with_reducible rfl
      rotate_left
      · simp only [Act.put, List.setIfInBounds_toArray, List.set_cons_zero, List.set_cons_succ, Dh, Dp]
        rfl
      refine done_ (by kernel_rfl) ?_
      obtain ⟨Ao15, co15, eo15⟩ := Kd.Ef HO446.out
      subst eo15
      try go_wp2_with (first | ((with_reducible refine Bv (f := 17) rfl ?_); refine D5 (some 13) rfl rfl Tryd.func17 (by kernel_rfl) rfl #[.slice Ao15 y444.length co15] rfl (by (try simp only [List.map_toArray, List.map_cons, List.map_nil]); first | done | rfl | (simp only [List.length_drop, List.length_take]; rfl)) ?_; (with_reducible refine (Cm.calls k _ _ y444 true _ ?side1 ?side2 A5.out).mono ?_); (case side1 => repeat (first | exact (Kd.Ba HO446.out).2.2 | (with_reducible refine Kd.Ci ?_ _) | (with_reducible refine Kd.Cf ?_ _) | (with_reducible refine Kd.Di ?_))); (case side2 => exact (Kd.Ba HO446.out).2.1); rintro e w16 ⟨rfl, hb⟩; refine ⟨_, rfl, ?_⟩; have n0_ := Aa.mk (Kd.Dk (by (with_reducible repeat (first | apply Kd.Ah | apply Kd.Ai | apply Kd.Ak)); exact HO443.out) hb); have n1_ := Aa.mk (Kd.Dk (by (with_reducible repeat (first | apply Kd.Ah | apply Kd.Ai | apply Kd.Ak)); exact HO446.out) hb); have n2_ := Aa.mk (Dv (g := gb437) (o := .cells #[.int .i64 a1_0, .int .i64 a1_1] 40 (0, 0)) (by (with_reducible repeat (first | refine Au ?_ _ | refine Az ?_ | refine Ar ?_ _)); exact BK437.out) hb); have n3_ := Aa.mk (Ap (by repeat (first | (with_reducible first | exact HB.out | apply Ae | apply Ac | apply Ad | refine Ag ?_ GE437.out) | exact HB.out)) hb); clear HO443; clear HO446; clear BK437; clear HB; have HO443 := n0_; have HO446 := n1_; have BK437 := n2_; have HB := n3_; clear n0_ n1_ n2_ n3_; (try clear hb); (try clear hb2); (try clear hk); (try clear hi)))
      go_ret2
      exact ⟨_, by first | rfl | (simp [Be, Bf] <;> rfl) | (simp [*, Be, Bf] <;> rfl), by (with_reducible repeat (first | apply Kd.Ah | apply Kd.Ai | apply Kd.Ak)); exact Kd.R_mono HO446.out (fun _ hk => trivial), by repeat (first | (with_reducible first | exact HB.out | apply Ae | apply Ac | apply Ad | refine Ag ?_ GE437.out) | exact HB.out)⟩
    · replace c6 := Bool.eq_false_iff.mpr c6
      subst c6
      have H1 : (some (([] : List (S40)), false)) = some (r1, r2) := by rw [if_neg (show ¬ (false = true) by decide)] at H; exact H
      clear H
      have H := H1
      clear H1
      simp only [Option.some.injEq, Prod.mk.injEq] at H
      obtain ⟨rfl, rfl⟩ := H
      go_enter Tryd.func21, Tryd.ntmps21
      try go_wp2_with (first | ((with_reducible refine D7 (N := 3) rfl ?_); refine Es ?hg (N := 3) ?hd (cs := #[.int .i64 a1_0, .int .i64 a1_1]) (t := 40) ?hr ?_; (case hd => rfl); (case hg => rfl); (case hr => first | (go_simp; done) | (go_simp; rfl)); intro gb437 hg w17 hbox hb; have n0_ := Aa.mk (Ap (by repeat (first | (with_reducible first | exact HB.out | apply Ae | apply Ac | apply Ad) | exact HB.out)) hb); have n1_ := Aa.mk (hbox); have n2_ := Aa.mk ((by rw [hg]; exact (Aq (by repeat (first | (with_reducible first | exact HB.out | apply Ae | apply Ac | apply Ad) | exact HB.out))) : w.heap.size ≤ gb437)); have n3_ := Aa.mk ((by rw [hg]; exact (Aq (by repeat (first | (with_reducible first | exact HB.out | apply Ae | apply Ac | apply Ad) | exact HB.out))) : w.heap.size ≤ gb437)); clear HB; have HB := n0_; have BK437 := n1_; have GW437 := n2_; have GE437 := n3_; clear n0_ n1_ n2_ n3_; clear hb hbox hg))
      have n0_ := Aa.mk (Az BK437.out)
      have n1_ := Aa.mk (Ad HB.out)
      clear BK437
      clear HB
      have BK437 := n0_
      have HB := n1_
      clear n0_ n1_
      refine start_ (n := 6) (S := fun w' => w'.cell? ⟨gb437, 0, none⟩ = some (.int .i64 a1_0) ∧ w'.cell? ⟨gb437, 1, none⟩ = some (.int .i64 a1_1)) (ds := []) #[false, false, false, false, false, false] (by kernel_rfl) rfl rfl ⟨(Bd BK437.out 0).trans rfl, (Bd BK437.out 1).trans rfl⟩ (fun hHeld => ?_)
      generalize w17.drew = w18 at BK437 HB hHeld ⊢
      refine Fq (i := 0) (N := some 7) (v := ?_) (a' := ?_) #[true, false, false, false, false, false] rfl rfl (by kernel_rfl) (fun _ _ _ h => h) (Or.inl ⟨by rfl, ?_⟩) ?_ ?_
      rotate_left
      · intro w'
        go_simp
        with_reducible rfl
      rotate_left
      · simp only [Act.put, List.setIfInBounds_toArray, List.set_cons_zero, List.set_cons_succ, Dh, Dp]
        rfl
      refine take_ (i := 2) (N := some 9) (v := ?_) (a' := ?_) #[true, false, true, false, false, false] rfl rfl (by kernel_rfl) (fun _ _ _ h => h) (Or.inl ⟨by rfl, ?_⟩) hHeld ?_ ?_
      rotate_left
      · rintro w' ⟨s0, s1⟩
        go_simp
        with_reducible rfl
      rotate_left
      · simp only [Act.put, List.setIfInBounds_toArray, List.set_cons_zero, List.set_cons_succ, Dh, Dp]
        rfl
      refine join_ (σ := Value × Value) 2 #[true, true, true, true, false, false] (fun s_ => [(8, s_.1), (10, s_.2)]) (fun s_ w' => (w'.cell? ⟨gb437, 0, none⟩ = some (.int .i64 a1_0) ∧ w'.cell? ⟨gb437, 1, none⟩ = some (.int .i64 a1_1)) ∧ (Kd.R k40 40 w' w.heap.size (fun k_ => some k_ ≠ (s_.2 : Value).ownBlock ∧ k_ ≠ gb437) s_.1 t438) ∧ (Kd.R k40 40 w' w.heap.size (fun k_ => some k_ ≠ (s_.1 : Value).ownBlock ∧ k_ ≠ gb437) s_.2 y441) ∧ (w'.heap[gb437]? = some (.cells #[.int .i64 a1_0, .int .i64 a1_1] 40 (0, 0))) ∧ (Below w.heap.size w w')) ?_ ?_
      rotate_left
      · intro hCont
        refine two_ (i := 1) (j := 3) (Ni := some 8) (Nj := some 10) #[true, true, true, false, false, false] #[true, false, true, true, false, false] rfl rfl rfl rfl (by kernel_rfl) (by decide) (by decide) (fun K hK => ?_) (fun K hK => ?_)
        · skip
          refine goes_ Tryd.func45 (by kernel_rfl) rfl #[.slice A0 l0.length c0] (by rfl) rfl rfl (by (try simp only [List.map_toArray, List.map_cons, List.map_nil]); first | done | rfl | (simp only [List.length_drop, List.length_take]; rfl)) ?_
          with_reducible refine (Ie.calls _ _ l0 t438 _ ?side1 ?side2 A3.out).mono ?_
          (case side1 => repeat (first | exact (Kd.Gm HR0.out HB.out) | (with_reducible refine Kd.Ci ?_ _) | (with_reducible refine Kd.Cf ?_ _) | (with_reducible refine Kd.Di ?_)))
          (case side2 => exact HC0.out)
          rintro e w19 ⟨v439, rfl, ho0, hb⟩
          refine ⟨_, rfl, ?_⟩
          have n0_ := Aa.mk (Kd.Du (Kd.Gj ho0 (g := gb437) (o := .cells #[.int .i64 a1_0, .int .i64 a1_1] 40 (0, 0)) (by (with_reducible repeat (first | refine Au ?_ _ | refine Az ?_ | refine Ar ?_ _)); exact BK437.out)) (Aq (by repeat (first | (with_reducible first | exact HB.out | apply Ae | apply Ac | apply Ad | refine Ag ?_ GE437.out) | exact HB.out))))
          have n1_ := Aa.mk (Dv (g := gb437) (o := .cells #[.int .i64 a1_0, .int .i64 a1_1] 40 (0, 0)) (by (with_reducible repeat (first | refine Au ?_ _ | refine Az ?_ | refine Ar ?_ _)); exact BK437.out) hb)
          have n2_ := Aa.mk (Ap (by repeat (first | (with_reducible first | exact HB.out | apply Ae | apply Ac | apply Ad | refine Ag ?_ GE437.out) | exact HB.out)) hb)
          clear BK437
          clear HB
          have HO440 := n0_
          have BK437 := n1_
          have HB := n2_
          clear n0_ n1_ n2_
          (try clear hb)
          (try clear hb2)
          (try clear hk)
          (try clear hi)
          (try clear ho0)
          refine hK.out _ _ ⟨(Bd BK437.out 0).trans rfl, (Bd BK437.out 1).trans rfl⟩ (fun hHeld => ?_)
          clear hK K
          refine E5 (a' := ?_) ?_ ?_
          rotate_left
          · show Act.put _ (some 8) _ = _
            simp only [Act.put, List.setIfInBounds_toArray, List.set_cons_zero, List.set_cons_succ, Dh, Dp]
            rfl
          refine one_ (i := 3) (N := some 10) #[true, true, true, true, false, false] rfl rfl (by kernel_rfl) (by decide) (fun K hK => ?_)
          refine Kd.Gn k40 _ 40 ?hg (N := 10) ?hd (xs := ([(⟨a1_0, a1_1⟩ : S40)] : List (S40))) (inner := [.int .i64 a1_0, .int .i64 a1_1]) (ok := fun _ => True) (okp := fun _ => True) ?hr ?hp (fun _ hk => hk) trivial (Below.refl _ _) (Nat.le_refl _) (by simp) ?_; (case hd => rfl); (case hg => rfl); (case hr => first | (go_simp; done) | (go_simp; rfl)); (case hp => exact (Dw.c2 (show Kd.M k40 _ _ _ (⟨a1_0, a1_1⟩ : S40) [.int .i64 a1_0, .int .i64 a1_1] from (G8 _ _ _ (⟨a1_0, a1_1⟩ : S40) )) (Dw.none _ _)))
          intro v442 w20 ho21 hb hg_ hnew_
          clear hg_ hnew_
          (first | rw [← Ny441.out] at ho21 | (simp only [Int.reduceToNat] at ho21; rw [← Ny441.out] at ho21))
          have n0_ := Aa.mk (Kd.Ff (by (with_reducible repeat (first | apply Kd.Ah | apply Kd.Ai | apply Kd.Ak)); exact HO440.out) (Kd.Gg ho21) hb)
          have n1_ := Aa.mk (Kd.Du (Kd.Gj (Kd.Gh ho21 (Kd.Gs (by (with_reducible repeat (first | apply Kd.Ah | apply Kd.Ai | apply Kd.Ak)); exact HO440.out))) (g := gb437) (o := .cells #[.int .i64 a1_0, .int .i64 a1_1] 40 (0, 0)) (by (with_reducible repeat (first | refine Au ?_ _ | refine Az ?_ | refine Ar ?_ _)); exact BK437.out)) (Aq (by repeat (first | (with_reducible first | exact HB.out | apply Ae | apply Ac | apply Ad | refine Ag ?_ GE437.out) | exact HB.out))))
          have n2_ := Aa.mk (Dv (g := gb437) (o := .cells #[.int .i64 a1_0, .int .i64 a1_1] 40 (0, 0)) (by (with_reducible repeat (first | refine Au ?_ _ | refine Az ?_ | refine Ar ?_ _)); exact BK437.out) hb)
          have n3_ := Aa.mk (Ap (by repeat (first | (with_reducible first | exact HB.out | apply Ae | apply Ac | apply Ad | refine Ag ?_ GE437.out) | exact HB.out)) hb)
          clear HO440
          clear BK437
          clear HB
          have HO440 := n0_
          have HO443 := n1_
          have BK437 := n2_
          have HB := n3_
          clear n0_ n1_ n2_ n3_
          clear hb ho21
          refine hK.out _ _ ⟨(Bd BK437.out 0).trans rfl, (Bd BK437.out 1).trans rfl⟩ (fun hHeld => ?_)
          clear hK K
          refine E5 (a' := ?_) ?_ ?_
          rotate_left
          · show Act.put _ (some 10) _ = _
            simp only [Act.put, List.setIfInBounds_toArray, List.set_cons_zero, List.set_cons_succ, Dh, Dp]
            rfl
          exact E5 (by simp only [Ht, Act.put, List.setIfInBounds_toArray, List.set_cons_zero, List.set_cons_succ]) (hCont (v439, v442) _ ⟨hHeld, (by (with_reducible repeat (first | apply Kd.Ah | apply Kd.Ai | apply Kd.Ak)); exact Kd.R_mono HO440.out (fun _ hk => ⟨hk.2, hk.1.2⟩)), (by (with_reducible repeat (first | apply Kd.Ah | apply Kd.Ai | apply Kd.Ak)); exact Kd.R_mono HO443.out (fun _ hk => ⟨hk.1.2, hk.2⟩)), (by (with_reducible repeat (first | refine Au ?_ _ | refine Az ?_ | refine Ar ?_ _)); exact BK437.out), (by repeat (first | (with_reducible first | exact HB.out | apply Ae | apply Ac | apply Ad | refine Ag ?_ GE437.out) | exact HB.out))⟩)
        · skip
          refine Kd.Gn k40 _ 40 ?hg (N := 10) ?hd (xs := ([(⟨a1_0, a1_1⟩ : S40)] : List (S40))) (inner := [.int .i64 a1_0, .int .i64 a1_1]) (ok := fun _ => True) (okp := fun _ => True) ?hr ?hp (fun _ hk => hk) trivial (Below.refl _ _) (Nat.le_refl _) (by simp) ?_; (case hd => rfl); (case hg => rfl); (case hr => first | (go_simp; done) | (go_simp; rfl)); (case hp => exact (Dw.c2 (show Kd.M k40 _ _ _ (⟨a1_0, a1_1⟩ : S40) [.int .i64 a1_0, .int .i64 a1_1] from (G8 _ _ _ (⟨a1_0, a1_1⟩ : S40) )) (Dw.none _ _)))
          intro v442 w19 ho20 hb hg_ hnew_
          clear hg_ hnew_
          (first | rw [← Ny441.out] at ho20 | (simp only [Int.reduceToNat] at ho20; rw [← Ny441.out] at ho20))
          have n0_ := Aa.mk (Kd.Du (Kd.Gj ho20 (g := gb437) (o := .cells #[.int .i64 a1_0, .int .i64 a1_1] 40 (0, 0)) (by (with_reducible repeat (first | refine Au ?_ _ | refine Az ?_ | refine Ar ?_ _)); exact BK437.out)) (Aq (by repeat (first | (with_reducible first | exact HB.out | apply Ae | apply Ac | apply Ad | refine Ag ?_ GE437.out) | exact HB.out))))
          have n1_ := Aa.mk (Dv (g := gb437) (o := .cells #[.int .i64 a1_0, .int .i64 a1_1] 40 (0, 0)) (by (with_reducible repeat (first | refine Au ?_ _ | refine Az ?_ | refine Ar ?_ _)); exact BK437.out) hb)
          have n2_ := Aa.mk (Ap (by repeat (first | (with_reducible first | exact HB.out | apply Ae | apply Ac | apply Ad | refine Ag ?_ GE437.out) | exact HB.out)) hb)
          clear BK437
          clear HB
          have HO443 := n0_
          have BK437 := n1_
          have HB := n2_
          clear n0_ n1_ n2_
          clear hb ho20
          refine hK.out _ _ ⟨(Bd BK437.out 0).trans rfl, (Bd BK437.out 1).trans rfl⟩ (fun hHeld => ?_)
          clear hK K
          refine E5 (a' := ?_) ?_ ?_
          rotate_left
          · show Act.put _ (some 10) _ = _
            simp only [Act.put, List.setIfInBounds_toArray, List.set_cons_zero, List.set_cons_succ, Dh, Dp]
            rfl
          refine one_ (i := 1) (N := some 8) #[true, true, true, true, false, false] rfl rfl (by kernel_rfl) (by decide) (fun K hK => ?_)
          refine goes_ Tryd.func45 (by kernel_rfl) rfl #[.slice A0 l0.length c0] (by rfl) rfl rfl (by (try simp only [List.map_toArray, List.map_cons, List.map_nil]); first | done | rfl | (simp only [List.length_drop, List.length_take]; rfl)) ?_
          with_reducible refine (Ie.calls _ _ l0 t438 _ ?side1 ?side2 A3.out).mono ?_
          (case side1 => repeat (first | exact (Kd.Gm HR0.out HB.out) | (with_reducible refine Kd.Ci ?_ _) | (with_reducible refine Kd.Cf ?_ _) | (with_reducible refine Kd.Di ?_)))
          (case side2 => exact HC0.out)
          rintro e w21 ⟨v439, rfl, ho0, hb⟩
          refine ⟨_, rfl, ?_⟩
          have n0_ := Aa.mk (Kd.Ff (by (with_reducible repeat (first | apply Kd.Ah | apply Kd.Ai | apply Kd.Ak)); exact HO443.out) (Kd.Gg ho0) hb)
          have n1_ := Aa.mk (Kd.Du (Kd.Gj (Kd.Gh ho0 (Kd.Gs (by (with_reducible repeat (first | apply Kd.Ah | apply Kd.Ai | apply Kd.Ak)); exact HO443.out))) (g := gb437) (o := .cells #[.int .i64 a1_0, .int .i64 a1_1] 40 (0, 0)) (by (with_reducible repeat (first | refine Au ?_ _ | refine Az ?_ | refine Ar ?_ _)); exact BK437.out)) (Aq (by repeat (first | (with_reducible first | exact HB.out | apply Ae | apply Ac | apply Ad | refine Ag ?_ GE437.out) | exact HB.out))))
          have n2_ := Aa.mk (Dv (g := gb437) (o := .cells #[.int .i64 a1_0, .int .i64 a1_1] 40 (0, 0)) (by (with_reducible repeat (first | refine Au ?_ _ | refine Az ?_ | refine Ar ?_ _)); exact BK437.out) hb)
          have n3_ := Aa.mk (Ap (by repeat (first | (with_reducible first | exact HB.out | apply Ae | apply Ac | apply Ad | refine Ag ?_ GE437.out) | exact HB.out)) hb)
          clear HO443
          clear BK437
          clear HB
          have HO443 := n0_
          have HO440 := n1_
          have BK437 := n2_
          have HB := n3_
          clear n0_ n1_ n2_ n3_
          (try clear hb)
          (try clear hb2)
          (try clear hk)
          (try clear hi)
          (try clear ho0)
          refine hK.out _ _ ⟨(Bd BK437.out 0).trans rfl, (Bd BK437.out 1).trans rfl⟩ (fun hHeld => ?_)
          clear hK K
          refine E5 (a' := ?_) ?_ ?_
          rotate_left
          · show Act.put _ (some 8) _ = _
            simp only [Act.put, List.setIfInBounds_toArray, List.set_cons_zero, List.set_cons_succ, Dh, Dp]
            rfl
          exact E5 (by simp only [Ht, Act.put, List.setIfInBounds_toArray, List.set_cons_zero, List.set_cons_succ]) (hCont (v439, v442) _ ⟨hHeld, (by (with_reducible repeat (first | apply Kd.Ah | apply Kd.Ai | apply Kd.Ak)); exact Kd.R_mono HO440.out (fun _ hk => ⟨hk.1.2, hk.2⟩)), (by (with_reducible repeat (first | apply Kd.Ah | apply Kd.Ai | apply Kd.Ak)); exact Kd.R_mono HO443.out (fun _ hk => ⟨hk.2, hk.1.2⟩)), (by (with_reducible repeat (first | refine Au ?_ _ | refine Az ?_ | refine Ar ?_ _)); exact BK437.out), (by repeat (first | (with_reducible first | exact HB.out | apply Ae | apply Ac | apply Ad | refine Ag ?_ GE437.out) | exact HB.out))⟩)
      rintro ⟨v439, v442⟩ w22 ⟨hS_, h0_, h1_, h2_, h3_⟩
      have n0_ : Aa (Kd.R k40 40 w22 w.heap.size (fun k_ => some k_ ≠ (v442 : Value).ownBlock ∧ k_ ≠ gb437) v439 t438) := ⟨h0_⟩
      have n1_ : Aa (Kd.R k40 40 w22 w.heap.size (fun k_ => some k_ ≠ (v439 : Value).ownBlock ∧ k_ ≠ gb437) v442 y441) := ⟨h1_⟩
      have n2_ : Aa (w22.heap[gb437]? = some (.cells #[.int .i64 a1_0, .int .i64 a1_1] 40 (0, 0))) := ⟨h2_⟩
      have n3_ : Aa (Below w.heap.size w w22) := ⟨h3_⟩
      clear BK437
      clear HB
      clear h0_ h1_ h2_ h3_
      have HO440 := n0_
      have HO443 := n1_
      have BK437 := n2_
      have HB := n3_
      clear n0_ n1_ n2_ n3_
      have hHeld : w22.cell? ⟨gb437, 0, none⟩ = some (.int .i64 a1_0) ∧ w22.cell? ⟨gb437, 1, none⟩ = some (.int .i64 a1_1) := hS_
      obtain ⟨Ao24, co24, eo24⟩ := Kd.Ef HO443.out
      (first | subst eo24 | (injection eo24 with f1_ f2_ f3_; have f4_ := f1_.symm; have f5_ := f3_.symm; clear f1_ f2_ f3_; subst f4_; subst f5_))
      refine E5 (a' := ?_) ?_ ?_
      rotate_left
      · simp only [Ht, Act.put, List.setIfInBounds_toArray, List.set_cons_zero, List.set_cons_succ]
        rfl
      refine one_ (i := 4) (N := some 11) #[true, true, true, true, true, false] rfl rfl (by kernel_rfl) (by decide) (fun K hK => ?_)
      refine Kd.Fz k40 (w0 := w) w.heap.size (by rfl) (.tmp 8) (.tmp 10) 26 40 (.agg #[(.int .i64 0), (.int .i64 0)]) 16 rfl Tryd.underlying26 Hr rfl (by decide) (by omega) v439 t438 y441 _ _ _ (fun k_ => some k_ ≠ (.slice Ao24 y441.length co24 : Value).ownBlock ∧ k_ ≠ gb437) (fun _ => False) rfl rfl ?aO ?aR (fun _ _ h => h) (fun _ h => h.elim) ?aF ?aB ?aS ?aL ?_
      (case aR => repeat (first | exact (Kd.Ba HO443.out).2.2 | (with_reducible refine Kd.Ci ?_ _) | (with_reducible refine Kd.Cf ?_ _) | (with_reducible refine Kd.Di ?_)))
      (case aB => exact (by repeat (first | (with_reducible first | exact HB.out | apply Ae | apply Ac | apply Ad | refine Ag ?_ GE437.out) | exact HB.out)))
      (case aF => exact (fun k_ hk => ⟨Kd.fresh' (Kd.Gs (by (with_reducible repeat (first | apply Kd.Ah | apply Kd.Ai | apply Kd.Ak)); exact HO443.out)) k_ hk, Kd.Ih (g := gb437) (o := .cells #[.int .i64 a1_0, .int .i64 a1_1] 40 (0, 0)) (by (with_reducible repeat (first | refine Au ?_ _ | refine Az ?_ | refine Ar ?_ _)); exact BK437.out) k_ hk⟩))
      (case aO => exact (by (with_reducible repeat (first | apply Kd.Ah | apply Kd.Ai | apply Kd.Ak)); exact HO440.out))
      (case aS => exact (Aq (by repeat (first | (with_reducible first | exact HB.out | apply Ae | apply Ac | apply Ad | refine Ag ?_ GE437.out) | exact HB.out))))
      (case aL => have := LMc4.out; omega)
      intro v445 w23 ho hb hg hat
      rw [← Ny444.out] at ho
      have n0_ := Aa.mk (Gy (g := gb437) (o := .cells #[.int .i64 a1_0, .int .i64 a1_1] 40 (0, 0)) (by (with_reducible repeat (first | refine Au ?_ _ | refine Az ?_ | refine Ar ?_ _)); exact BK437.out) hg (Kd.Ij HO440.out (fun _ hk => hk.2)))
      have n1_ := Aa.mk (Kd.Ir (ok := (fun k_ => k_ ≠ gb437)) (by (with_reducible repeat (first | apply Kd.Ah | apply Kd.Ai | apply Kd.Ak)); exact Kd.R_mono HO443.out (fun _ hk => ⟨hk.2, hk.1⟩)) hg hat)
      have n2_ := Aa.mk (hb)
      have n3_ := Aa.mk (ho)
      clear BK437
      clear HO443
      clear HB
      clear HO440
      have BK437 := n0_
      have HO443 := n1_
      have HB := n2_
      have HO446 := n3_
      clear n0_ n1_ n2_ n3_
      clear ho hb hg hat
      refine hK.out _ _ ⟨(Bd BK437.out 0).trans rfl, (Bd BK437.out 1).trans rfl⟩ (fun hHeld => ?_)
      clear hK K
      refine E5 (a' := ?_) ?_ ?_
      rotate_left
      · show Act.put _ (some 11) _ = _
        simp only [Act.put, List.setIfInBounds_toArray, List.set_cons_zero, List.set_cons_succ, Dh, Dp]
        rfl
      refine Fq (i := 5) (N := some 6) (v := ?_) (a' := ?_) #[true, true, true, true, true, true] rfl rfl (by kernel_rfl) (fun _ _ _ h => h) (Or.inl ⟨by rfl, ?_⟩) ?_ ?_
      rotate_left
      · intro w'
        go_simp
        with_reducible rfl
      rotate_left
      · simp only [Act.put, List.setIfInBounds_toArray, List.set_cons_zero, List.set_cons_succ, Dh, Dp]
        rfl
      refine done_ (by kernel_rfl) ?_
      obtain ⟨Ao25, co25, eo25⟩ := Kd.Ef HO446.out
      subst eo25
      try go_wp2_with (first | ((with_reducible refine Bv (f := 17) rfl ?_); refine D5 (some 13) rfl rfl Tryd.func17 (by kernel_rfl) rfl #[.slice Ao25 y444.length co25] rfl (by (try simp only [List.map_toArray, List.map_cons, List.map_nil]); first | done | rfl | (simp only [List.length_drop, List.length_take]; rfl)) ?_; (with_reducible refine (Cm.calls k _ _ y444 false _ ?side1 ?side2 A5.out).mono ?_); (case side1 => repeat (first | exact (Kd.Ba HO446.out).2.2 | (with_reducible refine Kd.Ci ?_ _) | (with_reducible refine Kd.Cf ?_ _) | (with_reducible refine Kd.Di ?_))); (case side2 => exact (Kd.Ba HO446.out).2.1); rintro e w26 ⟨rfl, hb⟩; refine ⟨_, rfl, ?_⟩; have n0_ := Aa.mk (Kd.Dk (by (with_reducible repeat (first | apply Kd.Ah | apply Kd.Ai | apply Kd.Ak)); exact HO443.out) hb); have n1_ := Aa.mk (Kd.Dk (by (with_reducible repeat (first | apply Kd.Ah | apply Kd.Ai | apply Kd.Ak)); exact HO446.out) hb); have n2_ := Aa.mk (Dv (g := gb437) (o := .cells #[.int .i64 a1_0, .int .i64 a1_1] 40 (0, 0)) (by (with_reducible repeat (first | refine Au ?_ _ | refine Az ?_ | refine Ar ?_ _)); exact BK437.out) hb); have n3_ := Aa.mk (Ap (by repeat (first | (with_reducible first | exact HB.out | apply Ae | apply Ac | apply Ad | refine Ag ?_ GE437.out) | exact HB.out)) hb); clear HO443; clear HO446; clear BK437; clear HB; have HO443 := n0_; have HO446 := n1_; have BK437 := n2_; have HB := n3_; clear n0_ n1_ n2_ n3_; (try clear hb); (try clear hb2); (try clear hk); (try clear hi)))
      go_ret2
      exact ⟨_, by first | rfl | (simp [Be, Bf] <;> rfl) | (simp [*, Be, Bf] <;> rfl), by first | exact Kd.R_nil _ _ _ _ _ | exact Kd.N_nil _ _ _ _ _ | exact Kd.V_nil _ _ _ _ _ | exact Kd.Q_nil _ _ _ _ _ | exact Kd.S_nil _ _ _ _ _, by repeat (first | (with_reducible first | exact HB.out | apply Ae | apply Ac | apply Ad | refine Ag ?_ GE437.out) | exact HB.out)⟩
  · rw [if_neg c4] at H
    exact absurd H (by simp)
end Go.Proofs.YtpalafegcndccaaDoor.X

namespace Go.Proofs.YtpalafegcndccaaDoor.X
open Go.RowKit Go.Proofs.YtpalafegcndccaaDoorW.PrintWords Go.Proofs.YtpalafegcndccaaDoorW.PrintLast Go.Proofs.YtpalafegcndccaaDoorW.PrintMore
attribute [local go_sem] Ej Eg Eu Ew D9 D8 Ei Eh
open Go.Proofs.YtpalafegcndccaaDoorG
def Fa.f (k : Nat) (l0 : List (S40)) (a1_0 : Int) (a1_1 : Int) : Option ((List (S40)) × Bool) := (some (([] : List (S40)) : List (S40))).bind fun y449 => (if y449.length + l0.length < 8796093022208 then ((some (y449 ++ l0 : List (S40))).bind fun y452 => ((some (([(⟨a1_0, a1_1⟩ : S40)] : List (S40)) : List (S40))).bind fun y455 => (if y452.length + y455.length < 8796093022208 then ((some (y452 ++ y455 : List (S40))).bind fun y458 => ((Bh.f k l0).bind fun t461 => (if t461 < 0 then (some ((([] : List (S40))), false)) else ((Bh.f k y458).bind fun t465 => (if t465 < 0 then (some ((([] : List (S40))), false)) else (some (y458, true))))))) else (none)))) else (none))
theorem Fa.mono : ∀ a0 a1 a2 k, LeO (Fa.f k a0 a1 a2) (Fa.f (k + 1) a0 a1 a2) := by
  intro a0 a1 a2 k
  unfold Fa.f
  repeat' first
      | (with_reducible exact Bh.mono _ _)
      | (with_reducible exact LeO.refl _)
      | (with_reducible exact LeO.none _)
      | (with_reducible refine LeO.ite ?_ ?_)
      | (with_reducible refine LeO.bind ?_ (fun _ => ?_))
      | exact Bh.mono _ _
      | exact LeO.none _
      | refine LeO.ite ?_ ?_
      | refine LeO.bind ?_ (fun _ => ?_)
set_option maxHeartbeats 8000000 in
set_option maxRecDepth 100000 in
theorem Fa.calls (k : Nat) (A0 : Option Addr) (c0 : Nat) (l0 : List (S40)) (a1_0 : Int) (a1_1 : Int) (r1 : List (S40)) (r2 : Bool) (w : World) (hr0 : Kd.C k40 w A0 l0.length l0) (hc0 : l0.length ≤ c0) (h : Fa.f k l0 a1_0 a1_1 = some (r1, r2)) :
    Calls Tryd.prog 22 #[.slice A0 l0.length c0, .agg #[.int .i64 a1_0, .int .i64 a1_1]] w fun e w' => ∃ v0_ : Value, e = .returned (.tuple #[v0_, .bool r2]) ∧ Kd.R k40 40 w' w.heap.size (fun _ => True) v0_ r1 ∧ Below w.heap.size w w' := by
  have hu40 := Tryd.underlying40
  have HR0 := Aa.mk hr0
  have HC0 := Aa.mk hc0
  clear hr0 hc0
  have HB := Aa.mk (Below.refl w.heap.size w)
  have H : ((some (([] : List (S40)) : List (S40))).bind fun y449 => (if y449.length + l0.length < 8796093022208 then ((some (y449 ++ l0 : List (S40))).bind fun y452 => ((some (([(⟨a1_0, a1_1⟩ : S40)] : List (S40)) : List (S40))).bind fun y455 => (if y452.length + y455.length < 8796093022208 then ((some (y452 ++ y455 : List (S40))).bind fun y458 => ((Bh.f k l0).bind fun t461 => (if t461 < 0 then (some ((([] : List (S40))), false)) else ((Bh.f k y458).bind fun t465 => (if t465 < 0 then (some ((([] : List (S40))), false)) else (some (y458, true))))))) else (none)))) else (none))) = some (r1, r2) := h
  clear h
  obtain ⟨y449, hy449⟩ : ∃ y_ : List (S40), y_ = (([] : List (S40))) := ⟨_, rfl⟩
  replace H : (if y449.length + l0.length < 8796093022208 then ((some (y449 ++ l0 : List (S40))).bind fun y452 => ((some (([(⟨a1_0, a1_1⟩ : S40)] : List (S40)) : List (S40))).bind fun y455 => (if y452.length + y455.length < 8796093022208 then ((some (y452 ++ y455 : List (S40))).bind fun y458 => ((Bh.f k l0).bind fun t461 => (if t461 < 0 then (some ((([] : List (S40))), false)) else ((Bh.f k y458).bind fun t465 => (if t465 < 0 then (some ((([] : List (S40))), false)) else (some (y458, true))))))) else (none)))) else (none)) = some (r1, r2) := by first | (rw [hy449]; with_reducible exact H) | (have H2_ := (Option.bind_some _ _).symm.trans H; rw [hy449]; with_reducible exact H2_) | (have H2_ := (Option.bind_some _ _).symm.trans H; with_reducible exact H2_) | with_reducible exact H | (rw [hy449]; exact H) | exact H
  have Ny449 := Aa.mk hy449
  clear hy449
  by_cases c3 : y449.length + l0.length < 8796093022208
  · rw [if_pos c3] at H
    have LMc3 := Aa.mk c3
    clear c3
    obtain ⟨y452, hy452⟩ : ∃ y_ : List (S40), y_ = (y449 ++ l0) := ⟨_, rfl⟩
    replace H : ((some (([(⟨a1_0, a1_1⟩ : S40)] : List (S40)) : List (S40))).bind fun y455 => (if y452.length + y455.length < 8796093022208 then ((some (y452 ++ y455 : List (S40))).bind fun y458 => ((Bh.f k l0).bind fun t461 => (if t461 < 0 then (some ((([] : List (S40))), false)) else ((Bh.f k y458).bind fun t465 => (if t465 < 0 then (some ((([] : List (S40))), false)) else (some (y458, true))))))) else (none))) = some (r1, r2) := by first | (rw [hy452]; with_reducible exact H) | (have H2_ := (Option.bind_some _ _).symm.trans H; rw [hy452]; with_reducible exact H2_) | (have H2_ := (Option.bind_some _ _).symm.trans H; with_reducible exact H2_) | with_reducible exact H | (rw [hy452]; exact H) | exact H
    have Ny452 := Aa.mk hy452
    clear hy452
    obtain ⟨y455, hy455⟩ : ∃ y_ : List (S40), y_ = (([(⟨a1_0, a1_1⟩ : S40)] : List (S40))) := ⟨_, rfl⟩
    replace H : (if y452.length + y455.length < 8796093022208 then ((some (y452 ++ y455 : List (S40))).bind fun y458 => ((Bh.f k l0).bind fun t461 => (if t461 < 0 then (some ((([] : List (S40))), false)) else ((Bh.f k y458).bind fun t465 => (if t465 < 0 then (some ((([] : List (S40))), false)) else (some (y458, true))))))) else (none)) = some (r1, r2) := by first | (rw [hy455]; with_reducible exact H) | (have H2_ := (Option.bind_some _ _).symm.trans H; rw [hy455]; with_reducible exact H2_) | (have H2_ := (Option.bind_some _ _).symm.trans H; with_reducible exact H2_) | with_reducible exact H | (rw [hy455]; exact H) | exact H
    have Ny455 := Aa.mk hy455
    clear hy455
    by_cases c4 : y452.length + y455.length < 8796093022208
    · rw [if_pos c4] at H
      have LMc4 := Aa.mk c4
      clear c4
      obtain ⟨y458, hy458⟩ : ∃ y_ : List (S40), y_ = (y452 ++ y455) := ⟨_, rfl⟩
      replace H : ((Bh.f k l0).bind fun t461 => (if t461 < 0 then (some ((([] : List (S40))), false)) else ((Bh.f k y458).bind fun t465 => (if t465 < 0 then (some ((([] : List (S40))), false)) else (some (y458, true)))))) = some (r1, r2) := by first | (rw [hy458]; with_reducible exact H) | (have H2_ := (Option.bind_some _ _).symm.trans H; rw [hy458]; with_reducible exact H2_) | (have H2_ := (Option.bind_some _ _).symm.trans H; with_reducible exact H2_) | with_reducible exact H | (rw [hy458]; exact H) | exact H
      have Ny458 := Aa.mk hy458
      clear hy458
      replace H := Option.bind_eq_some_iff.mp H
      obtain ⟨t461, A50, H⟩ := H
      replace H : (if t461 < 0 then (some ((([] : List (S40))), false)) else ((Bh.f k y458).bind fun t465 => (if t465 < 0 then (some ((([] : List (S40))), false)) else (some (y458, true))))) = some (r1, r2) := H
      have A5 := Aa.mk A50
      clear A50
      by_cases c6 : t461 < 0
      · rw [if_pos c6] at H
        have c6b0 : decide (t461 < 0) = true := decide_eq_true c6
        clear c6
        obtain ⟨y462, hy462⟩ : ∃ y_ : List (S40), y_ = (([] : List (S40))) := ⟨_, rfl⟩
        replace H : (some (y462, false)) = some (r1, r2) := by first | (rw [hy462]; with_reducible exact H) | (have H2_ := (Option.bind_some _ _).symm.trans H; rw [hy462]; with_reducible exact H2_) | (have H2_ := (Option.bind_some _ _).symm.trans H; with_reducible exact H2_) | with_reducible exact H | (rw [hy462]; exact H) | exact H
        have Ny462 := Aa.mk hy462
        clear hy462
        simp only [Option.some.injEq, Prod.mk.injEq] at H
        obtain ⟨rfl, rfl⟩ := H
        go_enter Tryd.func22, Tryd.ntmps22
        try go_wp2_with (first | ((with_reducible refine D7 (N := 3) rfl ?_); refine Es ?hg (N := 3) ?hd (cs := #[.int .i64 a1_0, .int .i64 a1_1]) (t := 40) ?hr ?_; (case hd => rfl); (case hg => rfl); (case hr => first | (go_simp; done) | (go_simp; rfl)); intro gb448 hg w7 hbox hb; have n0_ := Aa.mk (Ap (by repeat (first | (with_reducible first | exact HB.out | apply Ae | apply Ac | apply Ad) | exact HB.out)) hb); have n1_ := Aa.mk (hbox); have n2_ := Aa.mk ((by rw [hg]; exact (Aq (by repeat (first | (with_reducible first | exact HB.out | apply Ae | apply Ac | apply Ad) | exact HB.out))) : w.heap.size ≤ gb448)); have n3_ := Aa.mk ((by rw [hg]; exact (Aq (by repeat (first | (with_reducible first | exact HB.out | apply Ae | apply Ac | apply Ad) | exact HB.out))) : w.heap.size ≤ gb448)); clear HB; have HB := n0_; have BK448 := n1_; have GW448 := n2_; have GE448 := n3_; clear n0_ n1_ n2_ n3_; clear hb hbox hg))
        have n0_ := Aa.mk (Az BK448.out)
        have n1_ := Aa.mk (Ad HB.out)
        clear BK448
        clear HB
        have BK448 := n0_
        have HB := n1_
        clear n0_ n1_
        refine start_ (n := 7) (S := fun w' => w'.cell? ⟨gb448, 0, none⟩ = some (.int .i64 a1_0) ∧ w'.cell? ⟨gb448, 1, none⟩ = some (.int .i64 a1_1)) (ds := []) #[false, false, false, false, false, false, false] (by kernel_rfl) rfl rfl ⟨(Bd BK448.out 0).trans rfl, (Bd BK448.out 1).trans rfl⟩ (fun hHeld => ?_)
        generalize w7.drew = w8 at BK448 HB hHeld ⊢
        refine Fq (i := 1) (N := some 8) (v := ?_) (a' := ?_) #[false, true, false, false, false, false, false] rfl rfl (by kernel_rfl) (fun _ _ _ h => h) (Or.inl ⟨by rfl, ?_⟩) ?_ ?_
        rotate_left
        · intro w'
          go_simp
          with_reducible rfl
        rotate_left
        · simp only [Act.put, List.setIfInBounds_toArray, List.set_cons_zero, List.set_cons_succ, Dh, Dp]
          rfl
        refine take_ (i := 3) (N := some 10) (v := ?_) (a' := ?_) #[false, true, false, true, false, false, false] rfl rfl (by kernel_rfl) (fun _ _ _ h => h) (Or.inl ⟨by rfl, ?_⟩) hHeld ?_ ?_
        rotate_left
        · rintro w' ⟨s0, s1⟩
          go_simp
          with_reducible rfl
        rotate_left
        · simp only [Act.put, List.setIfInBounds_toArray, List.set_cons_zero, List.set_cons_succ, Dh, Dp]
          rfl
        refine join_ (σ := Value × Value × Value) 2 #[true, true, true, true, true, false, false] (fun s_ => [(7, s_.1), (9, s_.2.1), (11, s_.2.2)]) (fun s_ w' => (w'.cell? ⟨gb448, 0, none⟩ = some (.int .i64 a1_0) ∧ w'.cell? ⟨gb448, 1, none⟩ = some (.int .i64 a1_1)) ∧ (Kd.R k40 40 w' w.heap.size (fun k_ => some k_ ≠ (s_.2.2 : Value).ownBlock ∧ k_ ≠ gb448) s_.2.1 y452) ∧ (Kd.R k40 40 w' w.heap.size (fun k_ => some k_ ≠ (s_.2.1 : Value).ownBlock ∧ k_ ≠ gb448) s_.2.2 y455) ∧ (w'.heap[gb448]? = some (.cells #[.int .i64 a1_0, .int .i64 a1_1] 40 (0, 0))) ∧ (Below w.heap.size w w')) ?_ ?_
        rotate_left
        · intro hCont
          refine two_ (i := 0) (j := 4) (Ni := some 7) (Nj := some 11) #[true, true, false, true, false, false, false] #[false, true, false, true, true, false, false] rfl rfl rfl rfl (by kernel_rfl) (by decide) (by decide) (fun K hK => ?_) (fun K hK => ?_)
          · skip
            refine Kd.Gn k40 _ 40 ?hg (N := 7) ?hd (xs := ([] : List (S40))) (inner := []) (ok := fun _ => True) (okp := fun _ => True) ?hr ?hp (fun _ hk => hk) trivial (Below.refl _ _) (Nat.le_refl _) (by simp) ?_; (case hd => rfl); (case hg => rfl); (case hr => first | (go_simp; done) | (go_simp; rfl)); (case hp => exact (Dw.none _ _))
            intro v450 w9 ho10 hb hg_ hnew_
            clear hg_ hnew_
            (first | rw [← Ny449.out] at ho10 | (simp only [Int.reduceToNat] at ho10; rw [← Ny449.out] at ho10))
            have n0_ := Aa.mk (Kd.Du (Kd.Gj ho10 (g := gb448) (o := .cells #[.int .i64 a1_0, .int .i64 a1_1] 40 (0, 0)) (by (with_reducible repeat (first | refine Au ?_ _ | refine Az ?_ | refine Ar ?_ _)); exact BK448.out)) (Aq (by repeat (first | (with_reducible first | exact HB.out | apply Ae | apply Ac | apply Ad | refine Ag ?_ GE448.out) | exact HB.out))))
            have n1_ := Aa.mk (Dv (g := gb448) (o := .cells #[.int .i64 a1_0, .int .i64 a1_1] 40 (0, 0)) (by (with_reducible repeat (first | refine Au ?_ _ | refine Az ?_ | refine Ar ?_ _)); exact BK448.out) hb)
            have n2_ := Aa.mk (Ap (by repeat (first | (with_reducible first | exact HB.out | apply Ae | apply Ac | apply Ad | refine Ag ?_ GE448.out) | exact HB.out)) hb)
            clear BK448
            clear HB
            have HO451 := n0_
            have BK448 := n1_
            have HB := n2_
            clear n0_ n1_ n2_
            clear hb ho10
            refine hK.out _ _ ⟨(Bd BK448.out 0).trans rfl, (Bd BK448.out 1).trans rfl⟩ (fun hHeld => ?_)
            clear hK K
            refine E5 (a' := ?_) ?_ ?_
            rotate_left
            · show Act.put _ (some 7) _ = _
              simp only [Act.put, List.setIfInBounds_toArray, List.set_cons_zero, List.set_cons_succ, Dh, Dp]
              rfl
            refine two_ (i := 2) (j := 4) (Ni := some 9) (Nj := some 11) #[true, true, true, true, false, false, false] #[true, true, false, true, true, false, false] rfl rfl rfl rfl (by kernel_rfl) (by decide) (by decide) (fun K hK => ?_) (fun K hK => ?_)
            · skip
              refine Kd.Fz k40 (w0 := w) w.heap.size (by rfl) (.tmp 7) (.tmp 8) 26 40 (.agg #[(.int .i64 0), (.int .i64 0)]) 16 rfl Tryd.underlying26 Hr rfl (by decide) (by omega) v450 y449 l0 _ _ _ (fun k_ => k_ ≠ gb448) (fun _ => False) rfl rfl ?aO ?aR (fun _ _ h => h) (fun _ h => h.elim) ?aF ?aB ?aS ?aL ?_
              (case aR => repeat (first | exact (Kd.Gm HR0.out HB.out) | (with_reducible refine Kd.Ci ?_ _) | (with_reducible refine Kd.Cf ?_ _) | (with_reducible refine Kd.Di ?_)))
              (case aB => exact (by repeat (first | (with_reducible first | exact HB.out | apply Ae | apply Ac | apply Ad | refine Ag ?_ GE448.out) | exact HB.out)))
              (case aF => exact (fun k_ hk => Kd.Ih (g := gb448) (o := .cells #[.int .i64 a1_0, .int .i64 a1_1] 40 (0, 0)) (by (with_reducible repeat (first | refine Au ?_ _ | refine Az ?_ | refine Ar ?_ _)); exact BK448.out) k_ hk))
              (case aO => exact (by (with_reducible repeat (first | apply Kd.Ah | apply Kd.Ai | apply Kd.Ak)); exact Kd.R_mono HO451.out (fun _ hk => hk.2)))
              (case aS => exact (Aq (by repeat (first | (with_reducible first | exact HB.out | apply Ae | apply Ac | apply Ad | refine Ag ?_ GE448.out) | exact HB.out))))
              (case aL => have := LMc3.out; omega)
              intro v453 w11 ho hb hg hat
              rw [← Ny452.out] at ho
              have n0_ := Aa.mk (Gy (g := gb448) (o := .cells #[.int .i64 a1_0, .int .i64 a1_1] 40 (0, 0)) (by (with_reducible repeat (first | refine Au ?_ _ | refine Az ?_ | refine Ar ?_ _)); exact BK448.out) hg (Kd.Ij HO451.out (fun _ hk => hk.2)))
              have n1_ := Aa.mk (hb)
              have n2_ := Aa.mk (ho)
              clear BK448
              clear HB
              clear HO451
              have BK448 := n0_
              have HB := n1_
              have HO454 := n2_
              clear n0_ n1_ n2_
              clear ho hb hg hat
              refine hK.out _ _ ⟨(Bd BK448.out 0).trans rfl, (Bd BK448.out 1).trans rfl⟩ (fun hHeld => ?_)
              clear hK K
              refine E5 (a' := ?_) ?_ ?_
              rotate_left
              · show Act.put _ (some 9) _ = _
                simp only [Act.put, List.setIfInBounds_toArray, List.set_cons_zero, List.set_cons_succ, Dh, Dp]
                rfl
              refine one_ (i := 4) (N := some 11) #[true, true, true, true, true, false, false] rfl rfl (by kernel_rfl) (by decide) (fun K hK => ?_)
              refine Kd.Gn k40 _ 40 ?hg (N := 11) ?hd (xs := ([(⟨a1_0, a1_1⟩ : S40)] : List (S40))) (inner := [.int .i64 a1_0, .int .i64 a1_1]) (ok := fun _ => True) (okp := fun _ => True) ?hr ?hp (fun _ hk => hk) trivial (Below.refl _ _) (Nat.le_refl _) (by simp) ?_; (case hd => rfl); (case hg => rfl); (case hr => first | (go_simp; done) | (go_simp; rfl)); (case hp => exact (Dw.c2 (show Kd.M k40 _ _ _ (⟨a1_0, a1_1⟩ : S40) [.int .i64 a1_0, .int .i64 a1_1] from (G8 _ _ _ (⟨a1_0, a1_1⟩ : S40) )) (Dw.none _ _)))
              intro v456 w12 ho13 hb hg_ hnew_
              clear hg_ hnew_
              (first | rw [← Ny455.out] at ho13 | (simp only [Int.reduceToNat] at ho13; rw [← Ny455.out] at ho13))
              have n0_ := Aa.mk (Kd.Ff (by (with_reducible repeat (first | apply Kd.Ah | apply Kd.Ai | apply Kd.Ak)); exact HO454.out) (Kd.Gg ho13) hb)
              have n1_ := Aa.mk (Kd.Du (Kd.Gj (Kd.Gh ho13 (Kd.Gs (by (with_reducible repeat (first | apply Kd.Ah | apply Kd.Ai | apply Kd.Ak)); exact HO454.out))) (g := gb448) (o := .cells #[.int .i64 a1_0, .int .i64 a1_1] 40 (0, 0)) (by (with_reducible repeat (first | refine Au ?_ _ | refine Az ?_ | refine Ar ?_ _)); exact BK448.out)) (Aq (by repeat (first | (with_reducible first | exact HB.out | apply Ae | apply Ac | apply Ad | refine Ag ?_ GE448.out) | exact HB.out))))
              have n2_ := Aa.mk (Dv (g := gb448) (o := .cells #[.int .i64 a1_0, .int .i64 a1_1] 40 (0, 0)) (by (with_reducible repeat (first | refine Au ?_ _ | refine Az ?_ | refine Ar ?_ _)); exact BK448.out) hb)
              have n3_ := Aa.mk (Ap (by repeat (first | (with_reducible first | exact HB.out | apply Ae | apply Ac | apply Ad | refine Ag ?_ GE448.out) | exact HB.out)) hb)
              clear HO454
              clear BK448
              clear HB
              have HO454 := n0_
              have HO457 := n1_
              have BK448 := n2_
              have HB := n3_
              clear n0_ n1_ n2_ n3_
              clear hb ho13
              refine hK.out _ _ ⟨(Bd BK448.out 0).trans rfl, (Bd BK448.out 1).trans rfl⟩ (fun hHeld => ?_)
              clear hK K
              refine E5 (a' := ?_) ?_ ?_
              rotate_left
              · show Act.put _ (some 11) _ = _
                simp only [Act.put, List.setIfInBounds_toArray, List.set_cons_zero, List.set_cons_succ, Dh, Dp]
                rfl
              exact E5 (by simp only [Ht, Act.put, List.setIfInBounds_toArray, List.set_cons_zero, List.set_cons_succ]) (hCont (v450, v453, v456) _ ⟨hHeld, (by (with_reducible repeat (first | apply Kd.Ah | apply Kd.Ai | apply Kd.Ak)); exact Kd.R_mono HO454.out (fun _ hk => ⟨hk.2, hk.1⟩)), (by (with_reducible repeat (first | apply Kd.Ah | apply Kd.Ai | apply Kd.Ak)); exact Kd.R_mono HO457.out (fun _ hk => ⟨hk.1.2, hk.2⟩)), (by (with_reducible repeat (first | refine Au ?_ _ | refine Az ?_ | refine Ar ?_ _)); exact BK448.out), (by repeat (first | (with_reducible first | exact HB.out | apply Ae | apply Ac | apply Ad | refine Ag ?_ GE448.out) | exact HB.out))⟩)
            · skip
              refine Kd.Gn k40 _ 40 ?hg (N := 11) ?hd (xs := ([(⟨a1_0, a1_1⟩ : S40)] : List (S40))) (inner := [.int .i64 a1_0, .int .i64 a1_1]) (ok := fun _ => True) (okp := fun _ => True) ?hr ?hp (fun _ hk => hk) trivial (Below.refl _ _) (Nat.le_refl _) (by simp) ?_; (case hd => rfl); (case hg => rfl); (case hr => first | (go_simp; done) | (go_simp; rfl)); (case hp => exact (Dw.c2 (show Kd.M k40 _ _ _ (⟨a1_0, a1_1⟩ : S40) [.int .i64 a1_0, .int .i64 a1_1] from (G8 _ _ _ (⟨a1_0, a1_1⟩ : S40) )) (Dw.none _ _)))
              intro v456 w11 ho12 hb hg_ hnew_
              clear hg_ hnew_
              (first | rw [← Ny455.out] at ho12 | (simp only [Int.reduceToNat] at ho12; rw [← Ny455.out] at ho12))
              have n0_ := Aa.mk (Kd.Ff (by (with_reducible repeat (first | apply Kd.Ah | apply Kd.Ai | apply Kd.Ak)); exact HO451.out) (Kd.Gg ho12) hb)
              have n1_ := Aa.mk (Kd.Du (Kd.Gj (Kd.Gh ho12 (Kd.Gs (by (with_reducible repeat (first | apply Kd.Ah | apply Kd.Ai | apply Kd.Ak)); exact HO451.out))) (g := gb448) (o := .cells #[.int .i64 a1_0, .int .i64 a1_1] 40 (0, 0)) (by (with_reducible repeat (first | refine Au ?_ _ | refine Az ?_ | refine Ar ?_ _)); exact BK448.out)) (Aq (by repeat (first | (with_reducible first | exact HB.out | apply Ae | apply Ac | apply Ad | refine Ag ?_ GE448.out) | exact HB.out))))
              have n2_ := Aa.mk (Dv (g := gb448) (o := .cells #[.int .i64 a1_0, .int .i64 a1_1] 40 (0, 0)) (by (with_reducible repeat (first | refine Au ?_ _ | refine Az ?_ | refine Ar ?_ _)); exact BK448.out) hb)
              have n3_ := Aa.mk (Ap (by repeat (first | (with_reducible first | exact HB.out | apply Ae | apply Ac | apply Ad | refine Ag ?_ GE448.out) | exact HB.out)) hb)
              clear HO451
              clear BK448
              clear HB
              have HO451 := n0_
              have HO457 := n1_
              have BK448 := n2_
              have HB := n3_
              clear n0_ n1_ n2_ n3_
              clear hb ho12
              refine hK.out _ _ ⟨(Bd BK448.out 0).trans rfl, (Bd BK448.out 1).trans rfl⟩ (fun hHeld => ?_)
              clear hK K
              refine E5 (a' := ?_) ?_ ?_
              rotate_left
              · show Act.put _ (some 11) _ = _
                simp only [Act.put, List.setIfInBounds_toArray, List.set_cons_zero, List.set_cons_succ, Dh, Dp]
                rfl
              refine one_ (i := 2) (N := some 9) #[true, true, true, true, true, false, false] rfl rfl (by kernel_rfl) (by decide) (fun K hK => ?_)
              refine Kd.Fz k40 (w0 := w) w.heap.size (by rfl) (.tmp 7) (.tmp 8) 26 40 (.agg #[(.int .i64 0), (.int .i64 0)]) 16 rfl Tryd.underlying26 Hr rfl (by decide) (by omega) v450 y449 l0 _ _ _ (fun k_ => some k_ ≠ (v456 : Value).ownBlock ∧ k_ ≠ gb448) (fun _ => False) rfl rfl ?aO ?aR (fun _ _ h => h) (fun _ h => h.elim) ?aF ?aB ?aS ?aL ?_
              (case aR => repeat (first | exact (Kd.Gm HR0.out HB.out) | (with_reducible refine Kd.Ci ?_ _) | (with_reducible refine Kd.Cf ?_ _) | (with_reducible refine Kd.Di ?_)))
              (case aB => exact (by repeat (first | (with_reducible first | exact HB.out | apply Ae | apply Ac | apply Ad | refine Ag ?_ GE448.out) | exact HB.out)))
              (case aF => exact (fun k_ hk => ⟨Kd.fresh' (Kd.Gs (by (with_reducible repeat (first | apply Kd.Ah | apply Kd.Ai | apply Kd.Ak)); exact HO457.out)) k_ hk, Kd.Ih (g := gb448) (o := .cells #[.int .i64 a1_0, .int .i64 a1_1] 40 (0, 0)) (by (with_reducible repeat (first | refine Au ?_ _ | refine Az ?_ | refine Ar ?_ _)); exact BK448.out) k_ hk⟩))
              (case aO => exact (by (with_reducible repeat (first | apply Kd.Ah | apply Kd.Ai | apply Kd.Ak)); exact Kd.R_mono HO451.out (fun _ hk => ⟨hk.2, hk.1.2⟩)))
              (case aS => exact (Aq (by repeat (first | (with_reducible first | exact HB.out | apply Ae | apply Ac | apply Ad | refine Ag ?_ GE448.out) | exact HB.out))))
              (case aL => have := LMc3.out; omega)
              intro v453 w13 ho hb hg hat
              rw [← Ny452.out] at ho
              have n0_ := Aa.mk (Gy (g := gb448) (o := .cells #[.int .i64 a1_0, .int .i64 a1_1] 40 (0, 0)) (by (with_reducible repeat (first | refine Au ?_ _ | refine Az ?_ | refine Ar ?_ _)); exact BK448.out) hg (Kd.Ij HO451.out (fun _ hk => hk.1.2)))
              have n1_ := Aa.mk (Kd.Ir (ok := (fun k_ => k_ ≠ gb448)) (by (with_reducible repeat (first | apply Kd.Ah | apply Kd.Ai | apply Kd.Ak)); exact Kd.R_mono HO457.out (fun _ hk => ⟨hk.2, hk.1.2⟩)) hg hat)
              have n2_ := Aa.mk (hb)
              have n3_ := Aa.mk (ho)
              clear BK448
              clear HO457
              clear HB
              clear HO451
              have BK448 := n0_
              have HO457 := n1_
              have HB := n2_
              have HO454 := n3_
              clear n0_ n1_ n2_ n3_
              clear ho hb hg hat
              refine hK.out _ _ ⟨(Bd BK448.out 0).trans rfl, (Bd BK448.out 1).trans rfl⟩ (fun hHeld => ?_)
              clear hK K
              refine E5 (a' := ?_) ?_ ?_
              rotate_left
              · show Act.put _ (some 9) _ = _
                simp only [Act.put, List.setIfInBounds_toArray, List.set_cons_zero, List.set_cons_succ, Dh, Dp]
                rfl
              exact E5 (by simp only [Ht, Act.put, List.setIfInBounds_toArray, List.set_cons_zero, List.set_cons_succ]) (hCont (v450, v453, v456) _ ⟨hHeld, (by (with_reducible repeat (first | apply Kd.Ah | apply Kd.Ai | apply Kd.Ak)); exact HO454.out), (by (with_reducible repeat (first | apply Kd.Ah | apply Kd.Ai | apply Kd.Ak)); exact Kd.R_mono HO457.out (fun _ hk => ⟨hk.2, hk.1⟩)), (by (with_reducible repeat (first | refine Au ?_ _ | refine Az ?_ | refine Ar ?_ _)); exact BK448.out), (by repeat (first | (with_reducible first | exact HB.out | apply Ae | apply Ac | apply Ad | refine Ag ?_ GE448.out) | exact HB.out))⟩)
          · skip
            refine Kd.Gn k40 _ 40 ?hg (N := 11) ?hd (xs := ([(⟨a1_0, a1_1⟩ : S40)] : List (S40))) (inner := [.int .i64 a1_0, .int .i64 a1_1]) (ok := fun _ => True) (okp := fun _ => True) ?hr ?hp (fun _ hk => hk) trivial (Below.refl _ _) (Nat.le_refl _) (by simp) ?_; (case hd => rfl); (case hg => rfl); (case hr => first | (go_simp; done) | (go_simp; rfl)); (case hp => exact (Dw.c2 (show Kd.M k40 _ _ _ (⟨a1_0, a1_1⟩ : S40) [.int .i64 a1_0, .int .i64 a1_1] from (G8 _ _ _ (⟨a1_0, a1_1⟩ : S40) )) (Dw.none _ _)))
            intro v456 w9 ho10 hb hg_ hnew_
            clear hg_ hnew_
            (first | rw [← Ny455.out] at ho10 | (simp only [Int.reduceToNat] at ho10; rw [← Ny455.out] at ho10))
            have n0_ := Aa.mk (Kd.Du (Kd.Gj ho10 (g := gb448) (o := .cells #[.int .i64 a1_0, .int .i64 a1_1] 40 (0, 0)) (by (with_reducible repeat (first | refine Au ?_ _ | refine Az ?_ | refine Ar ?_ _)); exact BK448.out)) (Aq (by repeat (first | (with_reducible first | exact HB.out | apply Ae | apply Ac | apply Ad | refine Ag ?_ GE448.out) | exact HB.out))))
            have n1_ := Aa.mk (Dv (g := gb448) (o := .cells #[.int .i64 a1_0, .int .i64 a1_1] 40 (0, 0)) (by (with_reducible repeat (first | refine Au ?_ _ | refine Az ?_ | refine Ar ?_ _)); exact BK448.out) hb)
            have n2_ := Aa.mk (Ap (by repeat (first | (with_reducible first | exact HB.out | apply Ae | apply Ac | apply Ad | refine Ag ?_ GE448.out) | exact HB.out)) hb)
            clear BK448
            clear HB
            have HO457 := n0_
            have BK448 := n1_
            have HB := n2_
            clear n0_ n1_ n2_
            clear hb ho10
            refine hK.out _ _ ⟨(Bd BK448.out 0).trans rfl, (Bd BK448.out 1).trans rfl⟩ (fun hHeld => ?_)
            clear hK K
            refine E5 (a' := ?_) ?_ ?_
            rotate_left
            · show Act.put _ (some 11) _ = _
              simp only [Act.put, List.setIfInBounds_toArray, List.set_cons_zero, List.set_cons_succ, Dh, Dp]
              rfl
            refine one_ (i := 0) (N := some 7) #[true, true, false, true, true, false, false] rfl rfl (by kernel_rfl) (by decide) (fun K hK => ?_)
            refine Kd.Gn k40 _ 40 ?hg (N := 7) ?hd (xs := ([] : List (S40))) (inner := []) (ok := fun _ => True) (okp := fun _ => True) ?hr ?hp (fun _ hk => hk) trivial (Below.refl _ _) (Nat.le_refl _) (by simp) ?_; (case hd => rfl); (case hg => rfl); (case hr => first | (go_simp; done) | (go_simp; rfl)); (case hp => exact (Dw.none _ _))
            intro v450 w11 ho12 hb hg_ hnew_
            clear hg_ hnew_
            (first | rw [← Ny449.out] at ho12 | (simp only [Int.reduceToNat] at ho12; rw [← Ny449.out] at ho12))
            have n0_ := Aa.mk (Kd.Ff (by (with_reducible repeat (first | apply Kd.Ah | apply Kd.Ai | apply Kd.Ak)); exact HO457.out) (Kd.Gg ho12) hb)
            have n1_ := Aa.mk (Kd.Du (Kd.Gj (Kd.Gh ho12 (Kd.Gs (by (with_reducible repeat (first | apply Kd.Ah | apply Kd.Ai | apply Kd.Ak)); exact HO457.out))) (g := gb448) (o := .cells #[.int .i64 a1_0, .int .i64 a1_1] 40 (0, 0)) (by (with_reducible repeat (first | refine Au ?_ _ | refine Az ?_ | refine Ar ?_ _)); exact BK448.out)) (Aq (by repeat (first | (with_reducible first | exact HB.out | apply Ae | apply Ac | apply Ad | refine Ag ?_ GE448.out) | exact HB.out))))
            have n2_ := Aa.mk (Dv (g := gb448) (o := .cells #[.int .i64 a1_0, .int .i64 a1_1] 40 (0, 0)) (by (with_reducible repeat (first | refine Au ?_ _ | refine Az ?_ | refine Ar ?_ _)); exact BK448.out) hb)
            have n3_ := Aa.mk (Ap (by repeat (first | (with_reducible first | exact HB.out | apply Ae | apply Ac | apply Ad | refine Ag ?_ GE448.out) | exact HB.out)) hb)
            clear HO457
            clear BK448
            clear HB
            have HO457 := n0_
            have HO451 := n1_
            have BK448 := n2_
            have HB := n3_
            clear n0_ n1_ n2_ n3_
            clear hb ho12
            refine hK.out _ _ ⟨(Bd BK448.out 0).trans rfl, (Bd BK448.out 1).trans rfl⟩ (fun hHeld => ?_)
            clear hK K
            refine E5 (a' := ?_) ?_ ?_
            rotate_left
            · show Act.put _ (some 7) _ = _
              simp only [Act.put, List.setIfInBounds_toArray, List.set_cons_zero, List.set_cons_succ, Dh, Dp]
              rfl
            refine one_ (i := 2) (N := some 9) #[true, true, true, true, true, false, false] rfl rfl (by kernel_rfl) (by decide) (fun K hK => ?_)
            refine Kd.Fz k40 (w0 := w) w.heap.size (by rfl) (.tmp 7) (.tmp 8) 26 40 (.agg #[(.int .i64 0), (.int .i64 0)]) 16 rfl Tryd.underlying26 Hr rfl (by decide) (by omega) v450 y449 l0 _ _ _ (fun k_ => some k_ ≠ (v456 : Value).ownBlock ∧ k_ ≠ gb448) (fun _ => False) rfl rfl ?aO ?aR (fun _ _ h => h) (fun _ h => h.elim) ?aF ?aB ?aS ?aL ?_
            (case aR => repeat (first | exact (Kd.Gm HR0.out HB.out) | (with_reducible refine Kd.Ci ?_ _) | (with_reducible refine Kd.Cf ?_ _) | (with_reducible refine Kd.Di ?_)))
            (case aB => exact (by repeat (first | (with_reducible first | exact HB.out | apply Ae | apply Ac | apply Ad | refine Ag ?_ GE448.out) | exact HB.out)))
            (case aF => exact (fun k_ hk => ⟨Kd.fresh' (Kd.Gs (by (with_reducible repeat (first | apply Kd.Ah | apply Kd.Ai | apply Kd.Ak)); exact HO457.out)) k_ hk, Kd.Ih (g := gb448) (o := .cells #[.int .i64 a1_0, .int .i64 a1_1] 40 (0, 0)) (by (with_reducible repeat (first | refine Au ?_ _ | refine Az ?_ | refine Ar ?_ _)); exact BK448.out) k_ hk⟩))
            (case aO => exact (by (with_reducible repeat (first | apply Kd.Ah | apply Kd.Ai | apply Kd.Ak)); exact Kd.R_mono HO451.out (fun _ hk => ⟨hk.1.2, hk.2⟩)))
            (case aS => exact (Aq (by repeat (first | (with_reducible first | exact HB.out | apply Ae | apply Ac | apply Ad | refine Ag ?_ GE448.out) | exact HB.out))))
            (case aL => have := LMc3.out; omega)
            intro v453 w13 ho hb hg hat
            rw [← Ny452.out] at ho
            have n0_ := Aa.mk (Gy (g := gb448) (o := .cells #[.int .i64 a1_0, .int .i64 a1_1] 40 (0, 0)) (by (with_reducible repeat (first | refine Au ?_ _ | refine Az ?_ | refine Ar ?_ _)); exact BK448.out) hg (Kd.Ij HO451.out (fun _ hk => hk.2)))
            have n1_ := Aa.mk (Kd.Ir (ok := (fun k_ => k_ ≠ gb448)) (by (with_reducible repeat (first | apply Kd.Ah | apply Kd.Ai | apply Kd.Ak)); exact Kd.R_mono HO457.out (fun _ hk => ⟨hk.1.2, hk.2⟩)) hg hat)
            have n2_ := Aa.mk (hb)
            have n3_ := Aa.mk (ho)
            clear BK448
            clear HO457
            clear HB
            clear HO451
            have BK448 := n0_
            have HO457 := n1_
            have HB := n2_
            have HO454 := n3_
            clear n0_ n1_ n2_ n3_
            clear ho hb hg hat
            refine hK.out _ _ ⟨(Bd BK448.out 0).trans rfl, (Bd BK448.out 1).trans rfl⟩ (fun hHeld => ?_)
            clear hK K
            refine E5 (a' := ?_) ?_ ?_
            rotate_left
            · show Act.put _ (some 9) _ = _
              simp only [Act.put, List.setIfInBounds_toArray, List.set_cons_zero, List.set_cons_succ, Dh, Dp]
              rfl
            exact E5 (by simp only [Ht, Act.put, List.setIfInBounds_toArray, List.set_cons_zero, List.set_cons_succ]) (hCont (v450, v453, v456) _ ⟨hHeld, (by (with_reducible repeat (first | apply Kd.Ah | apply Kd.Ai | apply Kd.Ak)); exact HO454.out), (by (with_reducible repeat (first | apply Kd.Ah | apply Kd.Ai | apply Kd.Ak)); exact Kd.R_mono HO457.out (fun _ hk => ⟨hk.2, hk.1⟩)), (by (with_reducible repeat (first | refine Au ?_ _ | refine Az ?_ | refine Ar ?_ _)); exact BK448.out), (by repeat (first | (with_reducible first | exact HB.out | apply Ae | apply Ac | apply Ad | refine Ag ?_ GE448.out) | exact HB.out))⟩)
        rintro ⟨v450, v453, v456⟩ w14 ⟨hS_, h0_, h1_, h2_, h3_⟩
        have n0_ : Aa (Kd.R k40 40 w14 w.heap.size (fun k_ => some k_ ≠ (v456 : Value).ownBlock ∧ k_ ≠ gb448) v453 y452) := ⟨h0_⟩
        have n1_ : Aa (Kd.R k40 40 w14 w.heap.size (fun k_ => some k_ ≠ (v453 : Value).ownBlock ∧ k_ ≠ gb448) v456 y455) := ⟨h1_⟩
        have n2_ : Aa (w14.heap[gb448]? = some (.cells #[.int .i64 a1_0, .int .i64 a1_1] 40 (0, 0))) := ⟨h2_⟩
        have n3_ : Aa (Below w.heap.size w w14) := ⟨h3_⟩
        clear BK448
        clear HB
        clear h0_ h1_ h2_ h3_
        have HO454 := n0_
        have HO457 := n1_
        have BK448 := n2_
        have HB := n3_
        clear n0_ n1_ n2_ n3_
        have hHeld : w14.cell? ⟨gb448, 0, none⟩ = some (.int .i64 a1_0) ∧ w14.cell? ⟨gb448, 1, none⟩ = some (.int .i64 a1_1) := hS_
        obtain ⟨Ao16, co16, eo16⟩ := Kd.Ef HO457.out
        (first | subst eo16 | (injection eo16 with f1_ f2_ f3_; have f4_ := f1_.symm; have f5_ := f3_.symm; clear f1_ f2_ f3_; subst f4_; subst f5_))
        refine E5 (a' := ?_) ?_ ?_
        rotate_left
        · simp only [Ht, Act.put, List.setIfInBounds_toArray, List.set_cons_zero, List.set_cons_succ]
          rfl
        refine one_ (i := 5) (N := some 12) #[true, true, true, true, true, true, false] rfl rfl (by kernel_rfl) (by decide) (fun K hK => ?_)
        refine Kd.Fz k40 (w0 := w) w.heap.size (by rfl) (.tmp 9) (.tmp 11) 26 40 (.agg #[(.int .i64 0), (.int .i64 0)]) 16 rfl Tryd.underlying26 Hr rfl (by decide) (by omega) v453 y452 y455 _ _ _ (fun k_ => some k_ ≠ (.slice Ao16 y455.length co16 : Value).ownBlock ∧ k_ ≠ gb448) (fun _ => False) rfl rfl ?aO ?aR (fun _ _ h => h) (fun _ h => h.elim) ?aF ?aB ?aS ?aL ?_
        (case aR => repeat (first | exact (Kd.Ba HO457.out).2.2 | (with_reducible refine Kd.Ci ?_ _) | (with_reducible refine Kd.Cf ?_ _) | (with_reducible refine Kd.Di ?_)))
        (case aB => exact (by repeat (first | (with_reducible first | exact HB.out | apply Ae | apply Ac | apply Ad | refine Ag ?_ GE448.out) | exact HB.out)))
        (case aF => exact (fun k_ hk => ⟨Kd.fresh' (Kd.Gs (by (with_reducible repeat (first | apply Kd.Ah | apply Kd.Ai | apply Kd.Ak)); exact HO457.out)) k_ hk, Kd.Ih (g := gb448) (o := .cells #[.int .i64 a1_0, .int .i64 a1_1] 40 (0, 0)) (by (with_reducible repeat (first | refine Au ?_ _ | refine Az ?_ | refine Ar ?_ _)); exact BK448.out) k_ hk⟩))
        (case aO => exact (by (with_reducible repeat (first | apply Kd.Ah | apply Kd.Ai | apply Kd.Ak)); exact HO454.out))
        (case aS => exact (Aq (by repeat (first | (with_reducible first | exact HB.out | apply Ae | apply Ac | apply Ad | refine Ag ?_ GE448.out) | exact HB.out))))
        (case aL => have := LMc4.out; omega)
        intro v459 w15 ho hb hg hat
        rw [← Ny458.out] at ho
        have n0_ := Aa.mk (Gy (g := gb448) (o := .cells #[.int .i64 a1_0, .int .i64 a1_1] 40 (0, 0)) (by (with_reducible repeat (first | refine Au ?_ _ | refine Az ?_ | refine Ar ?_ _)); exact BK448.out) hg (Kd.Ij HO454.out (fun _ hk => hk.2)))
        have n1_ := Aa.mk (Kd.Ir (ok := (fun k_ => k_ ≠ gb448)) (by (with_reducible repeat (first | apply Kd.Ah | apply Kd.Ai | apply Kd.Ak)); exact Kd.R_mono HO457.out (fun _ hk => ⟨hk.2, hk.1⟩)) hg hat)
        have n2_ := Aa.mk (hb)
        have n3_ := Aa.mk (ho)
        clear BK448
        clear HO457
        clear HB
        clear HO454
        have BK448 := n0_
        have HO457 := n1_
        have HB := n2_
        have HO460 := n3_
        clear n0_ n1_ n2_ n3_
        clear ho hb hg hat
        refine hK.out _ _ ⟨(Bd BK448.out 0).trans rfl, (Bd BK448.out 1).trans rfl⟩ (fun hHeld => ?_)
        clear hK K
        refine E5 (a' := ?_) ?_ ?_
        rotate_left
        · show Act.put _ (some 12) _ = _
          simp only [Act.put, List.setIfInBounds_toArray, List.set_cons_zero, List.set_cons_succ, Dh, Dp]
          rfl
        refine Fq (i := 6) (N := some 6) (v := ?_) (a' := ?_) #[true, true, true, true, true, true, true] rfl rfl (by kernel_rfl) (fun _ _ _ h => h) (Or.inl ⟨by rfl, ?_⟩) ?_ ?_
        rotate_left
        · intro w'
          go_simp
          with_reducible rfl
        rotate_left
        · simp only [Act.put, List.setIfInBounds_toArray, List.set_cons_zero, List.set_cons_succ, Dh, Dp]
          rfl
        refine done_ (by kernel_rfl) ?_
        try go_wp2_with (first | ((with_reducible refine Bv (f := 25) rfl ?_); refine D5 (some 14) rfl rfl Tryd.func25 (by kernel_rfl) rfl #[.slice A0 l0.length c0] rfl (by (try simp only [List.map_toArray, List.map_cons, List.map_nil]); first | done | rfl | (simp only [List.length_drop, List.length_take]; rfl)) ?_; (with_reducible refine (Bh.calls k _ _ l0 t461 _ ?side1 ?side2 A5.out).mono ?_); (case side1 => repeat (first | exact (Kd.Gm HR0.out HB.out) | (with_reducible refine Kd.Ci ?_ _) | (with_reducible refine Kd.Cf ?_ _) | (with_reducible refine Kd.Di ?_))); (case side2 => exact HC0.out); rintro e w' ⟨rfl, ⟨nd, rfl⟩⟩; refine ⟨_, rfl, ?_⟩) | ((with_reducible refine D7 (N := 21) rfl ?_); refine Kd.Ii k40 _ 40 ?hg (N := 21) ?hd (xs := ([] : List (S40))) (inner := []) (ok := fun _ => True) (okp := fun _ => True) ?hr ?hp (fun _ hk => hk) trivial (Below.refl _ _) (Nat.le_refl _) (by simp) ?_; (case hd => rfl); (case hg => rfl); (case hr => first | (go_simp; done) | (go_simp; rfl)); (case hp => exact (Dw.none _ _)); intro v463 w17 ho18 hb hg_ hnew_; clear hg_ hnew_; (first | rw [← Ny462.out] at ho18 | (simp only [Int.reduceToNat] at ho18; rw [← Ny462.out] at ho18)); have n0_ := Aa.mk (Kd.Ff (by (with_reducible repeat (first | apply Kd.Ah | apply Kd.Ai | apply Kd.Ak)); exact HO457.out) (Kd.Gg ho18) hb); have n1_ := Aa.mk (Kd.Ff (by (with_reducible repeat (first | apply Kd.Ah | apply Kd.Ai | apply Kd.Ak)); exact HO460.out) (Kd.Gg ho18) hb); have n2_ := Aa.mk (Kd.Du (Kd.Gj (Kd.Gh (Kd.Gh ho18 (Kd.Gs (by (with_reducible repeat (first | apply Kd.Ah | apply Kd.Ai | apply Kd.Ak)); exact HO457.out))) (Kd.Gs (by (with_reducible repeat (first | apply Kd.Ah | apply Kd.Ai | apply Kd.Ak)); exact HO460.out))) (g := gb448) (o := .cells #[.int .i64 a1_0, .int .i64 a1_1] 40 (0, 0)) (by (with_reducible repeat (first | refine Au ?_ _ | refine Az ?_ | refine Ar ?_ _)); exact BK448.out)) (Aq (by repeat (first | (with_reducible first | exact HB.out | apply Ae | apply Ac | apply Ad | refine Ag ?_ GE448.out) | exact HB.out)))); have n3_ := Aa.mk (Dv (g := gb448) (o := .cells #[.int .i64 a1_0, .int .i64 a1_1] 40 (0, 0)) (by (with_reducible repeat (first | refine Au ?_ _ | refine Az ?_ | refine Ar ?_ _)); exact BK448.out) hb); have n4_ := Aa.mk (Ap (by repeat (first | (with_reducible first | exact HB.out | apply Ae | apply Ac | apply Ad | refine Ag ?_ GE448.out) | exact HB.out)) hb); clear HO457; clear HO460; clear BK448; clear HB; have HO457 := n0_; have HO460 := n1_; have HO464 := n2_; have BK448 := n3_; have HB := n4_; clear n0_ n1_ n2_ n3_ n4_; clear hb ho18))
        go_ret2
        exact ⟨_, by first | rfl | (simp [Be, Bf] <;> rfl) | (simp [*, Be, Bf] <;> rfl), by (with_reducible repeat (first | apply Kd.Ah | apply Kd.Ai | apply Kd.Ak)); exact Kd.R_mono HO464.out (fun _ hk => trivial), by repeat (first | (with_reducible first | exact HB.out | apply Ae | apply Ac | apply Ad | refine Ag ?_ GE448.out) | exact HB.out)⟩
      · rw [if_neg c6] at H
        have c6b0 : decide (t461 < 0) = false := decide_eq_false c6
        clear c6
        replace H := Option.bind_eq_some_iff.mp H
        obtain ⟨t465, A190, H⟩ := H
        replace H : (if t465 < 0 then (some ((([] : List (S40))), false)) else (some (y458, true))) = some (r1, r2) := H
        have A19 := Aa.mk A190
        clear A190
        by_cases c20 : t465 < 0
        · rw [if_pos c20] at H
          have c20b0 : decide (t465 < 0) = true := decide_eq_true c20
          clear c20
          obtain ⟨y466, hy466⟩ : ∃ y_ : List (S40), y_ = (([] : List (S40))) := ⟨_, rfl⟩
          replace H : (some (y466, false)) = some (r1, r2) := by first | (rw [hy466]; with_reducible exact H) | (have H2_ := (Option.bind_some _ _).symm.trans H; rw [hy466]; with_reducible exact H2_) | (have H2_ := (Option.bind_some _ _).symm.trans H; with_reducible exact H2_) | with_reducible exact H | (rw [hy466]; exact H) | exact H
          have Ny466 := Aa.mk hy466
          clear hy466
          simp only [Option.some.injEq, Prod.mk.injEq] at H
          obtain ⟨rfl, rfl⟩ := H
          go_enter Tryd.func22, Tryd.ntmps22
          try go_wp2_with (first | ((with_reducible refine D7 (N := 3) rfl ?_); refine Es ?hg (N := 3) ?hd (cs := #[.int .i64 a1_0, .int .i64 a1_1]) (t := 40) ?hr ?_; (case hd => rfl); (case hg => rfl); (case hr => first | (go_simp; done) | (go_simp; rfl)); intro gb448 hg w21 hbox hb; have n0_ := Aa.mk (Ap (by repeat (first | (with_reducible first | exact HB.out | apply Ae | apply Ac | apply Ad) | exact HB.out)) hb); have n1_ := Aa.mk (hbox); have n2_ := Aa.mk ((by rw [hg]; exact (Aq (by repeat (first | (with_reducible first | exact HB.out | apply Ae | apply Ac | apply Ad) | exact HB.out))) : w.heap.size ≤ gb448)); have n3_ := Aa.mk ((by rw [hg]; exact (Aq (by repeat (first | (with_reducible first | exact HB.out | apply Ae | apply Ac | apply Ad) | exact HB.out))) : w.heap.size ≤ gb448)); clear HB; have HB := n0_; have BK448 := n1_; have GW448 := n2_; have GE448 := n3_; clear n0_ n1_ n2_ n3_; clear hb hbox hg))
          have n0_ := Aa.mk (Az BK448.out)
          have n1_ := Aa.mk (Ad HB.out)
          clear BK448
          clear HB
          have BK448 := n0_
          have HB := n1_
          clear n0_ n1_
          refine start_ (n := 7) (S := fun w' => w'.cell? ⟨gb448, 0, none⟩ = some (.int .i64 a1_0) ∧ w'.cell? ⟨gb448, 1, none⟩ = some (.int .i64 a1_1)) (ds := []) #[false, false, false, false, false, false, false] (by kernel_rfl) rfl rfl ⟨(Bd BK448.out 0).trans rfl, (Bd BK448.out 1).trans rfl⟩ (fun hHeld => ?_)
          generalize w21.drew = w22 at BK448 HB hHeld ⊢
          refine Fq (i := 1) (N := some 8) (v := ?_) (a' := ?_) #[false, true, false, false, false, false, false] rfl rfl (by kernel_rfl) (fun _ _ _ h => h) (Or.inl ⟨by rfl, ?_⟩) ?_ ?_
          rotate_left
          · intro w'
            go_simp
            with_reducible rfl
          rotate_left
          · simp only [Act.put, List.setIfInBounds_toArray, List.set_cons_zero, List.set_cons_succ, Dh, Dp]
            rfl
          refine take_ (i := 3) (N := some 10) (v := ?_) (a' := ?_) #[false, true, false, true, false, false, false] rfl rfl (by kernel_rfl) (fun _ _ _ h => h) (Or.inl ⟨by rfl, ?_⟩) hHeld ?_ ?_
          rotate_left
          · rintro w' ⟨s0, s1⟩
            go_simp
            with_reducible rfl
          rotate_left
          · simp only [Act.put, List.setIfInBounds_toArray, List.set_cons_zero, List.set_cons_succ, Dh, Dp]
            rfl
          refine join_ (σ := Value × Value × Value) 2 #[true, true, true, true, true, false, false] (fun s_ => [(7, s_.1), (9, s_.2.1), (11, s_.2.2)]) (fun s_ w' => (w'.cell? ⟨gb448, 0, none⟩ = some (.int .i64 a1_0) ∧ w'.cell? ⟨gb448, 1, none⟩ = some (.int .i64 a1_1)) ∧ (Kd.R k40 40 w' w.heap.size (fun k_ => some k_ ≠ (s_.2.2 : Value).ownBlock ∧ k_ ≠ gb448) s_.2.1 y452) ∧ (Kd.R k40 40 w' w.heap.size (fun k_ => some k_ ≠ (s_.2.1 : Value).ownBlock ∧ k_ ≠ gb448) s_.2.2 y455) ∧ (w'.heap[gb448]? = some (.cells #[.int .i64 a1_0, .int .i64 a1_1] 40 (0, 0))) ∧ (Below w.heap.size w w')) ?_ ?_
          rotate_left
          · intro hCont
            refine two_ (i := 0) (j := 4) (Ni := some 7) (Nj := some 11) #[true, true, false, true, false, false, false] #[false, true, false, true, true, false, false] rfl rfl rfl rfl (by kernel_rfl) (by decide) (by decide) (fun K hK => ?_) (fun K hK => ?_)
            · skip
              refine Kd.Gn k40 _ 40 ?hg (N := 7) ?hd (xs := ([] : List (S40))) (inner := []) (ok := fun _ => True) (okp := fun _ => True) ?hr ?hp (fun _ hk => hk) trivial (Below.refl _ _) (Nat.le_refl _) (by simp) ?_; (case hd => rfl); (case hg => rfl); (case hr => first | (go_simp; done) | (go_simp; rfl)); (case hp => exact (Dw.none _ _))
              intro v450 w23 ho24 hb hg_ hnew_
              clear hg_ hnew_
              (first | rw [← Ny449.out] at ho24 | (simp only [Int.reduceToNat] at ho24; rw [← Ny449.out] at ho24))
              have n0_ := Aa.mk (Kd.Du (Kd.Gj ho24 (g := gb448) (o := .cells #[.int .i64 a1_0, .int .i64 a1_1] 40 (0, 0)) (by (with_reducible repeat (first | refine Au ?_ _ | refine Az ?_ | refine Ar ?_ _)); exact BK448.out)) (Aq (by repeat (first | (with_reducible first | exact HB.out | apply Ae | apply Ac | apply Ad | refine Ag ?_ GE448.out) | exact HB.out))))
              have n1_ := Aa.mk (Dv (g := gb448) (o := .cells #[.int .i64 a1_0, .int .i64 a1_1] 40 (0, 0)) (by (with_reducible repeat (first | refine Au ?_ _ | refine Az ?_ | refine Ar ?_ _)); exact BK448.out) hb)
              have n2_ := Aa.mk (Ap (by repeat (first | (with_reducible first | exact HB.out | apply Ae | apply Ac | apply Ad | refine Ag ?_ GE448.out) | exact HB.out)) hb)
              clear BK448
              clear HB
              have HO451 := n0_
              have BK448 := n1_
              have HB := n2_
              clear n0_ n1_ n2_
              clear hb ho24
              refine hK.out _ _ ⟨(Bd BK448.out 0).trans rfl, (Bd BK448.out 1).trans rfl⟩ (fun hHeld => ?_)
              clear hK K
              refine E5 (a' := ?_) ?_ ?_
              rotate_left
              · show Act.put _ (some 7) _ = _
                simp only [Act.put, List.setIfInBounds_toArray, List.set_cons_zero, List.set_cons_succ, Dh, Dp]
                rfl
              refine two_ (i := 2) (j := 4) (Ni := some 9) (Nj := some 11) #[true, true, true, true, false, false, false] #[true, true, false, true, true, false, false] rfl rfl rfl rfl (by kernel_rfl) (by decide) (by decide) (fun K hK => ?_) (fun K hK => ?_)
              · skip
                refine Kd.Fz k40 (w0 := w) w.heap.size (by rfl) (.tmp 7) (.tmp 8) 26 40 (.agg #[(.int .i64 0), (.int .i64 0)]) 16 rfl Tryd.underlying26 Hr rfl (by decide) (by omega) v450 y449 l0 _ _ _ (fun k_ => k_ ≠ gb448) (fun _ => False) rfl rfl ?aO ?aR (fun _ _ h => h) (fun _ h => h.elim) ?aF ?aB ?aS ?aL ?_
                (case aR => repeat (first | exact (Kd.Gm HR0.out HB.out) | (with_reducible refine Kd.Ci ?_ _) | (with_reducible refine Kd.Cf ?_ _) | (with_reducible refine Kd.Di ?_)))
                (case aB => exact (by repeat (first | (with_reducible first | exact HB.out | apply Ae | apply Ac | apply Ad | refine Ag ?_ GE448.out) | exact HB.out)))
                (case aF => exact (fun k_ hk => Kd.Ih (g := gb448) (o := .cells #[.int .i64 a1_0, .int .i64 a1_1] 40 (0, 0)) (by (with_reducible repeat (first | refine Au ?_ _ | refine Az ?_ | refine Ar ?_ _)); exact BK448.out) k_ hk))
                (case aO => exact (by (with_reducible repeat (first | apply Kd.Ah | apply Kd.Ai | apply Kd.Ak)); exact Kd.R_mono HO451.out (fun _ hk => hk.2)))
                (case aS => exact (Aq (by repeat (first | (with_reducible first | exact HB.out | apply Ae | apply Ac | apply Ad | refine Ag ?_ GE448.out) | exact HB.out))))
                (case aL => have := LMc3.out; omega)
                intro v453 w25 ho hb hg hat
                rw [← Ny452.out] at ho
                have n0_ := Aa.mk (Gy (g := gb448) (o := .cells #[.int .i64 a1_0, .int .i64 a1_1] 40 (0, 0)) (by (with_reducible repeat (first | refine Au ?_ _ | refine Az ?_ | refine Ar ?_ _)); exact BK448.out) hg (Kd.Ij HO451.out (fun _ hk => hk.2)))
                have n1_ := Aa.mk (hb)
                have n2_ := Aa.mk (ho)
                clear BK448
                clear HB
                clear HO451
                have BK448 := n0_
                have HB := n1_
                have HO454 := n2_
                clear n0_ n1_ n2_
                clear ho hb hg hat
                refine hK.out _ _ ⟨(Bd BK448.out 0).trans rfl, (Bd BK448.out 1).trans rfl⟩ (fun hHeld => ?_)
                clear hK K
                refine E5 (a' := ?_) ?_ ?_
                rotate_left
                · show Act.put _ (some 9) _ = _
                  simp only [Act.put, List.setIfInBounds_toArray, List.set_cons_zero, List.set_cons_succ, Dh, Dp]
                  rfl
                refine one_ (i := 4) (N := some 11) #[true, true, true, true, true, false, false] rfl rfl (by kernel_rfl) (by decide) (fun K hK => ?_)
                refine Kd.Gn k40 _ 40 ?hg (N := 11) ?hd (xs := ([(⟨a1_0, a1_1⟩ : S40)] : List (S40))) (inner := [.int .i64 a1_0, .int .i64 a1_1]) (ok := fun _ => True) (okp := fun _ => True) ?hr ?hp (fun _ hk => hk) trivial (Below.refl _ _) (Nat.le_refl _) (by simp) ?_; (case hd => rfl); (case hg => rfl); (case hr => first | (go_simp; done) | (go_simp; rfl)); (case hp => exact (Dw.c2 (show Kd.M k40 _ _ _ (⟨a1_0, a1_1⟩ : S40) [.int .i64 a1_0, .int .i64 a1_1] from (G8 _ _ _ (⟨a1_0, a1_1⟩ : S40) )) (Dw.none _ _)))
                intro v456 w26 ho27 hb hg_ hnew_
                clear hg_ hnew_
                (first | rw [← Ny455.out] at ho27 | (simp only [Int.reduceToNat] at ho27; rw [← Ny455.out] at ho27))
                have n0_ := Aa.mk (Kd.Ff (by (with_reducible repeat (first | apply Kd.Ah | apply Kd.Ai | apply Kd.Ak)); exact HO454.out) (Kd.Gg ho27) hb)
                have n1_ := Aa.mk (Kd.Du (Kd.Gj (Kd.Gh ho27 (Kd.Gs (by (with_reducible repeat (first | apply Kd.Ah | apply Kd.Ai | apply Kd.Ak)); exact HO454.out))) (g := gb448) (o := .cells #[.int .i64 a1_0, .int .i64 a1_1] 40 (0, 0)) (by (with_reducible repeat (first | refine Au ?_ _ | refine Az ?_ | refine Ar ?_ _)); exact BK448.out)) (Aq (by repeat (first | (with_reducible first | exact HB.out | apply Ae | apply Ac | apply Ad | refine Ag ?_ GE448.out) | exact HB.out))))
                have n2_ := Aa.mk (Dv (g := gb448) (o := .cells #[.int .i64 a1_0, .int .i64 a1_1] 40 (0, 0)) (by (with_reducible repeat (first | refine Au ?_ _ | refine Az ?_ | refine Ar ?_ _)); exact BK448.out) hb)
                have n3_ := Aa.mk (Ap (by repeat (first | (with_reducible first | exact HB.out | apply Ae | apply Ac | apply Ad | refine Ag ?_ GE448.out) | exact HB.out)) hb)
                clear HO454
                clear BK448
                clear HB
                have HO454 := n0_
                have HO457 := n1_
                have BK448 := n2_
                have HB := n3_
                clear n0_ n1_ n2_ n3_
                clear hb ho27
                refine hK.out _ _ ⟨(Bd BK448.out 0).trans rfl, (Bd BK448.out 1).trans rfl⟩ (fun hHeld => ?_)
                clear hK K
                refine E5 (a' := ?_) ?_ ?_
                rotate_left
                · show Act.put _ (some 11) _ = _
                  simp only [Act.put, List.setIfInBounds_toArray, List.set_cons_zero, List.set_cons_succ, Dh, Dp]
                  rfl
                exact E5 (by simp only [Ht, Act.put, List.setIfInBounds_toArray, List.set_cons_zero, List.set_cons_succ]) (hCont (v450, v453, v456) _ ⟨hHeld, (by (with_reducible repeat (first | apply Kd.Ah | apply Kd.Ai | apply Kd.Ak)); exact Kd.R_mono HO454.out (fun _ hk => ⟨hk.2, hk.1⟩)), (by (with_reducible repeat (first | apply Kd.Ah | apply Kd.Ai | apply Kd.Ak)); exact Kd.R_mono HO457.out (fun _ hk => ⟨hk.1.2, hk.2⟩)), (by (with_reducible repeat (first | refine Au ?_ _ | refine Az ?_ | refine Ar ?_ _)); exact BK448.out), (by repeat (first | (with_reducible first | exact HB.out | apply Ae | apply Ac | apply Ad | refine Ag ?_ GE448.out) | exact HB.out))⟩)
              · skip
                refine Kd.Gn k40 _ 40 ?hg (N := 11) ?hd (xs := ([(⟨a1_0, a1_1⟩ : S40)] : List (S40))) (inner := [.int .i64 a1_0, .int .i64 a1_1]) (ok := fun _ => True) (okp := fun _ => True) ?hr ?hp (fun _ hk => hk) trivial (Below.refl _ _) (Nat.le_refl _) (by simp) ?_; (case hd => rfl); (case hg => rfl); (case hr => first | (go_simp; done) | (go_simp; rfl)); (case hp => exact (Dw.c2 (show Kd.M k40 _ _ _ (⟨a1_0, a1_1⟩ : S40) [.int .i64 a1_0, .int .i64 a1_1] from (G8 _ _ _ (⟨a1_0, a1_1⟩ : S40) )) (Dw.none _ _)))
                intro v456 w25 ho26 hb hg_ hnew_
                clear hg_ hnew_
                (first | rw [← Ny455.out] at ho26 | (simp only [Int.reduceToNat] at ho26; rw [← Ny455.out] at ho26))
                have n0_ := Aa.mk (Kd.Ff (by (with_reducible repeat (first | apply Kd.Ah | apply Kd.Ai | apply Kd.Ak)); exact HO451.out) (Kd.Gg ho26) hb)
                have n1_ := Aa.mk (Kd.Du (Kd.Gj (Kd.Gh ho26 (Kd.Gs (by (with_reducible repeat (first | apply Kd.Ah | apply Kd.Ai | apply Kd.Ak)); exact HO451.out))) (g := gb448) (o := .cells #[.int .i64 a1_0, .int .i64 a1_1] 40 (0, 0)) (by (with_reducible repeat (first | refine Au ?_ _ | refine Az ?_ | refine Ar ?_ _)); exact BK448.out)) (Aq (by repeat (first | (with_reducible first | exact HB.out | apply Ae | apply Ac | apply Ad | refine Ag ?_ GE448.out) | exact HB.out))))
                have n2_ := Aa.mk (Dv (g := gb448) (o := .cells #[.int .i64 a1_0, .int .i64 a1_1] 40 (0, 0)) (by (with_reducible repeat (first | refine Au ?_ _ | refine Az ?_ | refine Ar ?_ _)); exact BK448.out) hb)
                have n3_ := Aa.mk (Ap (by repeat (first | (with_reducible first | exact HB.out | apply Ae | apply Ac | apply Ad | refine Ag ?_ GE448.out) | exact HB.out)) hb)
                clear HO451
                clear BK448
                clear HB
                have HO451 := n0_
                have HO457 := n1_
                have BK448 := n2_
                have HB := n3_
                clear n0_ n1_ n2_ n3_
                clear hb ho26
                refine hK.out _ _ ⟨(Bd BK448.out 0).trans rfl, (Bd BK448.out 1).trans rfl⟩ (fun hHeld => ?_)
                clear hK K
                refine E5 (a' := ?_) ?_ ?_
                rotate_left
                · show Act.put _ (some 11) _ = _
                  simp only [Act.put, List.setIfInBounds_toArray, List.set_cons_zero, List.set_cons_succ, Dh, Dp]
                  rfl
                refine one_ (i := 2) (N := some 9) #[true, true, true, true, true, false, false] rfl rfl (by kernel_rfl) (by decide) (fun K hK => ?_)
                refine Kd.Fz k40 (w0 := w) w.heap.size (by rfl) (.tmp 7) (.tmp 8) 26 40 (.agg #[(.int .i64 0), (.int .i64 0)]) 16 rfl Tryd.underlying26 Hr rfl (by decide) (by omega) v450 y449 l0 _ _ _ (fun k_ => some k_ ≠ (v456 : Value).ownBlock ∧ k_ ≠ gb448) (fun _ => False) rfl rfl ?aO ?aR (fun _ _ h => h) (fun _ h => h.elim) ?aF ?aB ?aS ?aL ?_
                (case aR => repeat (first | exact (Kd.Gm HR0.out HB.out) | (with_reducible refine Kd.Ci ?_ _) | (with_reducible refine Kd.Cf ?_ _) | (with_reducible refine Kd.Di ?_)))
                (case aB => exact (by repeat (first | (with_reducible first | exact HB.out | apply Ae | apply Ac | apply Ad | refine Ag ?_ GE448.out) | exact HB.out)))
                (case aF => exact (fun k_ hk => ⟨Kd.fresh' (Kd.Gs (by (with_reducible repeat (first | apply Kd.Ah | apply Kd.Ai | apply Kd.Ak)); exact HO457.out)) k_ hk, Kd.Ih (g := gb448) (o := .cells #[.int .i64 a1_0, .int .i64 a1_1] 40 (0, 0)) (by (with_reducible repeat (first | refine Au ?_ _ | refine Az ?_ | refine Ar ?_ _)); exact BK448.out) k_ hk⟩))
                (case aO => exact (by (with_reducible repeat (first | apply Kd.Ah | apply Kd.Ai | apply Kd.Ak)); exact Kd.R_mono HO451.out (fun _ hk => ⟨hk.2, hk.1.2⟩)))
                (case aS => exact (Aq (by repeat (first | (with_reducible first | exact HB.out | apply Ae | apply Ac | apply Ad | refine Ag ?_ GE448.out) | exact HB.out))))
                (case aL => have := LMc3.out; omega)
                intro v453 w27 ho hb hg hat
                rw [← Ny452.out] at ho
                have n0_ := Aa.mk (Gy (g := gb448) (o := .cells #[.int .i64 a1_0, .int .i64 a1_1] 40 (0, 0)) (by (with_reducible repeat (first | refine Au ?_ _ | refine Az ?_ | refine Ar ?_ _)); exact BK448.out) hg (Kd.Ij HO451.out (fun _ hk => hk.1.2)))
                have n1_ := Aa.mk (Kd.Ir (ok := (fun k_ => k_ ≠ gb448)) (by (with_reducible repeat (first | apply Kd.Ah | apply Kd.Ai | apply Kd.Ak)); exact Kd.R_mono HO457.out (fun _ hk => ⟨hk.2, hk.1.2⟩)) hg hat)
                have n2_ := Aa.mk (hb)
                have n3_ := Aa.mk (ho)
                clear BK448
                clear HO457
                clear HB
                clear HO451
                have BK448 := n0_
                have HO457 := n1_
                have HB := n2_
                have HO454 := n3_
                clear n0_ n1_ n2_ n3_
                clear ho hb hg hat
                refine hK.out _ _ ⟨(Bd BK448.out 0).trans rfl, (Bd BK448.out 1).trans rfl⟩ (fun hHeld => ?_)
                clear hK K
                refine E5 (a' := ?_) ?_ ?_
                rotate_left
                · show Act.put _ (some 9) _ = _
                  simp only [Act.put, List.setIfInBounds_toArray, List.set_cons_zero, List.set_cons_succ, Dh, Dp]
                  rfl
                exact E5 (by simp only [Ht, Act.put, List.setIfInBounds_toArray, List.set_cons_zero, List.set_cons_succ]) (hCont (v450, v453, v456) _ ⟨hHeld, (by (with_reducible repeat (first | apply Kd.Ah | apply Kd.Ai | apply Kd.Ak)); exact HO454.out), (by (with_reducible repeat (first | apply Kd.Ah | apply Kd.Ai | apply Kd.Ak)); exact Kd.R_mono HO457.out (fun _ hk => ⟨hk.2, hk.1⟩)), (by (with_reducible repeat (first | refine Au ?_ _ | refine Az ?_ | refine Ar ?_ _)); exact BK448.out), (by repeat (first | (with_reducible first | exact HB.out | apply Ae | apply Ac | apply Ad | refine Ag ?_ GE448.out) | exact HB.out))⟩)
            · skip
              refine Kd.Gn k40 _ 40 ?hg (N := 11) ?hd (xs := ([(⟨a1_0, a1_1⟩ : S40)] : List (S40))) (inner := [.int .i64 a1_0, .int .i64 a1_1]) (ok := fun _ => True) (okp := fun _ => True) ?hr ?hp (fun _ hk => hk) trivial (Below.refl _ _) (Nat.le_refl _) (by simp) ?_; (case hd => rfl); (case hg => rfl); (case hr => first | (go_simp; done) | (go_simp; rfl)); (case hp => exact (Dw.c2 (show Kd.M k40 _ _ _ (⟨a1_0, a1_1⟩ : S40) [.int .i64 a1_0, .int .i64 a1_1] from (G8 _ _ _ (⟨a1_0, a1_1⟩ : S40) )) (Dw.none _ _)))
              intro v456 w23 ho24 hb hg_ hnew_
              clear hg_ hnew_
              (first | rw [← Ny455.out] at ho24 | (simp only [Int.reduceToNat] at ho24; rw [← Ny455.out] at ho24))
              have n0_ := Aa.mk (Kd.Du (Kd.Gj ho24 (g := gb448) (o := .cells #[.int .i64 a1_0, .int .i64 a1_1] 40 (0, 0)) (by (with_reducible repeat (first | refine Au ?_ _ | refine Az ?_ | refine Ar ?_ _)); exact BK448.out)) (Aq (by repeat (first | (with_reducible first | exact HB.out | apply Ae | apply Ac | apply Ad | refine Ag ?_ GE448.out) | exact HB.out))))
              have n1_ := Aa.mk (Dv (g := gb448) (o := .cells #[.int .i64 a1_0, .int .i64 a1_1] 40 (0, 0)) (by (with_reducible repeat (first | refine Au ?_ _ | refine Az ?_ | refine Ar ?_ _)); exact BK448.out) hb)
              have n2_ := Aa.mk (Ap (by repeat (first | (with_reducible first | exact HB.out | apply Ae | apply Ac | apply Ad | refine Ag ?_ GE448.out) | exact HB.out)) hb)
              clear BK448
              clear HB
              have HO457 := n0_
              have BK448 := n1_
              have HB := n2_
              clear n0_ n1_ n2_
              clear hb ho24
              refine hK.out _ _ ⟨(Bd BK448.out 0).trans rfl, (Bd BK448.out 1).trans rfl⟩ (fun hHeld => ?_)
              clear hK K
              refine E5 (a' := ?_) ?_ ?_
              rotate_left
              · show Act.put _ (some 11) _ = _
                simp only [Act.put, List.setIfInBounds_toArray, List.set_cons_zero, List.set_cons_succ, Dh, Dp]
                rfl
              refine one_ (i := 0) (N := some 7) #[true, true, false, true, true, false, false] rfl rfl (by kernel_rfl) (by decide) (fun K hK => ?_)
              refine Kd.Gn k40 _ 40 ?hg (N := 7) ?hd (xs := ([] : List (S40))) (inner := []) (ok := fun _ => True) (okp := fun _ => True) ?hr ?hp (fun _ hk => hk) trivial (Below.refl _ _) (Nat.le_refl _) (by simp) ?_; (case hd => rfl); (case hg => rfl); (case hr => first | (go_simp; done) | (go_simp; rfl)); (case hp => exact (Dw.none _ _))
              intro v450 w25 ho26 hb hg_ hnew_
              clear hg_ hnew_
              (first | rw [← Ny449.out] at ho26 | (simp only [Int.reduceToNat] at ho26; rw [← Ny449.out] at ho26))
              have n0_ := Aa.mk (Kd.Ff (by (with_reducible repeat (first | apply Kd.Ah | apply Kd.Ai | apply Kd.Ak)); exact HO457.out) (Kd.Gg ho26) hb)
              have n1_ := Aa.mk (Kd.Du (Kd.Gj (Kd.Gh ho26 (Kd.Gs (by (with_reducible repeat (first | apply Kd.Ah | apply Kd.Ai | apply Kd.Ak)); exact HO457.out))) (g := gb448) (o := .cells #[.int .i64 a1_0, .int .i64 a1_1] 40 (0, 0)) (by (with_reducible repeat (first | refine Au ?_ _ | refine Az ?_ | refine Ar ?_ _)); exact BK448.out)) (Aq (by repeat (first | (with_reducible first | exact HB.out | apply Ae | apply Ac | apply Ad | refine Ag ?_ GE448.out) | exact HB.out))))
              have n2_ := Aa.mk (Dv (g := gb448) (o := .cells #[.int .i64 a1_0, .int .i64 a1_1] 40 (0, 0)) (by (with_reducible repeat (first | refine Au ?_ _ | refine Az ?_ | refine Ar ?_ _)); exact BK448.out) hb)
              have n3_ := Aa.mk (Ap (by repeat (first | (with_reducible first | exact HB.out | apply Ae | apply Ac | apply Ad | refine Ag ?_ GE448.out) | exact HB.out)) hb)
              clear HO457
              clear BK448
              clear HB
              have HO457 := n0_
              have HO451 := n1_
              have BK448 := n2_
              have HB := n3_
              clear n0_ n1_ n2_ n3_
              clear hb ho26
              refine hK.out _ _ ⟨(Bd BK448.out 0).trans rfl, (Bd BK448.out 1).trans rfl⟩ (fun hHeld => ?_)
              clear hK K
              refine E5 (a' := ?_) ?_ ?_
              rotate_left
              · show Act.put _ (some 7) _ = _
                simp only [Act.put, List.setIfInBounds_toArray, List.set_cons_zero, List.set_cons_succ, Dh, Dp]
                rfl
              refine one_ (i := 2) (N := some 9) #[true, true, true, true, true, false, false] rfl rfl (by kernel_rfl) (by decide) (fun K hK => ?_)
              refine Kd.Fz k40 (w0 := w) w.heap.size (by rfl) (.tmp 7) (.tmp 8) 26 40 (.agg #[(.int .i64 0), (.int .i64 0)]) 16 rfl Tryd.underlying26 Hr rfl (by decide) (by omega) v450 y449 l0 _ _ _ (fun k_ => some k_ ≠ (v456 : Value).ownBlock ∧ k_ ≠ gb448) (fun _ => False) rfl rfl ?aO ?aR (fun _ _ h => h) (fun _ h => h.elim) ?aF ?aB ?aS ?aL ?_
              (case aR => repeat (first | exact (Kd.Gm HR0.out HB.out) | (with_reducible refine Kd.Ci ?_ _) | (with_reducible refine Kd.Cf ?_ _) | (with_reducible refine Kd.Di ?_)))
              (case aB => exact (by repeat (first | (with_reducible first | exact HB.out | apply Ae | apply Ac | apply Ad | refine Ag ?_ GE448.out) | exact HB.out)))
              (case aF => exact (fun k_ hk => ⟨Kd.fresh' (Kd.Gs (by (with_reducible repeat (first | apply Kd.Ah | apply Kd.Ai | apply Kd.Ak)); exact HO457.out)) k_ hk, Kd.Ih (g := gb448) (o := .cells #[.int .i64 a1_0, .int .i64 a1_1] 40 (0, 0)) (by (with_reducible repeat (first | refine Au ?_ _ | refine Az ?_ | refine Ar ?_ _)); exact BK448.out) k_ hk⟩))
              (case aO => exact (by (with_reducible repeat (first | apply Kd.Ah | apply Kd.Ai | apply Kd.Ak)); exact Kd.R_mono HO451.out (fun _ hk => ⟨hk.1.2, hk.2⟩)))
              (case aS => exact (Aq (by repeat (first | (with_reducible first | exact HB.out | apply Ae | apply Ac | apply Ad | refine Ag ?_ GE448.out) | exact HB.out))))
              (case aL => have := LMc3.out; omega)
              intro v453 w27 ho hb hg hat
              rw [← Ny452.out] at ho
              have n0_ := Aa.mk (Gy (g := gb448) (o := .cells #[.int .i64 a1_0, .int .i64 a1_1] 40 (0, 0)) (by (with_reducible repeat (first | refine Au ?_ _ | refine Az ?_ | refine Ar ?_ _)); exact BK448.out) hg (Kd.Ij HO451.out (fun _ hk => hk.2)))
              have n1_ := Aa.mk (Kd.Ir (ok := (fun k_ => k_ ≠ gb448)) (by (with_reducible repeat (first | apply Kd.Ah | apply Kd.Ai | apply Kd.Ak)); exact Kd.R_mono HO457.out (fun _ hk => ⟨hk.1.2, hk.2⟩)) hg hat)
              have n2_ := Aa.mk (hb)
              have n3_ := Aa.mk (ho)
              clear BK448
              clear HO457
              clear HB
              clear HO451
              have BK448 := n0_
              have HO457 := n1_
              have HB := n2_
              have HO454 := n3_
              clear n0_ n1_ n2_ n3_
              clear ho hb hg hat
              refine hK.out _ _ ⟨(Bd BK448.out 0).trans rfl, (Bd BK448.out 1).trans rfl⟩ (fun hHeld => ?_)
              clear hK K
              refine E5 (a' := ?_) ?_ ?_
              rotate_left
              · show Act.put _ (some 9) _ = _
                simp only [Act.put, List.setIfInBounds_toArray, List.set_cons_zero, List.set_cons_succ, Dh, Dp]
                rfl
              exact E5 (by simp only [Ht, Act.put, List.setIfInBounds_toArray, List.set_cons_zero, List.set_cons_succ]) (hCont (v450, v453, v456) _ ⟨hHeld, (by (with_reducible repeat (first | apply Kd.Ah | apply Kd.Ai | apply Kd.Ak)); exact HO454.out), (by (with_reducible repeat (first | apply Kd.Ah | apply Kd.Ai | apply Kd.Ak)); exact Kd.R_mono HO457.out (fun _ hk => ⟨hk.2, hk.1⟩)), (by (with_reducible repeat (first | refine Au ?_ _ | refine Az ?_ | refine Ar ?_ _)); exact BK448.out), (by repeat (first | (with_reducible first | exact HB.out | apply Ae | apply Ac | apply Ad | refine Ag ?_ GE448.out) | exact HB.out))⟩)
          rintro ⟨v450, v453, v456⟩ w28 ⟨hS_, h0_, h1_, h2_, h3_⟩
          have n0_ : Aa (Kd.R k40 40 w28 w.heap.size (fun k_ => some k_ ≠ (v456 : Value).ownBlock ∧ k_ ≠ gb448) v453 y452) := ⟨h0_⟩
          have n1_ : Aa (Kd.R k40 40 w28 w.heap.size (fun k_ => some k_ ≠ (v453 : Value).ownBlock ∧ k_ ≠ gb448) v456 y455) := ⟨h1_⟩
          have n2_ : Aa (w28.heap[gb448]? = some (.cells #[.int .i64 a1_0, .int .i64 a1_1] 40 (0, 0))) := ⟨h2_⟩
          have n3_ : Aa (Below w.heap.size w w28) := ⟨h3_⟩
          clear BK448
          clear HB
          clear h0_ h1_ h2_ h3_
          have HO454 := n0_
          have HO457 := n1_
          have BK448 := n2_
          have HB := n3_
          clear n0_ n1_ n2_ n3_
          have hHeld : w28.cell? ⟨gb448, 0, none⟩ = some (.int .i64 a1_0) ∧ w28.cell? ⟨gb448, 1, none⟩ = some (.int .i64 a1_1) := hS_
          obtain ⟨Ao30, co30, eo30⟩ := Kd.Ef HO457.out
          (first | subst eo30 | (injection eo30 with f1_ f2_ f3_; have f4_ := f1_.symm; have f5_ := f3_.symm; clear f1_ f2_ f3_; subst f4_; subst f5_))
          refine E5 (a' := ?_) ?_ ?_
          rotate_left
          · simp only [Ht, Act.put, List.setIfInBounds_toArray, List.set_cons_zero, List.set_cons_succ]
            rfl
          refine one_ (i := 5) (N := some 12) #[true, true, true, true, true, true, false] rfl rfl (by kernel_rfl) (by decide) (fun K hK => ?_)
          refine Kd.Fz k40 (w0 := w) w.heap.size (by rfl) (.tmp 9) (.tmp 11) 26 40 (.agg #[(.int .i64 0), (.int .i64 0)]) 16 rfl Tryd.underlying26 Hr rfl (by decide) (by omega) v453 y452 y455 _ _ _ (fun k_ => some k_ ≠ (.slice Ao30 y455.length co30 : Value).ownBlock ∧ k_ ≠ gb448) (fun _ => False) rfl rfl ?aO ?aR (fun _ _ h => h) (fun _ h => h.elim) ?aF ?aB ?aS ?aL ?_
          (case aR => repeat (first | exact (Kd.Ba HO457.out).2.2 | (with_reducible refine Kd.Ci ?_ _) | (with_reducible refine Kd.Cf ?_ _) | (with_reducible refine Kd.Di ?_)))
          (case aB => exact (by repeat (first | (with_reducible first | exact HB.out | apply Ae | apply Ac | apply Ad | refine Ag ?_ GE448.out) | exact HB.out)))
          (case aF => exact (fun k_ hk => ⟨Kd.fresh' (Kd.Gs (by (with_reducible repeat (first | apply Kd.Ah | apply Kd.Ai | apply Kd.Ak)); exact HO457.out)) k_ hk, Kd.Ih (g := gb448) (o := .cells #[.int .i64 a1_0, .int .i64 a1_1] 40 (0, 0)) (by (with_reducible repeat (first | refine Au ?_ _ | refine Az ?_ | refine Ar ?_ _)); exact BK448.out) k_ hk⟩))
          (case aO => exact (by (with_reducible repeat (first | apply Kd.Ah | apply Kd.Ai | apply Kd.Ak)); exact HO454.out))
          (case aS => exact (Aq (by repeat (first | (with_reducible first | exact HB.out | apply Ae | apply Ac | apply Ad | refine Ag ?_ GE448.out) | exact HB.out))))
          (case aL => have := LMc4.out; omega)
          intro v459 w29 ho hb hg hat
          rw [← Ny458.out] at ho
          have n0_ := Aa.mk (Gy (g := gb448) (o := .cells #[.int .i64 a1_0, .int .i64 a1_1] 40 (0, 0)) (by (with_reducible repeat (first | refine Au ?_ _ | refine Az ?_ | refine Ar ?_ _)); exact BK448.out) hg (Kd.Ij HO454.out (fun _ hk => hk.2)))
          have n1_ := Aa.mk (Kd.Ir (ok := (fun k_ => k_ ≠ gb448)) (by (with_reducible repeat (first | apply Kd.Ah | apply Kd.Ai | apply Kd.Ak)); exact Kd.R_mono HO457.out (fun _ hk => ⟨hk.2, hk.1⟩)) hg hat)
          have n2_ := Aa.mk (hb)
          have n3_ := Aa.mk (ho)
          clear BK448
          clear HO457
          clear HB
          clear HO454
          have BK448 := n0_
          have HO457 := n1_
          have HB := n2_
          have HO460 := n3_
          clear n0_ n1_ n2_ n3_
          clear ho hb hg hat
          refine hK.out _ _ ⟨(Bd BK448.out 0).trans rfl, (Bd BK448.out 1).trans rfl⟩ (fun hHeld => ?_)
          clear hK K
          refine E5 (a' := ?_) ?_ ?_
          rotate_left
          · show Act.put _ (some 12) _ = _
            simp only [Act.put, List.setIfInBounds_toArray, List.set_cons_zero, List.set_cons_succ, Dh, Dp]
            rfl
          refine Fq (i := 6) (N := some 6) (v := ?_) (a' := ?_) #[true, true, true, true, true, true, true] rfl rfl (by kernel_rfl) (fun _ _ _ h => h) (Or.inl ⟨by rfl, ?_⟩) ?_ ?_
          rotate_left
          · intro w'
            go_simp
            with_reducible rfl
          rotate_left
          · simp only [Act.put, List.setIfInBounds_toArray, List.set_cons_zero, List.set_cons_succ, Dh, Dp]
            rfl
          refine done_ (by kernel_rfl) ?_
          try go_wp2_with (first | ((with_reducible refine Bv (f := 25) rfl ?_); refine D5 (some 14) rfl rfl Tryd.func25 (by kernel_rfl) rfl #[.slice A0 l0.length c0] rfl (by (try simp only [List.map_toArray, List.map_cons, List.map_nil]); first | done | rfl | (simp only [List.length_drop, List.length_take]; rfl)) ?_; (with_reducible refine (Bh.calls k _ _ l0 t461 _ ?side1 ?side2 A5.out).mono ?_); (case side1 => repeat (first | exact (Kd.Gm HR0.out HB.out) | (with_reducible refine Kd.Ci ?_ _) | (with_reducible refine Kd.Cf ?_ _) | (with_reducible refine Kd.Di ?_))); (case side2 => exact HC0.out); rintro e w' ⟨rfl, ⟨nd, rfl⟩⟩; refine ⟨_, rfl, ?_⟩; obtain ⟨Ao31, co31, eo31⟩ := Kd.Ef HO460.out; subst eo31) | (go_at_call 25; (with_reducible refine (Bh.calls k _ _ y458 t465 _ ?side1 ?side2 A19.out).mono ?_); (case side1 => repeat (first | exact (Kd.Ba HO460.out).2.2 | (with_reducible refine Kd.Ci ?_ _) | (with_reducible refine Kd.Cf ?_ _) | (with_reducible refine Kd.Di ?_))); (case side2 => exact (Kd.Ba HO460.out).2.1); rintro e w' ⟨rfl, ⟨nd, rfl⟩⟩) | ((with_reducible refine D7 (N := 21) rfl ?_); refine Kd.Ii k40 _ 40 ?hg (N := 21) ?hd (xs := ([] : List (S40))) (inner := []) (ok := fun _ => True) (okp := fun _ => True) ?hr ?hp (fun _ hk => hk) trivial (Below.refl _ _) (Nat.le_refl _) (by simp) ?_; (case hd => rfl); (case hg => rfl); (case hr => first | (go_simp; done) | (go_simp; rfl)); (case hp => exact (Dw.none _ _)); intro v467 w32 ho33 hb hg_ hnew_; clear hg_ hnew_; (first | rw [← Ny466.out] at ho33 | (simp only [Int.reduceToNat] at ho33; rw [← Ny466.out] at ho33)); have n0_ := Aa.mk (Kd.Ff (by (with_reducible repeat (first | apply Kd.Ah | apply Kd.Ai | apply Kd.Ak)); exact HO457.out) (Kd.Gg ho33) hb); have n1_ := Aa.mk (Kd.Ff (by (with_reducible repeat (first | apply Kd.Ah | apply Kd.Ai | apply Kd.Ak)); exact HO460.out) (Kd.Gg ho33) hb); have n2_ := Aa.mk (Kd.Du (Kd.Gj (Kd.Gh (Kd.Gh ho33 (Kd.Gs (by (with_reducible repeat (first | apply Kd.Ah | apply Kd.Ai | apply Kd.Ak)); exact HO457.out))) (Kd.Gs (by (with_reducible repeat (first | apply Kd.Ah | apply Kd.Ai | apply Kd.Ak)); exact HO460.out))) (g := gb448) (o := .cells #[.int .i64 a1_0, .int .i64 a1_1] 40 (0, 0)) (by (with_reducible repeat (first | refine Au ?_ _ | refine Az ?_ | refine Ar ?_ _)); exact BK448.out)) (Aq (by repeat (first | (with_reducible first | exact HB.out | apply Ae | apply Ac | apply Ad | refine Ag ?_ GE448.out) | exact HB.out)))); have n3_ := Aa.mk (Dv (g := gb448) (o := .cells #[.int .i64 a1_0, .int .i64 a1_1] 40 (0, 0)) (by (with_reducible repeat (first | refine Au ?_ _ | refine Az ?_ | refine Ar ?_ _)); exact BK448.out) hb); have n4_ := Aa.mk (Ap (by repeat (first | (with_reducible first | exact HB.out | apply Ae | apply Ac | apply Ad | refine Ag ?_ GE448.out) | exact HB.out)) hb); clear HO457; clear HO460; clear BK448; clear HB; have HO457 := n0_; have HO460 := n1_; have HO468 := n2_; have BK448 := n3_; have HB := n4_; clear n0_ n1_ n2_ n3_ n4_; clear hb ho33))
          go_ret2
          exact ⟨_, by first | rfl | (simp [Be, Bf] <;> rfl) | (simp [*, Be, Bf] <;> rfl), by (with_reducible repeat (first | apply Kd.Ah | apply Kd.Ai | apply Kd.Ak)); exact Kd.R_mono HO468.out (fun _ hk => trivial), by repeat (first | (with_reducible first | exact HB.out | apply Ae | apply Ac | apply Ad | refine Ag ?_ GE448.out) | exact HB.out)⟩
        · rw [if_neg c20] at H
          have c20b0 : decide (t465 < 0) = false := decide_eq_false c20
          clear c20
          simp only [Option.some.injEq, Prod.mk.injEq] at H
          obtain ⟨rfl, rfl⟩ := H
          go_enter Tryd.func22, Tryd.ntmps22
          try go_wp2_with (first | ((with_reducible refine D7 (N := 3) rfl ?_); refine Es ?hg (N := 3) ?hd (cs := #[.int .i64 a1_0, .int .i64 a1_1]) (t := 40) ?hr ?_; (case hd => rfl); (case hg => rfl); (case hr => first | (go_simp; done) | (go_simp; rfl)); intro gb448 hg w34 hbox hb; have n0_ := Aa.mk (Ap (by repeat (first | (with_reducible first | exact HB.out | apply Ae | apply Ac | apply Ad) | exact HB.out)) hb); have n1_ := Aa.mk (hbox); have n2_ := Aa.mk ((by rw [hg]; exact (Aq (by repeat (first | (with_reducible first | exact HB.out | apply Ae | apply Ac | apply Ad) | exact HB.out))) : w.heap.size ≤ gb448)); have n3_ := Aa.mk ((by rw [hg]; exact (Aq (by repeat (first | (with_reducible first | exact HB.out | apply Ae | apply Ac | apply Ad) | exact HB.out))) : w.heap.size ≤ gb448)); clear HB; have HB := n0_; have BK448 := n1_; have GW448 := n2_; have GE448 := n3_; clear n0_ n1_ n2_ n3_; clear hb hbox hg))
          have n0_ := Aa.mk (Az BK448.out)
          have n1_ := Aa.mk (Ad HB.out)
          clear BK448
          clear HB
          have BK448 := n0_
          have HB := n1_
          clear n0_ n1_
          refine start_ (n := 7) (S := fun w' => w'.cell? ⟨gb448, 0, none⟩ = some (.int .i64 a1_0) ∧ w'.cell? ⟨gb448, 1, none⟩ = some (.int .i64 a1_1)) (ds := []) #[false, false, false, false, false, false, false] (by kernel_rfl) rfl rfl ⟨(Bd BK448.out 0).trans rfl, (Bd BK448.out 1).trans rfl⟩ (fun hHeld => ?_)
          generalize w34.drew = w35 at BK448 HB hHeld ⊢
          refine Fq (i := 1) (N := some 8) (v := ?_) (a' := ?_) #[false, true, false, false, false, false, false] rfl rfl (by kernel_rfl) (fun _ _ _ h => h) (Or.inl ⟨by rfl, ?_⟩) ?_ ?_
          rotate_left
          · intro w'
            go_simp
            with_reducible rfl
          rotate_left
          · simp only [Act.put, List.setIfInBounds_toArray, List.set_cons_zero, List.set_cons_succ, Dh, Dp]
            rfl
          refine take_ (i := 3) (N := some 10) (v := ?_) (a' := ?_) #[false, true, false, true, false, false, false] rfl rfl (by kernel_rfl) (fun _ _ _ h => h) (Or.inl ⟨by rfl, ?_⟩) hHeld ?_ ?_
          rotate_left
          · rintro w' ⟨s0, s1⟩
            go_simp
            with_reducible rfl
          rotate_left
          · simp only [Act.put, List.setIfInBounds_toArray, List.set_cons_zero, List.set_cons_succ, Dh, Dp]
            rfl
          refine join_ (σ := Value × Value × Value) 2 #[true, true, true, true, true, false, false] (fun s_ => [(7, s_.1), (9, s_.2.1), (11, s_.2.2)]) (fun s_ w' => (w'.cell? ⟨gb448, 0, none⟩ = some (.int .i64 a1_0) ∧ w'.cell? ⟨gb448, 1, none⟩ = some (.int .i64 a1_1)) ∧ (Kd.R k40 40 w' w.heap.size (fun k_ => some k_ ≠ (s_.2.2 : Value).ownBlock ∧ k_ ≠ gb448) s_.2.1 y452) ∧ (Kd.R k40 40 w' w.heap.size (fun k_ => some k_ ≠ (s_.2.1 : Value).ownBlock ∧ k_ ≠ gb448) s_.2.2 y455) ∧ (w'.heap[gb448]? = some (.cells #[.int .i64 a1_0, .int .i64 a1_1] 40 (0, 0))) ∧ (Below w.heap.size w w')) ?_ ?_
          rotate_left
          · intro hCont
            refine two_ (i := 0) (j := 4) (Ni := some 7) (Nj := some 11) #[true, true, false, true, false, false, false] #[false, true, false, true, true, false, false] rfl rfl rfl rfl (by kernel_rfl) (by decide) (by decide) (fun K hK => ?_) (fun K hK => ?_)
            · skip
              refine Kd.Gn k40 _ 40 ?hg (N := 7) ?hd (xs := ([] : List (S40))) (inner := []) (ok := fun _ => True) (okp := fun _ => True) ?hr ?hp (fun _ hk => hk) trivial (Below.refl _ _) (Nat.le_refl _) (by simp) ?_; (case hd => rfl); (case hg => rfl); (case hr => first | (go_simp; done) | (go_simp; rfl)); (case hp => exact (Dw.none _ _))
              intro v450 w36 ho37 hb hg_ hnew_
              clear hg_ hnew_
              (first | rw [← Ny449.out] at ho37 | (simp only [Int.reduceToNat] at ho37; rw [← Ny449.out] at ho37))
              have n0_ := Aa.mk (Kd.Du (Kd.Gj ho37 (g := gb448) (o := .cells #[.int .i64 a1_0, .int .i64 a1_1] 40 (0, 0)) (by (with_reducible repeat (first | refine Au ?_ _ | refine Az ?_ | refine Ar ?_ _)); exact BK448.out)) (Aq (by repeat (first | (with_reducible first | exact HB.out | apply Ae | apply Ac | apply Ad | refine Ag ?_ GE448.out) | exact HB.out))))
              have n1_ := Aa.mk (Dv (g := gb448) (o := .cells #[.int .i64 a1_0, .int .i64 a1_1] 40 (0, 0)) (by (with_reducible repeat (first | refine Au ?_ _ | refine Az ?_ | refine Ar ?_ _)); exact BK448.out) hb)
              have n2_ := Aa.mk (Ap (by repeat (first | (with_reducible first | exact HB.out | apply Ae | apply Ac | apply Ad | refine Ag ?_ GE448.out) | exact HB.out)) hb)
              clear BK448
              clear HB
              have HO451 := n0_
              have BK448 := n1_
              have HB := n2_
              clear n0_ n1_ n2_
              clear hb ho37
              refine hK.out _ _ ⟨(Bd BK448.out 0).trans rfl, (Bd BK448.out 1).trans rfl⟩ (fun hHeld => ?_)
              clear hK K
              refine E5 (a' := ?_) ?_ ?_
              rotate_left
              · show Act.put _ (some 7) _ = _
                simp only [Act.put, List.setIfInBounds_toArray, List.set_cons_zero, List.set_cons_succ, Dh, Dp]
                rfl
              refine two_ (i := 2) (j := 4) (Ni := some 9) (Nj := some 11) #[true, true, true, true, false, false, false] #[true, true, false, true, true, false, false] rfl rfl rfl rfl (by kernel_rfl) (by decide) (by decide) (fun K hK => ?_) (fun K hK => ?_)
              · skip
                refine Kd.Fz k40 (w0 := w) w.heap.size (by rfl) (.tmp 7) (.tmp 8) 26 40 (.agg #[(.int .i64 0), (.int .i64 0)]) 16 rfl Tryd.underlying26 Hr rfl (by decide) (by omega) v450 y449 l0 _ _ _ (fun k_ => k_ ≠ gb448) (fun _ => False) rfl rfl ?aO ?aR (fun _ _ h => h) (fun _ h => h.elim) ?aF ?aB ?aS ?aL ?_
                (case aR => repeat (first | exact (Kd.Gm HR0.out HB.out) | (with_reducible refine Kd.Ci ?_ _) | (with_reducible refine Kd.Cf ?_ _) | (with_reducible refine Kd.Di ?_)))
                (case aB => exact (by repeat (first | (with_reducible first | exact HB.out | apply Ae | apply Ac | apply Ad | refine Ag ?_ GE448.out) | exact HB.out)))
                (case aF => exact (fun k_ hk => Kd.Ih (g := gb448) (o := .cells #[.int .i64 a1_0, .int .i64 a1_1] 40 (0, 0)) (by (with_reducible repeat (first | refine Au ?_ _ | refine Az ?_ | refine Ar ?_ _)); exact BK448.out) k_ hk))
                (case aO => exact (by (with_reducible repeat (first | apply Kd.Ah | apply Kd.Ai | apply Kd.Ak)); exact Kd.R_mono HO451.out (fun _ hk => hk.2)))
                (case aS => exact (Aq (by repeat (first | (with_reducible first | exact HB.out | apply Ae | apply Ac | apply Ad | refine Ag ?_ GE448.out) | exact HB.out))))
                (case aL => have := LMc3.out; omega)
                intro v453 w38 ho hb hg hat
                rw [← Ny452.out] at ho
                have n0_ := Aa.mk (Gy (g := gb448) (o := .cells #[.int .i64 a1_0, .int .i64 a1_1] 40 (0, 0)) (by (with_reducible repeat (first | refine Au ?_ _ | refine Az ?_ | refine Ar ?_ _)); exact BK448.out) hg (Kd.Ij HO451.out (fun _ hk => hk.2)))
                have n1_ := Aa.mk (hb)
                have n2_ := Aa.mk (ho)
                clear BK448
                clear HB
                clear HO451
                have BK448 := n0_
                have HB := n1_
                have HO454 := n2_
                clear n0_ n1_ n2_
                clear ho hb hg hat
                refine hK.out _ _ ⟨(Bd BK448.out 0).trans rfl, (Bd BK448.out 1).trans rfl⟩ (fun hHeld => ?_)
                clear hK K
                refine E5 (a' := ?_) ?_ ?_
                rotate_left
                · show Act.put _ (some 9) _ = _
                  simp only [Act.put, List.setIfInBounds_toArray, List.set_cons_zero, List.set_cons_succ, Dh, Dp]
                  rfl
                refine one_ (i := 4) (N := some 11) #[true, true, true, true, true, false, false] rfl rfl (by kernel_rfl) (by decide) (fun K hK => ?_)
                refine Kd.Gn k40 _ 40 ?hg (N := 11) ?hd (xs := ([(⟨a1_0, a1_1⟩ : S40)] : List (S40))) (inner := [.int .i64 a1_0, .int .i64 a1_1]) (ok := fun _ => True) (okp := fun _ => True) ?hr ?hp (fun _ hk => hk) trivial (Below.refl _ _) (Nat.le_refl _) (by simp) ?_; (case hd => rfl); (case hg => rfl); (case hr => first | (go_simp; done) | (go_simp; rfl)); (case hp => exact (Dw.c2 (show Kd.M k40 _ _ _ (⟨a1_0, a1_1⟩ : S40) [.int .i64 a1_0, .int .i64 a1_1] from (G8 _ _ _ (⟨a1_0, a1_1⟩ : S40) )) (Dw.none _ _)))
                intro v456 w39 ho40 hb hg_ hnew_
                clear hg_ hnew_
                (first | rw [← Ny455.out] at ho40 | (simp only [Int.reduceToNat] at ho40; rw [← Ny455.out] at ho40))
                have n0_ := Aa.mk (Kd.Ff (by (with_reducible repeat (first | apply Kd.Ah | apply Kd.Ai | apply Kd.Ak)); exact HO454.out) (Kd.Gg ho40) hb)
                have n1_ := Aa.mk (Kd.Du (Kd.Gj (Kd.Gh ho40 (Kd.Gs (by (with_reducible repeat (first | apply Kd.Ah | apply Kd.Ai | apply Kd.Ak)); exact HO454.out))) (g := gb448) (o := .cells #[.int .i64 a1_0, .int .i64 a1_1] 40 (0, 0)) (by (with_reducible repeat (first | refine Au ?_ _ | refine Az ?_ | refine Ar ?_ _)); exact BK448.out)) (Aq (by repeat (first | (with_reducible first | exact HB.out | apply Ae | apply Ac | apply Ad | refine Ag ?_ GE448.out) | exact HB.out))))
                have n2_ := Aa.mk (Dv (g := gb448) (o := .cells #[.int .i64 a1_0, .int .i64 a1_1] 40 (0, 0)) (by (with_reducible repeat (first | refine Au ?_ _ | refine Az ?_ | refine Ar ?_ _)); exact BK448.out) hb)
                have n3_ := Aa.mk (Ap (by repeat (first | (with_reducible first | exact HB.out | apply Ae | apply Ac | apply Ad | refine Ag ?_ GE448.out) | exact HB.out)) hb)
                clear HO454
                clear BK448
                clear HB
                have HO454 := n0_
                have HO457 := n1_
                have BK448 := n2_
                have HB := n3_
                clear n0_ n1_ n2_ n3_
                clear hb ho40
                refine hK.out _ _ ⟨(Bd BK448.out 0).trans rfl, (Bd BK448.out 1).trans rfl⟩ (fun hHeld => ?_)
                clear hK K
                refine E5 (a' := ?_) ?_ ?_
                rotate_left
                · show Act.put _ (some 11) _ = _
                  simp only [Act.put, List.setIfInBounds_toArray, List.set_cons_zero, List.set_cons_succ, Dh, Dp]
                  rfl
                exact E5 (by simp only [Ht, Act.put, List.setIfInBounds_toArray, List.set_cons_zero, List.set_cons_succ]) (hCont (v450, v453, v456) _ ⟨hHeld, (by (with_reducible repeat (first | apply Kd.Ah | apply Kd.Ai | apply Kd.Ak)); exact Kd.R_mono HO454.out (fun _ hk => ⟨hk.2, hk.1⟩)), (by (with_reducible repeat (first | apply Kd.Ah | apply Kd.Ai | apply Kd.Ak)); exact Kd.R_mono HO457.out (fun _ hk => ⟨hk.1.2, hk.2⟩)), (by (with_reducible repeat (first | refine Au ?_ _ | refine Az ?_ | refine Ar ?_ _)); exact BK448.out), (by repeat (first | (with_reducible first | exact HB.out | apply Ae | apply Ac | apply Ad | refine Ag ?_ GE448.out) | exact HB.out))⟩)
              · skip
                refine Kd.Gn k40 _ 40 ?hg (N := 11) ?hd (xs := ([(⟨a1_0, a1_1⟩ : S40)] : List (S40))) (inner := [.int .i64 a1_0, .int .i64 a1_1]) (ok := fun _ => True) (okp := fun _ => True) ?hr ?hp (fun _ hk => hk) trivial (Below.refl _ _) (Nat.le_refl _) (by simp) ?_; (case hd => rfl); (case hg => rfl); (case hr => first | (go_simp; done) | (go_simp; rfl)); (case hp => exact (Dw.c2 (show Kd.M k40 _ _ _ (⟨a1_0, a1_1⟩ : S40) [.int .i64 a1_0, .int .i64 a1_1] from (G8 _ _ _ (⟨a1_0, a1_1⟩ : S40) )) (Dw.none _ _)))
                intro v456 w38 ho39 hb hg_ hnew_
                clear hg_ hnew_
                (first | rw [← Ny455.out] at ho39 | (simp only [Int.reduceToNat] at ho39; rw [← Ny455.out] at ho39))
                have n0_ := Aa.mk (Kd.Ff (by (with_reducible repeat (first | apply Kd.Ah | apply Kd.Ai | apply Kd.Ak)); exact HO451.out) (Kd.Gg ho39) hb)
                have n1_ := Aa.mk (Kd.Du (Kd.Gj (Kd.Gh ho39 (Kd.Gs (by (with_reducible repeat (first | apply Kd.Ah | apply Kd.Ai | apply Kd.Ak)); exact HO451.out))) (g := gb448) (o := .cells #[.int .i64 a1_0, .int .i64 a1_1] 40 (0, 0)) (by (with_reducible repeat (first | refine Au ?_ _ | refine Az ?_ | refine Ar ?_ _)); exact BK448.out)) (Aq (by repeat (first | (with_reducible first | exact HB.out | apply Ae | apply Ac | apply Ad | refine Ag ?_ GE448.out) | exact HB.out))))
                have n2_ := Aa.mk (Dv (g := gb448) (o := .cells #[.int .i64 a1_0, .int .i64 a1_1] 40 (0, 0)) (by (with_reducible repeat (first | refine Au ?_ _ | refine Az ?_ | refine Ar ?_ _)); exact BK448.out) hb)
                have n3_ := Aa.mk (Ap (by repeat (first | (with_reducible first | exact HB.out | apply Ae | apply Ac | apply Ad | refine Ag ?_ GE448.out) | exact HB.out)) hb)
                clear HO451
                clear BK448
                clear HB
                have HO451 := n0_
                have HO457 := n1_
                have BK448 := n2_
                have HB := n3_
                clear n0_ n1_ n2_ n3_
                clear hb ho39
                refine hK.out _ _ ⟨(Bd BK448.out 0).trans rfl, (Bd BK448.out 1).trans rfl⟩ (fun hHeld => ?_)
                clear hK K
                refine E5 (a' := ?_) ?_ ?_
                rotate_left
                · show Act.put _ (some 11) _ = _
                  simp only [Act.put, List.setIfInBounds_toArray, List.set_cons_zero, List.set_cons_succ, Dh, Dp]
                  rfl
                refine one_ (i := 2) (N := some 9) #[true, true, true, true, true, false, false] rfl rfl (by kernel_rfl) (by decide) (fun K hK => ?_)
                refine Kd.Fz k40 (w0 := w) w.heap.size (by rfl) (.tmp 7) (.tmp 8) 26 40 (.agg #[(.int .i64 0), (.int .i64 0)]) 16 rfl Tryd.underlying26 Hr rfl (by decide) (by omega) v450 y449 l0 _ _ _ (fun k_ => some k_ ≠ (v456 : Value).ownBlock ∧ k_ ≠ gb448) (fun _ => False) rfl rfl ?aO ?aR (fun _ _ h => h) (fun _ h => h.elim) ?aF ?aB ?aS ?aL ?_
                (case aR => repeat (first | exact (Kd.Gm HR0.out HB.out) | (with_reducible refine Kd.Ci ?_ _) | (with_reducible refine Kd.Cf ?_ _) | (with_reducible refine Kd.Di ?_)))
                (case aB => exact (by repeat (first | (with_reducible first | exact HB.out | apply Ae | apply Ac | apply Ad | refine Ag ?_ GE448.out) | exact HB.out)))
                (case aF => exact (fun k_ hk => ⟨Kd.fresh' (Kd.Gs (by (with_reducible repeat (first | apply Kd.Ah | apply Kd.Ai | apply Kd.Ak)); exact HO457.out)) k_ hk, Kd.Ih (g := gb448) (o := .cells #[.int .i64 a1_0, .int .i64 a1_1] 40 (0, 0)) (by (with_reducible repeat (first | refine Au ?_ _ | refine Az ?_ | refine Ar ?_ _)); exact BK448.out) k_ hk⟩))
                (case aO => exact (by (with_reducible repeat (first | apply Kd.Ah | apply Kd.Ai | apply Kd.Ak)); exact Kd.R_mono HO451.out (fun _ hk => ⟨hk.2, hk.1.2⟩)))
                (case aS => exact (Aq (by repeat (first | (with_reducible first | exact HB.out | apply Ae | apply Ac | apply Ad | refine Ag ?_ GE448.out) | exact HB.out))))
                (case aL => have := LMc3.out; omega)
                intro v453 w40 ho hb hg hat
                rw [← Ny452.out] at ho
                have n0_ := Aa.mk (Gy (g := gb448) (o := .cells #[.int .i64 a1_0, .int .i64 a1_1] 40 (0, 0)) (by (with_reducible repeat (first | refine Au ?_ _ | refine Az ?_ | refine Ar ?_ _)); exact BK448.out) hg (Kd.Ij HO451.out (fun _ hk => hk.1.2)))
                have n1_ := Aa.mk (Kd.Ir (ok := (fun k_ => k_ ≠ gb448)) (by (with_reducible repeat (first | apply Kd.Ah | apply Kd.Ai | apply Kd.Ak)); exact Kd.R_mono HO457.out (fun _ hk => ⟨hk.2, hk.1.2⟩)) hg hat)
                have n2_ := Aa.mk (hb)
                have n3_ := Aa.mk (ho)
                clear BK448
                clear HO457
                clear HB
                clear HO451
                have BK448 := n0_
                have HO457 := n1_
                have HB := n2_
                have HO454 := n3_
                clear n0_ n1_ n2_ n3_
                clear ho hb hg hat
                refine hK.out _ _ ⟨(Bd BK448.out 0).trans rfl, (Bd BK448.out 1).trans rfl⟩ (fun hHeld => ?_)
                clear hK K
                refine E5 (a' := ?_) ?_ ?_
                rotate_left
                · show Act.put _ (some 9) _ = _
                  simp only [Act.put, List.setIfInBounds_toArray, List.set_cons_zero, List.set_cons_succ, Dh, Dp]
                  rfl
                exact E5 (by simp only [Ht, Act.put, List.setIfInBounds_toArray, List.set_cons_zero, List.set_cons_succ]) (hCont (v450, v453, v456) _ ⟨hHeld, (by (with_reducible repeat (first | apply Kd.Ah | apply Kd.Ai | apply Kd.Ak)); exact HO454.out), (by (with_reducible repeat (first | apply Kd.Ah | apply Kd.Ai | apply Kd.Ak)); exact Kd.R_mono HO457.out (fun _ hk => ⟨hk.2, hk.1⟩)), (by (with_reducible repeat (first | refine Au ?_ _ | refine Az ?_ | refine Ar ?_ _)); exact BK448.out), (by repeat (first | (with_reducible first | exact HB.out | apply Ae | apply Ac | apply Ad | refine Ag ?_ GE448.out) | exact HB.out))⟩)
            · skip
              refine Kd.Gn k40 _ 40 ?hg (N := 11) ?hd (xs := ([(⟨a1_0, a1_1⟩ : S40)] : List (S40))) (inner := [.int .i64 a1_0, .int .i64 a1_1]) (ok := fun _ => True) (okp := fun _ => True) ?hr ?hp (fun _ hk => hk) trivial (Below.refl _ _) (Nat.le_refl _) (by simp) ?_; (case hd => rfl); (case hg => rfl); (case hr => first | (go_simp; done) | (go_simp; rfl)); (case hp => exact (Dw.c2 (show Kd.M k40 _ _ _ (⟨a1_0, a1_1⟩ : S40) [.int .i64 a1_0, .int .i64 a1_1] from (G8 _ _ _ (⟨a1_0, a1_1⟩ : S40) )) (Dw.none _ _)))
              intro v456 w36 ho37 hb hg_ hnew_
              clear hg_ hnew_
              (first | rw [← Ny455.out] at ho37 | (simp only [Int.reduceToNat] at ho37; rw [← Ny455.out] at ho37))
              have n0_ := Aa.mk (Kd.Du (Kd.Gj ho37 (g := gb448) (o := .cells #[.int .i64 a1_0, .int .i64 a1_1] 40 (0, 0)) (by (with_reducible repeat (first | refine Au ?_ _ | refine Az ?_ | refine Ar ?_ _)); exact BK448.out)) (Aq (by repeat (first | (with_reducible first | exact HB.out | apply Ae | apply Ac | apply Ad | refine Ag ?_ GE448.out) | exact HB.out))))
              have n1_ := Aa.mk (Dv (g := gb448) (o := .cells #[.int .i64 a1_0, .int .i64 a1_1] 40 (0, 0)) (by (with_reducible repeat (first | refine Au ?_ _ | refine Az ?_ | refine Ar ?_ _)); exact BK448.out) hb)
              have n2_ := Aa.mk (Ap (by repeat (first | (with_reducible first | exact HB.out | apply Ae | apply Ac | apply Ad | refine Ag ?_ GE448.out) | exact HB.out)) hb)
              clear BK448
              clear HB
              have HO457 := n0_
              have BK448 := n1_
              have HB := n2_
              clear n0_ n1_ n2_
              clear hb ho37
              refine hK.out _ _ ⟨(Bd BK448.out 0).trans rfl, (Bd BK448.out 1).trans rfl⟩ (fun hHeld => ?_)
              clear hK K
              refine E5 (a' := ?_) ?_ ?_
              rotate_left
              · show Act.put _ (some 11) _ = _
                simp only [Act.put, List.setIfInBounds_toArray, List.set_cons_zero, List.set_cons_succ, Dh, Dp]
                rfl
              refine one_ (i := 0) (N := some 7) #[true, true, false, true, true, false, false] rfl rfl (by kernel_rfl) (by decide) (fun K hK => ?_)
              refine Kd.Gn k40 _ 40 ?hg (N := 7) ?hd (xs := ([] : List (S40))) (inner := []) (ok := fun _ => True) (okp := fun _ => True) ?hr ?hp (fun _ hk => hk) trivial (Below.refl _ _) (Nat.le_refl _) (by simp) ?_; (case hd => rfl); (case hg => rfl); (case hr => first | (go_simp; done) | (go_simp; rfl)); (case hp => exact (Dw.none _ _))
              intro v450 w38 ho39 hb hg_ hnew_
              clear hg_ hnew_
              (first | rw [← Ny449.out] at ho39 | (simp only [Int.reduceToNat] at ho39; rw [← Ny449.out] at ho39))
              have n0_ := Aa.mk (Kd.Ff (by (with_reducible repeat (first | apply Kd.Ah | apply Kd.Ai | apply Kd.Ak)); exact HO457.out) (Kd.Gg ho39) hb)
              have n1_ := Aa.mk (Kd.Du (Kd.Gj (Kd.Gh ho39 (Kd.Gs (by (with_reducible repeat (first | apply Kd.Ah | apply Kd.Ai | apply Kd.Ak)); exact HO457.out))) (g := gb448) (o := .cells #[.int .i64 a1_0, .int .i64 a1_1] 40 (0, 0)) (by (with_reducible repeat (first | refine Au ?_ _ | refine Az ?_ | refine Ar ?_ _)); exact BK448.out)) (Aq (by repeat (first | (with_reducible first | exact HB.out | apply Ae | apply Ac | apply Ad | refine Ag ?_ GE448.out) | exact HB.out))))
              have n2_ := Aa.mk (Dv (g := gb448) (o := .cells #[.int .i64 a1_0, .int .i64 a1_1] 40 (0, 0)) (by (with_reducible repeat (first | refine Au ?_ _ | refine Az ?_ | refine Ar ?_ _)); exact BK448.out) hb)
              have n3_ := Aa.mk (Ap (by repeat (first | (with_reducible first | exact HB.out | apply Ae | apply Ac | apply Ad | refine Ag ?_ GE448.out) | exact HB.out)) hb)
              clear HO457
              clear BK448
              clear HB
              have HO457 := n0_
              have HO451 := n1_
              have BK448 := n2_
              have HB := n3_
              clear n0_ n1_ n2_ n3_
              clear hb ho39
              refine hK.out _ _ ⟨(Bd BK448.out 0).trans rfl, (Bd BK448.out 1).trans rfl⟩ (fun hHeld => ?_)
              clear hK K
              refine E5 (a' := ?_) ?_ ?_
              rotate_left
              · show Act.put _ (some 7) _ = _
                simp only [Act.put, List.setIfInBounds_toArray, List.set_cons_zero, List.set_cons_succ, Dh, Dp]
                rfl
              refine one_ (i := 2) (N := some 9) #[true, true, true, true, true, false, false] rfl rfl (by kernel_rfl) (by decide) (fun K hK => ?_)
              refine Kd.Fz k40 (w0 := w) w.heap.size (by rfl) (.tmp 7) (.tmp 8) 26 40 (.agg #[(.int .i64 0), (.int .i64 0)]) 16 rfl Tryd.underlying26 Hr rfl (by decide) (by omega) v450 y449 l0 _ _ _ (fun k_ => some k_ ≠ (v456 : Value).ownBlock ∧ k_ ≠ gb448) (fun _ => False) rfl rfl ?aO ?aR (fun _ _ h => h) (fun _ h => h.elim) ?aF ?aB ?aS ?aL ?_
              (case aR => repeat (first | exact (Kd.Gm HR0.out HB.out) | (with_reducible refine Kd.Ci ?_ _) | (with_reducible refine Kd.Cf ?_ _) | (with_reducible refine Kd.Di ?_)))
              (case aB => exact (by repeat (first | (with_reducible first | exact HB.out | apply Ae | apply Ac | apply Ad | refine Ag ?_ GE448.out) | exact HB.out)))
              (case aF => exact (fun k_ hk => ⟨Kd.fresh' (Kd.Gs (by (with_reducible repeat (first | apply Kd.Ah | apply Kd.Ai | apply Kd.Ak)); exact HO457.out)) k_ hk, Kd.Ih (g := gb448) (o := .cells #[.int .i64 a1_0, .int .i64 a1_1] 40 (0, 0)) (by (with_reducible repeat (first | refine Au ?_ _ | refine Az ?_ | refine Ar ?_ _)); exact BK448.out) k_ hk⟩))
              (case aO => exact (by (with_reducible repeat (first | apply Kd.Ah | apply Kd.Ai | apply Kd.Ak)); exact Kd.R_mono HO451.out (fun _ hk => ⟨hk.1.2, hk.2⟩)))
              (case aS => exact (Aq (by repeat (first | (with_reducible first | exact HB.out | apply Ae | apply Ac | apply Ad | refine Ag ?_ GE448.out) | exact HB.out))))
              (case aL => have := LMc3.out; omega)
              intro v453 w40 ho hb hg hat
              rw [← Ny452.out] at ho
              have n0_ := Aa.mk (Gy (g := gb448) (o := .cells #[.int .i64 a1_0, .int .i64 a1_1] 40 (0, 0)) (by (with_reducible repeat (first | refine Au ?_ _ | refine Az ?_ | refine Ar ?_ _)); exact BK448.out) hg (Kd.Ij HO451.out (fun _ hk => hk.2)))
              have n1_ := Aa.mk (Kd.Ir (ok := (fun k_ => k_ ≠ gb448)) (by (with_reducible repeat (first | apply Kd.Ah | apply Kd.Ai | apply Kd.Ak)); exact Kd.R_mono HO457.out (fun _ hk => ⟨hk.1.2, hk.2⟩)) hg hat)
              have n2_ := Aa.mk (hb)
              have n3_ := Aa.mk (ho)
              clear BK448
              clear HO457
              clear HB
              clear HO451
              have BK448 := n0_
              have HO457 := n1_
              have HB := n2_
              have HO454 := n3_
              clear n0_ n1_ n2_ n3_
              clear ho hb hg hat
              refine hK.out _ _ ⟨(Bd BK448.out 0).trans rfl, (Bd BK448.out 1).trans rfl⟩ (fun hHeld => ?_)
              clear hK K
              refine E5 (a' := ?_) ?_ ?_
              rotate_left
              · show Act.put _ (some 9) _ = _
                simp only [Act.put, List.setIfInBounds_toArray, List.set_cons_zero, List.set_cons_succ, Dh, Dp]
                rfl
              exact E5 (by simp only [Ht, Act.put, List.setIfInBounds_toArray, List.set_cons_zero, List.set_cons_succ]) (hCont (v450, v453, v456) _ ⟨hHeld, (by (with_reducible repeat (first | apply Kd.Ah | apply Kd.Ai | apply Kd.Ak)); exact HO454.out), (by (with_reducible repeat (first | apply Kd.Ah | apply Kd.Ai | apply Kd.Ak)); exact Kd.R_mono HO457.out (fun _ hk => ⟨hk.2, hk.1⟩)), (by (with_reducible repeat (first | refine Au ?_ _ | refine Az ?_ | refine Ar ?_ _)); exact BK448.out), (by repeat (first | (with_reducible first | exact HB.out | apply Ae | apply Ac | apply Ad | refine Ag ?_ GE448.out) | exact HB.out))⟩)
          rintro ⟨v450, v453, v456⟩ w41 ⟨hS_, h0_, h1_, h2_, h3_⟩
          have n0_ : Aa (Kd.R k40 40 w41 w.heap.size (fun k_ => some k_ ≠ (v456 : Value).ownBlock ∧ k_ ≠ gb448) v453 y452) := ⟨h0_⟩
          have n1_ : Aa (Kd.R k40 40 w41 w.heap.size (fun k_ => some k_ ≠ (v453 : Value).ownBlock ∧ k_ ≠ gb448) v456 y455) := ⟨h1_⟩
          have n2_ : Aa (w41.heap[gb448]? = some (.cells #[.int .i64 a1_0, .int .i64 a1_1] 40 (0, 0))) := ⟨h2_⟩
          have n3_ : Aa (Below w.heap.size w w41) := ⟨h3_⟩
          clear BK448
          clear HB
          clear h0_ h1_ h2_ h3_
          have HO454 := n0_
          have HO457 := n1_
          have BK448 := n2_
          have HB := n3_
          clear n0_ n1_ n2_ n3_
          have hHeld : w41.cell? ⟨gb448, 0, none⟩ = some (.int .i64 a1_0) ∧ w41.cell? ⟨gb448, 1, none⟩ = some (.int .i64 a1_1) := hS_
          obtain ⟨Ao43, co43, eo43⟩ := Kd.Ef HO457.out
          (first | subst eo43 | (injection eo43 with f1_ f2_ f3_; have f4_ := f1_.symm; have f5_ := f3_.symm; clear f1_ f2_ f3_; subst f4_; subst f5_))
          refine E5 (a' := ?_) ?_ ?_
          rotate_left
          · simp only [Ht, Act.put, List.setIfInBounds_toArray, List.set_cons_zero, List.set_cons_succ]
            rfl
          refine one_ (i := 5) (N := some 12) #[true, true, true, true, true, true, false] rfl rfl (by kernel_rfl) (by decide) (fun K hK => ?_)
          refine Kd.Fz k40 (w0 := w) w.heap.size (by rfl) (.tmp 9) (.tmp 11) 26 40 (.agg #[(.int .i64 0), (.int .i64 0)]) 16 rfl Tryd.underlying26 Hr rfl (by decide) (by omega) v453 y452 y455 _ _ _ (fun k_ => some k_ ≠ (.slice Ao43 y455.length co43 : Value).ownBlock ∧ k_ ≠ gb448) (fun _ => False) rfl rfl ?aO ?aR (fun _ _ h => h) (fun _ h => h.elim) ?aF ?aB ?aS ?aL ?_
          (case aR => repeat (first | exact (Kd.Ba HO457.out).2.2 | (with_reducible refine Kd.Ci ?_ _) | (with_reducible refine Kd.Cf ?_ _) | (with_reducible refine Kd.Di ?_)))
          (case aB => exact (by repeat (first | (with_reducible first | exact HB.out | apply Ae | apply Ac | apply Ad | refine Ag ?_ GE448.out) | exact HB.out)))
          (case aF => exact (fun k_ hk => ⟨Kd.fresh' (Kd.Gs (by (with_reducible repeat (first | apply Kd.Ah | apply Kd.Ai | apply Kd.Ak)); exact HO457.out)) k_ hk, Kd.Ih (g := gb448) (o := .cells #[.int .i64 a1_0, .int .i64 a1_1] 40 (0, 0)) (by (with_reducible repeat (first | refine Au ?_ _ | refine Az ?_ | refine Ar ?_ _)); exact BK448.out) k_ hk⟩))
          (case aO => exact (by (with_reducible repeat (first | apply Kd.Ah | apply Kd.Ai | apply Kd.Ak)); exact HO454.out))
          (case aS => exact (Aq (by repeat (first | (with_reducible first | exact HB.out | apply Ae | apply Ac | apply Ad | refine Ag ?_ GE448.out) | exact HB.out))))
          (case aL => have := LMc4.out; omega)
          intro v459 w42 ho hb hg hat
          rw [← Ny458.out] at ho
          have n0_ := Aa.mk (Gy (g := gb448) (o := .cells #[.int .i64 a1_0, .int .i64 a1_1] 40 (0, 0)) (by (with_reducible repeat (first | refine Au ?_ _ | refine Az ?_ | refine Ar ?_ _)); exact BK448.out) hg (Kd.Ij HO454.out (fun _ hk => hk.2)))
          have n1_ := Aa.mk (Kd.Ir (ok := (fun k_ => k_ ≠ gb448)) (by (with_reducible repeat (first | apply Kd.Ah | apply Kd.Ai | apply Kd.Ak)); exact Kd.R_mono HO457.out (fun _ hk => ⟨hk.2, hk.1⟩)) hg hat)
          have n2_ := Aa.mk (hb)
          have n3_ := Aa.mk (ho)
          clear BK448
          clear HO457
          clear HB
          clear HO454
          have BK448 := n0_
          have HO457 := n1_
          have HB := n2_
          have HO460 := n3_
          clear n0_ n1_ n2_ n3_
          clear ho hb hg hat
          refine hK.out _ _ ⟨(Bd BK448.out 0).trans rfl, (Bd BK448.out 1).trans rfl⟩ (fun hHeld => ?_)
          clear hK K
          refine E5 (a' := ?_) ?_ ?_
          rotate_left
          · show Act.put _ (some 12) _ = _
            simp only [Act.put, List.setIfInBounds_toArray, List.set_cons_zero, List.set_cons_succ, Dh, Dp]
            rfl
          refine Fq (i := 6) (N := some 6) (v := ?_) (a' := ?_) #[true, true, true, true, true, true, true] rfl rfl (by kernel_rfl) (fun _ _ _ h => h) (Or.inl ⟨by rfl, ?_⟩) ?_ ?_
          rotate_left
          · intro w'
            go_simp
            with_reducible rfl
          rotate_left
          · simp only [Act.put, List.setIfInBounds_toArray, List.set_cons_zero, List.set_cons_succ, Dh, Dp]
            rfl
          refine done_ (by kernel_rfl) ?_
          try go_wp2_with (first | ((with_reducible refine Bv (f := 25) rfl ?_); refine D5 (some 14) rfl rfl Tryd.func25 (by kernel_rfl) rfl #[.slice A0 l0.length c0] rfl (by (try simp only [List.map_toArray, List.map_cons, List.map_nil]); first | done | rfl | (simp only [List.length_drop, List.length_take]; rfl)) ?_; (with_reducible refine (Bh.calls k _ _ l0 t461 _ ?side1 ?side2 A5.out).mono ?_); (case side1 => repeat (first | exact (Kd.Gm HR0.out HB.out) | (with_reducible refine Kd.Ci ?_ _) | (with_reducible refine Kd.Cf ?_ _) | (with_reducible refine Kd.Di ?_))); (case side2 => exact HC0.out); rintro e w' ⟨rfl, ⟨nd, rfl⟩⟩; refine ⟨_, rfl, ?_⟩; obtain ⟨Ao44, co44, eo44⟩ := Kd.Ef HO460.out; subst eo44) | (go_at_call 25; (with_reducible refine (Bh.calls k _ _ y458 t465 _ ?side1 ?side2 A19.out).mono ?_); (case side1 => repeat (first | exact (Kd.Ba HO460.out).2.2 | (with_reducible refine Kd.Ci ?_ _) | (with_reducible refine Kd.Cf ?_ _) | (with_reducible refine Kd.Di ?_))); (case side2 => exact (Kd.Ba HO460.out).2.1); rintro e w' ⟨rfl, ⟨nd, rfl⟩⟩))
          go_ret2
          exact ⟨_, by first | rfl | (simp [Be, Bf] <;> rfl) | (simp [*, Be, Bf] <;> rfl), by (with_reducible repeat (first | apply Kd.Ah | apply Kd.Ai | apply Kd.Ak)); exact Kd.R_mono HO460.out (fun _ hk => trivial), by repeat (first | (with_reducible first | exact HB.out | apply Ae | apply Ac | apply Ad | refine Ag ?_ GE448.out) | exact HB.out)⟩
    · rw [if_neg c4] at H
      exact absurd H (by simp)
  · rw [if_neg c3] at H
    exact absurd H (by simp)
end Go.Proofs.YtpalafegcndccaaDoor.X

namespace Go.Proofs.YtpalafegcndccaaDoor.X
open Go.RowKit Go.Proofs.YtpalafegcndccaaDoorW.PrintWords Go.Proofs.YtpalafegcndccaaDoorW.PrintLast Go.Proofs.YtpalafegcndccaaDoorW.PrintMore
attribute [local go_sem] Ej Eg Eu Ew D9 D8 Ei Eh
open Go.Proofs.YtpalafegcndccaaDoorG
mutual
def Bo.l0 : Nat → List (S40) → Int → List Int → Int → Option (List Int × Bool)
  | 0, _, _, _, _ => none
  | k + 1, x0, x4, x6, x7 => if x7 ≤ 6 then (Bo.j1 k x0 x4 x6 x7 (decide ((x0.length : Int) < 20))) else (Bo.j1 k x0 x4 x6 x7 false)
def Bo.j1 : Nat → List (S40) → Int → List Int → Int → Bool → Option (List Int × Bool)
  | 0, _, _, _, _, _ => none
  | k + 1, x0, x4, x6, x7, x24 => if x24 = true then ((Bj.f k x4 x7).bind fun bt474 => (if bt474.2 = true then (if x6.length < 17592186044416 then (Bo.l0 k x0 x4 (x6 ++ [x7]) (wrap64 (x7 + 1))) else (none)) else (Bo.l0 k x0 x4 x6 (wrap64 (x7 + 1))))) else (some (x6, true))
end
def Bo.f (k : Nat) (l0 : List (S40)) : Option (List Int × Bool) := (Dj.f k l0).bind fun bt469 => (if bt469.2 = true then (Bo.l0 k l0 bt469.1 (([] : List Int)) 1) else (some (([] : List Int), false)))
theorem Bo.Et : ∀ k, (∀ y0 y1 y2 y3, LeO (Bo.l0 k y0 y1 y2 y3) (Bo.l0 (k + 1) y0 y1 y2 y3)) ∧ (∀ y0 y1 y2 y3 y4, LeO (Bo.j1 k y0 y1 y2 y3 y4) (Bo.j1 (k + 1) y0 y1 y2 y3 y4))
  | 0 => ⟨fun _ _ _ _ r h => by simp [Bo.l0] at h, fun _ _ _ _ _ r h => by simp [Bo.j1] at h⟩
  | k + 1 => by
    obtain ⟨ih0, ih1⟩ := Bo.Et k
    refine ⟨?_, ?_⟩
    · intro y0 y1 y2 y3
      unfold Bo.l0
      repeat' first
      | (with_reducible exact ih0 _ _ _ _)
      | (with_reducible exact ih1 _ _ _ _ _)
      | (with_reducible exact Bj.mono _ _ _)
      | (with_reducible exact Dj.mono _ _)
      | (with_reducible exact LeO.refl _)
      | (with_reducible exact LeO.none _)
      | (with_reducible refine LeO.ite ?_ ?_)
      | (with_reducible refine LeO.bind ?_ (fun _ => ?_))
      | exact ih0 _ _ _ _
      | exact ih1 _ _ _ _ _
      | exact Bj.mono _ _ _
      | exact Dj.mono _ _
      | exact LeO.none _
      | refine LeO.ite ?_ ?_
      | refine LeO.bind ?_ (fun _ => ?_)
    · intro y0 y1 y2 y3 y4
      unfold Bo.j1
      repeat' first
      | (with_reducible exact ih0 _ _ _ _)
      | (with_reducible exact ih1 _ _ _ _ _)
      | (with_reducible exact Bj.mono _ _ _)
      | (with_reducible exact Dj.mono _ _)
      | (with_reducible exact LeO.refl _)
      | (with_reducible exact LeO.none _)
      | (with_reducible refine LeO.ite ?_ ?_)
      | (with_reducible refine LeO.bind ?_ (fun _ => ?_))
      | exact ih0 _ _ _ _
      | exact ih1 _ _ _ _ _
      | exact Bj.mono _ _ _
      | exact Dj.mono _ _
      | exact LeO.none _
      | refine LeO.ite ?_ ?_
      | refine LeO.bind ?_ (fun _ => ?_)
theorem Bo.mono : ∀ a0 k, LeO (Bo.f k a0) (Bo.f (k + 1) a0) := by
  intro a0 k
  obtain ⟨ih0, ih1⟩ := Bo.Et k
  unfold Bo.f
  repeat' first
      | (with_reducible exact ih0 _ _ _ _)
      | (with_reducible exact ih1 _ _ _ _ _)
      | (with_reducible exact Bj.mono _ _ _)
      | (with_reducible exact Dj.mono _ _)
      | (with_reducible exact LeO.refl _)
      | (with_reducible exact LeO.none _)
      | (with_reducible refine LeO.ite ?_ ?_)
      | (with_reducible refine LeO.bind ?_ (fun _ => ?_))
      | exact ih0 _ _ _ _
      | exact ih1 _ _ _ _ _
      | exact Bj.mono _ _ _
      | exact Dj.mono _ _
      | exact LeO.none _
      | refine LeO.ite ?_ ?_
      | refine LeO.bind ?_ (fun _ => ?_)
set_option maxHeartbeats 8000000 in
set_option maxRecDepth 100000 in
theorem Bo.calls (k : Nat) (A0 : Option Addr) (c0 : Nat) (l0 : List (S40)) (r1 : List Int) (r2 : Bool) (w : World) (hr0 : Kd.C k40 w A0 l0.length l0) (hc0 : l0.length ≤ c0) (h : Bo.f k l0 = some (r1, r2)) :
    Calls Tryd.prog 23 #[.slice A0 l0.length c0] w fun e w' => ∃ v0_ : Value, e = .returned (.tuple #[v0_, .bool r2]) ∧ Kd.R (Kd.int .i64) 3 w' w.heap.size (fun _ => True) v0_ r1 ∧ Below w.heap.size w w' := by
  have HR0 := Aa.mk hr0
  have HC0 := Aa.mk hc0
  clear hr0 hc0
  have HB := Aa.mk (Below.refl w.heap.size w)
  have H : ((Dj.f k l0).bind fun bt469 => (if bt469.2 = true then (Bo.l0 k l0 bt469.1 (([] : List Int)) 1) else (some (([] : List Int), false)))) = some (r1, r2) := h
  clear h
  replace H := Option.bind_eq_some_iff.mp H
  obtain ⟨⟨t469, t470⟩, A20, H⟩ := H
  replace H : (if t470 = true then (Bo.l0 k l0 t469 (([] : List Int)) 1) else (some (([] : List Int), false))) = some (r1, r2) := H
  have A2 := Aa.mk A20
  clear A20
  by_cases c3 : t470 = true
  · subst c3
    have H1 : (Bo.l0 k l0 t469 (([] : List Int)) 1) = some (r1, r2) := by rw [if_pos rfl] at H; exact H
    clear H
    have H := H1
    clear H1
    obtain ⟨y471, hy471⟩ : ∃ y_ : List Int, y_ = (([] : List Int)) := ⟨_, rfl⟩
    replace H : (Bo.l0 k l0 t469 y471 1) = some (r1, r2) := by first | (rw [hy471]; with_reducible exact H) | (have H2_ := (Option.bind_some _ _).symm.trans H; rw [hy471]; with_reducible exact H2_) | (have H2_ := (Option.bind_some _ _).symm.trans H; with_reducible exact H2_) | with_reducible exact H | (rw [hy471]; exact H) | exact H
    have Ny471 := Aa.mk hy471
    clear hy471
    have H' := Aa.mk H
    clear H
    go_enter Tryd.func23, Tryd.ntmps23
    go_wp2_with (first | ((with_reducible refine Bv (f := 38) rfl ?_); refine D5 (some 12) rfl rfl Tryd.func38 (by kernel_rfl) rfl #[.slice A0 l0.length c0] rfl (by (try simp only [List.map_toArray, List.map_cons, List.map_nil]); first | done | rfl | (simp only [List.length_drop, List.length_take]; rfl)) ?_; (with_reducible refine (Dj.calls k _ _ l0 t469 true _ ?side1 ?side2 A2.out).mono ?_); (case side1 => repeat (first | exact HR0.out | (with_reducible refine Kd.Ci ?_ _) | (with_reducible refine Kd.Cf ?_ _) | (with_reducible refine Kd.Di ?_))); (case side2 => exact HC0.out); rintro e w4 ⟨rfl, hb⟩; refine ⟨_, rfl, ?_⟩; have n0_ := Aa.mk (Ap (by repeat (first | (with_reducible first | exact HB.out | apply Ae | apply Ac | apply Ad) | exact HB.out)) hb); clear HB; have HB := n0_; clear n0_; (try clear hb); (try clear hb2); (try clear hk); (try clear hi)) | ((with_reducible refine D7 (N := 17) rfl ?_); (try (refine Gq (by rfl) ?_; dsimp only)); refine Kd.Ii (Kd.int .i64) _ 3 ?hg (N := 17) ?hd (xs := ([] : List Int)) (inner := []) (ok := fun _ => True) (okp := fun _ => True) ?hr ?hp (fun _ hk => hk) trivial (Below.refl _ _) (Nat.le_refl _) (by simp) ?_; (case hd => rfl); (case hg => rfl); (case hr => first | (go_simp; done) | (go_simp; rfl)); (case hp => exact (Dw.none _ _)); intro v472 w5 ho6 hb hg_ hnew_; clear hg_ hnew_; (first | rw [← Ny471.out] at ho6 | (simp only [Int.reduceToNat] at ho6; rw [← Ny471.out] at ho6)); have n0_ := Aa.mk (Kd.Du ho6 (Aq (by repeat (first | (with_reducible first | exact HB.out | apply Ae | apply Ac | apply Ad) | exact HB.out)))); have n1_ := Aa.mk (Ap (by repeat (first | (with_reducible first | exact HB.out | apply Ae | apply Ac | apply Ad) | exact HB.out)) hb); clear HB; have HO473 := n0_; have HB := n1_; clear n0_ n1_; clear hb ho6))
    go_loopg [6, 7] k (fun kq v6 v7 w' => ∃ (x6_1 : List Int) (x7_1 : Int), v7 = .int .i64 x7_1 ∧ Aa (Bo.l0 kq l0 t469 x6_1 x7_1 = some (r1, r2)) ∧ Aa (kq ≤ k) ∧ Aa (Kd.R (Kd.int .i64) 3 w' w.heap.size (fun _ => True) v6 x6_1) ∧ Aa (Below w.heap.size w w'))
    case atStart => exact ⟨(y471), (1), (by first | rfl | (simp; done) | (simp [*]; done)), H', ⟨Nat.le_refl _⟩, ⟨by (with_reducible repeat (first | apply Kd.Ah | apply Kd.Ai | apply Kd.Ak)); exact HO473.out⟩, ⟨by repeat (first | (with_reducible first | exact HB.out | apply Ae | apply Ac | apply Ad) | exact HB.out)⟩⟩
    case round =>
      clear H'
      try clear c2
      try clear p2
      try clear c3
      obtain ⟨x6_1, x7_1, rfl, HA, HK1, HO_6, HB⟩ := hrel
      cases gk with
      | zero => exact absurd HA.out (by simp [Bo.l0])
      | succ k1 =>
        have H := HA.out
        clear HA
        simp only [Bo.l0] at H
        have HC7 := Aa.mk H
        clear H
        go_upto_region 6 with (fail)
        go_cut [24] (fun v24 wc => ∃ (kq : Nat) (x24_6 : Bool), v24 = .bool x24_6 ∧ Aa (Bo.j1 kq l0 t469 x6_1 x7_1 x24_6 = some (r1, r2)) ∧ Aa (kq ≤ k1) ∧ Aa (Kd.R (Kd.int .i64) 3 wc w.heap.size (fun _ => True) u6 x6_1) ∧ Aa (Below w.heap.size w wc))
        case first =>
          have H := HC7.out
          clear HC7
          by_cases c8 : x7_1 ≤ 6
          · rw [if_pos c8] at H
            have c8b0 : decide (x7_1 ≤ 6) = true := decide_eq_true c8
            clear c8
            (first | rw [c8b0] | (simp only [Dh, Dp]; rw [c8b0]) | skip)
            have H' := Aa.mk H
            clear H
            go_wp2
            go_meet
            case rel => exact ⟨_, (decide ((l0.length : Int) < 20)), (by first | rfl | (simp; done) | (simp [*]; done)), H', ⟨by have := HK1.out; first | omega | exact Nat.le_refl _⟩, ⟨by (with_reducible repeat (first | apply Kd.Ah | apply Kd.Ai | apply Kd.Ak)); exact HO_6.out⟩, ⟨by repeat (first | (with_reducible first | exact HB.out | apply Ae | apply Ac | apply Ad) | exact HB.out)⟩⟩
          · rw [if_neg c8] at H
            have c8b0 : decide (x7_1 ≤ 6) = false := decide_eq_false c8
            clear c8
            (first | rw [c8b0] | (simp only [Dh, Dp]; rw [c8b0]) | skip)
            have H' := Aa.mk H
            clear H
            go_wp2
            go_meet
            case rel => exact ⟨_, (false), (by first | rfl | (simp; done) | (simp [*]; done)), H', ⟨by have := HK1.out; first | omega | exact Nat.le_refl _⟩, ⟨by (with_reducible repeat (first | apply Kd.Ah | apply Kd.Ai | apply Kd.Ak)); exact HO_6.out⟩, ⟨by repeat (first | (with_reducible first | exact HB.out | apply Ae | apply Ac | apply Ad) | exact HB.out)⟩⟩
        case rest =>
          clear HC7
          try clear c2
          try clear p2
          try clear c3
          try clear c8
          try clear c8b0
          try clear p2
          obtain ⟨kq, x24_6, rfl, HA, HJ6, HO_6, HB⟩ := hcut
          cases kq with
          | zero => exact absurd HA.out (by simp [Bo.j1])
          | succ kj6 =>
            have H := HA.out
            clear HA
            simp only [Bo.j1] at H
            by_cases c9 : x24_6 = true
            · subst c9
              have H1 : ((Bj.f kj6 t469 x7_1).bind fun bt474 => (if bt474.2 = true then (if x6_1.length < 17592186044416 then (Bo.l0 kj6 l0 t469 (x6_1 ++ [x7_1]) (wrap64 (x7_1 + 1))) else (none)) else (Bo.l0 kj6 l0 t469 x6_1 (wrap64 (x7_1 + 1))))) = some (r1, r2) := by rw [if_pos rfl] at H; exact H
              clear H
              have H := H1
              clear H1
              replace H := Option.bind_eq_some_iff.mp H
              obtain ⟨⟨t474, t475⟩, A100, H⟩ := H
              replace H : (if t475 = true then (if x6_1.length < 17592186044416 then (Bo.l0 kj6 l0 t469 (x6_1 ++ [x7_1]) (wrap64 (x7_1 + 1))) else (none)) else (Bo.l0 kj6 l0 t469 x6_1 (wrap64 (x7_1 + 1)))) = some (r1, r2) := H
              have A10 := Aa.mk A100
              clear A100
              by_cases c11 : t475 = true
              · subst c11
                have H1 : (if x6_1.length < 17592186044416 then (Bo.l0 kj6 l0 t469 (x6_1 ++ [x7_1]) (wrap64 (x7_1 + 1))) else (none)) = some (r1, r2) := by rw [if_pos rfl] at H; exact H
                clear H
                have H := H1
                clear H1
                by_cases c12 : x6_1.length < 17592186044416
                · rw [if_pos c12] at H
                  have LMc12 := Aa.mk c12
                  clear c12
                  obtain ⟨y476, hy476⟩ : ∃ y_ : List Int, y_ = (x6_1 ++ [x7_1]) := ⟨_, rfl⟩
                  replace H : (Bo.l0 kj6 l0 t469 y476 (wrap64 (x7_1 + 1))) = some (r1, r2) := by first | (rw [hy476]; with_reducible exact H) | (have H2_ := (Option.bind_some _ _).symm.trans H; rw [hy476]; with_reducible exact H2_) | (have H2_ := (Option.bind_some _ _).symm.trans H; with_reducible exact H2_) | with_reducible exact H | (rw [hy476]; exact H) | exact H
                  have Ny476 := Aa.mk hy476
                  clear hy476
                  have H' := Aa.mk H
                  clear H
                  go_wp2_with (first | ((with_reducible refine Bv (f := 46) rfl ?_); refine D5 (some 30) rfl rfl Tryd.func46 (by kernel_rfl) rfl #[.int .i64 t469, .int .i64 x7_1] rfl (by (try simp only [List.map_toArray, List.map_cons, List.map_nil]); first | done | rfl | (simp only [List.length_drop, List.length_take]; rfl)) ?_; (with_reducible refine (Bj.calls kj6 t469 x7_1 t474 true _ A10.out).mono ?_); rintro e w' ⟨rfl, ⟨nd, rfl⟩⟩; refine ⟨_, rfl, ?_⟩) | ((with_reducible refine Hq (b := .append) (xs := #[.tmp 34, .tmp 36]) rfl ?_); (try (refine Gq (by rfl) ?_; dsimp only)); at_builtin; refine Kd.Iw (Kd.int .i64) (w0 := w) w.heap.size rfl (.tmp 34) (.tmp 36) 44 3 (.int .i64 0) 8 rfl Tryd.underlying44 info3 rfl (by decide) (by omega) u6 x6_1 x7_1 [.int .i64 x7_1] (fun _ => True) (fun _ => False) rfl rfl ?aP (fun _ hk => hk.elim) ?aF ?aO ?aB ?aS ?aL ?_; (case aP => exact rfl); (case aB => exact (by repeat (first | (with_reducible first | exact HB.out | apply Ae | apply Ac | apply Ad) | exact HB.out))); (case aF => exact (fun _ _ => trivial)); (case aO => exact (by (with_reducible repeat (first | apply Kd.Ah | apply Kd.Ai | apply Kd.Ak)); exact HO_6.out)); (case aS => exact (Aq (by repeat (first | (with_reducible first | exact HB.out | apply Ae | apply Ac | apply Ad) | exact HB.out)))); (case aL => have := LMc12.out; omega); intro v477 w13 ho hb hg hat; rw [← Ny476.out] at ho; have n0_ := Aa.mk (hb); have n1_ := Aa.mk (ho); clear HB; clear HO_6; have HB := n0_; have HO478 := n1_; clear n0_ n1_; clear ho hb hg hat))
                  go_roundg kj6
                  case measure => have := HK1.out; have := HJ6.out; omega
                  case rel => exact ⟨(y476), (wrap64 (x7_1 + 1)), (by first | rfl | (simp; done) | (simp [*]; done)), H', ⟨by have := HK1.out; have := HJ6.out; omega⟩, ⟨by (with_reducible repeat (first | apply Kd.Ah | apply Kd.Ai | apply Kd.Ak)); exact HO478.out⟩, ⟨by repeat (first | (with_reducible first | exact HB.out | apply Ae | apply Ac | apply Ad) | exact HB.out)⟩⟩
                · rw [if_neg c12] at H
                  exact absurd H (by simp)
              · replace c11 := Bool.eq_false_iff.mpr c11
                subst c11
                have H1 : (Bo.l0 kj6 l0 t469 x6_1 (wrap64 (x7_1 + 1))) = some (r1, r2) := by rw [if_neg (show ¬ (false = true) by decide)] at H; exact H
                clear H
                have H := H1
                clear H1
                have H' := Aa.mk H
                clear H
                go_wp2_with (first | ((with_reducible refine Bv (f := 46) rfl ?_); refine D5 (some 30) rfl rfl Tryd.func46 (by kernel_rfl) rfl #[.int .i64 t469, .int .i64 x7_1] rfl (by (try simp only [List.map_toArray, List.map_cons, List.map_nil]); first | done | rfl | (simp only [List.length_drop, List.length_take]; rfl)) ?_; (with_reducible refine (Bj.calls kj6 t469 x7_1 t474 false _ A10.out).mono ?_); rintro e w' ⟨rfl, ⟨nd, rfl⟩⟩; refine ⟨_, rfl, ?_⟩))
                go_roundg kj6
                case measure => have := HK1.out; have := HJ6.out; omega
                case rel => exact ⟨(x6_1), (wrap64 (x7_1 + 1)), (by first | rfl | (simp; done) | (simp [*]; done)), H', ⟨by have := HK1.out; have := HJ6.out; omega⟩, ⟨by (with_reducible repeat (first | apply Kd.Ah | apply Kd.Ai | apply Kd.Ak)); exact HO_6.out⟩, ⟨by repeat (first | (with_reducible first | exact HB.out | apply Ae | apply Ac | apply Ad) | exact HB.out)⟩⟩
            · replace c9 := Bool.eq_false_iff.mpr c9
              subst c9
              have H1 : (some (x6_1, true)) = some (r1, r2) := by rw [if_neg (show ¬ (false = true) by decide)] at H; exact H
              clear H
              have H := H1
              clear H1
              simp only [Option.some.injEq, Prod.mk.injEq] at H
              obtain ⟨rfl, rfl⟩ := H
              go_wp2
              go_ret2
              exact ⟨_, by first | rfl | (simp [Be, Bf] <;> rfl) | (simp [*, Be, Bf] <;> rfl), by (with_reducible repeat (first | apply Kd.Ah | apply Kd.Ai | apply Kd.Ak)); exact HO_6.out, by repeat (first | (with_reducible first | exact HB.out | apply Ae | apply Ac | apply Ad) | exact HB.out)⟩
  · replace c3 := Bool.eq_false_iff.mpr c3
    subst c3
    have H1 : (some (([] : List Int), false)) = some (r1, r2) := by rw [if_neg (show ¬ (false = true) by decide)] at H; exact H
    clear H
    have H := H1
    clear H1
    simp only [Option.some.injEq, Prod.mk.injEq] at H
    obtain ⟨rfl, rfl⟩ := H
    go_enter Tryd.func23, Tryd.ntmps23
    go_wp2_with (first | ((with_reducible refine Bv (f := 38) rfl ?_); refine D5 (some 12) rfl rfl Tryd.func38 (by kernel_rfl) rfl #[.slice A0 l0.length c0] rfl (by (try simp only [List.map_toArray, List.map_cons, List.map_nil]); first | done | rfl | (simp only [List.length_drop, List.length_take]; rfl)) ?_; (with_reducible refine (Dj.calls k _ _ l0 t469 false _ ?side1 ?side2 A2.out).mono ?_); (case side1 => repeat (first | exact HR0.out | (with_reducible refine Kd.Ci ?_ _) | (with_reducible refine Kd.Cf ?_ _) | (with_reducible refine Kd.Di ?_))); (case side2 => exact HC0.out); rintro e w14 ⟨rfl, hb⟩; refine ⟨_, rfl, ?_⟩; have n0_ := Aa.mk (Ap (by repeat (first | (with_reducible first | exact HB.out | apply Ae | apply Ac | apply Ad) | exact HB.out)) hb); clear HB; have HB := n0_; clear n0_; (try clear hb); (try clear hb2); (try clear hk); (try clear hi)))
    go_ret2
    exact ⟨_, by first | rfl | (simp [Be, Bf] <;> rfl) | (simp [*, Be, Bf] <;> rfl), by first | exact Kd.R_nil _ _ _ _ _ | exact Kd.N_nil _ _ _ _ _ | exact Kd.V_nil _ _ _ _ _ | exact Kd.Q_nil _ _ _ _ _ | exact Kd.S_nil _ _ _ _ _, by repeat (first | (with_reducible first | exact HB.out | apply Ae | apply Ac | apply Ad) | exact HB.out)⟩
end Go.Proofs.YtpalafegcndccaaDoor.X

namespace Go.Proofs.YtpalafegcndccaaDoor.X
open Go.RowKit Go.Proofs.YtpalafegcndccaaDoorW.PrintWords Go.Proofs.YtpalafegcndccaaDoorW.PrintLast Go.Proofs.YtpalafegcndccaaDoorW.PrintMore
attribute [local go_sem] Ej Eg Eu Ew D9 D8 Ei Eh
open Go.Proofs.YtpalafegcndccaaDoorG
def Ee.l0 : Nat → List Int → Int → Int → Option (Bool)
  | 0, _, _, _ => none
  | k + 1, x0, x1, x5 => if x5 < (x0.length : Int) then (if 0 ≤ x5 then (if (rd x0 x5) = x1 then (some true) else (Ee.l0 k x0 x1 (wrap64 (x5 + 1)))) else (none)) else (some false)
def Ee.f (k : Nat) (l0 : List Int) (a1 : Int) : Option (Bool) := Ee.l0 k l0 a1 0
theorem Ee.Et : ∀ k, (∀ y0 y1 y2, LeO (Ee.l0 k y0 y1 y2) (Ee.l0 (k + 1) y0 y1 y2))
  | 0 => fun _ _ _ r h => by simp [Ee.l0] at h
  | k + 1 => by
    have ih0 := Ee.Et k
    · intro y0 y1 y2
      unfold Ee.l0
      repeat' first
      | (with_reducible exact ih0 _ _ _)
      | (with_reducible exact LeO.refl _)
      | (with_reducible exact LeO.none _)
      | (with_reducible refine LeO.ite ?_ ?_)
      | (with_reducible refine LeO.bind ?_ (fun _ => ?_))
      | exact ih0 _ _ _
      | exact LeO.none _
      | refine LeO.ite ?_ ?_
      | refine LeO.bind ?_ (fun _ => ?_)
theorem Ee.mono : ∀ a0 a1 k, LeO (Ee.f k a0 a1) (Ee.f (k + 1) a0 a1) := by
  intro a0 a1 k
  have ih0 := Ee.Et k
  unfold Ee.f
  repeat' first
      | (with_reducible exact ih0 _ _ _)
      | (with_reducible exact LeO.refl _)
      | (with_reducible exact LeO.none _)
      | (with_reducible refine LeO.ite ?_ ?_)
      | (with_reducible refine LeO.bind ?_ (fun _ => ?_))
      | exact ih0 _ _ _
      | exact LeO.none _
      | refine LeO.ite ?_ ?_
      | refine LeO.bind ?_ (fun _ => ?_)
set_option maxHeartbeats 8000000 in
set_option maxRecDepth 100000 in
theorem Ee.calls (k : Nat) (A0 : Option Addr) (c0 : Nat) (l0 : List Int) (a1 : Int) (r : Bool) (w : World) (hr0 : Kd.C (Kd.int .i64) w A0 l0.length l0) (hc0 : l0.length ≤ c0) (h : Ee.f k l0 a1 = some r) :
    Calls Tryd.prog 24 #[.slice A0 l0.length c0, .int .i64 a1] w fun e w' => e = .returned (.bool r) ∧ Cj w w' := by
  have HR0 := Aa.mk hr0
  have HC0 := Aa.mk hc0
  clear hr0 hc0
  have H : (Ee.l0 k l0 a1 0) = some r := h
  clear h
  have H' := Aa.mk H
  clear H
  go_enter Tryd.func24, Tryd.ntmps24
  go_wp2
  go_loopg [5] k (fun kq v5 w' => ∃ (x5_1 : Int), v5 = .int .i64 x5_1 ∧ Aa (Ee.l0 kq l0 a1 x5_1 = some r) ∧ Aa (kq ≤ k) ∧ Cj w w')
  case atStart => exact ⟨(0), (by first | rfl | (simp; done) | (simp [*]; done)), H', ⟨Nat.le_refl _⟩, by repeat (first | exact Cj.refl _ | apply Cj.step)⟩
  case round =>
    clear H'
    try clear c2
    try clear p2
    obtain ⟨x5_1, rfl, HA, HK1, ⟨m1, rfl⟩⟩ := hrel
    cases gk with
    | zero => exact absurd HA.out (by simp [Ee.l0])
    | succ k1 =>
      have H := HA.out
      clear HA
      simp only [Ee.l0] at H
      by_cases c3 : x5_1 < (l0.length : Int)
      · rw [if_pos c3] at H
        have c3b0 : decide (x5_1 < (l0.length : Int)) = true := decide_eq_true c3
        clear c3
        by_cases c4 : 0 ≤ x5_1
        · rw [if_pos c4] at H
          have c4b0 : decide (0 ≤ x5_1) = true := decide_eq_true c4
          clear c4
          by_cases c5 : (rd l0 x5_1) = a1
          · rw [if_pos c5] at H
            have c5b0 : ((rd l0 x5_1) == a1) = true := beq_iff_eq.mpr c5
            have c5b1 : ((rd l0 x5_1) != a1) = false := bne_eq_false_iff_eq.mpr c5
            clear c5
            obtain rfl := Option.some.inj H
            have p479 : 0 ≤ (x5_1 : Int) := of_decide_eq_true (by first | (with_reducible assumption) | assumption)
            have q479 : x5_1 < (l0.length : Int) := of_decide_eq_true (by first | (with_reducible assumption) | assumption)
            obtain ⟨ad479, e479, hx479_0⟩ := Kd.at_int HR0.out x5_1 p479 q479
            cases e479
            replace p479 := eq_true p479
            replace q479 := eq_true q479
            go_wp2
            go_ret
            exact ⟨by first | rfl | (simp; done) | (simp [*]; done), by repeat (first | exact Cj.refl _ | apply Cj.step)⟩
          · rw [if_neg c5] at H
            have c5b0 : ((rd l0 x5_1) == a1) = false := beq_eq_false_iff_ne.mpr c5
            have c5b1 : ((rd l0 x5_1) != a1) = true := bne_iff_ne.mpr c5
            have H' := Aa.mk H
            clear H
            have p479 : 0 ≤ (x5_1 : Int) := of_decide_eq_true (by first | (with_reducible assumption) | assumption)
            have q479 : x5_1 < (l0.length : Int) := of_decide_eq_true (by first | (with_reducible assumption) | assumption)
            obtain ⟨ad479, e479, hx479_0⟩ := Kd.at_int HR0.out x5_1 p479 q479
            cases e479
            replace p479 := eq_true p479
            replace q479 := eq_true q479
            go_wp2
            go_roundg k1
            case measure => have := HK1.out; omega
            case rel => exact ⟨(wrap64 (x5_1 + 1)), (by first | rfl | (simp; done) | (simp [*]; done)), H', ⟨by have := HK1.out; omega⟩, by repeat (first | exact Cj.refl _ | apply Cj.step)⟩
        · rw [if_neg c4] at H
          exact absurd H (by simp)
      · rw [if_neg c3] at H
        have c3b0 : decide (x5_1 < (l0.length : Int)) = false := decide_eq_false c3
        clear c3
        obtain rfl := Option.some.inj H
        go_wp2
        go_ret
        exact ⟨by first | rfl | (simp; done) | (simp [*]; done), by repeat (first | exact Cj.refl _ | apply Cj.step)⟩
end Go.Proofs.YtpalafegcndccaaDoor.X

namespace Go.Proofs.YtpalafegcndccaaDoor.X
open Go.RowKit Go.Proofs.YtpalafegcndccaaDoorW.PrintWords Go.Proofs.YtpalafegcndccaaDoorW.PrintLast Go.Proofs.YtpalafegcndccaaDoorW.PrintMore
attribute [local go_sem] Ej Eg Eu Ew D9 D8 Ei Eh
open Go.Proofs.YtpalafegcndccaaDoorG
def Ep.f (k : Nat) (l0 : List (S40)) : Option (ByteArray × Bool) := (Bh.f k l0).bind fun t119 => (if t119 < 0 then (some ((⟨#[]⟩ : ByteArray), false)) else ((Dn.f k l0).bind fun t120 => (some (t120, true))))
theorem Ep.mono : ∀ a0 k, LeO (Ep.f k a0) (Ep.f (k + 1) a0) := by
  intro a0 k
  unfold Ep.f
  repeat' first
      | (with_reducible exact Bh.mono _ _)
      | (with_reducible exact Dn.mono _ _)
      | (with_reducible exact LeO.refl _)
      | (with_reducible exact LeO.none _)
      | (with_reducible refine LeO.ite ?_ ?_)
      | (with_reducible refine LeO.bind ?_ (fun _ => ?_))
      | exact Bh.mono _ _
      | exact Dn.mono _ _
      | exact LeO.none _
      | refine LeO.ite ?_ ?_
      | refine LeO.bind ?_ (fun _ => ?_)
set_option maxHeartbeats 8000000 in
set_option maxRecDepth 100000 in
theorem Ep.calls (k : Nat) (A0 : Option Addr) (c0 : Nat) (l0 : List (S40)) (r1 : ByteArray) (r2 : Bool) (w : World) (hr0 : Kd.C k40 w A0 l0.length l0) (hc0 : l0.length ≤ c0) (h : Ep.f k l0 = some (r1, r2)) :
    Calls Tryd.prog 7 #[.slice A0 l0.length c0] w fun e w' => e = .returned (.tuple #[.string r1, .bool r2]) ∧ Below w.heap.size w w' := by
  have HR0 := Aa.mk hr0
  have HC0 := Aa.mk hc0
  clear hr0 hc0
  have HB := Aa.mk (Below.refl w.heap.size w)
  have H : ((Bh.f k l0).bind fun t119 => (if t119 < 0 then (some ((⟨#[]⟩ : ByteArray), false)) else ((Dn.f k l0).bind fun t120 => (some (t120, true))))) = some (r1, r2) := h
  clear h
  replace H := Option.bind_eq_some_iff.mp H
  obtain ⟨t119, A20, H⟩ := H
  replace H : (if t119 < 0 then (some ((⟨#[]⟩ : ByteArray), false)) else ((Dn.f k l0).bind fun t120 => (some (t120, true)))) = some (r1, r2) := H
  have A2 := Aa.mk A20
  clear A20
  by_cases c3 : t119 < 0
  · rw [if_pos c3] at H
    have c3b0 : decide (t119 < 0) = true := decide_eq_true c3
    clear c3
    simp only [Option.some.injEq, Prod.mk.injEq] at H
    obtain ⟨rfl, rfl⟩ := H
    go_enter Tryd.func7, Tryd.ntmps7
    go_wp2_with (first | ((with_reducible refine Bv (f := 25) rfl ?_); refine D5 (some 5) rfl rfl Tryd.func25 (by kernel_rfl) rfl #[.slice A0 l0.length c0] rfl (by (try simp only [List.map_toArray, List.map_cons, List.map_nil]); first | done | rfl | (simp only [List.length_drop, List.length_take]; rfl)) ?_; (with_reducible refine (Bh.calls k _ _ l0 t119 _ ?side1 ?side2 A2.out).mono ?_); (case side1 => repeat (first | exact HR0.out | (with_reducible refine Kd.Ci ?_ _) | (with_reducible refine Kd.Cf ?_ _) | (with_reducible refine Kd.Di ?_))); (case side2 => exact HC0.out); rintro e w' ⟨rfl, ⟨nd, rfl⟩⟩; refine ⟨_, rfl, ?_⟩))
    go_ret2
    exact ⟨by first | rfl | (simp [Be, Bf] <;> rfl) | (simp [*, Be, Bf] <;> rfl), by repeat (first | (with_reducible first | exact HB.out | apply Ae | apply Ac | apply Ad) | exact HB.out)⟩
  · rw [if_neg c3] at H
    have c3b0 : decide (t119 < 0) = false := decide_eq_false c3
    clear c3
    replace H := Option.bind_eq_some_iff.mp H
    obtain ⟨t120, A40, H⟩ := H
    replace H : (some (t120, true)) = some (r1, r2) := H
    have A4 := Aa.mk A40
    clear A40
    simp only [Option.some.injEq, Prod.mk.injEq] at H
    obtain ⟨rfl, rfl⟩ := H
    go_enter Tryd.func7, Tryd.ntmps7
    go_wp2_with (first | ((with_reducible refine Bv (f := 25) rfl ?_); refine D5 (some 5) rfl rfl Tryd.func25 (by kernel_rfl) rfl #[.slice A0 l0.length c0] rfl (by (try simp only [List.map_toArray, List.map_cons, List.map_nil]); first | done | rfl | (simp only [List.length_drop, List.length_take]; rfl)) ?_; (with_reducible refine (Bh.calls k _ _ l0 t119 _ ?side1 ?side2 A2.out).mono ?_); (case side1 => repeat (first | exact HR0.out | (with_reducible refine Kd.Ci ?_ _) | (with_reducible refine Kd.Cf ?_ _) | (with_reducible refine Kd.Di ?_))); (case side2 => exact HC0.out); rintro e w' ⟨rfl, ⟨nd, rfl⟩⟩; refine ⟨_, rfl, ?_⟩) | ((with_reducible refine Bv (f := 26) rfl ?_); refine D5 (some 8) rfl rfl Tryd.func26 (by kernel_rfl) rfl #[.slice A0 l0.length c0] rfl (by (try simp only [List.map_toArray, List.map_cons, List.map_nil]); first | done | rfl | (simp only [List.length_drop, List.length_take]; rfl)) ?_; (with_reducible refine (Dn.calls k _ _ l0 t120 _ ?side1 ?side2 A4.out).mono ?_); (case side1 => repeat (first | exact HR0.out | (with_reducible refine Kd.Ci ?_ _) | (with_reducible refine Kd.Cf ?_ _) | (with_reducible refine Kd.Di ?_))); (case side2 => exact HC0.out); rintro e w5 ⟨rfl, hb⟩; refine ⟨_, rfl, ?_⟩; have n0_ := Aa.mk (Ap (by repeat (first | (with_reducible first | exact HB.out | apply Ae | apply Ac | apply Ad) | exact HB.out)) hb); clear HB; have HB := n0_; clear n0_; (try clear hb); (try clear hb2); (try clear hk); (try clear hi)))
    go_ret2
    exact ⟨by first | rfl | (simp [Be, Bf] <;> rfl) | (simp [*, Be, Bf] <;> rfl), by repeat (first | (with_reducible first | exact HB.out | apply Ae | apply Ac | apply Ad) | exact HB.out)⟩
end Go.Proofs.YtpalafegcndccaaDoor.X

namespace Go.Proofs.YtpalafegcndccaaDoor.X
open Go.RowKit Go.Proofs.YtpalafegcndccaaDoorW.PrintWords Go.Proofs.YtpalafegcndccaaDoorW.PrintLast Go.Proofs.YtpalafegcndccaaDoorW.PrintMore
attribute [local go_sem] Ej Eg Eu Ew D9 D8 Ei Eh
open Go.Proofs.YtpalafegcndccaaDoorG
def D6.f (k : Nat) (l0 : List (S40)) : Option (ByteArray × Bool) := (Cm.f k l0).bind fun t162 => (if t162 = true then ((Dt.f k l0).bind fun t163 => (some (t163, true))) else (some ((⟨#[]⟩ : ByteArray), false)))
theorem D6.mono : ∀ a0 k, LeO (D6.f k a0) (D6.f (k + 1) a0) := by
  intro a0 k
  unfold D6.f
  repeat' first
      | (with_reducible exact Cm.mono _ _)
      | (with_reducible exact Dt.mono _ _)
      | (with_reducible exact LeO.refl _)
      | (with_reducible exact LeO.none _)
      | (with_reducible refine LeO.ite ?_ ?_)
      | (with_reducible refine LeO.bind ?_ (fun _ => ?_))
      | exact Cm.mono _ _
      | exact Dt.mono _ _
      | exact LeO.none _
      | refine LeO.ite ?_ ?_
      | refine LeO.bind ?_ (fun _ => ?_)
set_option maxHeartbeats 8000000 in
set_option maxRecDepth 100000 in
theorem D6.calls (k : Nat) (A0 : Option Addr) (c0 : Nat) (l0 : List (S40)) (r1 : ByteArray) (r2 : Bool) (w : World) (hr0 : Kd.C k40 w A0 l0.length l0) (hc0 : l0.length ≤ c0) (hG : F9 w) (h : D6.f k l0 = some (r1, r2)) :
    Calls Tryd.prog 9 #[.slice A0 l0.length c0] w fun e w' => e = .returned (.tuple #[.string r1, .bool r2]) ∧ Below w.heap.size w w' := by
  have HGL := Aa.mk hG
  clear hG
  have HR0 := Aa.mk hr0
  have HC0 := Aa.mk hc0
  clear hr0 hc0
  have HB := Aa.mk (Below.refl w.heap.size w)
  have H : ((Cm.f k l0).bind fun t162 => (if t162 = true then ((Dt.f k l0).bind fun t163 => (some (t163, true))) else (some ((⟨#[]⟩ : ByteArray), false)))) = some (r1, r2) := h
  clear h
  replace H := Option.bind_eq_some_iff.mp H
  obtain ⟨t162, A20, H⟩ := H
  replace H : (if t162 = true then ((Dt.f k l0).bind fun t163 => (some (t163, true))) else (some ((⟨#[]⟩ : ByteArray), false))) = some (r1, r2) := H
  have A2 := Aa.mk A20
  clear A20
  by_cases c3 : t162 = true
  · subst c3
    have H1 : ((Dt.f k l0).bind fun t163 => (some (t163, true))) = some (r1, r2) := by rw [if_pos rfl] at H; exact H
    clear H
    have H := H1
    clear H1
    replace H := Option.bind_eq_some_iff.mp H
    obtain ⟨t163, A40, H⟩ := H
    replace H : (some (t163, true)) = some (r1, r2) := H
    have A4 := Aa.mk A40
    clear A40
    simp only [Option.some.injEq, Prod.mk.injEq] at H
    obtain ⟨rfl, rfl⟩ := H
    go_enter Tryd.func9, Tryd.ntmps9
    go_wp2_with (first | ((with_reducible refine Bv (f := 17) rfl ?_); refine D5 (some 5) rfl rfl Tryd.func17 (by kernel_rfl) rfl #[.slice A0 l0.length c0] rfl (by (try simp only [List.map_toArray, List.map_cons, List.map_nil]); first | done | rfl | (simp only [List.length_drop, List.length_take]; rfl)) ?_; (with_reducible refine (Cm.calls k _ _ l0 true _ ?side1 ?side2 A2.out).mono ?_); (case side1 => repeat (first | exact HR0.out | (with_reducible refine Kd.Ci ?_ _) | (with_reducible refine Kd.Cf ?_ _) | (with_reducible refine Kd.Di ?_))); (case side2 => exact HC0.out); rintro e w5 ⟨rfl, hb⟩; refine ⟨_, rfl, ?_⟩; have n0_ := Aa.mk (Ap (by repeat (first | (with_reducible first | exact HB.out | apply Ae | apply Ac | apply Ad) | exact HB.out)) hb); clear HB; have HB := n0_; clear n0_; (try clear hb); (try clear hb2); (try clear hk); (try clear hi)) | ((with_reducible refine Bv (f := 28) rfl ?_); refine D5 (some 8) rfl rfl Tryd.func28 (by kernel_rfl) rfl #[.slice A0 l0.length c0] rfl (by (try simp only [List.map_toArray, List.map_cons, List.map_nil]); first | done | rfl | (simp only [List.length_drop, List.length_take]; rfl)) ?_; (with_reducible refine (Dt.calls k _ _ l0 t163 _ ?side1 ?side2 ?side3 A4.out).mono ?_); (case side1 => repeat (first | exact (Kd.Gm HR0.out HB.out) | (with_reducible refine Kd.Ci ?_ _) | (with_reducible refine Kd.Cf ?_ _) | (with_reducible refine Kd.Di ?_))); (case side2 => exact HC0.out); (case side3 => exact F9.below HGL.out (by repeat (first | (with_reducible first | exact HB.out | apply Ae | apply Ac | apply Ad) | exact HB.out))); rintro e w6 ⟨rfl, hb⟩; refine ⟨_, rfl, ?_⟩; have n0_ := Aa.mk (Ap (by repeat (first | (with_reducible first | exact HB.out | apply Ae | apply Ac | apply Ad) | exact HB.out)) hb); clear HB; have HB := n0_; clear n0_; (try clear hb); (try clear hb2); (try clear hk); (try clear hi)))
    go_ret2
    exact ⟨by first | rfl | (simp [Be, Bf] <;> rfl) | (simp [*, Be, Bf] <;> rfl), by repeat (first | (with_reducible first | exact HB.out | apply Ae | apply Ac | apply Ad) | exact HB.out)⟩
  · replace c3 := Bool.eq_false_iff.mpr c3
    subst c3
    have H1 : (some ((⟨#[]⟩ : ByteArray), false)) = some (r1, r2) := by rw [if_neg (show ¬ (false = true) by decide)] at H; exact H
    clear H
    have H := H1
    clear H1
    simp only [Option.some.injEq, Prod.mk.injEq] at H
    obtain ⟨rfl, rfl⟩ := H
    go_enter Tryd.func9, Tryd.ntmps9
    go_wp2_with (first | ((with_reducible refine Bv (f := 17) rfl ?_); refine D5 (some 5) rfl rfl Tryd.func17 (by kernel_rfl) rfl #[.slice A0 l0.length c0] rfl (by (try simp only [List.map_toArray, List.map_cons, List.map_nil]); first | done | rfl | (simp only [List.length_drop, List.length_take]; rfl)) ?_; (with_reducible refine (Cm.calls k _ _ l0 false _ ?side1 ?side2 A2.out).mono ?_); (case side1 => repeat (first | exact HR0.out | (with_reducible refine Kd.Ci ?_ _) | (with_reducible refine Kd.Cf ?_ _) | (with_reducible refine Kd.Di ?_))); (case side2 => exact HC0.out); rintro e w7 ⟨rfl, hb⟩; refine ⟨_, rfl, ?_⟩; have n0_ := Aa.mk (Ap (by repeat (first | (with_reducible first | exact HB.out | apply Ae | apply Ac | apply Ad) | exact HB.out)) hb); clear HB; have HB := n0_; clear n0_; (try clear hb); (try clear hb2); (try clear hk); (try clear hi)))
    go_ret2
    exact ⟨by first | rfl | (simp [Be, Bf] <;> rfl) | (simp [*, Be, Bf] <;> rfl), by repeat (first | (with_reducible first | exact HB.out | apply Ae | apply Ac | apply Ad) | exact HB.out)⟩
end Go.Proofs.YtpalafegcndccaaDoor.X

