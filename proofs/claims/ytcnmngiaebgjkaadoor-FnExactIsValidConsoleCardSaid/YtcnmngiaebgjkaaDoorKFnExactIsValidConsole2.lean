/- Texts that the proof of the law FnExactIsValidConsole leans on, part 3 of 6. -/
import Derived.Test.YtcnmngiaebgjkaaDoorKFnExactIsValidConsole0
import Derived.Test.YtcnmngiaebgjkaaDoorKFnExactIsValidConsole1
set_option linter.unusedVariables false
set_option linter.unusedSimpArgs false
namespace Go.Proofs.YtcnmngiaebgjkaaDoor.X
open Go.RowKit Go.Proofs.YtcnmngiaebgjkaaDoorW.PrintWords Go.Proofs.YtcnmngiaebgjkaaDoorW.PrintLast Go.Proofs.YtcnmngiaebgjkaaDoorW.PrintMore
attribute [local go_sem] Dn Dk D5 Dz Cj Cm Dj Dl
open Go.Proofs.YtcnmngiaebgjkaaDoorG
def Du.f : Nat → Int → Option (ByteArray)
  | 0, _ => none
  | k + 1, a0 => if a0 < 0 then ((Du.f k (wrap64 (-a0))).bind fun t165 => (if 1 + t165.size ≤ 9223372036854775807 then (some ((⟨#[45]⟩ : ByteArray) ++ t165)) else (none))) else (if a0 < 10 then (if 0 ≤ a0 then (if a0 ≤ (wrap64 (a0 + 1)) then (if (wrap64 (a0 + 1)) ≤ 10 then (some ((⟨#[48, 49, 50, 51, 52, 53, 54, 55, 56, 57]⟩ : ByteArray).extract (a0 : Int).toNat ((wrap64 (a0 + 1)) : Int).toNat)) else (none)) else (none)) else (none)) else ((Du.f k (wrap64 (Int.tdiv a0 10))).bind fun t166 => (if 0 ≤ (Int.tmod a0 10) then (if (Int.tmod a0 10) ≤ (wrap64 ((Int.tmod a0 10) + 1)) then (if (wrap64 ((Int.tmod a0 10) + 1)) ≤ 10 then (if t166.size + ((⟨#[48, 49, 50, 51, 52, 53, 54, 55, 56, 57]⟩ : ByteArray).extract ((Int.tmod a0 10) : Int).toNat ((wrap64 ((Int.tmod a0 10) + 1)) : Int).toNat).size ≤ 9223372036854775807 then (some (t166 ++ ((⟨#[48, 49, 50, 51, 52, 53, 54, 55, 56, 57]⟩ : ByteArray).extract ((Int.tmod a0 10) : Int).toNat ((wrap64 ((Int.tmod a0 10) + 1)) : Int).toNat))) else (none)) else (none)) else (none)) else (none))))
theorem Du.Ei : ∀ k, (∀ y0, LeO (Du.f k y0) (Du.f (k + 1) y0))
  | 0 => fun _ r h => by simp [Du.f] at h
  | k + 1 => by
    have ih0 := Du.Ei k
    · intro y0
      unfold Du.f
      repeat' first
      | (with_reducible exact ih0 _)
      | (with_reducible exact LeO.refl _)
      | (with_reducible exact LeO.none _)
      | (with_reducible refine LeO.ite ?_ ?_)
      | (with_reducible refine LeO.bind ?_ (fun _ => ?_))
      | exact ih0 _
      | exact LeO.none _
      | refine LeO.ite ?_ ?_
      | refine LeO.bind ?_ (fun _ => ?_)
theorem Du.mono : ∀ a0 k, LeO (Du.f k a0) (Du.f (k + 1) a0) := by
  intro a0 k
  have ih0 := Du.Ei k
  exact ih0 a0
def Du.T5 : Bool × List (List Nat × List Nat) := (true, [([], []), ([0], [0]), ([1], [1]), ([], []), ([3], [3]), ([], []), ([5], [5]), ([6], [6]), ([4, 7], [4, 7]), ([2, 8], [2, 8]), ([9, 2, 0, 1, 2, 3, 4, 5, 6, 7, 8, 9], [9])])
def Du.B5 : List Nat := [0, 1, 3, 0, 8, 0, 32, 96, 248, 511, 1023]
theorem Du.tab5 : rtab .any (opsOf Tryd.f48 5) = Du.T5 := by kernel_rfl
theorem Du.bits5 : waitsOk Du.T5.2 Du.B5 = true := by kernel_rfl
set_option maxHeartbeats 8000000 in
set_option maxRecDepth 100000 in
theorem Du.calls (k : Nat) : ∀ (a0 : Int) (r : ByteArray) (w : World) (h : Du.f k a0 = some r),
    Calls Tryd.prog 48 #[.int .i64 a0] w fun e w' => e = .returned (.string r) ∧ Below w.heap.size w w' := by
  induction k using Nat.strongRecOn with
  | _ k ih =>
  intro a0 r w h
  cases k with
  | zero => exact absurd h (by simp [Du.f])
  | succ k =>
  simp only [Du.f] at h
  have HB := Ac.mk (Below.refl w.heap.size w)
  have H : (if a0 < 0 then ((Du.f k (wrap64 (-a0))).bind fun t165 => (if 1 + t165.size ≤ 9223372036854775807 then (some ((⟨#[45]⟩ : ByteArray) ++ t165)) else (none))) else (if a0 < 10 then (if 0 ≤ a0 then (if a0 ≤ (wrap64 (a0 + 1)) then (if (wrap64 (a0 + 1)) ≤ 10 then (some ((⟨#[48, 49, 50, 51, 52, 53, 54, 55, 56, 57]⟩ : ByteArray).extract (a0 : Int).toNat ((wrap64 (a0 + 1)) : Int).toNat)) else (none)) else (none)) else (none)) else ((Du.f k (wrap64 (Int.tdiv a0 10))).bind fun t166 => (if 0 ≤ (Int.tmod a0 10) then (if (Int.tmod a0 10) ≤ (wrap64 ((Int.tmod a0 10) + 1)) then (if (wrap64 ((Int.tmod a0 10) + 1)) ≤ 10 then (if t166.size + ((⟨#[48, 49, 50, 51, 52, 53, 54, 55, 56, 57]⟩ : ByteArray).extract ((Int.tmod a0 10) : Int).toNat ((wrap64 ((Int.tmod a0 10) + 1)) : Int).toNat).size ≤ 9223372036854775807 then (some (t166 ++ ((⟨#[48, 49, 50, 51, 52, 53, 54, 55, 56, 57]⟩ : ByteArray).extract ((Int.tmod a0 10) : Int).toNat ((wrap64 ((Int.tmod a0 10) + 1)) : Int).toNat))) else (none)) else (none)) else (none)) else (none))))) = some r := h
  clear h
  by_cases c2 : a0 < 0
  · rw [if_pos c2] at H
    have c2b0 : decide (a0 < 0) = true := decide_eq_true c2
    clear c2
    replace H := Option.bind_eq_some_iff.mp H
    obtain ⟨t165, A30, H⟩ := H
    replace H : (if 1 + t165.size ≤ 9223372036854775807 then (some ((⟨#[45]⟩ : ByteArray) ++ t165)) else (none)) = some r := H
    have A3 := Ac.mk A30
    clear A30
    by_cases c4 : 1 + t165.size ≤ 9223372036854775807
    · rw [if_pos c4] at H
      have c4b0 := eq_true c4
      have c4b1 : decide (1 + t165.size ≤ 9223372036854775807) = true := decide_eq_true c4
      try have c4b2 : (9223372036854775807 < 1 + t165.size) = False := eq_false (Nat.not_lt.2 c4)
      obtain rfl := Option.some.inj H
      go_enter Tryd.func48, Tryd.ntmps48
      go_wp2_with (first | ((with_reducible refine Aw (f := 48) rfl ?_); refine Be (some 7) rfl rfl Tryd.func48 (by kernel_rfl) rfl #[.int .i64 (wrap64 (-a0))] rfl (by (try simp only [List.map_toArray, List.map_cons, List.map_nil]); first | done | rfl | (simp only [List.length_drop, List.length_take]; rfl)) ?_; (with_reducible refine (ih k (by omega) (wrap64 (-a0)) t165 _ A3.out).mono ?_); rintro e w5 ⟨rfl, hb⟩; refine ⟨_, rfl, ?_⟩; have n0_ := Ac.mk (Ap (by repeat (first | (with_reducible first | exact HB.out | apply Ad | apply Aa | apply Ae) | exact HB.out)) hb); clear HB; have HB := n0_; clear n0_; (try clear hb); (try clear hb2); (try clear hk); (try clear hi)))
      go_ret
      exact ⟨by first | rfl | (simp [Aq, Au] <;> rfl) | (simp [*, Aq, Au] <;> rfl), by repeat (first | (with_reducible first | exact HB.out | apply Ad | apply Aa | apply Ae) | exact HB.out)⟩
    · rw [if_neg c4] at H
      exact absurd H (by simp)
  · rw [if_neg c2] at H
    have c2b0 : decide (a0 < 0) = false := decide_eq_false c2
    clear c2
    by_cases c6 : a0 < 10
    · rw [if_pos c6] at H
      have c6b0 : decide (a0 < 10) = true := decide_eq_true c6
      clear c6
      by_cases c7 : 0 ≤ a0
      · rw [if_pos c7] at H
        have c7b0 := eq_true c7
        have c7b1 : decide (0 ≤ a0) = true := decide_eq_true c7
        clear c7
        by_cases c8 : a0 ≤ (wrap64 (a0 + 1))
        · rw [if_pos c8] at H
          have c8b0 := eq_true c8
          have c8b1 : decide (a0 ≤ (wrap64 (a0 + 1))) = true := decide_eq_true c8
          by_cases c9 : (wrap64 (a0 + 1)) ≤ 10
          · rw [if_pos c9] at H
            have c9b0 := eq_true c9
            have c9b1 : decide ((wrap64 (a0 + 1)) ≤ 10) = true := decide_eq_true c9
            obtain rfl := Option.some.inj H
            go_enter Tryd.func48, Tryd.ntmps48
            go_wp2
            go_ret
            exact ⟨by first | rfl | (simp [Aq, Au] <;> rfl) | (simp [*, Aq, Au] <;> rfl), by repeat (first | (with_reducible first | exact HB.out | apply Ad | apply Aa | apply Ae) | exact HB.out)⟩
          · rw [if_neg c9] at H
            exact absurd H (by simp)
        · rw [if_neg c8] at H
          exact absurd H (by simp)
      · rw [if_neg c7] at H
        exact absurd H (by simp)
    · rw [if_neg c6] at H
      have c6b0 : decide (a0 < 10) = false := decide_eq_false c6
      clear c6
      replace H := Option.bind_eq_some_iff.mp H
      obtain ⟨t166, A100, H⟩ := H
      replace H : (if 0 ≤ (Int.tmod a0 10) then (if (Int.tmod a0 10) ≤ (wrap64 ((Int.tmod a0 10) + 1)) then (if (wrap64 ((Int.tmod a0 10) + 1)) ≤ 10 then (if t166.size + ((⟨#[48, 49, 50, 51, 52, 53, 54, 55, 56, 57]⟩ : ByteArray).extract ((Int.tmod a0 10) : Int).toNat ((wrap64 ((Int.tmod a0 10) + 1)) : Int).toNat).size ≤ 9223372036854775807 then (some (t166 ++ ((⟨#[48, 49, 50, 51, 52, 53, 54, 55, 56, 57]⟩ : ByteArray).extract ((Int.tmod a0 10) : Int).toNat ((wrap64 ((Int.tmod a0 10) + 1)) : Int).toNat))) else (none)) else (none)) else (none)) else (none)) = some r := H
      have A10 := Ac.mk A100
      clear A100
      obtain ⟨ji11, hji11⟩ : ∃ j_ : Int, (Int.tmod a0 10) = j_ := ⟨_, rfl⟩
      replace H : (if 0 ≤ (ji11) then (if (ji11) ≤ (wrap64 ((ji11) + 1)) then (if (wrap64 ((ji11) + 1)) ≤ 10 then (if t166.size + ((⟨#[48, 49, 50, 51, 52, 53, 54, 55, 56, 57]⟩ : ByteArray).extract ((ji11) : Int).toNat ((wrap64 ((ji11) + 1)) : Int).toNat).size ≤ 9223372036854775807 then (some (t166 ++ ((⟨#[48, 49, 50, 51, 52, 53, 54, 55, 56, 57]⟩ : ByteArray).extract ((ji11) : Int).toNat ((wrap64 ((ji11) + 1)) : Int).toNat))) else (none)) else (none)) else (none)) else (none)) = some r := by first | (rw [hji11] at H; exact H) | (simp only [hji11] at H ⊢; exact H)
      (try rw [hji11] at A10)
      by_cases c12 : 0 ≤ (ji11)
      · rw [if_pos c12] at H
        have c12b0 := eq_true c12
        have c12b1 : decide (0 ≤ (ji11)) = true := decide_eq_true c12
        clear c12
        by_cases c13 : (ji11) ≤ (wrap64 ((ji11) + 1))
        · rw [if_pos c13] at H
          have c13b0 := eq_true c13
          have c13b1 : decide ((ji11) ≤ (wrap64 ((ji11) + 1))) = true := decide_eq_true c13
          by_cases c14 : (wrap64 ((ji11) + 1)) ≤ 10
          · rw [if_pos c14] at H
            have c14b0 := eq_true c14
            have c14b1 : decide ((wrap64 ((ji11) + 1)) ≤ 10) = true := decide_eq_true c14
            by_cases c15 : t166.size + ((⟨#[48, 49, 50, 51, 52, 53, 54, 55, 56, 57]⟩ : ByteArray).extract ((ji11) : Int).toNat ((wrap64 ((ji11) + 1)) : Int).toNat).size ≤ 9223372036854775807
            · rw [if_pos c15] at H
              have c15b0 := eq_true c15
              have c15b1 : decide (t166.size + ((⟨#[48, 49, 50, 51, 52, 53, 54, 55, 56, 57]⟩ : ByteArray).extract ((ji11) : Int).toNat ((wrap64 ((ji11) + 1)) : Int).toNat).size ≤ 9223372036854775807) = true := decide_eq_true c15
              try have c15b2 : (9223372036854775807 < t166.size + ((⟨#[48, 49, 50, 51, 52, 53, 54, 55, 56, 57]⟩ : ByteArray).extract ((ji11) : Int).toNat ((wrap64 ((ji11) + 1)) : Int).toNat).size) = False := eq_false (Nat.not_lt.2 c15)
              have c15z0 : (⟨#[48, 49, 50, 51, 52, 53, 54, 55, 56, 57]⟩ : ByteArray).size = 10 := rfl
              have c15b3 := c15
              try simp only [ByteArray.size_extract, ByteArray.size_append, c15z0] at c15b3
              have c15b4 := eq_false (Nat.not_lt.2 c15b3)
              obtain rfl := Option.some.inj H
              go_enter Tryd.func48, Tryd.ntmps48
              try go_wp2
              have n0_ := Ac.mk (Ae HB.out)
              clear HB
              have HB := n0_
              clear n0_
              refine start_ (n := 11) (S := fun w' => True) (ds := []) #[false, false, false, false, false, false, false, false, false, false, false] (by kernel_rfl) rfl rfl trivial (fun hHeld => ?_); refine Jd Du.tab5 Du.bits5 (fun HT_ HW_ => ?_)
              generalize w.drew = w16 at HB hHeld ⊢
              refine Eu (i := 0) (N := some 15) (v := ?_) (a' := ?_) #[true, false, false, false, false, false, false, false, false, false, false] rfl rfl (Eh HT_.out (by kernel_rfl)) (fun _ _ _ h => h) (Or.inl ⟨by rfl, ?_⟩) ?_ ?_
              rotate_left
              · intro w'
                go_simp
                first | with_reducible rfl | (rw [if_neg (by omega)]; try with_reducible rfl)
              rotate_left
              · simp only [Act.put, List.setIfInBounds_toArray, List.set_cons_zero, List.set_cons_succ, Dp, Dt]
                rfl
              refine Eu (i := 1) (N := some 16) (v := ?_) (a' := ?_) #[true, true, false, false, false, false, false, false, false, false, false] rfl rfl (Eh HT_.out (by kernel_rfl)) (fun _ _ _ h => h) (Or.inl ⟨by rfl, ?_⟩) ?_ ?_
              rotate_left
              · intro w'
                go_simp
                first | with_reducible rfl | (rw [if_neg (by omega)]; try with_reducible rfl)
              rotate_left
              · simp only [Act.put, List.setIfInBounds_toArray, List.set_cons_zero, List.set_cons_succ, Dp, Dt]
                rfl
              refine Eu (i := 3) (N := some 18) (v := ?_) (a' := ?_) #[true, true, false, true, false, false, false, false, false, false, false] rfl rfl (Eh HT_.out (by kernel_rfl)) (fun _ _ _ h => h) (Or.inl ⟨by rfl, ?_⟩) ?_ ?_
              rotate_left
              · intro w'
                go_simp
                first | with_reducible rfl | (rw [if_neg (by omega)]; try with_reducible rfl)
              rotate_left
              · simp only [Act.put, List.setIfInBounds_toArray, List.set_cons_zero, List.set_cons_succ, Dp, Dt]
                rfl
              refine Eu (i := 4) (N := some 19) (v := ?_) (a' := ?_) #[true, true, false, true, true, false, false, false, false, false, false] rfl rfl (Eh HT_.out (by kernel_rfl)) (fun _ _ _ h => h) (Or.inl ⟨by rfl, ?_⟩) ?_ ?_
              rotate_left
              · intro w'
                go_simp
                first | with_reducible rfl | (rw [if_neg (by omega)]; try with_reducible rfl)
              rotate_left
              · simp only [Act.put, List.setIfInBounds_toArray, List.set_cons_zero, List.set_cons_succ, Dp, Dt]
                rfl
              refine Eu (i := 5) (N := some 20) (v := ?_) (a' := ?_) #[true, true, false, true, true, true, false, false, false, false, false] rfl rfl (Eh HT_.out (by kernel_rfl)) (fun _ _ _ h => h) (Or.inl ⟨by rfl, ?_⟩) ?_ ?_
              rotate_left
              · intro w'
                go_simp
                first | with_reducible rfl | (rw [if_neg (by omega)]; try with_reducible rfl)
              rotate_left
              · simp only [Act.put, List.setIfInBounds_toArray, List.set_cons_zero, List.set_cons_succ, Dp, Dt]
                rfl
              refine Eu (i := 6) (N := some 21) (v := ?_) (a' := ?_) #[true, true, false, true, true, true, true, false, false, false, false] rfl rfl (Eh HT_.out (by kernel_rfl)) (fun _ _ _ h => h) (Or.inl ⟨by rfl, ?_⟩) ?_ ?_
              rotate_left
              · intro w'
                go_simp
                first | with_reducible rfl | (rw [if_neg (by omega)]; try with_reducible rfl)
              rotate_left
              · simp only [Act.put, List.setIfInBounds_toArray, List.set_cons_zero, List.set_cons_succ, Dp, Dt]
                rfl
              refine Eu (i := 7) (N := some 22) (v := ?_) (a' := ?_) #[true, true, false, true, true, true, true, true, false, false, false] rfl rfl (Eh HT_.out (by kernel_rfl)) (fun _ _ _ h => h) (Or.inl ⟨by rfl, ?_⟩) ?_ ?_
              rotate_left
              · intro w'
                go_simp
                first | with_reducible rfl | (rw [if_neg (by omega)]; try with_reducible rfl)
              rotate_left
              · simp only [Act.put, List.setIfInBounds_toArray, List.set_cons_zero, List.set_cons_succ, Dp, Dt]
                rfl
              refine Eu (i := 8) (N := some 23) (v := ?_) (a' := ?_) #[true, true, false, true, true, true, true, true, true, false, false] rfl rfl (Eh HT_.out (by kernel_rfl)) (fun _ _ _ h => h) (Or.inl ⟨by rfl, ?_⟩) ?_ ?_
              rotate_left
              · intro w'
                go_simp
                first | with_reducible rfl | (rw [if_neg (by omega)]; try with_reducible rfl)
              rotate_left
              · simp only [Act.put, List.setIfInBounds_toArray, List.set_cons_zero, List.set_cons_succ, Dp, Dt]
                rfl
              refine one_ (i := 2) (N := some 17) #[true, true, true, true, true, true, true, true, true, false, false] rfl rfl (one_of HT_.out (by kernel_rfl)) (by decide) (fun K hK => ?_)
              refine goes_ Tryd.func48 (by kernel_rfl) rfl #[.int .i64 (wrap64 (Int.tdiv a0 10))] (by rfl) rfl rfl (by (try simp only [List.map_toArray, List.map_cons, List.map_nil]); first | done | rfl | (simp only [List.length_drop, List.length_take]; rfl)) ?_
              with_reducible refine (ih k (by omega) (wrap64 (Int.tdiv a0 10)) t166 _ A10.out).mono ?_
              rintro e w17 ⟨rfl, hb⟩
              refine ⟨_, rfl, ?_⟩
              have n0_ := Ac.mk (Ap (by repeat (first | (with_reducible first | exact HB.out | apply Ad | apply Aa | apply Ae) | exact HB.out)) hb)
              clear HB
              have HB := n0_
              clear n0_
              (try clear hb)
              (try clear hb2)
              (try clear hk)
              (try clear hi)
              refine hK.out _ _ trivial (fun hHeld => ?_)
              clear hK K
              refine norm_ (a' := ?_) ?_ ?_
              rotate_left
              · show Act.put _ (some 17) _ = _
                simp only [Act.put, List.setIfInBounds_toArray, List.set_cons_zero, List.set_cons_succ, Dp, Dt]
                rfl
              refine Eu (i := 9) (N := some 24) (v := ?_) (a' := ?_) #[true, true, true, true, true, true, true, true, true, true, false] rfl rfl (Eh HT_.out (by kernel_rfl)) (fun _ _ _ h => h) (Or.inl ⟨by rfl, ?_⟩) ?_ ?_
              rotate_left
              · intro w'
                go_simp
                first | with_reducible rfl | (rw [if_neg (by omega)]; try with_reducible rfl)
              rotate_left
              · simp only [Act.put, List.setIfInBounds_toArray, List.set_cons_zero, List.set_cons_succ, Dp, Dt]
                rfl
              refine Eu (i := 10) (N := some 2) (v := ?_) (a' := ?_) #[true, true, true, true, true, true, true, true, true, true, true] rfl rfl (Eh HT_.out (by kernel_rfl)) (fun _ _ _ h => h) (Or.inl ⟨by rfl, ?_⟩) ?_ ?_
              rotate_left
              · intro w'
                go_simp
                first | with_reducible rfl | (rw [if_neg (by omega)]; try with_reducible rfl)
              rotate_left
              · simp only [Act.put, List.setIfInBounds_toArray, List.set_cons_zero, List.set_cons_succ, Dp, Dt]
                rfl
              refine done_ (done_of HT_.out (by kernel_rfl)) ?_
              try go_wp2
              go_ret
              exact ⟨by first | rfl | (simp [Aq, Au] <;> rfl) | (simp only [← hji11]; first | rfl | (simp [Aq, Au] <;> rfl)) | (simp [*, Aq, Au] <;> rfl), by repeat (first | (with_reducible first | exact HB.out | apply Ad | apply Aa | apply Ae) | exact HB.out)⟩
            · rw [if_neg c15] at H
              exact absurd H (by simp)
          · rw [if_neg c14] at H
            exact absurd H (by simp)
        · rw [if_neg c13] at H
          exact absurd H (by simp)
      · rw [if_neg c12] at H
        exact absurd H (by simp)
end Go.Proofs.YtcnmngiaebgjkaaDoor.X

namespace Go.Proofs.YtcnmngiaebgjkaaDoor.X
open Go.RowKit Go.Proofs.YtcnmngiaebgjkaaDoorW.PrintWords Go.Proofs.YtcnmngiaebgjkaaDoorW.PrintLast Go.Proofs.YtcnmngiaebgjkaaDoorW.PrintMore
attribute [local go_sem] Dn Dk D5 Dz Cj Cm Dj Dl
open Go.Proofs.YtcnmngiaebgjkaaDoorG
def Dh.l0 : Nat → ByteArray → Int → Int → Option (Bool)
  | 0, _, _, _ => none
  | k + 1, x0, x1, x5 => if x5 < (x0.size : Int) then (if 0 ≤ x5 then ((Em.f (wrap64 (bt x0 x5)) 32 126).bind fun t167 => (if t167 = true then (if (bt x0 x5) = 35 then (some false) else (Dh.l0 k x0 x1 (wrap64 (x5 + 1)))) else (some false))) else (none)) else (some (decide ((x0.size : Int) ≤ x1)))
def Dh.f (k : Nat) (a0 : ByteArray) (a1 : Int) : Option (Bool) := Dh.l0 k a0 a1 0
theorem Dh.Ei : ∀ k, (∀ y0 y1 y2, LeO (Dh.l0 k y0 y1 y2) (Dh.l0 (k + 1) y0 y1 y2))
  | 0 => fun _ _ _ r h => by simp [Dh.l0] at h
  | k + 1 => by
    have ih0 := Dh.Ei k
    · intro y0 y1 y2
      unfold Dh.l0
      repeat' first
      | (with_reducible exact ih0 _ _ _)
      | (with_reducible exact LeO.refl _)
      | (with_reducible exact LeO.none _)
      | (with_reducible refine LeO.ite ?_ ?_)
      | (with_reducible refine LeO.bind ?_ (fun _ => ?_))
      | exact ih0 _ _ _
      | exact LeO.none _
      | refine LeO.ite ?_ ?_
      | refine LeO.bind ?_ (fun _ => ?_)
theorem Dh.mono : ∀ a0 a1 k, LeO (Dh.f k a0 a1) (Dh.f (k + 1) a0 a1) := by
  intro a0 a1 k
  have ih0 := Dh.Ei k
  unfold Dh.f
  repeat' first
      | (with_reducible exact ih0 _ _ _)
      | (with_reducible exact LeO.refl _)
      | (with_reducible exact LeO.none _)
      | (with_reducible refine LeO.ite ?_ ?_)
      | (with_reducible refine LeO.bind ?_ (fun _ => ?_))
      | exact ih0 _ _ _
      | exact LeO.none _
      | refine LeO.ite ?_ ?_
      | refine LeO.bind ?_ (fun _ => ?_)
set_option maxHeartbeats 8000000 in
set_option maxRecDepth 100000 in
theorem Dh.calls (k : Nat) (a0 : ByteArray) (a1 : Int) (r : Bool) (w : World) (h : Dh.f k a0 a1 = some r) :
    Calls Tryd.prog 57 #[.string a0, .int .i64 a1] w fun e w' => e = .returned (.bool r) ∧ Bg w w' := by
  have H : (Dh.l0 k a0 a1 0) = some r := h
  clear h
  have H' := Ac.mk H
  clear H
  go_enter Tryd.func57, Tryd.ntmps57
  go_wp2
  go_loopg [5] k (fun kq v5 w' => ∃ (x5_1 : Int), v5 = .int .i64 x5_1 ∧ Ac (Dh.l0 kq a0 a1 x5_1 = some r) ∧ Ac (kq ≤ k) ∧ Bg w w')
  case atStart => exact ⟨(0), (by first | rfl | (simp; done) | (simp [*]; done)), H', ⟨Nat.le_refl _⟩, by repeat (first | exact Bg.refl _ | apply Bg.step)⟩
  case round =>
    clear H'
    try clear p2
    obtain ⟨x5_1, rfl, HA, HK1, ⟨m1, rfl⟩⟩ := hrel
    cases gk with
    | zero => exact absurd HA.out (by simp [Dh.l0])
    | succ k1 =>
      have H := HA.out
      clear HA
      simp only [Dh.l0] at H
      by_cases c3 : x5_1 < (a0.size : Int)
      · rw [if_pos c3] at H
        have c3b0 : decide (x5_1 < (a0.size : Int)) = true := decide_eq_true c3
        clear c3
        by_cases c4 : 0 ≤ x5_1
        · rw [if_pos c4] at H
          have c4b0 : decide (0 ≤ x5_1) = true := decide_eq_true c4
          clear c4
          replace H := Option.bind_eq_some_iff.mp H
          obtain ⟨t167, A60, H⟩ := H
          replace H : (if t167 = true then (if (bt a0 x5_1) = 35 then (some false) else (Dh.l0 k1 a0 a1 (wrap64 (x5_1 + 1)))) else (some false)) = some r := H
          have A6 := Ac.mk A60
          clear A60
          by_cases c7 : t167 = true
          · subst c7
            have H1 : (if (bt a0 x5_1) = 35 then (some false) else (Dh.l0 k1 a0 a1 (wrap64 (x5_1 + 1)))) = some r := by rw [if_pos rfl] at H; exact H
            clear H
            have H := H1
            clear H1
            by_cases c9 : (bt a0 x5_1) = 35
            · rw [if_pos c9] at H
              have c9b0 : ((bt a0 x5_1) == 35) = true := beq_iff_eq.mpr c9
              have c9b1 : ((bt a0 x5_1) != 35) = false := bne_eq_false_iff_eq.mpr c9
              clear c9
              obtain rfl := Option.some.inj H
              have p5 : 0 ≤ (x5_1 : Int) := of_decide_eq_true (by first | (with_reducible assumption) | assumption)
              have q5 : x5_1 < (a0.size : Int) := of_decide_eq_true (by first | (with_reducible assumption) | assumption)
              have hx5 := bt_at a0 x5_1
              replace p5 := eq_true p5
              replace q5 := eq_true q5
              go_wp2_with (first | ((with_reducible refine Aw (f := 41) rfl ?_); refine Be (some 16) rfl rfl Tryd.func41 (by kernel_rfl) rfl #[.int .i64 (wrap64 (bt a0 x5_1)), .int .i64 32, .int .i64 126] rfl (by (try simp only [List.map_toArray, List.map_cons, List.map_nil]); first | done | rfl | (simp only [List.length_drop, List.length_take]; rfl)) ?_; (with_reducible refine (Em.calls (wrap64 (bt a0 x5_1)) 32 126 true _ A6.out).mono ?_); rintro e w' ⟨rfl, ⟨nd, rfl⟩⟩; refine ⟨_, rfl, ?_⟩; have p8 : 0 ≤ (x5_1 : Int) := of_decide_eq_true (by first | (with_reducible assumption) | assumption); have q8 : x5_1 < (a0.size : Int) := of_decide_eq_true (by first | (with_reducible assumption) | assumption); have hx8 := bt_at a0 x5_1; replace p8 := eq_true p8; replace q8 := eq_true q8))
              go_ret
              exact ⟨by first | rfl | (simp; done) | (simp [*]; done), by repeat (first | exact Bg.refl _ | apply Bg.step)⟩
            · rw [if_neg c9] at H
              have c9b0 : ((bt a0 x5_1) == 35) = false := beq_eq_false_iff_ne.mpr c9
              have c9b1 : ((bt a0 x5_1) != 35) = true := bne_iff_ne.mpr c9
              have H' := Ac.mk H
              clear H
              have p5 : 0 ≤ (x5_1 : Int) := of_decide_eq_true (by first | (with_reducible assumption) | assumption)
              have q5 : x5_1 < (a0.size : Int) := of_decide_eq_true (by first | (with_reducible assumption) | assumption)
              have hx5 := bt_at a0 x5_1
              replace p5 := eq_true p5
              replace q5 := eq_true q5
              go_wp2_with (first | ((with_reducible refine Aw (f := 41) rfl ?_); refine Be (some 16) rfl rfl Tryd.func41 (by kernel_rfl) rfl #[.int .i64 (wrap64 (bt a0 x5_1)), .int .i64 32, .int .i64 126] rfl (by (try simp only [List.map_toArray, List.map_cons, List.map_nil]); first | done | rfl | (simp only [List.length_drop, List.length_take]; rfl)) ?_; (with_reducible refine (Em.calls (wrap64 (bt a0 x5_1)) 32 126 true _ A6.out).mono ?_); rintro e w' ⟨rfl, ⟨nd, rfl⟩⟩; refine ⟨_, rfl, ?_⟩; have p8 : 0 ≤ (x5_1 : Int) := of_decide_eq_true (by first | (with_reducible assumption) | assumption); have q8 : x5_1 < (a0.size : Int) := of_decide_eq_true (by first | (with_reducible assumption) | assumption); have hx8 := bt_at a0 x5_1; replace p8 := eq_true p8; replace q8 := eq_true q8))
              go_roundg k1
              case measure => have := HK1.out; omega
              case rel => exact ⟨(wrap64 (x5_1 + 1)), (by first | rfl | (simp; done) | (simp [*]; done)), H', ⟨by have := HK1.out; omega⟩, by repeat (first | exact Bg.refl _ | apply Bg.step)⟩
          · replace c7 := Bool.eq_false_iff.mpr c7
            subst c7
            have H1 : (some false) = some r := by rw [if_neg (show ¬ (false = true) by decide)] at H; exact H
            clear H
            have H := H1
            clear H1
            obtain rfl := Option.some.inj H
            have p5 : 0 ≤ (x5_1 : Int) := of_decide_eq_true (by first | (with_reducible assumption) | assumption)
            have q5 : x5_1 < (a0.size : Int) := of_decide_eq_true (by first | (with_reducible assumption) | assumption)
            have hx5 := bt_at a0 x5_1
            replace p5 := eq_true p5
            replace q5 := eq_true q5
            go_wp2_with (first | ((with_reducible refine Aw (f := 41) rfl ?_); refine Be (some 16) rfl rfl Tryd.func41 (by kernel_rfl) rfl #[.int .i64 (wrap64 (bt a0 x5_1)), .int .i64 32, .int .i64 126] rfl (by (try simp only [List.map_toArray, List.map_cons, List.map_nil]); first | done | rfl | (simp only [List.length_drop, List.length_take]; rfl)) ?_; (with_reducible refine (Em.calls (wrap64 (bt a0 x5_1)) 32 126 false _ A6.out).mono ?_); rintro e w' ⟨rfl, ⟨nd, rfl⟩⟩; refine ⟨_, rfl, ?_⟩))
            go_ret
            exact ⟨by first | rfl | (simp; done) | (simp [*]; done), by repeat (first | exact Bg.refl _ | apply Bg.step)⟩
        · rw [if_neg c4] at H
          exact absurd H (by simp)
      · rw [if_neg c3] at H
        have c3b0 : decide (x5_1 < (a0.size : Int)) = false := decide_eq_false c3
        clear c3
        obtain rfl := Option.some.inj H
        go_wp2
        go_ret
        exact ⟨by first | rfl | (simp; done) | (simp [*]; done), by repeat (first | exact Bg.refl _ | apply Bg.step)⟩
end Go.Proofs.YtcnmngiaebgjkaaDoor.X

namespace Go.Proofs.YtcnmngiaebgjkaaDoor.X
open Go.RowKit Go.Proofs.YtcnmngiaebgjkaaDoorW.PrintWords Go.Proofs.YtcnmngiaebgjkaaDoorW.PrintLast Go.Proofs.YtcnmngiaebgjkaaDoorW.PrintMore
attribute [local go_sem] Dn Dk D5 Dz Cj Cm Dj Dl
open Go.Proofs.YtcnmngiaebgjkaaDoorG
def Ea.l0 : Nat → ByteArray → Int → Int → Option (Bool)
  | 0, _, _, _ => none
  | k + 1, x0, x1, x5 => if x5 < (x0.size : Int) then (if 0 ≤ x5 then (if (bt x0 x5) = x1 then (some true) else (Ea.l0 k x0 x1 (wrap64 (x5 + 1)))) else (none)) else (some false)
def Ea.f (k : Nat) (a0 : ByteArray) (a1 : Int) : Option (Bool) := Ea.l0 k a0 a1 0
theorem Ea.Ei : ∀ k, (∀ y0 y1 y2, LeO (Ea.l0 k y0 y1 y2) (Ea.l0 (k + 1) y0 y1 y2))
  | 0 => fun _ _ _ r h => by simp [Ea.l0] at h
  | k + 1 => by
    have ih0 := Ea.Ei k
    · intro y0 y1 y2
      unfold Ea.l0
      repeat' first
      | (with_reducible exact ih0 _ _ _)
      | (with_reducible exact LeO.refl _)
      | (with_reducible exact LeO.none _)
      | (with_reducible refine LeO.ite ?_ ?_)
      | (with_reducible refine LeO.bind ?_ (fun _ => ?_))
      | exact ih0 _ _ _
      | exact LeO.none _
      | refine LeO.ite ?_ ?_
      | refine LeO.bind ?_ (fun _ => ?_)
theorem Ea.mono : ∀ a0 a1 k, LeO (Ea.f k a0 a1) (Ea.f (k + 1) a0 a1) := by
  intro a0 a1 k
  have ih0 := Ea.Ei k
  unfold Ea.f
  repeat' first
      | (with_reducible exact ih0 _ _ _)
      | (with_reducible exact LeO.refl _)
      | (with_reducible exact LeO.none _)
      | (with_reducible refine LeO.ite ?_ ?_)
      | (with_reducible refine LeO.bind ?_ (fun _ => ?_))
      | exact ih0 _ _ _
      | exact LeO.none _
      | refine LeO.ite ?_ ?_
      | refine LeO.bind ?_ (fun _ => ?_)
set_option maxHeartbeats 8000000 in
set_option maxRecDepth 100000 in
theorem Ea.calls (k : Nat) (a0 : ByteArray) (a1 : Int) (r : Bool) (w : World) (h : Ea.f k a0 a1 = some r) :
    Calls Tryd.prog 58 #[.string a0, .int .u8 a1] w fun e w' => e = .returned (.bool r) ∧ Bg w w' := by
  have H : (Ea.l0 k a0 a1 0) = some r := h
  clear h
  have H' := Ac.mk H
  clear H
  go_enter Tryd.func58, Tryd.ntmps58
  go_wp2
  go_loopg [5] k (fun kq v5 w' => ∃ (x5_1 : Int), v5 = .int .i64 x5_1 ∧ Ac (Ea.l0 kq a0 a1 x5_1 = some r) ∧ Ac (kq ≤ k) ∧ Bg w w')
  case atStart => exact ⟨(0), (by first | rfl | (simp; done) | (simp [*]; done)), H', ⟨Nat.le_refl _⟩, by repeat (first | exact Bg.refl _ | apply Bg.step)⟩
  case round =>
    clear H'
    try clear p2
    obtain ⟨x5_1, rfl, HA, HK1, ⟨m1, rfl⟩⟩ := hrel
    cases gk with
    | zero => exact absurd HA.out (by simp [Ea.l0])
    | succ k1 =>
      have H := HA.out
      clear HA
      simp only [Ea.l0] at H
      by_cases c3 : x5_1 < (a0.size : Int)
      · rw [if_pos c3] at H
        have c3b0 : decide (x5_1 < (a0.size : Int)) = true := decide_eq_true c3
        clear c3
        by_cases c4 : 0 ≤ x5_1
        · rw [if_pos c4] at H
          have c4b0 : decide (0 ≤ x5_1) = true := decide_eq_true c4
          clear c4
          by_cases c6 : (bt a0 x5_1) = a1
          · rw [if_pos c6] at H
            have c6b0 : ((bt a0 x5_1) == a1) = true := beq_iff_eq.mpr c6
            have c6b1 : ((bt a0 x5_1) != a1) = false := bne_eq_false_iff_eq.mpr c6
            clear c6
            obtain rfl := Option.some.inj H
            have p5 : 0 ≤ (x5_1 : Int) := of_decide_eq_true (by first | (with_reducible assumption) | assumption)
            have q5 : x5_1 < (a0.size : Int) := of_decide_eq_true (by first | (with_reducible assumption) | assumption)
            have hx5 := bt_at a0 x5_1
            replace p5 := eq_true p5
            replace q5 := eq_true q5
            go_wp2
            go_ret
            exact ⟨by first | rfl | (simp; done) | (simp [*]; done), by repeat (first | exact Bg.refl _ | apply Bg.step)⟩
          · rw [if_neg c6] at H
            have c6b0 : ((bt a0 x5_1) == a1) = false := beq_eq_false_iff_ne.mpr c6
            have c6b1 : ((bt a0 x5_1) != a1) = true := bne_iff_ne.mpr c6
            have H' := Ac.mk H
            clear H
            have p5 : 0 ≤ (x5_1 : Int) := of_decide_eq_true (by first | (with_reducible assumption) | assumption)
            have q5 : x5_1 < (a0.size : Int) := of_decide_eq_true (by first | (with_reducible assumption) | assumption)
            have hx5 := bt_at a0 x5_1
            replace p5 := eq_true p5
            replace q5 := eq_true q5
            go_wp2
            go_roundg k1
            case measure => have := HK1.out; omega
            case rel => exact ⟨(wrap64 (x5_1 + 1)), (by first | rfl | (simp; done) | (simp [*]; done)), H', ⟨by have := HK1.out; omega⟩, by repeat (first | exact Bg.refl _ | apply Bg.step)⟩
        · rw [if_neg c4] at H
          exact absurd H (by simp)
      · rw [if_neg c3] at H
        have c3b0 : decide (x5_1 < (a0.size : Int)) = false := decide_eq_false c3
        clear c3
        obtain rfl := Option.some.inj H
        go_wp2
        go_ret
        exact ⟨by first | rfl | (simp; done) | (simp [*]; done), by repeat (first | exact Bg.refl _ | apply Bg.step)⟩
end Go.Proofs.YtcnmngiaebgjkaaDoor.X

namespace Go.Proofs.YtcnmngiaebgjkaaDoor.X
open Go.RowKit Go.Proofs.YtcnmngiaebgjkaaDoorW.PrintWords Go.Proofs.YtcnmngiaebgjkaaDoorW.PrintLast Go.Proofs.YtcnmngiaebgjkaaDoorW.PrintMore
attribute [local go_sem] Dn Dk D5 Dz Cj Cm Dj Dl
open Go.Proofs.YtcnmngiaebgjkaaDoorG
def Fj.f (k : Nat) (a0_0 : ByteArray) (a0_1 : ByteArray) : Option (Bool) := if a0_0.toList = ([] : List UInt8) then (some false) else ((Dh.f k a0_0 160).bind fun t169 => (if t169 = true then ((Ea.f k a0_0 64).bind fun t170 => (if t170 = true then (some false) else ((Dh.f k a0_1 200).bind fun t171 => (some t171)))) else (some false)))
theorem Fj.mono : ∀ a0 a1 k, LeO (Fj.f k a0 a1) (Fj.f (k + 1) a0 a1) := by
  intro a0 a1 k
  unfold Fj.f
  repeat' first
      | (with_reducible exact Ea.mono _ _ _)
      | (with_reducible exact Dh.mono _ _ _)
      | (with_reducible exact LeO.refl _)
      | (with_reducible exact LeO.none _)
      | (with_reducible refine LeO.ite ?_ ?_)
      | (with_reducible refine LeO.bind ?_ (fun _ => ?_))
      | exact Ea.mono _ _ _
      | exact Dh.mono _ _ _
      | exact LeO.none _
      | refine LeO.ite ?_ ?_
      | refine LeO.bind ?_ (fun _ => ?_)
set_option maxHeartbeats 8000000 in
set_option maxRecDepth 100000 in
theorem Fj.calls (k : Nat) (a0_0 : ByteArray) (a0_1 : ByteArray) (r : Bool) (w : World) (h : Fj.f k a0_0 a0_1 = some r) :
    Calls Tryd.prog 49 #[.agg #[.string a0_0, .string a0_1]] w fun e w' => e = .returned (.bool r) ∧ Below w.heap.size w w' := by
  have hu81 := Tryd.underlying81
  have HB := Ac.mk (Below.refl w.heap.size w)
  have H : (if a0_0.toList = ([] : List UInt8) then (some false) else ((Dh.f k a0_0 160).bind fun t169 => (if t169 = true then ((Ea.f k a0_0 64).bind fun t170 => (if t170 = true then (some false) else ((Dh.f k a0_1 200).bind fun t171 => (some t171)))) else (some false)))) = some r := h
  clear h
  by_cases c2 : a0_0.toList = ([] : List UInt8)
  · rw [if_pos c2] at H
    have c2b0 : (a0_0.toList == ([] : List UInt8)) = true := beq_iff_eq.mpr c2
    have c2b1 : (a0_0.toList != ([] : List UInt8)) = false := bne_eq_false_iff_eq.mpr c2
    clear c2
    obtain rfl := Option.some.inj H
    go_enter Tryd.func49, Tryd.ntmps49
    go_wp2_with (first | ((with_reducible refine Bd (N := 1) rfl ?_); refine Bc ?hg (N := 1) ?hd (cs := #[.string a0_0, .string a0_1]) (t := 81) ?hr ?_; (case hd => rfl); (case hg => rfl); (case hr => first | (go_simp; done) | (go_simp; rfl)); intro gb168 hg w3 hbox hb; have n0_ := Ac.mk (Ap (by repeat (first | (with_reducible first | exact HB.out | apply Ad | apply Aa | apply Ae) | exact HB.out)) hb); have n1_ := Ac.mk (hbox); have n2_ := Ac.mk ((by rw [hg]; exact (Am (by repeat (first | (with_reducible first | exact HB.out | apply Ad | apply Aa | apply Ae) | exact HB.out))) : w.heap.size ≤ gb168)); have n3_ := Ac.mk ((by rw [hg]; exact (Am (by repeat (first | (with_reducible first | exact HB.out | apply Ad | apply Aa | apply Ae) | exact HB.out))) : w.heap.size ≤ gb168)); clear HB; have HB := n0_; have BK168 := n1_; have GW168 := n2_; have GE168 := n3_; clear n0_ n1_ n2_ n3_; clear hb hbox hg; have hcz4_0 : w3.cell? ⟨gb168, 0, none⟩ = some (.string a0_0) := (Ag BK168.out 0).trans rfl; have hcz4_1 : w3.cell? ⟨gb168, 1, none⟩ = some (.string a0_1) := (Ag BK168.out 1).trans rfl; have hfz4_0 := Af BK168.out 0; have hfz4_1 := Af BK168.out 1))
    go_ret
    exact ⟨by first | rfl | (simp [Aq, Au] <;> rfl) | (simp [*, Aq, Au] <;> rfl), by repeat (first | (with_reducible first | exact HB.out | apply Ad | apply Aa | apply Ae | refine Ah ?_ GE168.out) | exact HB.out)⟩
  · rw [if_neg c2] at H
    have c2b0 : (a0_0.toList == ([] : List UInt8)) = false := beq_eq_false_iff_ne.mpr c2
    have c2b1 : (a0_0.toList != ([] : List UInt8)) = true := bne_iff_ne.mpr c2
    replace H := Option.bind_eq_some_iff.mp H
    obtain ⟨t169, A50, H⟩ := H
    replace H : (if t169 = true then ((Ea.f k a0_0 64).bind fun t170 => (if t170 = true then (some false) else ((Dh.f k a0_1 200).bind fun t171 => (some t171)))) else (some false)) = some r := H
    have A5 := Ac.mk A50
    clear A50
    by_cases c6 : t169 = true
    · subst c6
      have H1 : ((Ea.f k a0_0 64).bind fun t170 => (if t170 = true then (some false) else ((Dh.f k a0_1 200).bind fun t171 => (some t171)))) = some r := by rw [if_pos rfl] at H; exact H
      clear H
      have H := H1
      clear H1
      replace H := Option.bind_eq_some_iff.mp H
      obtain ⟨t170, A70, H⟩ := H
      replace H : (if t170 = true then (some false) else ((Dh.f k a0_1 200).bind fun t171 => (some t171))) = some r := H
      have A7 := Ac.mk A70
      clear A70
      by_cases c8 : t170 = true
      · subst c8
        have H1 : (some false) = some r := by rw [if_pos rfl] at H; exact H
        clear H
        have H := H1
        clear H1
        obtain rfl := Option.some.inj H
        go_enter Tryd.func49, Tryd.ntmps49
        go_wp2_with (first | ((with_reducible refine Bd (N := 1) rfl ?_); refine Bc ?hg (N := 1) ?hd (cs := #[.string a0_0, .string a0_1]) (t := 81) ?hr ?_; (case hd => rfl); (case hg => rfl); (case hr => first | (go_simp; done) | (go_simp; rfl)); intro gb168 hg w9 hbox hb; have n0_ := Ac.mk (Ap (by repeat (first | (with_reducible first | exact HB.out | apply Ad | apply Aa | apply Ae) | exact HB.out)) hb); have n1_ := Ac.mk (hbox); have n2_ := Ac.mk ((by rw [hg]; exact (Am (by repeat (first | (with_reducible first | exact HB.out | apply Ad | apply Aa | apply Ae) | exact HB.out))) : w.heap.size ≤ gb168)); have n3_ := Ac.mk ((by rw [hg]; exact (Am (by repeat (first | (with_reducible first | exact HB.out | apply Ad | apply Aa | apply Ae) | exact HB.out))) : w.heap.size ≤ gb168)); clear HB; have HB := n0_; have BK168 := n1_; have GW168 := n2_; have GE168 := n3_; clear n0_ n1_ n2_ n3_; clear hb hbox hg; have hcz10_0 : w9.cell? ⟨gb168, 0, none⟩ = some (.string a0_0) := (Ag BK168.out 0).trans rfl; have hcz10_1 : w9.cell? ⟨gb168, 1, none⟩ = some (.string a0_1) := (Ag BK168.out 1).trans rfl; have hfz10_0 := Af BK168.out 0; have hfz10_1 := Af BK168.out 1) | (go_at_call 57; (with_reducible refine (Dh.calls k a0_0 160 true _ A5.out).mono ?_); rintro e w' ⟨rfl, ⟨nd, rfl⟩⟩) | (go_at_call 58; (with_reducible refine (Ea.calls k a0_0 64 true _ A7.out).mono ?_); rintro e w' ⟨rfl, ⟨nd, rfl⟩⟩))
        go_ret
        exact ⟨by first | rfl | (simp [Aq, Au] <;> rfl) | (simp [*, Aq, Au] <;> rfl), by repeat (first | (with_reducible first | exact HB.out | apply Ad | apply Aa | apply Ae | refine Ah ?_ GE168.out) | exact HB.out)⟩
      · replace c8 := Bool.eq_false_iff.mpr c8
        subst c8
        have H1 : ((Dh.f k a0_1 200).bind fun t171 => (some t171)) = some r := by rw [if_neg (show ¬ (false = true) by decide)] at H; exact H
        clear H
        have H := H1
        clear H1
        replace H := Option.bind_eq_some_iff.mp H
        obtain ⟨t171, A110, H⟩ := H
        replace H : (some t171) = some r := H
        have A11 := Ac.mk A110
        clear A110
        obtain rfl := Option.some.inj H
        go_enter Tryd.func49, Tryd.ntmps49
        go_wp2_with (first | ((with_reducible refine Bd (N := 1) rfl ?_); refine Bc ?hg (N := 1) ?hd (cs := #[.string a0_0, .string a0_1]) (t := 81) ?hr ?_; (case hd => rfl); (case hg => rfl); (case hr => first | (go_simp; done) | (go_simp; rfl)); intro gb168 hg w12 hbox hb; have n0_ := Ac.mk (Ap (by repeat (first | (with_reducible first | exact HB.out | apply Ad | apply Aa | apply Ae) | exact HB.out)) hb); have n1_ := Ac.mk (hbox); have n2_ := Ac.mk ((by rw [hg]; exact (Am (by repeat (first | (with_reducible first | exact HB.out | apply Ad | apply Aa | apply Ae) | exact HB.out))) : w.heap.size ≤ gb168)); have n3_ := Ac.mk ((by rw [hg]; exact (Am (by repeat (first | (with_reducible first | exact HB.out | apply Ad | apply Aa | apply Ae) | exact HB.out))) : w.heap.size ≤ gb168)); clear HB; have HB := n0_; have BK168 := n1_; have GW168 := n2_; have GE168 := n3_; clear n0_ n1_ n2_ n3_; clear hb hbox hg; have hcz13_0 : w12.cell? ⟨gb168, 0, none⟩ = some (.string a0_0) := (Ag BK168.out 0).trans rfl; have hcz13_1 : w12.cell? ⟨gb168, 1, none⟩ = some (.string a0_1) := (Ag BK168.out 1).trans rfl; have hfz13_0 := Af BK168.out 0; have hfz13_1 := Af BK168.out 1) | (go_at_call 57; (with_reducible refine (Dh.calls k a0_0 160 true _ A5.out).mono ?_); rintro e w' ⟨rfl, ⟨nd, rfl⟩⟩) | (go_at_call 58; (with_reducible refine (Ea.calls k a0_0 64 false _ A7.out).mono ?_); rintro e w' ⟨rfl, ⟨nd, rfl⟩⟩) | (go_at_call 57; (with_reducible refine (Dh.calls k a0_1 200 t171 _ A11.out).mono ?_); rintro e w' ⟨rfl, ⟨nd, rfl⟩⟩))
        go_ret
        exact ⟨by first | rfl | (simp [Aq, Au] <;> rfl) | (simp [*, Aq, Au] <;> rfl), by repeat (first | (with_reducible first | exact HB.out | apply Ad | apply Aa | apply Ae | refine Ah ?_ GE168.out) | exact HB.out)⟩
    · replace c6 := Bool.eq_false_iff.mpr c6
      subst c6
      have H1 : (some false) = some r := by rw [if_neg (show ¬ (false = true) by decide)] at H; exact H
      clear H
      have H := H1
      clear H1
      obtain rfl := Option.some.inj H
      go_enter Tryd.func49, Tryd.ntmps49
      go_wp2_with (first | ((with_reducible refine Bd (N := 1) rfl ?_); refine Bc ?hg (N := 1) ?hd (cs := #[.string a0_0, .string a0_1]) (t := 81) ?hr ?_; (case hd => rfl); (case hg => rfl); (case hr => first | (go_simp; done) | (go_simp; rfl)); intro gb168 hg w14 hbox hb; have n0_ := Ac.mk (Ap (by repeat (first | (with_reducible first | exact HB.out | apply Ad | apply Aa | apply Ae) | exact HB.out)) hb); have n1_ := Ac.mk (hbox); have n2_ := Ac.mk ((by rw [hg]; exact (Am (by repeat (first | (with_reducible first | exact HB.out | apply Ad | apply Aa | apply Ae) | exact HB.out))) : w.heap.size ≤ gb168)); have n3_ := Ac.mk ((by rw [hg]; exact (Am (by repeat (first | (with_reducible first | exact HB.out | apply Ad | apply Aa | apply Ae) | exact HB.out))) : w.heap.size ≤ gb168)); clear HB; have HB := n0_; have BK168 := n1_; have GW168 := n2_; have GE168 := n3_; clear n0_ n1_ n2_ n3_; clear hb hbox hg; have hcz15_0 : w14.cell? ⟨gb168, 0, none⟩ = some (.string a0_0) := (Ag BK168.out 0).trans rfl; have hcz15_1 : w14.cell? ⟨gb168, 1, none⟩ = some (.string a0_1) := (Ag BK168.out 1).trans rfl; have hfz15_0 := Af BK168.out 0; have hfz15_1 := Af BK168.out 1) | (go_at_call 57; (with_reducible refine (Dh.calls k a0_0 160 false _ A5.out).mono ?_); rintro e w' ⟨rfl, ⟨nd, rfl⟩⟩))
      go_ret
      exact ⟨by first | rfl | (simp [Aq, Au] <;> rfl) | (simp [*, Aq, Au] <;> rfl), by repeat (first | (with_reducible first | exact HB.out | apply Ad | apply Aa | apply Ae | refine Ah ?_ GE168.out) | exact HB.out)⟩
end Go.Proofs.YtcnmngiaebgjkaaDoor.X

namespace Go.Proofs.YtcnmngiaebgjkaaDoor.X
open Go.RowKit Go.Proofs.YtcnmngiaebgjkaaDoorW.PrintWords Go.Proofs.YtcnmngiaebgjkaaDoorW.PrintLast Go.Proofs.YtcnmngiaebgjkaaDoorW.PrintMore
attribute [local go_sem] Dn Dk D5 Dz Cj Cm Dj Dl
open Go.Proofs.YtcnmngiaebgjkaaDoorG
def Ff.l0 : Nat → ByteArray → Int → Int → Option (Int)
  | 0, _, _, _ => none
  | k + 1, x0, x3, x4 => if x4 < (x0.size : Int) then (if 0 ≤ x4 then (Ff.l0 k x0 (Int.tmod (wrap64 ((wrap64 ((wrap64 (41 * x3)) + (wrap64 (bt x0 x4)))) + 1)) 999979) (wrap64 (x4 + 1))) else (none)) else (some x3)
def Ff.f (k : Nat) (a0 : ByteArray) : Option (Int) := Ff.l0 k a0 7 0
theorem Ff.Ei : ∀ k, (∀ y0 y1 y2, LeO (Ff.l0 k y0 y1 y2) (Ff.l0 (k + 1) y0 y1 y2))
  | 0 => fun _ _ _ r h => by simp [Ff.l0] at h
  | k + 1 => by
    have ih0 := Ff.Ei k
    · intro y0 y1 y2
      unfold Ff.l0
      repeat' first
      | (with_reducible exact ih0 _ _ _)
      | (with_reducible exact LeO.refl _)
      | (with_reducible exact LeO.none _)
      | (with_reducible refine LeO.ite ?_ ?_)
      | (with_reducible refine LeO.bind ?_ (fun _ => ?_))
      | exact ih0 _ _ _
      | exact LeO.none _
      | refine LeO.ite ?_ ?_
      | refine LeO.bind ?_ (fun _ => ?_)
theorem Ff.mono : ∀ a0 k, LeO (Ff.f k a0) (Ff.f (k + 1) a0) := by
  intro a0 k
  have ih0 := Ff.Ei k
  unfold Ff.f
  repeat' first
      | (with_reducible exact ih0 _ _ _)
      | (with_reducible exact LeO.refl _)
      | (with_reducible exact LeO.none _)
      | (with_reducible refine LeO.ite ?_ ?_)
      | (with_reducible refine LeO.bind ?_ (fun _ => ?_))
      | exact ih0 _ _ _
      | exact LeO.none _
      | refine LeO.ite ?_ ?_
      | refine LeO.bind ?_ (fun _ => ?_)
set_option maxHeartbeats 8000000 in
set_option maxRecDepth 100000 in
theorem Ff.calls (k : Nat) (a0 : ByteArray) (r : Int) (w : World) (h : Ff.f k a0 = some r) :
    Calls Tryd.prog 66 #[.string a0] w fun e w' => e = .returned (.int .i64 r) ∧ Bg w w' := by
  have H : (Ff.l0 k a0 7 0) = some r := h
  clear h
  have H' := Ac.mk H
  clear H
  go_enter Tryd.func66, Tryd.ntmps66
  go_wp2
  go_loopg [3, 4] k (fun kq v3 v4 w' => ∃ (x3_1 : Int) (x4_1 : Int), v3 = .int .i64 x3_1 ∧ v4 = .int .i64 x4_1 ∧ Ac (Ff.l0 kq a0 x3_1 x4_1 = some r) ∧ Ac (kq ≤ k) ∧ Bg w w')
  case atStart => exact ⟨(7), (0), (by first | rfl | (simp; done) | (simp [*]; done)), (by first | rfl | (simp; done) | (simp [*]; done)), H', ⟨Nat.le_refl _⟩, by repeat (first | exact Bg.refl _ | apply Bg.step)⟩
  case round =>
    clear H'
    obtain ⟨x3_1, x4_1, rfl, rfl, HA, HK1, ⟨m1, rfl⟩⟩ := hrel
    cases gk with
    | zero => exact absurd HA.out (by simp [Ff.l0])
    | succ k1 =>
      have H := HA.out
      clear HA
      simp only [Ff.l0] at H
      by_cases c2 : x4_1 < (a0.size : Int)
      · rw [if_pos c2] at H
        have c2b0 : decide (x4_1 < (a0.size : Int)) = true := decide_eq_true c2
        clear c2
        by_cases c3 : 0 ≤ x4_1
        · rw [if_pos c3] at H
          have c3b0 : decide (0 ≤ x4_1) = true := decide_eq_true c3
          clear c3
          have H' := Ac.mk H
          clear H
          have p4 : 0 ≤ (x4_1 : Int) := of_decide_eq_true (by first | (with_reducible assumption) | assumption)
          have q4 : x4_1 < (a0.size : Int) := of_decide_eq_true (by first | (with_reducible assumption) | assumption)
          have hx4 := bt_at a0 x4_1
          replace p4 := eq_true p4
          replace q4 := eq_true q4
          go_wp2
          go_roundg k1
          case measure => have := HK1.out; omega
          case rel => exact ⟨(Int.tmod (wrap64 ((wrap64 ((wrap64 (41 * x3_1)) + (wrap64 (bt a0 x4_1)))) + 1)) 999979), (wrap64 (x4_1 + 1)), (by first | rfl | (simp; done) | (simp [*]; done)), (by first | rfl | (simp; done) | (simp [*]; done)), H', ⟨by have := HK1.out; omega⟩, by repeat (first | exact Bg.refl _ | apply Bg.step)⟩
        · rw [if_neg c3] at H
          exact absurd H (by simp)
      · rw [if_neg c2] at H
        have c2b0 : decide (x4_1 < (a0.size : Int)) = false := decide_eq_false c2
        clear c2
        obtain rfl := Option.some.inj H
        go_wp2
        go_ret
        exact ⟨by first | rfl | (simp; done) | (simp [*]; done), by repeat (first | exact Bg.refl _ | apply Bg.step)⟩
end Go.Proofs.YtcnmngiaebgjkaaDoor.X

namespace Go.Proofs.YtcnmngiaebgjkaaDoor.X
open Go.RowKit Go.Proofs.YtcnmngiaebgjkaaDoorW.PrintWords Go.Proofs.YtcnmngiaebgjkaaDoorW.PrintLast Go.Proofs.YtcnmngiaebgjkaaDoorW.PrintMore
attribute [local go_sem] Dn Dk D5 Dz Cj Cm Dj Dl
open Go.Proofs.YtcnmngiaebgjkaaDoorG
def Gx.f (k : Nat) (a0 : ByteArray) : Option (ByteArray) := if a0.size + 1 ≤ 9223372036854775807 then ((Ff.f k a0).bind fun t172 => ((Du.f k t172).bind fun t173 => (if (a0 ++ (⟨#[35]⟩ : ByteArray)).size + t173.size ≤ 9223372036854775807 then (some ((a0 ++ (⟨#[35]⟩ : ByteArray)) ++ t173)) else (none)))) else (none)
theorem Gx.mono : ∀ a0 k, LeO (Gx.f k a0) (Gx.f (k + 1) a0) := by
  intro a0 k
  unfold Gx.f
  repeat' first
      | (with_reducible exact Du.mono _ _)
      | (with_reducible exact Ff.mono _ _)
      | (with_reducible exact LeO.refl _)
      | (with_reducible exact LeO.none _)
      | (with_reducible refine LeO.ite ?_ ?_)
      | (with_reducible refine LeO.bind ?_ (fun _ => ?_))
      | exact Du.mono _ _
      | exact Ff.mono _ _
      | exact LeO.none _
      | refine LeO.ite ?_ ?_
      | refine LeO.bind ?_ (fun _ => ?_)
set_option maxHeartbeats 8000000 in
set_option maxRecDepth 100000 in
theorem Gx.calls (k : Nat) (a0 : ByteArray) (r : ByteArray) (w : World) (h : Gx.f k a0 = some r) :
    Calls Tryd.prog 59 #[.string a0] w fun e w' => e = .returned (.string r) ∧ Below w.heap.size w w' := by
  have HB := Ac.mk (Below.refl w.heap.size w)
  have H : (if a0.size + 1 ≤ 9223372036854775807 then ((Ff.f k a0).bind fun t172 => ((Du.f k t172).bind fun t173 => (if (a0 ++ (⟨#[35]⟩ : ByteArray)).size + t173.size ≤ 9223372036854775807 then (some ((a0 ++ (⟨#[35]⟩ : ByteArray)) ++ t173)) else (none)))) else (none)) = some r := h
  clear h
  by_cases c2 : a0.size + 1 ≤ 9223372036854775807
  · rw [if_pos c2] at H
    have c2b0 := eq_true c2
    have c2b1 : decide (a0.size + 1 ≤ 9223372036854775807) = true := decide_eq_true c2
    try have c2b2 : (9223372036854775807 < a0.size + 1) = False := eq_false (Nat.not_lt.2 c2)
    replace H := Option.bind_eq_some_iff.mp H
    obtain ⟨t172, A30, H⟩ := H
    replace H : ((Du.f k t172).bind fun t173 => (if (a0 ++ (⟨#[35]⟩ : ByteArray)).size + t173.size ≤ 9223372036854775807 then (some ((a0 ++ (⟨#[35]⟩ : ByteArray)) ++ t173)) else (none))) = some r := H
    have A3 := Ac.mk A30
    clear A30
    replace H := Option.bind_eq_some_iff.mp H
    obtain ⟨t173, A40, H⟩ := H
    replace H : (if (a0 ++ (⟨#[35]⟩ : ByteArray)).size + t173.size ≤ 9223372036854775807 then (some ((a0 ++ (⟨#[35]⟩ : ByteArray)) ++ t173)) else (none)) = some r := H
    have A4 := Ac.mk A40
    clear A40
    by_cases c5 : (a0 ++ (⟨#[35]⟩ : ByteArray)).size + t173.size ≤ 9223372036854775807
    · rw [if_pos c5] at H
      have c5b0 := eq_true c5
      have c5b1 : decide ((a0 ++ (⟨#[35]⟩ : ByteArray)).size + t173.size ≤ 9223372036854775807) = true := decide_eq_true c5
      try have c5b2 : (9223372036854775807 < (a0 ++ (⟨#[35]⟩ : ByteArray)).size + t173.size) = False := eq_false (Nat.not_lt.2 c5)
      have c5z0 : (⟨#[35]⟩ : ByteArray).size = 1 := rfl
      have c5b3 := c5
      try simp only [ByteArray.size_extract, ByteArray.size_append, c5z0] at c5b3
      have c5b4 := eq_false (Nat.not_lt.2 c5b3)
      obtain rfl := Option.some.inj H
      go_enter Tryd.func59, Tryd.ntmps59
      go_wp2_with (first | ((with_reducible refine Aw (f := 66) rfl ?_); refine Be (some 6) rfl rfl Tryd.func66 (by kernel_rfl) rfl #[.string a0] rfl (by (try simp only [List.map_toArray, List.map_cons, List.map_nil]); first | done | rfl | (simp only [List.length_drop, List.length_take]; rfl)) ?_; (with_reducible refine (Ff.calls k a0 t172 _ A3.out).mono ?_); rintro e w' ⟨rfl, ⟨nd, rfl⟩⟩; refine ⟨_, rfl, ?_⟩) | ((with_reducible refine Aw (f := 48) rfl ?_); refine Be (some 7) rfl rfl Tryd.func48 (by kernel_rfl) rfl #[.int .i64 t172] rfl (by (try simp only [List.map_toArray, List.map_cons, List.map_nil]); first | done | rfl | (simp only [List.length_drop, List.length_take]; rfl)) ?_; (with_reducible refine (Du.calls k t172 t173 _ A4.out).mono ?_); rintro e w6 ⟨rfl, hb⟩; refine ⟨_, rfl, ?_⟩; have n0_ := Ac.mk (Ap (by repeat (first | (with_reducible first | exact HB.out | apply Ad | apply Aa | apply Ae) | exact HB.out)) hb); clear HB; have HB := n0_; clear n0_; (try clear hb); (try clear hb2); (try clear hk); (try clear hi)))
      go_ret
      exact ⟨by first | rfl | (simp [Aq, Au] <;> rfl) | (simp [*, Aq, Au] <;> rfl), by repeat (first | (with_reducible first | exact HB.out | apply Ad | apply Aa | apply Ae) | exact HB.out)⟩
    · rw [if_neg c5] at H
      exact absurd H (by simp)
  · rw [if_neg c2] at H
    exact absurd H (by simp)
end Go.Proofs.YtcnmngiaebgjkaaDoor.X

namespace Go.Proofs.YtcnmngiaebgjkaaDoor.X
open Go.RowKit Go.Proofs.YtcnmngiaebgjkaaDoorW.PrintWords Go.Proofs.YtcnmngiaebgjkaaDoorW.PrintLast Go.Proofs.YtcnmngiaebgjkaaDoorW.PrintMore
attribute [local go_sem] Dn Dk D5 Dz Cj Cm Dj Dl
open Go.Proofs.YtcnmngiaebgjkaaDoorG
def Es.f (k : Nat) (a0 : Int) (a1_0 : ByteArray) (a1_1 : ByteArray) : Option (ByteArray) := (Du.f k a0).bind fun t175 => (if t175.size + 1 ≤ 9223372036854775807 then (if (t175 ++ (⟨#[32]⟩ : ByteArray)).size + a1_0.size ≤ 9223372036854775807 then (if ((t175 ++ (⟨#[32]⟩ : ByteArray)) ++ a1_0).size + 1 ≤ 9223372036854775807 then (if (((t175 ++ (⟨#[32]⟩ : ByteArray)) ++ a1_0) ++ (⟨#[64]⟩ : ByteArray)).size + a1_1.size ≤ 9223372036854775807 then ((Gx.f k ((((t175 ++ (⟨#[32]⟩ : ByteArray)) ++ a1_0) ++ (⟨#[64]⟩ : ByteArray)) ++ a1_1)).bind fun t176 => (if t176.size + 1 ≤ 9223372036854775807 then (some (t176 ++ (⟨#[10]⟩ : ByteArray))) else (none))) else (none)) else (none)) else (none)) else (none))
theorem Es.mono : ∀ a0 a1 a2 k, LeO (Es.f k a0 a1 a2) (Es.f (k + 1) a0 a1 a2) := by
  intro a0 a1 a2 k
  unfold Es.f
  repeat' first
      | (with_reducible exact Du.mono _ _)
      | (with_reducible exact Gx.mono _ _)
      | (with_reducible exact LeO.refl _)
      | (with_reducible exact LeO.none _)
      | (with_reducible refine LeO.ite ?_ ?_)
      | (with_reducible refine LeO.bind ?_ (fun _ => ?_))
      | exact Du.mono _ _
      | exact Gx.mono _ _
      | exact LeO.none _
      | refine LeO.ite ?_ ?_
      | refine LeO.bind ?_ (fun _ => ?_)
def Es.T1 : Bool × List (List Nat × List Nat) := (true, [([], []), ([0], [0]), ([1], [1]), ([], []), ([3], [3]), ([2, 4], [2, 4]), ([5], [5]), ([], []), ([7], [7]), ([6, 8], [6, 8]), ([9, 1], [9]), ([10], [10]), ([11, 10, 0, 1, 2, 3, 4, 5, 6, 7, 8, 9, 10, 11], [11])])
def Es.B1 : List Nat := [0, 1, 3, 0, 8, 31, 63, 0, 128, 511, 1023, 2047, 4095]
theorem Es.tab1 : rtab .any (opsOf Tryd.f50 1) = Es.T1 := by kernel_rfl
theorem Es.bits1 : waitsOk Es.T1.2 Es.B1 = true := by kernel_rfl
set_option maxHeartbeats 8000000 in
set_option maxRecDepth 100000 in
theorem Es.calls (k : Nat) (a0 : Int) (a1_0 : ByteArray) (a1_1 : ByteArray) (r : ByteArray) (w : World) (h : Es.f k a0 a1_0 a1_1 = some r) :
    Calls Tryd.prog 50 #[.int .i64 a0, .agg #[.string a1_0, .string a1_1]] w fun e w' => e = .returned (.string r) ∧ Below w.heap.size w w' := by
  have hu81 := Tryd.underlying81
  have HB := Ac.mk (Below.refl w.heap.size w)
  have H : ((Du.f k a0).bind fun t175 => (if t175.size + 1 ≤ 9223372036854775807 then (if (t175 ++ (⟨#[32]⟩ : ByteArray)).size + a1_0.size ≤ 9223372036854775807 then (if ((t175 ++ (⟨#[32]⟩ : ByteArray)) ++ a1_0).size + 1 ≤ 9223372036854775807 then (if (((t175 ++ (⟨#[32]⟩ : ByteArray)) ++ a1_0) ++ (⟨#[64]⟩ : ByteArray)).size + a1_1.size ≤ 9223372036854775807 then ((Gx.f k ((((t175 ++ (⟨#[32]⟩ : ByteArray)) ++ a1_0) ++ (⟨#[64]⟩ : ByteArray)) ++ a1_1)).bind fun t176 => (if t176.size + 1 ≤ 9223372036854775807 then (some (t176 ++ (⟨#[10]⟩ : ByteArray))) else (none))) else (none)) else (none)) else (none)) else (none))) = some r := h
  clear h
  replace H := Option.bind_eq_some_iff.mp H
  obtain ⟨t175, A30, H⟩ := H
  replace H : (if t175.size + 1 ≤ 9223372036854775807 then (if (t175 ++ (⟨#[32]⟩ : ByteArray)).size + a1_0.size ≤ 9223372036854775807 then (if ((t175 ++ (⟨#[32]⟩ : ByteArray)) ++ a1_0).size + 1 ≤ 9223372036854775807 then (if (((t175 ++ (⟨#[32]⟩ : ByteArray)) ++ a1_0) ++ (⟨#[64]⟩ : ByteArray)).size + a1_1.size ≤ 9223372036854775807 then ((Gx.f k ((((t175 ++ (⟨#[32]⟩ : ByteArray)) ++ a1_0) ++ (⟨#[64]⟩ : ByteArray)) ++ a1_1)).bind fun t176 => (if t176.size + 1 ≤ 9223372036854775807 then (some (t176 ++ (⟨#[10]⟩ : ByteArray))) else (none))) else (none)) else (none)) else (none)) else (none)) = some r := H
  have A3 := Ac.mk A30
  clear A30
  by_cases c4 : t175.size + 1 ≤ 9223372036854775807
  · rw [if_pos c4] at H
    have c4b0 := eq_true c4
    have c4b1 : decide (t175.size + 1 ≤ 9223372036854775807) = true := decide_eq_true c4
    try have c4b2 : (9223372036854775807 < t175.size + 1) = False := eq_false (Nat.not_lt.2 c4)
    by_cases c5 : (t175 ++ (⟨#[32]⟩ : ByteArray)).size + a1_0.size ≤ 9223372036854775807
    · rw [if_pos c5] at H
      have c5b0 := eq_true c5
      have c5b1 : decide ((t175 ++ (⟨#[32]⟩ : ByteArray)).size + a1_0.size ≤ 9223372036854775807) = true := decide_eq_true c5
      try have c5b2 : (9223372036854775807 < (t175 ++ (⟨#[32]⟩ : ByteArray)).size + a1_0.size) = False := eq_false (Nat.not_lt.2 c5)
      have c5z0 : (⟨#[32]⟩ : ByteArray).size = 1 := rfl
      have c5b3 := c5
      try simp only [ByteArray.size_extract, ByteArray.size_append, c5z0] at c5b3
      have c5b4 := eq_false (Nat.not_lt.2 c5b3)
      by_cases c6 : ((t175 ++ (⟨#[32]⟩ : ByteArray)) ++ a1_0).size + 1 ≤ 9223372036854775807
      · rw [if_pos c6] at H
        have c6b0 := eq_true c6
        have c6b1 : decide (((t175 ++ (⟨#[32]⟩ : ByteArray)) ++ a1_0).size + 1 ≤ 9223372036854775807) = true := decide_eq_true c6
        try have c6b2 : (9223372036854775807 < ((t175 ++ (⟨#[32]⟩ : ByteArray)) ++ a1_0).size + 1) = False := eq_false (Nat.not_lt.2 c6)
        have c6z0 : (⟨#[32]⟩ : ByteArray).size = 1 := rfl
        have c6b3 := c6
        try simp only [ByteArray.size_extract, ByteArray.size_append, c6z0] at c6b3
        have c6b4 := eq_false (Nat.not_lt.2 c6b3)
        by_cases c7 : (((t175 ++ (⟨#[32]⟩ : ByteArray)) ++ a1_0) ++ (⟨#[64]⟩ : ByteArray)).size + a1_1.size ≤ 9223372036854775807
        · rw [if_pos c7] at H
          have c7b0 := eq_true c7
          have c7b1 : decide ((((t175 ++ (⟨#[32]⟩ : ByteArray)) ++ a1_0) ++ (⟨#[64]⟩ : ByteArray)).size + a1_1.size ≤ 9223372036854775807) = true := decide_eq_true c7
          try have c7b2 : (9223372036854775807 < (((t175 ++ (⟨#[32]⟩ : ByteArray)) ++ a1_0) ++ (⟨#[64]⟩ : ByteArray)).size + a1_1.size) = False := eq_false (Nat.not_lt.2 c7)
          have c7z0 : (⟨#[32]⟩ : ByteArray).size = 1 := rfl
          have c7z1 : (⟨#[64]⟩ : ByteArray).size = 1 := rfl
          have c7b3 := c7
          try simp only [ByteArray.size_extract, ByteArray.size_append, c7z0, c7z1] at c7b3
          have c7b4 := eq_false (Nat.not_lt.2 c7b3)
          replace H := Option.bind_eq_some_iff.mp H
          obtain ⟨t176, A80, H⟩ := H
          replace H : (if t176.size + 1 ≤ 9223372036854775807 then (some (t176 ++ (⟨#[10]⟩ : ByteArray))) else (none)) = some r := H
          have A8 := Ac.mk A80
          clear A80
          by_cases c9 : t176.size + 1 ≤ 9223372036854775807
          · rw [if_pos c9] at H
            have c9b0 := eq_true c9
            have c9b1 : decide (t176.size + 1 ≤ 9223372036854775807) = true := decide_eq_true c9
            try have c9b2 : (9223372036854775807 < t176.size + 1) = False := eq_false (Nat.not_lt.2 c9)
            obtain rfl := Option.some.inj H
            go_enter Tryd.func50, Tryd.ntmps50
            try go_wp2_with (first | ((with_reducible refine Bd (N := 3) rfl ?_); refine Bc ?hg (N := 3) ?hd (cs := #[.string a1_0, .string a1_1]) (t := 81) ?hr ?_; (case hd => rfl); (case hg => rfl); (case hr => first | (go_simp; done) | (go_simp; rfl)); intro gb174 hg w10 hbox hb; have n0_ := Ac.mk (Ap (by repeat (first | (with_reducible first | exact HB.out | apply Ad | apply Aa | apply Ae) | exact HB.out)) hb); have n1_ := Ac.mk (hbox); have n2_ := Ac.mk ((by rw [hg]; exact (Am (by repeat (first | (with_reducible first | exact HB.out | apply Ad | apply Aa | apply Ae) | exact HB.out))) : w.heap.size ≤ gb174)); have n3_ := Ac.mk ((by rw [hg]; exact (Am (by repeat (first | (with_reducible first | exact HB.out | apply Ad | apply Aa | apply Ae) | exact HB.out))) : w.heap.size ≤ gb174)); clear HB; have HB := n0_; have BK174 := n1_; have GW174 := n2_; have GE174 := n3_; clear n0_ n1_ n2_ n3_; clear hb hbox hg))
            have n0_ := Ac.mk (Ak BK174.out)
            have n1_ := Ac.mk (Ae HB.out)
            clear BK174
            clear HB
            have BK174 := n0_
            have HB := n1_
            clear n0_ n1_
            refine start_ (n := 13) (S := fun w' => w'.cell? ⟨gb174, 0, none⟩ = some (.string a1_0) ∧ w'.cell? ⟨gb174, 1, none⟩ = some (.string a1_1)) (ds := []) #[false, false, false, false, false, false, false, false, false, false, false, false, false] (by kernel_rfl) rfl rfl ⟨(Ag BK174.out 0).trans rfl, (Ag BK174.out 1).trans rfl⟩ (fun hHeld => ?_); refine Jd Es.tab1 Es.bits1 (fun HT_ HW_ => ?_)
            generalize w10.drew = w11 at BK174 HB hHeld ⊢
            refine Eu (i := 0) (N := some 5) (v := ?_) (a' := ?_) #[true, false, false, false, false, false, false, false, false, false, false, false, false] rfl rfl (Eh HT_.out (by kernel_rfl)) (fun _ _ _ h => h) (Or.inl ⟨by rfl, ?_⟩) ?_ ?_
            rotate_left
            · intro w'
              go_simp
              first | with_reducible rfl | (rw [if_neg (by omega)]; try with_reducible rfl)
            rotate_left
            · simp only [Act.put, List.setIfInBounds_toArray, List.set_cons_zero, List.set_cons_succ, Dp, Dt]
              rfl
            refine Eu (i := 3) (N := some 8) (v := ?_) (a' := ?_) #[true, false, false, true, false, false, false, false, false, false, false, false, false] rfl rfl (Eh HT_.out (by kernel_rfl)) (fun _ _ _ h => h) (Or.inl ⟨by rfl, ?_⟩) ?_ ?_
            rotate_left
            · intro w'
              go_simp
              first | with_reducible rfl | (rw [if_neg (by omega)]; try with_reducible rfl)
            rotate_left
            · simp only [Act.put, List.setIfInBounds_toArray, List.set_cons_zero, List.set_cons_succ, Dp, Dt]
              rfl
            refine Eu (i := 7) (N := some 12) (v := ?_) (a' := ?_) #[true, false, false, true, false, false, false, true, false, false, false, false, false] rfl rfl (Eh HT_.out (by kernel_rfl)) (fun _ _ _ h => h) (Or.inl ⟨by rfl, ?_⟩) ?_ ?_
            rotate_left
            · intro w'
              go_simp
              first | with_reducible rfl | (rw [if_neg (by omega)]; try with_reducible rfl)
            rotate_left
            · simp only [Act.put, List.setIfInBounds_toArray, List.set_cons_zero, List.set_cons_succ, Dp, Dt]
              rfl
            refine Ib (i := 4) (N := some 9) (v := ?_) (a' := ?_) #[true, false, false, true, true, false, false, true, false, false, false, false, false] rfl rfl (Ht HT_.out HW_.out (by kernel_rfl)) (fun _ _ _ h => h) (Or.inl ⟨by rfl, ?_⟩) hHeld ?_ ?_
            rotate_left
            · rintro w' ⟨s0, s1⟩
              go_simp
              first | with_reducible rfl | (rw [if_neg (by omega)]; try with_reducible rfl)
            rotate_left
            · simp only [Act.put, List.setIfInBounds_toArray, List.set_cons_zero, List.set_cons_succ, Dp, Dt]
              rfl
            refine Ib (i := 8) (N := some 13) (v := ?_) (a' := ?_) #[true, false, false, true, true, false, false, true, true, false, false, false, false] rfl rfl (Ht HT_.out HW_.out (by kernel_rfl)) (fun _ _ _ h => h) (Or.inl ⟨by rfl, ?_⟩) hHeld ?_ ?_
            rotate_left
            · rintro w' ⟨s0, s1⟩
              go_simp
              first | with_reducible rfl | (rw [if_neg (by omega)]; try with_reducible rfl)
            rotate_left
            · simp only [Act.put, List.setIfInBounds_toArray, List.set_cons_zero, List.set_cons_succ, Dp, Dt]
              rfl
            refine one_ (i := 1) (N := some 6) #[true, true, false, true, true, false, false, true, true, false, false, false, false] rfl rfl (one_of HT_.out (by kernel_rfl)) (by decide) (fun K hK => ?_)
            refine goes_ Tryd.func48 (by kernel_rfl) rfl #[.int .i64 a0] (by rfl) rfl rfl (by (try simp only [List.map_toArray, List.map_cons, List.map_nil]); first | done | rfl | (simp only [List.length_drop, List.length_take]; rfl)) ?_
            with_reducible refine (Du.calls k a0 t175 _ A3.out).mono ?_
            rintro e w12 ⟨rfl, hb⟩
            refine ⟨_, rfl, ?_⟩
            have n0_ := Ac.mk (Az (g := gb174) (o := .cells #[.string a1_0, .string a1_1] 81 (0, 0)) (by (with_reducible repeat (first | refine Aj ?_ _ | refine Ak ?_ | refine Ai ?_ _)); exact BK174.out) hb)
            have n1_ := Ac.mk (Ap (by repeat (first | (with_reducible first | exact HB.out | apply Ad | apply Aa | apply Ae | refine Ah ?_ GE174.out) | exact HB.out)) hb)
            clear BK174
            clear HB
            have BK174 := n0_
            have HB := n1_
            clear n0_ n1_
            (try clear hb)
            (try clear hb2)
            (try clear hk)
            (try clear hi)
            refine hK.out _ _ ⟨(Ag BK174.out 0).trans rfl, (Ag BK174.out 1).trans rfl⟩ (fun hHeld => ?_)
            clear hK K
            refine norm_ (a' := ?_) ?_ ?_
            rotate_left
            · show Act.put _ (some 6) _ = _
              simp only [Act.put, List.setIfInBounds_toArray, List.set_cons_zero, List.set_cons_succ, Dp, Dt]
              rfl
            refine Eu (i := 2) (N := some 7) (v := ?_) (a' := ?_) #[true, true, true, true, true, false, false, true, true, false, false, false, false] rfl rfl (Eh HT_.out (by kernel_rfl)) (fun _ _ _ h => h) (Or.inl ⟨by rfl, ?_⟩) ?_ ?_
            rotate_left
            · intro w'
              go_simp
              first | with_reducible rfl | (rw [if_neg (by omega)]; try with_reducible rfl)
            rotate_left
            · simp only [Act.put, List.setIfInBounds_toArray, List.set_cons_zero, List.set_cons_succ, Dp, Dt]
              rfl
            refine Eu (i := 5) (N := some 10) (v := ?_) (a' := ?_) #[true, true, true, true, true, true, false, true, true, false, false, false, false] rfl rfl (Eh HT_.out (by kernel_rfl)) (fun _ _ _ h => h) (Or.inl ⟨by rfl, ?_⟩) ?_ ?_
            rotate_left
            · intro w'
              go_simp
              first | with_reducible rfl | (rw [if_neg (by omega)]; try with_reducible rfl)
            rotate_left
            · simp only [Act.put, List.setIfInBounds_toArray, List.set_cons_zero, List.set_cons_succ, Dp, Dt]
              rfl
            refine Eu (i := 6) (N := some 11) (v := ?_) (a' := ?_) #[true, true, true, true, true, true, true, true, true, false, false, false, false] rfl rfl (Eh HT_.out (by kernel_rfl)) (fun _ _ _ h => h) (Or.inl ⟨by rfl, ?_⟩) ?_ ?_
            rotate_left
            · intro w'
              go_simp
              first | with_reducible rfl | (rw [if_neg (by omega)]; try with_reducible rfl)
            rotate_left
            · simp only [Act.put, List.setIfInBounds_toArray, List.set_cons_zero, List.set_cons_succ, Dp, Dt]
              rfl
            refine Eu (i := 9) (N := some 14) (v := ?_) (a' := ?_) #[true, true, true, true, true, true, true, true, true, true, false, false, false] rfl rfl (Eh HT_.out (by kernel_rfl)) (fun _ _ _ h => h) (Or.inl ⟨by rfl, ?_⟩) ?_ ?_
            rotate_left
            · intro w'
              go_simp
              first | with_reducible rfl | (rw [if_neg (by omega)]; try with_reducible rfl)
            rotate_left
            · simp only [Act.put, List.setIfInBounds_toArray, List.set_cons_zero, List.set_cons_succ, Dp, Dt]
              rfl
            refine one_ (i := 10) (N := some 15) #[true, true, true, true, true, true, true, true, true, true, true, false, false] rfl rfl (one_of HT_.out (by kernel_rfl)) (by decide) (fun K hK => ?_)
            refine goes_ Tryd.func59 (by kernel_rfl) rfl #[.string ((((t175 ++ (⟨#[32]⟩ : ByteArray)) ++ a1_0) ++ (⟨#[64]⟩ : ByteArray)) ++ a1_1)] (by rfl) rfl rfl (by (try simp only [List.map_toArray, List.map_cons, List.map_nil]); first | done | rfl | (simp only [List.length_drop, List.length_take]; rfl)) ?_
            with_reducible refine (Gx.calls k ((((t175 ++ (⟨#[32]⟩ : ByteArray)) ++ a1_0) ++ (⟨#[64]⟩ : ByteArray)) ++ a1_1) t176 _ A8.out).mono ?_
            rintro e w13 ⟨rfl, hb⟩
            refine ⟨_, rfl, ?_⟩
            have n0_ := Ac.mk (Az (g := gb174) (o := .cells #[.string a1_0, .string a1_1] 81 (0, 0)) (by (with_reducible repeat (first | refine Aj ?_ _ | refine Ak ?_ | refine Ai ?_ _)); exact BK174.out) hb)
            have n1_ := Ac.mk (Ap (by repeat (first | (with_reducible first | exact HB.out | apply Ad | apply Aa | apply Ae | refine Ah ?_ GE174.out) | exact HB.out)) hb)
            clear BK174
            clear HB
            have BK174 := n0_
            have HB := n1_
            clear n0_ n1_
            (try clear hb)
            (try clear hb2)
            (try clear hk)
            (try clear hi)
            refine hK.out _ _ ⟨(Ag BK174.out 0).trans rfl, (Ag BK174.out 1).trans rfl⟩ (fun hHeld => ?_)
            clear hK K
            refine norm_ (a' := ?_) ?_ ?_
            rotate_left
            · show Act.put _ (some 15) _ = _
              simp only [Act.put, List.setIfInBounds_toArray, List.set_cons_zero, List.set_cons_succ, Dp, Dt]
              rfl
            refine Eu (i := 11) (N := some 16) (v := ?_) (a' := ?_) #[true, true, true, true, true, true, true, true, true, true, true, true, false] rfl rfl (Eh HT_.out (by kernel_rfl)) (fun _ _ _ h => h) (Or.inl ⟨by rfl, ?_⟩) ?_ ?_
            rotate_left
            · intro w'
              go_simp
              first | with_reducible rfl | (rw [if_neg (by omega)]; try with_reducible rfl)
            rotate_left
            · simp only [Act.put, List.setIfInBounds_toArray, List.set_cons_zero, List.set_cons_succ, Dp, Dt]
              rfl
            refine Eu (i := 12) (N := some 4) (v := ?_) (a' := ?_) #[true, true, true, true, true, true, true, true, true, true, true, true, true] rfl rfl (Eh HT_.out (by kernel_rfl)) (fun _ _ _ h => h) (Or.inl ⟨by rfl, ?_⟩) ?_ ?_
            rotate_left
            · intro w'
              go_simp
              first | with_reducible rfl | (rw [if_neg (by omega)]; try with_reducible rfl)
            rotate_left
            · simp only [Act.put, List.setIfInBounds_toArray, List.set_cons_zero, List.set_cons_succ, Dp, Dt]
              rfl
            refine done_ (done_of HT_.out (by kernel_rfl)) ?_
            try go_wp2
            go_ret
            exact ⟨by first | rfl | (simp [Aq, Au] <;> rfl) | (simp [*, Aq, Au] <;> rfl), by repeat (first | (with_reducible first | exact HB.out | apply Ad | apply Aa | apply Ae | refine Ah ?_ GE174.out) | exact HB.out)⟩
          · rw [if_neg c9] at H
            exact absurd H (by simp)
        · rw [if_neg c7] at H
          exact absurd H (by simp)
      · rw [if_neg c6] at H
        exact absurd H (by simp)
    · rw [if_neg c5] at H
      exact absurd H (by simp)
  · rw [if_neg c4] at H
    exact absurd H (by simp)
end Go.Proofs.YtcnmngiaebgjkaaDoor.X

namespace Go.Proofs.YtcnmngiaebgjkaaDoor.X
open Go.RowKit Go.Proofs.YtcnmngiaebgjkaaDoorW.PrintWords Go.Proofs.YtcnmngiaebgjkaaDoorW.PrintLast Go.Proofs.YtcnmngiaebgjkaaDoorW.PrintMore
attribute [local go_sem] Dn Dk D5 Dz Cj Cm Dj Dl
open Go.Proofs.YtcnmngiaebgjkaaDoorG
def Bz.j0 : Nat → ByteArray → Int → ByteArray → ByteArray → Bool → Option (ByteArray × ByteArray × Bool)
  | 0, _, _, _, _, _ => none
  | k + 1, x0, x1, x6, x7, x30 => if x30 = true then (some ((⟨#[]⟩ : ByteArray), (⟨#[]⟩ : ByteArray), false)) else (if 0 ≤ (x6.size : Int) then (if (x6.size : Int) ≤ (x7.size : Int) then ((Cb.f k (x7.extract ((x6.size : Int) : Int).toNat x7.size) 64).bind fun t183 => (if 0 < (t183.length : Int) then (if ((Bq ByteArray.empty t183 0).size : Int) = ((x7.extract ((x6.size : Int) : Int).toNat x7.size).size : Int) then (some ((⟨#[]⟩ : ByteArray), (⟨#[]⟩ : ByteArray), false)) else (if 0 ≤ (wrap64 (((Bq ByteArray.empty t183 0).size : Int) + 1)) then (if (wrap64 (((Bq ByteArray.empty t183 0).size : Int) + 1)) ≤ ((x7.extract ((x6.size : Int) : Int).toNat x7.size).size : Int) then ((Fj.f k (Bq ByteArray.empty t183 0) ((x7.extract ((x6.size : Int) : Int).toNat x7.size).extract ((wrap64 (((Bq ByteArray.empty t183 0).size : Int) + 1)) : Int).toNat (x7.extract ((x6.size : Int) : Int).toNat x7.size).size)).bind fun t188 => (if t188 = true then ((Es.f k x1 (Bq ByteArray.empty t183 0) ((x7.extract ((x6.size : Int) : Int).toNat x7.size).extract ((wrap64 (((Bq ByteArray.empty t183 0).size : Int) + 1)) : Int).toNat (x7.extract ((x6.size : Int) : Int).toNat x7.size).size)).bind fun t189 => (if x0.size + 1 ≤ 9223372036854775807 then (some (Bq ByteArray.empty t183 0, (x7.extract ((x6.size : Int) : Int).toNat x7.size).extract ((wrap64 (((Bq ByteArray.empty t183 0).size : Int) + 1)) : Int).toNat (x7.extract ((x6.size : Int) : Int).toNat x7.size).size, (t189.toList == (x0 ++ (⟨#[10]⟩ : ByteArray)).toList))) else (none))) else (some (Bq ByteArray.empty t183 0, (x7.extract ((x6.size : Int) : Int).toNat x7.size).extract ((wrap64 (((Bq ByteArray.empty t183 0).size : Int) + 1)) : Int).toNat (x7.extract ((x6.size : Int) : Int).toNat x7.size).size, false)))) else (none)) else (none))) else (none))) else (none)) else (none))
def Bz.f (k : Nat) (a0 : ByteArray) (a1 : Int) : Option (ByteArray × ByteArray × Bool) := (Du.f k a1).bind fun t178 => (if t178.size + 1 ≤ 9223372036854775807 then ((Cb.f k a0 35).bind fun t179 => (if 0 < (t179.length : Int) then (if ((Bq ByteArray.empty t179 0).size : Int) < ((t178 ++ (⟨#[32]⟩ : ByteArray)).size : Int) then (Bz.j0 k a0 a1 (t178 ++ (⟨#[32]⟩ : ByteArray)) (Bq ByteArray.empty t179 0) true) else (if 0 ≤ ((t178 ++ (⟨#[32]⟩ : ByteArray)).size : Int) then (if ((t178 ++ (⟨#[32]⟩ : ByteArray)).size : Int) ≤ ((Bq ByteArray.empty t179 0).size : Int) then (Bz.j0 k a0 a1 (t178 ++ (⟨#[32]⟩ : ByteArray)) (Bq ByteArray.empty t179 0) (((Bq ByteArray.empty t179 0).extract 0 (((t178 ++ (⟨#[32]⟩ : ByteArray)).size : Int) : Int).toNat).toList != (t178 ++ (⟨#[32]⟩ : ByteArray)).toList)) else (none)) else (none))) else (none))) else (none))
theorem Bz.Ei : ∀ k, (∀ y0 y1 y2 y3 y4, LeO (Bz.j0 k y0 y1 y2 y3 y4) (Bz.j0 (k + 1) y0 y1 y2 y3 y4))
  | 0 => fun _ _ _ _ _ r h => by simp [Bz.j0] at h
  | k + 1 => by
    have ih0 := Bz.Ei k
    · intro y0 y1 y2 y3 y4
      unfold Bz.j0
      repeat' first
      | (with_reducible exact ih0 _ _ _ _ _)
      | (with_reducible exact Du.mono _ _)
      | (with_reducible exact Cb.mono _ _ _)
      | (with_reducible exact Fj.mono _ _ _)
      | (with_reducible exact Es.mono _ _ _ _)
      | (with_reducible exact LeO.refl _)
      | (with_reducible exact LeO.none _)
      | (with_reducible refine LeO.ite ?_ ?_)
      | (with_reducible refine LeO.bind ?_ (fun _ => ?_))
      | exact ih0 _ _ _ _ _
      | exact Du.mono _ _
      | exact Cb.mono _ _ _
      | exact Fj.mono _ _ _
      | exact Es.mono _ _ _ _
      | exact LeO.none _
      | refine LeO.ite ?_ ?_
      | refine LeO.bind ?_ (fun _ => ?_)
theorem Bz.mono : ∀ a0 a1 k, LeO (Bz.f k a0 a1) (Bz.f (k + 1) a0 a1) := by
  intro a0 a1 k
  have ih0 := Bz.Ei k
  unfold Bz.f
  repeat' first
      | (with_reducible exact ih0 _ _ _ _ _)
      | (with_reducible exact Du.mono _ _)
      | (with_reducible exact Cb.mono _ _ _)
      | (with_reducible exact Fj.mono _ _ _)
      | (with_reducible exact Es.mono _ _ _ _)
      | (with_reducible exact LeO.refl _)
      | (with_reducible exact LeO.none _)
      | (with_reducible refine LeO.ite ?_ ?_)
      | (with_reducible refine LeO.bind ?_ (fun _ => ?_))
      | exact ih0 _ _ _ _ _
      | exact Du.mono _ _
      | exact Cb.mono _ _ _
      | exact Fj.mono _ _ _
      | exact Es.mono _ _ _ _
      | exact LeO.none _
      | refine LeO.ite ?_ ?_
      | refine LeO.bind ?_ (fun _ => ?_)
def Bz.T10 : Bool × List (List Nat × List Nat) := (true, [([], []), ([], []), ([1], [1]), ([2, 2], [2]), ([3], [3]), ([3], [3]), ([4, 5, 3, 3], [3, 4, 5]), ([3], [3]), ([7, 3], [3, 7]), ([6, 8, 3], [3, 6, 8]), ([3, 9], [3, 9]), ([0, 6, 0], [0]), ([10, 11, 0, 1, 2, 3, 4, 5, 6, 7, 8, 9, 10, 11], [10])])
def Bz.B10 : List Nat := [0, 0, 2, 6, 14, 14, 62, 14, 142, 510, 1022, 127, 4095]
theorem Bz.tab10 : rtab .any (opsOf Tryd.f44 10) = Bz.T10 := by kernel_rfl
theorem Bz.bits10 : waitsOk Bz.T10.2 Bz.B10 = true := by kernel_rfl
set_option maxHeartbeats 8000000 in
set_option maxRecDepth 100000 in
theorem Bz.calls (k : Nat) (a0 : ByteArray) (a1 : Int) (r1 : ByteArray) (r2 : ByteArray) (r3 : Bool) (w : World) (h : Bz.f k a0 a1 = some (r1, r2, r3)) :
    Calls Tryd.prog 44 #[.string a0, .int .i64 a1] w fun e w' => e = .returned (.tuple #[.agg #[.string r1, .string r2], .bool r3]) ∧ Below w.heap.size w w' := by
  have hu81 := Tryd.underlying81
  have HB := Ac.mk (Below.refl w.heap.size w)
  have H : ((Du.f k a1).bind fun t178 => (if t178.size + 1 ≤ 9223372036854775807 then ((Cb.f k a0 35).bind fun t179 => (if 0 < (t179.length : Int) then (if ((Bq ByteArray.empty t179 0).size : Int) < ((t178 ++ (⟨#[32]⟩ : ByteArray)).size : Int) then (Bz.j0 k a0 a1 (t178 ++ (⟨#[32]⟩ : ByteArray)) (Bq ByteArray.empty t179 0) true) else (if 0 ≤ ((t178 ++ (⟨#[32]⟩ : ByteArray)).size : Int) then (if ((t178 ++ (⟨#[32]⟩ : ByteArray)).size : Int) ≤ ((Bq ByteArray.empty t179 0).size : Int) then (Bz.j0 k a0 a1 (t178 ++ (⟨#[32]⟩ : ByteArray)) (Bq ByteArray.empty t179 0) (((Bq ByteArray.empty t179 0).extract 0 (((t178 ++ (⟨#[32]⟩ : ByteArray)).size : Int) : Int).toNat).toList != (t178 ++ (⟨#[32]⟩ : ByteArray)).toList)) else (none)) else (none))) else (none))) else (none))) = some (r1, r2, r3) := h
  clear h
  replace H := Option.bind_eq_some_iff.mp H
  obtain ⟨t178, A30, H⟩ := H
  replace H : (if t178.size + 1 ≤ 9223372036854775807 then ((Cb.f k a0 35).bind fun t179 => (if 0 < (t179.length : Int) then (if ((Bq ByteArray.empty t179 0).size : Int) < ((t178 ++ (⟨#[32]⟩ : ByteArray)).size : Int) then (Bz.j0 k a0 a1 (t178 ++ (⟨#[32]⟩ : ByteArray)) (Bq ByteArray.empty t179 0) true) else (if 0 ≤ ((t178 ++ (⟨#[32]⟩ : ByteArray)).size : Int) then (if ((t178 ++ (⟨#[32]⟩ : ByteArray)).size : Int) ≤ ((Bq ByteArray.empty t179 0).size : Int) then (Bz.j0 k a0 a1 (t178 ++ (⟨#[32]⟩ : ByteArray)) (Bq ByteArray.empty t179 0) (((Bq ByteArray.empty t179 0).extract 0 (((t178 ++ (⟨#[32]⟩ : ByteArray)).size : Int) : Int).toNat).toList != (t178 ++ (⟨#[32]⟩ : ByteArray)).toList)) else (none)) else (none))) else (none))) else (none)) = some (r1, r2, r3) := H
  have A3 := Ac.mk A30
  clear A30
  by_cases c4 : t178.size + 1 ≤ 9223372036854775807
  · rw [if_pos c4] at H
    have c4b0 := eq_true c4
    have c4b1 : decide (t178.size + 1 ≤ 9223372036854775807) = true := decide_eq_true c4
    try have c4b2 : (9223372036854775807 < t178.size + 1) = False := eq_false (Nat.not_lt.2 c4)
    replace H := Option.bind_eq_some_iff.mp H
    obtain ⟨t179, A50, H⟩ := H
    replace H : (if 0 < (t179.length : Int) then (if ((Bq ByteArray.empty t179 0).size : Int) < ((t178 ++ (⟨#[32]⟩ : ByteArray)).size : Int) then (Bz.j0 k a0 a1 (t178 ++ (⟨#[32]⟩ : ByteArray)) (Bq ByteArray.empty t179 0) true) else (if 0 ≤ ((t178 ++ (⟨#[32]⟩ : ByteArray)).size : Int) then (if ((t178 ++ (⟨#[32]⟩ : ByteArray)).size : Int) ≤ ((Bq ByteArray.empty t179 0).size : Int) then (Bz.j0 k a0 a1 (t178 ++ (⟨#[32]⟩ : ByteArray)) (Bq ByteArray.empty t179 0) (((Bq ByteArray.empty t179 0).extract 0 (((t178 ++ (⟨#[32]⟩ : ByteArray)).size : Int) : Int).toNat).toList != (t178 ++ (⟨#[32]⟩ : ByteArray)).toList)) else (none)) else (none))) else (none)) = some (r1, r2, r3) := H
    have A5 := Ac.mk A50
    clear A50
    by_cases c6 : 0 < (t179.length : Int)
    · rw [if_pos c6] at H
      have c6b0 : decide (0 < (t179.length : Int)) = true := decide_eq_true c6
      have c6b1 : decide (0 < t179.length) = true := decide_eq_true (by omega)
      clear c6
      have HC7 := Ac.mk H
      clear H
      go_enter Tryd.func44, Tryd.ntmps44
      go_upto_region 3 with (first | ((with_reducible refine Bd (N := 4) rfl ?_); (try (refine Eb (by rfl) ?_; dsimp only)); refine Bc ?hg (N := 4) ?hd (cs := #[.string (⟨#[]⟩ : ByteArray), .string (⟨#[]⟩ : ByteArray)]) (t := 81) ?hr ?_; (case hd => rfl); (case hg => rfl); (case hr => first | (go_simp; done) | (go_simp; rfl)); intro gb177 hg w8 hbox hb; have n0_ := Ac.mk (Ap (by repeat (first | (with_reducible first | exact HB.out | apply Ad | apply Aa | apply Ae) | exact HB.out)) hb); have n1_ := Ac.mk (hbox); have n2_ := Ac.mk ((by rw [hg]; exact (Am (by repeat (first | (with_reducible first | exact HB.out | apply Ad | apply Aa | apply Ae) | exact HB.out))) : w.heap.size ≤ gb177)); have n3_ := Ac.mk ((by rw [hg]; exact (Am (by repeat (first | (with_reducible first | exact HB.out | apply Ad | apply Aa | apply Ae) | exact HB.out))) : w.heap.size ≤ gb177)); clear HB; have HB := n0_; have BK177 := n1_; have GW177 := n2_; have GE177 := n3_; clear n0_ n1_ n2_ n3_; clear hb hbox hg) | ((with_reducible refine Aw (f := 48) rfl ?_); refine Be (some 12) rfl rfl Tryd.func48 (by kernel_rfl) rfl #[.int .i64 a1] rfl (by (try simp only [List.map_toArray, List.map_cons, List.map_nil]); first | done | rfl | (simp only [List.length_drop, List.length_take]; rfl)) ?_; (with_reducible refine (Du.calls k a1 t178 _ A3.out).mono ?_); rintro e w9 ⟨rfl, hb⟩; refine ⟨_, rfl, ?_⟩; have n0_ := Ac.mk (Az (g := gb177) (o := .cells #[.string (⟨#[]⟩ : ByteArray), .string (⟨#[]⟩ : ByteArray)] 81 (0, 0)) (by (with_reducible repeat (first | refine Aj ?_ _ | refine Ak ?_ | refine Ai ?_ _)); exact BK177.out) hb); have n1_ := Ac.mk (Ap (by repeat (first | (with_reducible first | exact HB.out | apply Ad | apply Aa | apply Ae | refine Ah ?_ GE177.out) | exact HB.out)) hb); clear BK177; clear HB; have BK177 := n0_; have HB := n1_; clear n0_ n1_; (try clear hb); (try clear hb2); (try clear hk); (try clear hi)) | ((with_reducible refine Aw (f := 43) rfl ?_); refine Be (some 15) rfl rfl Tryd.func43 (by kernel_rfl) rfl #[.string a0, .int .u8 35] rfl (by (try simp only [List.map_toArray, List.map_cons, List.map_nil]); first | done | rfl | (simp only [List.length_drop, List.length_take]; rfl)) ?_; (with_reducible refine (Cb.calls k a0 35 t179 _ A5.out).mono ?_); rintro e w10 ⟨v180, rfl, ho0, hb⟩; refine ⟨_, rfl, ?_⟩; have n0_ := Ac.mk (Kd.Gj ho0 (Am (by repeat (first | (with_reducible first | exact HB.out | apply Ad | apply Aa | apply Ae | refine Ah ?_ GE177.out) | exact HB.out)))); have n1_ := Ac.mk (Az (g := gb177) (o := .cells #[.string (⟨#[]⟩ : ByteArray), .string (⟨#[]⟩ : ByteArray)] 81 (0, 0)) (by (with_reducible repeat (first | refine Aj ?_ _ | refine Ak ?_ | refine Ai ?_ _)); exact BK177.out) hb); have n2_ := Ac.mk (Ap (by repeat (first | (with_reducible first | exact HB.out | apply Ad | apply Aa | apply Ae | refine Ah ?_ GE177.out) | exact HB.out)) hb); clear BK177; clear HB; have HO181 := n0_; have BK177 := n1_; have HB := n2_; clear n0_ n1_ n2_; (try clear hb); (try clear hb2); (try clear hk); (try clear hi); (try clear ho0); obtain ⟨Ao11, co11, eo11⟩ := Kd.Gq HO181.out; subst eo11; have p182 : 0 ≤ (0 : Int) := (by omega); have q182 : 0 < (t179.length : Int) := of_decide_eq_true (by first | (with_reducible assumption) | assumption); obtain ⟨ad182, e182, hx182_0⟩ := Kd.I9 (Kd.Fq HO181.out).2.2 0 p182 q182; cases e182; have qi182 : (0 < t179.length) = True := eq_true (by omega); (try rw [show ((0 : Int)).toNat = 0 from rfl] at hx182_0); (try rw [Addr.add_zero'] at hx182_0); replace p182 := eq_true p182; replace q182 := eq_true q182))
      (try simp only [Act.put, List.setIfInBounds_toArray, List.set_cons_zero, List.set_cons_succ])
      generalize hys0 : t178 ++ (⟨#[32]⟩ : ByteArray) = ys0 at HC7 ⊢
      have Nys0 := Ac.mk hys0
      clear hys0
      go_cut [30] (fun v30 wc => ∃ (kq : Nat) (x30_6 : Bool), v30 = .bool x30_6 ∧ Ac (Bz.j0 kq a0 a1 ys0 (Bq ByteArray.empty t179 0) x30_6 = some (r1, r2, r3)) ∧ Ac (kq ≤ k) ∧ Ac (wc.heap[gb177]? = some (.cells #[.string (⟨#[]⟩ : ByteArray), .string (⟨#[]⟩ : ByteArray)] 81 (0, 0))) ∧ Ac (Below w.heap.size w wc))
      case first =>
        have H := HC7.out
        clear HC7
        by_cases c12 : ((Bq ByteArray.empty t179 0).size : Int) < (ys0.size : Int)
        · rw [if_pos c12] at H
          have c12b0 : decide (((Bq ByteArray.empty t179 0).size : Int) < (ys0.size : Int)) = true := decide_eq_true c12
          have c12b5 := c12b0
          try simp at c12b5
          have c12b1 : decide ((Bq ByteArray.empty t179 0).size < ys0.size) = true := decide_eq_true (Int.ofNat_lt.mp c12)
          clear c12
          (first | rw [c12b0] | (simp only [Dp, Dt]; rw [c12b0]) | skip)
          have H' := Ac.mk H
          clear H
          go_wp2
          go_meet
          case rel => exact ⟨_, (true), (by first | rfl | (simp; done) | (simp [*]; done)), H', ⟨by first | omega | exact Nat.le_refl _⟩, ⟨by (with_reducible repeat (first | refine Aj ?_ _ | refine Ak ?_ | refine Ai ?_ _)); exact BK177.out⟩, ⟨by repeat (first | (with_reducible first | exact HB.out | apply Ad | apply Aa | apply Ae | refine Ah ?_ GE177.out) | exact HB.out)⟩⟩
        · rw [if_neg c12] at H
          have c12b0 : decide (((Bq ByteArray.empty t179 0).size : Int) < (ys0.size : Int)) = false := decide_eq_false c12
          have c12b5 := c12b0
          try simp at c12b5
          have c12b1 : decide ((Bq ByteArray.empty t179 0).size < ys0.size) = false := decide_eq_false (fun h => c12 (Int.ofNat_lt.mpr h))
          clear c12
          (first | rw [c12b0] | (simp only [Dp, Dt]; rw [c12b0]) | skip)
          by_cases c13 : 0 ≤ (ys0.size : Int)
          · rw [if_pos c13] at H
            have c13b0 := eq_true c13
            have c13b1 : decide (0 ≤ (ys0.size : Int)) = true := decide_eq_true c13
            by_cases c14 : (ys0.size : Int) ≤ ((Bq ByteArray.empty t179 0).size : Int)
            · rw [if_pos c14] at H
              have c14b0 := eq_true c14
              have c14b1 : decide ((ys0.size : Int) ≤ ((Bq ByteArray.empty t179 0).size : Int)) = true := decide_eq_true c14
              have H' := Ac.mk H
              clear H
              go_wp2
              go_meet
              case rel => exact ⟨_, ((((Bq ByteArray.empty t179 0).extract 0 ((ys0.size : Int) : Int).toNat).toList != ys0.toList)), (by first | rfl | (simp; done) | (simp [*]; done)), H', ⟨by first | omega | exact Nat.le_refl _⟩, ⟨by (with_reducible repeat (first | refine Aj ?_ _ | refine Ak ?_ | refine Ai ?_ _)); exact BK177.out⟩, ⟨by repeat (first | (with_reducible first | exact HB.out | apply Ad | apply Aa | apply Ae | refine Ah ?_ GE177.out) | exact HB.out)⟩⟩
            · rw [if_neg c14] at H
              exact absurd H (by simp)
          · rw [if_neg c13] at H
            exact absurd H (by simp)
      case rest =>
        clear HC7
        try clear c1
        try clear p1
        try clear q1
        try clear hx1
        try clear qi1
        try clear p2
        try clear c4
        try clear c4b0
        try clear c4b1
        try clear c4b2
        try clear c6
        try clear c6b0
        try clear c6b1
        try clear c12
        try clear c12b0
        try clear c12b1
        try clear c13
        try clear c13b0
        try clear c13b1
        try clear c14
        try clear c14b0
        try clear c14b1
        try clear hx182_0
        try clear p182
        try clear q182
        obtain ⟨kq, x30_6, rfl, HA, HJ6, BK177, HB⟩ := hcut
        cases kq with
        | zero => exact absurd HA.out (by simp [Bz.j0])
        | succ kj6 =>
          have H := HA.out
          clear HA
          simp only [Bz.j0] at H
          by_cases c15 : x30_6 = true
          · subst c15
            have H1 : (some ((⟨#[]⟩ : ByteArray), (⟨#[]⟩ : ByteArray), false)) = some (r1, r2, r3) := by rw [if_pos rfl] at H; exact H
            clear H
            have H := H1
            clear H1
            simp only [Option.some.injEq, Prod.mk.injEq] at H
            obtain ⟨rfl, rfl, rfl⟩ := H
            have hcz16_0 : wc.cell? ⟨gb177, 0, none⟩ = some (.string (⟨#[]⟩ : ByteArray)) := (Ag BK177.out 0).trans rfl
            have hcz16_1 : wc.cell? ⟨gb177, 1, none⟩ = some (.string (⟨#[]⟩ : ByteArray)) := (Ag BK177.out 1).trans rfl
            have hfz16_0 := Af BK177.out 0
            have hfz16_1 := Af BK177.out 1
            go_wp2
            refine bodyPost_ret (results_ct rfl _ _ gb177 81 #[.string (⟨#[]⟩ : ByteArray), .string (⟨#[]⟩ : ByteArray)] (0, 0) _ rfl (by (with_reducible repeat (first | refine Aj ?_ _ | refine Ak ?_ | refine Ai ?_ _)); refine Ed (cs := #[.string (⟨#[]⟩ : ByteArray), .string (⟨#[]⟩ : ByteArray)]) ?_ 1 _ rfl; (with_reducible repeat (first | refine Aj ?_ _ | refine Ak ?_ | refine Ai ?_ _)); refine Ed (cs := #[.string (⟨#[]⟩ : ByteArray), .string (⟨#[]⟩ : ByteArray)]) ?_ 0 _ rfl; (with_reducible repeat (first | refine Aj ?_ _ | refine Ak ?_ | refine Ai ?_ _)); exact BK177.out) Tryd.underlying81 rfl (by kernel_rfl)) rfl ?_
            exact ⟨by first | rfl | (simp [Aq, Au] <;> rfl) | (simp [*, Aq, Au] <;> rfl), by repeat (first | (with_reducible first | exact HB.out | apply Ad | apply Aa | apply Ae | refine Ah ?_ GE177.out) | exact HB.out)⟩
          · replace c15 := Bool.eq_false_iff.mpr c15
            subst c15
            have H1 : (if 0 ≤ (ys0.size : Int) then (if (ys0.size : Int) ≤ ((Bq ByteArray.empty t179 0).size : Int) then ((Cb.f kj6 ((Bq ByteArray.empty t179 0).extract ((ys0.size : Int) : Int).toNat (Bq ByteArray.empty t179 0).size) 64).bind fun t183 => (if 0 < (t183.length : Int) then (if ((Bq ByteArray.empty t183 0).size : Int) = (((Bq ByteArray.empty t179 0).extract ((ys0.size : Int) : Int).toNat (Bq ByteArray.empty t179 0).size).size : Int) then (some ((⟨#[]⟩ : ByteArray), (⟨#[]⟩ : ByteArray), false)) else (if 0 ≤ (wrap64 (((Bq ByteArray.empty t183 0).size : Int) + 1)) then (if (wrap64 (((Bq ByteArray.empty t183 0).size : Int) + 1)) ≤ (((Bq ByteArray.empty t179 0).extract ((ys0.size : Int) : Int).toNat (Bq ByteArray.empty t179 0).size).size : Int) then ((Fj.f kj6 (Bq ByteArray.empty t183 0) (((Bq ByteArray.empty t179 0).extract ((ys0.size : Int) : Int).toNat (Bq ByteArray.empty t179 0).size).extract ((wrap64 (((Bq ByteArray.empty t183 0).size : Int) + 1)) : Int).toNat ((Bq ByteArray.empty t179 0).extract ((ys0.size : Int) : Int).toNat (Bq ByteArray.empty t179 0).size).size)).bind fun t188 => (if t188 = true then ((Es.f kj6 a1 (Bq ByteArray.empty t183 0) (((Bq ByteArray.empty t179 0).extract ((ys0.size : Int) : Int).toNat (Bq ByteArray.empty t179 0).size).extract ((wrap64 (((Bq ByteArray.empty t183 0).size : Int) + 1)) : Int).toNat ((Bq ByteArray.empty t179 0).extract ((ys0.size : Int) : Int).toNat (Bq ByteArray.empty t179 0).size).size)).bind fun t189 => (if a0.size + 1 ≤ 9223372036854775807 then (some (Bq ByteArray.empty t183 0, ((Bq ByteArray.empty t179 0).extract ((ys0.size : Int) : Int).toNat (Bq ByteArray.empty t179 0).size).extract ((wrap64 (((Bq ByteArray.empty t183 0).size : Int) + 1)) : Int).toNat ((Bq ByteArray.empty t179 0).extract ((ys0.size : Int) : Int).toNat (Bq ByteArray.empty t179 0).size).size, (t189.toList == (a0 ++ (⟨#[10]⟩ : ByteArray)).toList))) else (none))) else (some (Bq ByteArray.empty t183 0, ((Bq ByteArray.empty t179 0).extract ((ys0.size : Int) : Int).toNat (Bq ByteArray.empty t179 0).size).extract ((wrap64 (((Bq ByteArray.empty t183 0).size : Int) + 1)) : Int).toNat ((Bq ByteArray.empty t179 0).extract ((ys0.size : Int) : Int).toNat (Bq ByteArray.empty t179 0).size).size, false)))) else (none)) else (none))) else (none))) else (none)) else (none)) = some (r1, r2, r3) := by rw [if_neg (show ¬ (false = true) by decide)] at H; exact H
            clear H
            have H := H1
            clear H1
            by_cases c17 : 0 ≤ (ys0.size : Int)
            · rw [if_pos c17] at H
              have c17b0 := eq_true c17
              have c17b1 : decide (0 ≤ (ys0.size : Int)) = true := decide_eq_true c17
              by_cases c18 : (ys0.size : Int) ≤ ((Bq ByteArray.empty t179 0).size : Int)
              · rw [if_pos c18] at H
                have c18b0 := eq_true c18
                have c18b1 : decide ((ys0.size : Int) ≤ ((Bq ByteArray.empty t179 0).size : Int)) = true := decide_eq_true c18
                simp only [Int.toNat_natCast] at H
                have HC8 := Ac.mk H
                clear H
                go_upto_region 6 with (fail)
                generalize hys1 : (Bq ByteArray.empty t179 0).extract ys0.size (Bq ByteArray.empty t179 0).size = ys1 at HC8 ⊢
                have Nys1 := Ac.mk hys1
                clear hys1
                have H := HC8.out
                clear HC8
                replace H := Option.bind_eq_some_iff.mp H
                obtain ⟨t183, A190, H⟩ := H
                replace H : (if 0 < (t183.length : Int) then (if ((Bq ByteArray.empty t183 0).size : Int) = (ys1.size : Int) then (some ((⟨#[]⟩ : ByteArray), (⟨#[]⟩ : ByteArray), false)) else (if 0 ≤ (wrap64 (((Bq ByteArray.empty t183 0).size : Int) + 1)) then (if (wrap64 (((Bq ByteArray.empty t183 0).size : Int) + 1)) ≤ (ys1.size : Int) then ((Fj.f kj6 (Bq ByteArray.empty t183 0) (ys1.extract ((wrap64 (((Bq ByteArray.empty t183 0).size : Int) + 1)) : Int).toNat ys1.size)).bind fun t188 => (if t188 = true then ((Es.f kj6 a1 (Bq ByteArray.empty t183 0) (ys1.extract ((wrap64 (((Bq ByteArray.empty t183 0).size : Int) + 1)) : Int).toNat ys1.size)).bind fun t189 => (if a0.size + 1 ≤ 9223372036854775807 then (some (Bq ByteArray.empty t183 0, ys1.extract ((wrap64 (((Bq ByteArray.empty t183 0).size : Int) + 1)) : Int).toNat ys1.size, (t189.toList == (a0 ++ (⟨#[10]⟩ : ByteArray)).toList))) else (none))) else (some (Bq ByteArray.empty t183 0, ys1.extract ((wrap64 (((Bq ByteArray.empty t183 0).size : Int) + 1)) : Int).toNat ys1.size, false)))) else (none)) else (none))) else (none)) = some (r1, r2, r3) := H
                have A19 := Ac.mk A190
                clear A190
                by_cases c20 : 0 < (t183.length : Int)
                · rw [if_pos c20] at H
                  have c20b0 : decide (0 < (t183.length : Int)) = true := decide_eq_true c20
                  have c20b1 : decide (0 < t183.length) = true := decide_eq_true (by omega)
                  clear c20
                  by_cases c21 : ((Bq ByteArray.empty t183 0).size : Int) = (ys1.size : Int)
                  · rw [if_pos c21] at H
                    have c21b0 : (((Bq ByteArray.empty t183 0).size : Int) == (ys1.size : Int)) = true := beq_iff_eq.mpr c21
                    have c21b1 : (((Bq ByteArray.empty t183 0).size : Int) != (ys1.size : Int)) = false := bne_eq_false_iff_eq.mpr c21
                    have c21b2 : ((Bq ByteArray.empty t183 0).size == ys1.size) = true := by first | simpa using c21 | (simp at c21 ⊢; omega)
                    clear c21
                    simp only [Option.some.injEq, Prod.mk.injEq] at H
                    obtain ⟨rfl, rfl, rfl⟩ := H
                    go_wp2_with (first | ((with_reducible refine Aw (f := 43) rfl ?_); refine Be (some 37) rfl rfl Tryd.func43 (by kernel_rfl) rfl #[.string ys1, .int .u8 64] rfl (by (try simp only [List.map_toArray, List.map_cons, List.map_nil]); first | done | rfl | (simp only [List.length_drop, List.length_take]; rfl)) ?_; (with_reducible refine (Cb.calls kj6 ys1 64 t183 _ A19.out).mono ?_); rintro e w22 ⟨v184, rfl, ho0, hb⟩; refine ⟨_, rfl, ?_⟩; have n0_ := Ac.mk (Kd.Gj ho0 (Am (by repeat (first | (with_reducible first | exact HB.out | apply Ad | apply Aa | apply Ae | refine Ah ?_ GE177.out) | exact HB.out)))); have n1_ := Ac.mk (Az (g := gb177) (o := .cells #[.string (⟨#[]⟩ : ByteArray), .string (⟨#[]⟩ : ByteArray)] 81 (0, 0)) (by (with_reducible repeat (first | refine Aj ?_ _ | refine Ak ?_ | refine Ai ?_ _)); exact BK177.out) hb); have n2_ := Ac.mk (Ap (by repeat (first | (with_reducible first | exact HB.out | apply Ad | apply Aa | apply Ae | refine Ah ?_ GE177.out) | exact HB.out)) hb); clear BK177; clear HB; have HO185 := n0_; have BK177 := n1_; have HB := n2_; clear n0_ n1_ n2_; (try clear hb); (try clear hb2); (try clear hk); (try clear hi); (try clear ho0); obtain ⟨Ao23, co23, eo23⟩ := Kd.Gq HO185.out; subst eo23; have p186 : 0 ≤ (0 : Int) := (by omega); have q186 : 0 < (t183.length : Int) := of_decide_eq_true (by first | (with_reducible assumption) | assumption); obtain ⟨ad186, e186, hx186_0⟩ := Kd.I9 (Kd.Fq HO185.out).2.2 0 p186 q186; cases e186; have qi186 : (0 < t183.length) = True := eq_true (by omega); (try rw [show ((0 : Int)).toNat = 0 from rfl] at hx186_0); (try rw [Addr.add_zero'] at hx186_0); replace p186 := eq_true p186; replace q186 := eq_true q186; have hcz24_0 : w22.cell? ⟨gb177, 0, none⟩ = some (.string (⟨#[]⟩ : ByteArray)) := (Ag BK177.out 0).trans rfl; have hcz24_1 : w22.cell? ⟨gb177, 1, none⟩ = some (.string (⟨#[]⟩ : ByteArray)) := (Ag BK177.out 1).trans rfl; have hfz24_0 := Af BK177.out 0; have hfz24_1 := Af BK177.out 1))
                    refine bodyPost_ret (results_ct rfl _ _ gb177 81 #[.string (⟨#[]⟩ : ByteArray), .string (⟨#[]⟩ : ByteArray)] (0, 0) _ rfl (by (with_reducible repeat (first | refine Aj ?_ _ | refine Ak ?_ | refine Ai ?_ _)); refine Ed (cs := #[.string (⟨#[]⟩ : ByteArray), .string (⟨#[]⟩ : ByteArray)]) ?_ 1 _ rfl; (with_reducible repeat (first | refine Aj ?_ _ | refine Ak ?_ | refine Ai ?_ _)); refine Ed (cs := #[.string (⟨#[]⟩ : ByteArray), .string (⟨#[]⟩ : ByteArray)]) ?_ 0 _ rfl; (with_reducible repeat (first | refine Aj ?_ _ | refine Ak ?_ | refine Ai ?_ _)); exact BK177.out) Tryd.underlying81 rfl (by kernel_rfl)) rfl ?_
                    exact ⟨by first | rfl | (simp [Aq, Au] <;> rfl) | (simp [*, Aq, Au] <;> rfl), by repeat (first | (with_reducible first | exact HB.out | apply Ad | apply Aa | apply Ae | refine Ah ?_ GE177.out) | exact HB.out)⟩
                  · rw [if_neg c21] at H
                    have c21b0 : (((Bq ByteArray.empty t183 0).size : Int) == (ys1.size : Int)) = false := beq_eq_false_iff_ne.mpr c21
                    have c21b1 : (((Bq ByteArray.empty t183 0).size : Int) != (ys1.size : Int)) = true := bne_iff_ne.mpr c21
                    have c21b2 : ((Bq ByteArray.empty t183 0).size == ys1.size) = false := by first | simpa using c21 | (simp at c21 ⊢; omega)
                    obtain ⟨ji25, hji25⟩ : ∃ j_ : Int, (wrap64 (((Bq ByteArray.empty t183 0).size : Int) + 1)) = j_ := ⟨_, rfl⟩
                    replace H : (if 0 ≤ (ji25) then (if (ji25) ≤ (ys1.size : Int) then ((Fj.f kj6 (Bq ByteArray.empty t183 0) (ys1.extract ((ji25) : Int).toNat ys1.size)).bind fun t188 => (if t188 = true then ((Es.f kj6 a1 (Bq ByteArray.empty t183 0) (ys1.extract ((ji25) : Int).toNat ys1.size)).bind fun t189 => (if a0.size + 1 ≤ 9223372036854775807 then (some (Bq ByteArray.empty t183 0, ys1.extract ((ji25) : Int).toNat ys1.size, (t189.toList == (a0 ++ (⟨#[10]⟩ : ByteArray)).toList))) else (none))) else (some (Bq ByteArray.empty t183 0, ys1.extract ((ji25) : Int).toNat ys1.size, false)))) else (none)) else (none)) = some (r1, r2, r3) := by first | (rw [hji25] at H; exact H) | (simp only [hji25] at H ⊢; exact H)
                    (try rw [hji25] at A19)
                    have hji25w : (IntKind.i64.wrap (((Bq ByteArray.empty t183 0).size : Int) + 1)) = ji25 := (Dp _).trans hji25
                    by_cases c26 : 0 ≤ (ji25)
                    · rw [if_pos c26] at H
                      have c26b0 := eq_true c26
                      have c26b1 : decide (0 ≤ (ji25)) = true := decide_eq_true c26
                      clear c26
                      by_cases c27 : (ji25) ≤ (ys1.size : Int)
                      · rw [if_pos c27] at H
                        have c27b0 := eq_true c27
                        have c27b1 : decide ((ji25) ≤ (ys1.size : Int)) = true := decide_eq_true c27
                        replace H := Option.bind_eq_some_iff.mp H
                        obtain ⟨t188, A280, H⟩ := H
                        replace H : (if t188 = true then ((Es.f kj6 a1 (Bq ByteArray.empty t183 0) (ys1.extract ((ji25) : Int).toNat ys1.size)).bind fun t189 => (if a0.size + 1 ≤ 9223372036854775807 then (some (Bq ByteArray.empty t183 0, ys1.extract ((ji25) : Int).toNat ys1.size, (t189.toList == (a0 ++ (⟨#[10]⟩ : ByteArray)).toList))) else (none))) else (some (Bq ByteArray.empty t183 0, ys1.extract ((ji25) : Int).toNat ys1.size, false))) = some (r1, r2, r3) := H
                        have A28 := Ac.mk A280
                        clear A280
                        by_cases c29 : t188 = true
                        · subst c29
                          have H1 : ((Es.f kj6 a1 (Bq ByteArray.empty t183 0) (ys1.extract ((ji25) : Int).toNat ys1.size)).bind fun t189 => (if a0.size + 1 ≤ 9223372036854775807 then (some (Bq ByteArray.empty t183 0, ys1.extract ((ji25) : Int).toNat ys1.size, (t189.toList == (a0 ++ (⟨#[10]⟩ : ByteArray)).toList))) else (none))) = some (r1, r2, r3) := by rw [if_pos rfl] at H; exact H
                          clear H
                          have H := H1
                          clear H1
                          replace H := Option.bind_eq_some_iff.mp H
                          obtain ⟨t189, A300, H⟩ := H
                          replace H : (if a0.size + 1 ≤ 9223372036854775807 then (some (Bq ByteArray.empty t183 0, ys1.extract ((ji25) : Int).toNat ys1.size, (t189.toList == (a0 ++ (⟨#[10]⟩ : ByteArray)).toList))) else (none)) = some (r1, r2, r3) := H
                          have A30 := Ac.mk A300
                          clear A300
                          by_cases c31 : a0.size + 1 ≤ 9223372036854775807
                          · rw [if_pos c31] at H
                            have c31b0 := eq_true c31
                            have c31b1 : decide (a0.size + 1 ≤ 9223372036854775807) = true := decide_eq_true c31
                            try have c31b2 : (9223372036854775807 < a0.size + 1) = False := eq_false (Nat.not_lt.2 c31)
                            simp only [Option.some.injEq, Prod.mk.injEq] at H
                            obtain ⟨rfl, rfl, rfl⟩ := H
                            try go_wp2_with (first | ((with_reducible refine Aw (f := 43) rfl ?_); refine Be (some 37) rfl rfl Tryd.func43 (by kernel_rfl) rfl #[.string ys1, .int .u8 64] rfl (by (try simp only [List.map_toArray, List.map_cons, List.map_nil]); first | done | rfl | (simp only [List.length_drop, List.length_take]; rfl)) ?_; (with_reducible refine (Cb.calls kj6 ys1 64 t183 _ A19.out).mono ?_); rintro e w32 ⟨v184, rfl, ho0, hb⟩; refine ⟨_, rfl, ?_⟩; have n0_ := Ac.mk (Kd.Gj ho0 (Am (by repeat (first | (with_reducible first | exact HB.out | apply Ad | apply Aa | apply Ae | refine Ah ?_ GE177.out) | exact HB.out)))); have n1_ := Ac.mk (Az (g := gb177) (o := .cells #[.string (⟨#[]⟩ : ByteArray), .string (⟨#[]⟩ : ByteArray)] 81 (0, 0)) (by (with_reducible repeat (first | refine Aj ?_ _ | refine Ak ?_ | refine Ai ?_ _)); exact BK177.out) hb); have n2_ := Ac.mk (Ap (by repeat (first | (with_reducible first | exact HB.out | apply Ad | apply Aa | apply Ae | refine Ah ?_ GE177.out) | exact HB.out)) hb); clear BK177; clear HB; have HO185 := n0_; have BK177 := n1_; have HB := n2_; clear n0_ n1_ n2_; (try clear hb); (try clear hb2); (try clear hk); (try clear hi); (try clear ho0); obtain ⟨Ao33, co33, eo33⟩ := Kd.Gq HO185.out; subst eo33; have p186 : 0 ≤ (0 : Int) := (by omega); have q186 : 0 < (t183.length : Int) := of_decide_eq_true (by first | (with_reducible assumption) | assumption); obtain ⟨ad186, e186, hx186_0⟩ := Kd.I9 (Kd.Fq HO185.out).2.2 0 p186 q186; cases e186; have qi186 : (0 < t183.length) = True := eq_true (by omega); (try rw [show ((0 : Int)).toNat = 0 from rfl] at hx186_0); (try rw [Addr.add_zero'] at hx186_0); replace p186 := eq_true p186; replace q186 := eq_true q186) | ((with_reducible refine Bd (N := 10) rfl ?_); (try (refine Eb (by rfl) ?_; dsimp only)); refine Bc ?hg (N := 10) ?hd (cs := #[.string (⟨#[]⟩ : ByteArray), .string (⟨#[]⟩ : ByteArray)]) (t := 81) ?hr ?_; (case hd => rfl); (case hg => rfl); (case hr => first | (go_simp; done) | (go_simp; rfl)); intro gb187 hg w34 hbox hb; have n0_ := Ac.mk (Kd.Gp (by (with_reducible repeat (first | apply Kd.Dw | apply Kd.Dx | apply Kd.Ef)); exact HO185.out) hb); have n1_ := Ac.mk (Az (g := gb177) (o := .cells #[.string (⟨#[]⟩ : ByteArray), .string (⟨#[]⟩ : ByteArray)] 81 (0, 0)) (by (with_reducible repeat (first | refine Aj ?_ _ | refine Ak ?_ | refine Ai ?_ _)); exact BK177.out) hb); have n2_ := Ac.mk (Ap (by repeat (first | (with_reducible first | exact HB.out | apply Ad | apply Aa | apply Ae | refine Ah ?_ GE177.out) | exact HB.out)) hb); have n3_ := Ac.mk (hbox); have n4_ := Ac.mk ((by rw [hg]; exact (Am (by repeat (first | (with_reducible first | exact HB.out | apply Ad | apply Aa | apply Ae | refine Ah ?_ GE177.out) | exact HB.out))) : w.heap.size ≤ gb187)); have n5_ := Ac.mk ((by rw [hg]; exact (Am (by repeat (first | (with_reducible first | exact HB.out | apply Ad | apply Aa | apply Ae | refine Ah ?_ GE177.out) | exact HB.out))) : w.heap.size ≤ gb187)); have n6_ := Ac.mk ((by rw [hg]; exact Nat.ne_of_lt (Dv (g := gb177) (o := .cells #[.string (⟨#[]⟩ : ByteArray), .string (⟨#[]⟩ : ByteArray)] 81 (0, 0)) (by (with_reducible repeat (first | refine Aj ?_ _ | refine Ak ?_ | refine Ai ?_ _)); exact BK177.out)) : gb177 ≠ gb187)); have n7_ := Ac.mk ((by rw [hg]; exact Nat.ne_of_gt (Dv (g := gb177) (o := .cells #[.string (⟨#[]⟩ : ByteArray), .string (⟨#[]⟩ : ByteArray)] 81 (0, 0)) (by (with_reducible repeat (first | refine Aj ?_ _ | refine Ak ?_ | refine Ai ?_ _)); exact BK177.out)) : gb187 ≠ gb177)); clear HO185; clear BK177; clear HB; have HO185 := n0_; have BK177 := n1_; have HB := n2_; have BK187 := n3_; have GW187 := n4_; have GE187 := n5_; have NB177_187 := n6_; have NB187_177 := n7_; clear n0_ n1_ n2_ n3_ n4_ n5_ n6_ n7_; clear hb hbox hg; have hnb35 := NB187_177.out; have hnc35 := NB177_187.out; have hcz36_0 : w34.cell? ⟨gb187, 0, none⟩ = some (.string (⟨#[]⟩ : ByteArray)) := (Ag BK187.out 0).trans rfl; have hcz36_1 : w34.cell? ⟨gb187, 1, none⟩ = some (.string (⟨#[]⟩ : ByteArray)) := (Ag BK187.out 1).trans rfl; have hfz36_0 := Af BK187.out 0; have hfz36_1 := Af BK187.out 1))
                            have n0_ : Ac (Kd.R Kd.string 9 ((w34.setCell ⟨gb187, 0, none⟩ (.string (Bq ByteArray.empty t183 0))).setCell ⟨gb187, 1, none⟩ (.string (ys1.extract ((ji25) : Int).toNat ys1.size))) w.heap.size (fun _ => True) (.slice (some ad186) t183.length co33) t183) := ⟨by (with_reducible repeat (first | apply Kd.Dw | apply Kd.Dx | apply Kd.Ef)); exact Kd.Gt (Kd.R_far (p := ⟨gb187, 1, none⟩) (Kd.R_far (p := ⟨gb187, 0, none⟩) (Kd.R_types HO185.out BK187.out (by decide)) (fun _ hk => hk.2) (.string (Bq ByteArray.empty t183 0))) (fun _ hk => hk.2) (.string (ys1.extract ((ji25) : Int).toNat ys1.size))) (fun _ hk => trivial)⟩
                            have n1_ : Ac (((w34.setCell ⟨gb187, 0, none⟩ (.string (Bq ByteArray.empty t183 0))).setCell ⟨gb187, 1, none⟩ (.string (ys1.extract ((ji25) : Int).toNat ys1.size))).heap[gb177]? = some (.cells #[.string (⟨#[]⟩ : ByteArray), .string (⟨#[]⟩ : ByteArray)] 81 (0, 0))) := ⟨by (with_reducible repeat (first | refine Aj ?_ _ | refine Ak ?_ | refine Ai ?_ _)); refine Fa ?_ NB177_187.out _; (with_reducible repeat (first | refine Aj ?_ _ | refine Ak ?_ | refine Ai ?_ _)); refine Fa ?_ NB177_187.out _; (with_reducible repeat (first | refine Aj ?_ _ | refine Ak ?_ | refine Ai ?_ _)); exact BK177.out⟩
                            have n2_ : Ac (((w34.setCell ⟨gb187, 0, none⟩ (.string (Bq ByteArray.empty t183 0))).setCell ⟨gb187, 1, none⟩ (.string (ys1.extract ((ji25) : Int).toNat ys1.size))).heap[gb187]? = some (.cells #[.string (Bq ByteArray.empty t183 0), .string (ys1.extract ((ji25) : Int).toNat ys1.size)] 81 (0, 0))) := ⟨by (with_reducible repeat (first | refine Aj ?_ _ | refine Ak ?_ | refine Ai ?_ _)); refine Ed (cs := #[.string (Bq ByteArray.empty t183 0), .string (⟨#[]⟩ : ByteArray)]) ?_ 1 _ rfl; (with_reducible repeat (first | refine Aj ?_ _ | refine Ak ?_ | refine Ai ?_ _)); refine Ed (cs := #[.string (⟨#[]⟩ : ByteArray), .string (⟨#[]⟩ : ByteArray)]) ?_ 0 _ rfl; (with_reducible repeat (first | refine Aj ?_ _ | refine Ak ?_ | refine Ai ?_ _)); exact BK187.out⟩
                            have n3_ : Ac (Below w.heap.size w ((w34.setCell ⟨gb187, 0, none⟩ (.string (Bq ByteArray.empty t183 0))).setCell ⟨gb187, 1, none⟩ (.string (ys1.extract ((ji25) : Int).toNat ys1.size)))) := ⟨by repeat (first | (with_reducible first | exact HB.out | apply Ad | apply Aa | apply Ae | refine Ah ?_ GE177.out | refine Ah ?_ GE187.out) | exact HB.out)⟩
                            (try clear HO185)
                            (try clear BK177)
                            (try clear BK187)
                            (try clear HB)
                            generalize ((w34.setCell ⟨gb187, 0, none⟩ (.string (Bq ByteArray.empty t183 0))).setCell ⟨gb187, 1, none⟩ (.string (ys1.extract ((ji25) : Int).toNat ys1.size))) = w37 at n0_ n1_ n2_ n3_ ⊢
                            have HO185 := n0_
                            have BK177 := n1_
                            have BK187 := n2_
                            have HB := n3_
                            clear n0_ n1_ n2_ n3_
                            have n0_ := Ac.mk (Kd.Ef HO185.out)
                            have n1_ := Ac.mk (Ak BK177.out)
                            have n2_ := Ac.mk (Ak BK187.out)
                            have n3_ := Ac.mk (Ae HB.out)
                            clear HO185
                            clear BK177
                            clear BK187
                            clear HB
                            have HO185 := n0_
                            have BK177 := n1_
                            have BK187 := n2_
                            have HB := n3_
                            clear n0_ n1_ n2_ n3_
                            refine start_ (n := 13) (S := fun w' => w'.cell? ⟨gb187, 0, none⟩ = some (.string (Bq ByteArray.empty t183 0)) ∧ w'.cell? ⟨gb187, 1, none⟩ = some (.string (ys1.extract ((ji25) : Int).toNat ys1.size))) (ds := []) #[false, false, false, false, false, false, false, false, false, false, false, false, false] (by kernel_rfl) rfl rfl ⟨(Ag BK187.out 0).trans rfl, (Ag BK187.out 1).trans rfl⟩ (fun hHeld => ?_); refine Jd Bz.tab10 Bz.bits10 (fun HT_ HW_ => ?_)
                            generalize w37.drew = w38 at HO185 BK177 BK187 HB hHeld ⊢
                            refine Ib (i := 0) (N := some 53) (v := ?_) (a' := ?_) #[true, false, false, false, false, false, false, false, false, false, false, false, false] rfl rfl (Ht HT_.out HW_.out (by kernel_rfl)) (fun _ _ _ h => h) (Or.inl ⟨by rfl, ?_⟩) hHeld ?_ ?_
                            rotate_left
                            · rintro w' ⟨s0, s1⟩
                              go_simp
                              with_reducible rfl
                            rotate_left
                            · simp only [Act.put, List.setIfInBounds_toArray, List.set_cons_zero, List.set_cons_succ, Dp, Dt]
                              rfl
                            refine Ib (i := 1) (N := some 54) (v := ?_) (a' := ?_) #[true, true, false, false, false, false, false, false, false, false, false, false, false] rfl rfl (Ht HT_.out HW_.out (by kernel_rfl)) (fun _ _ _ h => h) (Or.inl ⟨by rfl, ?_⟩) hHeld ?_ ?_
                            rotate_left
                            · rintro w' ⟨s0, s1⟩
                              go_simp
                              with_reducible rfl
                            rotate_left
                            · simp only [Act.put, List.setIfInBounds_toArray, List.set_cons_zero, List.set_cons_succ, Dp, Dt]
                              rfl
                            refine one_ (i := 2) (N := some 55) #[true, true, true, false, false, false, false, false, false, false, false, false, false] rfl rfl (one_of HT_.out (by kernel_rfl)) (by decide) (fun K hK => ?_)
                            refine goes_ Tryd.func49 (by kernel_rfl) rfl #[.agg #[.string (Bq ByteArray.empty t183 0), .string (ys1.extract ((ji25) : Int).toNat ys1.size)]] (by rfl) rfl rfl (by (try simp only [List.map_toArray, List.map_cons, List.map_nil]); first | done | (simp only [hji25]; rfl) | rfl | (simp only [List.length_drop, List.length_take]; rfl)) ?_
                            with_reducible refine (Fj.calls kj6 (Bq ByteArray.empty t183 0) (ys1.extract ((ji25) : Int).toNat ys1.size) true _ A28.out).mono ?_
                            rintro e w39 ⟨rfl, hb⟩
                            refine ⟨_, rfl, ?_⟩
                            have n0_ := Ac.mk (Kd.Gp (by (with_reducible repeat (first | apply Kd.Dw | apply Kd.Dx | apply Kd.Ef)); exact HO185.out) hb)
                            have n1_ := Ac.mk (Az (g := gb177) (o := .cells #[.string (⟨#[]⟩ : ByteArray), .string (⟨#[]⟩ : ByteArray)] 81 (0, 0)) (by (with_reducible repeat (first | refine Aj ?_ _ | refine Ak ?_ | refine Ai ?_ _)); exact BK177.out) hb)
                            have n2_ := Ac.mk (Az (g := gb187) (o := .cells #[.string (Bq ByteArray.empty t183 0), .string (ys1.extract ((ji25) : Int).toNat ys1.size)] 81 (0, 0)) (by (with_reducible repeat (first | refine Aj ?_ _ | refine Ak ?_ | refine Ai ?_ _)); exact BK187.out) hb)
                            have n3_ := Ac.mk (Ap (by repeat (first | (with_reducible first | exact HB.out | apply Ad | apply Aa | apply Ae | refine Ah ?_ GE177.out | refine Ah ?_ GE187.out) | exact HB.out)) hb)
                            clear HO185
                            clear BK177
                            clear BK187
                            clear HB
                            have HO185 := n0_
                            have BK177 := n1_
                            have BK187 := n2_
                            have HB := n3_
                            clear n0_ n1_ n2_ n3_
                            (try clear hb)
                            (try clear hb2)
                            (try clear hk)
                            (try clear hi)
                            refine hK.out _ _ ⟨(Ag BK187.out 0).trans rfl, (Ag BK187.out 1).trans rfl⟩ (fun hHeld => ?_)
                            clear hK K
                            refine norm_ (a' := ?_) ?_ ?_
                            rotate_left
                            · show Act.put _ (some 55) _ = _
                              simp only [Act.put, List.setIfInBounds_toArray, List.set_cons_zero, List.set_cons_succ, Dp, Dt]
                              rfl
                            refine Eu (i := 3) (N := some 56) (v := ?_) (a' := ?_) #[true, true, true, true, false, false, false, false, false, false, false, false, false] rfl rfl (Eh HT_.out (by kernel_rfl)) (fun _ _ _ h => h) (Or.inl ⟨by rfl, ?_⟩) ?_ ?_
                            rotate_left
                            · intro w'
                              go_simp
                              with_reducible rfl
                            rotate_left
                            · simp only [Act.put, List.setIfInBounds_toArray, List.set_cons_zero, List.set_cons_succ, Dp, Dt]
                              rfl
                            refine Eu (i := 4) (N := some 57) (v := ?_) (a' := ?_) #[true, true, true, true, true, false, false, false, false, false, false, false, false] rfl rfl (Eh HT_.out (by kernel_rfl)) (fun _ _ _ h => h) (Or.inl ⟨by rfl, ?_⟩) ?_ ?_
                            rotate_left
                            · intro w'
                              go_simp
                              with_reducible rfl
                            rotate_left
                            · simp only [Act.put, List.setIfInBounds_toArray, List.set_cons_zero, List.set_cons_succ, Dp, Dt]
                              rfl
                            refine Eu (i := 7) (N := some 60) (v := ?_) (a' := ?_) #[true, true, true, true, true, false, false, true, false, false, false, false, false] rfl rfl (Eh HT_.out (by kernel_rfl)) (fun _ _ _ h => h) (Or.inl ⟨by rfl, ?_⟩) ?_ ?_
                            rotate_left
                            · intro w'
                              go_simp
                              with_reducible rfl
                            rotate_left
                            · simp only [Act.put, List.setIfInBounds_toArray, List.set_cons_zero, List.set_cons_succ, Dp, Dt]
                              rfl
                            refine Eu (i := 8) (N := some 61) (v := ?_) (a' := ?_) #[true, true, true, true, true, false, false, true, true, false, false, false, false] rfl rfl (Eh HT_.out (by kernel_rfl)) (fun _ _ _ h => h) (Or.inl ⟨by rfl, ?_⟩) ?_ ?_
                            rotate_left
                            · intro w'
                              go_simp
                              with_reducible rfl
                            rotate_left
                            · simp only [Act.put, List.setIfInBounds_toArray, List.set_cons_zero, List.set_cons_succ, Dp, Dt]
                              rfl
                            refine Ib (i := 5) (N := some 58) (v := ?_) (a' := ?_) #[true, true, true, true, true, true, false, true, true, false, false, false, false] rfl rfl (Ht HT_.out HW_.out (by kernel_rfl)) (fun _ _ _ h => h) (Or.inl ⟨by rfl, ?_⟩) hHeld ?_ ?_
                            rotate_left
                            · rintro w' ⟨s0, s1⟩
                              go_simp
                              with_reducible rfl
                            rotate_left
                            · simp only [Act.put, List.setIfInBounds_toArray, List.set_cons_zero, List.set_cons_succ, Dp, Dt]
                              rfl
                            refine one_ (i := 6) (N := some 59) #[true, true, true, true, true, true, true, true, true, false, false, false, false] rfl rfl (one_of HT_.out (by kernel_rfl)) (by decide) (fun K hK => ?_)
                            refine goes_ Tryd.func50 (by kernel_rfl) rfl #[.int .i64 a1, .agg #[.string (Bq ByteArray.empty t183 0), .string (ys1.extract ((ji25) : Int).toNat ys1.size)]] (by rfl) rfl rfl (by (try simp only [List.map_toArray, List.map_cons, List.map_nil]); first | done | (simp only [hji25]; rfl) | rfl | (simp only [List.length_drop, List.length_take]; rfl)) ?_
                            with_reducible refine (Es.calls kj6 a1 (Bq ByteArray.empty t183 0) (ys1.extract ((ji25) : Int).toNat ys1.size) t189 _ A30.out).mono ?_
                            rintro e w40 ⟨rfl, hb⟩
                            refine ⟨_, rfl, ?_⟩
                            have n0_ := Ac.mk (Kd.Gp (by (with_reducible repeat (first | apply Kd.Dw | apply Kd.Dx | apply Kd.Ef)); exact HO185.out) hb)
                            have n1_ := Ac.mk (Az (g := gb177) (o := .cells #[.string (⟨#[]⟩ : ByteArray), .string (⟨#[]⟩ : ByteArray)] 81 (0, 0)) (by (with_reducible repeat (first | refine Aj ?_ _ | refine Ak ?_ | refine Ai ?_ _)); exact BK177.out) hb)
                            have n2_ := Ac.mk (Az (g := gb187) (o := .cells #[.string (Bq ByteArray.empty t183 0), .string (ys1.extract ((ji25) : Int).toNat ys1.size)] 81 (0, 0)) (by (with_reducible repeat (first | refine Aj ?_ _ | refine Ak ?_ | refine Ai ?_ _)); exact BK187.out) hb)
                            have n3_ := Ac.mk (Ap (by repeat (first | (with_reducible first | exact HB.out | apply Ad | apply Aa | apply Ae | refine Ah ?_ GE177.out | refine Ah ?_ GE187.out) | exact HB.out)) hb)
                            clear HO185
                            clear BK177
                            clear BK187
                            clear HB
                            have HO185 := n0_
                            have BK177 := n1_
                            have BK187 := n2_
                            have HB := n3_
                            clear n0_ n1_ n2_ n3_
                            (try clear hb)
                            (try clear hb2)
                            (try clear hk)
                            (try clear hi)
                            refine hK.out _ _ ⟨(Ag BK187.out 0).trans rfl, (Ag BK187.out 1).trans rfl⟩ (fun hHeld => ?_)
                            clear hK K
                            refine norm_ (a' := ?_) ?_ ?_
                            rotate_left
                            · show Act.put _ (some 59) _ = _
                              simp only [Act.put, List.setIfInBounds_toArray, List.set_cons_zero, List.set_cons_succ, Dp, Dt]
                              rfl
                            refine Eu (i := 9) (N := some 62) (v := ?_) (a' := ?_) #[true, true, true, true, true, true, true, true, true, true, false, false, false] rfl rfl (Eh HT_.out (by kernel_rfl)) (fun _ _ _ h => h) (Or.inl ⟨by rfl, ?_⟩) ?_ ?_
                            rotate_left
                            · intro w'
                              go_simp
                              with_reducible rfl
                            rotate_left
                            · simp only [Act.put, List.setIfInBounds_toArray, List.set_cons_zero, List.set_cons_succ, Dp, Dt]
                              rfl
                            refine Eu (i := 10) (N := some 63) (v := ?_) (a' := ?_) #[true, true, true, true, true, true, true, true, true, true, true, false, false] rfl rfl (Eh HT_.out (by kernel_rfl)) (fun _ _ _ h => h) (Or.inl ⟨by rfl, ?_⟩) ?_ ?_
                            rotate_left
                            · intro w'
                              go_simp
                              with_reducible rfl
                            rotate_left
                            · simp only [Act.put, List.setIfInBounds_toArray, List.set_cons_zero, List.set_cons_succ, Dp, Dt]
                              rfl
                            refine one_ (i := 11) (N := none) #[true, true, true, true, true, true, true, true, true, true, true, true, false] rfl rfl (one_of HT_.out (by kernel_rfl)) (by decide) (fun K hK => ?_)
                            have hs41 : w40.cell? ⟨gb177, 0, none⟩ = some (.string (⟨#[]⟩ : ByteArray)) := (Ag BK177.out 0).trans rfl
                            have hfs41 := Af BK177.out 0
                            have hns41_1 := NB187_177.out
                            have hms41_1 := NB177_187.out
                            have hs42 : w40.cell? ⟨gb177, 1, none⟩ = some (.string (⟨#[]⟩ : ByteArray)) := (Ag BK177.out 1).trans rfl
                            have hfs42 := Af BK177.out 1
                            have hns42_1 := NB187_177.out
                            have hms42_1 := NB177_187.out
                            refine skip_ (w1 := ?_) (by rfl) rfl ?_ ?_
                            rotate_left
                            · go_simp
                              rfl
                            refine hK.out _ _ ⟨((cell_far (p := ⟨gb177, _, none⟩) NB187_177.out _).trans (((cell_far (p := ⟨gb177, _, none⟩) NB187_177.out _).trans (hHeld.1)))), ((cell_far (p := ⟨gb177, _, none⟩) NB187_177.out _).trans (((cell_far (p := ⟨gb177, _, none⟩) NB187_177.out _).trans (hHeld.2))))⟩ (fun hHeld => ?_)
                            clear hK K
                            refine Eu (i := 12) (N := some 5) (v := ?_) (a' := ?_) #[true, true, true, true, true, true, true, true, true, true, true, true, true] rfl rfl (Eh HT_.out (by kernel_rfl)) (fun _ _ _ h => h) (Or.inl ⟨by rfl, ?_⟩) ?_ ?_
                            rotate_left
                            · intro w'
                              go_simp
                              with_reducible rfl
                            rotate_left
                            · simp only [Act.put, List.setIfInBounds_toArray, List.set_cons_zero, List.set_cons_succ, Dp, Dt]
                              rfl
                            refine done_ (done_of HT_.out (by kernel_rfl)) ?_
                            try go_wp2
                            refine bodyPost_ret (results_ct rfl _ _ gb177 81 #[.string (Bq ByteArray.empty t183 0), .string (ys1.extract ((ji25) : Int).toNat ys1.size)] (0, 0) _ rfl (by (with_reducible repeat (first | refine Aj ?_ _ | refine Ak ?_ | refine Ai ?_ _)); refine Ed (cs := #[.string (Bq ByteArray.empty t183 0), .string (⟨#[]⟩ : ByteArray)]) ?_ 1 _ rfl; (with_reducible repeat (first | refine Aj ?_ _ | refine Ak ?_ | refine Ai ?_ _)); refine Ed (cs := #[.string (⟨#[]⟩ : ByteArray), .string (⟨#[]⟩ : ByteArray)]) ?_ 0 _ rfl; (with_reducible repeat (first | refine Aj ?_ _ | refine Ak ?_ | refine Ai ?_ _)); exact BK177.out) Tryd.underlying81 rfl (by kernel_rfl)) rfl ?_
                            exact ⟨by first | rfl | (simp [Aq, Au] <;> rfl) | (simp only [← hji25]; first | rfl | (simp [Aq, Au] <;> rfl)) | (simp [*, Aq, Au] <;> rfl), by repeat (first | (with_reducible first | exact HB.out | apply Ad | apply Aa | apply Ae | refine Ah ?_ GE177.out | refine Ah ?_ GE187.out) | exact HB.out)⟩
                          · rw [if_neg c31] at H
                            exact absurd H (by simp)
                        · replace c29 := Bool.eq_false_iff.mpr c29
                          subst c29
                          have H1 : (some (Bq ByteArray.empty t183 0, ys1.extract ((ji25) : Int).toNat ys1.size, false)) = some (r1, r2, r3) := by rw [if_neg (show ¬ (false = true) by decide)] at H; exact H
                          clear H
                          have H := H1
                          clear H1
                          simp only [Option.some.injEq, Prod.mk.injEq] at H
                          obtain ⟨rfl, rfl, rfl⟩ := H
                          try go_wp2_with (first | ((with_reducible refine Aw (f := 43) rfl ?_); refine Be (some 37) rfl rfl Tryd.func43 (by kernel_rfl) rfl #[.string ys1, .int .u8 64] rfl (by (try simp only [List.map_toArray, List.map_cons, List.map_nil]); first | done | rfl | (simp only [List.length_drop, List.length_take]; rfl)) ?_; (with_reducible refine (Cb.calls kj6 ys1 64 t183 _ A19.out).mono ?_); rintro e w43 ⟨v184, rfl, ho0, hb⟩; refine ⟨_, rfl, ?_⟩; have n0_ := Ac.mk (Kd.Gj ho0 (Am (by repeat (first | (with_reducible first | exact HB.out | apply Ad | apply Aa | apply Ae | refine Ah ?_ GE177.out) | exact HB.out)))); have n1_ := Ac.mk (Az (g := gb177) (o := .cells #[.string (⟨#[]⟩ : ByteArray), .string (⟨#[]⟩ : ByteArray)] 81 (0, 0)) (by (with_reducible repeat (first | refine Aj ?_ _ | refine Ak ?_ | refine Ai ?_ _)); exact BK177.out) hb); have n2_ := Ac.mk (Ap (by repeat (first | (with_reducible first | exact HB.out | apply Ad | apply Aa | apply Ae | refine Ah ?_ GE177.out) | exact HB.out)) hb); clear BK177; clear HB; have HO185 := n0_; have BK177 := n1_; have HB := n2_; clear n0_ n1_ n2_; (try clear hb); (try clear hb2); (try clear hk); (try clear hi); (try clear ho0); obtain ⟨Ao44, co44, eo44⟩ := Kd.Gq HO185.out; subst eo44; have p186 : 0 ≤ (0 : Int) := (by omega); have q186 : 0 < (t183.length : Int) := of_decide_eq_true (by first | (with_reducible assumption) | assumption); obtain ⟨ad186, e186, hx186_0⟩ := Kd.I9 (Kd.Fq HO185.out).2.2 0 p186 q186; cases e186; have qi186 : (0 < t183.length) = True := eq_true (by omega); (try rw [show ((0 : Int)).toNat = 0 from rfl] at hx186_0); (try rw [Addr.add_zero'] at hx186_0); replace p186 := eq_true p186; replace q186 := eq_true q186) | ((with_reducible refine Bd (N := 10) rfl ?_); (try (refine Eb (by rfl) ?_; dsimp only)); refine Bc ?hg (N := 10) ?hd (cs := #[.string (⟨#[]⟩ : ByteArray), .string (⟨#[]⟩ : ByteArray)]) (t := 81) ?hr ?_; (case hd => rfl); (case hg => rfl); (case hr => first | (go_simp; done) | (go_simp; rfl)); intro gb187 hg w45 hbox hb; have n0_ := Ac.mk (Kd.Gp (by (with_reducible repeat (first | apply Kd.Dw | apply Kd.Dx | apply Kd.Ef)); exact HO185.out) hb); have n1_ := Ac.mk (Az (g := gb177) (o := .cells #[.string (⟨#[]⟩ : ByteArray), .string (⟨#[]⟩ : ByteArray)] 81 (0, 0)) (by (with_reducible repeat (first | refine Aj ?_ _ | refine Ak ?_ | refine Ai ?_ _)); exact BK177.out) hb); have n2_ := Ac.mk (Ap (by repeat (first | (with_reducible first | exact HB.out | apply Ad | apply Aa | apply Ae | refine Ah ?_ GE177.out) | exact HB.out)) hb); have n3_ := Ac.mk (hbox); have n4_ := Ac.mk ((by rw [hg]; exact (Am (by repeat (first | (with_reducible first | exact HB.out | apply Ad | apply Aa | apply Ae | refine Ah ?_ GE177.out) | exact HB.out))) : w.heap.size ≤ gb187)); have n5_ := Ac.mk ((by rw [hg]; exact (Am (by repeat (first | (with_reducible first | exact HB.out | apply Ad | apply Aa | apply Ae | refine Ah ?_ GE177.out) | exact HB.out))) : w.heap.size ≤ gb187)); have n6_ := Ac.mk ((by rw [hg]; exact Nat.ne_of_lt (Dv (g := gb177) (o := .cells #[.string (⟨#[]⟩ : ByteArray), .string (⟨#[]⟩ : ByteArray)] 81 (0, 0)) (by (with_reducible repeat (first | refine Aj ?_ _ | refine Ak ?_ | refine Ai ?_ _)); exact BK177.out)) : gb177 ≠ gb187)); have n7_ := Ac.mk ((by rw [hg]; exact Nat.ne_of_gt (Dv (g := gb177) (o := .cells #[.string (⟨#[]⟩ : ByteArray), .string (⟨#[]⟩ : ByteArray)] 81 (0, 0)) (by (with_reducible repeat (first | refine Aj ?_ _ | refine Ak ?_ | refine Ai ?_ _)); exact BK177.out)) : gb187 ≠ gb177)); clear HO185; clear BK177; clear HB; have HO185 := n0_; have BK177 := n1_; have HB := n2_; have BK187 := n3_; have GW187 := n4_; have GE187 := n5_; have NB177_187 := n6_; have NB187_177 := n7_; clear n0_ n1_ n2_ n3_ n4_ n5_ n6_ n7_; clear hb hbox hg; have hnb46 := NB187_177.out; have hnc46 := NB177_187.out; have hcz47_0 : w45.cell? ⟨gb187, 0, none⟩ = some (.string (⟨#[]⟩ : ByteArray)) := (Ag BK187.out 0).trans rfl; have hcz47_1 : w45.cell? ⟨gb187, 1, none⟩ = some (.string (⟨#[]⟩ : ByteArray)) := (Ag BK187.out 1).trans rfl; have hfz47_0 := Af BK187.out 0; have hfz47_1 := Af BK187.out 1))
                          have n0_ : Ac (Kd.R Kd.string 9 ((w45.setCell ⟨gb187, 0, none⟩ (.string (Bq ByteArray.empty t183 0))).setCell ⟨gb187, 1, none⟩ (.string (ys1.extract ((ji25) : Int).toNat ys1.size))) w.heap.size (fun _ => True) (.slice (some ad186) t183.length co44) t183) := ⟨by (with_reducible repeat (first | apply Kd.Dw | apply Kd.Dx | apply Kd.Ef)); exact Kd.Gt (Kd.R_far (p := ⟨gb187, 1, none⟩) (Kd.R_far (p := ⟨gb187, 0, none⟩) (Kd.R_types HO185.out BK187.out (by decide)) (fun _ hk => hk.2) (.string (Bq ByteArray.empty t183 0))) (fun _ hk => hk.2) (.string (ys1.extract ((ji25) : Int).toNat ys1.size))) (fun _ hk => trivial)⟩
                          have n1_ : Ac (((w45.setCell ⟨gb187, 0, none⟩ (.string (Bq ByteArray.empty t183 0))).setCell ⟨gb187, 1, none⟩ (.string (ys1.extract ((ji25) : Int).toNat ys1.size))).heap[gb177]? = some (.cells #[.string (⟨#[]⟩ : ByteArray), .string (⟨#[]⟩ : ByteArray)] 81 (0, 0))) := ⟨by (with_reducible repeat (first | refine Aj ?_ _ | refine Ak ?_ | refine Ai ?_ _)); refine Fa ?_ NB177_187.out _; (with_reducible repeat (first | refine Aj ?_ _ | refine Ak ?_ | refine Ai ?_ _)); refine Fa ?_ NB177_187.out _; (with_reducible repeat (first | refine Aj ?_ _ | refine Ak ?_ | refine Ai ?_ _)); exact BK177.out⟩
                          have n2_ : Ac (((w45.setCell ⟨gb187, 0, none⟩ (.string (Bq ByteArray.empty t183 0))).setCell ⟨gb187, 1, none⟩ (.string (ys1.extract ((ji25) : Int).toNat ys1.size))).heap[gb187]? = some (.cells #[.string (Bq ByteArray.empty t183 0), .string (ys1.extract ((ji25) : Int).toNat ys1.size)] 81 (0, 0))) := ⟨by (with_reducible repeat (first | refine Aj ?_ _ | refine Ak ?_ | refine Ai ?_ _)); refine Ed (cs := #[.string (Bq ByteArray.empty t183 0), .string (⟨#[]⟩ : ByteArray)]) ?_ 1 _ rfl; (with_reducible repeat (first | refine Aj ?_ _ | refine Ak ?_ | refine Ai ?_ _)); refine Ed (cs := #[.string (⟨#[]⟩ : ByteArray), .string (⟨#[]⟩ : ByteArray)]) ?_ 0 _ rfl; (with_reducible repeat (first | refine Aj ?_ _ | refine Ak ?_ | refine Ai ?_ _)); exact BK187.out⟩
                          have n3_ : Ac (Below w.heap.size w ((w45.setCell ⟨gb187, 0, none⟩ (.string (Bq ByteArray.empty t183 0))).setCell ⟨gb187, 1, none⟩ (.string (ys1.extract ((ji25) : Int).toNat ys1.size)))) := ⟨by repeat (first | (with_reducible first | exact HB.out | apply Ad | apply Aa | apply Ae | refine Ah ?_ GE177.out | refine Ah ?_ GE187.out) | exact HB.out)⟩
                          (try clear HO185)
                          (try clear BK177)
                          (try clear BK187)
                          (try clear HB)
                          generalize ((w45.setCell ⟨gb187, 0, none⟩ (.string (Bq ByteArray.empty t183 0))).setCell ⟨gb187, 1, none⟩ (.string (ys1.extract ((ji25) : Int).toNat ys1.size))) = w48 at n0_ n1_ n2_ n3_ ⊢
                          have HO185 := n0_
                          have BK177 := n1_
                          have BK187 := n2_
                          have HB := n3_
                          clear n0_ n1_ n2_ n3_
                          have n0_ := Ac.mk (Kd.Ef HO185.out)
                          have n1_ := Ac.mk (Ak BK177.out)
                          have n2_ := Ac.mk (Ak BK187.out)
                          have n3_ := Ac.mk (Ae HB.out)
                          clear HO185
                          clear BK177
                          clear BK187
                          clear HB
                          have HO185 := n0_
                          have BK177 := n1_
                          have BK187 := n2_
                          have HB := n3_
                          clear n0_ n1_ n2_ n3_
                          refine start_ (n := 13) (S := fun w' => w'.cell? ⟨gb187, 0, none⟩ = some (.string (Bq ByteArray.empty t183 0)) ∧ w'.cell? ⟨gb187, 1, none⟩ = some (.string (ys1.extract ((ji25) : Int).toNat ys1.size))) (ds := []) #[false, false, false, false, false, false, false, false, false, false, false, false, false] (by kernel_rfl) rfl rfl ⟨(Ag BK187.out 0).trans rfl, (Ag BK187.out 1).trans rfl⟩ (fun hHeld => ?_); refine Jd Bz.tab10 Bz.bits10 (fun HT_ HW_ => ?_)
                          generalize w48.drew = w49 at HO185 BK177 BK187 HB hHeld ⊢
                          refine Ib (i := 0) (N := some 53) (v := ?_) (a' := ?_) #[true, false, false, false, false, false, false, false, false, false, false, false, false] rfl rfl (Ht HT_.out HW_.out (by kernel_rfl)) (fun _ _ _ h => h) (Or.inl ⟨by rfl, ?_⟩) hHeld ?_ ?_
                          rotate_left
                          · rintro w' ⟨s0, s1⟩
                            go_simp
                            with_reducible rfl
                          rotate_left
                          · simp only [Act.put, List.setIfInBounds_toArray, List.set_cons_zero, List.set_cons_succ, Dp, Dt]
                            rfl
                          refine Ib (i := 1) (N := some 54) (v := ?_) (a' := ?_) #[true, true, false, false, false, false, false, false, false, false, false, false, false] rfl rfl (Ht HT_.out HW_.out (by kernel_rfl)) (fun _ _ _ h => h) (Or.inl ⟨by rfl, ?_⟩) hHeld ?_ ?_
                          rotate_left
                          · rintro w' ⟨s0, s1⟩
                            go_simp
                            with_reducible rfl
                          rotate_left
                          · simp only [Act.put, List.setIfInBounds_toArray, List.set_cons_zero, List.set_cons_succ, Dp, Dt]
                            rfl
                          refine one_ (i := 2) (N := some 55) #[true, true, true, false, false, false, false, false, false, false, false, false, false] rfl rfl (one_of HT_.out (by kernel_rfl)) (by decide) (fun K hK => ?_)
                          refine goes_ Tryd.func49 (by kernel_rfl) rfl #[.agg #[.string (Bq ByteArray.empty t183 0), .string (ys1.extract ((ji25) : Int).toNat ys1.size)]] (by rfl) rfl rfl (by (try simp only [List.map_toArray, List.map_cons, List.map_nil]); first | done | (simp only [hji25]; rfl) | rfl | (simp only [List.length_drop, List.length_take]; rfl)) ?_
                          with_reducible refine (Fj.calls kj6 (Bq ByteArray.empty t183 0) (ys1.extract ((ji25) : Int).toNat ys1.size) false _ A28.out).mono ?_
                          rintro e w50 ⟨rfl, hb⟩
                          refine ⟨_, rfl, ?_⟩
                          have n0_ := Ac.mk (Kd.Gp (by (with_reducible repeat (first | apply Kd.Dw | apply Kd.Dx | apply Kd.Ef)); exact HO185.out) hb)
                          have n1_ := Ac.mk (Az (g := gb177) (o := .cells #[.string (⟨#[]⟩ : ByteArray), .string (⟨#[]⟩ : ByteArray)] 81 (0, 0)) (by (with_reducible repeat (first | refine Aj ?_ _ | refine Ak ?_ | refine Ai ?_ _)); exact BK177.out) hb)
                          have n2_ := Ac.mk (Az (g := gb187) (o := .cells #[.string (Bq ByteArray.empty t183 0), .string (ys1.extract ((ji25) : Int).toNat ys1.size)] 81 (0, 0)) (by (with_reducible repeat (first | refine Aj ?_ _ | refine Ak ?_ | refine Ai ?_ _)); exact BK187.out) hb)
                          have n3_ := Ac.mk (Ap (by repeat (first | (with_reducible first | exact HB.out | apply Ad | apply Aa | apply Ae | refine Ah ?_ GE177.out | refine Ah ?_ GE187.out) | exact HB.out)) hb)
                          clear HO185
                          clear BK177
                          clear BK187
                          clear HB
                          have HO185 := n0_
                          have BK177 := n1_
                          have BK187 := n2_
                          have HB := n3_
                          clear n0_ n1_ n2_ n3_
                          (try clear hb)
                          (try clear hb2)
                          (try clear hk)
                          (try clear hi)
                          refine hK.out _ _ ⟨(Ag BK187.out 0).trans rfl, (Ag BK187.out 1).trans rfl⟩ (fun hHeld => ?_)
                          clear hK K
                          refine norm_ (a' := ?_) ?_ ?_
                          rotate_left
                          · show Act.put _ (some 55) _ = _
                            simp only [Act.put, List.setIfInBounds_toArray, List.set_cons_zero, List.set_cons_succ, Dp, Dt]
                            rfl
                          refine Eu (i := 3) (N := some 56) (v := ?_) (a' := ?_) #[true, true, true, true, false, false, false, false, false, false, false, false, false] rfl rfl (Eh HT_.out (by kernel_rfl)) (fun _ _ _ h => h) (Or.inl ⟨by rfl, ?_⟩) ?_ ?_
                          rotate_left
                          · intro w'
                            go_simp
                            with_reducible rfl
                          rotate_left
                          · simp only [Act.put, List.setIfInBounds_toArray, List.set_cons_zero, List.set_cons_succ, Dp, Dt]
                            rfl
                          refine Eu (i := 4) (N := some 57) (v := undef) (a' := ?_) #[true, true, true, true, true, false, false, false, false, false, false, false, false] rfl rfl (Eh HT_.out (by kernel_rfl)) (fun _ _ _ h => h) (Or.inr ⟨by rfl, rfl⟩) ?_ ?_
                          rotate_left
                          · simp only [Act.put, List.setIfInBounds_toArray, List.set_cons_zero, List.set_cons_succ, Dp, Dt]
                            rfl
                          refine Eu (i := 5) (N := some 58) (v := undef) (a' := ?_) #[true, true, true, true, true, true, false, false, false, false, false, false, false] rfl rfl (Eh HT_.out (by kernel_rfl)) (fun _ _ _ h => h) (Or.inr ⟨by rfl, rfl⟩) ?_ ?_
                          rotate_left
                          · simp only [Act.put, List.setIfInBounds_toArray, List.set_cons_zero, List.set_cons_succ, Dp, Dt]
                            rfl
                          refine Eu (i := 6) (N := some 59) (v := undef) (a' := ?_) #[true, true, true, true, true, true, true, false, false, false, false, false, false] rfl rfl (Eh HT_.out (by kernel_rfl)) (fun _ _ _ h => h) (Or.inr ⟨by rfl, rfl⟩) ?_ ?_
                          rotate_left
                          · simp only [Act.put, List.setIfInBounds_toArray, List.set_cons_zero, List.set_cons_succ, Dp, Dt]
                            rfl
                          refine Eu (i := 7) (N := some 60) (v := undef) (a' := ?_) #[true, true, true, true, true, true, true, true, false, false, false, false, false] rfl rfl (Eh HT_.out (by kernel_rfl)) (fun _ _ _ h => h) (Or.inr ⟨by rfl, rfl⟩) ?_ ?_
                          rotate_left
                          · simp only [Act.put, List.setIfInBounds_toArray, List.set_cons_zero, List.set_cons_succ, Dp, Dt]
                            rfl
                          refine Eu (i := 8) (N := some 61) (v := undef) (a' := ?_) #[true, true, true, true, true, true, true, true, true, false, false, false, false] rfl rfl (Eh HT_.out (by kernel_rfl)) (fun _ _ _ h => h) (Or.inr ⟨by rfl, rfl⟩) ?_ ?_
                          rotate_left
                          · simp only [Act.put, List.setIfInBounds_toArray, List.set_cons_zero, List.set_cons_succ, Dp, Dt]
                            rfl
                          refine Eu (i := 9) (N := some 62) (v := undef) (a' := ?_) #[true, true, true, true, true, true, true, true, true, true, false, false, false] rfl rfl (Eh HT_.out (by kernel_rfl)) (fun _ _ _ h => h) (Or.inr ⟨by rfl, rfl⟩) ?_ ?_
                          rotate_left
                          · simp only [Act.put, List.setIfInBounds_toArray, List.set_cons_zero, List.set_cons_succ, Dp, Dt]
                            rfl
                          refine Eu (i := 10) (N := some 63) (v := ?_) (a' := ?_) #[true, true, true, true, true, true, true, true, true, true, true, false, false] rfl rfl (Eh HT_.out (by kernel_rfl)) (fun _ _ _ h => h) (Or.inl ⟨by rfl, ?_⟩) ?_ ?_
                          rotate_left
                          · intro w'
                            go_simp
                            with_reducible rfl
                          rotate_left
                          · simp only [Act.put, List.setIfInBounds_toArray, List.set_cons_zero, List.set_cons_succ, Dp, Dt]
                            rfl
                          refine one_ (i := 11) (N := none) #[true, true, true, true, true, true, true, true, true, true, true, true, false] rfl rfl (one_of HT_.out (by kernel_rfl)) (by decide) (fun K hK => ?_)
                          have hs51 : w50.cell? ⟨gb177, 0, none⟩ = some (.string (⟨#[]⟩ : ByteArray)) := (Ag BK177.out 0).trans rfl
                          have hfs51 := Af BK177.out 0
                          have hns51_1 := NB187_177.out
                          have hms51_1 := NB177_187.out
                          have hs52 : w50.cell? ⟨gb177, 1, none⟩ = some (.string (⟨#[]⟩ : ByteArray)) := (Ag BK177.out 1).trans rfl
                          have hfs52 := Af BK177.out 1
                          have hns52_1 := NB187_177.out
                          have hms52_1 := NB177_187.out
                          refine skip_ (w1 := ?_) (by rfl) rfl ?_ ?_
                          rotate_left
                          · go_simp
                            rfl
                          refine hK.out _ _ ⟨((cell_far (p := ⟨gb177, _, none⟩) NB187_177.out _).trans (((cell_far (p := ⟨gb177, _, none⟩) NB187_177.out _).trans (hHeld.1)))), ((cell_far (p := ⟨gb177, _, none⟩) NB187_177.out _).trans (((cell_far (p := ⟨gb177, _, none⟩) NB187_177.out _).trans (hHeld.2))))⟩ (fun hHeld => ?_)
                          clear hK K
                          refine Eu (i := 12) (N := some 5) (v := ?_) (a' := ?_) #[true, true, true, true, true, true, true, true, true, true, true, true, true] rfl rfl (Eh HT_.out (by kernel_rfl)) (fun _ _ _ h => h) (Or.inl ⟨by rfl, ?_⟩) ?_ ?_
                          rotate_left
                          · intro w'
                            go_simp
                            with_reducible rfl
                          rotate_left
                          · simp only [Act.put, List.setIfInBounds_toArray, List.set_cons_zero, List.set_cons_succ, Dp, Dt]
                            rfl
                          refine done_ (done_of HT_.out (by kernel_rfl)) ?_
                          try go_wp2
                          refine bodyPost_ret (results_ct rfl _ _ gb177 81 #[.string (Bq ByteArray.empty t183 0), .string (ys1.extract ((ji25) : Int).toNat ys1.size)] (0, 0) _ rfl (by (with_reducible repeat (first | refine Aj ?_ _ | refine Ak ?_ | refine Ai ?_ _)); refine Ed (cs := #[.string (Bq ByteArray.empty t183 0), .string (⟨#[]⟩ : ByteArray)]) ?_ 1 _ rfl; (with_reducible repeat (first | refine Aj ?_ _ | refine Ak ?_ | refine Ai ?_ _)); refine Ed (cs := #[.string (⟨#[]⟩ : ByteArray), .string (⟨#[]⟩ : ByteArray)]) ?_ 0 _ rfl; (with_reducible repeat (first | refine Aj ?_ _ | refine Ak ?_ | refine Ai ?_ _)); exact BK177.out) Tryd.underlying81 rfl (by kernel_rfl)) rfl ?_
                          exact ⟨by first | rfl | (simp [Aq, Au] <;> rfl) | (simp only [← hji25]; first | rfl | (simp [Aq, Au] <;> rfl)) | (simp [*, Aq, Au] <;> rfl), by repeat (first | (with_reducible first | exact HB.out | apply Ad | apply Aa | apply Ae | refine Ah ?_ GE177.out | refine Ah ?_ GE187.out) | exact HB.out)⟩
                      · rw [if_neg c27] at H
                        exact absurd H (by simp)
                    · rw [if_neg c26] at H
                      exact absurd H (by simp)
                · rw [if_neg c20] at H
                  exact absurd H (by simp)
              · rw [if_neg c18] at H
                exact absurd H (by simp)
            · rw [if_neg c17] at H
              exact absurd H (by simp)
    · rw [if_neg c6] at H
      exact absurd H (by simp)
  · rw [if_neg c4] at H
    exact absurd H (by simp)
end Go.Proofs.YtcnmngiaebgjkaaDoor.X

namespace Go.Proofs.YtcnmngiaebgjkaaDoor.X
open Go.RowKit Go.Proofs.YtcnmngiaebgjkaaDoorW.PrintWords Go.Proofs.YtcnmngiaebgjkaaDoorW.PrintLast Go.Proofs.YtcnmngiaebgjkaaDoorW.PrintMore
attribute [local go_sem] Dn Dk D5 Dz Cj Cm Dj Dl
open Go.Proofs.YtcnmngiaebgjkaaDoorG
mutual
def Bi.l0 : Nat → ByteArray → List (S81) → Int → Option ((List (S81)) × Int)
  | 0, _, _, _ => none
  | k + 1, x0, x4, x5 => if x5 < (x0.size : Int) then (Bi.j1 k x0 x4 x5 (decide ((x4.length : Int) < 60))) else (Bi.j1 k x0 x4 x5 false)
def Bi.j1 : Nat → ByteArray → List (S81) → Int → Bool → Option ((List (S81)) × Int)
  | 0, _, _, _, _ => none
  | k + 1, x0, x4, x5, x18 => if x18 = true then (if 0 ≤ x5 then (if x5 ≤ (x0.size : Int) then ((Cb.f k (x0.extract (x5 : Int).toNat x0.size) 10).bind fun t193 => (if 0 < (t193.length : Int) then ((Bz.f k (Bq ByteArray.empty t193 0) (x4.length : Int)).bind fun bt197 => (if (t193.length : Int) < 2 then (some (x4, x5)) else (if bt197.2.2 = true then (if x4.length < 4398046511104 then (Bi.l0 k x0 (x4 ++ [(⟨bt197.1, bt197.2.1⟩ : S81)]) (wrap64 ((wrap64 (x5 + ((Bq ByteArray.empty t193 0).size : Int))) + 1))) else (none)) else (some (x4, x5))))) else (none))) else (none)) else (none)) else (some (x4, x5))
end
def Bi.f (k : Nat) (a0 : ByteArray) : Option ((List (S81)) × Int) := Bi.l0 k a0 (([] : List (S81))) 0
theorem Bi.Ei : ∀ k, (∀ y0 y1 y2, LeO (Bi.l0 k y0 y1 y2) (Bi.l0 (k + 1) y0 y1 y2)) ∧ (∀ y0 y1 y2 y3, LeO (Bi.j1 k y0 y1 y2 y3) (Bi.j1 (k + 1) y0 y1 y2 y3))
  | 0 => ⟨fun _ _ _ r h => by simp [Bi.l0] at h, fun _ _ _ _ r h => by simp [Bi.j1] at h⟩
  | k + 1 => by
    obtain ⟨ih0, ih1⟩ := Bi.Ei k
    refine ⟨?_, ?_⟩
    · intro y0 y1 y2
      unfold Bi.l0
      repeat' first
      | (with_reducible exact ih0 _ _ _)
      | (with_reducible exact ih1 _ _ _ _)
      | (with_reducible exact Cb.mono _ _ _)
      | (with_reducible exact Bz.mono _ _ _)
      | (with_reducible exact LeO.refl _)
      | (with_reducible exact LeO.none _)
      | (with_reducible refine LeO.ite ?_ ?_)
      | (with_reducible refine LeO.bind ?_ (fun _ => ?_))
      | exact ih0 _ _ _
      | exact ih1 _ _ _ _
      | exact Cb.mono _ _ _
      | exact Bz.mono _ _ _
      | exact LeO.none _
      | refine LeO.ite ?_ ?_
      | refine LeO.bind ?_ (fun _ => ?_)
    · intro y0 y1 y2 y3
      unfold Bi.j1
      repeat' first
      | (with_reducible exact ih0 _ _ _)
      | (with_reducible exact ih1 _ _ _ _)
      | (with_reducible exact Cb.mono _ _ _)
      | (with_reducible exact Bz.mono _ _ _)
      | (with_reducible exact LeO.refl _)
      | (with_reducible exact LeO.none _)
      | (with_reducible refine LeO.ite ?_ ?_)
      | (with_reducible refine LeO.bind ?_ (fun _ => ?_))
      | exact ih0 _ _ _
      | exact ih1 _ _ _ _
      | exact Cb.mono _ _ _
      | exact Bz.mono _ _ _
      | exact LeO.none _
      | refine LeO.ite ?_ ?_
      | refine LeO.bind ?_ (fun _ => ?_)
theorem Bi.mono : ∀ a0 k, LeO (Bi.f k a0) (Bi.f (k + 1) a0) := by
  intro a0 k
  obtain ⟨ih0, ih1⟩ := Bi.Ei k
  unfold Bi.f
  repeat' first
      | (with_reducible exact ih0 _ _ _)
      | (with_reducible exact ih1 _ _ _ _)
      | (with_reducible exact Cb.mono _ _ _)
      | (with_reducible exact Bz.mono _ _ _)
      | (with_reducible exact LeO.refl _)
      | (with_reducible exact LeO.none _)
      | (with_reducible refine LeO.ite ?_ ?_)
      | (with_reducible refine LeO.bind ?_ (fun _ => ?_))
      | exact ih0 _ _ _
      | exact ih1 _ _ _ _
      | exact Cb.mono _ _ _
      | exact Bz.mono _ _ _
      | exact LeO.none _
      | refine LeO.ite ?_ ?_
      | refine LeO.bind ?_ (fun _ => ?_)
set_option maxHeartbeats 8000000 in
set_option maxRecDepth 100000 in
theorem Bi.calls (k : Nat) (a0 : ByteArray) (r1 : List (S81)) (r2 : Int) (w : World) (h : Bi.f k a0 = some (r1, r2)) :
    Calls Tryd.prog 34 #[.string a0] w fun e w' => ∃ v0_ : Value, e = .returned (.tuple #[v0_, .int .i64 r2]) ∧ Kd.R k81 81 w' w.heap.size (fun _ => True) v0_ r1 ∧ Below w.heap.size w w' := by
  have hu81 := Tryd.underlying81
  have HB := Ac.mk (Below.refl w.heap.size w)
  have H : (Bi.l0 k a0 (([] : List (S81))) 0) = some (r1, r2) := h
  clear h
  obtain ⟨y190, hy190⟩ : ∃ y_ : List (S81), y_ = (([] : List (S81))) := ⟨_, rfl⟩
  replace H : (Bi.l0 k a0 y190 0) = some (r1, r2) := by first | (rw [hy190]; with_reducible exact H) | (have H2_ := (Option.bind_some _ _).symm.trans H; rw [hy190]; with_reducible exact H2_) | (have H2_ := (Option.bind_some _ _).symm.trans H; with_reducible exact H2_) | with_reducible exact H | (rw [hy190]; exact H) | exact H
  have Ny190 := Ac.mk hy190
  clear hy190
  have H' := Ac.mk H
  clear H
  go_enter Tryd.func34, Tryd.ntmps34
  go_wp2_with (first | ((with_reducible refine Bd (N := 9) rfl ?_); (try (refine Eb (by rfl) ?_; dsimp only)); refine Kd.R_lit k81 _ 81 ?hg (N := 9) ?hd (xs := ([] : List (S81))) (inner := []) (ok := fun _ => True) (okp := fun _ => True) ?hr ?hp (fun _ hk => hk) trivial (Below.refl _ _) (Nat.le_refl _) (by simp) ?_; (case hd => rfl); (case hg => rfl); (case hr => first | (go_simp; done) | (go_simp; rfl)); (case hp => exact (Fh.none _ _)); intro v191 w2 ho3 hb hg_ hnew_; clear hg_ hnew_; (first | rw [← Ny190.out] at ho3 | (simp only [Int.reduceToNat] at ho3; rw [← Ny190.out] at ho3)); have n0_ := Ac.mk (Kd.Gj ho3 (Am (by repeat (first | (with_reducible first | exact HB.out | apply Ad | apply Aa | apply Ae) | exact HB.out)))); have n1_ := Ac.mk (Ap (by repeat (first | (with_reducible first | exact HB.out | apply Ad | apply Aa | apply Ae) | exact HB.out)) hb); clear HB; have HO192 := n0_; have HB := n1_; clear n0_ n1_; clear hb ho3))
  go_loopg [4, 5] k (fun kq v4 v5 w' => ∃ (x4_1 : List (S81)) (x5_1 : Int), v5 = .int .i64 x5_1 ∧ Ac (Bi.l0 kq a0 x4_1 x5_1 = some (r1, r2)) ∧ Ac (kq ≤ k) ∧ Ac (Kd.R k81 81 w' w.heap.size (fun _ => True) v4 x4_1) ∧ Ac (Below w.heap.size w w'))
  case atStart => exact ⟨(y190), (0), (by first | rfl | (simp; done) | (simp [*]; done)), H', ⟨Nat.le_refl _⟩, ⟨by (with_reducible repeat (first | apply Kd.Dw | apply Kd.Dx | apply Kd.Ef)); exact HO192.out⟩, ⟨by repeat (first | (with_reducible first | exact HB.out | apply Ad | apply Aa | apply Ae) | exact HB.out)⟩⟩
  case round =>
    clear H'
    try clear p2
    try clear c3
    obtain ⟨x4_1, x5_1, rfl, HA, HK1, HO_4, HB⟩ := hrel
    cases gk with
    | zero => exact absurd HA.out (by simp [Bi.l0])
    | succ k1 =>
      have H := HA.out
      clear HA
      simp only [Bi.l0] at H
      have HC4 := Ac.mk H
      clear H
      go_upto_region 3 with (fail)
      go_cut [18] (fun v18 wc => ∃ (kq : Nat) (x18_3 : Bool), v18 = .bool x18_3 ∧ Ac (Bi.j1 kq a0 x4_1 x5_1 x18_3 = some (r1, r2)) ∧ Ac (kq ≤ k1) ∧ Ac (Kd.R k81 81 wc w.heap.size (fun _ => True) u4 x4_1) ∧ Ac (Below w.heap.size w wc))
      case first =>
        have H := HC4.out
        clear HC4
        by_cases c5 : x5_1 < (a0.size : Int)
        · rw [if_pos c5] at H
          have c5b0 : decide (x5_1 < (a0.size : Int)) = true := decide_eq_true c5
          clear c5
          (first | rw [c5b0] | (simp only [Dp, Dt]; rw [c5b0]) | skip)
          have H' := Ac.mk H
          clear H
          obtain ⟨Ao6, co6, eo6⟩ := Kd.Gq HO_4.out
          subst eo6
          go_wp2
          go_meet
          case rel => exact ⟨_, (decide ((x4_1.length : Int) < 60)), (by first | rfl | (simp; done) | (simp [*]; done)), H', ⟨by have := HK1.out; first | omega | exact Nat.le_refl _⟩, ⟨by (with_reducible repeat (first | apply Kd.Dw | apply Kd.Dx | apply Kd.Ef)); exact HO_4.out⟩, ⟨by repeat (first | (with_reducible first | exact HB.out | apply Ad | apply Aa | apply Ae) | exact HB.out)⟩⟩
        · rw [if_neg c5] at H
          have c5b0 : decide (x5_1 < (a0.size : Int)) = false := decide_eq_false c5
          clear c5
          (first | rw [c5b0] | (simp only [Dp, Dt]; rw [c5b0]) | skip)
          have H' := Ac.mk H
          clear H
          go_wp2
          go_meet
          case rel => exact ⟨_, (false), (by first | rfl | (simp; done) | (simp [*]; done)), H', ⟨by have := HK1.out; first | omega | exact Nat.le_refl _⟩, ⟨by (with_reducible repeat (first | apply Kd.Dw | apply Kd.Dx | apply Kd.Ef)); exact HO_4.out⟩, ⟨by repeat (first | (with_reducible first | exact HB.out | apply Ad | apply Aa | apply Ae) | exact HB.out)⟩⟩
      case rest =>
        clear HC4
        try clear p2
        try clear c3
        try clear c5
        try clear c5b0
        try clear p2
        obtain ⟨kq, x18_3, rfl, HA, HJ3, HO_4, HB⟩ := hcut
        cases kq with
        | zero => exact absurd HA.out (by simp [Bi.j1])
        | succ kj3 =>
          have H := HA.out
          clear HA
          simp only [Bi.j1] at H
          by_cases c7 : x18_3 = true
          · subst c7
            have H1 : (if 0 ≤ x5_1 then (if x5_1 ≤ (a0.size : Int) then ((Cb.f kj3 (a0.extract (x5_1 : Int).toNat a0.size) 10).bind fun t193 => (if 0 < (t193.length : Int) then ((Bz.f kj3 (Bq ByteArray.empty t193 0) (x4_1.length : Int)).bind fun bt197 => (if (t193.length : Int) < 2 then (some (x4_1, x5_1)) else (if bt197.2.2 = true then (if x4_1.length < 4398046511104 then (Bi.l0 kj3 a0 (x4_1 ++ [(⟨bt197.1, bt197.2.1⟩ : S81)]) (wrap64 ((wrap64 (x5_1 + ((Bq ByteArray.empty t193 0).size : Int))) + 1))) else (none)) else (some (x4_1, x5_1))))) else (none))) else (none)) else (none)) = some (r1, r2) := by rw [if_pos rfl] at H; exact H
            clear H
            have H := H1
            clear H1
            by_cases c8 : 0 ≤ x5_1
            · rw [if_pos c8] at H
              have c8b0 := eq_true c8
              have c8b1 : decide (0 ≤ x5_1) = true := decide_eq_true c8
              clear c8
              by_cases c9 : x5_1 ≤ (a0.size : Int)
              · rw [if_pos c9] at H
                have c9b0 := eq_true c9
                have c9b1 : decide (x5_1 ≤ (a0.size : Int)) = true := decide_eq_true c9
                clear c9
                replace H := Option.bind_eq_some_iff.mp H
                obtain ⟨t193, A100, H⟩ := H
                replace H : (if 0 < (t193.length : Int) then ((Bz.f kj3 (Bq ByteArray.empty t193 0) (x4_1.length : Int)).bind fun bt197 => (if (t193.length : Int) < 2 then (some (x4_1, x5_1)) else (if bt197.2.2 = true then (if x4_1.length < 4398046511104 then (Bi.l0 kj3 a0 (x4_1 ++ [(⟨bt197.1, bt197.2.1⟩ : S81)]) (wrap64 ((wrap64 (x5_1 + ((Bq ByteArray.empty t193 0).size : Int))) + 1))) else (none)) else (some (x4_1, x5_1))))) else (none)) = some (r1, r2) := H
                have A10 := Ac.mk A100
                clear A100
                by_cases c11 : 0 < (t193.length : Int)
                · rw [if_pos c11] at H
                  have c11b0 : decide (0 < (t193.length : Int)) = true := decide_eq_true c11
                  have c11b1 : decide (0 < t193.length) = true := decide_eq_true (by omega)
                  clear c11
                  replace H := Option.bind_eq_some_iff.mp H
                  obtain ⟨⟨t197, t198, t199⟩, A120, H⟩ := H
                  replace H : (if (t193.length : Int) < 2 then (some (x4_1, x5_1)) else (if t199 = true then (if x4_1.length < 4398046511104 then (Bi.l0 kj3 a0 (x4_1 ++ [(⟨t197, t198⟩ : S81)]) (wrap64 ((wrap64 (x5_1 + ((Bq ByteArray.empty t193 0).size : Int))) + 1))) else (none)) else (some (x4_1, x5_1)))) = some (r1, r2) := H
                  have A12 := Ac.mk A120
                  clear A120
                  by_cases c13 : (t193.length : Int) < 2
                  · rw [if_pos c13] at H
                    have c13b0 : decide ((t193.length : Int) < 2) = true := decide_eq_true c13
                    have c13b1 : decide (t193.length < 2) = true := decide_eq_true (by omega)
                    clear c13
                    simp only [Option.some.injEq, Prod.mk.injEq] at H
                    obtain ⟨rfl, rfl⟩ := H
                    go_wp2_with (first | ((with_reducible refine Aw (f := 43) rfl ?_); refine Be (some 22) rfl rfl Tryd.func43 (by kernel_rfl) rfl #[.string (a0.extract (x5_1 : Int).toNat a0.size), .int .u8 10] rfl (by (try simp only [List.map_toArray, List.map_cons, List.map_nil]); first | done | rfl | (simp only [List.length_drop, List.length_take]; rfl)) ?_; (with_reducible refine (Cb.calls kj3 (a0.extract (x5_1 : Int).toNat a0.size) 10 t193 _ A10.out).mono ?_); rintro e w14 ⟨v194, rfl, ho0, hb⟩; refine ⟨_, rfl, ?_⟩; have n0_ := Ac.mk (Kd.Gp (by (with_reducible repeat (first | apply Kd.Dw | apply Kd.Dx | apply Kd.Ef)); exact HO_4.out) hb); have n1_ := Ac.mk (Kd.Gj ho0 (Am (by repeat (first | (with_reducible first | exact HB.out | apply Ad | apply Aa | apply Ae) | exact HB.out)))); have n2_ := Ac.mk (Ap (by repeat (first | (with_reducible first | exact HB.out | apply Ad | apply Aa | apply Ae) | exact HB.out)) hb); clear HO_4; clear HB; have HO_4 := n0_; have HO195 := n1_; have HB := n2_; clear n0_ n1_ n2_; (try clear hb); (try clear hb2); (try clear hk); (try clear hi); (try clear ho0); obtain ⟨Ao15, co15, eo15⟩ := Kd.Gq HO195.out; subst eo15; have p196 : 0 ≤ (0 : Int) := (by omega); have q196 : 0 < (t193.length : Int) := of_decide_eq_true (by first | (with_reducible assumption) | assumption); obtain ⟨ad196, e196, hx196_0⟩ := Kd.I9 (Kd.Fq HO195.out).2.2 0 p196 q196; cases e196; have qi196 : (0 < t193.length) = True := eq_true (by omega); (try rw [show ((0 : Int)).toNat = 0 from rfl] at hx196_0); (try rw [Addr.add_zero'] at hx196_0); replace p196 := eq_true p196; replace q196 := eq_true q196; obtain ⟨Ao16, co16, eo16⟩ := Kd.Gq HO_4.out; subst eo16) | ((with_reducible refine Aw (f := 44) rfl ?_); refine Be (some 29) rfl rfl Tryd.func44 (by kernel_rfl) rfl #[.string (Bq ByteArray.empty t193 0), .int .i64 (x4_1.length : Int)] rfl (by (try simp only [List.map_toArray, List.map_cons, List.map_nil]); first | done | rfl | (simp only [List.length_drop, List.length_take]; rfl)) ?_; (with_reducible refine (Bz.calls kj3 (Bq ByteArray.empty t193 0) (x4_1.length : Int) t197 t198 t199 _ A12.out).mono ?_); rintro e w17 ⟨rfl, hb⟩; refine ⟨_, rfl, ?_⟩; have n0_ := Ac.mk (Kd.Gp (by (with_reducible repeat (first | apply Kd.Dw | apply Kd.Dx | apply Kd.Ef)); exact HO_4.out) hb); have n1_ := Ac.mk (Kd.Gp (by (with_reducible repeat (first | apply Kd.Dw | apply Kd.Dx | apply Kd.Ef)); exact HO195.out) hb); have n2_ := Ac.mk (Ap (by repeat (first | (with_reducible first | exact HB.out | apply Ad | apply Aa | apply Ae) | exact HB.out)) hb); clear HO_4; clear HO195; clear HB; have HO_4 := n0_; have HO195 := n1_; have HB := n2_; clear n0_ n1_ n2_; (try clear hb); (try clear hb2); (try clear hk); (try clear hi)) | ((with_reducible refine Bd (N := 7) rfl ?_); (try (refine Eb (by rfl) ?_; dsimp only)); refine Bc ?hg (N := 7) ?hd (cs := #[.string (⟨#[]⟩ : ByteArray), .string (⟨#[]⟩ : ByteArray)]) (t := 81) ?hr ?_; (case hd => rfl); (case hg => rfl); (case hr => first | (go_simp; done) | (go_simp; rfl)); intro gb200 hg w18 hbox hb; have n0_ := Ac.mk (Kd.Gp (Kd.R_elderB (by (with_reducible repeat (first | apply Kd.Dw | apply Kd.Dx | apply Kd.Ef)); exact HO_4.out) gb200 (Nat.le_of_eq hg.symm)) hb); have n1_ := Ac.mk (Kd.Gp (by (with_reducible repeat (first | apply Kd.Dw | apply Kd.Dx | apply Kd.Ef)); exact HO195.out) hb); have n2_ := Ac.mk (Ap (by repeat (first | (with_reducible first | exact HB.out | apply Ad | apply Aa | apply Ae) | exact HB.out)) hb); have n3_ := Ac.mk (hbox); have n4_ := Ac.mk ((by rw [hg]; exact (Am (by repeat (first | (with_reducible first | exact HB.out | apply Ad | apply Aa | apply Ae) | exact HB.out))) : w.heap.size ≤ gb200)); have n5_ := Ac.mk ((by rw [hg]; exact (Am (by repeat (first | (with_reducible first | exact HB.out | apply Ad | apply Aa | apply Ae) | exact HB.out))) : w.heap.size ≤ gb200)); clear HO_4; clear HO195; clear HB; have HO_4 := n0_; have HO195 := n1_; have HB := n2_; have BK200 := n3_; have GW200 := n4_; have GE200 := n5_; clear n0_ n1_ n2_ n3_ n4_ n5_; clear hb hbox hg; have hcz19_0 : w18.cell? ⟨gb200, 0, none⟩ = some (.string (⟨#[]⟩ : ByteArray)) := (Ag BK200.out 0).trans rfl; have hcz19_1 : w18.cell? ⟨gb200, 1, none⟩ = some (.string (⟨#[]⟩ : ByteArray)) := (Ag BK200.out 1).trans rfl; have hfz19_0 := Af BK200.out 0; have hfz19_1 := Af BK200.out 1))
                    go_ret2
                    exact ⟨_, by first | rfl | (simp [Aq, Au] <;> rfl) | (simp [*, Aq, Au] <;> rfl), by (with_reducible repeat (first | apply Kd.Dw | apply Kd.Dx | apply Kd.Ef)); exact Kd.Gt (Kd.R_far (p := ⟨gb200, 1, none⟩) (Kd.R_far (p := ⟨gb200, 0, none⟩) (Kd.Gt HO_4.out (fun k_ hk => (⟨hk, hk.2⟩ : _ ∧ k_ ≠ gb200))) (fun _ hk => hk.2) (.string t197)) (fun _ hk => hk.2) (.string t198)) (fun _ hk => trivial), by repeat (first | (with_reducible first | exact HB.out | apply Ad | apply Aa | apply Ae | refine Ah ?_ GE200.out) | exact HB.out)⟩
                  · rw [if_neg c13] at H
                    have c13b0 : decide ((t193.length : Int) < 2) = false := decide_eq_false c13
                    have c13b1 : decide (t193.length < 2) = false := decide_eq_false (by omega)
                    clear c13
                    by_cases c20 : t199 = true
                    · subst c20
                      have H1 : (if x4_1.length < 4398046511104 then (Bi.l0 kj3 a0 (x4_1 ++ [(⟨t197, t198⟩ : S81)]) (wrap64 ((wrap64 (x5_1 + ((Bq ByteArray.empty t193 0).size : Int))) + 1))) else (none)) = some (r1, r2) := by rw [if_pos rfl] at H; exact H
                      clear H
                      have H := H1
                      clear H1
                      by_cases c21 : x4_1.length < 4398046511104
                      · rw [if_pos c21] at H
                        have LMc21 := Ac.mk c21
                        clear c21
                        obtain ⟨y201, hy201⟩ : ∃ y_ : List (S81), y_ = (x4_1 ++ [(⟨t197, t198⟩ : S81)]) := ⟨_, rfl⟩
                        replace H : (Bi.l0 kj3 a0 y201 (wrap64 ((wrap64 (x5_1 + ((Bq ByteArray.empty t193 0).size : Int))) + 1))) = some (r1, r2) := by first | (rw [hy201]; with_reducible exact H) | (have H2_ := (Option.bind_some _ _).symm.trans H; rw [hy201]; with_reducible exact H2_) | (have H2_ := (Option.bind_some _ _).symm.trans H; with_reducible exact H2_) | with_reducible exact H | (rw [hy201]; exact H) | exact H
                        have Ny201 := Ac.mk hy201
                        clear hy201
                        have H' := Ac.mk H
                        clear H
                        go_wp2_with (first | ((with_reducible refine Aw (f := 43) rfl ?_); refine Be (some 22) rfl rfl Tryd.func43 (by kernel_rfl) rfl #[.string (a0.extract (x5_1 : Int).toNat a0.size), .int .u8 10] rfl (by (try simp only [List.map_toArray, List.map_cons, List.map_nil]); first | done | rfl | (simp only [List.length_drop, List.length_take]; rfl)) ?_; (with_reducible refine (Cb.calls kj3 (a0.extract (x5_1 : Int).toNat a0.size) 10 t193 _ A10.out).mono ?_); rintro e w22 ⟨v194, rfl, ho0, hb⟩; refine ⟨_, rfl, ?_⟩; have n0_ := Ac.mk (Kd.Gp (by (with_reducible repeat (first | apply Kd.Dw | apply Kd.Dx | apply Kd.Ef)); exact HO_4.out) hb); have n1_ := Ac.mk (Kd.Gj ho0 (Am (by repeat (first | (with_reducible first | exact HB.out | apply Ad | apply Aa | apply Ae) | exact HB.out)))); have n2_ := Ac.mk (Ap (by repeat (first | (with_reducible first | exact HB.out | apply Ad | apply Aa | apply Ae) | exact HB.out)) hb); clear HO_4; clear HB; have HO_4 := n0_; have HO195 := n1_; have HB := n2_; clear n0_ n1_ n2_; (try clear hb); (try clear hb2); (try clear hk); (try clear hi); (try clear ho0); obtain ⟨Ao23, co23, eo23⟩ := Kd.Gq HO195.out; subst eo23; have p196 : 0 ≤ (0 : Int) := (by omega); have q196 : 0 < (t193.length : Int) := of_decide_eq_true (by first | (with_reducible assumption) | assumption); obtain ⟨ad196, e196, hx196_0⟩ := Kd.I9 (Kd.Fq HO195.out).2.2 0 p196 q196; cases e196; have qi196 : (0 < t193.length) = True := eq_true (by omega); (try rw [show ((0 : Int)).toNat = 0 from rfl] at hx196_0); (try rw [Addr.add_zero'] at hx196_0); replace p196 := eq_true p196; replace q196 := eq_true q196; obtain ⟨Ao24, co24, eo24⟩ := Kd.Gq HO_4.out; subst eo24) | ((with_reducible refine Aw (f := 44) rfl ?_); refine Be (some 29) rfl rfl Tryd.func44 (by kernel_rfl) rfl #[.string (Bq ByteArray.empty t193 0), .int .i64 (x4_1.length : Int)] rfl (by (try simp only [List.map_toArray, List.map_cons, List.map_nil]); first | done | rfl | (simp only [List.length_drop, List.length_take]; rfl)) ?_; (with_reducible refine (Bz.calls kj3 (Bq ByteArray.empty t193 0) (x4_1.length : Int) t197 t198 true _ A12.out).mono ?_); rintro e w25 ⟨rfl, hb⟩; refine ⟨_, rfl, ?_⟩; have n0_ := Ac.mk (Kd.Gp (by (with_reducible repeat (first | apply Kd.Dw | apply Kd.Dx | apply Kd.Ef)); exact HO_4.out) hb); have n1_ := Ac.mk (Kd.Gp (by (with_reducible repeat (first | apply Kd.Dw | apply Kd.Dx | apply Kd.Ef)); exact HO195.out) hb); have n2_ := Ac.mk (Ap (by repeat (first | (with_reducible first | exact HB.out | apply Ad | apply Aa | apply Ae) | exact HB.out)) hb); clear HO_4; clear HO195; clear HB; have HO_4 := n0_; have HO195 := n1_; have HB := n2_; clear n0_ n1_ n2_; (try clear hb); (try clear hb2); (try clear hk); (try clear hi)) | ((with_reducible refine Bd (N := 7) rfl ?_); (try (refine Eb (by rfl) ?_; dsimp only)); refine Bc ?hg (N := 7) ?hd (cs := #[.string (⟨#[]⟩ : ByteArray), .string (⟨#[]⟩ : ByteArray)]) (t := 81) ?hr ?_; (case hd => rfl); (case hg => rfl); (case hr => first | (go_simp; done) | (go_simp; rfl)); intro gb200 hg w26 hbox hb; have n0_ := Ac.mk (Kd.Gp (Kd.R_elderB (by (with_reducible repeat (first | apply Kd.Dw | apply Kd.Dx | apply Kd.Ef)); exact HO_4.out) gb200 (Nat.le_of_eq hg.symm)) hb); have n1_ := Ac.mk (Kd.Gp (by (with_reducible repeat (first | apply Kd.Dw | apply Kd.Dx | apply Kd.Ef)); exact HO195.out) hb); have n2_ := Ac.mk (Ap (by repeat (first | (with_reducible first | exact HB.out | apply Ad | apply Aa | apply Ae) | exact HB.out)) hb); have n3_ := Ac.mk (hbox); have n4_ := Ac.mk ((by rw [hg]; exact (Am (by repeat (first | (with_reducible first | exact HB.out | apply Ad | apply Aa | apply Ae) | exact HB.out))) : w.heap.size ≤ gb200)); have n5_ := Ac.mk ((by rw [hg]; exact (Am (by repeat (first | (with_reducible first | exact HB.out | apply Ad | apply Aa | apply Ae) | exact HB.out))) : w.heap.size ≤ gb200)); clear HO_4; clear HO195; clear HB; have HO_4 := n0_; have HO195 := n1_; have HB := n2_; have BK200 := n3_; have GW200 := n4_; have GE200 := n5_; clear n0_ n1_ n2_ n3_ n4_ n5_; clear hb hbox hg; have hcz27_0 : w26.cell? ⟨gb200, 0, none⟩ = some (.string (⟨#[]⟩ : ByteArray)) := (Ag BK200.out 0).trans rfl; have hcz27_1 : w26.cell? ⟨gb200, 1, none⟩ = some (.string (⟨#[]⟩ : ByteArray)) := (Ag BK200.out 1).trans rfl; have hfz27_0 := Af BK200.out 0; have hfz27_1 := Af BK200.out 1) | ((with_reducible refine Ic (b := .append) (xs := #[.tmp 39, .tmp 41]) rfl ?_); (try (refine Eb (by rfl) ?_; dsimp only)); at_builtin; refine Kd.Je k81 (w0 := w) w.heap.size rfl (.tmp 39) (.tmp 41) 62 81 (.agg #[(.string ⟨#[]⟩), (.string ⟨#[]⟩)]) 32 rfl Tryd.underlying62 info81 rfl (by decide) (by omega) (.slice Ao24 x4_1.length co24) x4_1 (⟨t197, t198⟩ : S81) [.string t197, .string t198] (fun k_ => k_ ≠ gb200) (fun _ => False) rfl (by first | (go_simp; done) | (go_simp; rfl)) ?aP (fun _ hk => hk.elim) ?aF ?aO ?aB ?aS ?aL ?_; (case aP => exact k81_mkM _ _ _ (⟨t197, t198⟩ : S81)); (case aB => exact (by repeat (first | (with_reducible first | exact HB.out | apply Ad | apply Aa | apply Ae | refine Ah ?_ GE200.out) | exact HB.out))); (case aF => exact (fun k_ hk => Kd.freshB (g := gb200) (o := .cells #[.string t197, .string t198] 81 (0, 0)) (by (with_reducible repeat (first | refine Aj ?_ _ | refine Ak ?_ | refine Ai ?_ _)); refine Ed (cs := #[.string t197, .string (⟨#[]⟩ : ByteArray)]) ?_ 1 _ rfl; (with_reducible repeat (first | refine Aj ?_ _ | refine Ak ?_ | refine Ai ?_ _)); refine Ed (cs := #[.string (⟨#[]⟩ : ByteArray), .string (⟨#[]⟩ : ByteArray)]) ?_ 0 _ rfl; (with_reducible repeat (first | refine Aj ?_ _ | refine Ak ?_ | refine Ai ?_ _)); exact BK200.out) k_ hk)); (case aO => exact (by (with_reducible repeat (first | apply Kd.Dw | apply Kd.Dx | apply Kd.Ef)); exact Kd.Gt (Kd.R_far (p := ⟨gb200, 1, none⟩) (Kd.R_far (p := ⟨gb200, 0, none⟩) (Kd.Gt HO_4.out (fun k_ hk => (⟨hk, hk.2⟩ : _ ∧ k_ ≠ gb200))) (fun _ hk => hk.2) (.string t197)) (fun _ hk => hk.2) (.string t198)) (fun _ hk => hk.1.2))); (case aS => exact (Am (by repeat (first | (with_reducible first | exact HB.out | apply Ad | apply Aa | apply Ae | refine Ah ?_ GE200.out) | exact HB.out)))); (case aL => have := LMc21.out; omega); intro v202 w28 ho hb hg hat; rw [← Ny201.out] at ho; have n0_ := Ac.mk (Kd.R_over' (by (with_reducible repeat (first | apply Kd.Dw | apply Kd.Dx | apply Kd.Ef)); exact (Kd.Gt (Kd.R_far (p := ⟨gb200, 1, none⟩) (Kd.R_far (p := ⟨gb200, 0, none⟩) (Kd.R_types HO195.out BK200.out (by decide)) (fun _ hk => hk.2) (.string t197)) (fun _ hk => hk.2) (.string t198)) (fun _ h_ => h_.1))) (Kd.R_typed (by (with_reducible repeat (first | apply Kd.Dw | apply Kd.Dx | apply Kd.Ef)); exact (Kd.Gt (Kd.R_far (p := ⟨gb200, 1, none⟩) (Kd.R_far (p := ⟨gb200, 0, none⟩) (Kd.Gt HO_4.out (fun k_ hk => (⟨hk, hk.2⟩ : _ ∧ k_ ≠ gb200))) (fun _ hk => hk.2) (.string t197)) (fun _ hk => hk.2) (.string t198)) (fun _ h_ => h_.1)))) (by decide) hg); have n1_ := Ac.mk (Jc (g := gb200) (o := .cells #[.string t197, .string t198] 81 (0, 0)) (by (with_reducible repeat (first | refine Aj ?_ _ | refine Ak ?_ | refine Ai ?_ _)); refine Ed (cs := #[.string t197, .string (⟨#[]⟩ : ByteArray)]) ?_ 1 _ rfl; (with_reducible repeat (first | refine Aj ?_ _ | refine Ak ?_ | refine Ai ?_ _)); refine Ed (cs := #[.string (⟨#[]⟩ : ByteArray), .string (⟨#[]⟩ : ByteArray)]) ?_ 0 _ rfl; (with_reducible repeat (first | refine Aj ?_ _ | refine Ak ?_ | refine Ai ?_ _)); exact BK200.out) hg (Kd.R_away HO_4.out (fun _ hk => hk.2))); have n2_ := Ac.mk (hb); have n3_ := Ac.mk (ho); clear HO195; clear BK200; clear HB; clear HO_4; have HO195 := n0_; have BK200 := n1_; have HB := n2_; have HO203 := n3_; clear n0_ n1_ n2_ n3_; clear ho hb hg hat; have p204 : 0 ≤ (0 : Int) := (by omega); have q204 : 0 < (t193.length : Int) := of_decide_eq_true (by first | (with_reducible assumption) | assumption); obtain ⟨ad204, e204, hx204_0⟩ := Kd.I9 (Kd.Fq HO195.out).2.2 0 p204 q204; obtain rfl : ad196 = ad204 := (by injection e204); have qi204 : (0 < t193.length) = True := eq_true (by omega); (try rw [show ((0 : Int)).toNat = 0 from rfl] at hx204_0); (try rw [Addr.add_zero'] at hx204_0); replace p204 := eq_true p204; replace q204 := eq_true q204))
                        go_roundg kj3
                        case measure => have := HK1.out; have := HJ3.out; omega
                        case rel => exact ⟨(y201), (wrap64 ((wrap64 (x5_1 + ((Bq ByteArray.empty t193 0).size : Int))) + 1)), (by first | rfl | (simp; done) | (simp [*]; done)), H', ⟨by have := HK1.out; have := HJ3.out; omega⟩, ⟨by (with_reducible repeat (first | apply Kd.Dw | apply Kd.Dx | apply Kd.Ef)); exact Kd.Gt HO203.out (fun _ hk => trivial)⟩, ⟨by repeat (first | (with_reducible first | exact HB.out | apply Ad | apply Aa | apply Ae | refine Ah ?_ GE200.out) | exact HB.out)⟩⟩
                      · rw [if_neg c21] at H
                        exact absurd H (by simp)
                    · replace c20 := Bool.eq_false_iff.mpr c20
                      subst c20
                      have H1 : (some (x4_1, x5_1)) = some (r1, r2) := by rw [if_neg (show ¬ (false = true) by decide)] at H; exact H
                      clear H
                      have H := H1
                      clear H1
                      simp only [Option.some.injEq, Prod.mk.injEq] at H
                      obtain ⟨rfl, rfl⟩ := H
                      go_wp2_with (first | ((with_reducible refine Aw (f := 43) rfl ?_); refine Be (some 22) rfl rfl Tryd.func43 (by kernel_rfl) rfl #[.string (a0.extract (x5_1 : Int).toNat a0.size), .int .u8 10] rfl (by (try simp only [List.map_toArray, List.map_cons, List.map_nil]); first | done | rfl | (simp only [List.length_drop, List.length_take]; rfl)) ?_; (with_reducible refine (Cb.calls kj3 (a0.extract (x5_1 : Int).toNat a0.size) 10 t193 _ A10.out).mono ?_); rintro e w29 ⟨v194, rfl, ho0, hb⟩; refine ⟨_, rfl, ?_⟩; have n0_ := Ac.mk (Kd.Gp (by (with_reducible repeat (first | apply Kd.Dw | apply Kd.Dx | apply Kd.Ef)); exact HO_4.out) hb); have n1_ := Ac.mk (Kd.Gj ho0 (Am (by repeat (first | (with_reducible first | exact HB.out | apply Ad | apply Aa | apply Ae) | exact HB.out)))); have n2_ := Ac.mk (Ap (by repeat (first | (with_reducible first | exact HB.out | apply Ad | apply Aa | apply Ae) | exact HB.out)) hb); clear HO_4; clear HB; have HO_4 := n0_; have HO195 := n1_; have HB := n2_; clear n0_ n1_ n2_; (try clear hb); (try clear hb2); (try clear hk); (try clear hi); (try clear ho0); obtain ⟨Ao30, co30, eo30⟩ := Kd.Gq HO195.out; subst eo30; have p196 : 0 ≤ (0 : Int) := (by omega); have q196 : 0 < (t193.length : Int) := of_decide_eq_true (by first | (with_reducible assumption) | assumption); obtain ⟨ad196, e196, hx196_0⟩ := Kd.I9 (Kd.Fq HO195.out).2.2 0 p196 q196; cases e196; have qi196 : (0 < t193.length) = True := eq_true (by omega); (try rw [show ((0 : Int)).toNat = 0 from rfl] at hx196_0); (try rw [Addr.add_zero'] at hx196_0); replace p196 := eq_true p196; replace q196 := eq_true q196; obtain ⟨Ao31, co31, eo31⟩ := Kd.Gq HO_4.out; subst eo31) | ((with_reducible refine Aw (f := 44) rfl ?_); refine Be (some 29) rfl rfl Tryd.func44 (by kernel_rfl) rfl #[.string (Bq ByteArray.empty t193 0), .int .i64 (x4_1.length : Int)] rfl (by (try simp only [List.map_toArray, List.map_cons, List.map_nil]); first | done | rfl | (simp only [List.length_drop, List.length_take]; rfl)) ?_; (with_reducible refine (Bz.calls kj3 (Bq ByteArray.empty t193 0) (x4_1.length : Int) t197 t198 false _ A12.out).mono ?_); rintro e w32 ⟨rfl, hb⟩; refine ⟨_, rfl, ?_⟩; have n0_ := Ac.mk (Kd.Gp (by (with_reducible repeat (first | apply Kd.Dw | apply Kd.Dx | apply Kd.Ef)); exact HO_4.out) hb); have n1_ := Ac.mk (Kd.Gp (by (with_reducible repeat (first | apply Kd.Dw | apply Kd.Dx | apply Kd.Ef)); exact HO195.out) hb); have n2_ := Ac.mk (Ap (by repeat (first | (with_reducible first | exact HB.out | apply Ad | apply Aa | apply Ae) | exact HB.out)) hb); clear HO_4; clear HO195; clear HB; have HO_4 := n0_; have HO195 := n1_; have HB := n2_; clear n0_ n1_ n2_; (try clear hb); (try clear hb2); (try clear hk); (try clear hi)) | ((with_reducible refine Bd (N := 7) rfl ?_); (try (refine Eb (by rfl) ?_; dsimp only)); refine Bc ?hg (N := 7) ?hd (cs := #[.string (⟨#[]⟩ : ByteArray), .string (⟨#[]⟩ : ByteArray)]) (t := 81) ?hr ?_; (case hd => rfl); (case hg => rfl); (case hr => first | (go_simp; done) | (go_simp; rfl)); intro gb200 hg w33 hbox hb; have n0_ := Ac.mk (Kd.Gp (Kd.R_elderB (by (with_reducible repeat (first | apply Kd.Dw | apply Kd.Dx | apply Kd.Ef)); exact HO_4.out) gb200 (Nat.le_of_eq hg.symm)) hb); have n1_ := Ac.mk (Kd.Gp (by (with_reducible repeat (first | apply Kd.Dw | apply Kd.Dx | apply Kd.Ef)); exact HO195.out) hb); have n2_ := Ac.mk (Ap (by repeat (first | (with_reducible first | exact HB.out | apply Ad | apply Aa | apply Ae) | exact HB.out)) hb); have n3_ := Ac.mk (hbox); have n4_ := Ac.mk ((by rw [hg]; exact (Am (by repeat (first | (with_reducible first | exact HB.out | apply Ad | apply Aa | apply Ae) | exact HB.out))) : w.heap.size ≤ gb200)); have n5_ := Ac.mk ((by rw [hg]; exact (Am (by repeat (first | (with_reducible first | exact HB.out | apply Ad | apply Aa | apply Ae) | exact HB.out))) : w.heap.size ≤ gb200)); clear HO_4; clear HO195; clear HB; have HO_4 := n0_; have HO195 := n1_; have HB := n2_; have BK200 := n3_; have GW200 := n4_; have GE200 := n5_; clear n0_ n1_ n2_ n3_ n4_ n5_; clear hb hbox hg; have hcz34_0 : w33.cell? ⟨gb200, 0, none⟩ = some (.string (⟨#[]⟩ : ByteArray)) := (Ag BK200.out 0).trans rfl; have hcz34_1 : w33.cell? ⟨gb200, 1, none⟩ = some (.string (⟨#[]⟩ : ByteArray)) := (Ag BK200.out 1).trans rfl; have hfz34_0 := Af BK200.out 0; have hfz34_1 := Af BK200.out 1))
                      go_ret2
                      exact ⟨_, by first | rfl | (simp [Aq, Au] <;> rfl) | (simp [*, Aq, Au] <;> rfl), by (with_reducible repeat (first | apply Kd.Dw | apply Kd.Dx | apply Kd.Ef)); exact Kd.Gt (Kd.R_far (p := ⟨gb200, 1, none⟩) (Kd.R_far (p := ⟨gb200, 0, none⟩) (Kd.Gt HO_4.out (fun k_ hk => (⟨hk, hk.2⟩ : _ ∧ k_ ≠ gb200))) (fun _ hk => hk.2) (.string t197)) (fun _ hk => hk.2) (.string t198)) (fun _ hk => trivial), by repeat (first | (with_reducible first | exact HB.out | apply Ad | apply Aa | apply Ae | refine Ah ?_ GE200.out) | exact HB.out)⟩
                · rw [if_neg c11] at H
                  exact absurd H (by simp)
              · rw [if_neg c9] at H
                exact absurd H (by simp)
            · rw [if_neg c8] at H
              exact absurd H (by simp)
          · replace c7 := Bool.eq_false_iff.mpr c7
            subst c7
            have H1 : (some (x4_1, x5_1)) = some (r1, r2) := by rw [if_neg (show ¬ (false = true) by decide)] at H; exact H
            clear H
            have H := H1
            clear H1
            simp only [Option.some.injEq, Prod.mk.injEq] at H
            obtain ⟨rfl, rfl⟩ := H
            go_wp2
            go_ret2
            exact ⟨_, by first | rfl | (simp [Aq, Au] <;> rfl) | (simp [*, Aq, Au] <;> rfl), by (with_reducible repeat (first | apply Kd.Dw | apply Kd.Dx | apply Kd.Ef)); exact HO_4.out, by repeat (first | (with_reducible first | exact HB.out | apply Ad | apply Aa | apply Ae) | exact HB.out)⟩
end Go.Proofs.YtcnmngiaebgjkaaDoor.X

namespace Go.Proofs.YtcnmngiaebgjkaaDoor.X
open Go.RowKit Go.Proofs.YtcnmngiaebgjkaaDoorW.PrintWords Go.Proofs.YtcnmngiaebgjkaaDoorW.PrintLast Go.Proofs.YtcnmngiaebgjkaaDoorW.PrintMore
attribute [local go_sem] Dn Dk D5 Dz Cj Cm Dj Dl
open Go.Proofs.YtcnmngiaebgjkaaDoorG
def Gw.f (k : Nat) (a0_0 : ByteArray) (a0_1 : ByteArray) (a0_2 : Int) : Option (Bool) := if (wrap64 ((a0_0.size : Int) + (a0_1.size : Int))) > 30000 then (some false) else (if a0_0.size + a0_1.size ≤ 9223372036854775807 then ((Bi.f k (a0_0 ++ a0_1)).bind fun bt206 => ((Bi.f k a0_0).bind fun bt210 => (if bt206.2 = (wrap64 ((a0_0.size : Int) + (a0_1.size : Int))) then (if bt210.2 = (a0_0.size : Int) then (some ((bt206.1.length : Int) == a0_2)) else (some false)) else (some false)))) else (none))
theorem Gw.mono : ∀ a0 a1 a2 k, LeO (Gw.f k a0 a1 a2) (Gw.f (k + 1) a0 a1 a2) := by
  intro a0 a1 a2 k
  unfold Gw.f
  repeat' first
      | (with_reducible exact Bi.mono _ _)
      | (with_reducible exact LeO.refl _)
      | (with_reducible exact LeO.none _)
      | (with_reducible refine LeO.ite ?_ ?_)
      | (with_reducible refine LeO.bind ?_ (fun _ => ?_))
      | exact Bi.mono _ _
      | exact LeO.none _
      | refine LeO.ite ?_ ?_
      | refine LeO.bind ?_ (fun _ => ?_)
set_option maxHeartbeats 8000000 in
set_option maxRecDepth 100000 in
theorem Gw.calls (k : Nat) (a0_0 : ByteArray) (a0_1 : ByteArray) (a0_2 : Int) (r : Bool) (w : World) (h : Gw.f k a0_0 a0_1 a0_2 = some r) :
    Calls Tryd.prog 21 #[.agg #[.string a0_0, .string a0_1, .int .i64 a0_2]] w fun e w' => e = .returned (.bool r) ∧ Below w.heap.size w w' := by
  have hu39 := Tryd.underlying39
  have HB := Ac.mk (Below.refl w.heap.size w)
  have H : (if (wrap64 ((a0_0.size : Int) + (a0_1.size : Int))) > 30000 then (some false) else (if a0_0.size + a0_1.size ≤ 9223372036854775807 then ((Bi.f k (a0_0 ++ a0_1)).bind fun bt206 => ((Bi.f k a0_0).bind fun bt210 => (if bt206.2 = (wrap64 ((a0_0.size : Int) + (a0_1.size : Int))) then (if bt210.2 = (a0_0.size : Int) then (some ((bt206.1.length : Int) == a0_2)) else (some false)) else (some false)))) else (none))) = some r := h
  clear h
  by_cases c2 : (wrap64 ((a0_0.size : Int) + (a0_1.size : Int))) > 30000
  · rw [if_pos c2] at H
    have c2b0 : decide (30000 < (wrap64 ((a0_0.size : Int) + (a0_1.size : Int)))) = true := decide_eq_true c2
    clear c2
    obtain rfl := Option.some.inj H
    go_enter Tryd.func21, Tryd.ntmps21
    go_wp2_with (first | ((with_reducible refine Bd (N := 1) rfl ?_); (try (refine Eb (by rfl) ?_; dsimp only)); refine Bc ?hg (N := 1) ?hd (cs := #[.string a0_0, .string a0_1, .int .i64 a0_2]) (t := 39) ?hr ?_; (case hd => rfl); (case hg => rfl); (case hr => first | (go_simp; done) | (go_simp; rfl)); intro gb205 hg w3 hbox hb; have n0_ := Ac.mk (Ap (by repeat (first | (with_reducible first | exact HB.out | apply Ad | apply Aa | apply Ae) | exact HB.out)) hb); have n1_ := Ac.mk (hbox); have n2_ := Ac.mk ((by rw [hg]; exact (Am (by repeat (first | (with_reducible first | exact HB.out | apply Ad | apply Aa | apply Ae) | exact HB.out))) : w.heap.size ≤ gb205)); have n3_ := Ac.mk ((by rw [hg]; exact (Am (by repeat (first | (with_reducible first | exact HB.out | apply Ad | apply Aa | apply Ae) | exact HB.out))) : w.heap.size ≤ gb205)); clear HB; have HB := n0_; have BK205 := n1_; have GW205 := n2_; have GE205 := n3_; clear n0_ n1_ n2_ n3_; clear hb hbox hg; have hcz4_0 : w3.cell? ⟨gb205, 0, none⟩ = some (.string a0_0) := (Ag BK205.out 0).trans rfl; have hcz4_1 : w3.cell? ⟨gb205, 1, none⟩ = some (.string a0_1) := (Ag BK205.out 1).trans rfl; have hcz4_2 : w3.cell? ⟨gb205, 2, none⟩ = some (.int .i64 a0_2) := (Ag BK205.out 2).trans rfl; have hfz4_0 := Af BK205.out 0; have hfz4_1 := Af BK205.out 1; have hfz4_2 := Af BK205.out 2))
    go_ret
    exact ⟨by first | rfl | (simp [Aq, Au] <;> rfl) | (simp [*, Aq, Au] <;> rfl), by repeat (first | (with_reducible first | exact HB.out | apply Ad | apply Aa | apply Ae | refine Ah ?_ GE205.out) | exact HB.out)⟩
  · rw [if_neg c2] at H
    have c2b0 : decide (30000 < (wrap64 ((a0_0.size : Int) + (a0_1.size : Int)))) = false := decide_eq_false c2
    clear c2
    by_cases c5 : a0_0.size + a0_1.size ≤ 9223372036854775807
    · rw [if_pos c5] at H
      have c2b7 : decide (30000 < ((a0_0.size : Int) + (a0_1.size : Int))) = false := by have h_ := c2b0; rwa [show wrap64 ((a0_0.size : Int) + (a0_1.size : Int)) = (a0_0.size : Int) + (a0_1.size : Int) from by unfold wrap64; omega] at h_
      have c5b0 := eq_true c5
      have c5b1 : decide (a0_0.size + a0_1.size ≤ 9223372036854775807) = true := decide_eq_true c5
      try have c5b2 : (9223372036854775807 < a0_0.size + a0_1.size) = False := eq_false (Nat.not_lt.2 c5)
      replace H := Option.bind_eq_some_iff.mp H
      obtain ⟨⟨t206, t207⟩, A60, H⟩ := H
      replace H : ((Bi.f k a0_0).bind fun bt210 => (if t207 = (wrap64 ((a0_0.size : Int) + (a0_1.size : Int))) then (if bt210.2 = (a0_0.size : Int) then (some ((t206.length : Int) == a0_2)) else (some false)) else (some false))) = some r := H
      have A6 := Ac.mk A60
      clear A60
      replace H := Option.bind_eq_some_iff.mp H
      obtain ⟨⟨t210, t211⟩, A70, H⟩ := H
      replace H : (if t207 = (wrap64 ((a0_0.size : Int) + (a0_1.size : Int))) then (if t211 = (a0_0.size : Int) then (some ((t206.length : Int) == a0_2)) else (some false)) else (some false)) = some r := H
      have A7 := Ac.mk A70
      clear A70
      by_cases c8 : t207 = (wrap64 ((a0_0.size : Int) + (a0_1.size : Int)))
      · rw [if_pos c8] at H
        have c8b0 : (t207 == (wrap64 ((a0_0.size : Int) + (a0_1.size : Int)))) = true := beq_iff_eq.mpr c8
        have c8b6 : (t207 == ((a0_0.size : Int) + (a0_1.size : Int))) = true := by have h_ := c8b0; rwa [show wrap64 ((a0_0.size : Int) + (a0_1.size : Int)) = (a0_0.size : Int) + (a0_1.size : Int) from by unfold wrap64; omega] at h_
        have c8b1 : (t207 != (wrap64 ((a0_0.size : Int) + (a0_1.size : Int)))) = false := bne_eq_false_iff_eq.mpr c8
        clear c8
        by_cases c9 : t211 = (a0_0.size : Int)
        · rw [if_pos c9] at H
          have c9b0 : (t211 == (a0_0.size : Int)) = true := beq_iff_eq.mpr c9
          have c9b1 : (t211 != (a0_0.size : Int)) = false := bne_eq_false_iff_eq.mpr c9
          clear c9
          obtain rfl := Option.some.inj H
          go_enter Tryd.func21, Tryd.ntmps21
          go_wp2_with (first | ((with_reducible refine Bd (N := 1) rfl ?_); (try (refine Eb (by rfl) ?_; dsimp only)); refine Bc ?hg (N := 1) ?hd (cs := #[.string a0_0, .string a0_1, .int .i64 a0_2]) (t := 39) ?hr ?_; (case hd => rfl); (case hg => rfl); (case hr => first | (go_simp; done) | (go_simp; rfl)); intro gb205 hg w10 hbox hb; have n0_ := Ac.mk (Ap (by repeat (first | (with_reducible first | exact HB.out | apply Ad | apply Aa | apply Ae) | exact HB.out)) hb); have n1_ := Ac.mk (hbox); have n2_ := Ac.mk ((by rw [hg]; exact (Am (by repeat (first | (with_reducible first | exact HB.out | apply Ad | apply Aa | apply Ae) | exact HB.out))) : w.heap.size ≤ gb205)); have n3_ := Ac.mk ((by rw [hg]; exact (Am (by repeat (first | (with_reducible first | exact HB.out | apply Ad | apply Aa | apply Ae) | exact HB.out))) : w.heap.size ≤ gb205)); clear HB; have HB := n0_; have BK205 := n1_; have GW205 := n2_; have GE205 := n3_; clear n0_ n1_ n2_ n3_; clear hb hbox hg; have hcz11_0 : w10.cell? ⟨gb205, 0, none⟩ = some (.string a0_0) := (Ag BK205.out 0).trans rfl; have hcz11_1 : w10.cell? ⟨gb205, 1, none⟩ = some (.string a0_1) := (Ag BK205.out 1).trans rfl; have hcz11_2 : w10.cell? ⟨gb205, 2, none⟩ = some (.int .i64 a0_2) := (Ag BK205.out 2).trans rfl; have hfz11_0 := Af BK205.out 0; have hfz11_1 := Af BK205.out 1; have hfz11_2 := Af BK205.out 2) | ((with_reducible refine Aw (f := 34) rfl ?_); refine Be (some 21) rfl rfl Tryd.func34 (by kernel_rfl) rfl #[.string (a0_0 ++ a0_1)] rfl (by (try simp only [List.map_toArray, List.map_cons, List.map_nil]); first | done | rfl | (simp only [List.length_drop, List.length_take]; rfl)) ?_; (with_reducible refine (Bi.calls k (a0_0 ++ a0_1) t206 t207 _ A6.out).mono ?_); rintro e w12 ⟨v208, rfl, ho0, hb⟩; refine ⟨_, rfl, ?_⟩; have n0_ := Ac.mk (Kd.Gj ho0 (Am (by repeat (first | (with_reducible first | exact HB.out | apply Ad | apply Aa | apply Ae | refine Ah ?_ GE205.out) | exact HB.out)))); have n1_ := Ac.mk (Az (g := gb205) (o := .cells #[.string a0_0, .string a0_1, .int .i64 a0_2] 39 (0, 0)) (by (with_reducible repeat (first | refine Aj ?_ _ | refine Ak ?_ | refine Ai ?_ _)); exact BK205.out) hb); have n2_ := Ac.mk (Ap (by repeat (first | (with_reducible first | exact HB.out | apply Ad | apply Aa | apply Ae | refine Ah ?_ GE205.out) | exact HB.out)) hb); clear BK205; clear HB; have HO209 := n0_; have BK205 := n1_; have HB := n2_; clear n0_ n1_ n2_; (try clear hb); (try clear hb2); (try clear hk); (try clear hi); (try clear ho0); have hcz13_0 : w12.cell? ⟨gb205, 0, none⟩ = some (.string a0_0) := (Ag BK205.out 0).trans rfl; have hcz13_1 : w12.cell? ⟨gb205, 1, none⟩ = some (.string a0_1) := (Ag BK205.out 1).trans rfl; have hcz13_2 : w12.cell? ⟨gb205, 2, none⟩ = some (.int .i64 a0_2) := (Ag BK205.out 2).trans rfl; have hfz13_0 := Af BK205.out 0; have hfz13_1 := Af BK205.out 1; have hfz13_2 := Af BK205.out 2) | ((with_reducible refine Aw (f := 34) rfl ?_); refine Be (some 27) rfl rfl Tryd.func34 (by kernel_rfl) rfl #[.string a0_0] rfl (by (try simp only [List.map_toArray, List.map_cons, List.map_nil]); first | done | rfl | (simp only [List.length_drop, List.length_take]; rfl)) ?_; (with_reducible refine (Bi.calls k a0_0 t210 t211 _ A7.out).mono ?_); rintro e w14 ⟨v212, rfl, ho0, hb⟩; refine ⟨_, rfl, ?_⟩; have n0_ := Ac.mk (Kd.R_elder' (by (with_reducible repeat (first | apply Kd.Dw | apply Kd.Dx | apply Kd.Ef)); exact HO209.out) (Kd.R_base ho0) hb); have n1_ := Ac.mk (Kd.Gj (Kd.R_new' ho0 (Kd.R_lt (by (with_reducible repeat (first | apply Kd.Dw | apply Kd.Dx | apply Kd.Ef)); exact HO209.out))) (Am (by repeat (first | (with_reducible first | exact HB.out | apply Ad | apply Aa | apply Ae | refine Ah ?_ GE205.out) | exact HB.out)))); have n2_ := Ac.mk (Az (g := gb205) (o := .cells #[.string a0_0, .string a0_1, .int .i64 a0_2] 39 (0, 0)) (by (with_reducible repeat (first | refine Aj ?_ _ | refine Ak ?_ | refine Ai ?_ _)); exact BK205.out) hb); have n3_ := Ac.mk (Ap (by repeat (first | (with_reducible first | exact HB.out | apply Ad | apply Aa | apply Ae | refine Ah ?_ GE205.out) | exact HB.out)) hb); clear HO209; clear BK205; clear HB; have HO209 := n0_; have HO213 := n1_; have BK205 := n2_; have HB := n3_; clear n0_ n1_ n2_ n3_; (try clear hb); (try clear hb2); (try clear hk); (try clear hi); (try clear ho0); have hcz15_0 : w14.cell? ⟨gb205, 0, none⟩ = some (.string a0_0) := (Ag BK205.out 0).trans rfl; have hcz15_1 : w14.cell? ⟨gb205, 1, none⟩ = some (.string a0_1) := (Ag BK205.out 1).trans rfl; have hcz15_2 : w14.cell? ⟨gb205, 2, none⟩ = some (.int .i64 a0_2) := (Ag BK205.out 2).trans rfl; have hfz15_0 := Af BK205.out 0; have hfz15_1 := Af BK205.out 1; have hfz15_2 := Af BK205.out 2; obtain ⟨Ao16, co16, eo16⟩ := Kd.Gq HO209.out; subst eo16))
          go_ret
          exact ⟨by first | rfl | (simp [Aq, Au] <;> rfl) | (simp [*, Aq, Au] <;> rfl), by repeat (first | (with_reducible first | exact HB.out | apply Ad | apply Aa | apply Ae | refine Ah ?_ GE205.out) | exact HB.out)⟩
        · rw [if_neg c9] at H
          have c9b0 : (t211 == (a0_0.size : Int)) = false := beq_eq_false_iff_ne.mpr c9
          have c9b1 : (t211 != (a0_0.size : Int)) = true := bne_iff_ne.mpr c9
          obtain rfl := Option.some.inj H
          go_enter Tryd.func21, Tryd.ntmps21
          go_wp2_with (first | ((with_reducible refine Bd (N := 1) rfl ?_); (try (refine Eb (by rfl) ?_; dsimp only)); refine Bc ?hg (N := 1) ?hd (cs := #[.string a0_0, .string a0_1, .int .i64 a0_2]) (t := 39) ?hr ?_; (case hd => rfl); (case hg => rfl); (case hr => first | (go_simp; done) | (go_simp; rfl)); intro gb205 hg w17 hbox hb; have n0_ := Ac.mk (Ap (by repeat (first | (with_reducible first | exact HB.out | apply Ad | apply Aa | apply Ae) | exact HB.out)) hb); have n1_ := Ac.mk (hbox); have n2_ := Ac.mk ((by rw [hg]; exact (Am (by repeat (first | (with_reducible first | exact HB.out | apply Ad | apply Aa | apply Ae) | exact HB.out))) : w.heap.size ≤ gb205)); have n3_ := Ac.mk ((by rw [hg]; exact (Am (by repeat (first | (with_reducible first | exact HB.out | apply Ad | apply Aa | apply Ae) | exact HB.out))) : w.heap.size ≤ gb205)); clear HB; have HB := n0_; have BK205 := n1_; have GW205 := n2_; have GE205 := n3_; clear n0_ n1_ n2_ n3_; clear hb hbox hg; have hcz18_0 : w17.cell? ⟨gb205, 0, none⟩ = some (.string a0_0) := (Ag BK205.out 0).trans rfl; have hcz18_1 : w17.cell? ⟨gb205, 1, none⟩ = some (.string a0_1) := (Ag BK205.out 1).trans rfl; have hcz18_2 : w17.cell? ⟨gb205, 2, none⟩ = some (.int .i64 a0_2) := (Ag BK205.out 2).trans rfl; have hfz18_0 := Af BK205.out 0; have hfz18_1 := Af BK205.out 1; have hfz18_2 := Af BK205.out 2) | ((with_reducible refine Aw (f := 34) rfl ?_); refine Be (some 21) rfl rfl Tryd.func34 (by kernel_rfl) rfl #[.string (a0_0 ++ a0_1)] rfl (by (try simp only [List.map_toArray, List.map_cons, List.map_nil]); first | done | rfl | (simp only [List.length_drop, List.length_take]; rfl)) ?_; (with_reducible refine (Bi.calls k (a0_0 ++ a0_1) t206 t207 _ A6.out).mono ?_); rintro e w19 ⟨v208, rfl, ho0, hb⟩; refine ⟨_, rfl, ?_⟩; have n0_ := Ac.mk (Kd.Gj ho0 (Am (by repeat (first | (with_reducible first | exact HB.out | apply Ad | apply Aa | apply Ae | refine Ah ?_ GE205.out) | exact HB.out)))); have n1_ := Ac.mk (Az (g := gb205) (o := .cells #[.string a0_0, .string a0_1, .int .i64 a0_2] 39 (0, 0)) (by (with_reducible repeat (first | refine Aj ?_ _ | refine Ak ?_ | refine Ai ?_ _)); exact BK205.out) hb); have n2_ := Ac.mk (Ap (by repeat (first | (with_reducible first | exact HB.out | apply Ad | apply Aa | apply Ae | refine Ah ?_ GE205.out) | exact HB.out)) hb); clear BK205; clear HB; have HO209 := n0_; have BK205 := n1_; have HB := n2_; clear n0_ n1_ n2_; (try clear hb); (try clear hb2); (try clear hk); (try clear hi); (try clear ho0); have hcz20_0 : w19.cell? ⟨gb205, 0, none⟩ = some (.string a0_0) := (Ag BK205.out 0).trans rfl; have hcz20_1 : w19.cell? ⟨gb205, 1, none⟩ = some (.string a0_1) := (Ag BK205.out 1).trans rfl; have hcz20_2 : w19.cell? ⟨gb205, 2, none⟩ = some (.int .i64 a0_2) := (Ag BK205.out 2).trans rfl; have hfz20_0 := Af BK205.out 0; have hfz20_1 := Af BK205.out 1; have hfz20_2 := Af BK205.out 2) | ((with_reducible refine Aw (f := 34) rfl ?_); refine Be (some 27) rfl rfl Tryd.func34 (by kernel_rfl) rfl #[.string a0_0] rfl (by (try simp only [List.map_toArray, List.map_cons, List.map_nil]); first | done | rfl | (simp only [List.length_drop, List.length_take]; rfl)) ?_; (with_reducible refine (Bi.calls k a0_0 t210 t211 _ A7.out).mono ?_); rintro e w21 ⟨v212, rfl, ho0, hb⟩; refine ⟨_, rfl, ?_⟩; have n0_ := Ac.mk (Kd.R_elder' (by (with_reducible repeat (first | apply Kd.Dw | apply Kd.Dx | apply Kd.Ef)); exact HO209.out) (Kd.R_base ho0) hb); have n1_ := Ac.mk (Kd.Gj (Kd.R_new' ho0 (Kd.R_lt (by (with_reducible repeat (first | apply Kd.Dw | apply Kd.Dx | apply Kd.Ef)); exact HO209.out))) (Am (by repeat (first | (with_reducible first | exact HB.out | apply Ad | apply Aa | apply Ae | refine Ah ?_ GE205.out) | exact HB.out)))); have n2_ := Ac.mk (Az (g := gb205) (o := .cells #[.string a0_0, .string a0_1, .int .i64 a0_2] 39 (0, 0)) (by (with_reducible repeat (first | refine Aj ?_ _ | refine Ak ?_ | refine Ai ?_ _)); exact BK205.out) hb); have n3_ := Ac.mk (Ap (by repeat (first | (with_reducible first | exact HB.out | apply Ad | apply Aa | apply Ae | refine Ah ?_ GE205.out) | exact HB.out)) hb); clear HO209; clear BK205; clear HB; have HO209 := n0_; have HO213 := n1_; have BK205 := n2_; have HB := n3_; clear n0_ n1_ n2_ n3_; (try clear hb); (try clear hb2); (try clear hk); (try clear hi); (try clear ho0); have hcz22_0 : w21.cell? ⟨gb205, 0, none⟩ = some (.string a0_0) := (Ag BK205.out 0).trans rfl; have hcz22_1 : w21.cell? ⟨gb205, 1, none⟩ = some (.string a0_1) := (Ag BK205.out 1).trans rfl; have hcz22_2 : w21.cell? ⟨gb205, 2, none⟩ = some (.int .i64 a0_2) := (Ag BK205.out 2).trans rfl; have hfz22_0 := Af BK205.out 0; have hfz22_1 := Af BK205.out 1; have hfz22_2 := Af BK205.out 2))
          go_ret
          exact ⟨by first | rfl | (simp [Aq, Au] <;> rfl) | (simp [*, Aq, Au] <;> rfl), by repeat (first | (with_reducible first | exact HB.out | apply Ad | apply Aa | apply Ae | refine Ah ?_ GE205.out) | exact HB.out)⟩
      · rw [if_neg c8] at H
        have c8b0 : (t207 == (wrap64 ((a0_0.size : Int) + (a0_1.size : Int)))) = false := beq_eq_false_iff_ne.mpr c8
        have c8b6 : (t207 == ((a0_0.size : Int) + (a0_1.size : Int))) = false := by have h_ := c8b0; rwa [show wrap64 ((a0_0.size : Int) + (a0_1.size : Int)) = (a0_0.size : Int) + (a0_1.size : Int) from by unfold wrap64; omega] at h_
        have c8b1 : (t207 != (wrap64 ((a0_0.size : Int) + (a0_1.size : Int)))) = true := bne_iff_ne.mpr c8
        obtain rfl := Option.some.inj H
        go_enter Tryd.func21, Tryd.ntmps21
        go_wp2_with (first | ((with_reducible refine Bd (N := 1) rfl ?_); (try (refine Eb (by rfl) ?_; dsimp only)); refine Bc ?hg (N := 1) ?hd (cs := #[.string a0_0, .string a0_1, .int .i64 a0_2]) (t := 39) ?hr ?_; (case hd => rfl); (case hg => rfl); (case hr => first | (go_simp; done) | (go_simp; rfl)); intro gb205 hg w23 hbox hb; have n0_ := Ac.mk (Ap (by repeat (first | (with_reducible first | exact HB.out | apply Ad | apply Aa | apply Ae) | exact HB.out)) hb); have n1_ := Ac.mk (hbox); have n2_ := Ac.mk ((by rw [hg]; exact (Am (by repeat (first | (with_reducible first | exact HB.out | apply Ad | apply Aa | apply Ae) | exact HB.out))) : w.heap.size ≤ gb205)); have n3_ := Ac.mk ((by rw [hg]; exact (Am (by repeat (first | (with_reducible first | exact HB.out | apply Ad | apply Aa | apply Ae) | exact HB.out))) : w.heap.size ≤ gb205)); clear HB; have HB := n0_; have BK205 := n1_; have GW205 := n2_; have GE205 := n3_; clear n0_ n1_ n2_ n3_; clear hb hbox hg; have hcz24_0 : w23.cell? ⟨gb205, 0, none⟩ = some (.string a0_0) := (Ag BK205.out 0).trans rfl; have hcz24_1 : w23.cell? ⟨gb205, 1, none⟩ = some (.string a0_1) := (Ag BK205.out 1).trans rfl; have hcz24_2 : w23.cell? ⟨gb205, 2, none⟩ = some (.int .i64 a0_2) := (Ag BK205.out 2).trans rfl; have hfz24_0 := Af BK205.out 0; have hfz24_1 := Af BK205.out 1; have hfz24_2 := Af BK205.out 2) | ((with_reducible refine Aw (f := 34) rfl ?_); refine Be (some 21) rfl rfl Tryd.func34 (by kernel_rfl) rfl #[.string (a0_0 ++ a0_1)] rfl (by (try simp only [List.map_toArray, List.map_cons, List.map_nil]); first | done | rfl | (simp only [List.length_drop, List.length_take]; rfl)) ?_; (with_reducible refine (Bi.calls k (a0_0 ++ a0_1) t206 t207 _ A6.out).mono ?_); rintro e w25 ⟨v208, rfl, ho0, hb⟩; refine ⟨_, rfl, ?_⟩; have n0_ := Ac.mk (Kd.Gj ho0 (Am (by repeat (first | (with_reducible first | exact HB.out | apply Ad | apply Aa | apply Ae | refine Ah ?_ GE205.out) | exact HB.out)))); have n1_ := Ac.mk (Az (g := gb205) (o := .cells #[.string a0_0, .string a0_1, .int .i64 a0_2] 39 (0, 0)) (by (with_reducible repeat (first | refine Aj ?_ _ | refine Ak ?_ | refine Ai ?_ _)); exact BK205.out) hb); have n2_ := Ac.mk (Ap (by repeat (first | (with_reducible first | exact HB.out | apply Ad | apply Aa | apply Ae | refine Ah ?_ GE205.out) | exact HB.out)) hb); clear BK205; clear HB; have HO209 := n0_; have BK205 := n1_; have HB := n2_; clear n0_ n1_ n2_; (try clear hb); (try clear hb2); (try clear hk); (try clear hi); (try clear ho0); have hcz26_0 : w25.cell? ⟨gb205, 0, none⟩ = some (.string a0_0) := (Ag BK205.out 0).trans rfl; have hcz26_1 : w25.cell? ⟨gb205, 1, none⟩ = some (.string a0_1) := (Ag BK205.out 1).trans rfl; have hcz26_2 : w25.cell? ⟨gb205, 2, none⟩ = some (.int .i64 a0_2) := (Ag BK205.out 2).trans rfl; have hfz26_0 := Af BK205.out 0; have hfz26_1 := Af BK205.out 1; have hfz26_2 := Af BK205.out 2) | ((with_reducible refine Aw (f := 34) rfl ?_); refine Be (some 27) rfl rfl Tryd.func34 (by kernel_rfl) rfl #[.string a0_0] rfl (by (try simp only [List.map_toArray, List.map_cons, List.map_nil]); first | done | rfl | (simp only [List.length_drop, List.length_take]; rfl)) ?_; (with_reducible refine (Bi.calls k a0_0 t210 t211 _ A7.out).mono ?_); rintro e w27 ⟨v212, rfl, ho0, hb⟩; refine ⟨_, rfl, ?_⟩; have n0_ := Ac.mk (Kd.R_elder' (by (with_reducible repeat (first | apply Kd.Dw | apply Kd.Dx | apply Kd.Ef)); exact HO209.out) (Kd.R_base ho0) hb); have n1_ := Ac.mk (Kd.Gj (Kd.R_new' ho0 (Kd.R_lt (by (with_reducible repeat (first | apply Kd.Dw | apply Kd.Dx | apply Kd.Ef)); exact HO209.out))) (Am (by repeat (first | (with_reducible first | exact HB.out | apply Ad | apply Aa | apply Ae | refine Ah ?_ GE205.out) | exact HB.out)))); have n2_ := Ac.mk (Az (g := gb205) (o := .cells #[.string a0_0, .string a0_1, .int .i64 a0_2] 39 (0, 0)) (by (with_reducible repeat (first | refine Aj ?_ _ | refine Ak ?_ | refine Ai ?_ _)); exact BK205.out) hb); have n3_ := Ac.mk (Ap (by repeat (first | (with_reducible first | exact HB.out | apply Ad | apply Aa | apply Ae | refine Ah ?_ GE205.out) | exact HB.out)) hb); clear HO209; clear BK205; clear HB; have HO209 := n0_; have HO213 := n1_; have BK205 := n2_; have HB := n3_; clear n0_ n1_ n2_ n3_; (try clear hb); (try clear hb2); (try clear hk); (try clear hi); (try clear ho0); have hcz28_0 : w27.cell? ⟨gb205, 0, none⟩ = some (.string a0_0) := (Ag BK205.out 0).trans rfl; have hcz28_1 : w27.cell? ⟨gb205, 1, none⟩ = some (.string a0_1) := (Ag BK205.out 1).trans rfl; have hcz28_2 : w27.cell? ⟨gb205, 2, none⟩ = some (.int .i64 a0_2) := (Ag BK205.out 2).trans rfl; have hfz28_0 := Af BK205.out 0; have hfz28_1 := Af BK205.out 1; have hfz28_2 := Af BK205.out 2))
        go_ret
        exact ⟨by first | rfl | (simp [Aq, Au] <;> rfl) | (simp [*, Aq, Au] <;> rfl), by repeat (first | (with_reducible first | exact HB.out | apply Ad | apply Aa | apply Ae | refine Ah ?_ GE205.out) | exact HB.out)⟩
    · rw [if_neg c5] at H
      exact absurd H (by simp)
end Go.Proofs.YtcnmngiaebgjkaaDoor.X

namespace Go.Proofs.YtcnmngiaebgjkaaDoor.X
open Go.RowKit Go.Proofs.YtcnmngiaebgjkaaDoorW.PrintWords Go.Proofs.YtcnmngiaebgjkaaDoorW.PrintLast Go.Proofs.YtcnmngiaebgjkaaDoorW.PrintMore
attribute [local go_sem] Dn Dk D5 Dz Cj Cm Dj Dl
open Go.Proofs.YtcnmngiaebgjkaaDoorG
def Hm.f (k : Nat) (l0_0 : List (List Int)) (a0_1 : Int) (l0_2 : List (List Int)) (a0_3 : ByteArray) (a0_4 : ByteArray) (a0_5 : Int) : Option (Bool) := (Bf.f k l0_0 a0_1 l0_2).bind fun t215 => (if t215 = true then ((Gw.f k a0_3 a0_4 a0_5).bind fun t216 => (some t216)) else (some false))
theorem Hm.mono : ∀ a0 a1 a2 a3 a4 a5 k, LeO (Hm.f k a0 a1 a2 a3 a4 a5) (Hm.f (k + 1) a0 a1 a2 a3 a4 a5) := by
  intro a0 a1 a2 a3 a4 a5 k
  unfold Hm.f
  repeat' first
      | (with_reducible exact Bf.mono _ _ _ _)
      | (with_reducible exact Gw.mono _ _ _ _)
      | (with_reducible exact LeO.refl _)
      | (with_reducible exact LeO.none _)
      | (with_reducible refine LeO.ite ?_ ?_)
      | (with_reducible refine LeO.bind ?_ (fun _ => ?_))
      | exact Bf.mono _ _ _ _
      | exact Gw.mono _ _ _ _
      | exact LeO.none _
      | refine LeO.ite ?_ ?_
      | refine LeO.bind ?_ (fun _ => ?_)
set_option maxHeartbeats 8000000 in
set_option maxRecDepth 100000 in
theorem Hm.calls (k : Nat) (A0_0 : Option Addr) (c0_0 : Nat) (l0_0 : List (List Int)) (a0_1 : Int) (A0_2 : Option Addr) (c0_2 : Nat) (l0_2 : List (List Int)) (a0_3 : ByteArray) (a0_4 : ByteArray) (a0_5 : Int) (r : Bool) (w : World) (hr0_0 : Kd.C (Kd.slice 3 (Kd.int .i64)) w A0_0 l0_0.length l0_0) (hc0_0 : l0_0.length ≤ c0_0) (hr0_2 : Kd.C (Kd.slice 3 (Kd.int .i64)) w A0_2 l0_2.length l0_2) (hc0_2 : l0_2.length ≤ c0_2) (h : Hm.f k l0_0 a0_1 l0_2 a0_3 a0_4 a0_5 = some r) :
    Calls Tryd.prog 11 #[.agg #[.slice A0_0 l0_0.length c0_0, .int .i64 a0_1, .slice A0_2 l0_2.length c0_2, .string a0_3, .string a0_4, .int .i64 a0_5]] w fun e w' => e = .returned (.bool r) ∧ Below w.heap.size w w' := by
  have hu41 := Tryd.underlying41
  have hu38 := Tryd.underlying38
  have hu39 := Tryd.underlying39
  have HR0_0 := Ac.mk hr0_0
  have HC0_0 := Ac.mk hc0_0
  clear hr0_0 hc0_0
  have HR0_2 := Ac.mk hr0_2
  have HC0_2 := Ac.mk hc0_2
  clear hr0_2 hc0_2
  have HB := Ac.mk (Below.refl w.heap.size w)
  have H : ((Bf.f k l0_0 a0_1 l0_2).bind fun t215 => (if t215 = true then ((Gw.f k a0_3 a0_4 a0_5).bind fun t216 => (some t216)) else (some false))) = some r := h
  clear h
  replace H := Option.bind_eq_some_iff.mp H
  obtain ⟨t215, A20, H⟩ := H
  replace H : (if t215 = true then ((Gw.f k a0_3 a0_4 a0_5).bind fun t216 => (some t216)) else (some false)) = some r := H
  have A2 := Ac.mk A20
  clear A20
  by_cases c3 : t215 = true
  · subst c3
    have H1 : ((Gw.f k a0_3 a0_4 a0_5).bind fun t216 => (some t216)) = some r := by rw [if_pos rfl] at H; exact H
    clear H
    have H := H1
    clear H1
    replace H := Option.bind_eq_some_iff.mp H
    obtain ⟨t216, A40, H⟩ := H
    replace H : (some t216) = some r := H
    have A4 := Ac.mk A40
    clear A40
    obtain rfl := Option.some.inj H
    go_enter Tryd.func11, Tryd.ntmps11
    go_wp2_with (first | ((with_reducible refine Bd (N := 1) rfl ?_); refine Bc ?hg (N := 1) ?hd (cs := #[.slice A0_0 l0_0.length c0_0, .int .i64 a0_1, .slice A0_2 l0_2.length c0_2, .string a0_3, .string a0_4, .int .i64 a0_5]) (t := 41) ?hr ?_; (case hd => rfl); (case hg => rfl); (case hr => first | (go_simp; done) | (go_simp; rfl)); intro gb214 hg w5 hbox hb; have n0_ := Ac.mk (Ap (by repeat (first | (with_reducible first | exact HB.out | apply Ad | apply Aa | apply Ae) | exact HB.out)) hb); have n1_ := Ac.mk (hbox); have n2_ := Ac.mk ((by rw [hg]; exact (Am (by repeat (first | (with_reducible first | exact HB.out | apply Ad | apply Aa | apply Ae) | exact HB.out))) : w.heap.size ≤ gb214)); have n3_ := Ac.mk ((by rw [hg]; exact (Am (by repeat (first | (with_reducible first | exact HB.out | apply Ad | apply Aa | apply Ae) | exact HB.out))) : w.heap.size ≤ gb214)); clear HB; have HB := n0_; have BK214 := n1_; have GW214 := n2_; have GE214 := n3_; clear n0_ n1_ n2_ n3_; clear hb hbox hg; have hcz6_0 : w5.cell? ⟨gb214, 0, none⟩ = some (.slice A0_0 l0_0.length c0_0) := (Ag BK214.out 0).trans rfl; have hcz6_1 : w5.cell? ⟨gb214, 1, none⟩ = some (.int .i64 a0_1) := (Ag BK214.out 1).trans rfl; have hcz6_2 : w5.cell? ⟨gb214, 2, none⟩ = some (.slice A0_2 l0_2.length c0_2) := (Ag BK214.out 2).trans rfl; have hcz6_3 : w5.cell? ⟨gb214, 3, none⟩ = some (.string a0_3) := (Ag BK214.out 3).trans rfl; have hcz6_4 : w5.cell? ⟨gb214, 4, none⟩ = some (.string a0_4) := (Ag BK214.out 4).trans rfl; have hcz6_5 : w5.cell? ⟨gb214, 5, none⟩ = some (.int .i64 a0_5) := (Ag BK214.out 5).trans rfl; have hfz6_0 := Af BK214.out 0; have hfz6_1 := Af BK214.out 1; have hfz6_2 := Af BK214.out 2; have hfz6_3 := Af BK214.out 3; have hfz6_4 := Af BK214.out 4; have hfz6_5 := Af BK214.out 5) | ((with_reducible refine Aw (f := 20) rfl ?_); refine Be (some 5) rfl rfl Tryd.func20 (by kernel_rfl) rfl #[.agg #[.slice A0_0 l0_0.length c0_0, .int .i64 a0_1, .slice A0_2 l0_2.length c0_2]] rfl (by (try simp only [List.map_toArray, List.map_cons, List.map_nil]); first | done | rfl | (simp only [List.length_drop, List.length_take]; rfl)) ?_; (with_reducible refine (Bf.calls k _ _ l0_0 a0_1 _ _ l0_2 true _ ?side1 ?side2 ?side3 ?side4 A2.out).mono ?_); (case side1 => repeat (first | exact (Kd.C9 HR0_0.out HB.out) | (with_reducible refine Kd.Bl ?_ _) | (with_reducible refine Kd.Bj ?_ _) | (with_reducible refine Kd.Ce ?_))); (case side2 => exact HC0_0.out); (case side3 => repeat (first | exact (Kd.C9 HR0_2.out HB.out) | (with_reducible refine Kd.Bl ?_ _) | (with_reducible refine Kd.Bj ?_ _) | (with_reducible refine Kd.Ce ?_))); (case side4 => exact HC0_2.out); rintro e w7 ⟨rfl, hb⟩; refine ⟨_, rfl, ?_⟩; have n0_ := Ac.mk (Az (g := gb214) (o := .cells #[.slice A0_0 l0_0.length c0_0, .int .i64 a0_1, .slice A0_2 l0_2.length c0_2, .string a0_3, .string a0_4, .int .i64 a0_5] 41 (0, 0)) (by (with_reducible repeat (first | refine Aj ?_ _ | refine Ak ?_ | refine Ai ?_ _)); exact BK214.out) hb); have n1_ := Ac.mk (Ap (by repeat (first | (with_reducible first | exact HB.out | apply Ad | apply Aa | apply Ae | refine Ah ?_ GE214.out) | exact HB.out)) hb); clear BK214; clear HB; have BK214 := n0_; have HB := n1_; clear n0_ n1_; (try clear hb); (try clear hb2); (try clear hk); (try clear hi); have hcz8_0 : w7.cell? ⟨gb214, 0, none⟩ = some (.slice A0_0 l0_0.length c0_0) := (Ag BK214.out 0).trans rfl; have hcz8_1 : w7.cell? ⟨gb214, 1, none⟩ = some (.int .i64 a0_1) := (Ag BK214.out 1).trans rfl; have hcz8_2 : w7.cell? ⟨gb214, 2, none⟩ = some (.slice A0_2 l0_2.length c0_2) := (Ag BK214.out 2).trans rfl; have hcz8_3 : w7.cell? ⟨gb214, 3, none⟩ = some (.string a0_3) := (Ag BK214.out 3).trans rfl; have hcz8_4 : w7.cell? ⟨gb214, 4, none⟩ = some (.string a0_4) := (Ag BK214.out 4).trans rfl; have hcz8_5 : w7.cell? ⟨gb214, 5, none⟩ = some (.int .i64 a0_5) := (Ag BK214.out 5).trans rfl; have hfz8_0 := Af BK214.out 0; have hfz8_1 := Af BK214.out 1; have hfz8_2 := Af BK214.out 2; have hfz8_3 := Af BK214.out 3; have hfz8_4 := Af BK214.out 4; have hfz8_5 := Af BK214.out 5) | (go_at_call 21; (with_reducible refine (Gw.calls k a0_3 a0_4 a0_5 t216 _ A4.out).mono ?_); rintro e w9 ⟨rfl, hb⟩; have n0_ := Ac.mk (Az (g := gb214) (o := .cells #[.slice A0_0 l0_0.length c0_0, .int .i64 a0_1, .slice A0_2 l0_2.length c0_2, .string a0_3, .string a0_4, .int .i64 a0_5] 41 (0, 0)) (by (with_reducible repeat (first | refine Aj ?_ _ | refine Ak ?_ | refine Ai ?_ _)); exact BK214.out) hb); have n1_ := Ac.mk (Ap (by repeat (first | (with_reducible first | exact HB.out | apply Ad | apply Aa | apply Ae | refine Ah ?_ GE214.out) | exact HB.out)) hb); clear BK214; clear HB; have BK214 := n0_; have HB := n1_; clear n0_ n1_; (try clear hb); (try clear hb2); (try clear hk); (try clear hi)))
    go_ret
    exact ⟨by first | rfl | (simp [Aq, Au] <;> rfl) | (simp [*, Aq, Au] <;> rfl), by repeat (first | (with_reducible first | exact HB.out | apply Ad | apply Aa | apply Ae | refine Ah ?_ GE214.out) | exact HB.out)⟩
  · replace c3 := Bool.eq_false_iff.mpr c3
    subst c3
    have H1 : (some false) = some r := by rw [if_neg (show ¬ (false = true) by decide)] at H; exact H
    clear H
    have H := H1
    clear H1
    obtain rfl := Option.some.inj H
    go_enter Tryd.func11, Tryd.ntmps11
    go_wp2_with (first | ((with_reducible refine Bd (N := 1) rfl ?_); refine Bc ?hg (N := 1) ?hd (cs := #[.slice A0_0 l0_0.length c0_0, .int .i64 a0_1, .slice A0_2 l0_2.length c0_2, .string a0_3, .string a0_4, .int .i64 a0_5]) (t := 41) ?hr ?_; (case hd => rfl); (case hg => rfl); (case hr => first | (go_simp; done) | (go_simp; rfl)); intro gb214 hg w10 hbox hb; have n0_ := Ac.mk (Ap (by repeat (first | (with_reducible first | exact HB.out | apply Ad | apply Aa | apply Ae) | exact HB.out)) hb); have n1_ := Ac.mk (hbox); have n2_ := Ac.mk ((by rw [hg]; exact (Am (by repeat (first | (with_reducible first | exact HB.out | apply Ad | apply Aa | apply Ae) | exact HB.out))) : w.heap.size ≤ gb214)); have n3_ := Ac.mk ((by rw [hg]; exact (Am (by repeat (first | (with_reducible first | exact HB.out | apply Ad | apply Aa | apply Ae) | exact HB.out))) : w.heap.size ≤ gb214)); clear HB; have HB := n0_; have BK214 := n1_; have GW214 := n2_; have GE214 := n3_; clear n0_ n1_ n2_ n3_; clear hb hbox hg; have hcz11_0 : w10.cell? ⟨gb214, 0, none⟩ = some (.slice A0_0 l0_0.length c0_0) := (Ag BK214.out 0).trans rfl; have hcz11_1 : w10.cell? ⟨gb214, 1, none⟩ = some (.int .i64 a0_1) := (Ag BK214.out 1).trans rfl; have hcz11_2 : w10.cell? ⟨gb214, 2, none⟩ = some (.slice A0_2 l0_2.length c0_2) := (Ag BK214.out 2).trans rfl; have hcz11_3 : w10.cell? ⟨gb214, 3, none⟩ = some (.string a0_3) := (Ag BK214.out 3).trans rfl; have hcz11_4 : w10.cell? ⟨gb214, 4, none⟩ = some (.string a0_4) := (Ag BK214.out 4).trans rfl; have hcz11_5 : w10.cell? ⟨gb214, 5, none⟩ = some (.int .i64 a0_5) := (Ag BK214.out 5).trans rfl; have hfz11_0 := Af BK214.out 0; have hfz11_1 := Af BK214.out 1; have hfz11_2 := Af BK214.out 2; have hfz11_3 := Af BK214.out 3; have hfz11_4 := Af BK214.out 4; have hfz11_5 := Af BK214.out 5) | ((with_reducible refine Aw (f := 20) rfl ?_); refine Be (some 5) rfl rfl Tryd.func20 (by kernel_rfl) rfl #[.agg #[.slice A0_0 l0_0.length c0_0, .int .i64 a0_1, .slice A0_2 l0_2.length c0_2]] rfl (by (try simp only [List.map_toArray, List.map_cons, List.map_nil]); first | done | rfl | (simp only [List.length_drop, List.length_take]; rfl)) ?_; (with_reducible refine (Bf.calls k _ _ l0_0 a0_1 _ _ l0_2 false _ ?side1 ?side2 ?side3 ?side4 A2.out).mono ?_); (case side1 => repeat (first | exact (Kd.C9 HR0_0.out HB.out) | (with_reducible refine Kd.Bl ?_ _) | (with_reducible refine Kd.Bj ?_ _) | (with_reducible refine Kd.Ce ?_))); (case side2 => exact HC0_0.out); (case side3 => repeat (first | exact (Kd.C9 HR0_2.out HB.out) | (with_reducible refine Kd.Bl ?_ _) | (with_reducible refine Kd.Bj ?_ _) | (with_reducible refine Kd.Ce ?_))); (case side4 => exact HC0_2.out); rintro e w12 ⟨rfl, hb⟩; refine ⟨_, rfl, ?_⟩; have n0_ := Ac.mk (Az (g := gb214) (o := .cells #[.slice A0_0 l0_0.length c0_0, .int .i64 a0_1, .slice A0_2 l0_2.length c0_2, .string a0_3, .string a0_4, .int .i64 a0_5] 41 (0, 0)) (by (with_reducible repeat (first | refine Aj ?_ _ | refine Ak ?_ | refine Ai ?_ _)); exact BK214.out) hb); have n1_ := Ac.mk (Ap (by repeat (first | (with_reducible first | exact HB.out | apply Ad | apply Aa | apply Ae | refine Ah ?_ GE214.out) | exact HB.out)) hb); clear BK214; clear HB; have BK214 := n0_; have HB := n1_; clear n0_ n1_; (try clear hb); (try clear hb2); (try clear hk); (try clear hi)))
    go_ret
    exact ⟨by first | rfl | (simp [Aq, Au] <;> rfl) | (simp [*, Aq, Au] <;> rfl), by repeat (first | (with_reducible first | exact HB.out | apply Ad | apply Aa | apply Ae | refine Ah ?_ GE214.out) | exact HB.out)⟩
end Go.Proofs.YtcnmngiaebgjkaaDoor.X

namespace Go.Proofs.YtcnmngiaebgjkaaDoor.X
open Go.RowKit Go.Proofs.YtcnmngiaebgjkaaDoorW.PrintWords Go.Proofs.YtcnmngiaebgjkaaDoorW.PrintLast Go.Proofs.YtcnmngiaebgjkaaDoorW.PrintMore
attribute [local go_sem] Dn Dk D5 Dz Cj Cm Dj Dl
open Go.Proofs.YtcnmngiaebgjkaaDoorG
def Fg.f (k : Nat) (l0_0 : List (List Int)) (a0_1 : Int) (l0_2 : List (List Int)) (a0_3 : ByteArray) (a0_4 : ByteArray) (a0_5 : Int) : Option (Bool) := (Hm.f k l0_0 a0_1 l0_2 a0_3 a0_4 a0_5).bind fun t218 => (some t218)
theorem Fg.mono : ∀ a0 a1 a2 a3 a4 a5 k, LeO (Fg.f k a0 a1 a2 a3 a4 a5) (Fg.f (k + 1) a0 a1 a2 a3 a4 a5) := by
  intro a0 a1 a2 a3 a4 a5 k
  unfold Fg.f
  repeat' first
      | (with_reducible exact Hm.mono _ _ _ _ _ _ _)
      | (with_reducible exact LeO.refl _)
      | (with_reducible exact LeO.none _)
      | (with_reducible refine LeO.ite ?_ ?_)
      | (with_reducible refine LeO.bind ?_ (fun _ => ?_))
      | exact Hm.mono _ _ _ _ _ _ _
      | exact LeO.none _
      | refine LeO.ite ?_ ?_
      | refine LeO.bind ?_ (fun _ => ?_)
set_option maxHeartbeats 8000000 in
set_option maxRecDepth 100000 in
theorem Fg.calls (k : Nat) (A0_0 : Option Addr) (c0_0 : Nat) (l0_0 : List (List Int)) (a0_1 : Int) (A0_2 : Option Addr) (c0_2 : Nat) (l0_2 : List (List Int)) (a0_3 : ByteArray) (a0_4 : ByteArray) (a0_5 : Int) (r : Bool) (w : World) (hr0_0 : Kd.C (Kd.slice 3 (Kd.int .i64)) w A0_0 l0_0.length l0_0) (hc0_0 : l0_0.length ≤ c0_0) (hr0_2 : Kd.C (Kd.slice 3 (Kd.int .i64)) w A0_2 l0_2.length l0_2) (hc0_2 : l0_2.length ≤ c0_2) (h : Fg.f k l0_0 a0_1 l0_2 a0_3 a0_4 a0_5 = some r) :
    Calls Tryd.prog 5 #[.agg #[.slice A0_0 l0_0.length c0_0, .int .i64 a0_1, .slice A0_2 l0_2.length c0_2, .string a0_3, .string a0_4, .int .i64 a0_5]] w fun e w' => e = .returned (.bool r) ∧ Below w.heap.size w w' := by
  have hu41 := Tryd.underlying41
  have HR0_0 := Ac.mk hr0_0
  have HC0_0 := Ac.mk hc0_0
  clear hr0_0 hc0_0
  have HR0_2 := Ac.mk hr0_2
  have HC0_2 := Ac.mk hc0_2
  clear hr0_2 hc0_2
  have HB := Ac.mk (Below.refl w.heap.size w)
  have H : ((Hm.f k l0_0 a0_1 l0_2 a0_3 a0_4 a0_5).bind fun t218 => (some t218)) = some r := h
  clear h
  replace H := Option.bind_eq_some_iff.mp H
  obtain ⟨t218, A20, H⟩ := H
  replace H : (some t218) = some r := H
  have A2 := Ac.mk A20
  clear A20
  obtain rfl := Option.some.inj H
  go_enter Tryd.func5, Tryd.ntmps5
  go_wp2_with (first | ((with_reducible refine Bd (N := 1) rfl ?_); refine Bc ?hg (N := 1) ?hd (cs := #[.slice A0_0 l0_0.length c0_0, .int .i64 a0_1, .slice A0_2 l0_2.length c0_2, .string a0_3, .string a0_4, .int .i64 a0_5]) (t := 41) ?hr ?_; (case hd => rfl); (case hg => rfl); (case hr => first | (go_simp; done) | (go_simp; rfl)); intro gb217 hg w3 hbox hb; have n0_ := Ac.mk (Ap (by repeat (first | (with_reducible first | exact HB.out | apply Ad | apply Aa | apply Ae) | exact HB.out)) hb); have n1_ := Ac.mk (hbox); have n2_ := Ac.mk ((by rw [hg]; exact (Am (by repeat (first | (with_reducible first | exact HB.out | apply Ad | apply Aa | apply Ae) | exact HB.out))) : w.heap.size ≤ gb217)); have n3_ := Ac.mk ((by rw [hg]; exact (Am (by repeat (first | (with_reducible first | exact HB.out | apply Ad | apply Aa | apply Ae) | exact HB.out))) : w.heap.size ≤ gb217)); clear HB; have HB := n0_; have BK217 := n1_; have GW217 := n2_; have GE217 := n3_; clear n0_ n1_ n2_ n3_; clear hb hbox hg; have hcz4_0 : w3.cell? ⟨gb217, 0, none⟩ = some (.slice A0_0 l0_0.length c0_0) := (Ag BK217.out 0).trans rfl; have hcz4_1 : w3.cell? ⟨gb217, 1, none⟩ = some (.int .i64 a0_1) := (Ag BK217.out 1).trans rfl; have hcz4_2 : w3.cell? ⟨gb217, 2, none⟩ = some (.slice A0_2 l0_2.length c0_2) := (Ag BK217.out 2).trans rfl; have hcz4_3 : w3.cell? ⟨gb217, 3, none⟩ = some (.string a0_3) := (Ag BK217.out 3).trans rfl; have hcz4_4 : w3.cell? ⟨gb217, 4, none⟩ = some (.string a0_4) := (Ag BK217.out 4).trans rfl; have hcz4_5 : w3.cell? ⟨gb217, 5, none⟩ = some (.int .i64 a0_5) := (Ag BK217.out 5).trans rfl; have hfz4_0 := Af BK217.out 0; have hfz4_1 := Af BK217.out 1; have hfz4_2 := Af BK217.out 2; have hfz4_3 := Af BK217.out 3; have hfz4_4 := Af BK217.out 4; have hfz4_5 := Af BK217.out 5) | ((with_reducible refine Aw (f := 11) rfl ?_); refine Be (some 4) rfl rfl Tryd.func11 (by kernel_rfl) rfl #[.agg #[.slice A0_0 l0_0.length c0_0, .int .i64 a0_1, .slice A0_2 l0_2.length c0_2, .string a0_3, .string a0_4, .int .i64 a0_5]] rfl (by (try simp only [List.map_toArray, List.map_cons, List.map_nil]); first | done | rfl | (simp only [List.length_drop, List.length_take]; rfl)) ?_; (with_reducible refine (Hm.calls k _ _ l0_0 a0_1 _ _ l0_2 a0_3 a0_4 a0_5 t218 _ ?side1 ?side2 ?side3 ?side4 A2.out).mono ?_); (case side1 => repeat (first | exact (Kd.C9 HR0_0.out HB.out) | (with_reducible refine Kd.Bl ?_ _) | (with_reducible refine Kd.Bj ?_ _) | (with_reducible refine Kd.Ce ?_))); (case side2 => exact HC0_0.out); (case side3 => repeat (first | exact (Kd.C9 HR0_2.out HB.out) | (with_reducible refine Kd.Bl ?_ _) | (with_reducible refine Kd.Bj ?_ _) | (with_reducible refine Kd.Ce ?_))); (case side4 => exact HC0_2.out); rintro e w5 ⟨rfl, hb⟩; refine ⟨_, rfl, ?_⟩; have n0_ := Ac.mk (Az (g := gb217) (o := .cells #[.slice A0_0 l0_0.length c0_0, .int .i64 a0_1, .slice A0_2 l0_2.length c0_2, .string a0_3, .string a0_4, .int .i64 a0_5] 41 (0, 0)) (by (with_reducible repeat (first | refine Aj ?_ _ | refine Ak ?_ | refine Ai ?_ _)); exact BK217.out) hb); have n1_ := Ac.mk (Ap (by repeat (first | (with_reducible first | exact HB.out | apply Ad | apply Aa | apply Ae | refine Ah ?_ GE217.out) | exact HB.out)) hb); clear BK217; clear HB; have BK217 := n0_; have HB := n1_; clear n0_ n1_; (try clear hb); (try clear hb2); (try clear hk); (try clear hi)))
  go_ret
  exact ⟨by first | rfl | (simp [Aq, Au] <;> rfl) | (simp [*, Aq, Au] <;> rfl), by repeat (first | (with_reducible first | exact HB.out | apply Ad | apply Aa | apply Ae | refine Ah ?_ GE217.out) | exact HB.out)⟩
end Go.Proofs.YtcnmngiaebgjkaaDoor.X

namespace Go.Proofs.YtcnmngiaebgjkaaDoor.X
open Go.RowKit Go.Proofs.YtcnmngiaebgjkaaDoorW.PrintWords Go.Proofs.YtcnmngiaebgjkaaDoorW.PrintLast Go.Proofs.YtcnmngiaebgjkaaDoorW.PrintMore
attribute [local go_sem] Dn Dk D5 Dz Cj Cm Dj Dl
open Go.Proofs.YtcnmngiaebgjkaaDoorG
def Ep.l0 : Nat → List Int → List Int → Int → Option (List Int)
  | 0, _, _, _ => none
  | k + 1, x0, x3, x4 => if x4 < (x0.length : Int) then (if 0 ≤ x4 then (if x4 < (x3.length : Int) then (Ep.l0 k x0 (x3.set (x4 : Int).toNat (rd x0 x4)) (wrap64 (x4 + 1))) else (none)) else (none)) else (some x3)
def Ep.f (k : Nat) (l0 : List Int) : Option (List Int) := if 0 ≤ (l0.length : Int) then (if ((l0.length : Int) : Int).toNat ≤ 35184372088832 then (Ep.l0 k l0 (List.replicate ((l0.length : Int) : Int).toNat 0) 0) else (none)) else (none)
theorem Ep.Ei : ∀ k, (∀ y0 y1 y2, LeO (Ep.l0 k y0 y1 y2) (Ep.l0 (k + 1) y0 y1 y2))
  | 0 => fun _ _ _ r h => by simp [Ep.l0] at h
  | k + 1 => by
    have ih0 := Ep.Ei k
    · intro y0 y1 y2
      unfold Ep.l0
      repeat' first
      | (with_reducible exact ih0 _ _ _)
      | (with_reducible exact LeO.refl _)
      | (with_reducible exact LeO.none _)
      | (with_reducible refine LeO.ite ?_ ?_)
      | (with_reducible refine LeO.bind ?_ (fun _ => ?_))
      | exact ih0 _ _ _
      | exact LeO.none _
      | refine LeO.ite ?_ ?_
      | refine LeO.bind ?_ (fun _ => ?_)
theorem Ep.mono : ∀ a0 k, LeO (Ep.f k a0) (Ep.f (k + 1) a0) := by
  intro a0 k
  have ih0 := Ep.Ei k
  unfold Ep.f
  repeat' first
      | (with_reducible exact ih0 _ _ _)
      | (with_reducible exact LeO.refl _)
      | (with_reducible exact LeO.none _)
      | (with_reducible refine LeO.ite ?_ ?_)
      | (with_reducible refine LeO.bind ?_ (fun _ => ?_))
      | exact ih0 _ _ _
      | exact LeO.none _
      | refine LeO.ite ?_ ?_
      | refine LeO.bind ?_ (fun _ => ?_)
set_option maxHeartbeats 8000000 in
set_option maxRecDepth 100000 in
theorem Ep.calls (k : Nat) (A0 : Option Addr) (c0 : Nat) (l0 : List Int) (r : List Int) (w : World) (hr0 : Kd.C (Kd.int .i64) w A0 l0.length l0) (hc0 : l0.length ≤ c0) (h : Ep.f k l0 = some r) :
    Calls Tryd.prog 45 #[.slice A0 l0.length c0] w fun e w' => ∃ v0_ : Value, e = .returned (v0_) ∧ Kd.R (Kd.int .i64) 3 w' w.heap.size (fun _ => True) v0_ r ∧ Below w.heap.size w w' := by
  have HR0 := Ac.mk hr0
  have HC0 := Ac.mk hc0
  clear hr0 hc0
  have HB := Ac.mk (Below.refl w.heap.size w)
  have H : (if 0 ≤ (l0.length : Int) then (if ((l0.length : Int) : Int).toNat ≤ 35184372088832 then (Ep.l0 k l0 (List.replicate ((l0.length : Int) : Int).toNat 0) 0) else (none)) else (none)) = some r := h
  clear h
  by_cases c2 : 0 ≤ (l0.length : Int)
  · rw [if_pos c2] at H
    have c2b0 := eq_true c2
    have c2b1 : decide (0 ≤ (l0.length : Int)) = true := decide_eq_true c2
    clear c2
    by_cases c3 : ((l0.length : Int) : Int).toNat ≤ 35184372088832
    · rw [if_pos c3] at H
      have c3b0 := eq_true c3
      have c3b1 : decide (((l0.length : Int) : Int).toNat ≤ 35184372088832) = true := decide_eq_true c3
      clear c3
      obtain ⟨y219, hy219⟩ : ∃ y_ : List Int, y_ = (List.replicate ((l0.length : Int) : Int).toNat 0) := ⟨_, rfl⟩
      replace H : (Ep.l0 k l0 y219 0) = some r := by first | (rw [hy219]; with_reducible exact H) | (have H2_ := (Option.bind_some _ _).symm.trans H; rw [hy219]; with_reducible exact H2_) | (have H2_ := (Option.bind_some _ _).symm.trans H; with_reducible exact H2_) | with_reducible exact H | (rw [hy219]; exact H) | exact H
      have Ny219 := Ac.mk hy219
      clear hy219
      have H' := Ac.mk H
      clear H
      go_enter Tryd.func45, Tryd.ntmps45
      go_wp2_with (first | ((with_reducible refine Bd (N := 7) rfl ?_); refine Kd.R_make (Kd.int .i64) _ 3 rfl (N := 7) rfl 59 _ _ rfl (l0.length : Int) rfl rfl Tryd.underlying59 (.int .i64 0) 8 info3 rfl (by decide) (by omega) 0 (ok := fun _ => True) (okp := fun _ => True) rfl (fun _ hk => hk) trivial (of_decide_eq_true (by first | (with_reducible assumption) | assumption)) (Nat.le_trans (Nat.mul_le_mul_right _ (of_decide_eq_true (by first | (with_reducible assumption) | assumption) : (l0.length : Int).toNat ≤ 35184372088832)) (by omega)) (Below.refl _ _) (Nat.le_refl _) ?_; intro v220 w4 ho5 hb hg_ hnew_; clear hg_ hnew_; (first | rw [← Ny219.out] at ho5 | (simp only [Int.reduceToNat] at ho5; rw [← Ny219.out] at ho5)); have n0_ := Ac.mk (Kd.Gj ho5 (Am (by repeat (first | (with_reducible first | exact HB.out | apply Ad | apply Aa | apply Ae) | exact HB.out)))); have n1_ := Ac.mk (Ap (by repeat (first | (with_reducible first | exact HB.out | apply Ad | apply Aa | apply Ae) | exact HB.out)) hb); clear HB; have HO221 := n0_; have HB := n1_; clear n0_ n1_; clear hb ho5))
      go_loopg [4] k (fun kq v4 w' => ∃ (x3_1 : List Int) (x4_1 : Int), v4 = .int .i64 x4_1 ∧ Ac (Ep.l0 kq l0 x3_1 x4_1 = some r) ∧ Ac (kq ≤ k) ∧ Ac (Kd.R (Kd.int .i64) 3 w' w.heap.size (fun _ => True) v220 x3_1) ∧ Ac (Below w.heap.size w w'))
      case atStart => exact ⟨(y219), (0), (by first | rfl | (simp; done) | (simp [*]; done)), H', ⟨Nat.le_refl _⟩, ⟨by (with_reducible repeat (first | apply Kd.Dw | apply Kd.Dx | apply Kd.Ef)); exact HO221.out⟩, ⟨by repeat (first | (with_reducible first | exact HB.out | apply Ad | apply Aa | apply Ae) | exact HB.out)⟩⟩
      case round =>
        clear H'
        try clear c2
        try clear c2b0
        try clear c2b1
        try clear p2
        try clear c3
        try clear c3b0
        try clear c3b1
        try clear c4
        obtain ⟨x3_1, x4_1, rfl, HA, HK1, HO_3, HB⟩ := hrel
        cases gk with
        | zero => exact absurd HA.out (by simp [Ep.l0])
        | succ k1 =>
          have H := HA.out
          clear HA
          simp only [Ep.l0] at H
          by_cases c6 : x4_1 < (l0.length : Int)
          · rw [if_pos c6] at H
            have c6b0 : decide (x4_1 < (l0.length : Int)) = true := decide_eq_true c6
            clear c6
            by_cases c7 : 0 ≤ x4_1
            · rw [if_pos c7] at H
              have c7b0 : decide (0 ≤ x4_1) = true := decide_eq_true c7
              clear c7
              by_cases c8 : x4_1 < (x3_1.length : Int)
              · rw [if_pos c8] at H
                have c8b0 : decide (x4_1 < (x3_1.length : Int)) = true := decide_eq_true c8
                clear c8
                obtain ⟨y223, hy223⟩ : ∃ y_ : List Int, y_ = (x3_1.set (x4_1 : Int).toNat (rd l0 x4_1)) := ⟨_, rfl⟩
                replace H : (Ep.l0 k1 l0 y223 (wrap64 (x4_1 + 1))) = some r := by first | (rw [hy223]; with_reducible exact H) | (have H2_ := (Option.bind_some _ _).symm.trans H; rw [hy223]; with_reducible exact H2_) | (have H2_ := (Option.bind_some _ _).symm.trans H; with_reducible exact H2_) | with_reducible exact H | (rw [hy223]; exact H) | exact H
                have Ny223 := Ac.mk hy223
                clear hy223
                have H' := Ac.mk H
                clear H
                have p222 : 0 ≤ (x4_1 : Int) := of_decide_eq_true (by first | (with_reducible assumption) | assumption)
                have q222 : x4_1 < (l0.length : Int) := of_decide_eq_true (by first | (with_reducible assumption) | assumption)
                obtain ⟨ad222, e222, hx222_0⟩ := Kd.Ho HR0.out x4_1 p222 q222
                cases e222
                replace hx222_0 := (HB.out.cell (World.block_lt_of_cell? w _ hx222_0)).trans hx222_0
                replace p222 := eq_true p222
                replace q222 := eq_true q222
                have p9 : 0 ≤ (x4_1 : Int) := of_decide_eq_true (by first | (with_reducible assumption) | assumption)
                have q9 : (x4_1 : Int) < ((x3_1.length : Int) : Int) := of_decide_eq_true (by first | (with_reducible assumption) | assumption)
                obtain ⟨go9, co9, eo9, gb9, gl9, cl9, HG9⟩ := Kd.R_form HO_3.out (by omega)
                (first | cases eo9 | (injection eo9 with ea_ en_ ec_; (first | subst ea_ | (injection ea_ with ea_; subst ea_)); subst ec_; clear en_))
                have GB9 := Ac.mk gb9
                have GG9 := Ac.mk HG9
                clear gb9 gl9 HG9
                obtain ⟨hx9_0, hf9_0⟩ := Kd.R_celln 0 HO_3.out (x4_1 : Int) p9 q9
                replace p9 := eq_true p9
                replace q9 := eq_true q9
                have HP10 := Kd.R_putg HO_3.out (x4_1 : Int) (rd l0 x4_1)
                go_wp2_with (first | ((with_reducible refine gate_store (t := 3) (p := 20) rfl ?_); refine store_event (t := 3) (p := 20) (v := ?vo_w11) (w1 := (wr.setCell ⟨go9, (x4_1 : Int).toNat, none⟩ (.int .i64 (rd l0 x4_1)))) ?hg ?ho ?hn ?hr ?_; (case ho => rfl); (case hg => rfl); (case hn => rfl); (case hr => first | (go_simp; done) | (go_simp; rfl)); intro w11 hw; have hg : wr.grownBy w11 (some go9) := (by rw [hw]; exact HP10.2); have hp_ : Kd.R (Kd.int .i64) 3 w11 w.heap.size (fun _ => True) (.slice (some ⟨go9, 0, none⟩) x3_1.length co9) y223 := (by rw [hw, Ny223.out]; exact HP10.1); clear HP10; have n0_ := Ac.mk (hp_); have n1_ := Ac.mk ((by rw [hw]; exact Ah (HB.out) GB9.out : Below w.heap.size w w11)); clear HO_3; clear HB; have HO_3 := n0_; have HB := n1_; clear n0_ n1_; clear hg hw hp_))
                go_roundg k1
                case measure => have := HK1.out; omega
                case rel => exact ⟨(y223), (wrap64 (x4_1 + 1)), (by first | rfl | (simp; done) | (simp [*]; done)), H', ⟨by have := HK1.out; omega⟩, ⟨by (with_reducible repeat (first | apply Kd.Dw | apply Kd.Dx | apply Kd.Ef)); exact HO_3.out⟩, ⟨by repeat (first | (with_reducible first | exact HB.out | apply Ad | apply Aa | apply Ae) | exact HB.out)⟩⟩
              · rw [if_neg c8] at H
                exact absurd H (by simp)
            · rw [if_neg c7] at H
              exact absurd H (by simp)
          · rw [if_neg c6] at H
            have c6b0 : decide (x4_1 < (l0.length : Int)) = false := decide_eq_false c6
            clear c6
            obtain rfl := Option.some.inj H
            go_wp2
            go_ret
            exact ⟨_, by first | rfl | (simp [Aq, Au] <;> rfl) | (simp [*, Aq, Au] <;> rfl), by (with_reducible repeat (first | apply Kd.Dw | apply Kd.Dx | apply Kd.Ef)); exact HO_3.out, by repeat (first | (with_reducible first | exact HB.out | apply Ad | apply Aa | apply Ae) | exact HB.out)⟩
    · rw [if_neg c3] at H
      exact absurd H (by simp)
  · rw [if_neg c2] at H
    exact absurd H (by simp)
end Go.Proofs.YtcnmngiaebgjkaaDoor.X

namespace Go.Proofs.YtcnmngiaebgjkaaDoor.X
open Go.RowKit Go.Proofs.YtcnmngiaebgjkaaDoorW.PrintWords Go.Proofs.YtcnmngiaebgjkaaDoorW.PrintLast Go.Proofs.YtcnmngiaebgjkaaDoorW.PrintMore
attribute [local go_sem] Dn Dk D5 Dz Cj Cm Dj Dl
open Go.Proofs.YtcnmngiaebgjkaaDoorG
def D9.l0 : Nat → List (List Int) → List (List Int) → Int → Option ((List (List Int)))
  | 0, _, _, _ => none
  | k + 1, x0, x3, x4 => if x4 < (x0.length : Int) then (if 0 ≤ x4 then ((Ep.f k (Bo x0 x4)).bind fun t228 => (if x4 < (x3.length : Int) then (D9.l0 k x0 (x3.set (x4 : Int).toNat t228) (wrap64 (x4 + 1))) else (none))) else (none)) else (some x3)
def D9.f (k : Nat) (l0 : List (List Int)) : Option ((List (List Int))) := if 0 ≤ (l0.length : Int) then (if ((l0.length : Int) : Int).toNat ≤ 11728124029610 then (D9.l0 k l0 (List.replicate ((l0.length : Int) : Int).toNat []) 0) else (none)) else (none)
theorem D9.Ei : ∀ k, (∀ y0 y1 y2, LeO (D9.l0 k y0 y1 y2) (D9.l0 (k + 1) y0 y1 y2))
  | 0 => fun _ _ _ r h => by simp [D9.l0] at h
  | k + 1 => by
    have ih0 := D9.Ei k
    · intro y0 y1 y2
      unfold D9.l0
      repeat' first
      | (with_reducible exact ih0 _ _ _)
      | (with_reducible exact Ep.mono _ _)
      | (with_reducible exact LeO.refl _)
      | (with_reducible exact LeO.none _)
      | (with_reducible refine LeO.ite ?_ ?_)
      | (with_reducible refine LeO.bind ?_ (fun _ => ?_))
      | exact ih0 _ _ _
      | exact Ep.mono _ _
      | exact LeO.none _
      | refine LeO.ite ?_ ?_
      | refine LeO.bind ?_ (fun _ => ?_)
theorem D9.mono : ∀ a0 k, LeO (D9.f k a0) (D9.f (k + 1) a0) := by
  intro a0 k
  have ih0 := D9.Ei k
  unfold D9.f
  repeat' first
      | (with_reducible exact ih0 _ _ _)
      | (with_reducible exact Ep.mono _ _)
      | (with_reducible exact LeO.refl _)
      | (with_reducible exact LeO.none _)
      | (with_reducible refine LeO.ite ?_ ?_)
      | (with_reducible refine LeO.bind ?_ (fun _ => ?_))
      | exact ih0 _ _ _
      | exact Ep.mono _ _
      | exact LeO.none _
      | refine LeO.ite ?_ ?_
      | refine LeO.bind ?_ (fun _ => ?_)
set_option maxHeartbeats 8000000 in
set_option maxRecDepth 100000 in
theorem D9.calls (k : Nat) (A0 : Option Addr) (c0 : Nat) (l0 : List (List Int)) (r : List (List Int)) (w : World) (hr0 : Kd.C (Kd.slice 3 (Kd.int .i64)) w A0 l0.length l0) (hc0 : l0.length ≤ c0) (h : D9.f k l0 = some r) :
    Calls Tryd.prog 35 #[.slice A0 l0.length c0] w fun e w' => ∃ v0_ : Value, e = .returned (v0_) ∧ Kd.S (Kd.slice 3 (Kd.int .i64)) 59 w' w.heap.size (fun _ => True) v0_ r ∧ Below w.heap.size w w' := by
  have HR0 := Ac.mk hr0
  have HC0 := Ac.mk hc0
  clear hr0 hc0
  have HB := Ac.mk (Below.refl w.heap.size w)
  have H : (if 0 ≤ (l0.length : Int) then (if ((l0.length : Int) : Int).toNat ≤ 11728124029610 then (D9.l0 k l0 (List.replicate ((l0.length : Int) : Int).toNat []) 0) else (none)) else (none)) = some r := h
  clear h
  by_cases c2 : 0 ≤ (l0.length : Int)
  · rw [if_pos c2] at H
    have c2b0 := eq_true c2
    have c2b1 : decide (0 ≤ (l0.length : Int)) = true := decide_eq_true c2
    clear c2
    by_cases c3 : ((l0.length : Int) : Int).toNat ≤ 11728124029610
    · rw [if_pos c3] at H
      have c3b0 := eq_true c3
      have c3b1 : decide (((l0.length : Int) : Int).toNat ≤ 11728124029610) = true := decide_eq_true c3
      clear c3
      obtain ⟨y224, hy224⟩ : ∃ y_ : List (List Int), y_ = (List.replicate ((l0.length : Int) : Int).toNat []) := ⟨_, rfl⟩
      replace H : (D9.l0 k l0 y224 0) = some r := by first | (rw [hy224]; with_reducible exact H) | (have H2_ := (Option.bind_some _ _).symm.trans H; rw [hy224]; with_reducible exact H2_) | (have H2_ := (Option.bind_some _ _).symm.trans H; with_reducible exact H2_) | with_reducible exact H | (rw [hy224]; exact H) | exact H
      have Ny224 := Ac.mk hy224
      clear hy224
      have H' := Ac.mk H
      clear H
      go_enter Tryd.func35, Tryd.ntmps35
      go_wp2_with (first | ((with_reducible refine Bd (N := 7) rfl ?_); refine Kd.S_make (Kd.slice 3 (Kd.int .i64)) _ 59 rfl (N := 7) rfl 22 _ _ rfl (l0.length : Int) rfl rfl Tryd.underlying22 (.slice none 0 0) 24 info59 rfl (by decide) (by omega) [] (ok := fun _ => True) (okp := fun _ => True) ⟨_, rfl, Kd.R_nil _ _ _ _ _⟩ (fun _ hk => hk) trivial (of_decide_eq_true (by first | (with_reducible assumption) | assumption)) (Nat.le_trans (Nat.mul_le_mul_right _ (of_decide_eq_true (by first | (with_reducible assumption) | assumption) : (l0.length : Int).toNat ≤ 11728124029610)) (by omega)) (Below.refl _ _) (Nat.le_refl _) ?_; intro v225 w4 ho5 hb hg_ hnew_; clear hg_ hnew_; (first | rw [← Ny224.out] at ho5 | (simp only [Int.reduceToNat] at ho5; rw [← Ny224.out] at ho5)); have n0_ := Ac.mk (Kd.Ik ho5 (Am (by repeat (first | (with_reducible first | exact HB.out | apply Ad | apply Aa | apply Ae) | exact HB.out)))); have n1_ := Ac.mk (Ap (by repeat (first | (with_reducible first | exact HB.out | apply Ad | apply Aa | apply Ae) | exact HB.out)) hb); clear HB; have HO226 := n0_; have HB := n1_; clear n0_ n1_; clear hb ho5))
      go_loopg [4] k (fun kq v4 w' => ∃ (x3_1 : List (List Int)) (x4_1 : Int), v4 = .int .i64 x4_1 ∧ Ac (D9.l0 kq l0 x3_1 x4_1 = some r) ∧ Ac (kq ≤ k) ∧ Ac (Kd.S (Kd.slice 3 (Kd.int .i64)) 59 w' w.heap.size (fun _ => True) v225 x3_1) ∧ Ac (Below w.heap.size w w'))
      case atStart => exact ⟨(y224), (0), (by first | rfl | (simp; done) | (simp [*]; done)), H', ⟨Nat.le_refl _⟩, ⟨by (with_reducible repeat (first | apply Kd.Ey | apply Kd.Ew | apply Kd.Ez)); exact HO226.out⟩, ⟨by repeat (first | (with_reducible first | exact HB.out | apply Ad | apply Aa | apply Ae) | exact HB.out)⟩⟩
      case round =>
        clear H'
        try clear c2
        try clear c2b0
        try clear c2b1
        try clear p2
        try clear c3
        try clear c3b0
        try clear c3b1
        obtain ⟨x3_1, x4_1, rfl, HA, HK1, HO_3, HB⟩ := hrel
        cases gk with
        | zero => exact absurd HA.out (by simp [D9.l0])
        | succ k1 =>
          have H := HA.out
          clear HA
          simp only [D9.l0] at H
          by_cases c6 : x4_1 < (l0.length : Int)
          · rw [if_pos c6] at H
            have c6b0 : decide (x4_1 < (l0.length : Int)) = true := decide_eq_true c6
            clear c6
            by_cases c7 : 0 ≤ x4_1
            · rw [if_pos c7] at H
              have c7b0 : decide (0 ≤ x4_1) = true := decide_eq_true c7
              clear c7
              replace H := Option.bind_eq_some_iff.mp H
              obtain ⟨t228, A80, H⟩ := H
              replace H : (if x4_1 < (x3_1.length : Int) then (D9.l0 k1 l0 (x3_1.set (x4_1 : Int).toNat t228) (wrap64 (x4_1 + 1))) else (none)) = some r := H
              have A8 := Ac.mk A80
              clear A80
              by_cases c9 : x4_1 < (x3_1.length : Int)
              · rw [if_pos c9] at H
                have c9b0 : decide (x4_1 < (x3_1.length : Int)) = true := decide_eq_true c9
                clear c9
                obtain ⟨y231, hy231⟩ : ∃ y_ : List (List Int), y_ = (x3_1.set (x4_1 : Int).toNat t228) := ⟨_, rfl⟩
                replace H : (D9.l0 k1 l0 y231 (wrap64 (x4_1 + 1))) = some r := by first | (rw [hy231]; with_reducible exact H) | (have H2_ := (Option.bind_some _ _).symm.trans H; rw [hy231]; with_reducible exact H2_) | (have H2_ := (Option.bind_some _ _).symm.trans H; with_reducible exact H2_) | with_reducible exact H | (rw [hy231]; exact H) | exact H
                have Ny231 := Ac.mk hy231
                clear hy231
                have H' := Ac.mk H
                clear H
                have p227 : 0 ≤ (x4_1 : Int) := of_decide_eq_true (by first | (with_reducible assumption) | assumption)
                have q227 : x4_1 < (l0.length : Int) := of_decide_eq_true (by first | (with_reducible assumption) | assumption)
                obtain ⟨ad227, A227_0, c227_0, e227, hx227_0, hl227_0, hi227_0⟩ := Gm HR0.out x4_1 p227 q227
                cases e227
                replace hx227_0 := (HB.out.cell (World.block_lt_of_cell? w _ hx227_0)).trans hx227_0
                have HR227_0 := Ac.mk hi227_0
                have HC227_0 := Ac.mk hl227_0
                clear hi227_0 hl227_0
                replace p227 := eq_true p227
                replace q227 := eq_true q227
                go_wp2_with (first | ((with_reducible refine Aw (f := 45) rfl ?_); refine Be (some 20) rfl rfl Tryd.func45 (by kernel_rfl) rfl #[.slice A227_0 (Bo l0 x4_1).length c227_0] rfl (by (try simp only [List.map_toArray, List.map_cons, List.map_nil]); first | done | rfl | (simp only [List.length_drop, List.length_take]; rfl)) ?_; (with_reducible refine (Ep.calls k1 _ _ (Bo l0 x4_1) t228 _ ?side1 ?side2 A8.out).mono ?_); (case side1 => repeat (first | exact (Kd.C9 HR227_0.out HB.out) | (with_reducible refine Kd.Bl ?_ _) | (with_reducible refine Kd.Bj ?_ _) | (with_reducible refine Kd.Ce ?_))); (case side2 => exact HC227_0.out); rintro e w11 ⟨v229, rfl, ho0, hb⟩; refine ⟨_, rfl, ?_⟩; have n0_ := Ac.mk (Kd.S_elder' (by (with_reducible repeat (first | apply Kd.Ey | apply Kd.Ew | apply Kd.Ez)); exact HO_3.out) (Kd.R_base ho0) hb); have n1_ := Ac.mk (Kd.Gj ho0 (Am (by repeat (first | (with_reducible first | exact HB.out | apply Ad | apply Aa | apply Ae) | exact HB.out)))); have n2_ := Ac.mk (Ap (by repeat (first | (with_reducible first | exact HB.out | apply Ad | apply Aa | apply Ae) | exact HB.out)) hb); clear HO_3; clear HB; have HO_3 := n0_; have HO230 := n1_; have HB := n2_; clear n0_ n1_ n2_; (try clear hb); (try clear hb2); (try clear hk); (try clear hi); (try clear ho0); have p10 : 0 ≤ (x4_1 : Int) := of_decide_eq_true (by first | (with_reducible assumption) | assumption); have q10 : (x4_1 : Int) < ((x3_1.length : Int) : Int) := of_decide_eq_true (by first | (with_reducible assumption) | assumption); obtain ⟨go10, co10, eo10, gb10, gl10, cl10, HG10⟩ := Kd.S_form HO_3.out (by omega); (first | cases eo10 | (injection eo10 with ea_ en_ ec_; (first | subst ea_ | (injection ea_ with ea_; subst ea_)); subst ec_; clear en_)); have GB10 := Ac.mk gb10; have GG10 := Ac.mk HG10; clear gb10 gl10 HG10; obtain ⟨_, ce10, hcl10, hM10, hcc10, hfr10, _, _⟩ := Kd.S_elem HO_3.out [] (x4_1 : Int) p10 q10; obtain ⟨ve10_0, rfl, ge10_0⟩ := hM10; have hx10_0 := hcc10 0 _ rfl; have hf10_0 := hfr10 0; (try simp only [show ((Kd.slice 3 (Kd.int .i64))).sz = 1 from rfl, Nat.mul_one, Nat.add_zero] at hx10_0); (try simp only [show ((Kd.slice 3 (Kd.int .i64))).sz = 1 from rfl, Nat.mul_one, Nat.add_zero] at hf10_0); (try clear hcl10); (try clear hcc10); (try clear hfr10); (try clear hM10); replace p10 := eq_true p10; replace q10 := eq_true q10; have n_ := Ac.mk (Kd.Gy (ok' := (fun k_ => some k_ ≠ (v229 : Value).ownBlock)) HO_3.out (fun k_ hk => hk.2)); clear HO_3; have HO_3 := n_; clear n_; have HX12 := Ac.mk (show Kd.S (Kd.slice 3 (Kd.int .i64)) 59 w11 w.heap.size (fun k_ => ((fun _ => True)) k_ ∧ ¬ ((fun k_ => some k_ = (v229 : Value).ownBlock)) k_) (.slice (some ⟨go10, 0, none⟩) x3_1.length co10) x3_1 from (by (with_reducible repeat (first | apply Kd.Ey | apply Kd.Ew | apply Kd.Ez)); exact Kd.Gy HO_3.out (fun k_ hk => ⟨trivial, fun e_ => hk e_⟩))); obtain ⟨oki12, ce12, hcl12, hM12, hcc12, hfr12, hoki12, hH12⟩ := Kd.S_elem HX12.out [] (x4_1 : Int) (of_decide_eq_true (by first | (with_reducible assumption) | assumption)) (by have h_ : (x4_1 : Int) < ((x3_1.length : Int) : Int) := of_decide_eq_true (by first | (with_reducible assumption) | assumption); first | exact h_ | (have e_ := (Kd.Hf HO_3.out).1; omega) | simpa using h_); obtain ⟨ve12_0, rfl, ge12_0⟩ := hM12; have HP12 := Kd.S_seg hH12 (of_decide_eq_true (by first | (with_reducible assumption) | assumption)) (by have h_ : (x4_1 : Int) < ((x3_1.length : Int) : Int) := of_decide_eq_true (by first | (with_reducible assumption) | assumption); first | exact h_ | (have e_ := (Kd.Hf HO_3.out).1; omega) | simpa using h_) (seg := [v229]) (j := 0) (show 1 ≤ 1 from by decide) (x' := t228) (Kd.M_row (Kd.Gt (Kd.R_tight rfl (Kd.Gt (ok' := fun k_ => ((fun _ => True)) k_ ∧ k_ ≠ go10) (Kd.R_apart' (HO230.out) (Kd.S_typed HO_3.out) (by decide)) (fun k_ hk => ⟨trivial, fun e_ => (hk.2) (by rw [e_]; rfl)⟩))) (fun _ h_ => Or.inr (h_)))) (fun _ hk => hk) (fun k_ hk_ => ((Kd.Gt (ok' := fun k_ => ((fun _ => True)) k_ ∧ k_ ≠ go10) (Kd.R_apart' (HO230.out) (Kd.S_typed HO_3.out) (by decide)) (fun k_ hk => ⟨trivial, fun e_ => (hk.2) (by rw [e_]; rfl)⟩))).1 k_ hk_.symm); have hx12_0 := hcc12 0 _ rfl; (try simp only [show ((Kd.slice 3 (Kd.int .i64))).sz = 1 from rfl, Nat.mul_one, Nat.add_zero] at hx12_0); have hf12_0 := hfr12 0; (try simp only [show ((Kd.slice 3 (Kd.int .i64))).sz = 1 from rfl, Nat.mul_one, Nat.add_zero] at hf12_0); (try clear hcl12); (try clear hcc12); (try clear hfr12); (try clear hM12); (try clear hoki12); (try clear hH12); (try simp only [show ((Kd.slice 3 (Kd.int .i64))).sz = 1 from rfl, Nat.mul_one, Nat.add_zero] at HP12)) | ((with_reducible refine gate_store (t := 59) (p := 21) rfl ?_); refine store_event (t := 59) (p := 21) (v := ?vo_w13) (w1 := (w11.setCell ⟨go10, (x4_1 : Int).toNat, none⟩ (v229))) ?hg ?ho ?hn ?hr ?_; (case ho => rfl); (case hg => rfl); (case hn => rfl); (case hr => first | (go_simp; done) | (go_simp; rfl) | (obtain ⟨Ax_, cx_, ex_⟩ := Kd.Gq HO230.out; rw [ex_]; first | (go_simp; done) | (go_simp; rfl))); intro w13 hw; have hg : w11.grownBy w13 (some go10) := (by rw [hw]; exact HP12.2); have hp_ : Kd.S (Kd.slice 3 (Kd.int .i64)) 59 w13 w.heap.size (fun _ => True) (.slice (some ⟨go10, 0, none⟩) x3_1.length co10) y231 := (by rw [hw, Ny231.out]; exact HP12.1); clear HP12; have n0_ := Ac.mk (hp_); have n1_ := Ac.mk ((by rw [hw]; exact Ah (HB.out) GB10.out : Below w.heap.size w w13)); clear HO_3; clear HB; clear HO230; have HO_3 := n0_; have HB := n1_; clear n0_ n1_; clear hg hw hp_))
                go_roundg k1
                case measure => have := HK1.out; omega
                case rel => exact ⟨(y231), (wrap64 (x4_1 + 1)), (by first | rfl | (simp; done) | (simp [*]; done)), H', ⟨by have := HK1.out; omega⟩, ⟨by (with_reducible repeat (first | apply Kd.Ey | apply Kd.Ew | apply Kd.Ez)); exact HO_3.out⟩, ⟨by repeat (first | (with_reducible first | exact HB.out | apply Ad | apply Aa | apply Ae) | exact HB.out)⟩⟩
              · rw [if_neg c9] at H
                exact absurd H (by simp)
            · rw [if_neg c7] at H
              exact absurd H (by simp)
          · rw [if_neg c6] at H
            have c6b0 : decide (x4_1 < (l0.length : Int)) = false := decide_eq_false c6
            clear c6
            obtain rfl := Option.some.inj H
            go_wp2
            go_ret
            exact ⟨_, by first | rfl | (simp [Aq, Au] <;> rfl) | (simp [*, Aq, Au] <;> rfl), by (with_reducible repeat (first | apply Kd.Ey | apply Kd.Ew | apply Kd.Ez)); exact HO_3.out, by repeat (first | (with_reducible first | exact HB.out | apply Ad | apply Aa | apply Ae) | exact HB.out)⟩
    · rw [if_neg c3] at H
      exact absurd H (by simp)
  · rw [if_neg c2] at H
    exact absurd H (by simp)
end Go.Proofs.YtcnmngiaebgjkaaDoor.X

namespace Go.Proofs.YtcnmngiaebgjkaaDoor.X
open Go.RowKit Go.Proofs.YtcnmngiaebgjkaaDoorW.PrintWords Go.Proofs.YtcnmngiaebgjkaaDoorW.PrintLast Go.Proofs.YtcnmngiaebgjkaaDoorW.PrintMore
attribute [local go_sem] Dn Dk D5 Dz Cj Cm Dj Dl
open Go.Proofs.YtcnmngiaebgjkaaDoorG
def Hu.f (k : Nat) (l0_0 : List (List Int)) : Option ((List (List Int))) := (D9.f k l0_0).bind fun t235 => (some t235)
theorem Hu.mono : ∀ a0 k, LeO (Hu.f k a0) (Hu.f (k + 1) a0) := by
  intro a0 k
  unfold Hu.f
  repeat' first
      | (with_reducible exact D9.mono _ _)
      | (with_reducible exact LeO.refl _)
      | (with_reducible exact LeO.none _)
      | (with_reducible refine LeO.ite ?_ ?_)
      | (with_reducible refine LeO.bind ?_ (fun _ => ?_))
      | exact D9.mono _ _
      | exact LeO.none _
      | refine LeO.ite ?_ ?_
      | refine LeO.bind ?_ (fun _ => ?_)
set_option maxHeartbeats 8000000 in
set_option maxRecDepth 100000 in
theorem Hu.calls (k : Nat) (A0_0 : Option Addr) (c0_0 : Nat) (l0_0 : List (List Int)) (r : List (List Int)) (w : World) (hr0_0 : Kd.C (Kd.slice 3 (Kd.int .i64)) w A0_0 l0_0.length l0_0) (hc0_0 : l0_0.length ≤ c0_0) (h : Hu.f k l0_0 = some r) :
    Calls Tryd.prog 22 #[.agg #[.slice A0_0 l0_0.length c0_0]] w fun e w' => ∃ v0_ : Value, e = .returned (.agg #[v0_]) ∧ Kd.S (Kd.slice 3 (Kd.int .i64)) 59 w' w.heap.size (fun _ => True) v0_ r ∧ Below w.heap.size w w' := by
  have hu24 := Tryd.underlying24
  have hu35 := Tryd.underlying35
  have HR0_0 := Ac.mk hr0_0
  have HC0_0 := Ac.mk hc0_0
  clear hr0_0 hc0_0
  have HB := Ac.mk (Below.refl w.heap.size w)
  have H : ((D9.f k l0_0).bind fun t235 => (some t235)) = some r := h
  clear h
  replace H := Option.bind_eq_some_iff.mp H
  obtain ⟨t235, A20, H⟩ := H
  replace H : (some t235) = some r := H
  have A2 := Ac.mk A20
  clear A20
  obtain rfl := Option.some.inj H
  go_enter Tryd.func22, Tryd.ntmps22
  go_wp2_with (first | ((with_reducible refine Bd (N := 1) rfl ?_); refine Bc ?hg (N := 1) ?hd (cs := #[.slice A0_0 l0_0.length c0_0]) (t := 24) ?hr ?_; (case hd => rfl); (case hg => rfl); (case hr => first | (go_simp; done) | (go_simp; rfl)); intro gb232 hg w3 hbox hb; have n0_ := Ac.mk (Ap (by repeat (first | (with_reducible first | exact HB.out | apply Ad | apply Aa | apply Ae) | exact HB.out)) hb); have n1_ := Ac.mk (hbox); have n2_ := Ac.mk ((by rw [hg]; exact (Am (by repeat (first | (with_reducible first | exact HB.out | apply Ad | apply Aa | apply Ae) | exact HB.out))) : w.heap.size ≤ gb232)); have n3_ := Ac.mk ((by rw [hg]; exact (Am (by repeat (first | (with_reducible first | exact HB.out | apply Ad | apply Aa | apply Ae) | exact HB.out))) : w.heap.size ≤ gb232)); clear HB; have HB := n0_; have BK232 := n1_; have GW232 := n2_; have GE232 := n3_; clear n0_ n1_ n2_ n3_; clear hb hbox hg) | ((with_reducible refine Bd (N := 2) rfl ?_); refine Bc ?hg (N := 2) ?hd (cs := #[.slice none 0 0]) (t := 35) ?hr ?_; (case hd => rfl); (case hg => rfl); (case hr => first | (go_simp; done) | (go_simp; rfl)); intro gb233 hg w4 hbox hb; have n0_ := Ac.mk (Az (g := gb232) (o := .cells #[.slice A0_0 l0_0.length c0_0] 24 (0, 0)) (by (with_reducible repeat (first | refine Aj ?_ _ | refine Ak ?_ | refine Ai ?_ _)); exact BK232.out) hb); have n1_ := Ac.mk (Ap (by repeat (first | (with_reducible first | exact HB.out | apply Ad | apply Aa | apply Ae | refine Ah ?_ GE232.out) | exact HB.out)) hb); have n2_ := Ac.mk (hbox); have n3_ := Ac.mk ((by rw [hg]; exact (Am (by repeat (first | (with_reducible first | exact HB.out | apply Ad | apply Aa | apply Ae | refine Ah ?_ GE232.out) | exact HB.out))) : w.heap.size ≤ gb233)); have n4_ := Ac.mk ((by rw [hg]; exact (Am (by repeat (first | (with_reducible first | exact HB.out | apply Ad | apply Aa | apply Ae | refine Ah ?_ GE232.out) | exact HB.out))) : w.heap.size ≤ gb233)); have n5_ := Ac.mk ((by rw [hg]; exact Nat.ne_of_lt (Dv (g := gb232) (o := .cells #[.slice A0_0 l0_0.length c0_0] 24 (0, 0)) (by (with_reducible repeat (first | refine Aj ?_ _ | refine Ak ?_ | refine Ai ?_ _)); exact BK232.out)) : gb232 ≠ gb233)); have n6_ := Ac.mk ((by rw [hg]; exact Nat.ne_of_gt (Dv (g := gb232) (o := .cells #[.slice A0_0 l0_0.length c0_0] 24 (0, 0)) (by (with_reducible repeat (first | refine Aj ?_ _ | refine Ak ?_ | refine Ai ?_ _)); exact BK232.out)) : gb233 ≠ gb232)); clear BK232; clear HB; have BK232 := n0_; have HB := n1_; have BK233 := n2_; have GW233 := n3_; have GE233 := n4_; have NB232_233 := n5_; have NB233_232 := n6_; clear n0_ n1_ n2_ n3_ n4_ n5_ n6_; clear hb hbox hg) | ((with_reducible refine Bd (N := 3) rfl ?_); refine Bc ?hg (N := 3) ?hd (cs := #[.slice none 0 0]) (t := 35) ?hr ?_; (case hd => rfl); (case hg => rfl); (case hr => first | (go_simp; done) | (go_simp; rfl)); intro gb234 hg w5 hbox hb; have n0_ := Ac.mk (Az (g := gb232) (o := .cells #[.slice A0_0 l0_0.length c0_0] 24 (0, 0)) (by (with_reducible repeat (first | refine Aj ?_ _ | refine Ak ?_ | refine Ai ?_ _)); exact BK232.out) hb); have n1_ := Ac.mk (Az (g := gb233) (o := .cells #[.slice none 0 0] 35 (0, 0)) (by (with_reducible repeat (first | refine Aj ?_ _ | refine Ak ?_ | refine Ai ?_ _)); exact BK233.out) hb); have n2_ := Ac.mk (Ap (by repeat (first | (with_reducible first | exact HB.out | apply Ad | apply Aa | apply Ae | refine Ah ?_ GE232.out | refine Ah ?_ GE233.out) | exact HB.out)) hb); have n3_ := Ac.mk (hbox); have n4_ := Ac.mk ((by rw [hg]; exact (Am (by repeat (first | (with_reducible first | exact HB.out | apply Ad | apply Aa | apply Ae | refine Ah ?_ GE232.out | refine Ah ?_ GE233.out) | exact HB.out))) : w.heap.size ≤ gb234)); have n5_ := Ac.mk ((by rw [hg]; exact (Am (by repeat (first | (with_reducible first | exact HB.out | apply Ad | apply Aa | apply Ae | refine Ah ?_ GE232.out | refine Ah ?_ GE233.out) | exact HB.out))) : w.heap.size ≤ gb234)); have n6_ := Ac.mk ((by rw [hg]; exact Nat.ne_of_lt (Dv (g := gb232) (o := .cells #[.slice A0_0 l0_0.length c0_0] 24 (0, 0)) (by (with_reducible repeat (first | refine Aj ?_ _ | refine Ak ?_ | refine Ai ?_ _)); exact BK232.out)) : gb232 ≠ gb234)); have n7_ := Ac.mk ((by rw [hg]; exact Nat.ne_of_gt (Dv (g := gb232) (o := .cells #[.slice A0_0 l0_0.length c0_0] 24 (0, 0)) (by (with_reducible repeat (first | refine Aj ?_ _ | refine Ak ?_ | refine Ai ?_ _)); exact BK232.out)) : gb234 ≠ gb232)); have n8_ := Ac.mk ((by rw [hg]; exact Nat.ne_of_lt (Dv (g := gb233) (o := .cells #[.slice none 0 0] 35 (0, 0)) (by (with_reducible repeat (first | refine Aj ?_ _ | refine Ak ?_ | refine Ai ?_ _)); exact BK233.out)) : gb233 ≠ gb234)); have n9_ := Ac.mk ((by rw [hg]; exact Nat.ne_of_gt (Dv (g := gb233) (o := .cells #[.slice none 0 0] 35 (0, 0)) (by (with_reducible repeat (first | refine Aj ?_ _ | refine Ak ?_ | refine Ai ?_ _)); exact BK233.out)) : gb234 ≠ gb233)); clear BK232; clear BK233; clear HB; have BK232 := n0_; have BK233 := n1_; have HB := n2_; have BK234 := n3_; have GW234 := n4_; have GE234 := n5_; have NB232_234 := n6_; have NB234_232 := n7_; have NB233_234 := n8_; have NB234_233 := n9_; clear n0_ n1_ n2_ n3_ n4_ n5_ n6_ n7_ n8_ n9_; clear hb hbox hg; have hnb6 := NB232_233.out; have hnc6 := NB233_232.out; have hnb7 := NB232_234.out; have hnc7 := NB234_232.out; have hcz8_0 : w5.cell? ⟨gb232, 0, none⟩ = some (.slice A0_0 l0_0.length c0_0) := (Ag BK232.out 0).trans rfl; have hfz8_0 := Af BK232.out 0) | ((with_reducible refine Aw (f := 35) rfl ?_); refine Be (some 6) rfl rfl Tryd.func35 (by kernel_rfl) rfl #[.slice A0_0 l0_0.length c0_0] rfl (by (try simp only [List.map_toArray, List.map_cons, List.map_nil]); first | done | rfl | (simp only [List.length_drop, List.length_take]; rfl)) ?_; (with_reducible refine (D9.calls k _ _ l0_0 t235 _ ?side1 ?side2 A2.out).mono ?_); (case side1 => repeat (first | exact (Kd.C9 HR0_0.out HB.out) | (with_reducible refine Kd.Bl ?_ _) | (with_reducible refine Kd.Bj ?_ _) | (with_reducible refine Kd.Ce ?_))); (case side2 => exact HC0_0.out); rintro e w9 ⟨v236, rfl, ho0, hb⟩; refine ⟨_, rfl, ?_⟩; have n0_ := Ac.mk (Kd.Ik ho0 (Am (by repeat (first | (with_reducible first | exact HB.out | apply Ad | apply Aa | apply Ae | refine Ah ?_ GE232.out | refine Ah ?_ GE233.out | refine Ah ?_ GE234.out) | exact HB.out)))); have n1_ := Ac.mk (Az (g := gb232) (o := .cells #[.slice A0_0 l0_0.length c0_0] 24 (0, 0)) (by (with_reducible repeat (first | refine Aj ?_ _ | refine Ak ?_ | refine Ai ?_ _)); exact BK232.out) hb); have n2_ := Ac.mk (Az (g := gb233) (o := .cells #[.slice none 0 0] 35 (0, 0)) (by (with_reducible repeat (first | refine Aj ?_ _ | refine Ak ?_ | refine Ai ?_ _)); exact BK233.out) hb); have n3_ := Ac.mk (Az (g := gb234) (o := .cells #[.slice none 0 0] 35 (0, 0)) (by (with_reducible repeat (first | refine Aj ?_ _ | refine Ak ?_ | refine Ai ?_ _)); exact BK234.out) hb); have n4_ := Ac.mk (Ap (by repeat (first | (with_reducible first | exact HB.out | apply Ad | apply Aa | apply Ae | refine Ah ?_ GE232.out | refine Ah ?_ GE233.out | refine Ah ?_ GE234.out) | exact HB.out)) hb); clear BK232; clear BK233; clear BK234; clear HB; have HO237 := n0_; have BK232 := n1_; have BK233 := n2_; have BK234 := n3_; have HB := n4_; clear n0_ n1_ n2_ n3_ n4_; (try clear hb); (try clear hb2); (try clear hk); (try clear hi); (try clear ho0); obtain ⟨Ao10, co10, eo10⟩ := Kd.Iu HO237.out; subst eo10; have hnb11 := NB234_233.out; have hnc11 := NB233_234.out; have hcz12_0 : w9.cell? ⟨gb234, 0, none⟩ = some (.slice none 0 0) := (Ag BK234.out 0).trans rfl; have hfz12_0 := Af BK234.out 0; have hcz13_0 : w9.cell? ⟨gb233, 0, none⟩ = some (.slice none 0 0) := (Ag BK233.out 0).trans rfl; have hfz13_0 := Af BK233.out 0))
  refine bodyPost_ret (results_cell_row rfl _ _ gb233 35 #[.slice Ao10 t235.length co10] (0, 0) _ rfl (by (with_reducible repeat (first | refine Aj ?_ _ | refine Ak ?_ | refine Ai ?_ _)); refine Ed (cs := #[.slice none 0 0]) ?_ 0 _ rfl; (with_reducible repeat (first | refine Aj ?_ _ | refine Ak ?_ | refine Ai ?_ _)); refine Fa ?_ NB233_234.out _; (with_reducible repeat (first | refine Aj ?_ _ | refine Ak ?_ | refine Ai ?_ _)); exact BK233.out) Tryd.underlying35 rfl (by kernel_rfl)) rfl ?_
  exact ⟨_, by first | rfl | (simp [Aq, Au] <;> rfl) | (simp [*, Aq, Au] <;> rfl), by (with_reducible repeat (first | apply Kd.Ey | apply Kd.Ew | apply Kd.Ez)); exact Kd.Gy (Kd.Eo (p := ⟨gb233, 0, none⟩) (Kd.Eo (p := ⟨gb234, 0, none⟩) (Kd.G8 (Kd.G8 HO237.out BK234.out (by decide)) BK233.out (by decide)) (fun _ hk => hk.1.2) (.slice Ao10 t235.length co10)) (fun _ hk => hk.2) (.slice Ao10 t235.length co10)) (fun _ hk => trivial), by repeat (first | (with_reducible first | exact HB.out | apply Ad | apply Aa | apply Ae | refine Ah ?_ GE232.out | refine Ah ?_ GE233.out | refine Ah ?_ GE234.out) | exact HB.out)⟩
end Go.Proofs.YtcnmngiaebgjkaaDoor.X

namespace Go.Proofs.YtcnmngiaebgjkaaDoor.X
open Go.RowKit Go.Proofs.YtcnmngiaebgjkaaDoorW.PrintWords Go.Proofs.YtcnmngiaebgjkaaDoorW.PrintLast Go.Proofs.YtcnmngiaebgjkaaDoorW.PrintMore
attribute [local go_sem] Dn Dk D5 Dz Cj Cm Dj Dl
open Go.Proofs.YtcnmngiaebgjkaaDoorG
def Hw.f (k : Nat) (a0_0 : Int) (l0_1 : List (List Int)) : Option (Int × (List (List Int))) := (D9.f k l0_1).bind fun t241 => (some (a0_0, t241))
theorem Hw.mono : ∀ a0 a1 k, LeO (Hw.f k a0 a1) (Hw.f (k + 1) a0 a1) := by
  intro a0 a1 k
  unfold Hw.f
  repeat' first
      | (with_reducible exact D9.mono _ _)
      | (with_reducible exact LeO.refl _)
      | (with_reducible exact LeO.none _)
      | (with_reducible refine LeO.ite ?_ ?_)
      | (with_reducible refine LeO.bind ?_ (fun _ => ?_))
      | exact D9.mono _ _
      | exact LeO.none _
      | refine LeO.ite ?_ ?_
      | refine LeO.bind ?_ (fun _ => ?_)
set_option maxHeartbeats 8000000 in
set_option maxRecDepth 100000 in
theorem Hw.calls (k : Nat) (a0_0 : Int) (A0_1 : Option Addr) (c0_1 : Nat) (l0_1 : List (List Int)) (r1 : Int) (r2 : List (List Int)) (w : World) (hr0_1 : Kd.C (Kd.slice 3 (Kd.int .i64)) w A0_1 l0_1.length l0_1) (hc0_1 : l0_1.length ≤ c0_1) (h : Hw.f k a0_0 l0_1 = some (r1, r2)) :
    Calls Tryd.prog 23 #[.agg #[.int .i64 a0_0, .slice A0_1 l0_1.length c0_1]] w fun e w' => ∃ v1_ : Value, e = .returned (.agg #[.int .i64 r1, v1_]) ∧ Kd.S (Kd.slice 3 (Kd.int .i64)) 59 w' w.heap.size (fun _ => True) v1_ r2 ∧ Below w.heap.size w w' := by
  have hu26 := Tryd.underlying26
  have hu36 := Tryd.underlying36
  have HR0_1 := Ac.mk hr0_1
  have HC0_1 := Ac.mk hc0_1
  clear hr0_1 hc0_1
  have HB := Ac.mk (Below.refl w.heap.size w)
  have H : ((D9.f k l0_1).bind fun t241 => (some (a0_0, t241))) = some (r1, r2) := h
  clear h
  replace H := Option.bind_eq_some_iff.mp H
  obtain ⟨t241, A20, H⟩ := H
  replace H : (some (a0_0, t241)) = some (r1, r2) := H
  have A2 := Ac.mk A20
  clear A20
  simp only [Option.some.injEq, Prod.mk.injEq] at H
  obtain ⟨rfl, rfl⟩ := H
  go_enter Tryd.func23, Tryd.ntmps23
  go_wp2_with (first | ((with_reducible refine Bd (N := 1) rfl ?_); refine Bc ?hg (N := 1) ?hd (cs := #[.int .i64 a0_0, .slice A0_1 l0_1.length c0_1]) (t := 26) ?hr ?_; (case hd => rfl); (case hg => rfl); (case hr => first | (go_simp; done) | (go_simp; rfl)); intro gb238 hg w3 hbox hb; have n0_ := Ac.mk (Ap (by repeat (first | (with_reducible first | exact HB.out | apply Ad | apply Aa | apply Ae) | exact HB.out)) hb); have n1_ := Ac.mk (hbox); have n2_ := Ac.mk ((by rw [hg]; exact (Am (by repeat (first | (with_reducible first | exact HB.out | apply Ad | apply Aa | apply Ae) | exact HB.out))) : w.heap.size ≤ gb238)); have n3_ := Ac.mk ((by rw [hg]; exact (Am (by repeat (first | (with_reducible first | exact HB.out | apply Ad | apply Aa | apply Ae) | exact HB.out))) : w.heap.size ≤ gb238)); clear HB; have HB := n0_; have BK238 := n1_; have GW238 := n2_; have GE238 := n3_; clear n0_ n1_ n2_ n3_; clear hb hbox hg) | ((with_reducible refine Bd (N := 2) rfl ?_); refine Bc ?hg (N := 2) ?hd (cs := #[.int .i64 0, .slice none 0 0]) (t := 36) ?hr ?_; (case hd => rfl); (case hg => rfl); (case hr => first | (go_simp; done) | (go_simp; rfl)); intro gb239 hg w4 hbox hb; have n0_ := Ac.mk (Az (g := gb238) (o := .cells #[.int .i64 a0_0, .slice A0_1 l0_1.length c0_1] 26 (0, 0)) (by (with_reducible repeat (first | refine Aj ?_ _ | refine Ak ?_ | refine Ai ?_ _)); exact BK238.out) hb); have n1_ := Ac.mk (Ap (by repeat (first | (with_reducible first | exact HB.out | apply Ad | apply Aa | apply Ae | refine Ah ?_ GE238.out) | exact HB.out)) hb); have n2_ := Ac.mk (hbox); have n3_ := Ac.mk ((by rw [hg]; exact (Am (by repeat (first | (with_reducible first | exact HB.out | apply Ad | apply Aa | apply Ae | refine Ah ?_ GE238.out) | exact HB.out))) : w.heap.size ≤ gb239)); have n4_ := Ac.mk ((by rw [hg]; exact (Am (by repeat (first | (with_reducible first | exact HB.out | apply Ad | apply Aa | apply Ae | refine Ah ?_ GE238.out) | exact HB.out))) : w.heap.size ≤ gb239)); have n5_ := Ac.mk ((by rw [hg]; exact Nat.ne_of_lt (Dv (g := gb238) (o := .cells #[.int .i64 a0_0, .slice A0_1 l0_1.length c0_1] 26 (0, 0)) (by (with_reducible repeat (first | refine Aj ?_ _ | refine Ak ?_ | refine Ai ?_ _)); exact BK238.out)) : gb238 ≠ gb239)); have n6_ := Ac.mk ((by rw [hg]; exact Nat.ne_of_gt (Dv (g := gb238) (o := .cells #[.int .i64 a0_0, .slice A0_1 l0_1.length c0_1] 26 (0, 0)) (by (with_reducible repeat (first | refine Aj ?_ _ | refine Ak ?_ | refine Ai ?_ _)); exact BK238.out)) : gb239 ≠ gb238)); clear BK238; clear HB; have BK238 := n0_; have HB := n1_; have BK239 := n2_; have GW239 := n3_; have GE239 := n4_; have NB238_239 := n5_; have NB239_238 := n6_; clear n0_ n1_ n2_ n3_ n4_ n5_ n6_; clear hb hbox hg) | ((with_reducible refine Bd (N := 3) rfl ?_); refine Bc ?hg (N := 3) ?hd (cs := #[.int .i64 0, .slice none 0 0]) (t := 36) ?hr ?_; (case hd => rfl); (case hg => rfl); (case hr => first | (go_simp; done) | (go_simp; rfl)); intro gb240 hg w5 hbox hb; have n0_ := Ac.mk (Az (g := gb238) (o := .cells #[.int .i64 a0_0, .slice A0_1 l0_1.length c0_1] 26 (0, 0)) (by (with_reducible repeat (first | refine Aj ?_ _ | refine Ak ?_ | refine Ai ?_ _)); exact BK238.out) hb); have n1_ := Ac.mk (Az (g := gb239) (o := .cells #[.int .i64 0, .slice none 0 0] 36 (0, 0)) (by (with_reducible repeat (first | refine Aj ?_ _ | refine Ak ?_ | refine Ai ?_ _)); exact BK239.out) hb); have n2_ := Ac.mk (Ap (by repeat (first | (with_reducible first | exact HB.out | apply Ad | apply Aa | apply Ae | refine Ah ?_ GE238.out | refine Ah ?_ GE239.out) | exact HB.out)) hb); have n3_ := Ac.mk (hbox); have n4_ := Ac.mk ((by rw [hg]; exact (Am (by repeat (first | (with_reducible first | exact HB.out | apply Ad | apply Aa | apply Ae | refine Ah ?_ GE238.out | refine Ah ?_ GE239.out) | exact HB.out))) : w.heap.size ≤ gb240)); have n5_ := Ac.mk ((by rw [hg]; exact (Am (by repeat (first | (with_reducible first | exact HB.out | apply Ad | apply Aa | apply Ae | refine Ah ?_ GE238.out | refine Ah ?_ GE239.out) | exact HB.out))) : w.heap.size ≤ gb240)); have n6_ := Ac.mk ((by rw [hg]; exact Nat.ne_of_lt (Dv (g := gb238) (o := .cells #[.int .i64 a0_0, .slice A0_1 l0_1.length c0_1] 26 (0, 0)) (by (with_reducible repeat (first | refine Aj ?_ _ | refine Ak ?_ | refine Ai ?_ _)); exact BK238.out)) : gb238 ≠ gb240)); have n7_ := Ac.mk ((by rw [hg]; exact Nat.ne_of_gt (Dv (g := gb238) (o := .cells #[.int .i64 a0_0, .slice A0_1 l0_1.length c0_1] 26 (0, 0)) (by (with_reducible repeat (first | refine Aj ?_ _ | refine Ak ?_ | refine Ai ?_ _)); exact BK238.out)) : gb240 ≠ gb238)); have n8_ := Ac.mk ((by rw [hg]; exact Nat.ne_of_lt (Dv (g := gb239) (o := .cells #[.int .i64 0, .slice none 0 0] 36 (0, 0)) (by (with_reducible repeat (first | refine Aj ?_ _ | refine Ak ?_ | refine Ai ?_ _)); exact BK239.out)) : gb239 ≠ gb240)); have n9_ := Ac.mk ((by rw [hg]; exact Nat.ne_of_gt (Dv (g := gb239) (o := .cells #[.int .i64 0, .slice none 0 0] 36 (0, 0)) (by (with_reducible repeat (first | refine Aj ?_ _ | refine Ak ?_ | refine Ai ?_ _)); exact BK239.out)) : gb240 ≠ gb239)); clear BK238; clear BK239; clear HB; have BK238 := n0_; have BK239 := n1_; have HB := n2_; have BK240 := n3_; have GW240 := n4_; have GE240 := n5_; have NB238_240 := n6_; have NB240_238 := n7_; have NB239_240 := n8_; have NB240_239 := n9_; clear n0_ n1_ n2_ n3_ n4_ n5_ n6_ n7_ n8_ n9_; clear hb hbox hg; have hnb6 := NB238_239.out; have hnc6 := NB239_238.out; have hnb7 := NB238_240.out; have hnc7 := NB240_238.out; have hcz8_0 : w5.cell? ⟨gb238, 0, none⟩ = some (.int .i64 a0_0) := (Ag BK238.out 0).trans rfl; have hcz8_1 : w5.cell? ⟨gb238, 1, none⟩ = some (.slice A0_1 l0_1.length c0_1) := (Ag BK238.out 1).trans rfl; have hfz8_0 := Af BK238.out 0; have hfz8_1 := Af BK238.out 1; have hnb9 := NB240_239.out; have hnc9 := NB239_240.out; have hcz10_0 : w5.cell? ⟨gb240, 0, none⟩ = some (.int .i64 0) := (Ag BK240.out 0).trans rfl; have hcz10_1 : w5.cell? ⟨gb240, 1, none⟩ = some (.slice none 0 0) := (Ag BK240.out 1).trans rfl; have hfz10_0 := Af BK240.out 0; have hfz10_1 := Af BK240.out 1) | ((with_reducible refine Aw (f := 35) rfl ?_); refine Be (some 9) rfl rfl Tryd.func35 (by kernel_rfl) rfl #[.slice A0_1 l0_1.length c0_1] rfl (by (try simp only [List.map_toArray, List.map_cons, List.map_nil]); first | done | rfl | (simp only [List.length_drop, List.length_take]; rfl)) ?_; (with_reducible refine (D9.calls k _ _ l0_1 t241 _ ?side1 ?side2 A2.out).mono ?_); (case side1 => exact Kd.C9 HR0_1.out (by repeat (first | (with_reducible first | exact HB.out | apply Ad | apply Aa | apply Ae | refine Ah ?_ GE238.out | refine Ah ?_ GE239.out | refine Ah ?_ GE240.out) | exact HB.out))); (case side2 => exact HC0_1.out); rintro e w11 ⟨v242, rfl, ho0, hb⟩; refine ⟨_, rfl, ?_⟩; have n0_ := Ac.mk (Kd.Ik ho0 (Am (by repeat (first | (with_reducible first | exact HB.out | apply Ad | apply Aa | apply Ae | refine Ah ?_ GE238.out | refine Ah ?_ GE239.out | refine Ah ?_ GE240.out) | exact HB.out)))); have n1_ := Ac.mk (Az (g := gb238) (o := .cells #[.int .i64 a0_0, .slice A0_1 l0_1.length c0_1] 26 (0, 0)) (by (with_reducible repeat (first | refine Aj ?_ _ | refine Ak ?_ | refine Ai ?_ _)); refine Fa ?_ NB238_240.out _; (with_reducible repeat (first | refine Aj ?_ _ | refine Ak ?_ | refine Ai ?_ _)); exact BK238.out) hb); have n2_ := Ac.mk (Az (g := gb239) (o := .cells #[.int .i64 0, .slice none 0 0] 36 (0, 0)) (by (with_reducible repeat (first | refine Aj ?_ _ | refine Ak ?_ | refine Ai ?_ _)); refine Fa ?_ NB239_240.out _; (with_reducible repeat (first | refine Aj ?_ _ | refine Ak ?_ | refine Ai ?_ _)); exact BK239.out) hb); have n3_ := Ac.mk (Az (g := gb240) (o := .cells #[.int .i64 a0_0, .slice none 0 0] 36 (0, 0)) (by (with_reducible repeat (first | refine Aj ?_ _ | refine Ak ?_ | refine Ai ?_ _)); refine Ed (cs := #[.int .i64 0, .slice none 0 0]) ?_ 0 _ rfl; (with_reducible repeat (first | refine Aj ?_ _ | refine Ak ?_ | refine Ai ?_ _)); exact BK240.out) hb); have n4_ := Ac.mk (Ap (by repeat (first | (with_reducible first | exact HB.out | apply Ad | apply Aa | apply Ae | refine Ah ?_ GE238.out | refine Ah ?_ GE239.out | refine Ah ?_ GE240.out) | exact HB.out)) hb); clear BK238; clear BK239; clear BK240; clear HB; have HO243 := n0_; have BK238 := n1_; have BK239 := n2_; have BK240 := n3_; have HB := n4_; clear n0_ n1_ n2_ n3_ n4_; (try clear hb); (try clear hb2); (try clear hk); (try clear hi); (try clear ho0); obtain ⟨Ao12, co12, eo12⟩ := Kd.Iu HO243.out; subst eo12; have hcz13_0 : w11.cell? ⟨gb240, 0, none⟩ = some (.int .i64 a0_0) := (Ag BK240.out 0).trans rfl; have hcz13_1 : w11.cell? ⟨gb240, 1, none⟩ = some (.slice none 0 0) := (Ag BK240.out 1).trans rfl; have hfz13_0 := Af BK240.out 0; have hfz13_1 := Af BK240.out 1; have hcz14_0 : w11.cell? ⟨gb239, 0, none⟩ = some (.int .i64 0) := (Ag BK239.out 0).trans rfl; have hcz14_1 : w11.cell? ⟨gb239, 1, none⟩ = some (.slice none 0 0) := (Ag BK239.out 1).trans rfl; have hfz14_0 := Af BK239.out 0; have hfz14_1 := Af BK239.out 1))
  refine bodyPost_ret (results_cell_row rfl _ _ gb239 36 #[.int .i64 a0_0, .slice Ao12 t241.length co12] (0, 0) _ rfl (by (with_reducible repeat (first | refine Aj ?_ _ | refine Ak ?_ | refine Ai ?_ _)); refine Ed (cs := #[.int .i64 a0_0, .slice none 0 0]) ?_ 1 _ rfl; (with_reducible repeat (first | refine Aj ?_ _ | refine Ak ?_ | refine Ai ?_ _)); refine Ed (cs := #[.int .i64 0, .slice none 0 0]) ?_ 0 _ rfl; (with_reducible repeat (first | refine Aj ?_ _ | refine Ak ?_ | refine Ai ?_ _)); refine Fa ?_ NB239_240.out _; (with_reducible repeat (first | refine Aj ?_ _ | refine Ak ?_ | refine Ai ?_ _)); exact BK239.out) Tryd.underlying36 rfl (by kernel_rfl)) rfl ?_
  exact ⟨_, by first | rfl | (simp [Aq, Au] <;> rfl) | (simp [*, Aq, Au] <;> rfl), by (with_reducible repeat (first | apply Kd.Ey | apply Kd.Ew | apply Kd.Ez)); exact Kd.Gy (Kd.Eo (p := ⟨gb239, 1, none⟩) (Kd.Eo (p := ⟨gb239, 0, none⟩) (Kd.Eo (p := ⟨gb240, 1, none⟩) (Kd.G8 (Kd.G8 HO243.out BK240.out (by decide)) BK239.out (by decide)) (fun _ hk => hk.1.2) (.slice Ao12 t241.length co12)) (fun _ hk => hk.2) (.int .i64 a0_0)) (fun _ hk => hk.2) (.slice Ao12 t241.length co12)) (fun _ hk => trivial), by repeat (first | (with_reducible first | exact HB.out | apply Ad | apply Aa | apply Ae | refine Ah ?_ GE238.out | refine Ah ?_ GE239.out | refine Ah ?_ GE240.out) | exact HB.out)⟩
end Go.Proofs.YtcnmngiaebgjkaaDoor.X

namespace Go.Proofs.YtcnmngiaebgjkaaDoorOwn
open Go.RowKit Go.Proofs.YtcnmngiaebgjkaaDoorW.PrintWords
/-- Block g alone is written. -/
structure Only (w w' : World) (g : Nat) : Prop where
  os : w'.os = w.os
  tape : w'.tape = w.tape
  output : w'.output = w.output
  size : w'.heap.size = w.heap.size
  others : ∀ k, k ≠ g → w'.heap[k]? = w.heap[k]?
theorem Only.refl (w : World) (g : Nat) : Only w w g := ⟨rfl, rfl, rfl, rfl, fun _ _ => rfl⟩
theorem Only.set {w w' : World} {g : Nat} (h : Only w w' g) (j : Nat) (v : Value) : Only w (w'.setCell ⟨g, j, none⟩ v) g :=
  ⟨h.os, h.tape, h.output, by simp [World.setCell, h.size], fun k hk => (Below.heap_setCell w' ⟨g, j, none⟩ v k hk).trans (h.others k hk)⟩
theorem Only.below {w0 w w' : World} {g : Nat} (h : Only w w' g) (hB : Below w0.heap.size w0 w) (hg : w0.heap.size ≤ g) : Below w0.heap.size w0 w' :=
  ⟨h.os.trans hB.os, h.tape.trans hB.tape, h.output.trans hB.output, by rw [h.size]; exact hB.size, fun i hi => (h.others i (by omega)).trans (hB.block i hi)⟩
section
variable {α : Type} {d : Kd α} {e base g t : Nat} {ok : Nat → Prop} {w w' : World} {v : Value} {xs : List α} {cells : Array Value}
end
end Go.Proofs.YtcnmngiaebgjkaaDoorOwn

