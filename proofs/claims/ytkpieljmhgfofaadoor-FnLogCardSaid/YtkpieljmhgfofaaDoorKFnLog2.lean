/- Texts that the proof of the law FnLog leans on, part 3 of 6. -/
import Derived.Test.YtkpieljmhgfofaaDoorKFnLog1
set_option linter.unusedVariables false
set_option linter.unusedSimpArgs false
namespace Go.Proofs.YtkpieljmhgfofaaDoor.X
open Go.RowKit Go.Proofs.YtkpieljmhgfofaaDoorW.PrintWords Go.Proofs.YtkpieljmhgfofaaDoorW.PrintLast Go.Proofs.YtkpieljmhgfofaaDoorW.PrintMore
attribute [local go_sem] max2_int min2_int max_two min_two max_three min_three max_four min_four
open Go.Proofs.YtkpieljmhgfofaaDoorG
def Dj.f : Nat → Int → Option (ByteArray)
  | 0, _ => none
  | k + 1, a0 => if a0 < 0 then ((Dj.f k (wrap64 (-a0))).bind fun t107 => (if 1 + t107.size ≤ 9223372036854775807 then (some ((⟨#[45]⟩ : ByteArray) ++ t107)) else (none))) else (if a0 < 10 then (if 0 ≤ a0 then (if a0 ≤ (wrap64 (a0 + 1)) then (if (wrap64 (a0 + 1)) ≤ 10 then (some ((⟨#[48, 49, 50, 51, 52, 53, 54, 55, 56, 57]⟩ : ByteArray).extract (a0 : Int).toNat ((wrap64 (a0 + 1)) : Int).toNat)) else (none)) else (none)) else (none)) else ((Dj.f k (wrap64 (Int.tdiv a0 10))).bind fun t108 => (if 0 ≤ (Int.tmod a0 10) then (if (Int.tmod a0 10) ≤ (wrap64 ((Int.tmod a0 10) + 1)) then (if (wrap64 ((Int.tmod a0 10) + 1)) ≤ 10 then (if t108.size + ((⟨#[48, 49, 50, 51, 52, 53, 54, 55, 56, 57]⟩ : ByteArray).extract ((Int.tmod a0 10) : Int).toNat ((wrap64 ((Int.tmod a0 10) + 1)) : Int).toNat).size ≤ 9223372036854775807 then (some (t108 ++ ((⟨#[48, 49, 50, 51, 52, 53, 54, 55, 56, 57]⟩ : ByteArray).extract ((Int.tmod a0 10) : Int).toNat ((wrap64 ((Int.tmod a0 10) + 1)) : Int).toNat))) else (none)) else (none)) else (none)) else (none))))
theorem Dj.Ej : ∀ k, (∀ y0, LeO (Dj.f k y0) (Dj.f (k + 1) y0))
  | 0 => fun _ r h => by simp [Dj.f] at h
  | k + 1 => by
    have ih0 := Dj.Ej k
    · intro y0
      unfold Dj.f
      repeat' first
      | (with_reducible exact ih0 _)
      | (with_reducible exact LeO.refl _)
      | (with_reducible exact LeO.none _)
      | (with_reducible refine LeO.ite ?_ ?_)
      | (with_reducible refine LeO.bind ?_ (fun _ => ?_))
      | exact ih0 _
      | exact LeO.none _
      | refine LeO.ite ?_ ?_
      | refine LeO.bind ?_ (fun _ => ?_)
theorem Dj.mono : ∀ a0 k, LeO (Dj.f k a0) (Dj.f (k + 1) a0) := by
  intro a0 k
  have ih0 := Dj.Ej k
  exact ih0 a0
def Dj.T5 : Bool × List (List Nat × List Nat) := (true, [([], []), ([0], [0]), ([1], [1]), ([], []), ([3], [3]), ([], []), ([5], [5]), ([6], [6]), ([4, 7], [4, 7]), ([2, 8], [2, 8]), ([9, 2, 0, 1, 2, 3, 4, 5, 6, 7, 8, 9], [9])])
def Dj.B5 : List Nat := [0, 1, 3, 0, 8, 0, 32, 96, 248, 511, 1023]
theorem Dj.tab5 : rtab .any (opsOf Tryd.f65 5) = Dj.T5 := by kernel_rfl
theorem Dj.bits5 : G7 Dj.T5.2 Dj.B5 = true := by kernel_rfl
set_option maxHeartbeats 8000000 in
set_option maxRecDepth 100000 in
theorem Dj.calls (k : Nat) : ∀ (a0 : Int) (r : ByteArray) (w : World) (h : Dj.f k a0 = some r),
    Calls Tryd.prog 65 #[.int .i64 a0] w fun e w' => e = .returned (.string r) ∧ Below w.heap.size w w' := by
  induction k using Nat.strongRecOn with
  | _ k ih =>
  intro a0 r w h
  cases k with
  | zero => exact absurd h (by simp [Dj.f])
  | succ k =>
  simp only [Dj.f] at h
  have HB := Aside0.mk (Below.refl w.heap.size w)
  have H : (if a0 < 0 then ((Dj.f k (wrap64 (-a0))).bind fun t107 => (if 1 + t107.size ≤ 9223372036854775807 then (some ((⟨#[45]⟩ : ByteArray) ++ t107)) else (none))) else (if a0 < 10 then (if 0 ≤ a0 then (if a0 ≤ (wrap64 (a0 + 1)) then (if (wrap64 (a0 + 1)) ≤ 10 then (some ((⟨#[48, 49, 50, 51, 52, 53, 54, 55, 56, 57]⟩ : ByteArray).extract (a0 : Int).toNat ((wrap64 (a0 + 1)) : Int).toNat)) else (none)) else (none)) else (none)) else ((Dj.f k (wrap64 (Int.tdiv a0 10))).bind fun t108 => (if 0 ≤ (Int.tmod a0 10) then (if (Int.tmod a0 10) ≤ (wrap64 ((Int.tmod a0 10) + 1)) then (if (wrap64 ((Int.tmod a0 10) + 1)) ≤ 10 then (if t108.size + ((⟨#[48, 49, 50, 51, 52, 53, 54, 55, 56, 57]⟩ : ByteArray).extract ((Int.tmod a0 10) : Int).toNat ((wrap64 ((Int.tmod a0 10) + 1)) : Int).toNat).size ≤ 9223372036854775807 then (some (t108 ++ ((⟨#[48, 49, 50, 51, 52, 53, 54, 55, 56, 57]⟩ : ByteArray).extract ((Int.tmod a0 10) : Int).toNat ((wrap64 ((Int.tmod a0 10) + 1)) : Int).toNat))) else (none)) else (none)) else (none)) else (none))))) = some r := h
  clear h
  by_cases c2 : a0 < 0
  · rw [if_pos c2] at H
    have c2b0 : decide (a0 < 0) = true := decide_eq_true c2
    clear c2
    replace H := Option.bind_eq_some_iff.mp H
    obtain ⟨t107, A30, H⟩ := H
    replace H : (if 1 + t107.size ≤ 9223372036854775807 then (some ((⟨#[45]⟩ : ByteArray) ++ t107)) else (none)) = some r := H
    have A3 := Aside0.mk A30
    clear A30
    by_cases c4 : 1 + t107.size ≤ 9223372036854775807
    · rw [if_pos c4] at H
      have c4b0 := eq_true c4
      have c4b1 : decide (1 + t107.size ≤ 9223372036854775807) = true := decide_eq_true c4
      try have c4b2 : (9223372036854775807 < 1 + t107.size) = False := eq_false (Nat.not_lt.2 c4)
      obtain rfl := Option.some.inj H
      go_enter Tryd.func65, Tryd.ntmps65
      go_wp2_with (first | ((with_reducible refine Am (f := 65) rfl ?_); refine Be (some 7) rfl rfl Tryd.func65 (by kernel_rfl) rfl #[.int .i64 (wrap64 (-a0))] rfl Yc_ ?_; (with_reducible refine (ih k (by omega) (wrap64 (-a0)) t107 _ A3.out).mono ?_); rintro e w5 ⟨rfl, hb⟩; refine ⟨_, rfl, ?_⟩; have n0_ := Aside0.mk (Ag Ya_ hb); clear HB; have HB := n0_; clear n0_; (try clear hb); (try clear hb2); (try clear hk); (try clear hi)))
      go_ret
      exact ⟨by first | rfl | (simp [Ak, Aj] <;> rfl) | (simp [*, Ak, Aj] <;> rfl), by repeat (first | (with_reducible first | exact HB.out | apply below_alloc | apply pw_below_drewN | apply below_drew1) | exact HB.out)⟩
    · rw [if_neg c4] at H
      exact absurd H (by simp)
  · rw [if_neg c2] at H
    have c2b0 : decide (a0 < 0) = false := decide_eq_false c2
    clear c2
    by_cases c6 : a0 < 10
    · rw [if_pos c6] at H
      have c6b0 : decide (a0 < 10) = true := decide_eq_true c6
      clear c6
      by_cases c7 : 0 ≤ a0
      · rw [if_pos c7] at H
        have c7b0 := eq_true c7
        have c7b1 : decide (0 ≤ a0) = true := decide_eq_true c7
        clear c7
        by_cases c8 : a0 ≤ (wrap64 (a0 + 1))
        · rw [if_pos c8] at H
          have c8b0 := eq_true c8
          have c8b1 : decide (a0 ≤ (wrap64 (a0 + 1))) = true := decide_eq_true c8
          by_cases c9 : (wrap64 (a0 + 1)) ≤ 10
          · rw [if_pos c9] at H
            have c9b0 := eq_true c9
            have c9b1 : decide ((wrap64 (a0 + 1)) ≤ 10) = true := decide_eq_true c9
            obtain rfl := Option.some.inj H
            go_enter Tryd.func65, Tryd.ntmps65
            go_wp2
            go_ret
            exact ⟨by first | rfl | (simp [Ak, Aj] <;> rfl) | (simp [*, Ak, Aj] <;> rfl), by repeat (first | (with_reducible first | exact HB.out | apply below_alloc | apply pw_below_drewN | apply below_drew1) | exact HB.out)⟩
          · rw [if_neg c9] at H
            exact absurd H (by simp)
        · rw [if_neg c8] at H
          exact absurd H (by simp)
      · rw [if_neg c7] at H
        exact absurd H (by simp)
    · rw [if_neg c6] at H
      have c6b0 : decide (a0 < 10) = false := decide_eq_false c6
      clear c6
      replace H := Option.bind_eq_some_iff.mp H
      obtain ⟨t108, A100, H⟩ := H
      replace H : (if 0 ≤ (Int.tmod a0 10) then (if (Int.tmod a0 10) ≤ (wrap64 ((Int.tmod a0 10) + 1)) then (if (wrap64 ((Int.tmod a0 10) + 1)) ≤ 10 then (if t108.size + ((⟨#[48, 49, 50, 51, 52, 53, 54, 55, 56, 57]⟩ : ByteArray).extract ((Int.tmod a0 10) : Int).toNat ((wrap64 ((Int.tmod a0 10) + 1)) : Int).toNat).size ≤ 9223372036854775807 then (some (t108 ++ ((⟨#[48, 49, 50, 51, 52, 53, 54, 55, 56, 57]⟩ : ByteArray).extract ((Int.tmod a0 10) : Int).toNat ((wrap64 ((Int.tmod a0 10) + 1)) : Int).toNat))) else (none)) else (none)) else (none)) else (none)) = some r := H
      have A10 := Aside0.mk A100
      clear A100
      obtain ⟨ji11, hji11⟩ : ∃ j_ : Int, (Int.tmod a0 10) = j_ := ⟨_, rfl⟩
      replace H : (if 0 ≤ (ji11) then (if (ji11) ≤ (wrap64 ((ji11) + 1)) then (if (wrap64 ((ji11) + 1)) ≤ 10 then (if t108.size + ((⟨#[48, 49, 50, 51, 52, 53, 54, 55, 56, 57]⟩ : ByteArray).extract ((ji11) : Int).toNat ((wrap64 ((ji11) + 1)) : Int).toNat).size ≤ 9223372036854775807 then (some (t108 ++ ((⟨#[48, 49, 50, 51, 52, 53, 54, 55, 56, 57]⟩ : ByteArray).extract ((ji11) : Int).toNat ((wrap64 ((ji11) + 1)) : Int).toNat))) else (none)) else (none)) else (none)) else (none)) = some r := by first | (rw [hji11] at H; exact H) | (simp only [hji11] at H ⊢; exact H)
      (try rw [hji11] at A10)
      by_cases c12 : 0 ≤ (ji11)
      · rw [if_pos c12] at H
        have c12b0 := eq_true c12
        have c12b1 : decide (0 ≤ (ji11)) = true := decide_eq_true c12
        clear c12
        by_cases c13 : (ji11) ≤ (wrap64 ((ji11) + 1))
        · rw [if_pos c13] at H
          have c13b0 := eq_true c13
          have c13b1 : decide ((ji11) ≤ (wrap64 ((ji11) + 1))) = true := decide_eq_true c13
          by_cases c14 : (wrap64 ((ji11) + 1)) ≤ 10
          · rw [if_pos c14] at H
            have c14b0 := eq_true c14
            have c14b1 : decide ((wrap64 ((ji11) + 1)) ≤ 10) = true := decide_eq_true c14
            by_cases c15 : t108.size + ((⟨#[48, 49, 50, 51, 52, 53, 54, 55, 56, 57]⟩ : ByteArray).extract ((ji11) : Int).toNat ((wrap64 ((ji11) + 1)) : Int).toNat).size ≤ 9223372036854775807
            · rw [if_pos c15] at H
              have c15b0 := eq_true c15
              have c15b1 : decide (t108.size + ((⟨#[48, 49, 50, 51, 52, 53, 54, 55, 56, 57]⟩ : ByteArray).extract ((ji11) : Int).toNat ((wrap64 ((ji11) + 1)) : Int).toNat).size ≤ 9223372036854775807) = true := decide_eq_true c15
              try have c15b2 : (9223372036854775807 < t108.size + ((⟨#[48, 49, 50, 51, 52, 53, 54, 55, 56, 57]⟩ : ByteArray).extract ((ji11) : Int).toNat ((wrap64 ((ji11) + 1)) : Int).toNat).size) = False := eq_false (Nat.not_lt.2 c15)
              have c15z0 : (⟨#[48, 49, 50, 51, 52, 53, 54, 55, 56, 57]⟩ : ByteArray).size = 10 := rfl
              have c15b3 := c15
              try simp only [ByteArray.size_extract, ByteArray.size_append, c15z0] at c15b3
              have c15b4 := eq_false (Nat.not_lt.2 c15b3)
              obtain rfl := Option.some.inj H
              go_enter Tryd.func65, Tryd.ntmps65
              try go_wp2
              have n0_ := Aside0.mk (below_drew1 HB.out)
              clear HB
              have HB := n0_
              clear n0_
              refine G5 (n := 11) (S := fun w' => True) (ds := []) #[false, false, false, false, false, false, false, false, false, false, false] (by kernel_rfl) rfl rfl trivial (fun hHeld => ?_); refine Gf Dj.tab5 Dj.bits5 (fun HT_ HW_ => ?_)
              generalize w.drew = w16 at HB hHeld ⊢
              refine Bz (i := 0) (N := some 15) (v := ?_) (a' := ?_) #[true, false, false, false, false, false, false, false, false, false, false] rfl rfl (Bf HT_.out (by kernel_rfl)) (fun _ _ _ h => h) (Or.inl ⟨by rfl, ?_⟩) ?_ ?_
              rotate_left
              · intro w'
                go_simp
                first | with_reducible rfl | (rw [if_neg (by omega)]; try with_reducible rfl)
              rotate_left
              · simp only [Act.put, List.setIfInBounds_toArray, List.set_cons_zero, List.set_cons_succ, Aw, Az]
                rfl
              refine Bz (i := 1) (N := some 16) (v := ?_) (a' := ?_) #[true, true, false, false, false, false, false, false, false, false, false] rfl rfl (Bf HT_.out (by kernel_rfl)) (fun _ _ _ h => h) (Or.inl ⟨by rfl, ?_⟩) ?_ ?_
              rotate_left
              · intro w'
                go_simp
                first | with_reducible rfl | (rw [if_neg (by omega)]; try with_reducible rfl)
              rotate_left
              · simp only [Act.put, List.setIfInBounds_toArray, List.set_cons_zero, List.set_cons_succ, Aw, Az]
                rfl
              refine Bz (i := 3) (N := some 18) (v := ?_) (a' := ?_) #[true, true, false, true, false, false, false, false, false, false, false] rfl rfl (Bf HT_.out (by kernel_rfl)) (fun _ _ _ h => h) (Or.inl ⟨by rfl, ?_⟩) ?_ ?_
              rotate_left
              · intro w'
                go_simp
                first | with_reducible rfl | (rw [if_neg (by omega)]; try with_reducible rfl)
              rotate_left
              · simp only [Act.put, List.setIfInBounds_toArray, List.set_cons_zero, List.set_cons_succ, Aw, Az]
                rfl
              refine Bz (i := 4) (N := some 19) (v := ?_) (a' := ?_) #[true, true, false, true, true, false, false, false, false, false, false] rfl rfl (Bf HT_.out (by kernel_rfl)) (fun _ _ _ h => h) (Or.inl ⟨by rfl, ?_⟩) ?_ ?_
              rotate_left
              · intro w'
                go_simp
                first | with_reducible rfl | (rw [if_neg (by omega)]; try with_reducible rfl)
              rotate_left
              · simp only [Act.put, List.setIfInBounds_toArray, List.set_cons_zero, List.set_cons_succ, Aw, Az]
                rfl
              refine Bz (i := 5) (N := some 20) (v := ?_) (a' := ?_) #[true, true, false, true, true, true, false, false, false, false, false] rfl rfl (Bf HT_.out (by kernel_rfl)) (fun _ _ _ h => h) (Or.inl ⟨by rfl, ?_⟩) ?_ ?_
              rotate_left
              · intro w'
                go_simp
                first | with_reducible rfl | (rw [if_neg (by omega)]; try with_reducible rfl)
              rotate_left
              · simp only [Act.put, List.setIfInBounds_toArray, List.set_cons_zero, List.set_cons_succ, Aw, Az]
                rfl
              refine Bz (i := 6) (N := some 21) (v := ?_) (a' := ?_) #[true, true, false, true, true, true, true, false, false, false, false] rfl rfl (Bf HT_.out (by kernel_rfl)) (fun _ _ _ h => h) (Or.inl ⟨by rfl, ?_⟩) ?_ ?_
              rotate_left
              · intro w'
                go_simp
                first | with_reducible rfl | (rw [if_neg (by omega)]; try with_reducible rfl)
              rotate_left
              · simp only [Act.put, List.setIfInBounds_toArray, List.set_cons_zero, List.set_cons_succ, Aw, Az]
                rfl
              refine Bz (i := 7) (N := some 22) (v := ?_) (a' := ?_) #[true, true, false, true, true, true, true, true, false, false, false] rfl rfl (Bf HT_.out (by kernel_rfl)) (fun _ _ _ h => h) (Or.inl ⟨by rfl, ?_⟩) ?_ ?_
              rotate_left
              · intro w'
                go_simp
                first | with_reducible rfl | (rw [if_neg (by omega)]; try with_reducible rfl)
              rotate_left
              · simp only [Act.put, List.setIfInBounds_toArray, List.set_cons_zero, List.set_cons_succ, Aw, Az]
                rfl
              refine Bz (i := 8) (N := some 23) (v := ?_) (a' := ?_) #[true, true, false, true, true, true, true, true, true, false, false] rfl rfl (Bf HT_.out (by kernel_rfl)) (fun _ _ _ h => h) (Or.inl ⟨by rfl, ?_⟩) ?_ ?_
              rotate_left
              · intro w'
                go_simp
                first | with_reducible rfl | (rw [if_neg (by omega)]; try with_reducible rfl)
              rotate_left
              · simp only [Act.put, List.setIfInBounds_toArray, List.set_cons_zero, List.set_cons_succ, Aw, Az]
                rfl
              refine one_ (i := 2) (N := some 17) #[true, true, true, true, true, true, true, true, true, false, false] rfl rfl (Fp HT_.out (by kernel_rfl)) (by decide) (fun K hK => ?_)
              refine Gl Tryd.func65 (by kernel_rfl) rfl #[.int .i64 (wrap64 (Int.tdiv a0 10))] (by rfl) rfl rfl Yc_ ?_
              with_reducible refine (ih k (by omega) (wrap64 (Int.tdiv a0 10)) t108 _ A10.out).mono ?_
              rintro e w17 ⟨rfl, hb⟩
              refine ⟨_, rfl, ?_⟩
              have n0_ := Aside0.mk (Ag Ya_ hb)
              clear HB
              have HB := n0_
              clear n0_
              (try clear hb)
              (try clear hb2)
              (try clear hk)
              (try clear hi)
              refine hK.out _ _ trivial (fun hHeld => ?_)
              clear hK K
              refine Gp (a' := ?_) ?_ ?_
              rotate_left
              · show Act.put _ (some 17) _ = _
                simp only [Act.put, List.setIfInBounds_toArray, List.set_cons_zero, List.set_cons_succ, Aw, Az]
                rfl
              refine Bz (i := 9) (N := some 24) (v := ?_) (a' := ?_) #[true, true, true, true, true, true, true, true, true, true, false] rfl rfl (Bf HT_.out (by kernel_rfl)) (fun _ _ _ h => h) (Or.inl ⟨by rfl, ?_⟩) ?_ ?_
              rotate_left
              · intro w'
                go_simp
                first | with_reducible rfl | (rw [if_neg (by omega)]; try with_reducible rfl)
              rotate_left
              · simp only [Act.put, List.setIfInBounds_toArray, List.set_cons_zero, List.set_cons_succ, Aw, Az]
                rfl
              refine Bz (i := 10) (N := some 2) (v := ?_) (a' := ?_) #[true, true, true, true, true, true, true, true, true, true, true] rfl rfl (Bf HT_.out (by kernel_rfl)) (fun _ _ _ h => h) (Or.inl ⟨by rfl, ?_⟩) ?_ ?_
              rotate_left
              · intro w'
                go_simp
                first | with_reducible rfl | (rw [if_neg (by omega)]; try with_reducible rfl)
              rotate_left
              · simp only [Act.put, List.setIfInBounds_toArray, List.set_cons_zero, List.set_cons_succ, Aw, Az]
                rfl
              refine done_ (Gy HT_.out (by kernel_rfl)) ?_
              try go_wp2
              go_ret
              exact ⟨by first | rfl | (simp [Ak, Aj] <;> rfl) | (simp only [← hji11]; first | rfl | (simp [Ak, Aj] <;> rfl)) | (simp [*, Ak, Aj] <;> rfl), by repeat (first | (with_reducible first | exact HB.out | apply below_alloc | apply pw_below_drewN | apply below_drew1) | exact HB.out)⟩
            · rw [if_neg c15] at H
              exact absurd H (by simp)
          · rw [if_neg c14] at H
            exact absurd H (by simp)
        · rw [if_neg c13] at H
          exact absurd H (by simp)
      · rw [if_neg c12] at H
        exact absurd H (by simp)
end Go.Proofs.YtkpieljmhgfofaaDoor.X

namespace Go.Proofs.YtkpieljmhgfofaaDoor.X
open Go.RowKit Go.Proofs.YtkpieljmhgfofaaDoorW.PrintWords Go.Proofs.YtkpieljmhgfofaaDoorW.PrintLast Go.Proofs.YtkpieljmhgfofaaDoorW.PrintMore
attribute [local go_sem] max2_int min2_int max_two min_two max_three min_three max_four min_four
open Go.Proofs.YtkpieljmhgfofaaDoorG
def Ee.l0 : Nat → ByteArray → Int → Int → Option (Int)
  | 0, _, _, _ => none
  | k + 1, x0, x3, x4 => if x4 < (x0.size : Int) then (if 0 ≤ x4 then (Ee.l0 k x0 (Int.tmod (wrap64 ((wrap64 ((wrap64 (41 * x3)) + (wrap64 (bt x0 x4)))) + 1)) 999979) (wrap64 (x4 + 1))) else (none)) else (some x3)
def Ee.f (k : Nat) (a0 : ByteArray) : Option (Int) := Ee.l0 k a0 7 0
theorem Ee.Ej : ∀ k, (∀ y0 y1 y2, LeO (Ee.l0 k y0 y1 y2) (Ee.l0 (k + 1) y0 y1 y2))
  | 0 => fun _ _ _ r h => by simp [Ee.l0] at h
  | k + 1 => by
    have ih0 := Ee.Ej k
    · intro y0 y1 y2
      unfold Ee.l0
      repeat' first
      | (with_reducible exact ih0 _ _ _)
      | (with_reducible exact LeO.refl _)
      | (with_reducible exact LeO.none _)
      | (with_reducible refine LeO.ite ?_ ?_)
      | (with_reducible refine LeO.bind ?_ (fun _ => ?_))
      | exact ih0 _ _ _
      | exact LeO.none _
      | refine LeO.ite ?_ ?_
      | refine LeO.bind ?_ (fun _ => ?_)
theorem Ee.mono : ∀ a0 k, LeO (Ee.f k a0) (Ee.f (k + 1) a0) := by
  intro a0 k
  have ih0 := Ee.Ej k
  unfold Ee.f
  repeat' first
      | (with_reducible exact ih0 _ _ _)
      | (with_reducible exact LeO.refl _)
      | (with_reducible exact LeO.none _)
      | (with_reducible refine LeO.ite ?_ ?_)
      | (with_reducible refine LeO.bind ?_ (fun _ => ?_))
      | exact ih0 _ _ _
      | exact LeO.none _
      | refine LeO.ite ?_ ?_
      | refine LeO.bind ?_ (fun _ => ?_)
set_option maxHeartbeats 8000000 in
set_option maxRecDepth 100000 in
theorem Ee.calls (k : Nat) (a0 : ByteArray) (r : Int) (w : World) (h : Ee.f k a0 = some r) :
    Calls Tryd.prog 74 #[.string a0] w fun e w' => e = .returned (.int .i64 r) ∧ Di w w' := by
  have H : (Ee.l0 k a0 7 0) = some r := h
  clear h
  have H' := Aside0.mk H
  clear H
  go_enter Tryd.func74, Tryd.ntmps74
  go_wp2
  go_loopg [3, 4] k (fun kq v3 v4 w' => ∃ (x3_1 : Int) (x4_1 : Int), v3 = .int .i64 x3_1 ∧ v4 = .int .i64 x4_1 ∧ Aside0 (Ee.l0 kq a0 x3_1 x4_1 = some r) ∧ Aside0 (kq ≤ k) ∧ Di w w')
  case atStart => exact ⟨(7), (0), Ybe_, Ybe_, H', ⟨Nat.le_refl _⟩, by repeat (first | exact Di.refl _ | apply Di.step)⟩
  case round =>
    clear H'
    obtain ⟨x3_1, x4_1, rfl, rfl, HA, HK1, ⟨m1, rfl⟩⟩ := hrel
    cases gk with
    | zero => exact absurd HA.out (by simp [Ee.l0])
    | succ k1 =>
      have H := HA.out
      clear HA
      simp only [Ee.l0] at H
      by_cases c2 : x4_1 < (a0.size : Int)
      · rw [if_pos c2] at H
        have c2b0 : decide (x4_1 < (a0.size : Int)) = true := decide_eq_true c2
        clear c2
        by_cases c3 : 0 ≤ x4_1
        · rw [if_pos c3] at H
          have c3b0 : decide (0 ≤ x4_1) = true := decide_eq_true c3
          clear c3
          have H' := Aside0.mk H
          clear H
          have p4 : 0 ≤ (x4_1 : Int) := of_decide_eq_true Yba_
          have q4 : x4_1 < (a0.size : Int) := of_decide_eq_true Yba_
          have hx4 := bt_at a0 x4_1
          replace p4 := eq_true p4
          replace q4 := eq_true q4
          go_wp2
          go_roundg k1
          case measure => have := HK1.out; omega
          case rel => exact ⟨(Int.tmod (wrap64 ((wrap64 ((wrap64 (41 * x3_1)) + (wrap64 (bt a0 x4_1)))) + 1)) 999979), (wrap64 (x4_1 + 1)), Ybe_, Ybe_, H', ⟨by have := HK1.out; omega⟩, by repeat (first | exact Di.refl _ | apply Di.step)⟩
        · rw [if_neg c3] at H
          exact absurd H (by simp)
      · rw [if_neg c2] at H
        have c2b0 : decide (x4_1 < (a0.size : Int)) = false := decide_eq_false c2
        clear c2
        obtain rfl := Option.some.inj H
        go_wp2
        go_ret
        exact ⟨by first | rfl | (simp; done) | (simp [*]; done), by repeat (first | exact Di.refl _ | apply Di.step)⟩
end Go.Proofs.YtkpieljmhgfofaaDoor.X

namespace Go.Proofs.YtkpieljmhgfofaaDoor.X
open Go.RowKit Go.Proofs.YtkpieljmhgfofaaDoorW.PrintWords Go.Proofs.YtkpieljmhgfofaaDoorW.PrintLast Go.Proofs.YtkpieljmhgfofaaDoorW.PrintMore
attribute [local go_sem] max2_int min2_int max_two min_two max_three min_three max_four min_four
open Go.Proofs.YtkpieljmhgfofaaDoorG
def Fh.f (k : Nat) (a0 : ByteArray) : Option (ByteArray) := if a0.size + 1 ≤ 9223372036854775807 then ((Ee.f k a0).bind fun t109 => ((Dj.f k t109).bind fun t110 => (if (a0 ++ (⟨#[35]⟩ : ByteArray)).size + t110.size ≤ 9223372036854775807 then (some ((a0 ++ (⟨#[35]⟩ : ByteArray)) ++ t110)) else (none)))) else (none)
theorem Fh.mono : ∀ a0 k, LeO (Fh.f k a0) (Fh.f (k + 1) a0) := by
  intro a0 k
  unfold Fh.f
  repeat' first
      | (with_reducible exact Dj.mono _ _)
      | (with_reducible exact Ee.mono _ _)
      | (with_reducible exact LeO.refl _)
      | (with_reducible exact LeO.none _)
      | (with_reducible refine LeO.ite ?_ ?_)
      | (with_reducible refine LeO.bind ?_ (fun _ => ?_))
      | exact Dj.mono _ _
      | exact Ee.mono _ _
      | exact LeO.none _
      | refine LeO.ite ?_ ?_
      | refine LeO.bind ?_ (fun _ => ?_)
set_option maxHeartbeats 8000000 in
set_option maxRecDepth 100000 in
theorem Fh.calls (k : Nat) (a0 : ByteArray) (r : ByteArray) (w : World) (h : Fh.f k a0 = some r) :
    Calls Tryd.prog 64 #[.string a0] w fun e w' => e = .returned (.string r) ∧ Below w.heap.size w w' := by
  have HB := Aside0.mk (Below.refl w.heap.size w)
  have H : (if a0.size + 1 ≤ 9223372036854775807 then ((Ee.f k a0).bind fun t109 => ((Dj.f k t109).bind fun t110 => (if (a0 ++ (⟨#[35]⟩ : ByteArray)).size + t110.size ≤ 9223372036854775807 then (some ((a0 ++ (⟨#[35]⟩ : ByteArray)) ++ t110)) else (none)))) else (none)) = some r := h
  clear h
  by_cases c2 : a0.size + 1 ≤ 9223372036854775807
  · rw [if_pos c2] at H
    have c2b0 := eq_true c2
    have c2b1 : decide (a0.size + 1 ≤ 9223372036854775807) = true := decide_eq_true c2
    try have c2b2 : (9223372036854775807 < a0.size + 1) = False := eq_false (Nat.not_lt.2 c2)
    replace H := Option.bind_eq_some_iff.mp H
    obtain ⟨t109, A30, H⟩ := H
    replace H : ((Dj.f k t109).bind fun t110 => (if (a0 ++ (⟨#[35]⟩ : ByteArray)).size + t110.size ≤ 9223372036854775807 then (some ((a0 ++ (⟨#[35]⟩ : ByteArray)) ++ t110)) else (none))) = some r := H
    have A3 := Aside0.mk A30
    clear A30
    replace H := Option.bind_eq_some_iff.mp H
    obtain ⟨t110, A40, H⟩ := H
    replace H : (if (a0 ++ (⟨#[35]⟩ : ByteArray)).size + t110.size ≤ 9223372036854775807 then (some ((a0 ++ (⟨#[35]⟩ : ByteArray)) ++ t110)) else (none)) = some r := H
    have A4 := Aside0.mk A40
    clear A40
    by_cases c5 : (a0 ++ (⟨#[35]⟩ : ByteArray)).size + t110.size ≤ 9223372036854775807
    · rw [if_pos c5] at H
      have c5b0 := eq_true c5
      have c5b1 : decide ((a0 ++ (⟨#[35]⟩ : ByteArray)).size + t110.size ≤ 9223372036854775807) = true := decide_eq_true c5
      try have c5b2 : (9223372036854775807 < (a0 ++ (⟨#[35]⟩ : ByteArray)).size + t110.size) = False := eq_false (Nat.not_lt.2 c5)
      have c5z0 : (⟨#[35]⟩ : ByteArray).size = 1 := rfl
      have c5b3 := c5
      try simp only [ByteArray.size_extract, ByteArray.size_append, c5z0] at c5b3
      have c5b4 := eq_false (Nat.not_lt.2 c5b3)
      obtain rfl := Option.some.inj H
      go_enter Tryd.func64, Tryd.ntmps64
      go_wp2_with (first | ((with_reducible refine Am (f := 74) rfl ?_); refine Be (some 6) rfl rfl Tryd.func74 (by kernel_rfl) rfl #[.string a0] rfl Yc_ ?_; (with_reducible refine (Ee.calls k a0 t109 _ A3.out).mono ?_); rintro e w' ⟨rfl, ⟨nd, rfl⟩⟩; refine ⟨_, rfl, ?_⟩) | ((with_reducible refine Am (f := 65) rfl ?_); refine Be (some 7) rfl rfl Tryd.func65 (by kernel_rfl) rfl #[.int .i64 t109] rfl Yc_ ?_; (with_reducible refine (Dj.calls k t109 t110 _ A4.out).mono ?_); rintro e w6 ⟨rfl, hb⟩; refine ⟨_, rfl, ?_⟩; have n0_ := Aside0.mk (Ag Ya_ hb); clear HB; have HB := n0_; clear n0_; (try clear hb); (try clear hb2); (try clear hk); (try clear hi)))
      go_ret
      exact ⟨by first | rfl | (simp [Ak, Aj] <;> rfl) | (simp [*, Ak, Aj] <;> rfl), by repeat (first | (with_reducible first | exact HB.out | apply below_alloc | apply pw_below_drewN | apply below_drew1) | exact HB.out)⟩
    · rw [if_neg c5] at H
      exact absurd H (by simp)
  · rw [if_neg c2] at H
    exact absurd H (by simp)
end Go.Proofs.YtkpieljmhgfofaaDoor.X

namespace Go.Proofs.YtkpieljmhgfofaaDoor.X
open Go.RowKit Go.Proofs.YtkpieljmhgfofaaDoorW.PrintWords Go.Proofs.YtkpieljmhgfofaaDoorW.PrintLast Go.Proofs.YtkpieljmhgfofaaDoorW.PrintMore
attribute [local go_sem] max2_int min2_int max_two min_two max_three min_three max_four min_four
open Go.Proofs.YtkpieljmhgfofaaDoorG
def Ci.f (k : Nat) (a0 : Int) (a1_0 : ByteArray) (a1_1 : ByteArray) : Option (ByteArray) := (Dj.f k a0).bind fun t112 => (if t112.size + 1 ≤ 9223372036854775807 then (if (t112 ++ (⟨#[32]⟩ : ByteArray)).size + a1_0.size ≤ 9223372036854775807 then (if ((t112 ++ (⟨#[32]⟩ : ByteArray)) ++ a1_0).size + 1 ≤ 9223372036854775807 then (if (((t112 ++ (⟨#[32]⟩ : ByteArray)) ++ a1_0) ++ (⟨#[64]⟩ : ByteArray)).size + a1_1.size ≤ 9223372036854775807 then ((Fh.f k ((((t112 ++ (⟨#[32]⟩ : ByteArray)) ++ a1_0) ++ (⟨#[64]⟩ : ByteArray)) ++ a1_1)).bind fun t113 => (if t113.size + 1 ≤ 9223372036854775807 then (some (t113 ++ (⟨#[10]⟩ : ByteArray))) else (none))) else (none)) else (none)) else (none)) else (none))
theorem Ci.mono : ∀ a0 a1 a2 k, LeO (Ci.f k a0 a1 a2) (Ci.f (k + 1) a0 a1 a2) := by
  intro a0 a1 a2 k
  unfold Ci.f
  repeat' first
      | (with_reducible exact Dj.mono _ _)
      | (with_reducible exact Fh.mono _ _)
      | (with_reducible exact LeO.refl _)
      | (with_reducible exact LeO.none _)
      | (with_reducible refine LeO.ite ?_ ?_)
      | (with_reducible refine LeO.bind ?_ (fun _ => ?_))
      | exact Dj.mono _ _
      | exact Fh.mono _ _
      | exact LeO.none _
      | refine LeO.ite ?_ ?_
      | refine LeO.bind ?_ (fun _ => ?_)
def Ci.T1 : Bool × List (List Nat × List Nat) := (true, [([], []), ([0], [0]), ([1], [1]), ([], []), ([3], [3]), ([2, 4], [2, 4]), ([5], [5]), ([], []), ([7], [7]), ([6, 8], [6, 8]), ([9, 1], [9]), ([10], [10]), ([11, 10, 0, 1, 2, 3, 4, 5, 6, 7, 8, 9, 10, 11], [11])])
def Ci.B1 : List Nat := [0, 1, 3, 0, 8, 31, 63, 0, 128, 511, 1023, 2047, 4095]
theorem Ci.tab1 : rtab .any (opsOf Tryd.f44 1) = Ci.T1 := by kernel_rfl
theorem Ci.bits1 : G7 Ci.T1.2 Ci.B1 = true := by kernel_rfl
set_option maxHeartbeats 8000000 in
set_option maxRecDepth 100000 in
theorem Ci.calls (k : Nat) (a0 : Int) (a1_0 : ByteArray) (a1_1 : ByteArray) (r : ByteArray) (w : World) (h : Ci.f k a0 a1_0 a1_1 = some r) :
    Calls Tryd.prog 44 #[.int .i64 a0, .agg #[.string a1_0, .string a1_1]] w fun e w' => e = .returned (.string r) ∧ Below w.heap.size w w' := by
  have hu27 := Tryd.underlying27
  have HB := Aside0.mk (Below.refl w.heap.size w)
  have H : ((Dj.f k a0).bind fun t112 => (if t112.size + 1 ≤ 9223372036854775807 then (if (t112 ++ (⟨#[32]⟩ : ByteArray)).size + a1_0.size ≤ 9223372036854775807 then (if ((t112 ++ (⟨#[32]⟩ : ByteArray)) ++ a1_0).size + 1 ≤ 9223372036854775807 then (if (((t112 ++ (⟨#[32]⟩ : ByteArray)) ++ a1_0) ++ (⟨#[64]⟩ : ByteArray)).size + a1_1.size ≤ 9223372036854775807 then ((Fh.f k ((((t112 ++ (⟨#[32]⟩ : ByteArray)) ++ a1_0) ++ (⟨#[64]⟩ : ByteArray)) ++ a1_1)).bind fun t113 => (if t113.size + 1 ≤ 9223372036854775807 then (some (t113 ++ (⟨#[10]⟩ : ByteArray))) else (none))) else (none)) else (none)) else (none)) else (none))) = some r := h
  clear h
  replace H := Option.bind_eq_some_iff.mp H
  obtain ⟨t112, A30, H⟩ := H
  replace H : (if t112.size + 1 ≤ 9223372036854775807 then (if (t112 ++ (⟨#[32]⟩ : ByteArray)).size + a1_0.size ≤ 9223372036854775807 then (if ((t112 ++ (⟨#[32]⟩ : ByteArray)) ++ a1_0).size + 1 ≤ 9223372036854775807 then (if (((t112 ++ (⟨#[32]⟩ : ByteArray)) ++ a1_0) ++ (⟨#[64]⟩ : ByteArray)).size + a1_1.size ≤ 9223372036854775807 then ((Fh.f k ((((t112 ++ (⟨#[32]⟩ : ByteArray)) ++ a1_0) ++ (⟨#[64]⟩ : ByteArray)) ++ a1_1)).bind fun t113 => (if t113.size + 1 ≤ 9223372036854775807 then (some (t113 ++ (⟨#[10]⟩ : ByteArray))) else (none))) else (none)) else (none)) else (none)) else (none)) = some r := H
  have A3 := Aside0.mk A30
  clear A30
  by_cases c4 : t112.size + 1 ≤ 9223372036854775807
  · rw [if_pos c4] at H
    have c4b0 := eq_true c4
    have c4b1 : decide (t112.size + 1 ≤ 9223372036854775807) = true := decide_eq_true c4
    try have c4b2 : (9223372036854775807 < t112.size + 1) = False := eq_false (Nat.not_lt.2 c4)
    by_cases c5 : (t112 ++ (⟨#[32]⟩ : ByteArray)).size + a1_0.size ≤ 9223372036854775807
    · rw [if_pos c5] at H
      have c5b0 := eq_true c5
      have c5b1 : decide ((t112 ++ (⟨#[32]⟩ : ByteArray)).size + a1_0.size ≤ 9223372036854775807) = true := decide_eq_true c5
      try have c5b2 : (9223372036854775807 < (t112 ++ (⟨#[32]⟩ : ByteArray)).size + a1_0.size) = False := eq_false (Nat.not_lt.2 c5)
      have c5z0 : (⟨#[32]⟩ : ByteArray).size = 1 := rfl
      have c5b3 := c5
      try simp only [ByteArray.size_extract, ByteArray.size_append, c5z0] at c5b3
      have c5b4 := eq_false (Nat.not_lt.2 c5b3)
      by_cases c6 : ((t112 ++ (⟨#[32]⟩ : ByteArray)) ++ a1_0).size + 1 ≤ 9223372036854775807
      · rw [if_pos c6] at H
        have c6b0 := eq_true c6
        have c6b1 : decide (((t112 ++ (⟨#[32]⟩ : ByteArray)) ++ a1_0).size + 1 ≤ 9223372036854775807) = true := decide_eq_true c6
        try have c6b2 : (9223372036854775807 < ((t112 ++ (⟨#[32]⟩ : ByteArray)) ++ a1_0).size + 1) = False := eq_false (Nat.not_lt.2 c6)
        have c6z0 : (⟨#[32]⟩ : ByteArray).size = 1 := rfl
        have c6b3 := c6
        try simp only [ByteArray.size_extract, ByteArray.size_append, c6z0] at c6b3
        have c6b4 := eq_false (Nat.not_lt.2 c6b3)
        by_cases c7 : (((t112 ++ (⟨#[32]⟩ : ByteArray)) ++ a1_0) ++ (⟨#[64]⟩ : ByteArray)).size + a1_1.size ≤ 9223372036854775807
        · rw [if_pos c7] at H
          have c7b0 := eq_true c7
          have c7b1 : decide ((((t112 ++ (⟨#[32]⟩ : ByteArray)) ++ a1_0) ++ (⟨#[64]⟩ : ByteArray)).size + a1_1.size ≤ 9223372036854775807) = true := decide_eq_true c7
          try have c7b2 : (9223372036854775807 < (((t112 ++ (⟨#[32]⟩ : ByteArray)) ++ a1_0) ++ (⟨#[64]⟩ : ByteArray)).size + a1_1.size) = False := eq_false (Nat.not_lt.2 c7)
          have c7z0 : (⟨#[32]⟩ : ByteArray).size = 1 := rfl
          have c7z1 : (⟨#[64]⟩ : ByteArray).size = 1 := rfl
          have c7b3 := c7
          try simp only [ByteArray.size_extract, ByteArray.size_append, c7z0, c7z1] at c7b3
          have c7b4 := eq_false (Nat.not_lt.2 c7b3)
          replace H := Option.bind_eq_some_iff.mp H
          obtain ⟨t113, A80, H⟩ := H
          replace H : (if t113.size + 1 ≤ 9223372036854775807 then (some (t113 ++ (⟨#[10]⟩ : ByteArray))) else (none)) = some r := H
          have A8 := Aside0.mk A80
          clear A80
          by_cases c9 : t113.size + 1 ≤ 9223372036854775807
          · rw [if_pos c9] at H
            have c9b0 := eq_true c9
            have c9b1 : decide (t113.size + 1 ≤ 9223372036854775807) = true := decide_eq_true c9
            try have c9b2 : (9223372036854775807 < t113.size + 1) = False := eq_false (Nat.not_lt.2 c9)
            obtain rfl := Option.some.inj H
            go_enter Tryd.func44, Tryd.ntmps44
            try go_wp2_with (first | ((with_reducible refine Bd (N := 3) rfl ?_); refine Bc ?hg (N := 3) ?hd (cs := #[.string a1_0, .string a1_1]) (t := 27) ?hr ?_; (case hd => rfl); (case hg => rfl); (case hr => first | (go_simp; done) | (go_simp; rfl)); intro gb0 hg w10 hbox hb; have n0_ := Aside0.mk (Ag Ya_ hb); have n1_ := Aside0.mk (hbox); have n2_ := Aside0.mk ((by rw [hg]; exact (Ah Ya_) : w.heap.size ≤ gb0)); have n3_ := Aside0.mk ((by rw [hg]; exact (Ah Ya_) : w.heap.size ≤ gb0)); clear HB; have HB := n0_; have BK0 := n1_; have GW0 := n2_; have GE0 := n3_; clear n0_ n1_ n2_ n3_; clear hb hbox hg))
            have n0_ := Aside0.mk (Ad BK0.out)
            have n1_ := Aside0.mk (below_drew1 HB.out)
            clear BK0
            clear HB
            have BK0 := n0_
            have HB := n1_
            clear n0_ n1_
            refine G5 (n := 13) (S := fun w' => w'.cell? ⟨gb0, 0, none⟩ = some (.string a1_0) ∧ w'.cell? ⟨gb0, 1, none⟩ = some (.string a1_1)) (ds := []) #[false, false, false, false, false, false, false, false, false, false, false, false, false] (by kernel_rfl) rfl rfl ⟨(Ae BK0.out 0).trans rfl, (Ae BK0.out 1).trans rfl⟩ (fun hHeld => ?_); refine Gf Ci.tab1 Ci.bits1 (fun HT_ HW_ => ?_)
            generalize w10.drew = w11 at BK0 HB hHeld ⊢
            refine Bz (i := 0) (N := some 5) (v := ?_) (a' := ?_) #[true, false, false, false, false, false, false, false, false, false, false, false, false] rfl rfl (Bf HT_.out (by kernel_rfl)) (fun _ _ _ h => h) (Or.inl ⟨by rfl, ?_⟩) ?_ ?_
            rotate_left
            · intro w'
              go_simp
              first | with_reducible rfl | (rw [if_neg (by omega)]; try with_reducible rfl)
            rotate_left
            · simp only [Act.put, List.setIfInBounds_toArray, List.set_cons_zero, List.set_cons_succ, Aw, Az]
              rfl
            refine Bz (i := 3) (N := some 8) (v := ?_) (a' := ?_) #[true, false, false, true, false, false, false, false, false, false, false, false, false] rfl rfl (Bf HT_.out (by kernel_rfl)) (fun _ _ _ h => h) (Or.inl ⟨by rfl, ?_⟩) ?_ ?_
            rotate_left
            · intro w'
              go_simp
              first | with_reducible rfl | (rw [if_neg (by omega)]; try with_reducible rfl)
            rotate_left
            · simp only [Act.put, List.setIfInBounds_toArray, List.set_cons_zero, List.set_cons_succ, Aw, Az]
              rfl
            refine Bz (i := 7) (N := some 12) (v := ?_) (a' := ?_) #[true, false, false, true, false, false, false, true, false, false, false, false, false] rfl rfl (Bf HT_.out (by kernel_rfl)) (fun _ _ _ h => h) (Or.inl ⟨by rfl, ?_⟩) ?_ ?_
            rotate_left
            · intro w'
              go_simp
              first | with_reducible rfl | (rw [if_neg (by omega)]; try with_reducible rfl)
            rotate_left
            · simp only [Act.put, List.setIfInBounds_toArray, List.set_cons_zero, List.set_cons_succ, Aw, Az]
              rfl
            refine E8 (i := 4) (N := some 9) (v := ?_) (a' := ?_) #[true, false, false, true, true, false, false, true, false, false, false, false, false] rfl rfl (Ea HT_.out HW_.out (by kernel_rfl)) (fun _ _ _ h => h) (Or.inl ⟨by rfl, ?_⟩) hHeld ?_ ?_
            rotate_left
            · rintro w' ⟨s0, s1⟩
              go_simp
              first | with_reducible rfl | (rw [if_neg (by omega)]; try with_reducible rfl)
            rotate_left
            · simp only [Act.put, List.setIfInBounds_toArray, List.set_cons_zero, List.set_cons_succ, Aw, Az]
              rfl
            refine E8 (i := 8) (N := some 13) (v := ?_) (a' := ?_) #[true, false, false, true, true, false, false, true, true, false, false, false, false] rfl rfl (Ea HT_.out HW_.out (by kernel_rfl)) (fun _ _ _ h => h) (Or.inl ⟨by rfl, ?_⟩) hHeld ?_ ?_
            rotate_left
            · rintro w' ⟨s0, s1⟩
              go_simp
              first | with_reducible rfl | (rw [if_neg (by omega)]; try with_reducible rfl)
            rotate_left
            · simp only [Act.put, List.setIfInBounds_toArray, List.set_cons_zero, List.set_cons_succ, Aw, Az]
              rfl
            refine one_ (i := 1) (N := some 6) #[true, true, false, true, true, false, false, true, true, false, false, false, false] rfl rfl (Fp HT_.out (by kernel_rfl)) (by decide) (fun K hK => ?_)
            refine Gl Tryd.func65 (by kernel_rfl) rfl #[.int .i64 a0] (by rfl) rfl rfl Yc_ ?_
            with_reducible refine (Dj.calls k a0 t112 _ A3.out).mono ?_
            rintro e w12 ⟨rfl, hb⟩
            refine ⟨_, rfl, ?_⟩
            have n0_ := Aside0.mk (Ai (g := gb0) (o := .cells #[.string a1_0, .string a1_1] 27 (0, 0)) Yd_ hb)
            have n1_ := Aside0.mk (Ag Yb_ hb)
            clear BK0
            clear HB
            have BK0 := n0_
            have HB := n1_
            clear n0_ n1_
            (try clear hb)
            (try clear hb2)
            (try clear hk)
            (try clear hi)
            refine hK.out _ _ ⟨(Ae BK0.out 0).trans rfl, (Ae BK0.out 1).trans rfl⟩ (fun hHeld => ?_)
            clear hK K
            refine Gp (a' := ?_) ?_ ?_
            rotate_left
            · show Act.put _ (some 6) _ = _
              simp only [Act.put, List.setIfInBounds_toArray, List.set_cons_zero, List.set_cons_succ, Aw, Az]
              rfl
            refine Bz (i := 2) (N := some 7) (v := ?_) (a' := ?_) #[true, true, true, true, true, false, false, true, true, false, false, false, false] rfl rfl (Bf HT_.out (by kernel_rfl)) (fun _ _ _ h => h) (Or.inl ⟨by rfl, ?_⟩) ?_ ?_
            rotate_left
            · intro w'
              go_simp
              first | with_reducible rfl | (rw [if_neg (by omega)]; try with_reducible rfl)
            rotate_left
            · simp only [Act.put, List.setIfInBounds_toArray, List.set_cons_zero, List.set_cons_succ, Aw, Az]
              rfl
            refine Bz (i := 5) (N := some 10) (v := ?_) (a' := ?_) #[true, true, true, true, true, true, false, true, true, false, false, false, false] rfl rfl (Bf HT_.out (by kernel_rfl)) (fun _ _ _ h => h) (Or.inl ⟨by rfl, ?_⟩) ?_ ?_
            rotate_left
            · intro w'
              go_simp
              first | with_reducible rfl | (rw [if_neg (by omega)]; try with_reducible rfl)
            rotate_left
            · simp only [Act.put, List.setIfInBounds_toArray, List.set_cons_zero, List.set_cons_succ, Aw, Az]
              rfl
            refine Bz (i := 6) (N := some 11) (v := ?_) (a' := ?_) #[true, true, true, true, true, true, true, true, true, false, false, false, false] rfl rfl (Bf HT_.out (by kernel_rfl)) (fun _ _ _ h => h) (Or.inl ⟨by rfl, ?_⟩) ?_ ?_
            rotate_left
            · intro w'
              go_simp
              first | with_reducible rfl | (rw [if_neg (by omega)]; try with_reducible rfl)
            rotate_left
            · simp only [Act.put, List.setIfInBounds_toArray, List.set_cons_zero, List.set_cons_succ, Aw, Az]
              rfl
            refine Bz (i := 9) (N := some 14) (v := ?_) (a' := ?_) #[true, true, true, true, true, true, true, true, true, true, false, false, false] rfl rfl (Bf HT_.out (by kernel_rfl)) (fun _ _ _ h => h) (Or.inl ⟨by rfl, ?_⟩) ?_ ?_
            rotate_left
            · intro w'
              go_simp
              first | with_reducible rfl | (rw [if_neg (by omega)]; try with_reducible rfl)
            rotate_left
            · simp only [Act.put, List.setIfInBounds_toArray, List.set_cons_zero, List.set_cons_succ, Aw, Az]
              rfl
            refine one_ (i := 10) (N := some 15) #[true, true, true, true, true, true, true, true, true, true, true, false, false] rfl rfl (Fp HT_.out (by kernel_rfl)) (by decide) (fun K hK => ?_)
            refine Gl Tryd.func64 (by kernel_rfl) rfl #[.string ((((t112 ++ (⟨#[32]⟩ : ByteArray)) ++ a1_0) ++ (⟨#[64]⟩ : ByteArray)) ++ a1_1)] (by rfl) rfl rfl Yc_ ?_
            with_reducible refine (Fh.calls k ((((t112 ++ (⟨#[32]⟩ : ByteArray)) ++ a1_0) ++ (⟨#[64]⟩ : ByteArray)) ++ a1_1) t113 _ A8.out).mono ?_
            rintro e w13 ⟨rfl, hb⟩
            refine ⟨_, rfl, ?_⟩
            have n0_ := Aside0.mk (Ai (g := gb0) (o := .cells #[.string a1_0, .string a1_1] 27 (0, 0)) Yd_ hb)
            have n1_ := Aside0.mk (Ag Yb_ hb)
            clear BK0
            clear HB
            have BK0 := n0_
            have HB := n1_
            clear n0_ n1_
            (try clear hb)
            (try clear hb2)
            (try clear hk)
            (try clear hi)
            refine hK.out _ _ ⟨(Ae BK0.out 0).trans rfl, (Ae BK0.out 1).trans rfl⟩ (fun hHeld => ?_)
            clear hK K
            refine Gp (a' := ?_) ?_ ?_
            rotate_left
            · show Act.put _ (some 15) _ = _
              simp only [Act.put, List.setIfInBounds_toArray, List.set_cons_zero, List.set_cons_succ, Aw, Az]
              rfl
            refine Bz (i := 11) (N := some 16) (v := ?_) (a' := ?_) #[true, true, true, true, true, true, true, true, true, true, true, true, false] rfl rfl (Bf HT_.out (by kernel_rfl)) (fun _ _ _ h => h) (Or.inl ⟨by rfl, ?_⟩) ?_ ?_
            rotate_left
            · intro w'
              go_simp
              first | with_reducible rfl | (rw [if_neg (by omega)]; try with_reducible rfl)
            rotate_left
            · simp only [Act.put, List.setIfInBounds_toArray, List.set_cons_zero, List.set_cons_succ, Aw, Az]
              rfl
            refine Bz (i := 12) (N := some 4) (v := ?_) (a' := ?_) #[true, true, true, true, true, true, true, true, true, true, true, true, true] rfl rfl (Bf HT_.out (by kernel_rfl)) (fun _ _ _ h => h) (Or.inl ⟨by rfl, ?_⟩) ?_ ?_
            rotate_left
            · intro w'
              go_simp
              first | with_reducible rfl | (rw [if_neg (by omega)]; try with_reducible rfl)
            rotate_left
            · simp only [Act.put, List.setIfInBounds_toArray, List.set_cons_zero, List.set_cons_succ, Aw, Az]
              rfl
            refine done_ (Gy HT_.out (by kernel_rfl)) ?_
            try go_wp2
            go_ret
            exact ⟨by first | rfl | (simp [Ak, Aj] <;> rfl) | (simp [*, Ak, Aj] <;> rfl), by repeat (first | (with_reducible first | exact HB.out | apply below_alloc | apply pw_below_drewN | apply below_drew1 | refine below_set ?_ GE0.out) | exact HB.out)⟩
          · rw [if_neg c9] at H
            exact absurd H (by simp)
        · rw [if_neg c7] at H
          exact absurd H (by simp)
      · rw [if_neg c6] at H
        exact absurd H (by simp)
    · rw [if_neg c5] at H
      exact absurd H (by simp)
  · rw [if_neg c4] at H
    exact absurd H (by simp)
end Go.Proofs.YtkpieljmhgfofaaDoor.X

namespace Go.Proofs.YtkpieljmhgfofaaDoor.X
open Go.RowKit Go.Proofs.YtkpieljmhgfofaaDoorW.PrintWords Go.Proofs.YtkpieljmhgfofaaDoorW.PrintLast Go.Proofs.YtkpieljmhgfofaaDoorW.PrintMore
attribute [local go_sem] max2_int min2_int max_two min_two max_three min_three max_four min_four
open Go.Proofs.YtkpieljmhgfofaaDoorG
def C9.j0 : Nat → ByteArray → Int → ByteArray → ByteArray → Bool → Option (ByteArray × ByteArray × Bool)
  | 0, _, _, _, _, _ => none
  | k + 1, x0, x1, x6, x7, x30 => if x30 = true then (some ((⟨#[]⟩ : ByteArray), (⟨#[]⟩ : ByteArray), false)) else (if 0 ≤ (x6.size : Int) then (if (x6.size : Int) ≤ (x7.size : Int) then ((Cm.f k (x7.extract ((x6.size : Int) : Int).toNat x7.size) 64).bind fun t188 => (if 0 < (t188.length : Int) then (if ((Cc ByteArray.empty t188 0).size : Int) = ((x7.extract ((x6.size : Int) : Int).toNat x7.size).size : Int) then (some ((⟨#[]⟩ : ByteArray), (⟨#[]⟩ : ByteArray), false)) else (if 0 ≤ (wrap64 (((Cc ByteArray.empty t188 0).size : Int) + 1)) then (if (wrap64 (((Cc ByteArray.empty t188 0).size : Int) + 1)) ≤ ((x7.extract ((x6.size : Int) : Int).toNat x7.size).size : Int) then ((Dl.f k (Cc ByteArray.empty t188 0) ((x7.extract ((x6.size : Int) : Int).toNat x7.size).extract ((wrap64 (((Cc ByteArray.empty t188 0).size : Int) + 1)) : Int).toNat (x7.extract ((x6.size : Int) : Int).toNat x7.size).size)).bind fun t193 => (if t193 = true then ((Ci.f k x1 (Cc ByteArray.empty t188 0) ((x7.extract ((x6.size : Int) : Int).toNat x7.size).extract ((wrap64 (((Cc ByteArray.empty t188 0).size : Int) + 1)) : Int).toNat (x7.extract ((x6.size : Int) : Int).toNat x7.size).size)).bind fun t194 => (if x0.size + 1 ≤ 9223372036854775807 then (some (Cc ByteArray.empty t188 0, (x7.extract ((x6.size : Int) : Int).toNat x7.size).extract ((wrap64 (((Cc ByteArray.empty t188 0).size : Int) + 1)) : Int).toNat (x7.extract ((x6.size : Int) : Int).toNat x7.size).size, (t194.toList == (x0 ++ (⟨#[10]⟩ : ByteArray)).toList))) else (none))) else (some (Cc ByteArray.empty t188 0, (x7.extract ((x6.size : Int) : Int).toNat x7.size).extract ((wrap64 (((Cc ByteArray.empty t188 0).size : Int) + 1)) : Int).toNat (x7.extract ((x6.size : Int) : Int).toNat x7.size).size, false)))) else (none)) else (none))) else (none))) else (none)) else (none))
def C9.f (k : Nat) (a0 : ByteArray) (a1 : Int) : Option (ByteArray × ByteArray × Bool) := (Dj.f k a1).bind fun t183 => (if t183.size + 1 ≤ 9223372036854775807 then ((Cm.f k a0 35).bind fun t184 => (if 0 < (t184.length : Int) then (if ((Cc ByteArray.empty t184 0).size : Int) < ((t183 ++ (⟨#[32]⟩ : ByteArray)).size : Int) then (C9.j0 k a0 a1 (t183 ++ (⟨#[32]⟩ : ByteArray)) (Cc ByteArray.empty t184 0) true) else (if 0 ≤ ((t183 ++ (⟨#[32]⟩ : ByteArray)).size : Int) then (if ((t183 ++ (⟨#[32]⟩ : ByteArray)).size : Int) ≤ ((Cc ByteArray.empty t184 0).size : Int) then (C9.j0 k a0 a1 (t183 ++ (⟨#[32]⟩ : ByteArray)) (Cc ByteArray.empty t184 0) (((Cc ByteArray.empty t184 0).extract 0 (((t183 ++ (⟨#[32]⟩ : ByteArray)).size : Int) : Int).toNat).toList != (t183 ++ (⟨#[32]⟩ : ByteArray)).toList)) else (none)) else (none))) else (none))) else (none))
theorem C9.Ej : ∀ k, (∀ y0 y1 y2 y3 y4, LeO (C9.j0 k y0 y1 y2 y3 y4) (C9.j0 (k + 1) y0 y1 y2 y3 y4))
  | 0 => fun _ _ _ _ _ r h => by simp [C9.j0] at h
  | k + 1 => by
    have ih0 := C9.Ej k
    · intro y0 y1 y2 y3 y4
      unfold C9.j0
      repeat' first
      | (with_reducible exact ih0 _ _ _ _ _)
      | (with_reducible exact Dj.mono _ _)
      | (with_reducible exact Cm.mono _ _ _)
      | (with_reducible exact Dl.mono _ _ _)
      | (with_reducible exact Ci.mono _ _ _ _)
      | (with_reducible exact LeO.refl _)
      | (with_reducible exact LeO.none _)
      | (with_reducible refine LeO.ite ?_ ?_)
      | (with_reducible refine LeO.bind ?_ (fun _ => ?_))
      | exact ih0 _ _ _ _ _
      | exact Dj.mono _ _
      | exact Cm.mono _ _ _
      | exact Dl.mono _ _ _
      | exact Ci.mono _ _ _ _
      | exact LeO.none _
      | refine LeO.ite ?_ ?_
      | refine LeO.bind ?_ (fun _ => ?_)
theorem C9.mono : ∀ a0 a1 k, LeO (C9.f k a0 a1) (C9.f (k + 1) a0 a1) := by
  intro a0 a1 k
  have ih0 := C9.Ej k
  unfold C9.f
  repeat' first
      | (with_reducible exact ih0 _ _ _ _ _)
      | (with_reducible exact Dj.mono _ _)
      | (with_reducible exact Cm.mono _ _ _)
      | (with_reducible exact Dl.mono _ _ _)
      | (with_reducible exact Ci.mono _ _ _ _)
      | (with_reducible exact LeO.refl _)
      | (with_reducible exact LeO.none _)
      | (with_reducible refine LeO.ite ?_ ?_)
      | (with_reducible refine LeO.bind ?_ (fun _ => ?_))
      | exact ih0 _ _ _ _ _
      | exact Dj.mono _ _
      | exact Cm.mono _ _ _
      | exact Dl.mono _ _ _
      | exact Ci.mono _ _ _ _
      | exact LeO.none _
      | refine LeO.ite ?_ ?_
      | refine LeO.bind ?_ (fun _ => ?_)
def C9.T10 : Bool × List (List Nat × List Nat) := (true, [([], []), ([], []), ([1], [1]), ([2, 2], [2]), ([3], [3]), ([3], [3]), ([4, 5, 3, 3], [3, 4, 5]), ([3], [3]), ([7, 3], [3, 7]), ([6, 8, 3], [3, 6, 8]), ([3, 9], [3, 9]), ([0, 6, 0], [0]), ([10, 11, 0, 1, 2, 3, 4, 5, 6, 7, 8, 9, 10, 11], [10])])
def C9.B10 : List Nat := [0, 0, 2, 6, 14, 14, 62, 14, 142, 510, 1022, 127, 4095]
theorem C9.tab10 : rtab .any (opsOf Tryd.f69 10) = C9.T10 := by kernel_rfl
theorem C9.bits10 : G7 C9.T10.2 C9.B10 = true := by kernel_rfl
set_option maxHeartbeats 8000000 in
set_option maxRecDepth 100000 in
theorem C9.calls (k : Nat) (a0 : ByteArray) (a1 : Int) (r1 : ByteArray) (r2 : ByteArray) (r3 : Bool) (w : World) (h : C9.f k a0 a1 = some (r1, r2, r3)) :
    Calls Tryd.prog 69 #[.string a0, .int .i64 a1] w fun e w' => e = .returned (.tuple #[.agg #[.string r1, .string r2], .bool r3]) ∧ Below w.heap.size w w' := by
  have hu27 := Tryd.underlying27
  have HB := Aside0.mk (Below.refl w.heap.size w)
  have H : ((Dj.f k a1).bind fun t183 => (if t183.size + 1 ≤ 9223372036854775807 then ((Cm.f k a0 35).bind fun t184 => (if 0 < (t184.length : Int) then (if ((Cc ByteArray.empty t184 0).size : Int) < ((t183 ++ (⟨#[32]⟩ : ByteArray)).size : Int) then (C9.j0 k a0 a1 (t183 ++ (⟨#[32]⟩ : ByteArray)) (Cc ByteArray.empty t184 0) true) else (if 0 ≤ ((t183 ++ (⟨#[32]⟩ : ByteArray)).size : Int) then (if ((t183 ++ (⟨#[32]⟩ : ByteArray)).size : Int) ≤ ((Cc ByteArray.empty t184 0).size : Int) then (C9.j0 k a0 a1 (t183 ++ (⟨#[32]⟩ : ByteArray)) (Cc ByteArray.empty t184 0) (((Cc ByteArray.empty t184 0).extract 0 (((t183 ++ (⟨#[32]⟩ : ByteArray)).size : Int) : Int).toNat).toList != (t183 ++ (⟨#[32]⟩ : ByteArray)).toList)) else (none)) else (none))) else (none))) else (none))) = some (r1, r2, r3) := h
  clear h
  replace H := Option.bind_eq_some_iff.mp H
  obtain ⟨t183, A30, H⟩ := H
  replace H : (if t183.size + 1 ≤ 9223372036854775807 then ((Cm.f k a0 35).bind fun t184 => (if 0 < (t184.length : Int) then (if ((Cc ByteArray.empty t184 0).size : Int) < ((t183 ++ (⟨#[32]⟩ : ByteArray)).size : Int) then (C9.j0 k a0 a1 (t183 ++ (⟨#[32]⟩ : ByteArray)) (Cc ByteArray.empty t184 0) true) else (if 0 ≤ ((t183 ++ (⟨#[32]⟩ : ByteArray)).size : Int) then (if ((t183 ++ (⟨#[32]⟩ : ByteArray)).size : Int) ≤ ((Cc ByteArray.empty t184 0).size : Int) then (C9.j0 k a0 a1 (t183 ++ (⟨#[32]⟩ : ByteArray)) (Cc ByteArray.empty t184 0) (((Cc ByteArray.empty t184 0).extract 0 (((t183 ++ (⟨#[32]⟩ : ByteArray)).size : Int) : Int).toNat).toList != (t183 ++ (⟨#[32]⟩ : ByteArray)).toList)) else (none)) else (none))) else (none))) else (none)) = some (r1, r2, r3) := H
  have A3 := Aside0.mk A30
  clear A30
  by_cases c4 : t183.size + 1 ≤ 9223372036854775807
  · rw [if_pos c4] at H
    have c4b0 := eq_true c4
    have c4b1 : decide (t183.size + 1 ≤ 9223372036854775807) = true := decide_eq_true c4
    try have c4b2 : (9223372036854775807 < t183.size + 1) = False := eq_false (Nat.not_lt.2 c4)
    replace H := Option.bind_eq_some_iff.mp H
    obtain ⟨t184, A50, H⟩ := H
    replace H : (if 0 < (t184.length : Int) then (if ((Cc ByteArray.empty t184 0).size : Int) < ((t183 ++ (⟨#[32]⟩ : ByteArray)).size : Int) then (C9.j0 k a0 a1 (t183 ++ (⟨#[32]⟩ : ByteArray)) (Cc ByteArray.empty t184 0) true) else (if 0 ≤ ((t183 ++ (⟨#[32]⟩ : ByteArray)).size : Int) then (if ((t183 ++ (⟨#[32]⟩ : ByteArray)).size : Int) ≤ ((Cc ByteArray.empty t184 0).size : Int) then (C9.j0 k a0 a1 (t183 ++ (⟨#[32]⟩ : ByteArray)) (Cc ByteArray.empty t184 0) (((Cc ByteArray.empty t184 0).extract 0 (((t183 ++ (⟨#[32]⟩ : ByteArray)).size : Int) : Int).toNat).toList != (t183 ++ (⟨#[32]⟩ : ByteArray)).toList)) else (none)) else (none))) else (none)) = some (r1, r2, r3) := H
    have A5 := Aside0.mk A50
    clear A50
    by_cases c6 : 0 < (t184.length : Int)
    · rw [if_pos c6] at H
      have c6b0 : decide (0 < (t184.length : Int)) = true := decide_eq_true c6
      have c6b1 : decide (0 < t184.length) = true := decide_eq_true (by omega)
      clear c6
      have HC7 := Aside0.mk H
      clear H
      go_enter Tryd.func69, Tryd.ntmps69
      go_upto_region 3 with (first | ((with_reducible refine Bd (N := 4) rfl ?_); (try (refine Ef (by rfl) ?_; dsimp only)); refine Bc ?hg (N := 4) ?hd (cs := #[.string (⟨#[]⟩ : ByteArray), .string (⟨#[]⟩ : ByteArray)]) (t := 27) ?hr ?_; (case hd => rfl); (case hg => rfl); (case hr => first | (go_simp; done) | (go_simp; rfl)); intro gb0 hg w8 hbox hb; have n0_ := Aside0.mk (Ag Ya_ hb); have n1_ := Aside0.mk (hbox); have n2_ := Aside0.mk ((by rw [hg]; exact (Ah Ya_) : w.heap.size ≤ gb0)); have n3_ := Aside0.mk ((by rw [hg]; exact (Ah Ya_) : w.heap.size ≤ gb0)); clear HB; have HB := n0_; have BK0 := n1_; have GW0 := n2_; have GE0 := n3_; clear n0_ n1_ n2_ n3_; clear hb hbox hg) | ((with_reducible refine Am (f := 65) rfl ?_); refine Be (some 12) rfl rfl Tryd.func65 (by kernel_rfl) rfl #[.int .i64 a1] rfl Yc_ ?_; (with_reducible refine (Dj.calls k a1 t183 _ A3.out).mono ?_); rintro e w9 ⟨rfl, hb⟩; refine ⟨_, rfl, ?_⟩; have n0_ := Aside0.mk (Ai (g := gb0) (o := .cells #[.string (⟨#[]⟩ : ByteArray), .string (⟨#[]⟩ : ByteArray)] 27 (0, 0)) Yd_ hb); have n1_ := Aside0.mk (Ag Yb_ hb); clear BK0; clear HB; have BK0 := n0_; have HB := n1_; clear n0_ n1_; (try clear hb); (try clear hb2); (try clear hk); (try clear hi)) | ((with_reducible refine Am (f := 68) rfl ?_); refine Be (some 15) rfl rfl Tryd.func68 (by kernel_rfl) rfl #[.string a0, .int .u8 35] rfl Yc_ ?_; (with_reducible refine (Cm.calls k a0 35 t184 _ A5.out).mono ?_); rintro e w10 ⟨v185, rfl, ho0, hb⟩; refine ⟨_, rfl, ?_⟩; have n0_ := Aside0.mk (Kd.En ho0 (Ah Yb_)); have n1_ := Aside0.mk (Ai (g := gb0) (o := .cells #[.string (⟨#[]⟩ : ByteArray), .string (⟨#[]⟩ : ByteArray)] 27 (0, 0)) Yd_ hb); have n2_ := Aside0.mk (Ag Yb_ hb); clear BK0; clear HB; have HO186 := n0_; have BK0 := n1_; have HB := n2_; clear n0_ n1_ n2_; (try clear hb); (try clear hb2); (try clear hk); (try clear hi); (try clear ho0); obtain ⟨Ao11, co11, eo11⟩ := Kd.Eu HO186.out; subst eo11; have p187 : 0 ≤ (0 : Int) := (by omega); have q187 : 0 < (t184.length : Int) := of_decide_eq_true Yba_; obtain ⟨ad187, e187, hx187_0⟩ := Kd.Hm (Kd.Ez HO186.out).2.2 0 p187 q187; cases e187; have qi187 : (0 < t184.length) = True := eq_true (by omega); (try rw [show ((0 : Int)).toNat = 0 from rfl] at hx187_0); (try rw [Addr.add_zero'] at hx187_0); replace p187 := eq_true p187; replace q187 := eq_true q187))
      (try simp only [Act.put, List.setIfInBounds_toArray, List.set_cons_zero, List.set_cons_succ])
      generalize hys0 : t183 ++ (⟨#[32]⟩ : ByteArray) = ys0 at HC7 ⊢
      have Nys0 := Aside0.mk hys0
      clear hys0
      go_cut [30] (fun v30 wc => ∃ (kq : Nat) (x30_6 : Bool), v30 = .bool x30_6 ∧ Aside0 (C9.j0 kq a0 a1 ys0 (Cc ByteArray.empty t184 0) x30_6 = some (r1, r2, r3)) ∧ Aside0 (kq ≤ k) ∧ Aside0 (wc.heap[gb0]? = some (.cells #[.string (⟨#[]⟩ : ByteArray), .string (⟨#[]⟩ : ByteArray)] 27 (0, 0))) ∧ Aside0 (Below w.heap.size w wc))
      case first =>
        have H := HC7.out
        clear HC7
        by_cases c12 : ((Cc ByteArray.empty t184 0).size : Int) < (ys0.size : Int)
        · rw [if_pos c12] at H
          have c12b0 : decide (((Cc ByteArray.empty t184 0).size : Int) < (ys0.size : Int)) = true := decide_eq_true c12
          have c12b5 := c12b0
          try simp at c12b5
          have c12b1 : decide ((Cc ByteArray.empty t184 0).size < ys0.size) = true := decide_eq_true (Int.ofNat_lt.mp c12)
          clear c12
          (first | rw [c12b0] | (simp only [Aw, Az]; rw [c12b0]) | skip)
          have H' := Aside0.mk H
          clear H
          go_wp2
          go_meet
          case rel => exact ⟨_, (true), Ybe_, H', ⟨by first | omega | exact Nat.le_refl _⟩, ⟨by (with_reducible repeat (first | refine Aa ?_ _ | refine Ad ?_ | refine Ac ?_ _)); exact BK0.out⟩, ⟨by repeat (first | (with_reducible first | exact HB.out | apply below_alloc | apply pw_below_drewN | apply below_drew1 | refine below_set ?_ GE0.out) | exact HB.out)⟩⟩
        · rw [if_neg c12] at H
          have c12b0 : decide (((Cc ByteArray.empty t184 0).size : Int) < (ys0.size : Int)) = false := decide_eq_false c12
          have c12b5 := c12b0
          try simp at c12b5
          have c12b1 : decide ((Cc ByteArray.empty t184 0).size < ys0.size) = false := decide_eq_false (fun h => c12 (Int.ofNat_lt.mpr h))
          clear c12
          (first | rw [c12b0] | (simp only [Aw, Az]; rw [c12b0]) | skip)
          by_cases c13 : 0 ≤ (ys0.size : Int)
          · rw [if_pos c13] at H
            have c13b0 := eq_true c13
            have c13b1 : decide (0 ≤ (ys0.size : Int)) = true := decide_eq_true c13
            by_cases c14 : (ys0.size : Int) ≤ ((Cc ByteArray.empty t184 0).size : Int)
            · rw [if_pos c14] at H
              have c14b0 := eq_true c14
              have c14b1 : decide ((ys0.size : Int) ≤ ((Cc ByteArray.empty t184 0).size : Int)) = true := decide_eq_true c14
              have H' := Aside0.mk H
              clear H
              go_wp2
              go_meet
              case rel => exact ⟨_, ((((Cc ByteArray.empty t184 0).extract 0 ((ys0.size : Int) : Int).toNat).toList != ys0.toList)), Ybe_, H', ⟨by first | omega | exact Nat.le_refl _⟩, ⟨by (with_reducible repeat (first | refine Aa ?_ _ | refine Ad ?_ | refine Ac ?_ _)); exact BK0.out⟩, ⟨by repeat (first | (with_reducible first | exact HB.out | apply below_alloc | apply pw_below_drewN | apply below_drew1 | refine below_set ?_ GE0.out) | exact HB.out)⟩⟩
            · rw [if_neg c14] at H
              exact absurd H (by simp)
          · rw [if_neg c13] at H
            exact absurd H (by simp)
      case rest =>
        clear HC7
        try clear c1
        try clear p1
        try clear q1
        try clear hx1
        try clear qi1
        try clear p2
        try clear c4
        try clear c4b0
        try clear c4b1
        try clear c4b2
        try clear c6
        try clear c6b0
        try clear c6b1
        try clear c12
        try clear c12b0
        try clear c12b1
        try clear c13
        try clear c13b0
        try clear c13b1
        try clear c14
        try clear c14b0
        try clear c14b1
        try clear hx187_0
        try clear p187
        try clear q187
        obtain ⟨kq, x30_6, rfl, HA, HJ6, BK0, HB⟩ := hcut
        cases kq with
        | zero => exact absurd HA.out (by simp [C9.j0])
        | succ kj6 =>
          have H := HA.out
          clear HA
          simp only [C9.j0] at H
          by_cases c15 : x30_6 = true
          · subst c15
            have H1 : (some ((⟨#[]⟩ : ByteArray), (⟨#[]⟩ : ByteArray), false)) = some (r1, r2, r3) := by rw [if_pos rfl] at H; exact H
            clear H
            have H := H1
            clear H1
            simp only [Option.some.injEq, Prod.mk.injEq] at H
            obtain ⟨rfl, rfl, rfl⟩ := H
            have hcz16_0 : wc.cell? ⟨gb0, 0, none⟩ = some (.string (⟨#[]⟩ : ByteArray)) := (Ae BK0.out 0).trans rfl
            have hcz16_1 : wc.cell? ⟨gb0, 1, none⟩ = some (.string (⟨#[]⟩ : ByteArray)) := (Ae BK0.out 1).trans rfl
            have hfz16_0 := Af BK0.out 0
            have hfz16_1 := Af BK0.out 1
            go_wp2
            refine bodyPost_ret (F6 rfl _ _ gb0 27 #[.string (⟨#[]⟩ : ByteArray), .string (⟨#[]⟩ : ByteArray)] (0, 0) _ rfl Ycf_ Tryd.underlying27 rfl (by kernel_rfl)) rfl ?_
            exact ⟨by first | rfl | (simp [Ak, Aj] <;> rfl) | (simp [*, Ak, Aj] <;> rfl), by repeat (first | (with_reducible first | exact HB.out | apply below_alloc | apply pw_below_drewN | apply below_drew1 | refine below_set ?_ GE0.out) | exact HB.out)⟩
          · replace c15 := Bool.eq_false_iff.mpr c15
            subst c15
            have H1 : (if 0 ≤ (ys0.size : Int) then (if (ys0.size : Int) ≤ ((Cc ByteArray.empty t184 0).size : Int) then ((Cm.f kj6 ((Cc ByteArray.empty t184 0).extract ((ys0.size : Int) : Int).toNat (Cc ByteArray.empty t184 0).size) 64).bind fun t188 => (if 0 < (t188.length : Int) then (if ((Cc ByteArray.empty t188 0).size : Int) = (((Cc ByteArray.empty t184 0).extract ((ys0.size : Int) : Int).toNat (Cc ByteArray.empty t184 0).size).size : Int) then (some ((⟨#[]⟩ : ByteArray), (⟨#[]⟩ : ByteArray), false)) else (if 0 ≤ (wrap64 (((Cc ByteArray.empty t188 0).size : Int) + 1)) then (if (wrap64 (((Cc ByteArray.empty t188 0).size : Int) + 1)) ≤ (((Cc ByteArray.empty t184 0).extract ((ys0.size : Int) : Int).toNat (Cc ByteArray.empty t184 0).size).size : Int) then ((Dl.f kj6 (Cc ByteArray.empty t188 0) (((Cc ByteArray.empty t184 0).extract ((ys0.size : Int) : Int).toNat (Cc ByteArray.empty t184 0).size).extract ((wrap64 (((Cc ByteArray.empty t188 0).size : Int) + 1)) : Int).toNat ((Cc ByteArray.empty t184 0).extract ((ys0.size : Int) : Int).toNat (Cc ByteArray.empty t184 0).size).size)).bind fun t193 => (if t193 = true then ((Ci.f kj6 a1 (Cc ByteArray.empty t188 0) (((Cc ByteArray.empty t184 0).extract ((ys0.size : Int) : Int).toNat (Cc ByteArray.empty t184 0).size).extract ((wrap64 (((Cc ByteArray.empty t188 0).size : Int) + 1)) : Int).toNat ((Cc ByteArray.empty t184 0).extract ((ys0.size : Int) : Int).toNat (Cc ByteArray.empty t184 0).size).size)).bind fun t194 => (if a0.size + 1 ≤ 9223372036854775807 then (some (Cc ByteArray.empty t188 0, ((Cc ByteArray.empty t184 0).extract ((ys0.size : Int) : Int).toNat (Cc ByteArray.empty t184 0).size).extract ((wrap64 (((Cc ByteArray.empty t188 0).size : Int) + 1)) : Int).toNat ((Cc ByteArray.empty t184 0).extract ((ys0.size : Int) : Int).toNat (Cc ByteArray.empty t184 0).size).size, (t194.toList == (a0 ++ (⟨#[10]⟩ : ByteArray)).toList))) else (none))) else (some (Cc ByteArray.empty t188 0, ((Cc ByteArray.empty t184 0).extract ((ys0.size : Int) : Int).toNat (Cc ByteArray.empty t184 0).size).extract ((wrap64 (((Cc ByteArray.empty t188 0).size : Int) + 1)) : Int).toNat ((Cc ByteArray.empty t184 0).extract ((ys0.size : Int) : Int).toNat (Cc ByteArray.empty t184 0).size).size, false)))) else (none)) else (none))) else (none))) else (none)) else (none)) = some (r1, r2, r3) := by rw [if_neg (show ¬ (false = true) by decide)] at H; exact H
            clear H
            have H := H1
            clear H1
            by_cases c17 : 0 ≤ (ys0.size : Int)
            · rw [if_pos c17] at H
              have c17b0 := eq_true c17
              have c17b1 : decide (0 ≤ (ys0.size : Int)) = true := decide_eq_true c17
              by_cases c18 : (ys0.size : Int) ≤ ((Cc ByteArray.empty t184 0).size : Int)
              · rw [if_pos c18] at H
                have c18b0 := eq_true c18
                have c18b1 : decide ((ys0.size : Int) ≤ ((Cc ByteArray.empty t184 0).size : Int)) = true := decide_eq_true c18
                simp only [Int.toNat_natCast] at H
                have HC8 := Aside0.mk H
                clear H
                go_upto_region 6 with (fail)
                generalize hys1 : (Cc ByteArray.empty t184 0).extract ys0.size (Cc ByteArray.empty t184 0).size = ys1 at HC8 ⊢
                have Nys1 := Aside0.mk hys1
                clear hys1
                have H := HC8.out
                clear HC8
                replace H := Option.bind_eq_some_iff.mp H
                obtain ⟨t188, A190, H⟩ := H
                replace H : (if 0 < (t188.length : Int) then (if ((Cc ByteArray.empty t188 0).size : Int) = (ys1.size : Int) then (some ((⟨#[]⟩ : ByteArray), (⟨#[]⟩ : ByteArray), false)) else (if 0 ≤ (wrap64 (((Cc ByteArray.empty t188 0).size : Int) + 1)) then (if (wrap64 (((Cc ByteArray.empty t188 0).size : Int) + 1)) ≤ (ys1.size : Int) then ((Dl.f kj6 (Cc ByteArray.empty t188 0) (ys1.extract ((wrap64 (((Cc ByteArray.empty t188 0).size : Int) + 1)) : Int).toNat ys1.size)).bind fun t193 => (if t193 = true then ((Ci.f kj6 a1 (Cc ByteArray.empty t188 0) (ys1.extract ((wrap64 (((Cc ByteArray.empty t188 0).size : Int) + 1)) : Int).toNat ys1.size)).bind fun t194 => (if a0.size + 1 ≤ 9223372036854775807 then (some (Cc ByteArray.empty t188 0, ys1.extract ((wrap64 (((Cc ByteArray.empty t188 0).size : Int) + 1)) : Int).toNat ys1.size, (t194.toList == (a0 ++ (⟨#[10]⟩ : ByteArray)).toList))) else (none))) else (some (Cc ByteArray.empty t188 0, ys1.extract ((wrap64 (((Cc ByteArray.empty t188 0).size : Int) + 1)) : Int).toNat ys1.size, false)))) else (none)) else (none))) else (none)) = some (r1, r2, r3) := H
                have A19 := Aside0.mk A190
                clear A190
                by_cases c20 : 0 < (t188.length : Int)
                · rw [if_pos c20] at H
                  have c20b0 : decide (0 < (t188.length : Int)) = true := decide_eq_true c20
                  have c20b1 : decide (0 < t188.length) = true := decide_eq_true (by omega)
                  clear c20
                  by_cases c21 : ((Cc ByteArray.empty t188 0).size : Int) = (ys1.size : Int)
                  · rw [if_pos c21] at H
                    have c21b0 : (((Cc ByteArray.empty t188 0).size : Int) == (ys1.size : Int)) = true := beq_iff_eq.mpr c21
                    have c21b1 : (((Cc ByteArray.empty t188 0).size : Int) != (ys1.size : Int)) = false := bne_eq_false_iff_eq.mpr c21
                    have c21b2 : ((Cc ByteArray.empty t188 0).size == ys1.size) = true := by first | simpa using c21 | (simp at c21 ⊢; omega)
                    clear c21
                    simp only [Option.some.injEq, Prod.mk.injEq] at H
                    obtain ⟨rfl, rfl, rfl⟩ := H
                    go_wp2_with (first | ((with_reducible refine Am (f := 68) rfl ?_); refine Be (some 37) rfl rfl Tryd.func68 (by kernel_rfl) rfl #[.string ys1, .int .u8 64] rfl Yc_ ?_; (with_reducible refine (Cm.calls kj6 ys1 64 t188 _ A19.out).mono ?_); rintro e w22 ⟨v189, rfl, ho0, hb⟩; refine ⟨_, rfl, ?_⟩; have n0_ := Aside0.mk (Kd.En ho0 (Ah Yb_)); have n1_ := Aside0.mk (Ai (g := gb0) (o := .cells #[.string (⟨#[]⟩ : ByteArray), .string (⟨#[]⟩ : ByteArray)] 27 (0, 0)) Yd_ hb); have n2_ := Aside0.mk (Ag Yb_ hb); clear BK0; clear HB; have HO190 := n0_; have BK0 := n1_; have HB := n2_; clear n0_ n1_ n2_; (try clear hb); (try clear hb2); (try clear hk); (try clear hi); (try clear ho0); obtain ⟨Ao23, co23, eo23⟩ := Kd.Eu HO190.out; subst eo23; have p191 : 0 ≤ (0 : Int) := (by omega); have q191 : 0 < (t188.length : Int) := of_decide_eq_true Yba_; obtain ⟨ad191, e191, hx191_0⟩ := Kd.Hm (Kd.Ez HO190.out).2.2 0 p191 q191; cases e191; have qi191 : (0 < t188.length) = True := eq_true (by omega); (try rw [show ((0 : Int)).toNat = 0 from rfl] at hx191_0); (try rw [Addr.add_zero'] at hx191_0); replace p191 := eq_true p191; replace q191 := eq_true q191; have hcz24_0 : w22.cell? ⟨gb0, 0, none⟩ = some (.string (⟨#[]⟩ : ByteArray)) := (Ae BK0.out 0).trans rfl; have hcz24_1 : w22.cell? ⟨gb0, 1, none⟩ = some (.string (⟨#[]⟩ : ByteArray)) := (Ae BK0.out 1).trans rfl; have hfz24_0 := Af BK0.out 0; have hfz24_1 := Af BK0.out 1))
                    refine bodyPost_ret (F6 rfl _ _ gb0 27 #[.string (⟨#[]⟩ : ByteArray), .string (⟨#[]⟩ : ByteArray)] (0, 0) _ rfl Ycf_ Tryd.underlying27 rfl (by kernel_rfl)) rfl ?_
                    exact ⟨by first | rfl | (simp [Ak, Aj] <;> rfl) | (simp [*, Ak, Aj] <;> rfl), by repeat (first | (with_reducible first | exact HB.out | apply below_alloc | apply pw_below_drewN | apply below_drew1 | refine below_set ?_ GE0.out) | exact HB.out)⟩
                  · rw [if_neg c21] at H
                    have c21b0 : (((Cc ByteArray.empty t188 0).size : Int) == (ys1.size : Int)) = false := beq_eq_false_iff_ne.mpr c21
                    have c21b1 : (((Cc ByteArray.empty t188 0).size : Int) != (ys1.size : Int)) = true := bne_iff_ne.mpr c21
                    have c21b2 : ((Cc ByteArray.empty t188 0).size == ys1.size) = false := by first | simpa using c21 | (simp at c21 ⊢; omega)
                    obtain ⟨ji25, hji25⟩ : ∃ j_ : Int, (wrap64 (((Cc ByteArray.empty t188 0).size : Int) + 1)) = j_ := ⟨_, rfl⟩
                    replace H : (if 0 ≤ (ji25) then (if (ji25) ≤ (ys1.size : Int) then ((Dl.f kj6 (Cc ByteArray.empty t188 0) (ys1.extract ((ji25) : Int).toNat ys1.size)).bind fun t193 => (if t193 = true then ((Ci.f kj6 a1 (Cc ByteArray.empty t188 0) (ys1.extract ((ji25) : Int).toNat ys1.size)).bind fun t194 => (if a0.size + 1 ≤ 9223372036854775807 then (some (Cc ByteArray.empty t188 0, ys1.extract ((ji25) : Int).toNat ys1.size, (t194.toList == (a0 ++ (⟨#[10]⟩ : ByteArray)).toList))) else (none))) else (some (Cc ByteArray.empty t188 0, ys1.extract ((ji25) : Int).toNat ys1.size, false)))) else (none)) else (none)) = some (r1, r2, r3) := by first | (rw [hji25] at H; exact H) | (simp only [hji25] at H ⊢; exact H)
                    (try rw [hji25] at A19)
                    have hji25w : (IntKind.i64.wrap (((Cc ByteArray.empty t188 0).size : Int) + 1)) = ji25 := (Aw _).trans hji25
                    by_cases c26 : 0 ≤ (ji25)
                    · rw [if_pos c26] at H
                      have c26b0 := eq_true c26
                      have c26b1 : decide (0 ≤ (ji25)) = true := decide_eq_true c26
                      clear c26
                      by_cases c27 : (ji25) ≤ (ys1.size : Int)
                      · rw [if_pos c27] at H
                        have c27b0 := eq_true c27
                        have c27b1 : decide ((ji25) ≤ (ys1.size : Int)) = true := decide_eq_true c27
                        replace H := Option.bind_eq_some_iff.mp H
                        obtain ⟨t193, A280, H⟩ := H
                        replace H : (if t193 = true then ((Ci.f kj6 a1 (Cc ByteArray.empty t188 0) (ys1.extract ((ji25) : Int).toNat ys1.size)).bind fun t194 => (if a0.size + 1 ≤ 9223372036854775807 then (some (Cc ByteArray.empty t188 0, ys1.extract ((ji25) : Int).toNat ys1.size, (t194.toList == (a0 ++ (⟨#[10]⟩ : ByteArray)).toList))) else (none))) else (some (Cc ByteArray.empty t188 0, ys1.extract ((ji25) : Int).toNat ys1.size, false))) = some (r1, r2, r3) := H
                        have A28 := Aside0.mk A280
                        clear A280
                        by_cases c29 : t193 = true
                        · subst c29
                          have H1 : ((Ci.f kj6 a1 (Cc ByteArray.empty t188 0) (ys1.extract ((ji25) : Int).toNat ys1.size)).bind fun t194 => (if a0.size + 1 ≤ 9223372036854775807 then (some (Cc ByteArray.empty t188 0, ys1.extract ((ji25) : Int).toNat ys1.size, (t194.toList == (a0 ++ (⟨#[10]⟩ : ByteArray)).toList))) else (none))) = some (r1, r2, r3) := by rw [if_pos rfl] at H; exact H
                          clear H
                          have H := H1
                          clear H1
                          replace H := Option.bind_eq_some_iff.mp H
                          obtain ⟨t194, A300, H⟩ := H
                          replace H : (if a0.size + 1 ≤ 9223372036854775807 then (some (Cc ByteArray.empty t188 0, ys1.extract ((ji25) : Int).toNat ys1.size, (t194.toList == (a0 ++ (⟨#[10]⟩ : ByteArray)).toList))) else (none)) = some (r1, r2, r3) := H
                          have A30 := Aside0.mk A300
                          clear A300
                          by_cases c31 : a0.size + 1 ≤ 9223372036854775807
                          · rw [if_pos c31] at H
                            have c31b0 := eq_true c31
                            have c31b1 : decide (a0.size + 1 ≤ 9223372036854775807) = true := decide_eq_true c31
                            try have c31b2 : (9223372036854775807 < a0.size + 1) = False := eq_false (Nat.not_lt.2 c31)
                            simp only [Option.some.injEq, Prod.mk.injEq] at H
                            obtain ⟨rfl, rfl, rfl⟩ := H
                            try go_wp2_with (first | ((with_reducible refine Am (f := 68) rfl ?_); refine Be (some 37) rfl rfl Tryd.func68 (by kernel_rfl) rfl #[.string ys1, .int .u8 64] rfl Yc_ ?_; (with_reducible refine (Cm.calls kj6 ys1 64 t188 _ A19.out).mono ?_); rintro e w32 ⟨v189, rfl, ho0, hb⟩; refine ⟨_, rfl, ?_⟩; have n0_ := Aside0.mk (Kd.En ho0 (Ah Yb_)); have n1_ := Aside0.mk (Ai (g := gb0) (o := .cells #[.string (⟨#[]⟩ : ByteArray), .string (⟨#[]⟩ : ByteArray)] 27 (0, 0)) Yd_ hb); have n2_ := Aside0.mk (Ag Yb_ hb); clear BK0; clear HB; have HO190 := n0_; have BK0 := n1_; have HB := n2_; clear n0_ n1_ n2_; (try clear hb); (try clear hb2); (try clear hk); (try clear hi); (try clear ho0); obtain ⟨Ao33, co33, eo33⟩ := Kd.Eu HO190.out; subst eo33; have p191 : 0 ≤ (0 : Int) := (by omega); have q191 : 0 < (t188.length : Int) := of_decide_eq_true Yba_; obtain ⟨ad191, e191, hx191_0⟩ := Kd.Hm (Kd.Ez HO190.out).2.2 0 p191 q191; cases e191; have qi191 : (0 < t188.length) = True := eq_true (by omega); (try rw [show ((0 : Int)).toNat = 0 from rfl] at hx191_0); (try rw [Addr.add_zero'] at hx191_0); replace p191 := eq_true p191; replace q191 := eq_true q191) | ((with_reducible refine Bd (N := 10) rfl ?_); (try (refine Ef (by rfl) ?_; dsimp only)); refine Bc ?hg (N := 10) ?hd (cs := #[.string (⟨#[]⟩ : ByteArray), .string (⟨#[]⟩ : ByteArray)]) (t := 27) ?hr ?_; (case hd => rfl); (case hg => rfl); (case hr => first | (go_simp; done) | (go_simp; rfl)); intro gb1 hg w34 hbox hb; have n0_ := Aside0.mk (Kd.Eb Yge_ hb); have n1_ := Aside0.mk (Ai (g := gb0) (o := .cells #[.string (⟨#[]⟩ : ByteArray), .string (⟨#[]⟩ : ByteArray)] 27 (0, 0)) Yd_ hb); have n2_ := Aside0.mk (Ag Yb_ hb); have n3_ := Aside0.mk (hbox); have n4_ := Aside0.mk ((by rw [hg]; exact (Ah Yb_) : w.heap.size ≤ gb1)); have n5_ := Aside0.mk ((by rw [hg]; exact (Ah Yb_) : w.heap.size ≤ gb1)); have n6_ := Aside0.mk ((by rw [hg]; exact Nat.ne_of_lt (Cf (g := gb0) (o := .cells #[.string (⟨#[]⟩ : ByteArray), .string (⟨#[]⟩ : ByteArray)] 27 (0, 0)) Yd_) : gb0 ≠ gb1)); have n7_ := Aside0.mk ((by rw [hg]; exact Nat.ne_of_gt (Cf (g := gb0) (o := .cells #[.string (⟨#[]⟩ : ByteArray), .string (⟨#[]⟩ : ByteArray)] 27 (0, 0)) Yd_) : gb1 ≠ gb0)); clear HO190; clear BK0; clear HB; have HO190 := n0_; have BK0 := n1_; have HB := n2_; have BK1 := n3_; have GW1 := n4_; have GE1 := n5_; have NB0_1 := n6_; have NB1_0 := n7_; clear n0_ n1_ n2_ n3_ n4_ n5_ n6_ n7_; clear hb hbox hg; have hnb35 := NB1_0.out; have hnc35 := NB0_1.out; have hcz36_0 : w34.cell? ⟨gb1, 0, none⟩ = some (.string (⟨#[]⟩ : ByteArray)) := (Ae BK1.out 0).trans rfl; have hcz36_1 : w34.cell? ⟨gb1, 1, none⟩ = some (.string (⟨#[]⟩ : ByteArray)) := (Ae BK1.out 1).trans rfl; have hfz36_0 := Af BK1.out 0; have hfz36_1 := Af BK1.out 1))
                            have n0_ : Aside0 (Kd.R Kd.string 9 ((w34.setCell ⟨gb1, 0, none⟩ (.string (Cc ByteArray.empty t188 0))).setCell ⟨gb1, 1, none⟩ (.string (ys1.extract ((ji25) : Int).toNat ys1.size))) w.heap.size (fun _ => True) (.slice (some ad191) t188.length co33) t188) := ⟨by (with_reducible repeat (first | apply Kd.Bo | apply Kd.Bl | apply Kd.Cb)); exact Kd.D5 (Kd.Et (p := ⟨gb1, 1, none⟩) (Kd.Et (p := ⟨gb1, 0, none⟩) (Kd.Gg HO190.out BK1.out (by decide)) (fun _ hk => hk.2) (.string (Cc ByteArray.empty t188 0))) (fun _ hk => hk.2) (.string (ys1.extract ((ji25) : Int).toNat ys1.size))) (fun _ hk => trivial)⟩
                            have n1_ : Aside0 (((w34.setCell ⟨gb1, 0, none⟩ (.string (Cc ByteArray.empty t188 0))).setCell ⟨gb1, 1, none⟩ (.string (ys1.extract ((ji25) : Int).toNat ys1.size))).heap[gb0]? = some (.cells #[.string (⟨#[]⟩ : ByteArray), .string (⟨#[]⟩ : ByteArray)] 27 (0, 0))) := ⟨by (with_reducible repeat (first | refine Aa ?_ _ | refine Ad ?_ | refine Ac ?_ _)); refine Aq ?_ NB0_1.out _; (with_reducible repeat (first | refine Aa ?_ _ | refine Ad ?_ | refine Ac ?_ _)); refine Aq ?_ NB0_1.out _; (with_reducible repeat (first | refine Aa ?_ _ | refine Ad ?_ | refine Ac ?_ _)); exact BK0.out⟩
                            have n2_ : Aside0 (((w34.setCell ⟨gb1, 0, none⟩ (.string (Cc ByteArray.empty t188 0))).setCell ⟨gb1, 1, none⟩ (.string (ys1.extract ((ji25) : Int).toNat ys1.size))).heap[gb1]? = some (.cells #[.string (Cc ByteArray.empty t188 0), .string (ys1.extract ((ji25) : Int).toNat ys1.size)] 27 (0, 0))) := ⟨by (with_reducible repeat (first | refine Aa ?_ _ | refine Ad ?_ | refine Ac ?_ _)); refine Ar (cs := #[.string (Cc ByteArray.empty t188 0), .string (⟨#[]⟩ : ByteArray)]) ?_ 1 _ rfl; (with_reducible repeat (first | refine Aa ?_ _ | refine Ad ?_ | refine Ac ?_ _)); refine Ar (cs := #[.string (⟨#[]⟩ : ByteArray), .string (⟨#[]⟩ : ByteArray)]) ?_ 0 _ rfl; (with_reducible repeat (first | refine Aa ?_ _ | refine Ad ?_ | refine Ac ?_ _)); exact BK1.out⟩
                            have n3_ : Aside0 (Below w.heap.size w ((w34.setCell ⟨gb1, 0, none⟩ (.string (Cc ByteArray.empty t188 0))).setCell ⟨gb1, 1, none⟩ (.string (ys1.extract ((ji25) : Int).toNat ys1.size)))) := ⟨by repeat (first | (with_reducible first | exact HB.out | apply below_alloc | apply pw_below_drewN | apply below_drew1 | refine below_set ?_ GE0.out | refine below_set ?_ GE1.out) | exact HB.out)⟩
                            (try clear HO190)
                            (try clear BK0)
                            (try clear BK1)
                            (try clear HB)
                            generalize ((w34.setCell ⟨gb1, 0, none⟩ (.string (Cc ByteArray.empty t188 0))).setCell ⟨gb1, 1, none⟩ (.string (ys1.extract ((ji25) : Int).toNat ys1.size))) = w37 at n0_ n1_ n2_ n3_ ⊢
                            have HO190 := n0_
                            have BK0 := n1_
                            have BK1 := n2_
                            have HB := n3_
                            clear n0_ n1_ n2_ n3_
                            have n0_ := Aside0.mk (Kd.Cb HO190.out)
                            have n1_ := Aside0.mk (Ad BK0.out)
                            have n2_ := Aside0.mk (Ad BK1.out)
                            have n3_ := Aside0.mk (below_drew1 HB.out)
                            clear HO190
                            clear BK0
                            clear BK1
                            clear HB
                            have HO190 := n0_
                            have BK0 := n1_
                            have BK1 := n2_
                            have HB := n3_
                            clear n0_ n1_ n2_ n3_
                            refine G5 (n := 13) (S := fun w' => w'.cell? ⟨gb1, 0, none⟩ = some (.string (Cc ByteArray.empty t188 0)) ∧ w'.cell? ⟨gb1, 1, none⟩ = some (.string (ys1.extract ((ji25) : Int).toNat ys1.size))) (ds := []) #[false, false, false, false, false, false, false, false, false, false, false, false, false] (by kernel_rfl) rfl rfl ⟨(Ae BK1.out 0).trans rfl, (Ae BK1.out 1).trans rfl⟩ (fun hHeld => ?_); refine Gf C9.tab10 C9.bits10 (fun HT_ HW_ => ?_)
                            generalize w37.drew = w38 at HO190 BK0 BK1 HB hHeld ⊢
                            refine E8 (i := 0) (N := some 53) (v := ?_) (a' := ?_) #[true, false, false, false, false, false, false, false, false, false, false, false, false] rfl rfl (Ea HT_.out HW_.out (by kernel_rfl)) (fun _ _ _ h => h) (Or.inl ⟨by rfl, ?_⟩) hHeld ?_ ?_
                            rotate_left
                            · rintro w' ⟨s0, s1⟩
                              go_simp
                              with_reducible rfl
                            rotate_left
                            · simp only [Act.put, List.setIfInBounds_toArray, List.set_cons_zero, List.set_cons_succ, Aw, Az]
                              rfl
                            refine E8 (i := 1) (N := some 54) (v := ?_) (a' := ?_) #[true, true, false, false, false, false, false, false, false, false, false, false, false] rfl rfl (Ea HT_.out HW_.out (by kernel_rfl)) (fun _ _ _ h => h) (Or.inl ⟨by rfl, ?_⟩) hHeld ?_ ?_
                            rotate_left
                            · rintro w' ⟨s0, s1⟩
                              go_simp
                              with_reducible rfl
                            rotate_left
                            · simp only [Act.put, List.setIfInBounds_toArray, List.set_cons_zero, List.set_cons_succ, Aw, Az]
                              rfl
                            refine one_ (i := 2) (N := some 55) #[true, true, true, false, false, false, false, false, false, false, false, false, false] rfl rfl (Fp HT_.out (by kernel_rfl)) (by decide) (fun K hK => ?_)
                            refine Gl Tryd.func43 (by kernel_rfl) rfl #[.agg #[.string (Cc ByteArray.empty t188 0), .string (ys1.extract ((ji25) : Int).toNat ys1.size)]] (by rfl) rfl rfl Ygj_ ?_
                            with_reducible refine (Dl.calls kj6 (Cc ByteArray.empty t188 0) (ys1.extract ((ji25) : Int).toNat ys1.size) true _ A28.out).mono ?_
                            rintro e w39 ⟨rfl, hb⟩
                            refine ⟨_, rfl, ?_⟩
                            have n0_ := Aside0.mk (Kd.Eb Yge_ hb)
                            have n1_ := Aside0.mk (Ai (g := gb0) (o := .cells #[.string (⟨#[]⟩ : ByteArray), .string (⟨#[]⟩ : ByteArray)] 27 (0, 0)) Yd_ hb)
                            have n2_ := Aside0.mk (Ai (g := gb1) (o := .cells #[.string (Cc ByteArray.empty t188 0), .string (ys1.extract ((ji25) : Int).toNat ys1.size)] 27 (0, 0)) Ye_ hb)
                            have n3_ := Aside0.mk (Ag Yf_ hb)
                            clear HO190
                            clear BK0
                            clear BK1
                            clear HB
                            have HO190 := n0_
                            have BK0 := n1_
                            have BK1 := n2_
                            have HB := n3_
                            clear n0_ n1_ n2_ n3_
                            (try clear hb)
                            (try clear hb2)
                            (try clear hk)
                            (try clear hi)
                            refine hK.out _ _ ⟨(Ae BK1.out 0).trans rfl, (Ae BK1.out 1).trans rfl⟩ (fun hHeld => ?_)
                            clear hK K
                            refine Gp (a' := ?_) ?_ ?_
                            rotate_left
                            · show Act.put _ (some 55) _ = _
                              simp only [Act.put, List.setIfInBounds_toArray, List.set_cons_zero, List.set_cons_succ, Aw, Az]
                              rfl
                            refine Bz (i := 3) (N := some 56) (v := ?_) (a' := ?_) #[true, true, true, true, false, false, false, false, false, false, false, false, false] rfl rfl (Bf HT_.out (by kernel_rfl)) (fun _ _ _ h => h) (Or.inl ⟨by rfl, ?_⟩) ?_ ?_
                            rotate_left
                            · intro w'
                              go_simp
                              with_reducible rfl
                            rotate_left
                            · simp only [Act.put, List.setIfInBounds_toArray, List.set_cons_zero, List.set_cons_succ, Aw, Az]
                              rfl
                            refine Bz (i := 4) (N := some 57) (v := ?_) (a' := ?_) #[true, true, true, true, true, false, false, false, false, false, false, false, false] rfl rfl (Bf HT_.out (by kernel_rfl)) (fun _ _ _ h => h) (Or.inl ⟨by rfl, ?_⟩) ?_ ?_
                            rotate_left
                            · intro w'
                              go_simp
                              with_reducible rfl
                            rotate_left
                            · simp only [Act.put, List.setIfInBounds_toArray, List.set_cons_zero, List.set_cons_succ, Aw, Az]
                              rfl
                            refine Bz (i := 7) (N := some 60) (v := ?_) (a' := ?_) #[true, true, true, true, true, false, false, true, false, false, false, false, false] rfl rfl (Bf HT_.out (by kernel_rfl)) (fun _ _ _ h => h) (Or.inl ⟨by rfl, ?_⟩) ?_ ?_
                            rotate_left
                            · intro w'
                              go_simp
                              with_reducible rfl
                            rotate_left
                            · simp only [Act.put, List.setIfInBounds_toArray, List.set_cons_zero, List.set_cons_succ, Aw, Az]
                              rfl
                            refine Bz (i := 8) (N := some 61) (v := ?_) (a' := ?_) #[true, true, true, true, true, false, false, true, true, false, false, false, false] rfl rfl (Bf HT_.out (by kernel_rfl)) (fun _ _ _ h => h) (Or.inl ⟨by rfl, ?_⟩) ?_ ?_
                            rotate_left
                            · intro w'
                              go_simp
                              with_reducible rfl
                            rotate_left
                            · simp only [Act.put, List.setIfInBounds_toArray, List.set_cons_zero, List.set_cons_succ, Aw, Az]
                              rfl
                            refine E8 (i := 5) (N := some 58) (v := ?_) (a' := ?_) #[true, true, true, true, true, true, false, true, true, false, false, false, false] rfl rfl (Ea HT_.out HW_.out (by kernel_rfl)) (fun _ _ _ h => h) (Or.inl ⟨by rfl, ?_⟩) hHeld ?_ ?_
                            rotate_left
                            · rintro w' ⟨s0, s1⟩
                              go_simp
                              with_reducible rfl
                            rotate_left
                            · simp only [Act.put, List.setIfInBounds_toArray, List.set_cons_zero, List.set_cons_succ, Aw, Az]
                              rfl
                            refine one_ (i := 6) (N := some 59) #[true, true, true, true, true, true, true, true, true, false, false, false, false] rfl rfl (Fp HT_.out (by kernel_rfl)) (by decide) (fun K hK => ?_)
                            refine Gl Tryd.func44 (by kernel_rfl) rfl #[.int .i64 a1, .agg #[.string (Cc ByteArray.empty t188 0), .string (ys1.extract ((ji25) : Int).toNat ys1.size)]] (by rfl) rfl rfl Ygj_ ?_
                            with_reducible refine (Ci.calls kj6 a1 (Cc ByteArray.empty t188 0) (ys1.extract ((ji25) : Int).toNat ys1.size) t194 _ A30.out).mono ?_
                            rintro e w40 ⟨rfl, hb⟩
                            refine ⟨_, rfl, ?_⟩
                            have n0_ := Aside0.mk (Kd.Eb Yge_ hb)
                            have n1_ := Aside0.mk (Ai (g := gb0) (o := .cells #[.string (⟨#[]⟩ : ByteArray), .string (⟨#[]⟩ : ByteArray)] 27 (0, 0)) Yd_ hb)
                            have n2_ := Aside0.mk (Ai (g := gb1) (o := .cells #[.string (Cc ByteArray.empty t188 0), .string (ys1.extract ((ji25) : Int).toNat ys1.size)] 27 (0, 0)) Ye_ hb)
                            have n3_ := Aside0.mk (Ag Yf_ hb)
                            clear HO190
                            clear BK0
                            clear BK1
                            clear HB
                            have HO190 := n0_
                            have BK0 := n1_
                            have BK1 := n2_
                            have HB := n3_
                            clear n0_ n1_ n2_ n3_
                            (try clear hb)
                            (try clear hb2)
                            (try clear hk)
                            (try clear hi)
                            refine hK.out _ _ ⟨(Ae BK1.out 0).trans rfl, (Ae BK1.out 1).trans rfl⟩ (fun hHeld => ?_)
                            clear hK K
                            refine Gp (a' := ?_) ?_ ?_
                            rotate_left
                            · show Act.put _ (some 59) _ = _
                              simp only [Act.put, List.setIfInBounds_toArray, List.set_cons_zero, List.set_cons_succ, Aw, Az]
                              rfl
                            refine Bz (i := 9) (N := some 62) (v := ?_) (a' := ?_) #[true, true, true, true, true, true, true, true, true, true, false, false, false] rfl rfl (Bf HT_.out (by kernel_rfl)) (fun _ _ _ h => h) (Or.inl ⟨by rfl, ?_⟩) ?_ ?_
                            rotate_left
                            · intro w'
                              go_simp
                              with_reducible rfl
                            rotate_left
                            · simp only [Act.put, List.setIfInBounds_toArray, List.set_cons_zero, List.set_cons_succ, Aw, Az]
                              rfl
                            refine Bz (i := 10) (N := some 63) (v := ?_) (a' := ?_) #[true, true, true, true, true, true, true, true, true, true, true, false, false] rfl rfl (Bf HT_.out (by kernel_rfl)) (fun _ _ _ h => h) (Or.inl ⟨by rfl, ?_⟩) ?_ ?_
                            rotate_left
                            · intro w'
                              go_simp
                              with_reducible rfl
                            rotate_left
                            · simp only [Act.put, List.setIfInBounds_toArray, List.set_cons_zero, List.set_cons_succ, Aw, Az]
                              rfl
                            refine one_ (i := 11) (N := none) #[true, true, true, true, true, true, true, true, true, true, true, true, false] rfl rfl (Fp HT_.out (by kernel_rfl)) (by decide) (fun K hK => ?_)
                            have hs41 : w40.cell? ⟨gb0, 0, none⟩ = some (.string (⟨#[]⟩ : ByteArray)) := (Ae BK0.out 0).trans rfl
                            have hfs41 := Af BK0.out 0
                            have hns41_1 := NB1_0.out
                            have hms41_1 := NB0_1.out
                            have hs42 : w40.cell? ⟨gb0, 1, none⟩ = some (.string (⟨#[]⟩ : ByteArray)) := (Ae BK0.out 1).trans rfl
                            have hfs42 := Af BK0.out 1
                            have hns42_1 := NB1_0.out
                            have hms42_1 := NB0_1.out
                            refine skip_ (w1 := ?_) (by rfl) rfl ?_ ?_
                            rotate_left
                            · go_simp
                              rfl
                            refine hK.out _ _ ⟨((cell_far (p := ⟨gb0, _, none⟩) NB1_0.out _).trans (((cell_far (p := ⟨gb0, _, none⟩) NB1_0.out _).trans (hHeld.1)))), ((cell_far (p := ⟨gb0, _, none⟩) NB1_0.out _).trans (((cell_far (p := ⟨gb0, _, none⟩) NB1_0.out _).trans (hHeld.2))))⟩ (fun hHeld => ?_)
                            clear hK K
                            refine Bz (i := 12) (N := some 5) (v := ?_) (a' := ?_) #[true, true, true, true, true, true, true, true, true, true, true, true, true] rfl rfl (Bf HT_.out (by kernel_rfl)) (fun _ _ _ h => h) (Or.inl ⟨by rfl, ?_⟩) ?_ ?_
                            rotate_left
                            · intro w'
                              go_simp
                              with_reducible rfl
                            rotate_left
                            · simp only [Act.put, List.setIfInBounds_toArray, List.set_cons_zero, List.set_cons_succ, Aw, Az]
                              rfl
                            refine done_ (Gy HT_.out (by kernel_rfl)) ?_
                            try go_wp2
                            refine bodyPost_ret (F6 rfl _ _ gb0 27 #[.string (Cc ByteArray.empty t188 0), .string (ys1.extract ((ji25) : Int).toNat ys1.size)] (0, 0) _ rfl Yfh_ Tryd.underlying27 rfl (by kernel_rfl)) rfl ?_
                            exact ⟨by first | rfl | (simp [Ak, Aj] <;> rfl) | (simp only [← hji25]; first | rfl | (simp [Ak, Aj] <;> rfl)) | (simp [*, Ak, Aj] <;> rfl), by repeat (first | (with_reducible first | exact HB.out | apply below_alloc | apply pw_below_drewN | apply below_drew1 | refine below_set ?_ GE0.out | refine below_set ?_ GE1.out) | exact HB.out)⟩
                          · rw [if_neg c31] at H
                            exact absurd H (by simp)
                        · replace c29 := Bool.eq_false_iff.mpr c29
                          subst c29
                          have H1 : (some (Cc ByteArray.empty t188 0, ys1.extract ((ji25) : Int).toNat ys1.size, false)) = some (r1, r2, r3) := by rw [if_neg (show ¬ (false = true) by decide)] at H; exact H
                          clear H
                          have H := H1
                          clear H1
                          simp only [Option.some.injEq, Prod.mk.injEq] at H
                          obtain ⟨rfl, rfl, rfl⟩ := H
                          try go_wp2_with (first | ((with_reducible refine Am (f := 68) rfl ?_); refine Be (some 37) rfl rfl Tryd.func68 (by kernel_rfl) rfl #[.string ys1, .int .u8 64] rfl Yc_ ?_; (with_reducible refine (Cm.calls kj6 ys1 64 t188 _ A19.out).mono ?_); rintro e w43 ⟨v189, rfl, ho0, hb⟩; refine ⟨_, rfl, ?_⟩; have n0_ := Aside0.mk (Kd.En ho0 (Ah Yb_)); have n1_ := Aside0.mk (Ai (g := gb0) (o := .cells #[.string (⟨#[]⟩ : ByteArray), .string (⟨#[]⟩ : ByteArray)] 27 (0, 0)) Yd_ hb); have n2_ := Aside0.mk (Ag Yb_ hb); clear BK0; clear HB; have HO190 := n0_; have BK0 := n1_; have HB := n2_; clear n0_ n1_ n2_; (try clear hb); (try clear hb2); (try clear hk); (try clear hi); (try clear ho0); obtain ⟨Ao44, co44, eo44⟩ := Kd.Eu HO190.out; subst eo44; have p191 : 0 ≤ (0 : Int) := (by omega); have q191 : 0 < (t188.length : Int) := of_decide_eq_true Yba_; obtain ⟨ad191, e191, hx191_0⟩ := Kd.Hm (Kd.Ez HO190.out).2.2 0 p191 q191; cases e191; have qi191 : (0 < t188.length) = True := eq_true (by omega); (try rw [show ((0 : Int)).toNat = 0 from rfl] at hx191_0); (try rw [Addr.add_zero'] at hx191_0); replace p191 := eq_true p191; replace q191 := eq_true q191) | ((with_reducible refine Bd (N := 10) rfl ?_); (try (refine Ef (by rfl) ?_; dsimp only)); refine Bc ?hg (N := 10) ?hd (cs := #[.string (⟨#[]⟩ : ByteArray), .string (⟨#[]⟩ : ByteArray)]) (t := 27) ?hr ?_; (case hd => rfl); (case hg => rfl); (case hr => first | (go_simp; done) | (go_simp; rfl)); intro gb1 hg w45 hbox hb; have n0_ := Aside0.mk (Kd.Eb Yge_ hb); have n1_ := Aside0.mk (Ai (g := gb0) (o := .cells #[.string (⟨#[]⟩ : ByteArray), .string (⟨#[]⟩ : ByteArray)] 27 (0, 0)) Yd_ hb); have n2_ := Aside0.mk (Ag Yb_ hb); have n3_ := Aside0.mk (hbox); have n4_ := Aside0.mk ((by rw [hg]; exact (Ah Yb_) : w.heap.size ≤ gb1)); have n5_ := Aside0.mk ((by rw [hg]; exact (Ah Yb_) : w.heap.size ≤ gb1)); have n6_ := Aside0.mk ((by rw [hg]; exact Nat.ne_of_lt (Cf (g := gb0) (o := .cells #[.string (⟨#[]⟩ : ByteArray), .string (⟨#[]⟩ : ByteArray)] 27 (0, 0)) Yd_) : gb0 ≠ gb1)); have n7_ := Aside0.mk ((by rw [hg]; exact Nat.ne_of_gt (Cf (g := gb0) (o := .cells #[.string (⟨#[]⟩ : ByteArray), .string (⟨#[]⟩ : ByteArray)] 27 (0, 0)) Yd_) : gb1 ≠ gb0)); clear HO190; clear BK0; clear HB; have HO190 := n0_; have BK0 := n1_; have HB := n2_; have BK1 := n3_; have GW1 := n4_; have GE1 := n5_; have NB0_1 := n6_; have NB1_0 := n7_; clear n0_ n1_ n2_ n3_ n4_ n5_ n6_ n7_; clear hb hbox hg; have hnb46 := NB1_0.out; have hnc46 := NB0_1.out; have hcz47_0 : w45.cell? ⟨gb1, 0, none⟩ = some (.string (⟨#[]⟩ : ByteArray)) := (Ae BK1.out 0).trans rfl; have hcz47_1 : w45.cell? ⟨gb1, 1, none⟩ = some (.string (⟨#[]⟩ : ByteArray)) := (Ae BK1.out 1).trans rfl; have hfz47_0 := Af BK1.out 0; have hfz47_1 := Af BK1.out 1))
                          have n0_ : Aside0 (Kd.R Kd.string 9 ((w45.setCell ⟨gb1, 0, none⟩ (.string (Cc ByteArray.empty t188 0))).setCell ⟨gb1, 1, none⟩ (.string (ys1.extract ((ji25) : Int).toNat ys1.size))) w.heap.size (fun _ => True) (.slice (some ad191) t188.length co44) t188) := ⟨by (with_reducible repeat (first | apply Kd.Bo | apply Kd.Bl | apply Kd.Cb)); exact Kd.D5 (Kd.Et (p := ⟨gb1, 1, none⟩) (Kd.Et (p := ⟨gb1, 0, none⟩) (Kd.Gg HO190.out BK1.out (by decide)) (fun _ hk => hk.2) (.string (Cc ByteArray.empty t188 0))) (fun _ hk => hk.2) (.string (ys1.extract ((ji25) : Int).toNat ys1.size))) (fun _ hk => trivial)⟩
                          have n1_ : Aside0 (((w45.setCell ⟨gb1, 0, none⟩ (.string (Cc ByteArray.empty t188 0))).setCell ⟨gb1, 1, none⟩ (.string (ys1.extract ((ji25) : Int).toNat ys1.size))).heap[gb0]? = some (.cells #[.string (⟨#[]⟩ : ByteArray), .string (⟨#[]⟩ : ByteArray)] 27 (0, 0))) := ⟨by (with_reducible repeat (first | refine Aa ?_ _ | refine Ad ?_ | refine Ac ?_ _)); refine Aq ?_ NB0_1.out _; (with_reducible repeat (first | refine Aa ?_ _ | refine Ad ?_ | refine Ac ?_ _)); refine Aq ?_ NB0_1.out _; (with_reducible repeat (first | refine Aa ?_ _ | refine Ad ?_ | refine Ac ?_ _)); exact BK0.out⟩
                          have n2_ : Aside0 (((w45.setCell ⟨gb1, 0, none⟩ (.string (Cc ByteArray.empty t188 0))).setCell ⟨gb1, 1, none⟩ (.string (ys1.extract ((ji25) : Int).toNat ys1.size))).heap[gb1]? = some (.cells #[.string (Cc ByteArray.empty t188 0), .string (ys1.extract ((ji25) : Int).toNat ys1.size)] 27 (0, 0))) := ⟨by (with_reducible repeat (first | refine Aa ?_ _ | refine Ad ?_ | refine Ac ?_ _)); refine Ar (cs := #[.string (Cc ByteArray.empty t188 0), .string (⟨#[]⟩ : ByteArray)]) ?_ 1 _ rfl; (with_reducible repeat (first | refine Aa ?_ _ | refine Ad ?_ | refine Ac ?_ _)); refine Ar (cs := #[.string (⟨#[]⟩ : ByteArray), .string (⟨#[]⟩ : ByteArray)]) ?_ 0 _ rfl; (with_reducible repeat (first | refine Aa ?_ _ | refine Ad ?_ | refine Ac ?_ _)); exact BK1.out⟩
                          have n3_ : Aside0 (Below w.heap.size w ((w45.setCell ⟨gb1, 0, none⟩ (.string (Cc ByteArray.empty t188 0))).setCell ⟨gb1, 1, none⟩ (.string (ys1.extract ((ji25) : Int).toNat ys1.size)))) := ⟨by repeat (first | (with_reducible first | exact HB.out | apply below_alloc | apply pw_below_drewN | apply below_drew1 | refine below_set ?_ GE0.out | refine below_set ?_ GE1.out) | exact HB.out)⟩
                          (try clear HO190)
                          (try clear BK0)
                          (try clear BK1)
                          (try clear HB)
                          generalize ((w45.setCell ⟨gb1, 0, none⟩ (.string (Cc ByteArray.empty t188 0))).setCell ⟨gb1, 1, none⟩ (.string (ys1.extract ((ji25) : Int).toNat ys1.size))) = w48 at n0_ n1_ n2_ n3_ ⊢
                          have HO190 := n0_
                          have BK0 := n1_
                          have BK1 := n2_
                          have HB := n3_
                          clear n0_ n1_ n2_ n3_
                          have n0_ := Aside0.mk (Kd.Cb HO190.out)
                          have n1_ := Aside0.mk (Ad BK0.out)
                          have n2_ := Aside0.mk (Ad BK1.out)
                          have n3_ := Aside0.mk (below_drew1 HB.out)
                          clear HO190
                          clear BK0
                          clear BK1
                          clear HB
                          have HO190 := n0_
                          have BK0 := n1_
                          have BK1 := n2_
                          have HB := n3_
                          clear n0_ n1_ n2_ n3_
                          refine G5 (n := 13) (S := fun w' => w'.cell? ⟨gb1, 0, none⟩ = some (.string (Cc ByteArray.empty t188 0)) ∧ w'.cell? ⟨gb1, 1, none⟩ = some (.string (ys1.extract ((ji25) : Int).toNat ys1.size))) (ds := []) #[false, false, false, false, false, false, false, false, false, false, false, false, false] (by kernel_rfl) rfl rfl ⟨(Ae BK1.out 0).trans rfl, (Ae BK1.out 1).trans rfl⟩ (fun hHeld => ?_); refine Gf C9.tab10 C9.bits10 (fun HT_ HW_ => ?_)
                          generalize w48.drew = w49 at HO190 BK0 BK1 HB hHeld ⊢
                          refine E8 (i := 0) (N := some 53) (v := ?_) (a' := ?_) #[true, false, false, false, false, false, false, false, false, false, false, false, false] rfl rfl (Ea HT_.out HW_.out (by kernel_rfl)) (fun _ _ _ h => h) (Or.inl ⟨by rfl, ?_⟩) hHeld ?_ ?_
                          rotate_left
                          · rintro w' ⟨s0, s1⟩
                            go_simp
                            with_reducible rfl
                          rotate_left
                          · simp only [Act.put, List.setIfInBounds_toArray, List.set_cons_zero, List.set_cons_succ, Aw, Az]
                            rfl
                          refine E8 (i := 1) (N := some 54) (v := ?_) (a' := ?_) #[true, true, false, false, false, false, false, false, false, false, false, false, false] rfl rfl (Ea HT_.out HW_.out (by kernel_rfl)) (fun _ _ _ h => h) (Or.inl ⟨by rfl, ?_⟩) hHeld ?_ ?_
                          rotate_left
                          · rintro w' ⟨s0, s1⟩
                            go_simp
                            with_reducible rfl
                          rotate_left
                          · simp only [Act.put, List.setIfInBounds_toArray, List.set_cons_zero, List.set_cons_succ, Aw, Az]
                            rfl
                          refine one_ (i := 2) (N := some 55) #[true, true, true, false, false, false, false, false, false, false, false, false, false] rfl rfl (Fp HT_.out (by kernel_rfl)) (by decide) (fun K hK => ?_)
                          refine Gl Tryd.func43 (by kernel_rfl) rfl #[.agg #[.string (Cc ByteArray.empty t188 0), .string (ys1.extract ((ji25) : Int).toNat ys1.size)]] (by rfl) rfl rfl Ygj_ ?_
                          with_reducible refine (Dl.calls kj6 (Cc ByteArray.empty t188 0) (ys1.extract ((ji25) : Int).toNat ys1.size) false _ A28.out).mono ?_
                          rintro e w50 ⟨rfl, hb⟩
                          refine ⟨_, rfl, ?_⟩
                          have n0_ := Aside0.mk (Kd.Eb Yge_ hb)
                          have n1_ := Aside0.mk (Ai (g := gb0) (o := .cells #[.string (⟨#[]⟩ : ByteArray), .string (⟨#[]⟩ : ByteArray)] 27 (0, 0)) Yd_ hb)
                          have n2_ := Aside0.mk (Ai (g := gb1) (o := .cells #[.string (Cc ByteArray.empty t188 0), .string (ys1.extract ((ji25) : Int).toNat ys1.size)] 27 (0, 0)) Ye_ hb)
                          have n3_ := Aside0.mk (Ag Yf_ hb)
                          clear HO190
                          clear BK0
                          clear BK1
                          clear HB
                          have HO190 := n0_
                          have BK0 := n1_
                          have BK1 := n2_
                          have HB := n3_
                          clear n0_ n1_ n2_ n3_
                          (try clear hb)
                          (try clear hb2)
                          (try clear hk)
                          (try clear hi)
                          refine hK.out _ _ ⟨(Ae BK1.out 0).trans rfl, (Ae BK1.out 1).trans rfl⟩ (fun hHeld => ?_)
                          clear hK K
                          refine Gp (a' := ?_) ?_ ?_
                          rotate_left
                          · show Act.put _ (some 55) _ = _
                            simp only [Act.put, List.setIfInBounds_toArray, List.set_cons_zero, List.set_cons_succ, Aw, Az]
                            rfl
                          refine Bz (i := 3) (N := some 56) (v := ?_) (a' := ?_) #[true, true, true, true, false, false, false, false, false, false, false, false, false] rfl rfl (Bf HT_.out (by kernel_rfl)) (fun _ _ _ h => h) (Or.inl ⟨by rfl, ?_⟩) ?_ ?_
                          rotate_left
                          · intro w'
                            go_simp
                            with_reducible rfl
                          rotate_left
                          · simp only [Act.put, List.setIfInBounds_toArray, List.set_cons_zero, List.set_cons_succ, Aw, Az]
                            rfl
                          refine Bz (i := 4) (N := some 57) (v := undef) (a' := ?_) #[true, true, true, true, true, false, false, false, false, false, false, false, false] rfl rfl (Bf HT_.out (by kernel_rfl)) (fun _ _ _ h => h) (Or.inr ⟨by rfl, rfl⟩) ?_ ?_
                          rotate_left
                          · simp only [Act.put, List.setIfInBounds_toArray, List.set_cons_zero, List.set_cons_succ, Aw, Az]
                            rfl
                          refine Bz (i := 5) (N := some 58) (v := undef) (a' := ?_) #[true, true, true, true, true, true, false, false, false, false, false, false, false] rfl rfl (Bf HT_.out (by kernel_rfl)) (fun _ _ _ h => h) (Or.inr ⟨by rfl, rfl⟩) ?_ ?_
                          rotate_left
                          · simp only [Act.put, List.setIfInBounds_toArray, List.set_cons_zero, List.set_cons_succ, Aw, Az]
                            rfl
                          refine Bz (i := 6) (N := some 59) (v := undef) (a' := ?_) #[true, true, true, true, true, true, true, false, false, false, false, false, false] rfl rfl (Bf HT_.out (by kernel_rfl)) (fun _ _ _ h => h) (Or.inr ⟨by rfl, rfl⟩) ?_ ?_
                          rotate_left
                          · simp only [Act.put, List.setIfInBounds_toArray, List.set_cons_zero, List.set_cons_succ, Aw, Az]
                            rfl
                          refine Bz (i := 7) (N := some 60) (v := undef) (a' := ?_) #[true, true, true, true, true, true, true, true, false, false, false, false, false] rfl rfl (Bf HT_.out (by kernel_rfl)) (fun _ _ _ h => h) (Or.inr ⟨by rfl, rfl⟩) ?_ ?_
                          rotate_left
                          · simp only [Act.put, List.setIfInBounds_toArray, List.set_cons_zero, List.set_cons_succ, Aw, Az]
                            rfl
                          refine Bz (i := 8) (N := some 61) (v := undef) (a' := ?_) #[true, true, true, true, true, true, true, true, true, false, false, false, false] rfl rfl (Bf HT_.out (by kernel_rfl)) (fun _ _ _ h => h) (Or.inr ⟨by rfl, rfl⟩) ?_ ?_
                          rotate_left
                          · simp only [Act.put, List.setIfInBounds_toArray, List.set_cons_zero, List.set_cons_succ, Aw, Az]
                            rfl
                          refine Bz (i := 9) (N := some 62) (v := undef) (a' := ?_) #[true, true, true, true, true, true, true, true, true, true, false, false, false] rfl rfl (Bf HT_.out (by kernel_rfl)) (fun _ _ _ h => h) (Or.inr ⟨by rfl, rfl⟩) ?_ ?_
                          rotate_left
                          · simp only [Act.put, List.setIfInBounds_toArray, List.set_cons_zero, List.set_cons_succ, Aw, Az]
                            rfl
                          refine Bz (i := 10) (N := some 63) (v := ?_) (a' := ?_) #[true, true, true, true, true, true, true, true, true, true, true, false, false] rfl rfl (Bf HT_.out (by kernel_rfl)) (fun _ _ _ h => h) (Or.inl ⟨by rfl, ?_⟩) ?_ ?_
                          rotate_left
                          · intro w'
                            go_simp
                            with_reducible rfl
                          rotate_left
                          · simp only [Act.put, List.setIfInBounds_toArray, List.set_cons_zero, List.set_cons_succ, Aw, Az]
                            rfl
                          refine one_ (i := 11) (N := none) #[true, true, true, true, true, true, true, true, true, true, true, true, false] rfl rfl (Fp HT_.out (by kernel_rfl)) (by decide) (fun K hK => ?_)
                          have hs51 : w50.cell? ⟨gb0, 0, none⟩ = some (.string (⟨#[]⟩ : ByteArray)) := (Ae BK0.out 0).trans rfl
                          have hfs51 := Af BK0.out 0
                          have hns51_1 := NB1_0.out
                          have hms51_1 := NB0_1.out
                          have hs52 : w50.cell? ⟨gb0, 1, none⟩ = some (.string (⟨#[]⟩ : ByteArray)) := (Ae BK0.out 1).trans rfl
                          have hfs52 := Af BK0.out 1
                          have hns52_1 := NB1_0.out
                          have hms52_1 := NB0_1.out
                          refine skip_ (w1 := ?_) (by rfl) rfl ?_ ?_
                          rotate_left
                          · go_simp
                            rfl
                          refine hK.out _ _ ⟨((cell_far (p := ⟨gb0, _, none⟩) NB1_0.out _).trans (((cell_far (p := ⟨gb0, _, none⟩) NB1_0.out _).trans (hHeld.1)))), ((cell_far (p := ⟨gb0, _, none⟩) NB1_0.out _).trans (((cell_far (p := ⟨gb0, _, none⟩) NB1_0.out _).trans (hHeld.2))))⟩ (fun hHeld => ?_)
                          clear hK K
                          refine Bz (i := 12) (N := some 5) (v := ?_) (a' := ?_) #[true, true, true, true, true, true, true, true, true, true, true, true, true] rfl rfl (Bf HT_.out (by kernel_rfl)) (fun _ _ _ h => h) (Or.inl ⟨by rfl, ?_⟩) ?_ ?_
                          rotate_left
                          · intro w'
                            go_simp
                            with_reducible rfl
                          rotate_left
                          · simp only [Act.put, List.setIfInBounds_toArray, List.set_cons_zero, List.set_cons_succ, Aw, Az]
                            rfl
                          refine done_ (Gy HT_.out (by kernel_rfl)) ?_
                          try go_wp2
                          refine bodyPost_ret (F6 rfl _ _ gb0 27 #[.string (Cc ByteArray.empty t188 0), .string (ys1.extract ((ji25) : Int).toNat ys1.size)] (0, 0) _ rfl Yfh_ Tryd.underlying27 rfl (by kernel_rfl)) rfl ?_
                          exact ⟨by first | rfl | (simp [Ak, Aj] <;> rfl) | (simp only [← hji25]; first | rfl | (simp [Ak, Aj] <;> rfl)) | (simp [*, Ak, Aj] <;> rfl), by repeat (first | (with_reducible first | exact HB.out | apply below_alloc | apply pw_below_drewN | apply below_drew1 | refine below_set ?_ GE0.out | refine below_set ?_ GE1.out) | exact HB.out)⟩
                      · rw [if_neg c27] at H
                        exact absurd H (by simp)
                    · rw [if_neg c26] at H
                      exact absurd H (by simp)
                · rw [if_neg c20] at H
                  exact absurd H (by simp)
              · rw [if_neg c18] at H
                exact absurd H (by simp)
            · rw [if_neg c17] at H
              exact absurd H (by simp)
    · rw [if_neg c6] at H
      exact absurd H (by simp)
  · rw [if_neg c4] at H
    exact absurd H (by simp)
end Go.Proofs.YtkpieljmhgfofaaDoor.X

namespace Go.Proofs.YtkpieljmhgfofaaDoor.X
open Go.RowKit Go.Proofs.YtkpieljmhgfofaaDoorW.PrintWords Go.Proofs.YtkpieljmhgfofaaDoorW.PrintLast Go.Proofs.YtkpieljmhgfofaaDoorW.PrintMore
attribute [local go_sem] max2_int min2_int max_two min_two max_three min_three max_four min_four
open Go.Proofs.YtkpieljmhgfofaaDoorG
mutual
def Bv.l0 : Nat → ByteArray → List (S27) → Int → Option ((List (S27)) × Int)
  | 0, _, _, _ => none
  | k + 1, x0, x4, x5 => if x5 < (x0.size : Int) then (Bv.j1 k x0 x4 x5 (decide ((x4.length : Int) < 60))) else (Bv.j1 k x0 x4 x5 false)
def Bv.j1 : Nat → ByteArray → List (S27) → Int → Bool → Option ((List (S27)) × Int)
  | 0, _, _, _, _ => none
  | k + 1, x0, x4, x5, x18 => if x18 = true then (if 0 ≤ x5 then (if x5 ≤ (x0.size : Int) then ((Cm.f k (x0.extract (x5 : Int).toNat x0.size) 10).bind fun t198 => (if 0 < (t198.length : Int) then ((C9.f k (Cc ByteArray.empty t198 0) (x4.length : Int)).bind fun bt202 => (if (t198.length : Int) < 2 then (some (x4, x5)) else (if bt202.2.2 = true then (if x4.length < 4398046511104 then (Bv.l0 k x0 (x4 ++ [(⟨bt202.1, bt202.2.1⟩ : S27)]) (wrap64 ((wrap64 (x5 + ((Cc ByteArray.empty t198 0).size : Int))) + 1))) else (none)) else (some (x4, x5))))) else (none))) else (none)) else (none)) else (some (x4, x5))
end
def Bv.f (k : Nat) (a0 : ByteArray) : Option ((List (S27)) × Int) := Bv.l0 k a0 (([] : List (S27))) 0
theorem Bv.Ej : ∀ k, (∀ y0 y1 y2, LeO (Bv.l0 k y0 y1 y2) (Bv.l0 (k + 1) y0 y1 y2)) ∧ (∀ y0 y1 y2 y3, LeO (Bv.j1 k y0 y1 y2 y3) (Bv.j1 (k + 1) y0 y1 y2 y3))
  | 0 => ⟨fun _ _ _ r h => by simp [Bv.l0] at h, fun _ _ _ _ r h => by simp [Bv.j1] at h⟩
  | k + 1 => by
    obtain ⟨ih0, ih1⟩ := Bv.Ej k
    refine ⟨?_, ?_⟩
    · intro y0 y1 y2
      unfold Bv.l0
      repeat' first
      | (with_reducible exact ih0 _ _ _)
      | (with_reducible exact ih1 _ _ _ _)
      | (with_reducible exact Cm.mono _ _ _)
      | (with_reducible exact C9.mono _ _ _)
      | (with_reducible exact LeO.refl _)
      | (with_reducible exact LeO.none _)
      | (with_reducible refine LeO.ite ?_ ?_)
      | (with_reducible refine LeO.bind ?_ (fun _ => ?_))
      | exact ih0 _ _ _
      | exact ih1 _ _ _ _
      | exact Cm.mono _ _ _
      | exact C9.mono _ _ _
      | exact LeO.none _
      | refine LeO.ite ?_ ?_
      | refine LeO.bind ?_ (fun _ => ?_)
    · intro y0 y1 y2 y3
      unfold Bv.j1
      repeat' first
      | (with_reducible exact ih0 _ _ _)
      | (with_reducible exact ih1 _ _ _ _)
      | (with_reducible exact Cm.mono _ _ _)
      | (with_reducible exact C9.mono _ _ _)
      | (with_reducible exact LeO.refl _)
      | (with_reducible exact LeO.none _)
      | (with_reducible refine LeO.ite ?_ ?_)
      | (with_reducible refine LeO.bind ?_ (fun _ => ?_))
      | exact ih0 _ _ _
      | exact ih1 _ _ _ _
      | exact Cm.mono _ _ _
      | exact C9.mono _ _ _
      | exact LeO.none _
      | refine LeO.ite ?_ ?_
      | refine LeO.bind ?_ (fun _ => ?_)
theorem Bv.mono : ∀ a0 k, LeO (Bv.f k a0) (Bv.f (k + 1) a0) := by
  intro a0 k
  obtain ⟨ih0, ih1⟩ := Bv.Ej k
  unfold Bv.f
  repeat' first
      | (with_reducible exact ih0 _ _ _)
      | (with_reducible exact ih1 _ _ _ _)
      | (with_reducible exact Cm.mono _ _ _)
      | (with_reducible exact C9.mono _ _ _)
      | (with_reducible exact LeO.refl _)
      | (with_reducible exact LeO.none _)
      | (with_reducible refine LeO.ite ?_ ?_)
      | (with_reducible refine LeO.bind ?_ (fun _ => ?_))
      | exact ih0 _ _ _
      | exact ih1 _ _ _ _
      | exact Cm.mono _ _ _
      | exact C9.mono _ _ _
      | exact LeO.none _
      | refine LeO.ite ?_ ?_
      | refine LeO.bind ?_ (fun _ => ?_)
set_option maxHeartbeats 8000000 in
set_option maxRecDepth 100000 in
theorem Bv.calls (k : Nat) (a0 : ByteArray) (r1 : List (S27)) (r2 : Int) (w : World) (h : Bv.f k a0 = some (r1, r2)) :
    Calls Tryd.prog 47 #[.string a0] w fun e w' => ∃ v0_ : Value, e = .returned (.tuple #[v0_, .int .i64 r2]) ∧ Kd.R k27 27 w' w.heap.size (fun _ => True) v0_ r1 ∧ Below w.heap.size w w' := by
  have hu27 := Tryd.underlying27
  have HB := Aside0.mk (Below.refl w.heap.size w)
  have H : (Bv.l0 k a0 (([] : List (S27))) 0) = some (r1, r2) := h
  clear h
  obtain ⟨y195, hy195⟩ : ∃ y_ : List (S27), y_ = (([] : List (S27))) := ⟨_, rfl⟩
  replace H : (Bv.l0 k a0 y195 0) = some (r1, r2) := by first | (rw [hy195]; with_reducible exact H) | (have H2_ := (Option.bind_some _ _).symm.trans H; rw [hy195]; with_reducible exact H2_) | (have H2_ := (Option.bind_some _ _).symm.trans H; with_reducible exact H2_) | with_reducible exact H | (rw [hy195]; exact H) | exact H
  have Ny195 := Aside0.mk hy195
  clear hy195
  have H' := Aside0.mk H
  clear H
  go_enter Tryd.func47, Tryd.ntmps47
  go_wp2_with (first | ((with_reducible refine Bd (N := 9) rfl ?_); (try (refine Ef (by rfl) ?_; dsimp only)); refine Kd.R_lit k27 _ 27 ?hg (N := 9) ?hd (xs := ([] : List (S27))) (inner := []) (ok := fun _ => True) (okp := fun _ => True) ?hr ?hp (fun _ hk => hk) trivial (Below.refl _ _) (Nat.le_refl _) (by simp) ?_; (case hd => rfl); (case hg => rfl); (case hr => first | (go_simp; done) | (go_simp; rfl)); (case hp => exact (Dv.none _ _)); intro v196 w2 ho3 hb hg_ hnew_; clear hg_ hnew_; (first | rw [← Ny195.out] at ho3 | (simp only [Int.reduceToNat] at ho3; rw [← Ny195.out] at ho3)); have n0_ := Aside0.mk (Kd.En ho3 (Ah Ya_)); have n1_ := Aside0.mk (Ag Ya_ hb); clear HB; have HO197 := n0_; have HB := n1_; clear n0_ n1_; clear hb ho3))
  go_loopg [4, 5] k (fun kq v4 v5 w' => ∃ (x4_1 : List (S27)) (x5_1 : Int), v5 = .int .i64 x5_1 ∧ Aside0 (Bv.l0 kq a0 x4_1 x5_1 = some (r1, r2)) ∧ Aside0 (kq ≤ k) ∧ Aside0 (Kd.R k27 27 w' w.heap.size (fun _ => True) v4 x4_1) ∧ Aside0 (Below w.heap.size w w'))
  case atStart => exact ⟨(y195), (0), Ybe_, H', ⟨Nat.le_refl _⟩, ⟨by (with_reducible repeat (first | apply Kd.Bo | apply Kd.Bl | apply Kd.Cb)); exact HO197.out⟩, ⟨by repeat (first | (with_reducible first | exact HB.out | apply below_alloc | apply pw_below_drewN | apply below_drew1) | exact HB.out)⟩⟩
  case round =>
    clear H'
    try clear p2
    obtain ⟨x4_1, x5_1, rfl, HA, HK1, HO_4, HB⟩ := hrel
    cases gk with
    | zero => exact absurd HA.out (by simp [Bv.l0])
    | succ k1 =>
      have H := HA.out
      clear HA
      simp only [Bv.l0] at H
      have HC4 := Aside0.mk H
      clear H
      go_upto_region 3 with (fail)
      go_cut [18] (fun v18 wc => ∃ (kq : Nat) (x18_3 : Bool), v18 = .bool x18_3 ∧ Aside0 (Bv.j1 kq a0 x4_1 x5_1 x18_3 = some (r1, r2)) ∧ Aside0 (kq ≤ k1) ∧ Aside0 (Kd.R k27 27 wc w.heap.size (fun _ => True) u4 x4_1) ∧ Aside0 (Below w.heap.size w wc))
      case first =>
        have H := HC4.out
        clear HC4
        by_cases c5 : x5_1 < (a0.size : Int)
        · rw [if_pos c5] at H
          have c5b0 : decide (x5_1 < (a0.size : Int)) = true := decide_eq_true c5
          clear c5
          (first | rw [c5b0] | (simp only [Aw, Az]; rw [c5b0]) | skip)
          have H' := Aside0.mk H
          clear H
          obtain ⟨Ao6, co6, eo6⟩ := Kd.Eu HO_4.out
          subst eo6
          go_wp2
          go_meet
          case rel => exact ⟨_, (decide ((x4_1.length : Int) < 60)), Ybe_, H', ⟨by have := HK1.out; first | omega | exact Nat.le_refl _⟩, ⟨by (with_reducible repeat (first | apply Kd.Bo | apply Kd.Bl | apply Kd.Cb)); exact HO_4.out⟩, ⟨by repeat (first | (with_reducible first | exact HB.out | apply below_alloc | apply pw_below_drewN | apply below_drew1) | exact HB.out)⟩⟩
        · rw [if_neg c5] at H
          have c5b0 : decide (x5_1 < (a0.size : Int)) = false := decide_eq_false c5
          clear c5
          (first | rw [c5b0] | (simp only [Aw, Az]; rw [c5b0]) | skip)
          have H' := Aside0.mk H
          clear H
          go_wp2
          go_meet
          case rel => exact ⟨_, (false), Ybe_, H', ⟨by have := HK1.out; first | omega | exact Nat.le_refl _⟩, ⟨by (with_reducible repeat (first | apply Kd.Bo | apply Kd.Bl | apply Kd.Cb)); exact HO_4.out⟩, ⟨by repeat (first | (with_reducible first | exact HB.out | apply below_alloc | apply pw_below_drewN | apply below_drew1) | exact HB.out)⟩⟩
      case rest =>
        clear HC4
        try clear p2
        try clear c4
        try clear c5
        try clear c5b0
        try clear p2
        obtain ⟨kq, x18_3, rfl, HA, HJ3, HO_4, HB⟩ := hcut
        cases kq with
        | zero => exact absurd HA.out (by simp [Bv.j1])
        | succ kj3 =>
          have H := HA.out
          clear HA
          simp only [Bv.j1] at H
          by_cases c7 : x18_3 = true
          · subst c7
            have H1 : (if 0 ≤ x5_1 then (if x5_1 ≤ (a0.size : Int) then ((Cm.f kj3 (a0.extract (x5_1 : Int).toNat a0.size) 10).bind fun t198 => (if 0 < (t198.length : Int) then ((C9.f kj3 (Cc ByteArray.empty t198 0) (x4_1.length : Int)).bind fun bt202 => (if (t198.length : Int) < 2 then (some (x4_1, x5_1)) else (if bt202.2.2 = true then (if x4_1.length < 4398046511104 then (Bv.l0 kj3 a0 (x4_1 ++ [(⟨bt202.1, bt202.2.1⟩ : S27)]) (wrap64 ((wrap64 (x5_1 + ((Cc ByteArray.empty t198 0).size : Int))) + 1))) else (none)) else (some (x4_1, x5_1))))) else (none))) else (none)) else (none)) = some (r1, r2) := by rw [if_pos rfl] at H; exact H
            clear H
            have H := H1
            clear H1
            by_cases c8 : 0 ≤ x5_1
            · rw [if_pos c8] at H
              have c8b0 := eq_true c8
              have c8b1 : decide (0 ≤ x5_1) = true := decide_eq_true c8
              clear c8
              by_cases c9 : x5_1 ≤ (a0.size : Int)
              · rw [if_pos c9] at H
                have c9b0 := eq_true c9
                have c9b1 : decide (x5_1 ≤ (a0.size : Int)) = true := decide_eq_true c9
                clear c9
                replace H := Option.bind_eq_some_iff.mp H
                obtain ⟨t198, A100, H⟩ := H
                replace H : (if 0 < (t198.length : Int) then ((C9.f kj3 (Cc ByteArray.empty t198 0) (x4_1.length : Int)).bind fun bt202 => (if (t198.length : Int) < 2 then (some (x4_1, x5_1)) else (if bt202.2.2 = true then (if x4_1.length < 4398046511104 then (Bv.l0 kj3 a0 (x4_1 ++ [(⟨bt202.1, bt202.2.1⟩ : S27)]) (wrap64 ((wrap64 (x5_1 + ((Cc ByteArray.empty t198 0).size : Int))) + 1))) else (none)) else (some (x4_1, x5_1))))) else (none)) = some (r1, r2) := H
                have A10 := Aside0.mk A100
                clear A100
                by_cases c11 : 0 < (t198.length : Int)
                · rw [if_pos c11] at H
                  have c11b0 : decide (0 < (t198.length : Int)) = true := decide_eq_true c11
                  have c11b1 : decide (0 < t198.length) = true := decide_eq_true (by omega)
                  clear c11
                  replace H := Option.bind_eq_some_iff.mp H
                  obtain ⟨⟨t202, t203, t204⟩, A120, H⟩ := H
                  replace H : (if (t198.length : Int) < 2 then (some (x4_1, x5_1)) else (if t204 = true then (if x4_1.length < 4398046511104 then (Bv.l0 kj3 a0 (x4_1 ++ [(⟨t202, t203⟩ : S27)]) (wrap64 ((wrap64 (x5_1 + ((Cc ByteArray.empty t198 0).size : Int))) + 1))) else (none)) else (some (x4_1, x5_1)))) = some (r1, r2) := H
                  have A12 := Aside0.mk A120
                  clear A120
                  by_cases c13 : (t198.length : Int) < 2
                  · rw [if_pos c13] at H
                    have c13b0 : decide ((t198.length : Int) < 2) = true := decide_eq_true c13
                    have c13b1 : decide (t198.length < 2) = true := decide_eq_true (by omega)
                    clear c13
                    simp only [Option.some.injEq, Prod.mk.injEq] at H
                    obtain ⟨rfl, rfl⟩ := H
                    go_wp2_with (first | ((with_reducible refine Am (f := 68) rfl ?_); refine Be (some 22) rfl rfl Tryd.func68 (by kernel_rfl) rfl #[.string (a0.extract (x5_1 : Int).toNat a0.size), .int .u8 10] rfl Yc_ ?_; (with_reducible refine (Cm.calls kj3 (a0.extract (x5_1 : Int).toNat a0.size) 10 t198 _ A10.out).mono ?_); rintro e w14 ⟨v199, rfl, ho0, hb⟩; refine ⟨_, rfl, ?_⟩; have n0_ := Aside0.mk (Kd.Eb Ydj_ hb); have n1_ := Aside0.mk (Kd.En ho0 (Ah Ya_)); have n2_ := Aside0.mk (Ag Ya_ hb); clear HO_4; clear HB; have HO_4 := n0_; have HO200 := n1_; have HB := n2_; clear n0_ n1_ n2_; (try clear hb); (try clear hb2); (try clear hk); (try clear hi); (try clear ho0); obtain ⟨Ao15, co15, eo15⟩ := Kd.Eu HO200.out; subst eo15; have p201 : 0 ≤ (0 : Int) := (by omega); have q201 : 0 < (t198.length : Int) := of_decide_eq_true Yba_; obtain ⟨ad201, e201, hx201_0⟩ := Kd.Hm (Kd.Ez HO200.out).2.2 0 p201 q201; cases e201; have qi201 : (0 < t198.length) = True := eq_true (by omega); (try rw [show ((0 : Int)).toNat = 0 from rfl] at hx201_0); (try rw [Addr.add_zero'] at hx201_0); replace p201 := eq_true p201; replace q201 := eq_true q201; obtain ⟨Ao16, co16, eo16⟩ := Kd.Eu HO_4.out; subst eo16) | ((with_reducible refine Am (f := 69) rfl ?_); refine Be (some 29) rfl rfl Tryd.func69 (by kernel_rfl) rfl #[.string (Cc ByteArray.empty t198 0), .int .i64 (x4_1.length : Int)] rfl Yc_ ?_; (with_reducible refine (C9.calls kj3 (Cc ByteArray.empty t198 0) (x4_1.length : Int) t202 t203 t204 _ A12.out).mono ?_); rintro e w17 ⟨rfl, hb⟩; refine ⟨_, rfl, ?_⟩; have n0_ := Aside0.mk (Kd.Eb Ydj_ hb); have n1_ := Aside0.mk (Kd.Eb Yfi_ hb); have n2_ := Aside0.mk (Ag Ya_ hb); clear HO_4; clear HO200; clear HB; have HO_4 := n0_; have HO200 := n1_; have HB := n2_; clear n0_ n1_ n2_; (try clear hb); (try clear hb2); (try clear hk); (try clear hi)) | ((with_reducible refine Bd (N := 7) rfl ?_); (try (refine Ef (by rfl) ?_; dsimp only)); refine Bc ?hg (N := 7) ?hd (cs := #[.string (⟨#[]⟩ : ByteArray), .string (⟨#[]⟩ : ByteArray)]) (t := 27) ?hr ?_; (case hd => rfl); (case hg => rfl); (case hr => first | (go_simp; done) | (go_simp; rfl)); intro gb0 hg w18 hbox hb; have n0_ := Aside0.mk (Kd.Eb (Kd.R_elderB Ydj_ gb0 (Nat.le_of_eq hg.symm)) hb); have n1_ := Aside0.mk (Kd.Eb Yfi_ hb); have n2_ := Aside0.mk (Ag Ya_ hb); have n3_ := Aside0.mk (hbox); have n4_ := Aside0.mk ((by rw [hg]; exact (Ah Ya_) : w.heap.size ≤ gb0)); have n5_ := Aside0.mk ((by rw [hg]; exact (Ah Ya_) : w.heap.size ≤ gb0)); clear HO_4; clear HO200; clear HB; have HO_4 := n0_; have HO200 := n1_; have HB := n2_; have BK0 := n3_; have GW0 := n4_; have GE0 := n5_; clear n0_ n1_ n2_ n3_ n4_ n5_; clear hb hbox hg; have hcz19_0 : w18.cell? ⟨gb0, 0, none⟩ = some (.string (⟨#[]⟩ : ByteArray)) := (Ae BK0.out 0).trans rfl; have hcz19_1 : w18.cell? ⟨gb0, 1, none⟩ = some (.string (⟨#[]⟩ : ByteArray)) := (Ae BK0.out 1).trans rfl; have hfz19_0 := Af BK0.out 0; have hfz19_1 := Af BK0.out 1))
                    go_ret2
                    exact ⟨_, by first | rfl | (simp [Ak, Aj] <;> rfl) | (simp [*, Ak, Aj] <;> rfl), by (with_reducible repeat (first | apply Kd.Bo | apply Kd.Bl | apply Kd.Cb)); exact Kd.D5 (Kd.Et (p := ⟨gb0, 1, none⟩) (Kd.Et (p := ⟨gb0, 0, none⟩) (Kd.D5 HO_4.out (fun k_ hk => (⟨hk, hk.2⟩ : _ ∧ k_ ≠ gb0))) (fun _ hk => hk.2) (.string t202)) (fun _ hk => hk.2) (.string t203)) (fun _ hk => trivial), by repeat (first | (with_reducible first | exact HB.out | apply below_alloc | apply pw_below_drewN | apply below_drew1 | refine below_set ?_ GE0.out) | exact HB.out)⟩
                  · rw [if_neg c13] at H
                    have c13b0 : decide ((t198.length : Int) < 2) = false := decide_eq_false c13
                    have c13b1 : decide (t198.length < 2) = false := decide_eq_false (by omega)
                    clear c13
                    by_cases c20 : t204 = true
                    · subst c20
                      have H1 : (if x4_1.length < 4398046511104 then (Bv.l0 kj3 a0 (x4_1 ++ [(⟨t202, t203⟩ : S27)]) (wrap64 ((wrap64 (x5_1 + ((Cc ByteArray.empty t198 0).size : Int))) + 1))) else (none)) = some (r1, r2) := by rw [if_pos rfl] at H; exact H
                      clear H
                      have H := H1
                      clear H1
                      by_cases c21 : x4_1.length < 4398046511104
                      · rw [if_pos c21] at H
                        have LMc21 := Aside0.mk c21
                        clear c21
                        obtain ⟨y206, hy206⟩ : ∃ y_ : List (S27), y_ = (x4_1 ++ [(⟨t202, t203⟩ : S27)]) := ⟨_, rfl⟩
                        replace H : (Bv.l0 kj3 a0 y206 (wrap64 ((wrap64 (x5_1 + ((Cc ByteArray.empty t198 0).size : Int))) + 1))) = some (r1, r2) := by first | (rw [hy206]; with_reducible exact H) | (have H2_ := (Option.bind_some _ _).symm.trans H; rw [hy206]; with_reducible exact H2_) | (have H2_ := (Option.bind_some _ _).symm.trans H; with_reducible exact H2_) | with_reducible exact H | (rw [hy206]; exact H) | exact H
                        have Ny206 := Aside0.mk hy206
                        clear hy206
                        have H' := Aside0.mk H
                        clear H
                        go_wp2_with (first | ((with_reducible refine Am (f := 68) rfl ?_); refine Be (some 22) rfl rfl Tryd.func68 (by kernel_rfl) rfl #[.string (a0.extract (x5_1 : Int).toNat a0.size), .int .u8 10] rfl Yc_ ?_; (with_reducible refine (Cm.calls kj3 (a0.extract (x5_1 : Int).toNat a0.size) 10 t198 _ A10.out).mono ?_); rintro e w22 ⟨v199, rfl, ho0, hb⟩; refine ⟨_, rfl, ?_⟩; have n0_ := Aside0.mk (Kd.Eb Ydj_ hb); have n1_ := Aside0.mk (Kd.En ho0 (Ah Ya_)); have n2_ := Aside0.mk (Ag Ya_ hb); clear HO_4; clear HB; have HO_4 := n0_; have HO200 := n1_; have HB := n2_; clear n0_ n1_ n2_; (try clear hb); (try clear hb2); (try clear hk); (try clear hi); (try clear ho0); obtain ⟨Ao23, co23, eo23⟩ := Kd.Eu HO200.out; subst eo23; have p201 : 0 ≤ (0 : Int) := (by omega); have q201 : 0 < (t198.length : Int) := of_decide_eq_true Yba_; obtain ⟨ad201, e201, hx201_0⟩ := Kd.Hm (Kd.Ez HO200.out).2.2 0 p201 q201; cases e201; have qi201 : (0 < t198.length) = True := eq_true (by omega); (try rw [show ((0 : Int)).toNat = 0 from rfl] at hx201_0); (try rw [Addr.add_zero'] at hx201_0); replace p201 := eq_true p201; replace q201 := eq_true q201; obtain ⟨Ao24, co24, eo24⟩ := Kd.Eu HO_4.out; subst eo24) | ((with_reducible refine Am (f := 69) rfl ?_); refine Be (some 29) rfl rfl Tryd.func69 (by kernel_rfl) rfl #[.string (Cc ByteArray.empty t198 0), .int .i64 (x4_1.length : Int)] rfl Yc_ ?_; (with_reducible refine (C9.calls kj3 (Cc ByteArray.empty t198 0) (x4_1.length : Int) t202 t203 true _ A12.out).mono ?_); rintro e w25 ⟨rfl, hb⟩; refine ⟨_, rfl, ?_⟩; have n0_ := Aside0.mk (Kd.Eb Ydj_ hb); have n1_ := Aside0.mk (Kd.Eb Yfi_ hb); have n2_ := Aside0.mk (Ag Ya_ hb); clear HO_4; clear HO200; clear HB; have HO_4 := n0_; have HO200 := n1_; have HB := n2_; clear n0_ n1_ n2_; (try clear hb); (try clear hb2); (try clear hk); (try clear hi)) | ((with_reducible refine Bd (N := 7) rfl ?_); (try (refine Ef (by rfl) ?_; dsimp only)); refine Bc ?hg (N := 7) ?hd (cs := #[.string (⟨#[]⟩ : ByteArray), .string (⟨#[]⟩ : ByteArray)]) (t := 27) ?hr ?_; (case hd => rfl); (case hg => rfl); (case hr => first | (go_simp; done) | (go_simp; rfl)); intro gb0 hg w26 hbox hb; have n0_ := Aside0.mk (Kd.Eb (Kd.R_elderB Ydj_ gb0 (Nat.le_of_eq hg.symm)) hb); have n1_ := Aside0.mk (Kd.Eb Yfi_ hb); have n2_ := Aside0.mk (Ag Ya_ hb); have n3_ := Aside0.mk (hbox); have n4_ := Aside0.mk ((by rw [hg]; exact (Ah Ya_) : w.heap.size ≤ gb0)); have n5_ := Aside0.mk ((by rw [hg]; exact (Ah Ya_) : w.heap.size ≤ gb0)); clear HO_4; clear HO200; clear HB; have HO_4 := n0_; have HO200 := n1_; have HB := n2_; have BK0 := n3_; have GW0 := n4_; have GE0 := n5_; clear n0_ n1_ n2_ n3_ n4_ n5_; clear hb hbox hg; have hcz27_0 : w26.cell? ⟨gb0, 0, none⟩ = some (.string (⟨#[]⟩ : ByteArray)) := (Ae BK0.out 0).trans rfl; have hcz27_1 : w26.cell? ⟨gb0, 1, none⟩ = some (.string (⟨#[]⟩ : ByteArray)) := (Ae BK0.out 1).trans rfl; have hfz27_0 := Af BK0.out 0; have hfz27_1 := Af BK0.out 1) | ((with_reducible refine Ia (b := .append) (xs := #[.tmp 39, .tmp 41]) rfl ?_); (try (refine Ef (by rfl) ?_; dsimp only)); at_builtin; refine Kd.R_append k27 (w0 := w) w.heap.size rfl (.tmp 39) (.tmp 41) 48 27 (.agg #[(.string ⟨#[]⟩), (.string ⟨#[]⟩)]) 32 rfl Tryd.underlying48 info27 rfl (by decide) (by omega) (.slice Ao24 x4_1.length co24) x4_1 (⟨t202, t203⟩ : S27) [.string t202, .string t203] (fun k_ => k_ ≠ gb0) (fun _ => False) rfl (by first | (go_simp; done) | (go_simp; rfl)) ?aP (fun _ hk => hk.elim) ?aF ?aO ?aB ?aS ?aL ?_; (case aP => exact k27_mkM _ _ _ (⟨t202, t203⟩ : S27)); (case aB => exact Yb_); (case aF => exact (fun k_ hk => Kd.freshB (g := gb0) (o := .cells #[.string t202, .string t203] 27 (0, 0)) Yga_ k_ hk)); (case aO => exact (by (with_reducible repeat (first | apply Kd.Bo | apply Kd.Bl | apply Kd.Cb)); exact Kd.D5 (Kd.Et (p := ⟨gb0, 1, none⟩) (Kd.Et (p := ⟨gb0, 0, none⟩) (Kd.D5 HO_4.out (fun k_ hk => (⟨hk, hk.2⟩ : _ ∧ k_ ≠ gb0))) (fun _ hk => hk.2) (.string t202)) (fun _ hk => hk.2) (.string t203)) (fun _ hk => hk.1.2))); (case aS => exact (Ah Yb_)); (case aL => have := LMc21.out; omega); intro v207 w28 ho hb hg hat; rw [← Ny206.out] at ho; have n0_ := Aside0.mk (Kd.R_over' (by (with_reducible repeat (first | apply Kd.Bo | apply Kd.Bl | apply Kd.Cb)); exact (Kd.D5 (Kd.Et (p := ⟨gb0, 1, none⟩) (Kd.Et (p := ⟨gb0, 0, none⟩) (Kd.Gg HO200.out BK0.out (by decide)) (fun _ hk => hk.2) (.string t202)) (fun _ hk => hk.2) (.string t203)) (fun _ h_ => h_.1))) (Kd.R_typed (by (with_reducible repeat (first | apply Kd.Bo | apply Kd.Bl | apply Kd.Cb)); exact (Kd.D5 (Kd.Et (p := ⟨gb0, 1, none⟩) (Kd.Et (p := ⟨gb0, 0, none⟩) (Kd.D5 HO_4.out (fun k_ hk => (⟨hk, hk.2⟩ : _ ∧ k_ ≠ gb0))) (fun _ hk => hk.2) (.string t202)) (fun _ hk => hk.2) (.string t203)) (fun _ h_ => h_.1)))) (by decide) hg); have n1_ := Aside0.mk (blk_grown (g := gb0) (o := .cells #[.string t202, .string t203] 27 (0, 0)) Yga_ hg (Kd.R_away HO_4.out (fun _ hk => hk.2))); have n2_ := Aside0.mk (hb); have n3_ := Aside0.mk (ho); clear HO200; clear BK0; clear HB; clear HO_4; have HO200 := n0_; have BK0 := n1_; have HB := n2_; have HO208 := n3_; clear n0_ n1_ n2_ n3_; clear ho hb hg hat; have p209 : 0 ≤ (0 : Int) := (by omega); have q209 : 0 < (t198.length : Int) := of_decide_eq_true Yba_; obtain ⟨ad209, e209, hx209_0⟩ := Kd.Hm (Kd.Ez HO200.out).2.2 0 p209 q209; obtain rfl : ad201 = ad209 := (by injection e209); have qi209 : (0 < t198.length) = True := eq_true (by omega); (try rw [show ((0 : Int)).toNat = 0 from rfl] at hx209_0); (try rw [Addr.add_zero'] at hx209_0); replace p209 := eq_true p209; replace q209 := eq_true q209))
                        go_roundg kj3
                        case measure => have := HK1.out; have := HJ3.out; omega
                        case rel => exact ⟨(y206), (wrap64 ((wrap64 (x5_1 + ((Cc ByteArray.empty t198 0).size : Int))) + 1)), Ybe_, H', ⟨by have := HK1.out; have := HJ3.out; omega⟩, ⟨by (with_reducible repeat (first | apply Kd.Bo | apply Kd.Bl | apply Kd.Cb)); exact Kd.D5 HO208.out (fun _ hk => trivial)⟩, ⟨by repeat (first | (with_reducible first | exact HB.out | apply below_alloc | apply pw_below_drewN | apply below_drew1 | refine below_set ?_ GE0.out) | exact HB.out)⟩⟩
                      · rw [if_neg c21] at H
                        exact absurd H (by simp)
                    · replace c20 := Bool.eq_false_iff.mpr c20
                      subst c20
                      have H1 : (some (x4_1, x5_1)) = some (r1, r2) := by rw [if_neg (show ¬ (false = true) by decide)] at H; exact H
                      clear H
                      have H := H1
                      clear H1
                      simp only [Option.some.injEq, Prod.mk.injEq] at H
                      obtain ⟨rfl, rfl⟩ := H
                      go_wp2_with (first | ((with_reducible refine Am (f := 68) rfl ?_); refine Be (some 22) rfl rfl Tryd.func68 (by kernel_rfl) rfl #[.string (a0.extract (x5_1 : Int).toNat a0.size), .int .u8 10] rfl Yc_ ?_; (with_reducible refine (Cm.calls kj3 (a0.extract (x5_1 : Int).toNat a0.size) 10 t198 _ A10.out).mono ?_); rintro e w29 ⟨v199, rfl, ho0, hb⟩; refine ⟨_, rfl, ?_⟩; have n0_ := Aside0.mk (Kd.Eb Ydj_ hb); have n1_ := Aside0.mk (Kd.En ho0 (Ah Ya_)); have n2_ := Aside0.mk (Ag Ya_ hb); clear HO_4; clear HB; have HO_4 := n0_; have HO200 := n1_; have HB := n2_; clear n0_ n1_ n2_; (try clear hb); (try clear hb2); (try clear hk); (try clear hi); (try clear ho0); obtain ⟨Ao30, co30, eo30⟩ := Kd.Eu HO200.out; subst eo30; have p201 : 0 ≤ (0 : Int) := (by omega); have q201 : 0 < (t198.length : Int) := of_decide_eq_true Yba_; obtain ⟨ad201, e201, hx201_0⟩ := Kd.Hm (Kd.Ez HO200.out).2.2 0 p201 q201; cases e201; have qi201 : (0 < t198.length) = True := eq_true (by omega); (try rw [show ((0 : Int)).toNat = 0 from rfl] at hx201_0); (try rw [Addr.add_zero'] at hx201_0); replace p201 := eq_true p201; replace q201 := eq_true q201; obtain ⟨Ao31, co31, eo31⟩ := Kd.Eu HO_4.out; subst eo31) | ((with_reducible refine Am (f := 69) rfl ?_); refine Be (some 29) rfl rfl Tryd.func69 (by kernel_rfl) rfl #[.string (Cc ByteArray.empty t198 0), .int .i64 (x4_1.length : Int)] rfl Yc_ ?_; (with_reducible refine (C9.calls kj3 (Cc ByteArray.empty t198 0) (x4_1.length : Int) t202 t203 false _ A12.out).mono ?_); rintro e w32 ⟨rfl, hb⟩; refine ⟨_, rfl, ?_⟩; have n0_ := Aside0.mk (Kd.Eb Ydj_ hb); have n1_ := Aside0.mk (Kd.Eb Yfi_ hb); have n2_ := Aside0.mk (Ag Ya_ hb); clear HO_4; clear HO200; clear HB; have HO_4 := n0_; have HO200 := n1_; have HB := n2_; clear n0_ n1_ n2_; (try clear hb); (try clear hb2); (try clear hk); (try clear hi)) | ((with_reducible refine Bd (N := 7) rfl ?_); (try (refine Ef (by rfl) ?_; dsimp only)); refine Bc ?hg (N := 7) ?hd (cs := #[.string (⟨#[]⟩ : ByteArray), .string (⟨#[]⟩ : ByteArray)]) (t := 27) ?hr ?_; (case hd => rfl); (case hg => rfl); (case hr => first | (go_simp; done) | (go_simp; rfl)); intro gb0 hg w33 hbox hb; have n0_ := Aside0.mk (Kd.Eb (Kd.R_elderB Ydj_ gb0 (Nat.le_of_eq hg.symm)) hb); have n1_ := Aside0.mk (Kd.Eb Yfi_ hb); have n2_ := Aside0.mk (Ag Ya_ hb); have n3_ := Aside0.mk (hbox); have n4_ := Aside0.mk ((by rw [hg]; exact (Ah Ya_) : w.heap.size ≤ gb0)); have n5_ := Aside0.mk ((by rw [hg]; exact (Ah Ya_) : w.heap.size ≤ gb0)); clear HO_4; clear HO200; clear HB; have HO_4 := n0_; have HO200 := n1_; have HB := n2_; have BK0 := n3_; have GW0 := n4_; have GE0 := n5_; clear n0_ n1_ n2_ n3_ n4_ n5_; clear hb hbox hg; have hcz34_0 : w33.cell? ⟨gb0, 0, none⟩ = some (.string (⟨#[]⟩ : ByteArray)) := (Ae BK0.out 0).trans rfl; have hcz34_1 : w33.cell? ⟨gb0, 1, none⟩ = some (.string (⟨#[]⟩ : ByteArray)) := (Ae BK0.out 1).trans rfl; have hfz34_0 := Af BK0.out 0; have hfz34_1 := Af BK0.out 1))
                      go_ret2
                      exact ⟨_, by first | rfl | (simp [Ak, Aj] <;> rfl) | (simp [*, Ak, Aj] <;> rfl), by (with_reducible repeat (first | apply Kd.Bo | apply Kd.Bl | apply Kd.Cb)); exact Kd.D5 (Kd.Et (p := ⟨gb0, 1, none⟩) (Kd.Et (p := ⟨gb0, 0, none⟩) (Kd.D5 HO_4.out (fun k_ hk => (⟨hk, hk.2⟩ : _ ∧ k_ ≠ gb0))) (fun _ hk => hk.2) (.string t202)) (fun _ hk => hk.2) (.string t203)) (fun _ hk => trivial), by repeat (first | (with_reducible first | exact HB.out | apply below_alloc | apply pw_below_drewN | apply below_drew1 | refine below_set ?_ GE0.out) | exact HB.out)⟩
                · rw [if_neg c11] at H
                  exact absurd H (by simp)
              · rw [if_neg c9] at H
                exact absurd H (by simp)
            · rw [if_neg c8] at H
              exact absurd H (by simp)
          · replace c7 := Bool.eq_false_iff.mpr c7
            subst c7
            have H1 : (some (x4_1, x5_1)) = some (r1, r2) := by rw [if_neg (show ¬ (false = true) by decide)] at H; exact H
            clear H
            have H := H1
            clear H1
            simp only [Option.some.injEq, Prod.mk.injEq] at H
            obtain ⟨rfl, rfl⟩ := H
            go_wp2
            go_ret2
            exact ⟨_, by first | rfl | (simp [Ak, Aj] <;> rfl) | (simp [*, Ak, Aj] <;> rfl), by (with_reducible repeat (first | apply Kd.Bo | apply Kd.Bl | apply Kd.Cb)); exact HO_4.out, by repeat (first | (with_reducible first | exact HB.out | apply below_alloc | apply pw_below_drewN | apply below_drew1) | exact HB.out)⟩
end Go.Proofs.YtkpieljmhgfofaaDoor.X

namespace Go.Proofs.YtkpieljmhgfofaaDoor.X
open Go.RowKit Go.Proofs.YtkpieljmhgfofaaDoorW.PrintWords Go.Proofs.YtkpieljmhgfofaaDoorW.PrintLast Go.Proofs.YtkpieljmhgfofaaDoorW.PrintMore
attribute [local go_sem] max2_int min2_int max_two min_two max_three min_three max_four min_four
open Go.Proofs.YtkpieljmhgfofaaDoorG
def Ed.f (k : Nat) (a0_0 : ByteArray) (a0_1 : ByteArray) (a0_2 : Int) : Option (Bool) := if (wrap64 ((a0_0.size : Int) + (a0_1.size : Int))) > 30000 then (some false) else (if a0_0.size + a0_1.size ≤ 9223372036854775807 then ((Bv.f k (a0_0 ++ a0_1)).bind fun bt265 => ((Bv.f k a0_0).bind fun bt269 => (if bt265.2 = (wrap64 ((a0_0.size : Int) + (a0_1.size : Int))) then (if bt269.2 = (a0_0.size : Int) then (some ((bt265.1.length : Int) == a0_2)) else (some false)) else (some false)))) else (none))
theorem Ed.mono : ∀ a0 a1 a2 k, LeO (Ed.f k a0 a1 a2) (Ed.f (k + 1) a0 a1 a2) := by
  intro a0 a1 a2 k
  unfold Ed.f
  repeat' first
      | (with_reducible exact Bv.mono _ _)
      | (with_reducible exact LeO.refl _)
      | (with_reducible exact LeO.none _)
      | (with_reducible refine LeO.ite ?_ ?_)
      | (with_reducible refine LeO.bind ?_ (fun _ => ?_))
      | exact Bv.mono _ _
      | exact LeO.none _
      | refine LeO.ite ?_ ?_
      | refine LeO.bind ?_ (fun _ => ?_)
set_option maxHeartbeats 8000000 in
set_option maxRecDepth 100000 in
theorem Ed.calls (k : Nat) (a0_0 : ByteArray) (a0_1 : ByteArray) (a0_2 : Int) (r : Bool) (w : World) (h : Ed.f k a0_0 a0_1 a0_2 = some r) :
    Calls Tryd.prog 49 #[.agg #[.string a0_0, .string a0_1, .int .i64 a0_2]] w fun e w' => e = .returned (.bool r) ∧ Below w.heap.size w w' := by
  have hu31 := Tryd.underlying31
  have HB := Aside0.mk (Below.refl w.heap.size w)
  have H : (if (wrap64 ((a0_0.size : Int) + (a0_1.size : Int))) > 30000 then (some false) else (if a0_0.size + a0_1.size ≤ 9223372036854775807 then ((Bv.f k (a0_0 ++ a0_1)).bind fun bt265 => ((Bv.f k a0_0).bind fun bt269 => (if bt265.2 = (wrap64 ((a0_0.size : Int) + (a0_1.size : Int))) then (if bt269.2 = (a0_0.size : Int) then (some ((bt265.1.length : Int) == a0_2)) else (some false)) else (some false)))) else (none))) = some r := h
  clear h
  by_cases c2 : (wrap64 ((a0_0.size : Int) + (a0_1.size : Int))) > 30000
  · rw [if_pos c2] at H
    have c2b0 : decide (30000 < (wrap64 ((a0_0.size : Int) + (a0_1.size : Int)))) = true := decide_eq_true c2
    clear c2
    obtain rfl := Option.some.inj H
    go_enter Tryd.func49, Tryd.ntmps49
    go_wp2_with (first | ((with_reducible refine Bd (N := 1) rfl ?_); (try (refine Ef (by rfl) ?_; dsimp only)); refine Bc ?hg (N := 1) ?hd (cs := #[.string a0_0, .string a0_1, .int .i64 a0_2]) (t := 31) ?hr ?_; (case hd => rfl); (case hg => rfl); (case hr => first | (go_simp; done) | (go_simp; rfl)); intro gb0 hg w3 hbox hb; have n0_ := Aside0.mk (Ag Ya_ hb); have n1_ := Aside0.mk (hbox); have n2_ := Aside0.mk ((by rw [hg]; exact (Ah Ya_) : w.heap.size ≤ gb0)); have n3_ := Aside0.mk ((by rw [hg]; exact (Ah Ya_) : w.heap.size ≤ gb0)); clear HB; have HB := n0_; have BK0 := n1_; have GW0 := n2_; have GE0 := n3_; clear n0_ n1_ n2_ n3_; clear hb hbox hg; have hcz4_0 : w3.cell? ⟨gb0, 0, none⟩ = some (.string a0_0) := (Ae BK0.out 0).trans rfl; have hcz4_1 : w3.cell? ⟨gb0, 1, none⟩ = some (.string a0_1) := (Ae BK0.out 1).trans rfl; have hcz4_2 : w3.cell? ⟨gb0, 2, none⟩ = some (.int .i64 a0_2) := (Ae BK0.out 2).trans rfl; have hfz4_0 := Af BK0.out 0; have hfz4_1 := Af BK0.out 1; have hfz4_2 := Af BK0.out 2))
    go_ret
    exact ⟨by first | rfl | (simp [Ak, Aj] <;> rfl) | (simp [*, Ak, Aj] <;> rfl), by repeat (first | (with_reducible first | exact HB.out | apply below_alloc | apply pw_below_drewN | apply below_drew1 | refine below_set ?_ GE0.out) | exact HB.out)⟩
  · rw [if_neg c2] at H
    have c2b0 : decide (30000 < (wrap64 ((a0_0.size : Int) + (a0_1.size : Int)))) = false := decide_eq_false c2
    clear c2
    by_cases c5 : a0_0.size + a0_1.size ≤ 9223372036854775807
    · rw [if_pos c5] at H
      have c2b7 : decide (30000 < ((a0_0.size : Int) + (a0_1.size : Int))) = false := by have h_ := c2b0; rwa [show wrap64 ((a0_0.size : Int) + (a0_1.size : Int)) = (a0_0.size : Int) + (a0_1.size : Int) from by unfold wrap64; omega] at h_
      have c5b0 := eq_true c5
      have c5b1 : decide (a0_0.size + a0_1.size ≤ 9223372036854775807) = true := decide_eq_true c5
      try have c5b2 : (9223372036854775807 < a0_0.size + a0_1.size) = False := eq_false (Nat.not_lt.2 c5)
      replace H := Option.bind_eq_some_iff.mp H
      obtain ⟨⟨t265, t266⟩, A60, H⟩ := H
      replace H : ((Bv.f k a0_0).bind fun bt269 => (if t266 = (wrap64 ((a0_0.size : Int) + (a0_1.size : Int))) then (if bt269.2 = (a0_0.size : Int) then (some ((t265.length : Int) == a0_2)) else (some false)) else (some false))) = some r := H
      have A6 := Aside0.mk A60
      clear A60
      replace H := Option.bind_eq_some_iff.mp H
      obtain ⟨⟨t269, t270⟩, A70, H⟩ := H
      replace H : (if t266 = (wrap64 ((a0_0.size : Int) + (a0_1.size : Int))) then (if t270 = (a0_0.size : Int) then (some ((t265.length : Int) == a0_2)) else (some false)) else (some false)) = some r := H
      have A7 := Aside0.mk A70
      clear A70
      by_cases c8 : t266 = (wrap64 ((a0_0.size : Int) + (a0_1.size : Int)))
      · rw [if_pos c8] at H
        have c8b0 : (t266 == (wrap64 ((a0_0.size : Int) + (a0_1.size : Int)))) = true := beq_iff_eq.mpr c8
        have c8b6 : (t266 == ((a0_0.size : Int) + (a0_1.size : Int))) = true := by have h_ := c8b0; rwa [show wrap64 ((a0_0.size : Int) + (a0_1.size : Int)) = (a0_0.size : Int) + (a0_1.size : Int) from by unfold wrap64; omega] at h_
        have c8b1 : (t266 != (wrap64 ((a0_0.size : Int) + (a0_1.size : Int)))) = false := bne_eq_false_iff_eq.mpr c8
        clear c8
        by_cases c9 : t270 = (a0_0.size : Int)
        · rw [if_pos c9] at H
          have c9b0 : (t270 == (a0_0.size : Int)) = true := beq_iff_eq.mpr c9
          have c9b1 : (t270 != (a0_0.size : Int)) = false := bne_eq_false_iff_eq.mpr c9
          clear c9
          obtain rfl := Option.some.inj H
          go_enter Tryd.func49, Tryd.ntmps49
          go_wp2_with (first | ((with_reducible refine Bd (N := 1) rfl ?_); (try (refine Ef (by rfl) ?_; dsimp only)); refine Bc ?hg (N := 1) ?hd (cs := #[.string a0_0, .string a0_1, .int .i64 a0_2]) (t := 31) ?hr ?_; (case hd => rfl); (case hg => rfl); (case hr => first | (go_simp; done) | (go_simp; rfl)); intro gb0 hg w10 hbox hb; have n0_ := Aside0.mk (Ag Ya_ hb); have n1_ := Aside0.mk (hbox); have n2_ := Aside0.mk ((by rw [hg]; exact (Ah Ya_) : w.heap.size ≤ gb0)); have n3_ := Aside0.mk ((by rw [hg]; exact (Ah Ya_) : w.heap.size ≤ gb0)); clear HB; have HB := n0_; have BK0 := n1_; have GW0 := n2_; have GE0 := n3_; clear n0_ n1_ n2_ n3_; clear hb hbox hg; have hcz11_0 : w10.cell? ⟨gb0, 0, none⟩ = some (.string a0_0) := (Ae BK0.out 0).trans rfl; have hcz11_1 : w10.cell? ⟨gb0, 1, none⟩ = some (.string a0_1) := (Ae BK0.out 1).trans rfl; have hcz11_2 : w10.cell? ⟨gb0, 2, none⟩ = some (.int .i64 a0_2) := (Ae BK0.out 2).trans rfl; have hfz11_0 := Af BK0.out 0; have hfz11_1 := Af BK0.out 1; have hfz11_2 := Af BK0.out 2) | ((with_reducible refine Am (f := 47) rfl ?_); refine Be (some 21) rfl rfl Tryd.func47 (by kernel_rfl) rfl #[.string (a0_0 ++ a0_1)] rfl Yc_ ?_; (with_reducible refine (Bv.calls k (a0_0 ++ a0_1) t265 t266 _ A6.out).mono ?_); rintro e w12 ⟨v267, rfl, ho0, hb⟩; refine ⟨_, rfl, ?_⟩; have n0_ := Aside0.mk (Kd.En ho0 (Ah Yb_)); have n1_ := Aside0.mk (Ai (g := gb0) (o := .cells #[.string a0_0, .string a0_1, .int .i64 a0_2] 31 (0, 0)) Yd_ hb); have n2_ := Aside0.mk (Ag Yb_ hb); clear BK0; clear HB; have HO268 := n0_; have BK0 := n1_; have HB := n2_; clear n0_ n1_ n2_; (try clear hb); (try clear hb2); (try clear hk); (try clear hi); (try clear ho0); have hcz13_0 : w12.cell? ⟨gb0, 0, none⟩ = some (.string a0_0) := (Ae BK0.out 0).trans rfl; have hcz13_1 : w12.cell? ⟨gb0, 1, none⟩ = some (.string a0_1) := (Ae BK0.out 1).trans rfl; have hcz13_2 : w12.cell? ⟨gb0, 2, none⟩ = some (.int .i64 a0_2) := (Ae BK0.out 2).trans rfl; have hfz13_0 := Af BK0.out 0; have hfz13_1 := Af BK0.out 1; have hfz13_2 := Af BK0.out 2) | ((with_reducible refine Am (f := 47) rfl ?_); refine Be (some 27) rfl rfl Tryd.func47 (by kernel_rfl) rfl #[.string a0_0] rfl Yc_ ?_; (with_reducible refine (Bv.calls k a0_0 t269 t270 _ A7.out).mono ?_); rintro e w14 ⟨v271, rfl, ho0, hb⟩; refine ⟨_, rfl, ?_⟩; have n0_ := Aside0.mk (Kd.He Yfj_ (Kd.R_base ho0) hb); have n1_ := Aside0.mk (Kd.En (Kd.R_new' ho0 (Kd.R_lt Yfj_)) (Ah Yb_)); have n2_ := Aside0.mk (Ai (g := gb0) (o := .cells #[.string a0_0, .string a0_1, .int .i64 a0_2] 31 (0, 0)) Yd_ hb); have n3_ := Aside0.mk (Ag Yb_ hb); clear HO268; clear BK0; clear HB; have HO268 := n0_; have HO272 := n1_; have BK0 := n2_; have HB := n3_; clear n0_ n1_ n2_ n3_; (try clear hb); (try clear hb2); (try clear hk); (try clear hi); (try clear ho0); have hcz15_0 : w14.cell? ⟨gb0, 0, none⟩ = some (.string a0_0) := (Ae BK0.out 0).trans rfl; have hcz15_1 : w14.cell? ⟨gb0, 1, none⟩ = some (.string a0_1) := (Ae BK0.out 1).trans rfl; have hcz15_2 : w14.cell? ⟨gb0, 2, none⟩ = some (.int .i64 a0_2) := (Ae BK0.out 2).trans rfl; have hfz15_0 := Af BK0.out 0; have hfz15_1 := Af BK0.out 1; have hfz15_2 := Af BK0.out 2; obtain ⟨Ao16, co16, eo16⟩ := Kd.Eu HO268.out; subst eo16))
          go_ret
          exact ⟨by first | rfl | (simp [Ak, Aj] <;> rfl) | (simp [*, Ak, Aj] <;> rfl), by repeat (first | (with_reducible first | exact HB.out | apply below_alloc | apply pw_below_drewN | apply below_drew1 | refine below_set ?_ GE0.out) | exact HB.out)⟩
        · rw [if_neg c9] at H
          have c9b0 : (t270 == (a0_0.size : Int)) = false := beq_eq_false_iff_ne.mpr c9
          have c9b1 : (t270 != (a0_0.size : Int)) = true := bne_iff_ne.mpr c9
          obtain rfl := Option.some.inj H
          go_enter Tryd.func49, Tryd.ntmps49
          go_wp2_with (first | ((with_reducible refine Bd (N := 1) rfl ?_); (try (refine Ef (by rfl) ?_; dsimp only)); refine Bc ?hg (N := 1) ?hd (cs := #[.string a0_0, .string a0_1, .int .i64 a0_2]) (t := 31) ?hr ?_; (case hd => rfl); (case hg => rfl); (case hr => first | (go_simp; done) | (go_simp; rfl)); intro gb0 hg w17 hbox hb; have n0_ := Aside0.mk (Ag Ya_ hb); have n1_ := Aside0.mk (hbox); have n2_ := Aside0.mk ((by rw [hg]; exact (Ah Ya_) : w.heap.size ≤ gb0)); have n3_ := Aside0.mk ((by rw [hg]; exact (Ah Ya_) : w.heap.size ≤ gb0)); clear HB; have HB := n0_; have BK0 := n1_; have GW0 := n2_; have GE0 := n3_; clear n0_ n1_ n2_ n3_; clear hb hbox hg; have hcz18_0 : w17.cell? ⟨gb0, 0, none⟩ = some (.string a0_0) := (Ae BK0.out 0).trans rfl; have hcz18_1 : w17.cell? ⟨gb0, 1, none⟩ = some (.string a0_1) := (Ae BK0.out 1).trans rfl; have hcz18_2 : w17.cell? ⟨gb0, 2, none⟩ = some (.int .i64 a0_2) := (Ae BK0.out 2).trans rfl; have hfz18_0 := Af BK0.out 0; have hfz18_1 := Af BK0.out 1; have hfz18_2 := Af BK0.out 2) | ((with_reducible refine Am (f := 47) rfl ?_); refine Be (some 21) rfl rfl Tryd.func47 (by kernel_rfl) rfl #[.string (a0_0 ++ a0_1)] rfl Yc_ ?_; (with_reducible refine (Bv.calls k (a0_0 ++ a0_1) t265 t266 _ A6.out).mono ?_); rintro e w19 ⟨v267, rfl, ho0, hb⟩; refine ⟨_, rfl, ?_⟩; have n0_ := Aside0.mk (Kd.En ho0 (Ah Yb_)); have n1_ := Aside0.mk (Ai (g := gb0) (o := .cells #[.string a0_0, .string a0_1, .int .i64 a0_2] 31 (0, 0)) Yd_ hb); have n2_ := Aside0.mk (Ag Yb_ hb); clear BK0; clear HB; have HO268 := n0_; have BK0 := n1_; have HB := n2_; clear n0_ n1_ n2_; (try clear hb); (try clear hb2); (try clear hk); (try clear hi); (try clear ho0); have hcz20_0 : w19.cell? ⟨gb0, 0, none⟩ = some (.string a0_0) := (Ae BK0.out 0).trans rfl; have hcz20_1 : w19.cell? ⟨gb0, 1, none⟩ = some (.string a0_1) := (Ae BK0.out 1).trans rfl; have hcz20_2 : w19.cell? ⟨gb0, 2, none⟩ = some (.int .i64 a0_2) := (Ae BK0.out 2).trans rfl; have hfz20_0 := Af BK0.out 0; have hfz20_1 := Af BK0.out 1; have hfz20_2 := Af BK0.out 2) | ((with_reducible refine Am (f := 47) rfl ?_); refine Be (some 27) rfl rfl Tryd.func47 (by kernel_rfl) rfl #[.string a0_0] rfl Yc_ ?_; (with_reducible refine (Bv.calls k a0_0 t269 t270 _ A7.out).mono ?_); rintro e w21 ⟨v271, rfl, ho0, hb⟩; refine ⟨_, rfl, ?_⟩; have n0_ := Aside0.mk (Kd.He Yfj_ (Kd.R_base ho0) hb); have n1_ := Aside0.mk (Kd.En (Kd.R_new' ho0 (Kd.R_lt Yfj_)) (Ah Yb_)); have n2_ := Aside0.mk (Ai (g := gb0) (o := .cells #[.string a0_0, .string a0_1, .int .i64 a0_2] 31 (0, 0)) Yd_ hb); have n3_ := Aside0.mk (Ag Yb_ hb); clear HO268; clear BK0; clear HB; have HO268 := n0_; have HO272 := n1_; have BK0 := n2_; have HB := n3_; clear n0_ n1_ n2_ n3_; (try clear hb); (try clear hb2); (try clear hk); (try clear hi); (try clear ho0); have hcz22_0 : w21.cell? ⟨gb0, 0, none⟩ = some (.string a0_0) := (Ae BK0.out 0).trans rfl; have hcz22_1 : w21.cell? ⟨gb0, 1, none⟩ = some (.string a0_1) := (Ae BK0.out 1).trans rfl; have hcz22_2 : w21.cell? ⟨gb0, 2, none⟩ = some (.int .i64 a0_2) := (Ae BK0.out 2).trans rfl; have hfz22_0 := Af BK0.out 0; have hfz22_1 := Af BK0.out 1; have hfz22_2 := Af BK0.out 2))
          go_ret
          exact ⟨by first | rfl | (simp [Ak, Aj] <;> rfl) | (simp [*, Ak, Aj] <;> rfl), by repeat (first | (with_reducible first | exact HB.out | apply below_alloc | apply pw_below_drewN | apply below_drew1 | refine below_set ?_ GE0.out) | exact HB.out)⟩
      · rw [if_neg c8] at H
        have c8b0 : (t266 == (wrap64 ((a0_0.size : Int) + (a0_1.size : Int)))) = false := beq_eq_false_iff_ne.mpr c8
        have c8b6 : (t266 == ((a0_0.size : Int) + (a0_1.size : Int))) = false := by have h_ := c8b0; rwa [show wrap64 ((a0_0.size : Int) + (a0_1.size : Int)) = (a0_0.size : Int) + (a0_1.size : Int) from by unfold wrap64; omega] at h_
        have c8b1 : (t266 != (wrap64 ((a0_0.size : Int) + (a0_1.size : Int)))) = true := bne_iff_ne.mpr c8
        obtain rfl := Option.some.inj H
        go_enter Tryd.func49, Tryd.ntmps49
        go_wp2_with (first | ((with_reducible refine Bd (N := 1) rfl ?_); (try (refine Ef (by rfl) ?_; dsimp only)); refine Bc ?hg (N := 1) ?hd (cs := #[.string a0_0, .string a0_1, .int .i64 a0_2]) (t := 31) ?hr ?_; (case hd => rfl); (case hg => rfl); (case hr => first | (go_simp; done) | (go_simp; rfl)); intro gb0 hg w23 hbox hb; have n0_ := Aside0.mk (Ag Ya_ hb); have n1_ := Aside0.mk (hbox); have n2_ := Aside0.mk ((by rw [hg]; exact (Ah Ya_) : w.heap.size ≤ gb0)); have n3_ := Aside0.mk ((by rw [hg]; exact (Ah Ya_) : w.heap.size ≤ gb0)); clear HB; have HB := n0_; have BK0 := n1_; have GW0 := n2_; have GE0 := n3_; clear n0_ n1_ n2_ n3_; clear hb hbox hg; have hcz24_0 : w23.cell? ⟨gb0, 0, none⟩ = some (.string a0_0) := (Ae BK0.out 0).trans rfl; have hcz24_1 : w23.cell? ⟨gb0, 1, none⟩ = some (.string a0_1) := (Ae BK0.out 1).trans rfl; have hcz24_2 : w23.cell? ⟨gb0, 2, none⟩ = some (.int .i64 a0_2) := (Ae BK0.out 2).trans rfl; have hfz24_0 := Af BK0.out 0; have hfz24_1 := Af BK0.out 1; have hfz24_2 := Af BK0.out 2) | ((with_reducible refine Am (f := 47) rfl ?_); refine Be (some 21) rfl rfl Tryd.func47 (by kernel_rfl) rfl #[.string (a0_0 ++ a0_1)] rfl Yc_ ?_; (with_reducible refine (Bv.calls k (a0_0 ++ a0_1) t265 t266 _ A6.out).mono ?_); rintro e w25 ⟨v267, rfl, ho0, hb⟩; refine ⟨_, rfl, ?_⟩; have n0_ := Aside0.mk (Kd.En ho0 (Ah Yb_)); have n1_ := Aside0.mk (Ai (g := gb0) (o := .cells #[.string a0_0, .string a0_1, .int .i64 a0_2] 31 (0, 0)) Yd_ hb); have n2_ := Aside0.mk (Ag Yb_ hb); clear BK0; clear HB; have HO268 := n0_; have BK0 := n1_; have HB := n2_; clear n0_ n1_ n2_; (try clear hb); (try clear hb2); (try clear hk); (try clear hi); (try clear ho0); have hcz26_0 : w25.cell? ⟨gb0, 0, none⟩ = some (.string a0_0) := (Ae BK0.out 0).trans rfl; have hcz26_1 : w25.cell? ⟨gb0, 1, none⟩ = some (.string a0_1) := (Ae BK0.out 1).trans rfl; have hcz26_2 : w25.cell? ⟨gb0, 2, none⟩ = some (.int .i64 a0_2) := (Ae BK0.out 2).trans rfl; have hfz26_0 := Af BK0.out 0; have hfz26_1 := Af BK0.out 1; have hfz26_2 := Af BK0.out 2) | ((with_reducible refine Am (f := 47) rfl ?_); refine Be (some 27) rfl rfl Tryd.func47 (by kernel_rfl) rfl #[.string a0_0] rfl Yc_ ?_; (with_reducible refine (Bv.calls k a0_0 t269 t270 _ A7.out).mono ?_); rintro e w27 ⟨v271, rfl, ho0, hb⟩; refine ⟨_, rfl, ?_⟩; have n0_ := Aside0.mk (Kd.He Yfj_ (Kd.R_base ho0) hb); have n1_ := Aside0.mk (Kd.En (Kd.R_new' ho0 (Kd.R_lt Yfj_)) (Ah Yb_)); have n2_ := Aside0.mk (Ai (g := gb0) (o := .cells #[.string a0_0, .string a0_1, .int .i64 a0_2] 31 (0, 0)) Yd_ hb); have n3_ := Aside0.mk (Ag Yb_ hb); clear HO268; clear BK0; clear HB; have HO268 := n0_; have HO272 := n1_; have BK0 := n2_; have HB := n3_; clear n0_ n1_ n2_ n3_; (try clear hb); (try clear hb2); (try clear hk); (try clear hi); (try clear ho0); have hcz28_0 : w27.cell? ⟨gb0, 0, none⟩ = some (.string a0_0) := (Ae BK0.out 0).trans rfl; have hcz28_1 : w27.cell? ⟨gb0, 1, none⟩ = some (.string a0_1) := (Ae BK0.out 1).trans rfl; have hcz28_2 : w27.cell? ⟨gb0, 2, none⟩ = some (.int .i64 a0_2) := (Ae BK0.out 2).trans rfl; have hfz28_0 := Af BK0.out 0; have hfz28_1 := Af BK0.out 1; have hfz28_2 := Af BK0.out 2))
        go_ret
        exact ⟨by first | rfl | (simp [Ak, Aj] <;> rfl) | (simp [*, Ak, Aj] <;> rfl), by repeat (first | (with_reducible first | exact HB.out | apply below_alloc | apply pw_below_drewN | apply below_drew1 | refine below_set ?_ GE0.out) | exact HB.out)⟩
    · rw [if_neg c5] at H
      exact absurd H (by simp)
end Go.Proofs.YtkpieljmhgfofaaDoor.X

namespace Go.Proofs.YtkpieljmhgfofaaDoor.X
open Go.RowKit Go.Proofs.YtkpieljmhgfofaaDoorW.PrintWords Go.Proofs.YtkpieljmhgfofaaDoorW.PrintLast Go.Proofs.YtkpieljmhgfofaaDoorW.PrintMore
attribute [local go_sem] max2_int min2_int max_two min_two max_three min_three max_four min_four
open Go.Proofs.YtkpieljmhgfofaaDoorG
def Dy.f (k : Nat) (a0_0 : ByteArray) (a0_1 : ByteArray) (a0_2 : Int) : Option (Bool) := (Ed.f k a0_0 a0_1 a0_2).bind fun t274 => (some t274)
theorem Dy.mono : ∀ a0 a1 a2 k, LeO (Dy.f k a0 a1 a2) (Dy.f (k + 1) a0 a1 a2) := by
  intro a0 a1 a2 k
  unfold Dy.f
  repeat' first
      | (with_reducible exact Ed.mono _ _ _ _)
      | (with_reducible exact LeO.refl _)
      | (with_reducible exact LeO.none _)
      | (with_reducible refine LeO.ite ?_ ?_)
      | (with_reducible refine LeO.bind ?_ (fun _ => ?_))
      | exact Ed.mono _ _ _ _
      | exact LeO.none _
      | refine LeO.ite ?_ ?_
      | refine LeO.bind ?_ (fun _ => ?_)
set_option maxHeartbeats 8000000 in
set_option maxRecDepth 100000 in
theorem Dy.calls (k : Nat) (a0_0 : ByteArray) (a0_1 : ByteArray) (a0_2 : Int) (r : Bool) (w : World) (h : Dy.f k a0_0 a0_1 a0_2 = some r) :
    Calls Tryd.prog 21 #[.agg #[.string a0_0, .string a0_1, .int .i64 a0_2]] w fun e w' => e = .returned (.bool r) ∧ Below w.heap.size w w' := by
  have hu31 := Tryd.underlying31
  have HB := Aside0.mk (Below.refl w.heap.size w)
  have H : ((Ed.f k a0_0 a0_1 a0_2).bind fun t274 => (some t274)) = some r := h
  clear h
  replace H := Option.bind_eq_some_iff.mp H
  obtain ⟨t274, A20, H⟩ := H
  replace H : (some t274) = some r := H
  have A2 := Aside0.mk A20
  clear A20
  obtain rfl := Option.some.inj H
  go_enter Tryd.func21, Tryd.ntmps21
  go_wp2_with (first | ((with_reducible refine Bd (N := 1) rfl ?_); refine Bc ?hg (N := 1) ?hd (cs := #[.string a0_0, .string a0_1, .int .i64 a0_2]) (t := 31) ?hr ?_; (case hd => rfl); (case hg => rfl); (case hr => first | (go_simp; done) | (go_simp; rfl)); intro gb0 hg w3 hbox hb; have n0_ := Aside0.mk (Ag Ya_ hb); have n1_ := Aside0.mk (hbox); have n2_ := Aside0.mk ((by rw [hg]; exact (Ah Ya_) : w.heap.size ≤ gb0)); have n3_ := Aside0.mk ((by rw [hg]; exact (Ah Ya_) : w.heap.size ≤ gb0)); clear HB; have HB := n0_; have BK0 := n1_; have GW0 := n2_; have GE0 := n3_; clear n0_ n1_ n2_ n3_; clear hb hbox hg; have hcz4_0 : w3.cell? ⟨gb0, 0, none⟩ = some (.string a0_0) := (Ae BK0.out 0).trans rfl; have hcz4_1 : w3.cell? ⟨gb0, 1, none⟩ = some (.string a0_1) := (Ae BK0.out 1).trans rfl; have hcz4_2 : w3.cell? ⟨gb0, 2, none⟩ = some (.int .i64 a0_2) := (Ae BK0.out 2).trans rfl; have hfz4_0 := Af BK0.out 0; have hfz4_1 := Af BK0.out 1; have hfz4_2 := Af BK0.out 2) | ((with_reducible refine Am (f := 49) rfl ?_); refine Be (some 4) rfl rfl Tryd.func49 (by kernel_rfl) rfl #[.agg #[.string a0_0, .string a0_1, .int .i64 a0_2]] rfl Yc_ ?_; (with_reducible refine (Ed.calls k a0_0 a0_1 a0_2 t274 _ A2.out).mono ?_); rintro e w5 ⟨rfl, hb⟩; refine ⟨_, rfl, ?_⟩; have n0_ := Aside0.mk (Ai (g := gb0) (o := .cells #[.string a0_0, .string a0_1, .int .i64 a0_2] 31 (0, 0)) Yd_ hb); have n1_ := Aside0.mk (Ag Yb_ hb); clear BK0; clear HB; have BK0 := n0_; have HB := n1_; clear n0_ n1_; (try clear hb); (try clear hb2); (try clear hk); (try clear hi)))
  go_ret
  exact ⟨by first | rfl | (simp [Ak, Aj] <;> rfl) | (simp [*, Ak, Aj] <;> rfl), by repeat (first | (with_reducible first | exact HB.out | apply below_alloc | apply pw_below_drewN | apply below_drew1 | refine below_set ?_ GE0.out) | exact HB.out)⟩
end Go.Proofs.YtkpieljmhgfofaaDoor.X

namespace Go.Proofs.YtkpieljmhgfofaaDoor.X
open Go.RowKit Go.Proofs.YtkpieljmhgfofaaDoorW.PrintWords Go.Proofs.YtkpieljmhgfofaaDoorW.PrintLast Go.Proofs.YtkpieljmhgfofaaDoorW.PrintMore
attribute [local go_sem] max2_int min2_int max_two min_two max_three min_three max_four min_four
open Go.Proofs.YtkpieljmhgfofaaDoorG
def Eo.f (k : Nat) (a0_0 a0_1 : ByteArray) (a0_2 : Int) : Option (List S27 × Bool) := if a0_0.size + a0_1.size ≤ 9223372036854775807 then ((Df.f k (a0_0 ++ a0_1)).bind fun b => some (b.1, (b.2.2 == (a0_0.size : Int) + (a0_1.size : Int)) && decide ((a0_0.size : Int) ∈ b.2.1) && (a0_2 == (b.1.length : Int)))) else none
theorem Eo.mono (a0_0 a0_1 : ByteArray) (a0_2 : Int) (k : Nat) : LeO (Eo.f k a0_0 a0_1 a0_2) (Eo.f (k + 1) a0_0 a0_1 a0_2) := by
  unfold Eo.f
  exact LeO.ite (LeO.bind (Df.mono _ _) (fun _ => LeO.refl _)) (LeO.refl _)
set_option maxHeartbeats 8000000 in
set_option maxRecDepth 100000 in
theorem Eo.calls (k : Nat) (a0_0 a0_1 : ByteArray) (a0_2 : Int) (r1 : List S27) (r2 : Bool) (w : World) (hG : Eg w) (h : Eo.f k a0_0 a0_1 a0_2 = some (r1, r2)) :
    Calls Tryd.prog 50 #[.agg #[.string a0_0, .string a0_1, .int .i64 a0_2]] w fun e w' => ∃ v0_ : Value, e = .returned (.tuple #[v0_, .bool r2]) ∧ Kd.R k27 27 w' w.heap.size (fun _ => True) v0_ r1 ∧ Below w.heap.size w w' := by
  have hu31 := Tryd.underlying31
  have HGL := Aside0.mk hG
  clear hG
  have HB := Aside0.mk (Below.refl w.heap.size w)
  have H : (if a0_0.size + a0_1.size ≤ 9223372036854775807 then ((Df.f k (a0_0 ++ a0_1)).bind fun b => some (b.1, (b.2.2 == (a0_0.size : Int) + (a0_1.size : Int)) && decide ((a0_0.size : Int) ∈ b.2.1) && (a0_2 == (b.1.length : Int)))) else none) = some (r1, r2) := h
  clear h
  by_cases c1 : a0_0.size + a0_1.size ≤ 9223372036854775807
  · rw [if_pos c1] at H
    replace H := Option.bind_eq_some_iff.mp H
    obtain ⟨⟨t1, t2, t3⟩, A0, H⟩ := H
    have A2 := Aside0.mk A0
    clear A0
    simp only [Option.some.injEq, Prod.mk.injEq] at H
    obtain ⟨rfl, hr⟩ := H
    have HR := Aside0.mk hr
    clear hr
    have c1b0 := eq_true c1
    have c1b1 := eq_false (Nat.not_lt.2 c1)
    have c1b2 : ¬ 9223372036854775807 < (a0_0 ++ a0_1).size := by rw [ByteArray.size_append]; omega
    have C1 := Aside0.mk c1
    clear c1
    have hs : (a0_0 ++ a0_1).size = a0_0.size + a0_1.size := ByteArray.size_append ..
    by_cases e1 : (t3 == (a0_0.size : Int) + (a0_1.size : Int)) = true
    · by_cases e2 : decide ((a0_0.size : Int) ∈ t2) = true
      · by_cases e3 : (a0_2 == (t1.length : Int)) = true
        · have HV := Aside0.mk (HR.out.symm.trans (by rw [e1, e2, e3]; first | rfl | simp : _ = true))
          obtain rfl := HV.out
          go_enter Tryd.func50, Tryd.ntmps50
          go_wp2_with (first | ((with_reducible refine Bd (N := 1) rfl ?_); refine Bc ?hg (N := 1) ?hd (cs := #[.string a0_0, .string a0_1, .int .i64 a0_2]) (t := 31) ?hr ?_; (case hd => rfl); (case hg => rfl); (case hr => first | (go_simp; done) | (go_simp; rfl)); intro gb hg w1 hbox hb; have n1_ := Aside0.mk (Ag Ya_ hb); have n3_ := Aside0.mk hbox; have n4_ := Aside0.mk ((by rw [hg]; exact Ah Ya_ : w.heap.size ≤ gb)); clear HB; have HB := n1_; have BK := n3_; have GE := n4_; clear n1_ n3_ n4_ hb hbox hg; have hcz0 : w1.cell? ⟨gb, 0, none⟩ = some (.string a0_0) := (Ae BK.out 0).trans rfl; have hcz1 : w1.cell? ⟨gb, 1, none⟩ = some (.string a0_1) := (Ae BK.out 1).trans rfl; have hcz2 : w1.cell? ⟨gb, 2, none⟩ = some (.int .i64 a0_2) := (Ae BK.out 2).trans rfl) | ((with_reducible refine Am (f := 48) rfl ?_); (try (refine Ef (by rfl) ?_; dsimp only)); refine Be (some 15) rfl rfl Tryd.func48 (by kernel_rfl) rfl #[.string (a0_0 ++ a0_1)] rfl Yc_ ?_; (with_reducible refine (Df.calls k (a0_0 ++ a0_1) t1 t2 t3 _ (Eg.below HGL.out Ya_) A2.out).mono ?_); rintro e w2 ⟨v0_, m, rfl, ho, hm, hb⟩; refine ⟨_, rfl, ?_⟩; have hl := fun n => (Go.Proofs.YtkpieljmhgfofaaDoorMp.Dn.drewN hm n).look (t := 66) Tryd.underlying3 Tryd.underlying66 Tryd.underlying4 (zeroB _) (x := (a0_0.size : Int)) (Go.Proofs.YtkpieljmhgfofaaDoorMp.wf_i64 (by omega) (by have := C1.out; omega)); have hl0 := hm.look (t := 66) Tryd.underlying3 Tryd.underlying66 Tryd.underlying4 (zeroB _) (x := (a0_0.size : Int)) (Go.Proofs.YtkpieljmhgfofaaDoorMp.wf_i64 (by omega) (by have := C1.out; omega)); have BK2 := Ai Yhc_ hb; have n0_ := Aside0.mk (Kd.En ho (Ah Ya_)); have n1_ := Aside0.mk (Ag Ya_ hb); clear HB; have HO := n0_; have HB := n1_; clear n0_ n1_ hb ho hm; have hcy0 : w2.cell? ⟨gb, 0, none⟩ = some (.string a0_0) := (Ae BK2 0).trans rfl; have hcy1 : w2.cell? ⟨gb, 1, none⟩ = some (.string a0_1) := (Ae BK2 1).trans rfl; have hcy2 : w2.cell? ⟨gb, 2, none⟩ = some (.int .i64 a0_2) := (Ae BK2 2).trans rfl; clear BK2; obtain ⟨Ao, co, eo⟩ := Kd.Eu HO.out; subst eo))
          repeat (go_quiet (fail); try go_wp2)
          go_ret2
          exact ⟨_, by first | rfl | (simp; done) | (simp [*]; done), by (with_reducible repeat (first | apply Kd.Bo | apply Kd.Bl | apply Kd.Cb)); exact HO.out, by repeat (first | (with_reducible first | exact HB.out | apply below_alloc | apply pw_below_drewN | apply below_drew1) | exact HB.out)⟩
        · replace e3 : (a0_2 == (t1.length : Int)) = false := Bool.eq_false_iff.mpr e3
          have HV := Aside0.mk (HR.out.symm.trans (by rw [e1, e2, e3]; first | rfl | simp : _ = false))
          obtain rfl := HV.out
          go_enter Tryd.func50, Tryd.ntmps50
          go_wp2_with (first | ((with_reducible refine Bd (N := 1) rfl ?_); refine Bc ?hg (N := 1) ?hd (cs := #[.string a0_0, .string a0_1, .int .i64 a0_2]) (t := 31) ?hr ?_; (case hd => rfl); (case hg => rfl); (case hr => first | (go_simp; done) | (go_simp; rfl)); intro gb hg w1 hbox hb; have n1_ := Aside0.mk (Ag Ya_ hb); have n3_ := Aside0.mk hbox; have n4_ := Aside0.mk ((by rw [hg]; exact Ah Ya_ : w.heap.size ≤ gb)); clear HB; have HB := n1_; have BK := n3_; have GE := n4_; clear n1_ n3_ n4_ hb hbox hg; have hcz0 : w1.cell? ⟨gb, 0, none⟩ = some (.string a0_0) := (Ae BK.out 0).trans rfl; have hcz1 : w1.cell? ⟨gb, 1, none⟩ = some (.string a0_1) := (Ae BK.out 1).trans rfl; have hcz2 : w1.cell? ⟨gb, 2, none⟩ = some (.int .i64 a0_2) := (Ae BK.out 2).trans rfl) | ((with_reducible refine Am (f := 48) rfl ?_); (try (refine Ef (by rfl) ?_; dsimp only)); refine Be (some 15) rfl rfl Tryd.func48 (by kernel_rfl) rfl #[.string (a0_0 ++ a0_1)] rfl Yc_ ?_; (with_reducible refine (Df.calls k (a0_0 ++ a0_1) t1 t2 t3 _ (Eg.below HGL.out Ya_) A2.out).mono ?_); rintro e w2 ⟨v0_, m, rfl, ho, hm, hb⟩; refine ⟨_, rfl, ?_⟩; have hl := fun n => (Go.Proofs.YtkpieljmhgfofaaDoorMp.Dn.drewN hm n).look (t := 66) Tryd.underlying3 Tryd.underlying66 Tryd.underlying4 (zeroB _) (x := (a0_0.size : Int)) (Go.Proofs.YtkpieljmhgfofaaDoorMp.wf_i64 (by omega) (by have := C1.out; omega)); have hl0 := hm.look (t := 66) Tryd.underlying3 Tryd.underlying66 Tryd.underlying4 (zeroB _) (x := (a0_0.size : Int)) (Go.Proofs.YtkpieljmhgfofaaDoorMp.wf_i64 (by omega) (by have := C1.out; omega)); have BK2 := Ai Yhc_ hb; have n0_ := Aside0.mk (Kd.En ho (Ah Ya_)); have n1_ := Aside0.mk (Ag Ya_ hb); clear HB; have HO := n0_; have HB := n1_; clear n0_ n1_ hb ho hm; have hcy0 : w2.cell? ⟨gb, 0, none⟩ = some (.string a0_0) := (Ae BK2 0).trans rfl; have hcy1 : w2.cell? ⟨gb, 1, none⟩ = some (.string a0_1) := (Ae BK2 1).trans rfl; have hcy2 : w2.cell? ⟨gb, 2, none⟩ = some (.int .i64 a0_2) := (Ae BK2 2).trans rfl; clear BK2; obtain ⟨Ao, co, eo⟩ := Kd.Eu HO.out; subst eo))
          repeat (go_quiet (fail); try go_wp2)
          go_ret2
          exact ⟨_, by first | rfl | (simp; done) | (simp [*]; done), by (with_reducible repeat (first | apply Kd.Bo | apply Kd.Bl | apply Kd.Cb)); exact HO.out, by repeat (first | (with_reducible first | exact HB.out | apply below_alloc | apply pw_below_drewN | apply below_drew1) | exact HB.out)⟩
      · replace e2 : decide ((a0_0.size : Int) ∈ t2) = false := Bool.eq_false_iff.mpr e2
        have HV := Aside0.mk (HR.out.symm.trans (by rw [e1, e2]; first | rfl | simp : _ = false))
        obtain rfl := HV.out
        go_enter Tryd.func50, Tryd.ntmps50
        go_wp2_with (first | ((with_reducible refine Bd (N := 1) rfl ?_); refine Bc ?hg (N := 1) ?hd (cs := #[.string a0_0, .string a0_1, .int .i64 a0_2]) (t := 31) ?hr ?_; (case hd => rfl); (case hg => rfl); (case hr => first | (go_simp; done) | (go_simp; rfl)); intro gb hg w1 hbox hb; have n1_ := Aside0.mk (Ag Ya_ hb); have n3_ := Aside0.mk hbox; have n4_ := Aside0.mk ((by rw [hg]; exact Ah Ya_ : w.heap.size ≤ gb)); clear HB; have HB := n1_; have BK := n3_; have GE := n4_; clear n1_ n3_ n4_ hb hbox hg; have hcz0 : w1.cell? ⟨gb, 0, none⟩ = some (.string a0_0) := (Ae BK.out 0).trans rfl; have hcz1 : w1.cell? ⟨gb, 1, none⟩ = some (.string a0_1) := (Ae BK.out 1).trans rfl; have hcz2 : w1.cell? ⟨gb, 2, none⟩ = some (.int .i64 a0_2) := (Ae BK.out 2).trans rfl) | ((with_reducible refine Am (f := 48) rfl ?_); (try (refine Ef (by rfl) ?_; dsimp only)); refine Be (some 15) rfl rfl Tryd.func48 (by kernel_rfl) rfl #[.string (a0_0 ++ a0_1)] rfl Yc_ ?_; (with_reducible refine (Df.calls k (a0_0 ++ a0_1) t1 t2 t3 _ (Eg.below HGL.out Ya_) A2.out).mono ?_); rintro e w2 ⟨v0_, m, rfl, ho, hm, hb⟩; refine ⟨_, rfl, ?_⟩; have hl := fun n => (Go.Proofs.YtkpieljmhgfofaaDoorMp.Dn.drewN hm n).look (t := 66) Tryd.underlying3 Tryd.underlying66 Tryd.underlying4 (zeroB _) (x := (a0_0.size : Int)) (Go.Proofs.YtkpieljmhgfofaaDoorMp.wf_i64 (by omega) (by have := C1.out; omega)); have hl0 := hm.look (t := 66) Tryd.underlying3 Tryd.underlying66 Tryd.underlying4 (zeroB _) (x := (a0_0.size : Int)) (Go.Proofs.YtkpieljmhgfofaaDoorMp.wf_i64 (by omega) (by have := C1.out; omega)); have BK2 := Ai Yhc_ hb; have n0_ := Aside0.mk (Kd.En ho (Ah Ya_)); have n1_ := Aside0.mk (Ag Ya_ hb); clear HB; have HO := n0_; have HB := n1_; clear n0_ n1_ hb ho hm; have hcy0 : w2.cell? ⟨gb, 0, none⟩ = some (.string a0_0) := (Ae BK2 0).trans rfl; have hcy1 : w2.cell? ⟨gb, 1, none⟩ = some (.string a0_1) := (Ae BK2 1).trans rfl; have hcy2 : w2.cell? ⟨gb, 2, none⟩ = some (.int .i64 a0_2) := (Ae BK2 2).trans rfl; clear BK2; obtain ⟨Ao, co, eo⟩ := Kd.Eu HO.out; subst eo))
        repeat (go_quiet (fail); try go_wp2)
        go_ret2
        exact ⟨_, by first | rfl | (simp; done) | (simp [*]; done), by (with_reducible repeat (first | apply Kd.Bo | apply Kd.Bl | apply Kd.Cb)); exact HO.out, by repeat (first | (with_reducible first | exact HB.out | apply below_alloc | apply pw_below_drewN | apply below_drew1) | exact HB.out)⟩
    · replace e1 : (t3 == (a0_0.size : Int) + (a0_1.size : Int)) = false := Bool.eq_false_iff.mpr e1
      have HV := Aside0.mk (HR.out.symm.trans (by rw [e1]; first | rfl | simp : _ = false))
      obtain rfl := HV.out
      go_enter Tryd.func50, Tryd.ntmps50
      go_wp2_with (first | ((with_reducible refine Bd (N := 1) rfl ?_); refine Bc ?hg (N := 1) ?hd (cs := #[.string a0_0, .string a0_1, .int .i64 a0_2]) (t := 31) ?hr ?_; (case hd => rfl); (case hg => rfl); (case hr => first | (go_simp; done) | (go_simp; rfl)); intro gb hg w1 hbox hb; have n1_ := Aside0.mk (Ag Ya_ hb); have n3_ := Aside0.mk hbox; have n4_ := Aside0.mk ((by rw [hg]; exact Ah Ya_ : w.heap.size ≤ gb)); clear HB; have HB := n1_; have BK := n3_; have GE := n4_; clear n1_ n3_ n4_ hb hbox hg; have hcz0 : w1.cell? ⟨gb, 0, none⟩ = some (.string a0_0) := (Ae BK.out 0).trans rfl; have hcz1 : w1.cell? ⟨gb, 1, none⟩ = some (.string a0_1) := (Ae BK.out 1).trans rfl; have hcz2 : w1.cell? ⟨gb, 2, none⟩ = some (.int .i64 a0_2) := (Ae BK.out 2).trans rfl) | ((with_reducible refine Am (f := 48) rfl ?_); (try (refine Ef (by rfl) ?_; dsimp only)); refine Be (some 15) rfl rfl Tryd.func48 (by kernel_rfl) rfl #[.string (a0_0 ++ a0_1)] rfl Yc_ ?_; (with_reducible refine (Df.calls k (a0_0 ++ a0_1) t1 t2 t3 _ (Eg.below HGL.out Ya_) A2.out).mono ?_); rintro e w2 ⟨v0_, m, rfl, ho, hm, hb⟩; refine ⟨_, rfl, ?_⟩; have hl := fun n => (Go.Proofs.YtkpieljmhgfofaaDoorMp.Dn.drewN hm n).look (t := 66) Tryd.underlying3 Tryd.underlying66 Tryd.underlying4 (zeroB _) (x := (a0_0.size : Int)) (Go.Proofs.YtkpieljmhgfofaaDoorMp.wf_i64 (by omega) (by have := C1.out; omega)); have hl0 := hm.look (t := 66) Tryd.underlying3 Tryd.underlying66 Tryd.underlying4 (zeroB _) (x := (a0_0.size : Int)) (Go.Proofs.YtkpieljmhgfofaaDoorMp.wf_i64 (by omega) (by have := C1.out; omega)); have BK2 := Ai Yhc_ hb; have n0_ := Aside0.mk (Kd.En ho (Ah Ya_)); have n1_ := Aside0.mk (Ag Ya_ hb); clear HB; have HO := n0_; have HB := n1_; clear n0_ n1_ hb ho hm; have hcy0 : w2.cell? ⟨gb, 0, none⟩ = some (.string a0_0) := (Ae BK2 0).trans rfl; have hcy1 : w2.cell? ⟨gb, 1, none⟩ = some (.string a0_1) := (Ae BK2 1).trans rfl; have hcy2 : w2.cell? ⟨gb, 2, none⟩ = some (.int .i64 a0_2) := (Ae BK2 2).trans rfl; clear BK2; obtain ⟨Ao, co, eo⟩ := Kd.Eu HO.out; subst eo))
      repeat (go_quiet (fail); try go_wp2)
      go_ret2
      exact ⟨_, by first | rfl | (simp; done) | (simp [*]; done), by (with_reducible repeat (first | apply Kd.Bo | apply Kd.Bl | apply Kd.Cb)); exact HO.out, by repeat (first | (with_reducible first | exact HB.out | apply below_alloc | apply pw_below_drewN | apply below_drew1) | exact HB.out)⟩
  · rw [if_neg c1] at H
    exact absurd H (by simp)
end Go.Proofs.YtkpieljmhgfofaaDoor.X

namespace Go.Proofs.YtkpieljmhgfofaaDoor.X
open Go.RowKit Go.Proofs.YtkpieljmhgfofaaDoorW.PrintWords Go.Proofs.YtkpieljmhgfofaaDoorW.PrintLast Go.Proofs.YtkpieljmhgfofaaDoorW.PrintMore
attribute [local go_sem] max2_int min2_int max_two min_two max_three min_three max_four min_four
open Go.Proofs.YtkpieljmhgfofaaDoorG
def Cj.f (k : Nat) (a0_0 : ByteArray) (a0_1 : ByteArray) (a0_2 : Int) : Option (Bool) := (Eo.f k a0_0 a0_1 a0_2).bind fun bt279 => (some bt279.2)
theorem Cj.mono : ∀ a0 a1 a2 k, LeO (Cj.f k a0 a1 a2) (Cj.f (k + 1) a0 a1 a2) := by
  intro a0 a1 a2 k
  unfold Cj.f
  repeat' first
      | (with_reducible exact Eo.mono _ _ _ _)
      | (with_reducible exact LeO.refl _)
      | (with_reducible exact LeO.none _)
      | (with_reducible refine LeO.ite ?_ ?_)
      | (with_reducible refine LeO.bind ?_ (fun _ => ?_))
      | exact Eo.mono _ _ _ _
      | exact LeO.none _
      | refine LeO.ite ?_ ?_
      | refine LeO.bind ?_ (fun _ => ?_)
set_option maxHeartbeats 8000000 in
set_option maxRecDepth 100000 in
theorem Cj.calls (k : Nat) (a0_0 : ByteArray) (a0_1 : ByteArray) (a0_2 : Int) (r : Bool) (w : World) (hG : Eg w) (h : Cj.f k a0_0 a0_1 a0_2 = some r) :
    Calls Tryd.prog 23 #[.agg #[.string a0_0, .string a0_1, .int .i64 a0_2]] w fun e w' => e = .returned (.bool r) ∧ Below w.heap.size w w' := by
  have hu31 := Tryd.underlying31
  have HGL := Aside0.mk hG
  clear hG
  have HB := Aside0.mk (Below.refl w.heap.size w)
  have H : ((Eo.f k a0_0 a0_1 a0_2).bind fun bt279 => (some bt279.2)) = some r := h
  clear h
  replace H := Option.bind_eq_some_iff.mp H
  obtain ⟨⟨t279, t282⟩, A20, H⟩ := H
  replace H : (some t282) = some r := H
  have A2 := Aside0.mk A20
  clear A20
  obtain rfl := Option.some.inj H
  go_enter Tryd.func23, Tryd.ntmps23
  go_wp2_with (first | ((with_reducible refine Bd (N := 1) rfl ?_); refine Bc ?hg (N := 1) ?hd (cs := #[.string a0_0, .string a0_1, .int .i64 a0_2]) (t := 31) ?hr ?_; (case hd => rfl); (case hg => rfl); (case hr => first | (go_simp; done) | (go_simp; rfl)); intro gb0 hg w3 hbox hb; have n0_ := Aside0.mk (Ag Ya_ hb); have n1_ := Aside0.mk (hbox); have n2_ := Aside0.mk ((by rw [hg]; exact (Ah Ya_) : w.heap.size ≤ gb0)); have n3_ := Aside0.mk ((by rw [hg]; exact (Ah Ya_) : w.heap.size ≤ gb0)); clear HB; have HB := n0_; have BK0 := n1_; have GW0 := n2_; have GE0 := n3_; clear n0_ n1_ n2_ n3_; clear hb hbox hg; have hcz4_0 : w3.cell? ⟨gb0, 0, none⟩ = some (.string a0_0) := (Ae BK0.out 0).trans rfl; have hcz4_1 : w3.cell? ⟨gb0, 1, none⟩ = some (.string a0_1) := (Ae BK0.out 1).trans rfl; have hcz4_2 : w3.cell? ⟨gb0, 2, none⟩ = some (.int .i64 a0_2) := (Ae BK0.out 2).trans rfl; have hfz4_0 := Af BK0.out 0; have hfz4_1 := Af BK0.out 1; have hfz4_2 := Af BK0.out 2) | ((with_reducible refine Am (f := 50) rfl ?_); refine Be (some 7) rfl rfl Tryd.func50 (by kernel_rfl) rfl #[.agg #[.string a0_0, .string a0_1, .int .i64 a0_2]] rfl Yc_ ?_; (with_reducible refine (Eo.calls k a0_0 a0_1 a0_2 t279 t282 _ ?side1 A2.out).mono ?_); (case side1 => exact Eg.below HGL.out Yb_); rintro e w5 ⟨v280, rfl, ho0, hb⟩; refine ⟨_, rfl, ?_⟩; have n0_ := Aside0.mk (Kd.En ho0 (Ah Yb_)); have n1_ := Aside0.mk (Ai (g := gb0) (o := .cells #[.string a0_0, .string a0_1, .int .i64 a0_2] 31 (0, 0)) Yd_ hb); have n2_ := Aside0.mk (Ag Yb_ hb); clear BK0; clear HB; have HO281 := n0_; have BK0 := n1_; have HB := n2_; clear n0_ n1_ n2_; (try clear hb); (try clear hb2); (try clear hk); (try clear hi); (try clear ho0)))
  go_ret
  exact ⟨by first | rfl | (simp [Ak, Aj] <;> rfl) | (simp [*, Ak, Aj] <;> rfl), by repeat (first | (with_reducible first | exact HB.out | apply below_alloc | apply pw_below_drewN | apply below_drew1 | refine below_set ?_ GE0.out) | exact HB.out)⟩
end Go.Proofs.YtkpieljmhgfofaaDoor.X

namespace Go.Proofs.YtkpieljmhgfofaaDoor.X
open Go.RowKit Go.Proofs.YtkpieljmhgfofaaDoorW.PrintWords Go.Proofs.YtkpieljmhgfofaaDoorW.PrintLast Go.Proofs.YtkpieljmhgfofaaDoorW.PrintMore
attribute [local go_sem] max2_int min2_int max_two min_two max_three min_three max_four min_four
open Go.Proofs.YtkpieljmhgfofaaDoorG
def Ei.f (k : Nat) (a0_0 : ByteArray) (a0_1 : ByteArray) (a0_2 : Int) : Option (ByteArray × ByteArray × Int × Bool) := (Cj.f k a0_0 a0_1 a0_2).bind fun t310 => (if t310 = true then (if a0_0.size + a0_1.size ≤ 9223372036854775807 then (some (a0_0 ++ a0_1, (⟨#[]⟩ : ByteArray), a0_2, true)) else (none)) else (some ((⟨#[]⟩ : ByteArray), (⟨#[]⟩ : ByteArray), 0, false)))
theorem Ei.mono : ∀ a0 a1 a2 k, LeO (Ei.f k a0 a1 a2) (Ei.f (k + 1) a0 a1 a2) := by
  intro a0 a1 a2 k
  unfold Ei.f
  repeat' first
      | (with_reducible exact Cj.mono _ _ _ _)
      | (with_reducible exact LeO.refl _)
      | (with_reducible exact LeO.none _)
      | (with_reducible refine LeO.ite ?_ ?_)
      | (with_reducible refine LeO.bind ?_ (fun _ => ?_))
      | exact Cj.mono _ _ _ _
      | exact LeO.none _
      | refine LeO.ite ?_ ?_
      | refine LeO.bind ?_ (fun _ => ?_)
set_option maxHeartbeats 8000000 in
set_option maxRecDepth 100000 in
theorem Ei.calls (k : Nat) (a0_0 : ByteArray) (a0_1 : ByteArray) (a0_2 : Int) (r1 : ByteArray) (r2 : ByteArray) (r3 : Int) (r4 : Bool) (w : World) (hG : Eg w) (h : Ei.f k a0_0 a0_1 a0_2 = some (r1, r2, r3, r4)) :
    Calls Tryd.prog 27 #[.agg #[.string a0_0, .string a0_1, .int .i64 a0_2]] w fun e w' => e = .returned (.tuple #[.agg #[.string r1, .string r2, .int .i64 r3], .bool r4]) ∧ Below w.heap.size w w' := by
  have hu31 := Tryd.underlying31
  have HGL := Aside0.mk hG
  clear hG
  have HB := Aside0.mk (Below.refl w.heap.size w)
  have H : ((Cj.f k a0_0 a0_1 a0_2).bind fun t310 => (if t310 = true then (if a0_0.size + a0_1.size ≤ 9223372036854775807 then (some (a0_0 ++ a0_1, (⟨#[]⟩ : ByteArray), a0_2, true)) else (none)) else (some ((⟨#[]⟩ : ByteArray), (⟨#[]⟩ : ByteArray), 0, false)))) = some (r1, r2, r3, r4) := h
  clear h
  replace H := Option.bind_eq_some_iff.mp H
  obtain ⟨t310, A20, H⟩ := H
  replace H : (if t310 = true then (if a0_0.size + a0_1.size ≤ 9223372036854775807 then (some (a0_0 ++ a0_1, (⟨#[]⟩ : ByteArray), a0_2, true)) else (none)) else (some ((⟨#[]⟩ : ByteArray), (⟨#[]⟩ : ByteArray), 0, false))) = some (r1, r2, r3, r4) := H
  have A2 := Aside0.mk A20
  clear A20
  by_cases c3 : t310 = true
  · subst c3
    have H1 : (if a0_0.size + a0_1.size ≤ 9223372036854775807 then (some (a0_0 ++ a0_1, (⟨#[]⟩ : ByteArray), a0_2, true)) else (none)) = some (r1, r2, r3, r4) := by rw [if_pos rfl] at H; exact H
    clear H
    have H := H1
    clear H1
    by_cases c4 : a0_0.size + a0_1.size ≤ 9223372036854775807
    · rw [if_pos c4] at H
      have c4b0 := eq_true c4
      have c4b1 : decide (a0_0.size + a0_1.size ≤ 9223372036854775807) = true := decide_eq_true c4
      try have c4b2 : (9223372036854775807 < a0_0.size + a0_1.size) = False := eq_false (Nat.not_lt.2 c4)
      simp only [Option.some.injEq, Prod.mk.injEq] at H
      obtain ⟨rfl, rfl, rfl, rfl⟩ := H
      go_enter Tryd.func27, Tryd.ntmps27
      go_wp2_with (first | ((with_reducible refine Bd (N := 1) rfl ?_); refine Bc ?hg (N := 1) ?hd (cs := #[.string a0_0, .string a0_1, .int .i64 a0_2]) (t := 31) ?hr ?_; (case hd => rfl); (case hg => rfl); (case hr => first | (go_simp; done) | (go_simp; rfl)); intro gb0 hg w5 hbox hb; have n0_ := Aside0.mk (Ag Ya_ hb); have n1_ := Aside0.mk (hbox); have n2_ := Aside0.mk ((by rw [hg]; exact (Ah Ya_) : w.heap.size ≤ gb0)); have n3_ := Aside0.mk ((by rw [hg]; exact (Ah Ya_) : w.heap.size ≤ gb0)); clear HB; have HB := n0_; have BK0 := n1_; have GW0 := n2_; have GE0 := n3_; clear n0_ n1_ n2_ n3_; clear hb hbox hg) | ((with_reducible refine Bd (N := 2) rfl ?_); refine Bc ?hg (N := 2) ?hd (cs := #[.string (⟨#[]⟩ : ByteArray), .string (⟨#[]⟩ : ByteArray), .int .i64 0]) (t := 31) ?hr ?_; (case hd => rfl); (case hg => rfl); (case hr => first | (go_simp; done) | (go_simp; rfl)); intro gb1 hg w6 hbox hb; have n0_ := Aside0.mk (Ai (g := gb0) (o := .cells #[.string a0_0, .string a0_1, .int .i64 a0_2] 31 (0, 0)) Yd_ hb); have n1_ := Aside0.mk (Ag Yb_ hb); have n2_ := Aside0.mk (hbox); have n3_ := Aside0.mk ((by rw [hg]; exact (Ah Yb_) : w.heap.size ≤ gb1)); have n4_ := Aside0.mk ((by rw [hg]; exact (Ah Yb_) : w.heap.size ≤ gb1)); have n5_ := Aside0.mk ((by rw [hg]; exact Nat.ne_of_lt (Cf (g := gb0) (o := .cells #[.string a0_0, .string a0_1, .int .i64 a0_2] 31 (0, 0)) Yd_) : gb0 ≠ gb1)); have n6_ := Aside0.mk ((by rw [hg]; exact Nat.ne_of_gt (Cf (g := gb0) (o := .cells #[.string a0_0, .string a0_1, .int .i64 a0_2] 31 (0, 0)) Yd_) : gb1 ≠ gb0)); clear BK0; clear HB; have BK0 := n0_; have HB := n1_; have BK1 := n2_; have GW1 := n3_; have GE1 := n4_; have NB0_1 := n5_; have NB1_0 := n6_; clear n0_ n1_ n2_ n3_ n4_ n5_ n6_; clear hb hbox hg; have hnb7 := NB0_1.out; have hnc7 := NB1_0.out; have hcz8_0 : w6.cell? ⟨gb0, 0, none⟩ = some (.string a0_0) := (Ae BK0.out 0).trans rfl; have hcz8_1 : w6.cell? ⟨gb0, 1, none⟩ = some (.string a0_1) := (Ae BK0.out 1).trans rfl; have hcz8_2 : w6.cell? ⟨gb0, 2, none⟩ = some (.int .i64 a0_2) := (Ae BK0.out 2).trans rfl; have hfz8_0 := Af BK0.out 0; have hfz8_1 := Af BK0.out 1; have hfz8_2 := Af BK0.out 2) | ((with_reducible refine Am (f := 23) rfl ?_); refine Be (some 5) rfl rfl Tryd.func23 (by kernel_rfl) rfl #[.agg #[.string a0_0, .string a0_1, .int .i64 a0_2]] rfl Yc_ ?_; (with_reducible refine (Cj.calls k a0_0 a0_1 a0_2 true _ ?side1 A2.out).mono ?_); (case side1 => exact Eg.below HGL.out Yf_); rintro e w9 ⟨rfl, hb⟩; refine ⟨_, rfl, ?_⟩; have n0_ := Aside0.mk (Ai (g := gb0) (o := .cells #[.string a0_0, .string a0_1, .int .i64 a0_2] 31 (0, 0)) Yd_ hb); have n1_ := Aside0.mk (Ai (g := gb1) (o := .cells #[.string (⟨#[]⟩ : ByteArray), .string (⟨#[]⟩ : ByteArray), .int .i64 0] 31 (0, 0)) Ye_ hb); have n2_ := Aside0.mk (Ag Yf_ hb); clear BK0; clear BK1; clear HB; have BK0 := n0_; have BK1 := n1_; have HB := n2_; clear n0_ n1_ n2_; (try clear hb); (try clear hb2); (try clear hk); (try clear hi); have hcz10_0 : w9.cell? ⟨gb0, 0, none⟩ = some (.string a0_0) := (Ae BK0.out 0).trans rfl; have hcz10_1 : w9.cell? ⟨gb0, 1, none⟩ = some (.string a0_1) := (Ae BK0.out 1).trans rfl; have hcz10_2 : w9.cell? ⟨gb0, 2, none⟩ = some (.int .i64 a0_2) := (Ae BK0.out 2).trans rfl; have hfz10_0 := Af BK0.out 0; have hfz10_1 := Af BK0.out 1; have hfz10_2 := Af BK0.out 2; have hcz11_0 : w9.cell? ⟨gb1, 0, none⟩ = some (.string (⟨#[]⟩ : ByteArray)) := (Ae BK1.out 0).trans rfl; have hcz11_1 : w9.cell? ⟨gb1, 1, none⟩ = some (.string (⟨#[]⟩ : ByteArray)) := (Ae BK1.out 1).trans rfl; have hcz11_2 : w9.cell? ⟨gb1, 2, none⟩ = some (.int .i64 0) := (Ae BK1.out 2).trans rfl; have hfz11_0 := Af BK1.out 0; have hfz11_1 := Af BK1.out 1; have hfz11_2 := Af BK1.out 2))
      refine bodyPost_ret (F6 rfl _ _ gb1 31 #[.string (a0_0 ++ a0_1), .string (⟨#[]⟩ : ByteArray), .int .i64 a0_2] (0, 0) _ rfl Yed_ Tryd.underlying31 rfl (by kernel_rfl)) rfl ?_
      exact ⟨by first | rfl | (simp [Ak, Aj] <;> rfl) | (simp [*, Ak, Aj] <;> rfl), by repeat (first | (with_reducible first | exact HB.out | apply below_alloc | apply pw_below_drewN | apply below_drew1 | refine below_set ?_ GE0.out | refine below_set ?_ GE1.out) | exact HB.out)⟩
    · rw [if_neg c4] at H
      exact absurd H (by simp)
  · replace c3 := Bool.eq_false_iff.mpr c3
    subst c3
    have H1 : (some ((⟨#[]⟩ : ByteArray), (⟨#[]⟩ : ByteArray), 0, false)) = some (r1, r2, r3, r4) := by rw [if_neg (show ¬ (false = true) by decide)] at H; exact H
    clear H
    have H := H1
    clear H1
    simp only [Option.some.injEq, Prod.mk.injEq] at H
    obtain ⟨rfl, rfl, rfl, rfl⟩ := H
    go_enter Tryd.func27, Tryd.ntmps27
    go_wp2_with (first | ((with_reducible refine Bd (N := 1) rfl ?_); refine Bc ?hg (N := 1) ?hd (cs := #[.string a0_0, .string a0_1, .int .i64 a0_2]) (t := 31) ?hr ?_; (case hd => rfl); (case hg => rfl); (case hr => first | (go_simp; done) | (go_simp; rfl)); intro gb0 hg w12 hbox hb; have n0_ := Aside0.mk (Ag Ya_ hb); have n1_ := Aside0.mk (hbox); have n2_ := Aside0.mk ((by rw [hg]; exact (Ah Ya_) : w.heap.size ≤ gb0)); have n3_ := Aside0.mk ((by rw [hg]; exact (Ah Ya_) : w.heap.size ≤ gb0)); clear HB; have HB := n0_; have BK0 := n1_; have GW0 := n2_; have GE0 := n3_; clear n0_ n1_ n2_ n3_; clear hb hbox hg) | ((with_reducible refine Bd (N := 2) rfl ?_); refine Bc ?hg (N := 2) ?hd (cs := #[.string (⟨#[]⟩ : ByteArray), .string (⟨#[]⟩ : ByteArray), .int .i64 0]) (t := 31) ?hr ?_; (case hd => rfl); (case hg => rfl); (case hr => first | (go_simp; done) | (go_simp; rfl)); intro gb1 hg w13 hbox hb; have n0_ := Aside0.mk (Ai (g := gb0) (o := .cells #[.string a0_0, .string a0_1, .int .i64 a0_2] 31 (0, 0)) Yd_ hb); have n1_ := Aside0.mk (Ag Yb_ hb); have n2_ := Aside0.mk (hbox); have n3_ := Aside0.mk ((by rw [hg]; exact (Ah Yb_) : w.heap.size ≤ gb1)); have n4_ := Aside0.mk ((by rw [hg]; exact (Ah Yb_) : w.heap.size ≤ gb1)); have n5_ := Aside0.mk ((by rw [hg]; exact Nat.ne_of_lt (Cf (g := gb0) (o := .cells #[.string a0_0, .string a0_1, .int .i64 a0_2] 31 (0, 0)) Yd_) : gb0 ≠ gb1)); have n6_ := Aside0.mk ((by rw [hg]; exact Nat.ne_of_gt (Cf (g := gb0) (o := .cells #[.string a0_0, .string a0_1, .int .i64 a0_2] 31 (0, 0)) Yd_) : gb1 ≠ gb0)); clear BK0; clear HB; have BK0 := n0_; have HB := n1_; have BK1 := n2_; have GW1 := n3_; have GE1 := n4_; have NB0_1 := n5_; have NB1_0 := n6_; clear n0_ n1_ n2_ n3_ n4_ n5_ n6_; clear hb hbox hg; have hnb14 := NB0_1.out; have hnc14 := NB1_0.out; have hcz15_0 : w13.cell? ⟨gb0, 0, none⟩ = some (.string a0_0) := (Ae BK0.out 0).trans rfl; have hcz15_1 : w13.cell? ⟨gb0, 1, none⟩ = some (.string a0_1) := (Ae BK0.out 1).trans rfl; have hcz15_2 : w13.cell? ⟨gb0, 2, none⟩ = some (.int .i64 a0_2) := (Ae BK0.out 2).trans rfl; have hfz15_0 := Af BK0.out 0; have hfz15_1 := Af BK0.out 1; have hfz15_2 := Af BK0.out 2) | ((with_reducible refine Am (f := 23) rfl ?_); refine Be (some 5) rfl rfl Tryd.func23 (by kernel_rfl) rfl #[.agg #[.string a0_0, .string a0_1, .int .i64 a0_2]] rfl Yc_ ?_; (with_reducible refine (Cj.calls k a0_0 a0_1 a0_2 false _ ?side1 A2.out).mono ?_); (case side1 => exact Eg.below HGL.out Yf_); rintro e w16 ⟨rfl, hb⟩; refine ⟨_, rfl, ?_⟩; have n0_ := Aside0.mk (Ai (g := gb0) (o := .cells #[.string a0_0, .string a0_1, .int .i64 a0_2] 31 (0, 0)) Yd_ hb); have n1_ := Aside0.mk (Ai (g := gb1) (o := .cells #[.string (⟨#[]⟩ : ByteArray), .string (⟨#[]⟩ : ByteArray), .int .i64 0] 31 (0, 0)) Ye_ hb); have n2_ := Aside0.mk (Ag Yf_ hb); clear BK0; clear BK1; clear HB; have BK0 := n0_; have BK1 := n1_; have HB := n2_; clear n0_ n1_ n2_; (try clear hb); (try clear hb2); (try clear hk); (try clear hi); have hcz17_0 : w16.cell? ⟨gb1, 0, none⟩ = some (.string (⟨#[]⟩ : ByteArray)) := (Ae BK1.out 0).trans rfl; have hcz17_1 : w16.cell? ⟨gb1, 1, none⟩ = some (.string (⟨#[]⟩ : ByteArray)) := (Ae BK1.out 1).trans rfl; have hcz17_2 : w16.cell? ⟨gb1, 2, none⟩ = some (.int .i64 0) := (Ae BK1.out 2).trans rfl; have hfz17_0 := Af BK1.out 0; have hfz17_1 := Af BK1.out 1; have hfz17_2 := Af BK1.out 2))
    refine bodyPost_ret (F6 rfl _ _ gb1 31 #[.string (⟨#[]⟩ : ByteArray), .string (⟨#[]⟩ : ByteArray), .int .i64 0] (0, 0) _ rfl Yec_ Tryd.underlying31 rfl (by kernel_rfl)) rfl ?_
    exact ⟨by first | rfl | (simp [Ak, Aj] <;> rfl) | (simp [*, Ak, Aj] <;> rfl), by repeat (first | (with_reducible first | exact HB.out | apply below_alloc | apply pw_below_drewN | apply below_drew1 | refine below_set ?_ GE0.out | refine below_set ?_ GE1.out) | exact HB.out)⟩
end Go.Proofs.YtkpieljmhgfofaaDoor.X

namespace Go.Proofs.YtkpieljmhgfofaaDoor.X
open Go.RowKit Go.Proofs.YtkpieljmhgfofaaDoorW.PrintWords Go.Proofs.YtkpieljmhgfofaaDoorW.PrintLast Go.Proofs.YtkpieljmhgfofaaDoorW.PrintMore
attribute [local go_sem] max2_int min2_int max_two min_two max_three min_three max_four min_four
open Go.Proofs.YtkpieljmhgfofaaDoorG
def Au.j0 : Nat → Bool → ByteArray → ByteArray → Int → ByteArray → ByteArray → Option (ByteArray × ByteArray × Int × Int)
  | 0, _, _, _, _, _, _ => none
  | k + 1, x13, x331000, x331001, x331002, x332000, x332001 => if x13 = true then (some (x331000, x331001, x331002, 1)) else (if x331002 = 60 then (some (x331000, x331001, x331002, 2)) else ((Ci.f k x331002 x332000 x332001).bind fun t335 => (if x331001.size + t335.size ≤ 9223372036854775807 then (some (x331000, x331001 ++ t335, wrap64 (x331002 + 1), 0)) else (none))))
def Au.f (k : Nat) (a0_0 : ByteArray) (a0_1 : ByteArray) (a0_2 : Int) (a1_0 : ByteArray) (a1_1 : ByteArray) : Option (ByteArray × ByteArray × Int × Int) := (Ed.f k a0_0 a0_1 a0_2).bind fun t333 => (if t333 = true then ((Dl.f k a1_0 a1_1).bind fun t334 => (Au.j0 k (!t334) a0_0 a0_1 a0_2 a1_0 a1_1)) else (Au.j0 k true a0_0 a0_1 a0_2 a1_0 a1_1))
theorem Au.Ej : ∀ k, (∀ y0 y1 y2 y3 y4 y5, LeO (Au.j0 k y0 y1 y2 y3 y4 y5) (Au.j0 (k + 1) y0 y1 y2 y3 y4 y5))
  | 0 => fun _ _ _ _ _ _ r h => by simp [Au.j0] at h
  | k + 1 => by
    have ih0 := Au.Ej k
    · intro y0 y1 y2 y3 y4 y5
      unfold Au.j0
      repeat' first
      | (with_reducible exact ih0 _ _ _ _ _ _)
      | (with_reducible exact Dl.mono _ _ _)
      | (with_reducible exact Ci.mono _ _ _ _)
      | (with_reducible exact Ed.mono _ _ _ _)
      | (with_reducible exact LeO.refl _)
      | (with_reducible exact LeO.none _)
      | (with_reducible refine LeO.ite ?_ ?_)
      | (with_reducible refine LeO.bind ?_ (fun _ => ?_))
      | exact ih0 _ _ _ _ _ _
      | exact Dl.mono _ _ _
      | exact Ci.mono _ _ _ _
      | exact Ed.mono _ _ _ _
      | exact LeO.none _
      | refine LeO.ite ?_ ?_
      | refine LeO.bind ?_ (fun _ => ?_)
theorem Au.mono : ∀ a0 a1 a2 a3 a4 k, LeO (Au.f k a0 a1 a2 a3 a4) (Au.f (k + 1) a0 a1 a2 a3 a4) := by
  intro a0 a1 a2 a3 a4 k
  have ih0 := Au.Ej k
  unfold Au.f
  repeat' first
      | (with_reducible exact ih0 _ _ _ _ _ _)
      | (with_reducible exact Dl.mono _ _ _)
      | (with_reducible exact Ci.mono _ _ _ _)
      | (with_reducible exact Ed.mono _ _ _ _)
      | (with_reducible exact LeO.refl _)
      | (with_reducible exact LeO.none _)
      | (with_reducible refine LeO.ite ?_ ?_)
      | (with_reducible refine LeO.bind ?_ (fun _ => ?_))
      | exact ih0 _ _ _ _ _ _
      | exact Dl.mono _ _ _
      | exact Ci.mono _ _ _ _
      | exact Ed.mono _ _ _ _
      | exact LeO.none _
      | refine LeO.ite ?_ ?_
      | refine LeO.bind ?_ (fun _ => ?_)
def Au.T5 : Bool × List (List Nat × List Nat) := (true, [([], []), ([0], [0]), ([], []), ([2], [2]), ([], []), ([3, 4], [3, 4]), ([1, 5], [1, 5]), ([0, 1, 2, 3, 4, 5, 6], []), ([7, 6, 5, 0, 1, 2, 3, 4, 5, 6], [6, 7])])
def Au.B5 : List Nat := [0, 1, 0, 4, 0, 28, 63, 127, 255]
theorem Au.tab5 : rtab .any (opsOf Tryd.f28 5) = Au.T5 := by kernel_rfl
theorem Au.bits5 : G7 Au.T5.2 Au.B5 = true := by kernel_rfl
set_option maxHeartbeats 8000000 in
set_option maxRecDepth 100000 in
theorem Au.calls (k : Nat) (a0_0 : ByteArray) (a0_1 : ByteArray) (a0_2 : Int) (a1_0 : ByteArray) (a1_1 : ByteArray) (r1 : ByteArray) (r2 : ByteArray) (r3 : Int) (r4 : Int) (w : World) (h : Au.f k a0_0 a0_1 a0_2 a1_0 a1_1 = some (r1, r2, r3, r4)) :
    Calls Tryd.prog 28 #[.agg #[.string a0_0, .string a0_1, .int .i64 a0_2], .agg #[.string a1_0, .string a1_1]] w fun e w' => e = .returned (.tuple #[.agg #[.string r1, .string r2, .int .i64 r3], .int .i64 r4]) ∧ Below w.heap.size w w' := by
  have hu31 := Tryd.underlying31
  have hu27 := Tryd.underlying27
  have HB := Aside0.mk (Below.refl w.heap.size w)
  have H : ((Ed.f k a0_0 a0_1 a0_2).bind fun t333 => (if t333 = true then ((Dl.f k a1_0 a1_1).bind fun t334 => (Au.j0 k (!t334) a0_0 a0_1 a0_2 a1_0 a1_1)) else (Au.j0 k true a0_0 a0_1 a0_2 a1_0 a1_1))) = some (r1, r2, r3, r4) := h
  clear h
  have HC3 := Aside0.mk H
  clear H
  go_enter Tryd.func28, Tryd.ntmps28
  go_upto_region 1 with (first | ((with_reducible refine Bd (N := 2) rfl ?_); refine Bc ?hg (N := 2) ?hd (cs := #[.string a0_0, .string a0_1, .int .i64 a0_2]) (t := 31) ?hr ?_; (case hd => rfl); (case hg => rfl); (case hr => first | (go_simp; done) | (go_simp; rfl)); intro gb0 hg w4 hbox hb; have n0_ := Aside0.mk (Ag Ya_ hb); have n1_ := Aside0.mk (hbox); have n2_ := Aside0.mk ((by rw [hg]; exact (Ah Ya_) : w.heap.size ≤ gb0)); have n3_ := Aside0.mk ((by rw [hg]; exact (Ah Ya_) : w.heap.size ≤ gb0)); clear HB; have HB := n0_; have BK0 := n1_; have GW0 := n2_; have GE0 := n3_; clear n0_ n1_ n2_ n3_; clear hb hbox hg) | ((with_reducible refine Bd (N := 3) rfl ?_); refine Bc ?hg (N := 3) ?hd (cs := #[.string a1_0, .string a1_1]) (t := 27) ?hr ?_; (case hd => rfl); (case hg => rfl); (case hr => first | (go_simp; done) | (go_simp; rfl)); intro gb1 hg w5 hbox hb; have n0_ := Aside0.mk (Ai (g := gb0) (o := .cells #[.string a0_0, .string a0_1, .int .i64 a0_2] 31 (0, 0)) Yd_ hb); have n1_ := Aside0.mk (Ag Yb_ hb); have n2_ := Aside0.mk (hbox); have n3_ := Aside0.mk ((by rw [hg]; exact (Ah Yb_) : w.heap.size ≤ gb1)); have n4_ := Aside0.mk ((by rw [hg]; exact (Ah Yb_) : w.heap.size ≤ gb1)); have n5_ := Aside0.mk ((by rw [hg]; exact Nat.ne_of_lt (Cf (g := gb0) (o := .cells #[.string a0_0, .string a0_1, .int .i64 a0_2] 31 (0, 0)) Yd_) : gb0 ≠ gb1)); have n6_ := Aside0.mk ((by rw [hg]; exact Nat.ne_of_gt (Cf (g := gb0) (o := .cells #[.string a0_0, .string a0_1, .int .i64 a0_2] 31 (0, 0)) Yd_) : gb1 ≠ gb0)); clear BK0; clear HB; have BK0 := n0_; have HB := n1_; have BK1 := n2_; have GW1 := n3_; have GE1 := n4_; have NB0_1 := n5_; have NB1_0 := n6_; clear n0_ n1_ n2_ n3_ n4_ n5_ n6_; clear hb hbox hg) | ((with_reducible refine Bd (N := 4) rfl ?_); refine Bc ?hg (N := 4) ?hd (cs := #[.string (⟨#[]⟩ : ByteArray), .string (⟨#[]⟩ : ByteArray), .int .i64 0]) (t := 31) ?hr ?_; (case hd => rfl); (case hg => rfl); (case hr => first | (go_simp; done) | (go_simp; rfl)); intro gb2 hg w6 hbox hb; have n0_ := Aside0.mk (Ai (g := gb0) (o := .cells #[.string a0_0, .string a0_1, .int .i64 a0_2] 31 (0, 0)) Yd_ hb); have n1_ := Aside0.mk (Ai (g := gb1) (o := .cells #[.string a1_0, .string a1_1] 27 (0, 0)) Ye_ hb); have n2_ := Aside0.mk (Ag Yf_ hb); have n3_ := Aside0.mk (hbox); have n4_ := Aside0.mk ((by rw [hg]; exact (Ah Yf_) : w.heap.size ≤ gb2)); have n5_ := Aside0.mk ((by rw [hg]; exact (Ah Yf_) : w.heap.size ≤ gb2)); have n6_ := Aside0.mk ((by rw [hg]; exact Nat.ne_of_lt (Cf (g := gb0) (o := .cells #[.string a0_0, .string a0_1, .int .i64 a0_2] 31 (0, 0)) Yd_) : gb0 ≠ gb2)); have n7_ := Aside0.mk ((by rw [hg]; exact Nat.ne_of_gt (Cf (g := gb0) (o := .cells #[.string a0_0, .string a0_1, .int .i64 a0_2] 31 (0, 0)) Yd_) : gb2 ≠ gb0)); have n8_ := Aside0.mk ((by rw [hg]; exact Nat.ne_of_lt (Cf (g := gb1) (o := .cells #[.string a1_0, .string a1_1] 27 (0, 0)) Ye_) : gb1 ≠ gb2)); have n9_ := Aside0.mk ((by rw [hg]; exact Nat.ne_of_gt (Cf (g := gb1) (o := .cells #[.string a1_0, .string a1_1] 27 (0, 0)) Ye_) : gb2 ≠ gb1)); clear BK0; clear BK1; clear HB; have BK0 := n0_; have BK1 := n1_; have HB := n2_; have BK2 := n3_; have GW2 := n4_; have GE2 := n5_; have NB0_2 := n6_; have NB2_0 := n7_; have NB1_2 := n8_; have NB2_1 := n9_; clear n0_ n1_ n2_ n3_ n4_ n5_ n6_ n7_ n8_ n9_; clear hb hbox hg))
  (try simp only [Act.put, List.setIfInBounds_toArray, List.set_cons_zero, List.set_cons_succ])
  go_cut [13] (fun v13 wc => ∃ (kq : Nat) (x13_2 : Bool), v13 = .bool x13_2 ∧ Aside0 (Au.j0 kq x13_2 a0_0 a0_1 a0_2 a1_0 a1_1 = some (r1, r2, r3, r4)) ∧ Aside0 (kq ≤ k) ∧ Aside0 (wc.heap[gb0]? = some (.cells #[.string a0_0, .string a0_1, .int .i64 a0_2] 31 (0, 0))) ∧ Aside0 (wc.heap[gb1]? = some (.cells #[.string a1_0, .string a1_1] 27 (0, 0))) ∧ Aside0 (wc.heap[gb2]? = some (.cells #[.string (⟨#[]⟩ : ByteArray), .string (⟨#[]⟩ : ByteArray), .int .i64 0] 31 (0, 0))) ∧ Aside0 (Below w.heap.size w wc))
  case first =>
    have H := HC3.out
    clear HC3
    replace H := Option.bind_eq_some_iff.mp H
    obtain ⟨t333, A70, H⟩ := H
    replace H : (if t333 = true then ((Dl.f k a1_0 a1_1).bind fun t334 => (Au.j0 k (!t334) a0_0 a0_1 a0_2 a1_0 a1_1)) else (Au.j0 k true a0_0 a0_1 a0_2 a1_0 a1_1)) = some (r1, r2, r3, r4) := H
    have A7 := Aside0.mk A70
    clear A70
    by_cases c8 : t333 = true
    · subst c8
      have H1 : ((Dl.f k a1_0 a1_1).bind fun t334 => (Au.j0 k (!t334) a0_0 a0_1 a0_2 a1_0 a1_1)) = some (r1, r2, r3, r4) := by rw [if_pos rfl] at H; exact H
      clear H
      have H := H1
      clear H1
      replace H := Option.bind_eq_some_iff.mp H
      obtain ⟨t334, A90, H⟩ := H
      replace H : (Au.j0 k (!t334) a0_0 a0_1 a0_2 a1_0 a1_1) = some (r1, r2, r3, r4) := H
      have A9 := Aside0.mk A90
      clear A90
      have H' := Aside0.mk H
      clear H
      have hnb10 := NB0_1.out
      have hnc10 := NB1_0.out
      have hnb11 := NB0_2.out
      have hnc11 := NB2_0.out
      have hcz12_0 : w6.cell? ⟨gb0, 0, none⟩ = some (.string a0_0) := (Ae BK0.out 0).trans rfl
      have hcz12_1 : w6.cell? ⟨gb0, 1, none⟩ = some (.string a0_1) := (Ae BK0.out 1).trans rfl
      have hcz12_2 : w6.cell? ⟨gb0, 2, none⟩ = some (.int .i64 a0_2) := (Ae BK0.out 2).trans rfl
      have hfz12_0 := Af BK0.out 0
      have hfz12_1 := Af BK0.out 1
      have hfz12_2 := Af BK0.out 2
      go_wp2_with (first | ((with_reducible refine Am (f := 49) rfl ?_); refine Be (some 7) rfl rfl Tryd.func49 (by kernel_rfl) rfl #[.agg #[.string a0_0, .string a0_1, .int .i64 a0_2]] rfl Yc_ ?_; (with_reducible refine (Ed.calls k a0_0 a0_1 a0_2 true _ A7.out).mono ?_); rintro e w13 ⟨rfl, hb⟩; refine ⟨_, rfl, ?_⟩; have n0_ := Aside0.mk (Ai (g := gb0) (o := .cells #[.string a0_0, .string a0_1, .int .i64 a0_2] 31 (0, 0)) Yd_ hb); have n1_ := Aside0.mk (Ai (g := gb1) (o := .cells #[.string a1_0, .string a1_1] 27 (0, 0)) Ye_ hb); have n2_ := Aside0.mk (Ai (g := gb2) (o := .cells #[.string (⟨#[]⟩ : ByteArray), .string (⟨#[]⟩ : ByteArray), .int .i64 0] 31 (0, 0)) Ybc_ hb); have n3_ := Aside0.mk (Ag Yj_ hb); clear BK0; clear BK1; clear BK2; clear HB; have BK0 := n0_; have BK1 := n1_; have BK2 := n2_; have HB := n3_; clear n0_ n1_ n2_ n3_; (try clear hb); (try clear hb2); (try clear hk); (try clear hi); have hnb14 := NB1_2.out; have hnc14 := NB2_1.out; have hcz15_0 : w13.cell? ⟨gb1, 0, none⟩ = some (.string a1_0) := (Ae BK1.out 0).trans rfl; have hcz15_1 : w13.cell? ⟨gb1, 1, none⟩ = some (.string a1_1) := (Ae BK1.out 1).trans rfl; have hfz15_0 := Af BK1.out 0; have hfz15_1 := Af BK1.out 1) | (go_at_call 43; (with_reducible refine (Dl.calls k a1_0 a1_1 t334 _ A9.out).mono ?_); rintro e w16 ⟨rfl, hb⟩; have n0_ := Aside0.mk (Ai (g := gb0) (o := .cells #[.string a0_0, .string a0_1, .int .i64 a0_2] 31 (0, 0)) Yd_ hb); have n1_ := Aside0.mk (Ai (g := gb1) (o := .cells #[.string a1_0, .string a1_1] 27 (0, 0)) Ye_ hb); have n2_ := Aside0.mk (Ai (g := gb2) (o := .cells #[.string (⟨#[]⟩ : ByteArray), .string (⟨#[]⟩ : ByteArray), .int .i64 0] 31 (0, 0)) Ybc_ hb); have n3_ := Aside0.mk (Ag Yj_ hb); clear BK0; clear BK1; clear BK2; clear HB; have BK0 := n0_; have BK1 := n1_; have BK2 := n2_; have HB := n3_; clear n0_ n1_ n2_ n3_; (try clear hb); (try clear hb2); (try clear hk); (try clear hi)))
      go_meet
      case rel => exact ⟨_, (!t334), Ybe_, H', ⟨by first | omega | exact Nat.le_refl _⟩, ⟨by (with_reducible repeat (first | refine Aa ?_ _ | refine Ad ?_ | refine Ac ?_ _)); exact BK0.out⟩, ⟨by (with_reducible repeat (first | refine Aa ?_ _ | refine Ad ?_ | refine Ac ?_ _)); exact BK1.out⟩, ⟨by (with_reducible repeat (first | refine Aa ?_ _ | refine Ad ?_ | refine Ac ?_ _)); exact BK2.out⟩, ⟨by repeat (first | (with_reducible first | exact HB.out | apply below_alloc | apply pw_below_drewN | apply below_drew1 | refine below_set ?_ GE0.out | refine below_set ?_ GE1.out | refine below_set ?_ GE2.out) | exact HB.out)⟩⟩
    · replace c8 := Bool.eq_false_iff.mpr c8
      subst c8
      have H1 : (Au.j0 k true a0_0 a0_1 a0_2 a1_0 a1_1) = some (r1, r2, r3, r4) := by rw [if_neg (show ¬ (false = true) by decide)] at H; exact H
      clear H
      have H := H1
      clear H1
      have H' := Aside0.mk H
      clear H
      have hnb17 := NB0_1.out
      have hnc17 := NB1_0.out
      have hnb18 := NB0_2.out
      have hnc18 := NB2_0.out
      have hcz19_0 : w6.cell? ⟨gb0, 0, none⟩ = some (.string a0_0) := (Ae BK0.out 0).trans rfl
      have hcz19_1 : w6.cell? ⟨gb0, 1, none⟩ = some (.string a0_1) := (Ae BK0.out 1).trans rfl
      have hcz19_2 : w6.cell? ⟨gb0, 2, none⟩ = some (.int .i64 a0_2) := (Ae BK0.out 2).trans rfl
      have hfz19_0 := Af BK0.out 0
      have hfz19_1 := Af BK0.out 1
      have hfz19_2 := Af BK0.out 2
      go_wp2_with (first | ((with_reducible refine Am (f := 49) rfl ?_); refine Be (some 7) rfl rfl Tryd.func49 (by kernel_rfl) rfl #[.agg #[.string a0_0, .string a0_1, .int .i64 a0_2]] rfl Yc_ ?_; (with_reducible refine (Ed.calls k a0_0 a0_1 a0_2 false _ A7.out).mono ?_); rintro e w20 ⟨rfl, hb⟩; refine ⟨_, rfl, ?_⟩; have n0_ := Aside0.mk (Ai (g := gb0) (o := .cells #[.string a0_0, .string a0_1, .int .i64 a0_2] 31 (0, 0)) Yd_ hb); have n1_ := Aside0.mk (Ai (g := gb1) (o := .cells #[.string a1_0, .string a1_1] 27 (0, 0)) Ye_ hb); have n2_ := Aside0.mk (Ai (g := gb2) (o := .cells #[.string (⟨#[]⟩ : ByteArray), .string (⟨#[]⟩ : ByteArray), .int .i64 0] 31 (0, 0)) Ybc_ hb); have n3_ := Aside0.mk (Ag Yj_ hb); clear BK0; clear BK1; clear BK2; clear HB; have BK0 := n0_; have BK1 := n1_; have BK2 := n2_; have HB := n3_; clear n0_ n1_ n2_ n3_; (try clear hb); (try clear hb2); (try clear hk); (try clear hi)))
      go_meet
      case rel => exact ⟨_, (true), Ybe_, H', ⟨by first | omega | exact Nat.le_refl _⟩, ⟨by (with_reducible repeat (first | refine Aa ?_ _ | refine Ad ?_ | refine Ac ?_ _)); exact BK0.out⟩, ⟨by (with_reducible repeat (first | refine Aa ?_ _ | refine Ad ?_ | refine Ac ?_ _)); exact BK1.out⟩, ⟨by (with_reducible repeat (first | refine Aa ?_ _ | refine Ad ?_ | refine Ac ?_ _)); exact BK2.out⟩, ⟨by repeat (first | (with_reducible first | exact HB.out | apply below_alloc | apply pw_below_drewN | apply below_drew1 | refine below_set ?_ GE0.out | refine below_set ?_ GE1.out | refine below_set ?_ GE2.out) | exact HB.out)⟩⟩
  case rest =>
    clear HC3
    try clear c1
    try clear c2
    try clear p2
    try clear c4
    try clear c8
    try clear c10
    try clear c11
    try clear c14
    try clear c17
    try clear c18
    try clear hcz12_0
    try clear hcz12_1
    try clear hcz12_2
    try clear hcz15_0
    try clear hcz15_1
    try clear hcz19_0
    try clear hcz19_1
    try clear hcz19_2
    try clear hfz12_0
    try clear hfz12_1
    try clear hfz12_2
    try clear hfz15_0
    try clear hfz15_1
    try clear hfz19_0
    try clear hfz19_1
    try clear hfz19_2
    obtain ⟨kq, x13_2, rfl, HA, HJ2, BK0, BK1, BK2, HB⟩ := hcut
    cases kq with
    | zero => exact absurd HA.out (by simp [Au.j0])
    | succ kj2 =>
      have H := HA.out
      clear HA
      simp only [Au.j0] at H
      by_cases c21 : x13_2 = true
      · subst c21
        have H1 : (some (a0_0, a0_1, a0_2, 1)) = some (r1, r2, r3, r4) := by rw [if_pos rfl] at H; exact H
        clear H
        have H := H1
        clear H1
        simp only [Option.some.injEq, Prod.mk.injEq] at H
        obtain ⟨rfl, rfl, rfl, rfl⟩ := H
        have hnb22 := NB0_1.out
        have hnc22 := NB1_0.out
        have hnb23 := NB0_2.out
        have hnc23 := NB2_0.out
        have hcz24_0 : wc.cell? ⟨gb0, 0, none⟩ = some (.string a0_0) := (Ae BK0.out 0).trans rfl
        have hcz24_1 : wc.cell? ⟨gb0, 1, none⟩ = some (.string a0_1) := (Ae BK0.out 1).trans rfl
        have hcz24_2 : wc.cell? ⟨gb0, 2, none⟩ = some (.int .i64 a0_2) := (Ae BK0.out 2).trans rfl
        have hfz24_0 := Af BK0.out 0
        have hfz24_1 := Af BK0.out 1
        have hfz24_2 := Af BK0.out 2
        have hnb25 := NB2_1.out
        have hnc25 := NB1_2.out
        have hcz26_0 : wc.cell? ⟨gb2, 0, none⟩ = some (.string (⟨#[]⟩ : ByteArray)) := (Ae BK2.out 0).trans rfl
        have hcz26_1 : wc.cell? ⟨gb2, 1, none⟩ = some (.string (⟨#[]⟩ : ByteArray)) := (Ae BK2.out 1).trans rfl
        have hcz26_2 : wc.cell? ⟨gb2, 2, none⟩ = some (.int .i64 0) := (Ae BK2.out 2).trans rfl
        have hfz26_0 := Af BK2.out 0
        have hfz26_1 := Af BK2.out 1
        have hfz26_2 := Af BK2.out 2
        go_wp2
        refine bodyPost_ret (F6 rfl _ _ gb2 31 #[.string a0_0, .string a0_1, .int .i64 a0_2] (0, 0) _ rfl Ybj_ Tryd.underlying31 rfl (by kernel_rfl)) rfl ?_
        exact ⟨by first | rfl | (simp [Ak, Aj] <;> rfl) | (simp [*, Ak, Aj] <;> rfl), by repeat (first | (with_reducible first | exact HB.out | apply below_alloc | apply pw_below_drewN | apply below_drew1 | refine below_set ?_ GE0.out | refine below_set ?_ GE1.out | refine below_set ?_ GE2.out) | exact HB.out)⟩
      · replace c21 := Bool.eq_false_iff.mpr c21
        subst c21
        have H1 : (if a0_2 = 60 then (some (a0_0, a0_1, a0_2, 2)) else ((Ci.f kj2 a0_2 a1_0 a1_1).bind fun t335 => (if a0_1.size + t335.size ≤ 9223372036854775807 then (some (a0_0, a0_1 ++ t335, wrap64 (a0_2 + 1), 0)) else (none)))) = some (r1, r2, r3, r4) := by rw [if_neg (show ¬ (false = true) by decide)] at H; exact H
        clear H
        have H := H1
        clear H1
        by_cases c27 : a0_2 = 60
        · rw [if_pos c27] at H
          have c27b0 : (a0_2 == 60) = true := beq_iff_eq.mpr c27
          have c27b1 : (a0_2 != 60) = false := bne_eq_false_iff_eq.mpr c27
          clear c27
          simp only [Option.some.injEq, Prod.mk.injEq] at H
          obtain ⟨rfl, rfl, rfl, rfl⟩ := H
          have hnb28 := NB0_1.out
          have hnc28 := NB1_0.out
          have hnb29 := NB0_2.out
          have hnc29 := NB2_0.out
          have hcz30_0 : wc.cell? ⟨gb0, 0, none⟩ = some (.string a0_0) := (Ae BK0.out 0).trans rfl
          have hcz30_1 : wc.cell? ⟨gb0, 1, none⟩ = some (.string a0_1) := (Ae BK0.out 1).trans rfl
          have hcz30_2 : wc.cell? ⟨gb0, 2, none⟩ = some (.int .i64 a0_2) := (Ae BK0.out 2).trans rfl
          have hfz30_0 := Af BK0.out 0
          have hfz30_1 := Af BK0.out 1
          have hfz30_2 := Af BK0.out 2
          have hnb31 := NB2_1.out
          have hnc31 := NB1_2.out
          have hcz32_0 : wc.cell? ⟨gb2, 0, none⟩ = some (.string (⟨#[]⟩ : ByteArray)) := (Ae BK2.out 0).trans rfl
          have hcz32_1 : wc.cell? ⟨gb2, 1, none⟩ = some (.string (⟨#[]⟩ : ByteArray)) := (Ae BK2.out 1).trans rfl
          have hcz32_2 : wc.cell? ⟨gb2, 2, none⟩ = some (.int .i64 0) := (Ae BK2.out 2).trans rfl
          have hfz32_0 := Af BK2.out 0
          have hfz32_1 := Af BK2.out 1
          have hfz32_2 := Af BK2.out 2
          go_wp2
          refine bodyPost_ret (F6 rfl _ _ gb2 31 #[.string a0_0, .string a0_1, .int .i64 a0_2] (0, 0) _ rfl Ybj_ Tryd.underlying31 rfl (by kernel_rfl)) rfl ?_
          exact ⟨by first | rfl | (simp [Ak, Aj] <;> rfl) | (simp [*, Ak, Aj] <;> rfl), by repeat (first | (with_reducible first | exact HB.out | apply below_alloc | apply pw_below_drewN | apply below_drew1 | refine below_set ?_ GE0.out | refine below_set ?_ GE1.out | refine below_set ?_ GE2.out) | exact HB.out)⟩
        · rw [if_neg c27] at H
          have c27b0 : (a0_2 == 60) = false := beq_eq_false_iff_ne.mpr c27
          have c27b1 : (a0_2 != 60) = true := bne_iff_ne.mpr c27
          replace H := Option.bind_eq_some_iff.mp H
          obtain ⟨t335, A330, H⟩ := H
          replace H : (if a0_1.size + t335.size ≤ 9223372036854775807 then (some (a0_0, a0_1 ++ t335, wrap64 (a0_2 + 1), 0)) else (none)) = some (r1, r2, r3, r4) := H
          have A33 := Aside0.mk A330
          clear A330
          by_cases c34 : a0_1.size + t335.size ≤ 9223372036854775807
          · rw [if_pos c34] at H
            have c34b0 := eq_true c34
            have c34b1 : decide (a0_1.size + t335.size ≤ 9223372036854775807) = true := decide_eq_true c34
            try have c34b2 : (9223372036854775807 < a0_1.size + t335.size) = False := eq_false (Nat.not_lt.2 c34)
            simp only [Option.some.injEq, Prod.mk.injEq] at H
            obtain ⟨rfl, rfl, rfl, rfl⟩ := H
            have hnb35 := NB0_1.out
            have hnc35 := NB1_0.out
            have hnb36 := NB0_2.out
            have hnc36 := NB2_0.out
            have hcz37_0 : wc.cell? ⟨gb0, 0, none⟩ = some (.string a0_0) := (Ae BK0.out 0).trans rfl
            have hcz37_1 : wc.cell? ⟨gb0, 1, none⟩ = some (.string a0_1) := (Ae BK0.out 1).trans rfl
            have hcz37_2 : wc.cell? ⟨gb0, 2, none⟩ = some (.int .i64 a0_2) := (Ae BK0.out 2).trans rfl
            have hfz37_0 := Af BK0.out 0
            have hfz37_1 := Af BK0.out 1
            have hfz37_2 := Af BK0.out 2
            try go_wp2
            have n0_ := Aside0.mk (Ad BK0.out)
            have n1_ := Aside0.mk (Ad BK1.out)
            have n2_ := Aside0.mk (Ad BK2.out)
            have n3_ := Aside0.mk (below_drew1 HB.out)
            clear BK0
            clear BK1
            clear BK2
            clear HB
            have BK0 := n0_
            have BK1 := n1_
            have BK2 := n2_
            have HB := n3_
            clear n0_ n1_ n2_ n3_
            refine G5 (n := 9) (S := fun w' => w'.cell? ⟨gb0, 0, none⟩ = some (.string a0_0) ∧ w'.cell? ⟨gb0, 1, none⟩ = some (.string a0_1) ∧ w'.cell? ⟨gb0, 2, none⟩ = some (.int .i64 a0_2) ∧ w'.cell? ⟨gb1, 0, none⟩ = some (.string a1_0) ∧ w'.cell? ⟨gb1, 1, none⟩ = some (.string a1_1)) (ds := [8]) #[false, false, false, false, false, false, false, false, false] (by kernel_rfl) rfl rfl ⟨(Ae BK0.out 0).trans rfl, (Ae BK0.out 1).trans rfl, (Ae BK0.out 2).trans rfl, (Ae BK1.out 0).trans rfl, (Ae BK1.out 1).trans rfl⟩ (fun hHeld => ?_); refine Gf Au.tab5 Au.bits5 (fun HT_ HW_ => ?_)
            generalize wc.drew = w38 at BK0 BK1 BK2 HB hHeld ⊢
            refine Bz (i := 0) (N := some 19) (v := ?_) (a' := ?_) #[true, false, false, false, false, false, false, false, false] rfl rfl (Bf HT_.out (by kernel_rfl)) (fun _ _ _ h => h) (Or.inl ⟨by rfl, ?_⟩) ?_ ?_
            rotate_left
            · intro w'
              go_simp
              with_reducible rfl
            rotate_left
            · simp only [Act.put, List.setIfInBounds_toArray, List.set_cons_zero, List.set_cons_succ, Aw, Az]
              rfl
            refine Bz (i := 2) (N := some 21) (v := ?_) (a' := ?_) #[true, false, true, false, false, false, false, false, false] rfl rfl (Bf HT_.out (by kernel_rfl)) (fun _ _ _ h => h) (Or.inl ⟨by rfl, ?_⟩) ?_ ?_
            rotate_left
            · intro w'
              go_simp
              with_reducible rfl
            rotate_left
            · simp only [Act.put, List.setIfInBounds_toArray, List.set_cons_zero, List.set_cons_succ, Aw, Az]
              rfl
            refine E8 (i := 1) (N := some 20) (v := ?_) (a' := ?_) #[true, true, true, false, false, false, false, false, false] rfl rfl (Ea HT_.out HW_.out (by kernel_rfl)) (fun _ _ _ h => h) (Or.inl ⟨by rfl, ?_⟩) hHeld ?_ ?_
            rotate_left
            · rintro w' ⟨s0, s1, s2, s3, s4⟩
              go_simp
              with_reducible rfl
            rotate_left
            · simp only [Act.put, List.setIfInBounds_toArray, List.set_cons_zero, List.set_cons_succ, Aw, Az]
              rfl
            refine E8 (i := 3) (N := some 22) (v := ?_) (a' := ?_) #[true, true, true, true, false, false, false, false, false] rfl rfl (Ea HT_.out HW_.out (by kernel_rfl)) (fun _ _ _ h => h) (Or.inl ⟨by rfl, ?_⟩) hHeld ?_ ?_
            rotate_left
            · rintro w' ⟨s0, s1, s2, s3, s4⟩
              go_simp
              with_reducible rfl
            rotate_left
            · simp only [Act.put, List.setIfInBounds_toArray, List.set_cons_zero, List.set_cons_succ, Aw, Az]
              rfl
            refine E8 (i := 4) (N := some 23) (v := ?_) (a' := ?_) #[true, true, true, true, true, false, false, false, false] rfl rfl (Ea HT_.out HW_.out (by kernel_rfl)) (fun _ _ _ h => h) (Or.inl ⟨by rfl, ?_⟩) hHeld ?_ ?_
            rotate_left
            · rintro w' ⟨s0, s1, s2, s3, s4⟩
              go_simp
              with_reducible rfl
            rotate_left
            · simp only [Act.put, List.setIfInBounds_toArray, List.set_cons_zero, List.set_cons_succ, Aw, Az]
              rfl
            refine one_ (i := 5) (N := some 24) #[true, true, true, true, true, true, false, false, false] rfl rfl (Fp HT_.out (by kernel_rfl)) (by decide) (fun K hK => ?_)
            refine Gl Tryd.func44 (by kernel_rfl) rfl #[.int .i64 a0_2, .agg #[.string a1_0, .string a1_1]] (by rfl) rfl rfl Yc_ ?_
            with_reducible refine (Ci.calls kj2 a0_2 a1_0 a1_1 t335 _ A33.out).mono ?_
            rintro e w39 ⟨rfl, hb⟩
            refine ⟨_, rfl, ?_⟩
            have n0_ := Aside0.mk (Ai (g := gb0) (o := .cells #[.string a0_0, .string a0_1, .int .i64 a0_2] 31 (0, 0)) Yd_ hb)
            have n1_ := Aside0.mk (Ai (g := gb1) (o := .cells #[.string a1_0, .string a1_1] 27 (0, 0)) Ye_ hb)
            have n2_ := Aside0.mk (Ai (g := gb2) (o := .cells #[.string (⟨#[]⟩ : ByteArray), .string (⟨#[]⟩ : ByteArray), .int .i64 0] 31 (0, 0)) Ybc_ hb)
            have n3_ := Aside0.mk (Ag Yj_ hb)
            clear BK0
            clear BK1
            clear BK2
            clear HB
            have BK0 := n0_
            have BK1 := n1_
            have BK2 := n2_
            have HB := n3_
            clear n0_ n1_ n2_ n3_
            (try clear hb)
            (try clear hb2)
            (try clear hk)
            (try clear hi)
            refine hK.out _ _ ⟨(Ae BK0.out 0).trans rfl, (Ae BK0.out 1).trans rfl, (Ae BK0.out 2).trans rfl, (Ae BK1.out 0).trans rfl, (Ae BK1.out 1).trans rfl⟩ (fun hHeld => ?_)
            clear hK K
            refine Gp (a' := ?_) ?_ ?_
            rotate_left
            · show Act.put _ (some 24) _ = _
              simp only [Act.put, List.setIfInBounds_toArray, List.set_cons_zero, List.set_cons_succ, Aw, Az]
              rfl
            refine Bz (i := 6) (N := some 25) (v := ?_) (a' := ?_) #[true, true, true, true, true, true, true, false, false] rfl rfl (Bf HT_.out (by kernel_rfl)) (fun _ _ _ h => h) (Or.inl ⟨by rfl, ?_⟩) ?_ ?_
            rotate_left
            · intro w'
              go_simp
              with_reducible rfl
            rotate_left
            · simp only [Act.put, List.setIfInBounds_toArray, List.set_cons_zero, List.set_cons_succ, Aw, Az]
              rfl
            refine Bz (i := 7) (N := some 26) (v := ?_) (a' := ?_) #[true, true, true, true, true, true, true, true, false] rfl rfl (Bf HT_.out (by kernel_rfl)) (fun _ _ _ h => h) (Or.inl ⟨by rfl, ?_⟩) ?_ ?_
            rotate_left
            · intro w'
              go_simp
              with_reducible rfl
            rotate_left
            · simp only [Act.put, List.setIfInBounds_toArray, List.set_cons_zero, List.set_cons_succ, Aw, Az]
              rfl
            refine last_ (i := 8) (N := none) #[true, true, true, true, true, true, true, true, true] rfl rfl (Fp HT_.out (by kernel_rfl)) (by decide) (fun K hK => ?_)
            have hs40 : w39.cell? ⟨gb0, 1, none⟩ = some (.string a0_1) := (Ae BK0.out 1).trans rfl
            have hfs40 := Af BK0.out 1
            have hns40_1 := NB1_0.out
            have hns40_2 := NB2_0.out
            have hms40_1 := NB0_1.out
            have hms40_2 := NB0_2.out
            refine skip_ (w1 := ?_) (by rfl) rfl ?_ ?_
            rotate_left
            · go_simp
              rfl
            refine hK.out _ _ ?_
            clear hK K
            refine done_ (Gy HT_.out (by kernel_rfl)) ?_
            have hcz41_0 : w39.cell? ⟨gb0, 0, none⟩ = some (.string a0_0) := (Ae BK0.out 0).trans rfl
            have hcz41_1 : w39.cell? ⟨gb0, 1, none⟩ = some (.string a0_1) := (Ae BK0.out 1).trans rfl
            have hcz41_2 : w39.cell? ⟨gb0, 2, none⟩ = some (.int .i64 a0_2) := (Ae BK0.out 2).trans rfl
            have hfz41_0 := Af BK0.out 0
            have hfz41_1 := Af BK0.out 1
            have hfz41_2 := Af BK0.out 2
            have hnb42 := NB2_1.out
            have hnc42 := NB1_2.out
            have hcz43_0 : w39.cell? ⟨gb2, 0, none⟩ = some (.string (⟨#[]⟩ : ByteArray)) := (Ae BK2.out 0).trans rfl
            have hcz43_1 : w39.cell? ⟨gb2, 1, none⟩ = some (.string (⟨#[]⟩ : ByteArray)) := (Ae BK2.out 1).trans rfl
            have hcz43_2 : w39.cell? ⟨gb2, 2, none⟩ = some (.int .i64 0) := (Ae BK2.out 2).trans rfl
            have hfz43_0 := Af BK2.out 0
            have hfz43_1 := Af BK2.out 1
            have hfz43_2 := Af BK2.out 2
            try go_wp2
            refine bodyPost_ret (F6 rfl _ _ gb2 31 #[.string a0_0, .string (a0_1 ++ t335), .int .i64 (wrap64 (a0_2 + 1))] (0, 0) _ rfl (by (with_reducible repeat (first | refine Aa ?_ _ | refine Ad ?_ | refine Ac ?_ _)); refine Ar (cs := #[.string a0_0, .string (a0_1 ++ t335), .int .i64 0]) ?_ 2 _ rfl; (with_reducible repeat (first | refine Aa ?_ _ | refine Ad ?_ | refine Ac ?_ _)); refine Ar (cs := #[.string a0_0, .string (⟨#[]⟩ : ByteArray), .int .i64 0]) ?_ 1 _ rfl; (with_reducible repeat (first | refine Aa ?_ _ | refine Ad ?_ | refine Ac ?_ _)); refine Ar (cs := #[.string (⟨#[]⟩ : ByteArray), .string (⟨#[]⟩ : ByteArray), .int .i64 0]) ?_ 0 _ rfl; (with_reducible repeat (first | refine Aa ?_ _ | refine Ad ?_ | refine Ac ?_ _)); refine Aq ?_ NB2_0.out _; (with_reducible repeat (first | refine Aa ?_ _ | refine Ad ?_ | refine Ac ?_ _)); refine Aq ?_ NB2_0.out _; (with_reducible repeat (first | refine Aa ?_ _ | refine Ad ?_ | refine Ac ?_ _)); exact BK2.out) Tryd.underlying31 rfl (by kernel_rfl)) rfl ?_
            exact ⟨by first | rfl | (simp [Ak, Aj] <;> rfl) | (simp [*, Ak, Aj] <;> rfl), by repeat (first | (with_reducible first | exact HB.out | apply below_alloc | apply pw_below_drewN | apply below_drew1 | refine below_set ?_ GE0.out | refine below_set ?_ GE1.out | refine below_set ?_ GE2.out) | exact HB.out)⟩
          · rw [if_neg c34] at H
            exact absurd H (by simp)
end Go.Proofs.YtkpieljmhgfofaaDoor.X

namespace Go.Proofs.YtkpieljmhgfofaaDoor.X
open Go.RowKit Go.Proofs.YtkpieljmhgfofaaDoorW.PrintWords Go.Proofs.YtkpieljmhgfofaaDoorW.PrintLast Go.Proofs.YtkpieljmhgfofaaDoorW.PrintMore
attribute [local go_sem] max2_int min2_int max_two min_two max_three min_three max_four min_four
open Go.Proofs.YtkpieljmhgfofaaDoorG
def Bg.j0 : Nat → Bool → ByteArray → ByteArray → Int → ByteArray → ByteArray → Option (ByteArray × ByteArray × Int × Int)
  | 0, _, _, _, _, _, _ => none
  | k + 1, x6, x337000, x337001, x337002, x338000, x338001 => if x6 = true then (some (x337000, x337001, x337002, 1)) else (if x337002 = 60 then (some (x337000, x337001, x337002, 2)) else ((Bq.f k x337002 x338000 x338001).bind fun t341 => (if x337001.size + t341.size ≤ 9223372036854775807 then (some (x337000, x337001 ++ t341, wrap64 (x337002 + 1), 0)) else (none))))
def Bg.f (k : Nat) (a0_0 : ByteArray) (a0_1 : ByteArray) (a0_2 : Int) (a1_0 : ByteArray) (a1_1 : ByteArray) : Option (ByteArray × ByteArray × Int × Int) := (Cj.f k a0_0 a0_1 a0_2).bind fun t339 => (if t339 = true then ((Ba.f k a1_0 a1_1).bind fun t340 => (Bg.j0 k (!t340) a0_0 a0_1 a0_2 a1_0 a1_1)) else (Bg.j0 k true a0_0 a0_1 a0_2 a1_0 a1_1))
theorem Bg.Ej : ∀ k, (∀ y0 y1 y2 y3 y4 y5, LeO (Bg.j0 k y0 y1 y2 y3 y4 y5) (Bg.j0 (k + 1) y0 y1 y2 y3 y4 y5))
  | 0 => fun _ _ _ _ _ _ r h => by simp [Bg.j0] at h
  | k + 1 => by
    have ih0 := Bg.Ej k
    · intro y0 y1 y2 y3 y4 y5
      unfold Bg.j0
      repeat' first
      | (with_reducible exact ih0 _ _ _ _ _ _)
      | (with_reducible exact Cj.mono _ _ _ _)
      | (with_reducible exact Ba.mono _ _ _)
      | (with_reducible exact Bq.mono _ _ _ _)
      | (with_reducible exact LeO.refl _)
      | (with_reducible exact LeO.none _)
      | (with_reducible refine LeO.ite ?_ ?_)
      | (with_reducible refine LeO.bind ?_ (fun _ => ?_))
      | exact ih0 _ _ _ _ _ _
      | exact Cj.mono _ _ _ _
      | exact Ba.mono _ _ _
      | exact Bq.mono _ _ _ _
      | exact LeO.none _
      | refine LeO.ite ?_ ?_
      | refine LeO.bind ?_ (fun _ => ?_)
theorem Bg.mono : ∀ a0 a1 a2 a3 a4 k, LeO (Bg.f k a0 a1 a2 a3 a4) (Bg.f (k + 1) a0 a1 a2 a3 a4) := by
  intro a0 a1 a2 a3 a4 k
  have ih0 := Bg.Ej k
  unfold Bg.f
  repeat' first
      | (with_reducible exact ih0 _ _ _ _ _ _)
      | (with_reducible exact Cj.mono _ _ _ _)
      | (with_reducible exact Ba.mono _ _ _)
      | (with_reducible exact Bq.mono _ _ _ _)
      | (with_reducible exact LeO.refl _)
      | (with_reducible exact LeO.none _)
      | (with_reducible refine LeO.ite ?_ ?_)
      | (with_reducible refine LeO.bind ?_ (fun _ => ?_))
      | exact ih0 _ _ _ _ _ _
      | exact Cj.mono _ _ _ _
      | exact Ba.mono _ _ _
      | exact Bq.mono _ _ _ _
      | exact LeO.none _
      | refine LeO.ite ?_ ?_
      | refine LeO.bind ?_ (fun _ => ?_)
def Bg.T5 : Bool × List (List Nat × List Nat) := (true, [([], []), ([0], [0]), ([], []), ([2], [2]), ([], []), ([4], [4]), ([], []), ([5, 6], [5, 6]), ([3, 7], [3, 7]), ([], []), ([9], [9]), ([10], [10]), ([1, 8, 11], [1, 8, 11]), ([12, 7, 0, 1, 2, 3, 4, 5, 6, 7, 8, 9, 10, 11, 12], [12]), ([13, 0, 1, 2, 3, 4, 5, 6, 7, 8, 9, 10, 11, 12, 13], [])])
def Bg.B5 : List Nat := [0, 1, 0, 4, 0, 16, 0, 112, 252, 0, 512, 1536, 4095, 8191, 16383]
theorem Bg.tab5 : rtab .any (opsOf Tryd.f29 5) = Bg.T5 := by kernel_rfl
theorem Bg.bits5 : G7 Bg.T5.2 Bg.B5 = true := by kernel_rfl
set_option maxHeartbeats 8000000 in
set_option maxRecDepth 100000 in
theorem Bg.calls (k : Nat) (a0_0 : ByteArray) (a0_1 : ByteArray) (a0_2 : Int) (a1_0 : ByteArray) (a1_1 : ByteArray) (r1 : ByteArray) (r2 : ByteArray) (r3 : Int) (r4 : Int) (w : World) (hG : Eg w) (h : Bg.f k a0_0 a0_1 a0_2 a1_0 a1_1 = some (r1, r2, r3, r4)) :
    Calls Tryd.prog 29 #[.agg #[.string a0_0, .string a0_1, .int .i64 a0_2], .agg #[.string a1_0, .string a1_1]] w fun e w' => e = .returned (.tuple #[.agg #[.string r1, .string r2, .int .i64 r3], .int .i64 r4]) ∧ Below w.heap.size w w' := by
  have hu31 := Tryd.underlying31
  have hu27 := Tryd.underlying27
  have HGL := Aside0.mk hG
  clear hG
  have HB := Aside0.mk (Below.refl w.heap.size w)
  have H : ((Cj.f k a0_0 a0_1 a0_2).bind fun t339 => (if t339 = true then ((Ba.f k a1_0 a1_1).bind fun t340 => (Bg.j0 k (!t340) a0_0 a0_1 a0_2 a1_0 a1_1)) else (Bg.j0 k true a0_0 a0_1 a0_2 a1_0 a1_1))) = some (r1, r2, r3, r4) := h
  clear h
  have HC3 := Aside0.mk H
  clear H
  go_enter Tryd.func29, Tryd.ntmps29
  go_upto_region 1 with (first | ((with_reducible refine Bd (N := 2) rfl ?_); refine Bc ?hg (N := 2) ?hd (cs := #[.string a0_0, .string a0_1, .int .i64 a0_2]) (t := 31) ?hr ?_; (case hd => rfl); (case hg => rfl); (case hr => first | (go_simp; done) | (go_simp; rfl)); intro gb0 hg w4 hbox hb; have n0_ := Aside0.mk (Ag Ya_ hb); have n1_ := Aside0.mk (hbox); have n2_ := Aside0.mk ((by rw [hg]; exact (Ah Ya_) : w.heap.size ≤ gb0)); have n3_ := Aside0.mk ((by rw [hg]; exact (Ah Ya_) : w.heap.size ≤ gb0)); clear HB; have HB := n0_; have BK0 := n1_; have GW0 := n2_; have GE0 := n3_; clear n0_ n1_ n2_ n3_; clear hb hbox hg) | ((with_reducible refine Bd (N := 3) rfl ?_); refine Bc ?hg (N := 3) ?hd (cs := #[.string a1_0, .string a1_1]) (t := 27) ?hr ?_; (case hd => rfl); (case hg => rfl); (case hr => first | (go_simp; done) | (go_simp; rfl)); intro gb1 hg w5 hbox hb; have n0_ := Aside0.mk (Ai (g := gb0) (o := .cells #[.string a0_0, .string a0_1, .int .i64 a0_2] 31 (0, 0)) Yd_ hb); have n1_ := Aside0.mk (Ag Yb_ hb); have n2_ := Aside0.mk (hbox); have n3_ := Aside0.mk ((by rw [hg]; exact (Ah Yb_) : w.heap.size ≤ gb1)); have n4_ := Aside0.mk ((by rw [hg]; exact (Ah Yb_) : w.heap.size ≤ gb1)); have n5_ := Aside0.mk ((by rw [hg]; exact Nat.ne_of_lt (Cf (g := gb0) (o := .cells #[.string a0_0, .string a0_1, .int .i64 a0_2] 31 (0, 0)) Yd_) : gb0 ≠ gb1)); have n6_ := Aside0.mk ((by rw [hg]; exact Nat.ne_of_gt (Cf (g := gb0) (o := .cells #[.string a0_0, .string a0_1, .int .i64 a0_2] 31 (0, 0)) Yd_) : gb1 ≠ gb0)); clear BK0; clear HB; have BK0 := n0_; have HB := n1_; have BK1 := n2_; have GW1 := n3_; have GE1 := n4_; have NB0_1 := n5_; have NB1_0 := n6_; clear n0_ n1_ n2_ n3_ n4_ n5_ n6_; clear hb hbox hg) | ((with_reducible refine Bd (N := 4) rfl ?_); refine Bc ?hg (N := 4) ?hd (cs := #[.string (⟨#[]⟩ : ByteArray), .string (⟨#[]⟩ : ByteArray), .int .i64 0]) (t := 31) ?hr ?_; (case hd => rfl); (case hg => rfl); (case hr => first | (go_simp; done) | (go_simp; rfl)); intro gb2 hg w6 hbox hb; have n0_ := Aside0.mk (Ai (g := gb0) (o := .cells #[.string a0_0, .string a0_1, .int .i64 a0_2] 31 (0, 0)) Yd_ hb); have n1_ := Aside0.mk (Ai (g := gb1) (o := .cells #[.string a1_0, .string a1_1] 27 (0, 0)) Ye_ hb); have n2_ := Aside0.mk (Ag Yf_ hb); have n3_ := Aside0.mk (hbox); have n4_ := Aside0.mk ((by rw [hg]; exact (Ah Yf_) : w.heap.size ≤ gb2)); have n5_ := Aside0.mk ((by rw [hg]; exact (Ah Yf_) : w.heap.size ≤ gb2)); have n6_ := Aside0.mk ((by rw [hg]; exact Nat.ne_of_lt (Cf (g := gb0) (o := .cells #[.string a0_0, .string a0_1, .int .i64 a0_2] 31 (0, 0)) Yd_) : gb0 ≠ gb2)); have n7_ := Aside0.mk ((by rw [hg]; exact Nat.ne_of_gt (Cf (g := gb0) (o := .cells #[.string a0_0, .string a0_1, .int .i64 a0_2] 31 (0, 0)) Yd_) : gb2 ≠ gb0)); have n8_ := Aside0.mk ((by rw [hg]; exact Nat.ne_of_lt (Cf (g := gb1) (o := .cells #[.string a1_0, .string a1_1] 27 (0, 0)) Ye_) : gb1 ≠ gb2)); have n9_ := Aside0.mk ((by rw [hg]; exact Nat.ne_of_gt (Cf (g := gb1) (o := .cells #[.string a1_0, .string a1_1] 27 (0, 0)) Ye_) : gb2 ≠ gb1)); clear BK0; clear BK1; clear HB; have BK0 := n0_; have BK1 := n1_; have HB := n2_; have BK2 := n3_; have GW2 := n4_; have GE2 := n5_; have NB0_2 := n6_; have NB2_0 := n7_; have NB1_2 := n8_; have NB2_1 := n9_; clear n0_ n1_ n2_ n3_ n4_ n5_ n6_ n7_ n8_ n9_; clear hb hbox hg))
  (try simp only [Act.put, List.setIfInBounds_toArray, List.set_cons_zero, List.set_cons_succ])
  go_cut [6] (fun v6 wc => ∃ (kq : Nat) (x6_2 : Bool), v6 = .bool x6_2 ∧ Aside0 (Bg.j0 kq x6_2 a0_0 a0_1 a0_2 a1_0 a1_1 = some (r1, r2, r3, r4)) ∧ Aside0 (kq ≤ k) ∧ Aside0 (wc.heap[gb0]? = some (.cells #[.string a0_0, .string a0_1, .int .i64 a0_2] 31 (0, 0))) ∧ Aside0 (wc.heap[gb1]? = some (.cells #[.string a1_0, .string a1_1] 27 (0, 0))) ∧ Aside0 (wc.heap[gb2]? = some (.cells #[.string (⟨#[]⟩ : ByteArray), .string (⟨#[]⟩ : ByteArray), .int .i64 0] 31 (0, 0))) ∧ Aside0 (Below w.heap.size w wc))
  case first =>
    have H := HC3.out
    clear HC3
    replace H := Option.bind_eq_some_iff.mp H
    obtain ⟨t339, A70, H⟩ := H
    replace H : (if t339 = true then ((Ba.f k a1_0 a1_1).bind fun t340 => (Bg.j0 k (!t340) a0_0 a0_1 a0_2 a1_0 a1_1)) else (Bg.j0 k true a0_0 a0_1 a0_2 a1_0 a1_1)) = some (r1, r2, r3, r4) := H
    have A7 := Aside0.mk A70
    clear A70
    by_cases c8 : t339 = true
    · subst c8
      have H1 : ((Ba.f k a1_0 a1_1).bind fun t340 => (Bg.j0 k (!t340) a0_0 a0_1 a0_2 a1_0 a1_1)) = some (r1, r2, r3, r4) := by rw [if_pos rfl] at H; exact H
      clear H
      have H := H1
      clear H1
      replace H := Option.bind_eq_some_iff.mp H
      obtain ⟨t340, A90, H⟩ := H
      replace H : (Bg.j0 k (!t340) a0_0 a0_1 a0_2 a1_0 a1_1) = some (r1, r2, r3, r4) := H
      have A9 := Aside0.mk A90
      clear A90
      have H' := Aside0.mk H
      clear H
      have hnb10 := NB0_1.out
      have hnc10 := NB1_0.out
      have hnb11 := NB0_2.out
      have hnc11 := NB2_0.out
      have hcz12_0 : w6.cell? ⟨gb0, 0, none⟩ = some (.string a0_0) := (Ae BK0.out 0).trans rfl
      have hcz12_1 : w6.cell? ⟨gb0, 1, none⟩ = some (.string a0_1) := (Ae BK0.out 1).trans rfl
      have hcz12_2 : w6.cell? ⟨gb0, 2, none⟩ = some (.int .i64 a0_2) := (Ae BK0.out 2).trans rfl
      have hfz12_0 := Af BK0.out 0
      have hfz12_1 := Af BK0.out 1
      have hfz12_2 := Af BK0.out 2
      go_wp2_with (first | ((with_reducible refine Am (f := 23) rfl ?_); refine Be (some 8) rfl rfl Tryd.func23 (by kernel_rfl) rfl #[.agg #[.string a0_0, .string a0_1, .int .i64 a0_2]] rfl Yc_ ?_; (with_reducible refine (Cj.calls k a0_0 a0_1 a0_2 true _ ?side1 A7.out).mono ?_); (case side1 => exact Eg.below HGL.out Yj_); rintro e w13 ⟨rfl, hb⟩; refine ⟨_, rfl, ?_⟩; have n0_ := Aside0.mk (Ai (g := gb0) (o := .cells #[.string a0_0, .string a0_1, .int .i64 a0_2] 31 (0, 0)) Yd_ hb); have n1_ := Aside0.mk (Ai (g := gb1) (o := .cells #[.string a1_0, .string a1_1] 27 (0, 0)) Ye_ hb); have n2_ := Aside0.mk (Ai (g := gb2) (o := .cells #[.string (⟨#[]⟩ : ByteArray), .string (⟨#[]⟩ : ByteArray), .int .i64 0] 31 (0, 0)) Ybc_ hb); have n3_ := Aside0.mk (Ag Yj_ hb); clear BK0; clear BK1; clear BK2; clear HB; have BK0 := n0_; have BK1 := n1_; have BK2 := n2_; have HB := n3_; clear n0_ n1_ n2_ n3_; (try clear hb); (try clear hb2); (try clear hk); (try clear hi); have hnb14 := NB1_2.out; have hnc14 := NB2_1.out; have hcz15_0 : w13.cell? ⟨gb1, 0, none⟩ = some (.string a1_0) := (Ae BK1.out 0).trans rfl; have hcz15_1 : w13.cell? ⟨gb1, 1, none⟩ = some (.string a1_1) := (Ae BK1.out 1).trans rfl; have hfz15_0 := Af BK1.out 0; have hfz15_1 := Af BK1.out 1) | (go_at_call 37; (with_reducible refine (Ba.calls k a1_0 a1_1 t340 _ A9.out).mono ?_); rintro e w16 ⟨rfl, hb⟩; have n0_ := Aside0.mk (Ai (g := gb0) (o := .cells #[.string a0_0, .string a0_1, .int .i64 a0_2] 31 (0, 0)) Yd_ hb); have n1_ := Aside0.mk (Ai (g := gb1) (o := .cells #[.string a1_0, .string a1_1] 27 (0, 0)) Ye_ hb); have n2_ := Aside0.mk (Ai (g := gb2) (o := .cells #[.string (⟨#[]⟩ : ByteArray), .string (⟨#[]⟩ : ByteArray), .int .i64 0] 31 (0, 0)) Ybc_ hb); have n3_ := Aside0.mk (Ag Yj_ hb); clear BK0; clear BK1; clear BK2; clear HB; have BK0 := n0_; have BK1 := n1_; have BK2 := n2_; have HB := n3_; clear n0_ n1_ n2_ n3_; (try clear hb); (try clear hb2); (try clear hk); (try clear hi)))
      go_meet
      case rel => exact ⟨_, (!t340), Ybe_, H', ⟨by first | omega | exact Nat.le_refl _⟩, ⟨by (with_reducible repeat (first | refine Aa ?_ _ | refine Ad ?_ | refine Ac ?_ _)); exact BK0.out⟩, ⟨by (with_reducible repeat (first | refine Aa ?_ _ | refine Ad ?_ | refine Ac ?_ _)); exact BK1.out⟩, ⟨by (with_reducible repeat (first | refine Aa ?_ _ | refine Ad ?_ | refine Ac ?_ _)); exact BK2.out⟩, ⟨by repeat (first | (with_reducible first | exact HB.out | apply below_alloc | apply pw_below_drewN | apply below_drew1 | refine below_set ?_ GE0.out | refine below_set ?_ GE1.out | refine below_set ?_ GE2.out) | exact HB.out)⟩⟩
    · replace c8 := Bool.eq_false_iff.mpr c8
      subst c8
      have H1 : (Bg.j0 k true a0_0 a0_1 a0_2 a1_0 a1_1) = some (r1, r2, r3, r4) := by rw [if_neg (show ¬ (false = true) by decide)] at H; exact H
      clear H
      have H := H1
      clear H1
      have H' := Aside0.mk H
      clear H
      have hnb17 := NB0_1.out
      have hnc17 := NB1_0.out
      have hnb18 := NB0_2.out
      have hnc18 := NB2_0.out
      have hcz19_0 : w6.cell? ⟨gb0, 0, none⟩ = some (.string a0_0) := (Ae BK0.out 0).trans rfl
      have hcz19_1 : w6.cell? ⟨gb0, 1, none⟩ = some (.string a0_1) := (Ae BK0.out 1).trans rfl
      have hcz19_2 : w6.cell? ⟨gb0, 2, none⟩ = some (.int .i64 a0_2) := (Ae BK0.out 2).trans rfl
      have hfz19_0 := Af BK0.out 0
      have hfz19_1 := Af BK0.out 1
      have hfz19_2 := Af BK0.out 2
      go_wp2_with (first | ((with_reducible refine Am (f := 23) rfl ?_); refine Be (some 8) rfl rfl Tryd.func23 (by kernel_rfl) rfl #[.agg #[.string a0_0, .string a0_1, .int .i64 a0_2]] rfl Yc_ ?_; (with_reducible refine (Cj.calls k a0_0 a0_1 a0_2 false _ ?side1 A7.out).mono ?_); (case side1 => exact Eg.below HGL.out Yj_); rintro e w20 ⟨rfl, hb⟩; refine ⟨_, rfl, ?_⟩; have n0_ := Aside0.mk (Ai (g := gb0) (o := .cells #[.string a0_0, .string a0_1, .int .i64 a0_2] 31 (0, 0)) Yd_ hb); have n1_ := Aside0.mk (Ai (g := gb1) (o := .cells #[.string a1_0, .string a1_1] 27 (0, 0)) Ye_ hb); have n2_ := Aside0.mk (Ai (g := gb2) (o := .cells #[.string (⟨#[]⟩ : ByteArray), .string (⟨#[]⟩ : ByteArray), .int .i64 0] 31 (0, 0)) Ybc_ hb); have n3_ := Aside0.mk (Ag Yj_ hb); clear BK0; clear BK1; clear BK2; clear HB; have BK0 := n0_; have BK1 := n1_; have BK2 := n2_; have HB := n3_; clear n0_ n1_ n2_ n3_; (try clear hb); (try clear hb2); (try clear hk); (try clear hi)))
      go_meet
      case rel => exact ⟨_, (true), Ybe_, H', ⟨by first | omega | exact Nat.le_refl _⟩, ⟨by (with_reducible repeat (first | refine Aa ?_ _ | refine Ad ?_ | refine Ac ?_ _)); exact BK0.out⟩, ⟨by (with_reducible repeat (first | refine Aa ?_ _ | refine Ad ?_ | refine Ac ?_ _)); exact BK1.out⟩, ⟨by (with_reducible repeat (first | refine Aa ?_ _ | refine Ad ?_ | refine Ac ?_ _)); exact BK2.out⟩, ⟨by repeat (first | (with_reducible first | exact HB.out | apply below_alloc | apply pw_below_drewN | apply below_drew1 | refine below_set ?_ GE0.out | refine below_set ?_ GE1.out | refine below_set ?_ GE2.out) | exact HB.out)⟩⟩
  case rest =>
    clear HC3
    try clear c1
    try clear c2
    try clear p2
    try clear c8
    try clear c10
    try clear c11
    try clear c14
    try clear c17
    try clear c18
    try clear hcz12_0
    try clear hcz12_1
    try clear hcz12_2
    try clear hcz15_0
    try clear hcz15_1
    try clear hcz19_0
    try clear hcz19_1
    try clear hcz19_2
    try clear hfz12_0
    try clear hfz12_1
    try clear hfz12_2
    try clear hfz15_0
    try clear hfz15_1
    try clear hfz19_0
    try clear hfz19_1
    try clear hfz19_2
    obtain ⟨kq, x6_2, rfl, HA, HJ2, BK0, BK1, BK2, HB⟩ := hcut
    cases kq with
    | zero => exact absurd HA.out (by simp [Bg.j0])
    | succ kj2 =>
      have H := HA.out
      clear HA
      simp only [Bg.j0] at H
      by_cases c21 : x6_2 = true
      · subst c21
        have H1 : (some (a0_0, a0_1, a0_2, 1)) = some (r1, r2, r3, r4) := by rw [if_pos rfl] at H; exact H
        clear H
        have H := H1
        clear H1
        simp only [Option.some.injEq, Prod.mk.injEq] at H
        obtain ⟨rfl, rfl, rfl, rfl⟩ := H
        have hnb22 := NB0_1.out
        have hnc22 := NB1_0.out
        have hnb23 := NB0_2.out
        have hnc23 := NB2_0.out
        have hcz24_0 : wc.cell? ⟨gb0, 0, none⟩ = some (.string a0_0) := (Ae BK0.out 0).trans rfl
        have hcz24_1 : wc.cell? ⟨gb0, 1, none⟩ = some (.string a0_1) := (Ae BK0.out 1).trans rfl
        have hcz24_2 : wc.cell? ⟨gb0, 2, none⟩ = some (.int .i64 a0_2) := (Ae BK0.out 2).trans rfl
        have hfz24_0 := Af BK0.out 0
        have hfz24_1 := Af BK0.out 1
        have hfz24_2 := Af BK0.out 2
        have hnb25 := NB2_1.out
        have hnc25 := NB1_2.out
        have hcz26_0 : wc.cell? ⟨gb2, 0, none⟩ = some (.string (⟨#[]⟩ : ByteArray)) := (Ae BK2.out 0).trans rfl
        have hcz26_1 : wc.cell? ⟨gb2, 1, none⟩ = some (.string (⟨#[]⟩ : ByteArray)) := (Ae BK2.out 1).trans rfl
        have hcz26_2 : wc.cell? ⟨gb2, 2, none⟩ = some (.int .i64 0) := (Ae BK2.out 2).trans rfl
        have hfz26_0 := Af BK2.out 0
        have hfz26_1 := Af BK2.out 1
        have hfz26_2 := Af BK2.out 2
        go_wp2
        refine bodyPost_ret (F6 rfl _ _ gb2 31 #[.string a0_0, .string a0_1, .int .i64 a0_2] (0, 0) _ rfl Ybj_ Tryd.underlying31 rfl (by kernel_rfl)) rfl ?_
        exact ⟨by first | rfl | (simp [Ak, Aj] <;> rfl) | (simp [*, Ak, Aj] <;> rfl), by repeat (first | (with_reducible first | exact HB.out | apply below_alloc | apply pw_below_drewN | apply below_drew1 | refine below_set ?_ GE0.out | refine below_set ?_ GE1.out | refine below_set ?_ GE2.out) | exact HB.out)⟩
      · replace c21 := Bool.eq_false_iff.mpr c21
        subst c21
        have H1 : (if a0_2 = 60 then (some (a0_0, a0_1, a0_2, 2)) else ((Bq.f kj2 a0_2 a1_0 a1_1).bind fun t341 => (if a0_1.size + t341.size ≤ 9223372036854775807 then (some (a0_0, a0_1 ++ t341, wrap64 (a0_2 + 1), 0)) else (none)))) = some (r1, r2, r3, r4) := by rw [if_neg (show ¬ (false = true) by decide)] at H; exact H
        clear H
        have H := H1
        clear H1
        by_cases c27 : a0_2 = 60
        · rw [if_pos c27] at H
          have c27b0 : (a0_2 == 60) = true := beq_iff_eq.mpr c27
          have c27b1 : (a0_2 != 60) = false := bne_eq_false_iff_eq.mpr c27
          clear c27
          simp only [Option.some.injEq, Prod.mk.injEq] at H
          obtain ⟨rfl, rfl, rfl, rfl⟩ := H
          have hnb28 := NB0_1.out
          have hnc28 := NB1_0.out
          have hnb29 := NB0_2.out
          have hnc29 := NB2_0.out
          have hcz30_0 : wc.cell? ⟨gb0, 0, none⟩ = some (.string a0_0) := (Ae BK0.out 0).trans rfl
          have hcz30_1 : wc.cell? ⟨gb0, 1, none⟩ = some (.string a0_1) := (Ae BK0.out 1).trans rfl
          have hcz30_2 : wc.cell? ⟨gb0, 2, none⟩ = some (.int .i64 a0_2) := (Ae BK0.out 2).trans rfl
          have hfz30_0 := Af BK0.out 0
          have hfz30_1 := Af BK0.out 1
          have hfz30_2 := Af BK0.out 2
          have hnb31 := NB2_1.out
          have hnc31 := NB1_2.out
          have hcz32_0 : wc.cell? ⟨gb2, 0, none⟩ = some (.string (⟨#[]⟩ : ByteArray)) := (Ae BK2.out 0).trans rfl
          have hcz32_1 : wc.cell? ⟨gb2, 1, none⟩ = some (.string (⟨#[]⟩ : ByteArray)) := (Ae BK2.out 1).trans rfl
          have hcz32_2 : wc.cell? ⟨gb2, 2, none⟩ = some (.int .i64 0) := (Ae BK2.out 2).trans rfl
          have hfz32_0 := Af BK2.out 0
          have hfz32_1 := Af BK2.out 1
          have hfz32_2 := Af BK2.out 2
          go_wp2
          refine bodyPost_ret (F6 rfl _ _ gb2 31 #[.string a0_0, .string a0_1, .int .i64 a0_2] (0, 0) _ rfl Ybj_ Tryd.underlying31 rfl (by kernel_rfl)) rfl ?_
          exact ⟨by first | rfl | (simp [Ak, Aj] <;> rfl) | (simp [*, Ak, Aj] <;> rfl), by repeat (first | (with_reducible first | exact HB.out | apply below_alloc | apply pw_below_drewN | apply below_drew1 | refine below_set ?_ GE0.out | refine below_set ?_ GE1.out | refine below_set ?_ GE2.out) | exact HB.out)⟩
        · rw [if_neg c27] at H
          have c27b0 : (a0_2 == 60) = false := beq_eq_false_iff_ne.mpr c27
          have c27b1 : (a0_2 != 60) = true := bne_iff_ne.mpr c27
          replace H := Option.bind_eq_some_iff.mp H
          obtain ⟨t341, A330, H⟩ := H
          replace H : (if a0_1.size + t341.size ≤ 9223372036854775807 then (some (a0_0, a0_1 ++ t341, wrap64 (a0_2 + 1), 0)) else (none)) = some (r1, r2, r3, r4) := H
          have A33 := Aside0.mk A330
          clear A330
          by_cases c34 : a0_1.size + t341.size ≤ 9223372036854775807
          · rw [if_pos c34] at H
            have c34b0 := eq_true c34
            have c34b1 : decide (a0_1.size + t341.size ≤ 9223372036854775807) = true := decide_eq_true c34
            try have c34b2 : (9223372036854775807 < a0_1.size + t341.size) = False := eq_false (Nat.not_lt.2 c34)
            simp only [Option.some.injEq, Prod.mk.injEq] at H
            obtain ⟨rfl, rfl, rfl, rfl⟩ := H
            have hnb35 := NB0_1.out
            have hnc35 := NB1_0.out
            have hnb36 := NB0_2.out
            have hnc36 := NB2_0.out
            have hcz37_0 : wc.cell? ⟨gb0, 0, none⟩ = some (.string a0_0) := (Ae BK0.out 0).trans rfl
            have hcz37_1 : wc.cell? ⟨gb0, 1, none⟩ = some (.string a0_1) := (Ae BK0.out 1).trans rfl
            have hcz37_2 : wc.cell? ⟨gb0, 2, none⟩ = some (.int .i64 a0_2) := (Ae BK0.out 2).trans rfl
            have hfz37_0 := Af BK0.out 0
            have hfz37_1 := Af BK0.out 1
            have hfz37_2 := Af BK0.out 2
            try go_wp2
            have n0_ := Aside0.mk (Ad BK0.out)
            have n1_ := Aside0.mk (Ad BK1.out)
            have n2_ := Aside0.mk (Ad BK2.out)
            have n3_ := Aside0.mk (below_drew1 HB.out)
            clear BK0
            clear BK1
            clear BK2
            clear HB
            have BK0 := n0_
            have BK1 := n1_
            have BK2 := n2_
            have HB := n3_
            clear n0_ n1_ n2_ n3_
            refine G5 (n := 15) (S := fun w' => w'.cell? ⟨gb0, 0, none⟩ = some (.string a0_0) ∧ w'.cell? ⟨gb0, 1, none⟩ = some (.string a0_1) ∧ w'.cell? ⟨gb0, 2, none⟩ = some (.int .i64 a0_2) ∧ w'.cell? ⟨gb1, 0, none⟩ = some (.string a1_0) ∧ w'.cell? ⟨gb1, 1, none⟩ = some (.string a1_1)) (ds := []) #[false, false, false, false, false, false, false, false, false, false, false, false, false, false, false] (by kernel_rfl) rfl rfl ⟨(Ae BK0.out 0).trans rfl, (Ae BK0.out 1).trans rfl, (Ae BK0.out 2).trans rfl, (Ae BK1.out 0).trans rfl, (Ae BK1.out 1).trans rfl⟩ (fun hHeld => ?_); refine Gf Bg.tab5 Bg.bits5 (fun HT_ HW_ => ?_)
            generalize wc.drew = w38 at BK0 BK1 BK2 HB hHeld ⊢
            refine Bz (i := 0) (N := some 21) (v := ?_) (a' := ?_) #[true, false, false, false, false, false, false, false, false, false, false, false, false, false, false] rfl rfl (Bf HT_.out (by kernel_rfl)) (fun _ _ _ h => h) (Or.inl ⟨by rfl, ?_⟩) ?_ ?_
            rotate_left
            · intro w'
              go_simp
              with_reducible rfl
            rotate_left
            · simp only [Act.put, List.setIfInBounds_toArray, List.set_cons_zero, List.set_cons_succ, Aw, Az]
              rfl
            refine Bz (i := 2) (N := some 23) (v := ?_) (a' := ?_) #[true, false, true, false, false, false, false, false, false, false, false, false, false, false, false] rfl rfl (Bf HT_.out (by kernel_rfl)) (fun _ _ _ h => h) (Or.inl ⟨by rfl, ?_⟩) ?_ ?_
            rotate_left
            · intro w'
              go_simp
              with_reducible rfl
            rotate_left
            · simp only [Act.put, List.setIfInBounds_toArray, List.set_cons_zero, List.set_cons_succ, Aw, Az]
              rfl
            refine Bz (i := 4) (N := some 25) (v := ?_) (a' := ?_) #[true, false, true, false, true, false, false, false, false, false, false, false, false, false, false] rfl rfl (Bf HT_.out (by kernel_rfl)) (fun _ _ _ h => h) (Or.inl ⟨by rfl, ?_⟩) ?_ ?_
            rotate_left
            · intro w'
              go_simp
              with_reducible rfl
            rotate_left
            · simp only [Act.put, List.setIfInBounds_toArray, List.set_cons_zero, List.set_cons_succ, Aw, Az]
              rfl
            refine Bz (i := 9) (N := some 30) (v := ?_) (a' := ?_) #[true, false, true, false, true, false, false, false, false, true, false, false, false, false, false] rfl rfl (Bf HT_.out (by kernel_rfl)) (fun _ _ _ h => h) (Or.inl ⟨by rfl, ?_⟩) ?_ ?_
            rotate_left
            · intro w'
              go_simp
              with_reducible rfl
            rotate_left
            · simp only [Act.put, List.setIfInBounds_toArray, List.set_cons_zero, List.set_cons_succ, Aw, Az]
              rfl
            refine E8 (i := 1) (N := some 22) (v := ?_) (a' := ?_) #[true, true, true, false, true, false, false, false, false, true, false, false, false, false, false] rfl rfl (Ea HT_.out HW_.out (by kernel_rfl)) (fun _ _ _ h => h) (Or.inl ⟨by rfl, ?_⟩) hHeld ?_ ?_
            rotate_left
            · rintro w' ⟨s0, s1, s2, s3, s4⟩
              go_simp
              with_reducible rfl
            rotate_left
            · simp only [Act.put, List.setIfInBounds_toArray, List.set_cons_zero, List.set_cons_succ, Aw, Az]
              rfl
            refine E8 (i := 3) (N := some 24) (v := ?_) (a' := ?_) #[true, true, true, true, true, false, false, false, false, true, false, false, false, false, false] rfl rfl (Ea HT_.out HW_.out (by kernel_rfl)) (fun _ _ _ h => h) (Or.inl ⟨by rfl, ?_⟩) hHeld ?_ ?_
            rotate_left
            · rintro w' ⟨s0, s1, s2, s3, s4⟩
              go_simp
              with_reducible rfl
            rotate_left
            · simp only [Act.put, List.setIfInBounds_toArray, List.set_cons_zero, List.set_cons_succ, Aw, Az]
              rfl
            refine E8 (i := 5) (N := some 26) (v := ?_) (a' := ?_) #[true, true, true, true, true, true, false, false, false, true, false, false, false, false, false] rfl rfl (Ea HT_.out HW_.out (by kernel_rfl)) (fun _ _ _ h => h) (Or.inl ⟨by rfl, ?_⟩) hHeld ?_ ?_
            rotate_left
            · rintro w' ⟨s0, s1, s2, s3, s4⟩
              go_simp
              with_reducible rfl
            rotate_left
            · simp only [Act.put, List.setIfInBounds_toArray, List.set_cons_zero, List.set_cons_succ, Aw, Az]
              rfl
            refine E8 (i := 6) (N := some 27) (v := ?_) (a' := ?_) #[true, true, true, true, true, true, true, false, false, true, false, false, false, false, false] rfl rfl (Ea HT_.out HW_.out (by kernel_rfl)) (fun _ _ _ h => h) (Or.inl ⟨by rfl, ?_⟩) hHeld ?_ ?_
            rotate_left
            · rintro w' ⟨s0, s1, s2, s3, s4⟩
              go_simp
              with_reducible rfl
            rotate_left
            · simp only [Act.put, List.setIfInBounds_toArray, List.set_cons_zero, List.set_cons_succ, Aw, Az]
              rfl
            refine E8 (i := 10) (N := some 31) (v := ?_) (a' := ?_) #[true, true, true, true, true, true, true, false, false, true, true, false, false, false, false] rfl rfl (Ea HT_.out HW_.out (by kernel_rfl)) (fun _ _ _ h => h) (Or.inl ⟨by rfl, ?_⟩) hHeld ?_ ?_
            rotate_left
            · rintro w' ⟨s0, s1, s2, s3, s4⟩
              go_simp
              with_reducible rfl
            rotate_left
            · simp only [Act.put, List.setIfInBounds_toArray, List.set_cons_zero, List.set_cons_succ, Aw, Az]
              rfl
            refine Bz (i := 11) (N := some 32) (v := ?_) (a' := ?_) #[true, true, true, true, true, true, true, false, false, true, true, true, false, false, false] rfl rfl (Bf HT_.out (by kernel_rfl)) (fun _ _ _ h => h) (Or.inl ⟨by rfl, ?_⟩) ?_ ?_
            rotate_left
            · intro w'
              go_simp
              with_reducible rfl
            rotate_left
            · simp only [Act.put, List.setIfInBounds_toArray, List.set_cons_zero, List.set_cons_succ, Aw, Az]
              rfl
            refine one_ (i := 7) (N := some 28) #[true, true, true, true, true, true, true, true, false, true, true, true, false, false, false] rfl rfl (Fp HT_.out (by kernel_rfl)) (by decide) (fun K hK => ?_)
            refine Gl Tryd.func46 (by kernel_rfl) rfl #[.int .i64 a0_2, .agg #[.string a1_0, .string a1_1]] (by rfl) rfl rfl Yc_ ?_
            with_reducible refine (Bq.calls kj2 a0_2 a1_0 a1_1 t341 _ ?side1 A33.out).mono ?_
            (case side1 => exact Eg.below HGL.out Yj_)
            rintro e w39 ⟨rfl, hb⟩
            refine ⟨_, rfl, ?_⟩
            have n0_ := Aside0.mk (Ai (g := gb0) (o := .cells #[.string a0_0, .string a0_1, .int .i64 a0_2] 31 (0, 0)) Yd_ hb)
            have n1_ := Aside0.mk (Ai (g := gb1) (o := .cells #[.string a1_0, .string a1_1] 27 (0, 0)) Ye_ hb)
            have n2_ := Aside0.mk (Ai (g := gb2) (o := .cells #[.string (⟨#[]⟩ : ByteArray), .string (⟨#[]⟩ : ByteArray), .int .i64 0] 31 (0, 0)) Ybc_ hb)
            have n3_ := Aside0.mk (Ag Yj_ hb)
            clear BK0
            clear BK1
            clear BK2
            clear HB
            have BK0 := n0_
            have BK1 := n1_
            have BK2 := n2_
            have HB := n3_
            clear n0_ n1_ n2_ n3_
            (try clear hb)
            (try clear hb2)
            (try clear hk)
            (try clear hi)
            refine hK.out _ _ ⟨(Ae BK0.out 0).trans rfl, (Ae BK0.out 1).trans rfl, (Ae BK0.out 2).trans rfl, (Ae BK1.out 0).trans rfl, (Ae BK1.out 1).trans rfl⟩ (fun hHeld => ?_)
            clear hK K
            refine Gp (a' := ?_) ?_ ?_
            rotate_left
            · show Act.put _ (some 28) _ = _
              simp only [Act.put, List.setIfInBounds_toArray, List.set_cons_zero, List.set_cons_succ, Aw, Az]
              rfl
            refine Bz (i := 8) (N := some 29) (v := ?_) (a' := ?_) #[true, true, true, true, true, true, true, true, true, true, true, true, false, false, false] rfl rfl (Bf HT_.out (by kernel_rfl)) (fun _ _ _ h => h) (Or.inl ⟨by rfl, ?_⟩) ?_ ?_
            rotate_left
            · intro w'
              go_simp
              with_reducible rfl
            rotate_left
            · simp only [Act.put, List.setIfInBounds_toArray, List.set_cons_zero, List.set_cons_succ, Aw, Az]
              rfl
            refine Bz (i := 12) (N := some 33) (v := ?_) (a' := ?_) #[true, true, true, true, true, true, true, true, true, true, true, true, true, false, false] rfl rfl (Bf HT_.out (by kernel_rfl)) (fun _ _ _ h => h) (Or.inl ⟨by rfl, ?_⟩) ?_ ?_
            rotate_left
            · intro w'
              go_simp
              with_reducible rfl
            rotate_left
            · simp only [Act.put, List.setIfInBounds_toArray, List.set_cons_zero, List.set_cons_succ, Aw, Az]
              rfl
            refine one_ (i := 13) (N := none) #[true, true, true, true, true, true, true, true, true, true, true, true, true, true, false] rfl rfl (Fp HT_.out (by kernel_rfl)) (by decide) (fun K hK => ?_)
            have hs40 : w39.cell? ⟨gb2, 0, none⟩ = some (.string (⟨#[]⟩ : ByteArray)) := (Ae BK2.out 0).trans rfl
            have hfs40 := Af BK2.out 0
            have hns40_0 := NB0_2.out
            have hns40_1 := NB1_2.out
            have hms40_0 := NB2_0.out
            have hms40_1 := NB2_1.out
            have hs41 : w39.cell? ⟨gb2, 1, none⟩ = some (.string (⟨#[]⟩ : ByteArray)) := (Ae BK2.out 1).trans rfl
            have hfs41 := Af BK2.out 1
            have hns41_0 := NB0_2.out
            have hns41_1 := NB1_2.out
            have hms41_0 := NB2_0.out
            have hms41_1 := NB2_1.out
            have hs42 : w39.cell? ⟨gb2, 2, none⟩ = some (.int .i64 0) := (Ae BK2.out 2).trans rfl
            have hfs42 := Af BK2.out 2
            have hns42_0 := NB0_2.out
            have hns42_1 := NB1_2.out
            have hms42_0 := NB2_0.out
            have hms42_1 := NB2_1.out
            refine skip_ (w1 := ?_) (by rfl) rfl ?_ ?_
            rotate_left
            · go_simp
              rfl
            refine hK.out _ _ ⟨((cell_far (p := ⟨gb2, _, none⟩) NB0_2.out _).trans (((cell_far (p := ⟨gb2, _, none⟩) NB0_2.out _).trans (((cell_far (p := ⟨gb2, _, none⟩) NB0_2.out _).trans (hHeld.1)))))), ((cell_far (p := ⟨gb2, _, none⟩) NB0_2.out _).trans (((cell_far (p := ⟨gb2, _, none⟩) NB0_2.out _).trans (((cell_far (p := ⟨gb2, _, none⟩) NB0_2.out _).trans (hHeld.2.1)))))), ((cell_far (p := ⟨gb2, _, none⟩) NB0_2.out _).trans (((cell_far (p := ⟨gb2, _, none⟩) NB0_2.out _).trans (((cell_far (p := ⟨gb2, _, none⟩) NB0_2.out _).trans (hHeld.2.2.1)))))), ((cell_far (p := ⟨gb2, _, none⟩) NB1_2.out _).trans (((cell_far (p := ⟨gb2, _, none⟩) NB1_2.out _).trans (((cell_far (p := ⟨gb2, _, none⟩) NB1_2.out _).trans (hHeld.2.2.2.1)))))), ((cell_far (p := ⟨gb2, _, none⟩) NB1_2.out _).trans (((cell_far (p := ⟨gb2, _, none⟩) NB1_2.out _).trans (((cell_far (p := ⟨gb2, _, none⟩) NB1_2.out _).trans (hHeld.2.2.2.2))))))⟩ (fun hHeld => ?_)
            clear hK K
            refine Bz (i := 14) (N := some 5) (v := ?_) (a' := ?_) #[true, true, true, true, true, true, true, true, true, true, true, true, true, true, true] rfl rfl (Bf HT_.out (by kernel_rfl)) (fun _ _ _ h => h) (Or.inl ⟨by rfl, ?_⟩) ?_ ?_
            rotate_left
            · intro w'
              go_simp
              with_reducible rfl
            rotate_left
            · simp only [Act.put, List.setIfInBounds_toArray, List.set_cons_zero, List.set_cons_succ, Aw, Az]
              rfl
            refine done_ (Gy HT_.out (by kernel_rfl)) ?_
            try go_wp2
            refine bodyPost_ret (F6 rfl _ _ gb2 31 #[.string a0_0, .string (a0_1 ++ t341), .int .i64 (wrap64 (a0_2 + 1))] (0, 0) _ rfl (by (with_reducible repeat (first | refine Aa ?_ _ | refine Ad ?_ | refine Ac ?_ _)); refine Ar (cs := #[.string a0_0, .string (a0_1 ++ t341), .int .i64 0]) ?_ 2 _ rfl; (with_reducible repeat (first | refine Aa ?_ _ | refine Ad ?_ | refine Ac ?_ _)); refine Ar (cs := #[.string a0_0, .string (⟨#[]⟩ : ByteArray), .int .i64 0]) ?_ 1 _ rfl; (with_reducible repeat (first | refine Aa ?_ _ | refine Ad ?_ | refine Ac ?_ _)); refine Ar (cs := #[.string (⟨#[]⟩ : ByteArray), .string (⟨#[]⟩ : ByteArray), .int .i64 0]) ?_ 0 _ rfl; (with_reducible repeat (first | refine Aa ?_ _ | refine Ad ?_ | refine Ac ?_ _)); exact BK2.out) Tryd.underlying31 rfl (by kernel_rfl)) rfl ?_
            exact ⟨by first | rfl | (simp [Ak, Aj] <;> rfl) | (simp [*, Ak, Aj] <;> rfl), by repeat (first | (with_reducible first | exact HB.out | apply below_alloc | apply pw_below_drewN | apply below_drew1 | refine below_set ?_ GE0.out | refine below_set ?_ GE1.out | refine below_set ?_ GE2.out) | exact HB.out)⟩
          · rw [if_neg c34] at H
            exact absurd H (by simp)
end Go.Proofs.YtkpieljmhgfofaaDoor.X

namespace Go.Proofs.YtkpieljmhgfofaaDoor.X
open Go.RowKit Go.Proofs.YtkpieljmhgfofaaDoorW.PrintWords Go.Proofs.YtkpieljmhgfofaaDoorW.PrintLast Go.Proofs.YtkpieljmhgfofaaDoorW.PrintMore
attribute [local go_sem] max2_int min2_int max_two min_two max_three min_three max_four min_four
open Go.Proofs.YtkpieljmhgfofaaDoorG
def Dz.f (k : Nat) (a0_0 : ByteArray) (a0_1 : ByteArray) (a0_2 : Int) : Option ((List (S27)) × Bool) := (Eo.f k a0_0 a0_1 a0_2).bind fun bt377 => (if bt377.2 = true then (some (bt377.1, true)) else (some (([] : List (S27)), false)))
theorem Dz.mono : ∀ a0 a1 a2 k, LeO (Dz.f k a0 a1 a2) (Dz.f (k + 1) a0 a1 a2) := by
  intro a0 a1 a2 k
  unfold Dz.f
  repeat' first
      | (with_reducible exact Eo.mono _ _ _ _)
      | (with_reducible exact LeO.refl _)
      | (with_reducible exact LeO.none _)
      | (with_reducible refine LeO.ite ?_ ?_)
      | (with_reducible refine LeO.bind ?_ (fun _ => ?_))
      | exact Eo.mono _ _ _ _
      | exact LeO.none _
      | refine LeO.ite ?_ ?_
      | refine LeO.bind ?_ (fun _ => ?_)
set_option maxHeartbeats 8000000 in
set_option maxRecDepth 100000 in
theorem Dz.calls (k : Nat) (a0_0 : ByteArray) (a0_1 : ByteArray) (a0_2 : Int) (r1 : List (S27)) (r2 : Bool) (w : World) (hG : Eg w) (h : Dz.f k a0_0 a0_1 a0_2 = some (r1, r2)) :
    Calls Tryd.prog 31 #[.agg #[.string a0_0, .string a0_1, .int .i64 a0_2]] w fun e w' => ∃ v0_ : Value, e = .returned (.tuple #[v0_, .bool r2]) ∧ Kd.R k27 27 w' w.heap.size (fun _ => True) v0_ r1 ∧ Below w.heap.size w w' := by
  have hu31 := Tryd.underlying31
  have HGL := Aside0.mk hG
  clear hG
  have HB := Aside0.mk (Below.refl w.heap.size w)
  have H : ((Eo.f k a0_0 a0_1 a0_2).bind fun bt377 => (if bt377.2 = true then (some (bt377.1, true)) else (some (([] : List (S27)), false)))) = some (r1, r2) := h
  clear h
  replace H := Option.bind_eq_some_iff.mp H
  obtain ⟨⟨t377, t380⟩, A20, H⟩ := H
  replace H : (if t380 = true then (some (t377, true)) else (some (([] : List (S27)), false))) = some (r1, r2) := H
  have A2 := Aside0.mk A20
  clear A20
  by_cases c3 : t380 = true
  · subst c3
    have H1 : (some (t377, true)) = some (r1, r2) := by rw [if_pos rfl] at H; exact H
    clear H
    have H := H1
    clear H1
    simp only [Option.some.injEq, Prod.mk.injEq] at H
    obtain ⟨rfl, rfl⟩ := H
    go_enter Tryd.func31, Tryd.ntmps31
    go_wp2_with (first | ((with_reducible refine Bd (N := 1) rfl ?_); refine Bc ?hg (N := 1) ?hd (cs := #[.string a0_0, .string a0_1, .int .i64 a0_2]) (t := 31) ?hr ?_; (case hd => rfl); (case hg => rfl); (case hr => first | (go_simp; done) | (go_simp; rfl)); intro gb0 hg w4 hbox hb; have n0_ := Aside0.mk (Ag Ya_ hb); have n1_ := Aside0.mk (hbox); have n2_ := Aside0.mk ((by rw [hg]; exact (Ah Ya_) : w.heap.size ≤ gb0)); have n3_ := Aside0.mk ((by rw [hg]; exact (Ah Ya_) : w.heap.size ≤ gb0)); clear HB; have HB := n0_; have BK0 := n1_; have GW0 := n2_; have GE0 := n3_; clear n0_ n1_ n2_ n3_; clear hb hbox hg; have hcz5_0 : w4.cell? ⟨gb0, 0, none⟩ = some (.string a0_0) := (Ae BK0.out 0).trans rfl; have hcz5_1 : w4.cell? ⟨gb0, 1, none⟩ = some (.string a0_1) := (Ae BK0.out 1).trans rfl; have hcz5_2 : w4.cell? ⟨gb0, 2, none⟩ = some (.int .i64 a0_2) := (Ae BK0.out 2).trans rfl; have hfz5_0 := Af BK0.out 0; have hfz5_1 := Af BK0.out 1; have hfz5_2 := Af BK0.out 2) | ((with_reducible refine Am (f := 50) rfl ?_); refine Be (some 8) rfl rfl Tryd.func50 (by kernel_rfl) rfl #[.agg #[.string a0_0, .string a0_1, .int .i64 a0_2]] rfl Yc_ ?_; (with_reducible refine (Eo.calls k a0_0 a0_1 a0_2 t377 true _ ?side1 A2.out).mono ?_); (case side1 => exact Eg.below HGL.out Yb_); rintro e w6 ⟨v378, rfl, ho0, hb⟩; refine ⟨_, rfl, ?_⟩; have n0_ := Aside0.mk (Kd.En ho0 (Ah Yb_)); have n1_ := Aside0.mk (Ai (g := gb0) (o := .cells #[.string a0_0, .string a0_1, .int .i64 a0_2] 31 (0, 0)) Yd_ hb); have n2_ := Aside0.mk (Ag Yb_ hb); clear BK0; clear HB; have HO379 := n0_; have BK0 := n1_; have HB := n2_; clear n0_ n1_ n2_; (try clear hb); (try clear hb2); (try clear hk); (try clear hi); (try clear ho0)))
    go_ret2
    exact ⟨_, by first | rfl | (simp [Ak, Aj] <;> rfl) | (simp [*, Ak, Aj] <;> rfl), by (with_reducible repeat (first | apply Kd.Bo | apply Kd.Bl | apply Kd.Cb)); exact HO379.out, by repeat (first | (with_reducible first | exact HB.out | apply below_alloc | apply pw_below_drewN | apply below_drew1 | refine below_set ?_ GE0.out) | exact HB.out)⟩
  · replace c3 := Bool.eq_false_iff.mpr c3
    subst c3
    have H1 : (some (([] : List (S27)), false)) = some (r1, r2) := by rw [if_neg (show ¬ (false = true) by decide)] at H; exact H
    clear H
    have H := H1
    clear H1
    simp only [Option.some.injEq, Prod.mk.injEq] at H
    obtain ⟨rfl, rfl⟩ := H
    go_enter Tryd.func31, Tryd.ntmps31
    go_wp2_with (first | ((with_reducible refine Bd (N := 1) rfl ?_); refine Bc ?hg (N := 1) ?hd (cs := #[.string a0_0, .string a0_1, .int .i64 a0_2]) (t := 31) ?hr ?_; (case hd => rfl); (case hg => rfl); (case hr => first | (go_simp; done) | (go_simp; rfl)); intro gb0 hg w7 hbox hb; have n0_ := Aside0.mk (Ag Ya_ hb); have n1_ := Aside0.mk (hbox); have n2_ := Aside0.mk ((by rw [hg]; exact (Ah Ya_) : w.heap.size ≤ gb0)); have n3_ := Aside0.mk ((by rw [hg]; exact (Ah Ya_) : w.heap.size ≤ gb0)); clear HB; have HB := n0_; have BK0 := n1_; have GW0 := n2_; have GE0 := n3_; clear n0_ n1_ n2_ n3_; clear hb hbox hg; have hcz8_0 : w7.cell? ⟨gb0, 0, none⟩ = some (.string a0_0) := (Ae BK0.out 0).trans rfl; have hcz8_1 : w7.cell? ⟨gb0, 1, none⟩ = some (.string a0_1) := (Ae BK0.out 1).trans rfl; have hcz8_2 : w7.cell? ⟨gb0, 2, none⟩ = some (.int .i64 a0_2) := (Ae BK0.out 2).trans rfl; have hfz8_0 := Af BK0.out 0; have hfz8_1 := Af BK0.out 1; have hfz8_2 := Af BK0.out 2) | ((with_reducible refine Am (f := 50) rfl ?_); refine Be (some 8) rfl rfl Tryd.func50 (by kernel_rfl) rfl #[.agg #[.string a0_0, .string a0_1, .int .i64 a0_2]] rfl Yc_ ?_; (with_reducible refine (Eo.calls k a0_0 a0_1 a0_2 t377 false _ ?side1 A2.out).mono ?_); (case side1 => exact Eg.below HGL.out Yb_); rintro e w9 ⟨v378, rfl, ho0, hb⟩; refine ⟨_, rfl, ?_⟩; have n0_ := Aside0.mk (Kd.En ho0 (Ah Yb_)); have n1_ := Aside0.mk (Ai (g := gb0) (o := .cells #[.string a0_0, .string a0_1, .int .i64 a0_2] 31 (0, 0)) Yd_ hb); have n2_ := Aside0.mk (Ag Yb_ hb); clear BK0; clear HB; have HO379 := n0_; have BK0 := n1_; have HB := n2_; clear n0_ n1_ n2_; (try clear hb); (try clear hb2); (try clear hk); (try clear hi); (try clear ho0)))
    go_ret2
    exact ⟨_, by first | rfl | (simp [Ak, Aj] <;> rfl) | (simp [*, Ak, Aj] <;> rfl), by first | exact Kd.R_nil _ _ _ _ _ | exact Kd.N_nil _ _ _ _ _ | exact Kd.V_nil _ _ _ _ _ | exact Kd.Q_nil _ _ _ _ _ | exact Kd.S_nil _ _ _ _ _, by repeat (first | (with_reducible first | exact HB.out | apply below_alloc | apply pw_below_drewN | apply below_drew1 | refine below_set ?_ GE0.out) | exact HB.out)⟩
end Go.Proofs.YtkpieljmhgfofaaDoor.X

namespace Go.Proofs.YtkpieljmhgfofaaDoor.X
open Go.RowKit Go.Proofs.YtkpieljmhgfofaaDoorW.PrintWords Go.Proofs.YtkpieljmhgfofaaDoorW.PrintLast Go.Proofs.YtkpieljmhgfofaaDoorW.PrintMore
attribute [local go_sem] max2_int min2_int max_two min_two max_three min_three max_four min_four
open Go.Proofs.YtkpieljmhgfofaaDoorG
def Hz.f (l0 : List Int) : Option (Bool) := some (decide ((l0.length : Int) > 65536))
set_option maxHeartbeats 8000000 in
set_option maxRecDepth 100000 in
theorem Hz.calls (A0 : Option Addr) (c0 : Nat) (l0 : List Int) (r : Bool) (w : World) (hr0 : Kd.C (Kd.int .u8) w A0 l0.length l0) (hc0 : l0.length ≤ c0) (h : Hz.f l0 = some r) :
    Calls Tryd.prog 35 #[.slice A0 l0.length c0] w fun e w' => e = .returned (.bool r) ∧ Di w w' := by
  have HR0 := Aside0.mk hr0
  have HC0 := Aside0.mk hc0
  clear hr0 hc0
  have H : (some (decide ((l0.length : Int) > 65536))) = some r := h
  clear h
  obtain rfl := Option.some.inj H
  go_enter Tryd.func35, Tryd.ntmps35
  go_wp2
  go_ret
  exact ⟨by first | rfl | (simp; done) | (simp [*]; done), by repeat (first | exact Di.refl _ | apply Di.step)⟩
end Go.Proofs.YtkpieljmhgfofaaDoor.X

namespace Go.Proofs.YtkpieljmhgfofaaDoor.X
open Go.RowKit Go.Proofs.YtkpieljmhgfofaaDoorW.PrintWords Go.Proofs.YtkpieljmhgfofaaDoorW.PrintLast Go.Proofs.YtkpieljmhgfofaaDoorW.PrintMore
attribute [local go_sem] max2_int min2_int max_two min_two max_three min_three max_four min_four
open Go.Proofs.YtkpieljmhgfofaaDoorG
/-- A state of type 74 at block g of W; what its slices lead to came in by w0. -/
def IsS74 (w0 W : World) (g : Nat) (f0 : List Int) (f1 : Int) (f2 : Int) : Prop := ∃ A0 c0, W.heap[g]? = some (.cells #[.slice A0 f0.length c0, .int .i64 f1, .int .u64 f2] 74 (0, 0)) ∧ w0.heap.size ≤ g ∧ Kd.C (Kd.int .u8) w0 A0 f0.length f0
theorem IsS74.grown {w0 W : World} {g : Nat} {f0 : List Int} {f1 : Int} {f2 : Int} {W1 : World} {row : Option Nat} (h : IsS74 w0 W g f0 f1 f2) (hw : W.grownBy W1 row) (hne : some g ≠ row) : IsS74 w0 W1 g f0 f1 f2 := by
  obtain ⟨A0, c0, hb, hg, hr0⟩ := h
  exact ⟨A0, c0, blk_grown hb hw hne, hg, hr0⟩
theorem IsS74.kept {w0 W : World} {g : Nat} {f0 : List Int} {f1 : Int} {f2 : Int} {W1 : World} {S : Nat → Prop} (h : IsS74 w0 W g f0 f1 f2) (hk : Kept W W1 S) (hne : ¬ S g) : IsS74 w0 W1 g f0 f1 f2 := by
  obtain ⟨A0, c0, hb, hg, hr0⟩ := h
  exact ⟨A0, c0, blk_kept hb hk hne, hg, hr0⟩
theorem IsS74.below {w0 W : World} {g : Nat} {f0 : List Int} {f1 : Int} {f2 : Int} {W1 : World} (h : IsS74 w0 W g f0 f1 f2) (hw : Below W.heap.size W W1) : IsS74 w0 W1 g f0 f1 f2 := h.grown (grown_of_below hw none) (by simp)
theorem IsS74.alloc {w0 W : World} {g : Nat} {f0 : List Int} {f1 : Int} {f2 : Int} (h : IsS74 w0 W g f0 f1 f2) (o : Obj) : IsS74 w0 (W.alloc o) g f0 f1 f2 := h.below (below_alloc (Below.refl _ _) o)
theorem IsS74.drewN {w0 W : World} {g : Nat} {f0 : List Int} {f1 : Int} {f2 : Int} (h : IsS74 w0 W g f0 f1 f2) (m : Nat) : IsS74 w0 (W.drewN m) g f0 f1 f2 := h
theorem IsS74.drew {w0 W : World} {g : Nat} {f0 : List Int} {f1 : Int} {f2 : Int} (h : IsS74 w0 W g f0 f1 f2) : IsS74 w0 W.drew g f0 f1 f2 := h
theorem IsS74.at_ {w0 W : World} {g : Nat} {f0 : List Int} {f1 : Int} {f2 : Int} {w' : World} {m : Nat} (hq : W.drewN m = w') (h : IsS74 w0 W g f0 f1 f2) : IsS74 w0 w' g f0 f1 f2 := by subst hq; exact IsS74.drewN h m
theorem IsS74.apart {w0 W : World} {g : Nat} {f0 : List Int} {f1 : Int} {f2 : Int} {α : Type} {d : Kd α} {e : Nat} {base : Nat} {ok : Nat → Prop} {v : Value} {xs : List α} (h : IsS74 w0 W g f0 f1 f2) (ho : d.R e W base ok v xs) (ht : ∀ q, q ∈ e :: d.E → q ≠ 74) : d.R e W base (fun k => ok k ∧ k ≠ g) v xs := by
  obtain ⟨A0, c0, hb, hg, hr0⟩ := h
  exact Kd.Gg ho hb ht
theorem IsS74.own_ne {w0 W : World} {g : Nat} {f0 : List Int} {f1 : Int} {f2 : Int} {α : Type} {d : Kd α} {e : Nat} {base : Nat} {ok : Nat → Prop} {v : Value} {xs : List α} (h : IsS74 w0 W g f0 f1 f2) (ho : d.R e W base ok v xs) (ht : e ≠ 74) : some g ≠ v.ownBlock := by
  obtain ⟨A0, c0, hb, hg, hr0⟩ := h
  exact Kd.R_ne ho hb ht
theorem IsS74.lt {w0 W : World} {g : Nat} {f0 : List Int} {f1 : Int} {f2 : Int} (h : IsS74 w0 W g f0 f1 f2) : g < W.heap.size := by
  obtain ⟨A0, c0, hb, hg, hr0⟩ := h
  exact Cf hb
theorem IsS74.ge {w0 W : World} {g : Nat} {f0 : List Int} {f1 : Int} {f2 : Int} (h : IsS74 w0 W g f0 f1 f2) : w0.heap.size ≤ g := by
  obtain ⟨A0, c0, hb, hg, hr0⟩ := h
  exact hg
theorem IsS74.far {w0 W : World} {g : Nat} {f0 : List Int} {f1 : Int} {f2 : Int} {p : Addr} (h : IsS74 w0 W g f0 f1 f2) (hne : g ≠ p.block) (u : Value) : IsS74 w0 (W.setCell p u) g f0 f1 f2 := by
  obtain ⟨A0, c0, hb, hg, hr0⟩ := h
  exact ⟨A0, c0, Aq hb hne u, hg, hr0⟩
theorem cellS74_0 {W : World} {g : Nat} {A0 : Option Addr} {c0 : Nat} {f0 : List Int} {f1 : Int} {f2 : Int} (h : W.heap[g]? = some (.cells #[.slice A0 f0.length c0, .int .i64 f1, .int .u64 f2] 74 (0, 0))) : W.cell? ⟨g, 0, none⟩ = some (.slice A0 f0.length c0) := (Ae h 0).trans rfl
theorem cellS74_1 {W : World} {g : Nat} {A0 : Option Addr} {c0 : Nat} {f0 : List Int} {f1 : Int} {f2 : Int} (h : W.heap[g]? = some (.cells #[.slice A0 f0.length c0, .int .i64 f1, .int .u64 f2] 74 (0, 0))) : W.cell? ⟨g, 1, none⟩ = some (.int .i64 f1) := (Ae h 1).trans rfl
theorem IsS74.set_1 {w0 W : World} {g : Nat} {f0 : List Int} {f1 : Int} {f2 : Int} (h : IsS74 w0 W g f0 f1 f2) (x : Int) : IsS74 w0 (W.setCell ⟨g, 1, none⟩ (.int .i64 x)) g f0 x f2 := by
  obtain ⟨A0, c0, hb, hg, hr0⟩ := h
  exact ⟨A0, c0, by simpa using blk_set hb 1 (.int .i64 x), hg, hr0⟩
theorem cellS74_2 {W : World} {g : Nat} {A0 : Option Addr} {c0 : Nat} {f0 : List Int} {f1 : Int} {f2 : Int} (h : W.heap[g]? = some (.cells #[.slice A0 f0.length c0, .int .i64 f1, .int .u64 f2] 74 (0, 0))) : W.cell? ⟨g, 2, none⟩ = some (.int .u64 f2) := (Ae h 2).trans rfl
theorem IsS74.set_2 {w0 W : World} {g : Nat} {f0 : List Int} {f1 : Int} {f2 : Int} (h : IsS74 w0 W g f0 f1 f2) (x : Int) : IsS74 w0 (W.setCell ⟨g, 2, none⟩ (.int .u64 x)) g f0 f1 x := by
  obtain ⟨A0, c0, hb, hg, hr0⟩ := h
  exact ⟨A0, c0, by simpa using blk_set hb 2 (.int .u64 x), hg, hr0⟩
theorem IsS74.new (w0 W : World) (A0 : Option Addr) (c0 : Nat) (f0 : List Int) (f1 : Int) (f2 : Int) (hB : Below w0.heap.size w0 W) (hr0 : Kd.C (Kd.int .u8) w0 A0 f0.length f0) : IsS74 w0 (W.alloc (.cells #[.slice A0 f0.length c0, .int .i64 f1, .int .u64 f2] 74)) W.heap.size f0 f1 f2 := ⟨A0, c0, by simpa using heap_alloc_new W _, hB.size, hr0⟩
def Ff.f (s0_0 : List Int) (s0_1 : Int) (s0_2 : Int) : Option (Int × Int × Int) := if s0_1 < (s0_0.length : Int) then (if 0 ≤ s0_1 then (if (wrap64 (s0_1 + 1)) ≤ (s0_0.length : Int) then (some (wrap64 (rd s0_0 s0_1), wrap64 (s0_1 + 1), IntKind.u64.wrap ((IntKind.u64.wrap ((IntKind.u64.wrap (s0_2 * 6364136223846793005)) + (IntKind.u64.wrap (wrap64 (rd s0_0 s0_1))))) + 906906))) else (some (wrap64 (Go.bits .and .u64 ((IntKind.u64.wrap ((IntKind.u64.wrap ((IntKind.u64.wrap (s0_2 * 6364136223846793005)) + (IntKind.u64.wrap (wrap64 (rd s0_0 s0_1))))) + 906906)) / 1099511627776) 255), wrap64 (s0_1 + 1), IntKind.u64.wrap ((IntKind.u64.wrap ((IntKind.u64.wrap (s0_2 * 6364136223846793005)) + (IntKind.u64.wrap (wrap64 (rd s0_0 s0_1))))) + 906906)))) else (none)) else (if (wrap64 (s0_1 + 1)) ≤ (s0_0.length : Int) then (some (0, wrap64 (s0_1 + 1), IntKind.u64.wrap ((IntKind.u64.wrap ((IntKind.u64.wrap (s0_2 * 6364136223846793005)))) + 906906))) else (some (wrap64 (Go.bits .and .u64 ((IntKind.u64.wrap ((IntKind.u64.wrap ((IntKind.u64.wrap (s0_2 * 6364136223846793005)))) + 906906)) / 1099511627776) 255), wrap64 (s0_1 + 1), IntKind.u64.wrap ((IntKind.u64.wrap ((IntKind.u64.wrap (s0_2 * 6364136223846793005)))) + 906906))))
set_option maxHeartbeats 8000000 in
set_option maxRecDepth 100000 in
theorem Ff.calls (g : Nat) (s0_0 : List Int) (s0_1 : Int) (s0_2 : Int) (r1 : Int) (r2 : Int) (r3 : Int) (w0 w : World) (hI : IsS74 w0 w g s0_0 s0_1 s0_2) (hB : Below w0.heap.size w0 w) (h : Ff.f s0_0 s0_1 s0_2 = some (r1, r2, r3)) :
    Calls Tryd.prog 71 #[.pointer (some ⟨g, 0, none⟩)] w fun e w' => e = .returned (.int .i64 r1) ∧ IsS74 w0 w' g s0_0 r2 r3 ∧ Below w0.heap.size w0 w' ∧ KeepBut w w' g none := by
  have HI0 := Aside0.mk hI
  have HK := Aside0.mk (KeepBut.refl w g none)
  have HL := Aside0.mk hB.size
  clear hI
  have HW0 := Aside0.mk hB.size
  have HB := Aside0.mk hB
  clear hB
  have H : (if s0_1 < (s0_0.length : Int) then (if 0 ≤ s0_1 then (if (wrap64 (s0_1 + 1)) ≤ (s0_0.length : Int) then (some (wrap64 (rd s0_0 s0_1), wrap64 (s0_1 + 1), IntKind.u64.wrap ((IntKind.u64.wrap ((IntKind.u64.wrap (s0_2 * 6364136223846793005)) + (IntKind.u64.wrap (wrap64 (rd s0_0 s0_1))))) + 906906))) else (some (wrap64 (Go.bits .and .u64 ((IntKind.u64.wrap ((IntKind.u64.wrap ((IntKind.u64.wrap (s0_2 * 6364136223846793005)) + (IntKind.u64.wrap (wrap64 (rd s0_0 s0_1))))) + 906906)) / 1099511627776) 255), wrap64 (s0_1 + 1), IntKind.u64.wrap ((IntKind.u64.wrap ((IntKind.u64.wrap (s0_2 * 6364136223846793005)) + (IntKind.u64.wrap (wrap64 (rd s0_0 s0_1))))) + 906906)))) else (none)) else (if (wrap64 (s0_1 + 1)) ≤ (s0_0.length : Int) then (some (0, wrap64 (s0_1 + 1), IntKind.u64.wrap ((IntKind.u64.wrap ((IntKind.u64.wrap (s0_2 * 6364136223846793005)))) + 906906))) else (some (wrap64 (Go.bits .and .u64 ((IntKind.u64.wrap ((IntKind.u64.wrap ((IntKind.u64.wrap (s0_2 * 6364136223846793005)))) + 906906)) / 1099511627776) 255), wrap64 (s0_1 + 1), IntKind.u64.wrap ((IntKind.u64.wrap ((IntKind.u64.wrap (s0_2 * 6364136223846793005)))) + 906906))))) = some (r1, r2, r3) := h
  clear h
  by_cases c2 : s0_1 < (s0_0.length : Int)
  · rw [if_pos c2] at H
    have c2b0 : decide (s0_1 < (s0_0.length : Int)) = true := decide_eq_true c2
    clear c2
    by_cases c3 : 0 ≤ s0_1
    · rw [if_pos c3] at H
      have c3b0 : decide (0 ≤ s0_1) = true := decide_eq_true c3
      clear c3
      by_cases c4 : (wrap64 (s0_1 + 1)) ≤ (s0_0.length : Int)
      · rw [if_pos c4] at H
        have c4b0 : decide ((wrap64 (s0_1 + 1)) ≤ (s0_0.length : Int)) = true := decide_eq_true c4
        clear c4
        simp only [Option.some.injEq, Prod.mk.injEq] at H
        obtain ⟨rfl, rfl, rfl⟩ := H
        obtain ⟨ASz5_0, cSz5_0, HGz5, hgz5, HSz5_0⟩ := HI0.out
        have hcz5_0 := cellS74_0 HGz5
        have hcz5_1 := cellS74_1 HGz5
        have hcz5_2 := cellS74_2 HGz5
        have hfz5_1 := Af HGz5 1
        have hfz5_2 := Af HGz5 2
        clear HGz5 hgz5
        have p426 : 0 ≤ (s0_1 : Int) := of_decide_eq_true Yba_
        have q426 : s0_1 < (s0_0.length : Int) := of_decide_eq_true Yba_
        obtain ⟨ad426, e426, hx426_0⟩ := Kd.at_int HSz5_0 s0_1 p426 q426
        cases e426
        replace hx426_0 := Ht HB.out hx426_0
        replace p426 := eq_true p426
        replace q426 := eq_true q426
        go_enter Tryd.func71, Tryd.ntmps71
        go_wp2
        repeat (go_quiet (fail); try go_wp2)
        go_ret
        exact ⟨by first | rfl | (simp [Ak, Aj] <;> rfl) | (simp [*, Ak, Aj] <;> rfl), by repeat (first | (with_reducible first | exact HI0.out | apply IsS74.alloc | apply IsS74.drewN | apply IsS74.drew | apply IsS74.set_1 | apply IsS74.set_2) | exact HI0.out), by repeat (first | (with_reducible first | exact HB.out | apply below_alloc | apply pw_below_drewN | apply below_drew1 | refine below_set ?_ (IsS74.ge HI0.out)) | exact HB.out), by repeat (first | (with_reducible first | exact HK.out | apply KeepBut.set_ | apply keep_drewN | apply keep_drew | apply keep_alloc) | exact HK.out)⟩
      · rw [if_neg c4] at H
        have c4b0 : decide ((wrap64 (s0_1 + 1)) ≤ (s0_0.length : Int)) = false := decide_eq_false c4
        clear c4
        simp only [Option.some.injEq, Prod.mk.injEq] at H
        obtain ⟨rfl, rfl, rfl⟩ := H
        obtain ⟨ASz6_0, cSz6_0, HGz6, hgz6, HSz6_0⟩ := HI0.out
        have hcz6_0 := cellS74_0 HGz6
        have hcz6_1 := cellS74_1 HGz6
        have hcz6_2 := cellS74_2 HGz6
        have hfz6_1 := Af HGz6 1
        have hfz6_2 := Af HGz6 2
        clear HGz6 hgz6
        have p426 : 0 ≤ (s0_1 : Int) := of_decide_eq_true Yba_
        have q426 : s0_1 < (s0_0.length : Int) := of_decide_eq_true Yba_
        obtain ⟨ad426, e426, hx426_0⟩ := Kd.at_int HSz6_0 s0_1 p426 q426
        cases e426
        replace hx426_0 := Ht HB.out hx426_0
        replace p426 := eq_true p426
        replace q426 := eq_true q426
        go_enter Tryd.func71, Tryd.ntmps71
        go_wp2
        repeat (go_quiet (fail); try go_wp2)
        go_ret
        exact ⟨by first | rfl | (simp [Ak, Aj] <;> rfl) | (simp [*, Ak, Aj] <;> rfl), by repeat (first | (with_reducible first | exact HI0.out | apply IsS74.alloc | apply IsS74.drewN | apply IsS74.drew | apply IsS74.set_1 | apply IsS74.set_2) | exact HI0.out), by repeat (first | (with_reducible first | exact HB.out | apply below_alloc | apply pw_below_drewN | apply below_drew1 | refine below_set ?_ (IsS74.ge HI0.out)) | exact HB.out), by repeat (first | (with_reducible first | exact HK.out | apply KeepBut.set_ | apply keep_drewN | apply keep_drew | apply keep_alloc) | exact HK.out)⟩
    · rw [if_neg c3] at H
      exact absurd H (by simp)
  · rw [if_neg c2] at H
    have c2b0 : decide (s0_1 < (s0_0.length : Int)) = false := decide_eq_false c2
    clear c2
    by_cases c7 : (wrap64 (s0_1 + 1)) ≤ (s0_0.length : Int)
    · rw [if_pos c7] at H
      have c7b0 : decide ((wrap64 (s0_1 + 1)) ≤ (s0_0.length : Int)) = true := decide_eq_true c7
      clear c7
      simp only [Option.some.injEq, Prod.mk.injEq] at H
      obtain ⟨rfl, rfl, rfl⟩ := H
      obtain ⟨ASz8_0, cSz8_0, HGz8, hgz8, HSz8_0⟩ := HI0.out
      have hcz8_0 := cellS74_0 HGz8
      have hcz8_1 := cellS74_1 HGz8
      have hcz8_2 := cellS74_2 HGz8
      have hfz8_1 := Af HGz8 1
      have hfz8_2 := Af HGz8 2
      clear HGz8 hgz8
      go_enter Tryd.func71, Tryd.ntmps71
      go_wp2
      repeat (go_quiet (fail); try go_wp2)
      go_ret
      exact ⟨by first | rfl | (simp [Ak, Aj] <;> rfl) | (simp [*, Ak, Aj] <;> rfl), by repeat (first | (with_reducible first | exact HI0.out | apply IsS74.alloc | apply IsS74.drewN | apply IsS74.drew | apply IsS74.set_1 | apply IsS74.set_2) | exact HI0.out), by repeat (first | (with_reducible first | exact HB.out | apply below_alloc | apply pw_below_drewN | apply below_drew1 | refine below_set ?_ (IsS74.ge HI0.out)) | exact HB.out), by repeat (first | (with_reducible first | exact HK.out | apply KeepBut.set_ | apply keep_drewN | apply keep_drew | apply keep_alloc) | exact HK.out)⟩
    · rw [if_neg c7] at H
      have c7b0 : decide ((wrap64 (s0_1 + 1)) ≤ (s0_0.length : Int)) = false := decide_eq_false c7
      clear c7
      simp only [Option.some.injEq, Prod.mk.injEq] at H
      obtain ⟨rfl, rfl, rfl⟩ := H
      obtain ⟨ASz9_0, cSz9_0, HGz9, hgz9, HSz9_0⟩ := HI0.out
      have hcz9_0 := cellS74_0 HGz9
      have hcz9_1 := cellS74_1 HGz9
      have hcz9_2 := cellS74_2 HGz9
      have hfz9_1 := Af HGz9 1
      have hfz9_2 := Af HGz9 2
      clear HGz9 hgz9
      go_enter Tryd.func71, Tryd.ntmps71
      go_wp2
      repeat (go_quiet (fail); try go_wp2)
      go_ret
      exact ⟨by first | rfl | (simp [Ak, Aj] <;> rfl) | (simp [*, Ak, Aj] <;> rfl), by repeat (first | (with_reducible first | exact HI0.out | apply IsS74.alloc | apply IsS74.drewN | apply IsS74.drew | apply IsS74.set_1 | apply IsS74.set_2) | exact HI0.out), by repeat (first | (with_reducible first | exact HB.out | apply below_alloc | apply pw_below_drewN | apply below_drew1 | refine below_set ?_ (IsS74.ge HI0.out)) | exact HB.out), by repeat (first | (with_reducible first | exact HK.out | apply KeepBut.set_ | apply keep_drewN | apply keep_drew | apply keep_alloc) | exact HK.out)⟩
end Go.Proofs.YtkpieljmhgfofaaDoor.X

