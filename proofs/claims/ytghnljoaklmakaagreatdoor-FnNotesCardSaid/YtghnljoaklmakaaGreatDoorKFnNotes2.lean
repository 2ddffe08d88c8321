/- Texts that the proof of the law FnNotes leans on, part 3 of 6. -/
import Derived.Test.YtghnljoaklmakaaGreatDoorKFnNotes1
set_option linter.unusedVariables false
set_option linter.unusedSimpArgs false
namespace Go.Proofs.YtghnljoaklmakaaGreatDoor.X
open Go.RowKit Go.Proofs.YtghnljoaklmakaaGreatDoorW.PrintWords Go.Proofs.YtghnljoaklmakaaGreatDoorW.PrintLast Go.Proofs.YtghnljoaklmakaaGreatDoorW.PrintMore
attribute [local go_sem] Ei Eh Ez Ey D7 D6 Ej Eg
open Go.Proofs.YtghnljoaklmakaaGreatDoorG
def Dn.f : Nat → Int → Option (ByteArray)
 | 0, _ => none
 | k + 1, a0 => if a0 < 0 then ((Dn.f k (wrap64 (-a0))).bind fun t269 => (if 1 + t269.size ≤ 9223372036854775807 then (some ((⟨#[45]⟩ : ByteArray) ++ t269)) else (none))) else (if a0 < 10 then (if 0 ≤ a0 then (if a0 ≤ (wrap64 (a0 + 1)) then (if (wrap64 (a0 + 1)) ≤ 10 then (some ((⟨#[48, 49, 50, 51, 52, 53, 54, 55, 56, 57]⟩ : ByteArray).extract (a0 : Int).toNat ((wrap64 (a0 + 1)) : Int).toNat)) else (none)) else (none)) else (none)) else ((Dn.f k (wrap64 (Int.tdiv a0 10))).bind fun t270 => (if 0 ≤ (Int.tmod a0 10) then (if (Int.tmod a0 10) ≤ (wrap64 ((Int.tmod a0 10) + 1)) then (if (wrap64 ((Int.tmod a0 10) + 1)) ≤ 10 then (if t270.size + ((⟨#[48, 49, 50, 51, 52, 53, 54, 55, 56, 57]⟩ : ByteArray).extract ((Int.tmod a0 10) : Int).toNat ((wrap64 ((Int.tmod a0 10) + 1)) : Int).toNat).size ≤ 9223372036854775807 then (some (t270 ++ ((⟨#[48, 49, 50, 51, 52, 53, 54, 55, 56, 57]⟩ : ByteArray).extract ((Int.tmod a0 10) : Int).toNat ((wrap64 ((Int.tmod a0 10) + 1)) : Int).toNat))) else (none)) else (none)) else (none)) else (none))))
theorem Dn.Fa : ∀ k, (∀ y0, LeO (Dn.f k y0) (Dn.f (k + 1) y0))
 | 0 => fun _ r h => by simp [Dn.f] at h
 | k + 1 => by
  have ih0 := Dn.Fa k
  ·intro y0
   unfold Dn.f
   repeat' first
   | (with_reducible exact ih0 _)
   | (with_reducible exact LeO.refl _)
   | (with_reducible exact LeO.none _)
   | (with_reducible refine LeO.ite ?_ ?_)
   | (with_reducible refine LeO.bind ?_ (fun _ => ?_))
   | exact ih0 _
   | exact LeO.none _
   | refine LeO.ite ?_ ?_
   | refine LeO.bind ?_ (fun _ => ?_)
theorem Dn.mono : ∀ a0 k, LeO (Dn.f k a0) (Dn.f (k + 1) a0) := by
 intro a0 k
 have ih0 := Dn.Fa k
 exact ih0 a0
def Dn.T5 : Bool × List (List Nat × List Nat) := (true, [([], []), ([0], [0]), ([1], [1]), ([], []), ([3], [3]), ([], []), ([5], [5]), ([6], [6]), ([4, 7], [4, 7]), ([2, 8], [2, 8]), ([9, 2, 0, 1, 2, 3, 4, 5, 6, 7, 8, 9], [9])])
def Dn.B5 : List Nat := [0, 1, 3, 0, 8, 0, 32, 96, 248, 511, 1023]
theorem Dn.tab5 : rtab .any (opsOf Tryz.f42 5) = Dn.T5 := by kernel_rfl
theorem Dn.bits5 : Iz Dn.T5.2 Dn.B5 = true := by kernel_rfl
set_option maxHeartbeats 8000000 in
set_option maxRecDepth 100000 in
theorem Dn.calls (k : Nat) : ∀ (a0 : Int) (r : ByteArray) (w : World) (h : Dn.f k a0 = some r),
  Calls Tryz.prog 42 #[.int .i64 a0] w fun e w' => e = .returned (.string r) ∧ Below w.heap.size w w' := by
 induction k using Nat.strongRecOn with
 | _ k ih =>
 intro a0 r w h
 cases k with
 | zero => exact absurd h (by simp [Dn.f])
 | succ k =>
 simp only [Dn.f] at h
 have HB := Ac.mk (Below.refl w.heap.size w)
 have H : (if a0 < 0 then ((Dn.f k (wrap64 (-a0))).bind fun t269 => (if 1 + t269.size ≤ 9223372036854775807 then (some ((⟨#[45]⟩ : ByteArray) ++ t269)) else (none))) else (if a0 < 10 then (if 0 ≤ a0 then (if a0 ≤ (wrap64 (a0 + 1)) then (if (wrap64 (a0 + 1)) ≤ 10 then (some ((⟨#[48, 49, 50, 51, 52, 53, 54, 55, 56, 57]⟩ : ByteArray).extract (a0 : Int).toNat ((wrap64 (a0 + 1)) : Int).toNat)) else (none)) else (none)) else (none)) else ((Dn.f k (wrap64 (Int.tdiv a0 10))).bind fun t270 => (if 0 ≤ (Int.tmod a0 10) then (if (Int.tmod a0 10) ≤ (wrap64 ((Int.tmod a0 10) + 1)) then (if (wrap64 ((Int.tmod a0 10) + 1)) ≤ 10 then (if t270.size + ((⟨#[48, 49, 50, 51, 52, 53, 54, 55, 56, 57]⟩ : ByteArray).extract ((Int.tmod a0 10) : Int).toNat ((wrap64 ((Int.tmod a0 10) + 1)) : Int).toNat).size ≤ 9223372036854775807 then (some (t270 ++ ((⟨#[48, 49, 50, 51, 52, 53, 54, 55, 56, 57]⟩ : ByteArray).extract ((Int.tmod a0 10) : Int).toNat ((wrap64 ((Int.tmod a0 10) + 1)) : Int).toNat))) else (none)) else (none)) else (none)) else (none))))) = some r := h
 clear h
 by_cases c2 : a0 < 0
 ·rw [if_pos c2] at H
  have c2b0 : decide (a0 < 0) = true := decide_eq_true c2
  clear c2
  replace H := Option.bind_eq_some_iff.mp H
  obtain ⟨t269, A30, H⟩ := H
  try dsimp only at H
  have A3 := Ac.mk A30
  clear A30
  by_cases c4 : 1 + t269.size ≤ 9223372036854775807
  ·rw [if_pos c4] at H
   have c4b0 := eq_true c4
   have c4b1 : decide (1 + t269.size ≤ 9223372036854775807) = true := decide_eq_true c4
   try have c4b2 : (9223372036854775807 < 1 + t269.size) = False := eq_false (Nat.not_lt.2 c4)
   obtain rfl := Option.some.inj H
   go_enter Tryz.func42, Tryz.ntmps42
   go_wp2_with (first | ((with_reducible refine Ap (f := 42) rfl ?_); refine Bj (some 7) rfl rfl Tryz.func42 (by kernel_rfl) rfl #[.int .i64 (wrap64 (-a0))] rfl Ya_ ?_; (with_reducible refine (ih k (by omega) (wrap64 (-a0)) t269 _ A3.out).mono ?_); rintro e w5 ⟨rfl, hb⟩; refine ⟨_, rfl, ?_⟩; have n0_ := Ac.mk (Ar Yb_ hb); clear HB; have HB := n0_; clear n0_; (try clear hb); (try clear hb2); (try clear hk); (try clear hi)))
   go_ret
   exact ⟨by first | rfl | (simp [Au, Aw] <;> rfl) | (simp [*, Au, Aw] <;> rfl), by repeat (first | (with_reducible first | exact HB.out | apply Ae | apply Aa | apply Ad) | exact HB.out)⟩
  ·rw [if_neg c4] at H
   exact absurd H (by simp)
 ·rw [if_neg c2] at H
  have c2b0 : decide (a0 < 0) = false := decide_eq_false c2
  clear c2
  by_cases c6 : a0 < 10
  ·rw [if_pos c6] at H
   have c6b0 : decide (a0 < 10) = true := decide_eq_true c6
   clear c6
   by_cases c7 : 0 ≤ a0
   ·rw [if_pos c7] at H
    have c7b0 := eq_true c7
    have c7b1 : decide (0 ≤ a0) = true := decide_eq_true c7
    clear c7
    by_cases c8 : a0 ≤ (wrap64 (a0 + 1))
    ·rw [if_pos c8] at H
     have c8b0 := eq_true c8
     have c8b1 : decide (a0 ≤ (wrap64 (a0 + 1))) = true := decide_eq_true c8
     by_cases c9 : (wrap64 (a0 + 1)) ≤ 10
     ·rw [if_pos c9] at H
      have c9b0 := eq_true c9
      have c9b1 : decide ((wrap64 (a0 + 1)) ≤ 10) = true := decide_eq_true c9
      obtain rfl := Option.some.inj H
      go_enter Tryz.func42, Tryz.ntmps42
      go_wp2
      go_ret
      exact ⟨by first | rfl | (simp [Au, Aw] <;> rfl) | (simp [*, Au, Aw] <;> rfl), by repeat (first | (with_reducible first | exact HB.out | apply Ae | apply Aa | apply Ad) | exact HB.out)⟩
     ·rw [if_neg c9] at H
      exact absurd H (by simp)
    ·rw [if_neg c8] at H
     exact absurd H (by simp)
   ·rw [if_neg c7] at H
    exact absurd H (by simp)
  ·rw [if_neg c6] at H
   have c6b0 : decide (a0 < 10) = false := decide_eq_false c6
   clear c6
   replace H := Option.bind_eq_some_iff.mp H
   obtain ⟨t270, A100, H⟩ := H
   try dsimp only at H
   have A10 := Ac.mk A100
   clear A100
   obtain ⟨ji11, hji11⟩ : ∃ j_ : Int, (Int.tmod a0 10) = j_ := ⟨_, rfl⟩
   replace H : (if 0 ≤ (ji11) then (if (ji11) ≤ (wrap64 ((ji11) + 1)) then (if (wrap64 ((ji11) + 1)) ≤ 10 then (if t270.size + ((⟨#[48, 49, 50, 51, 52, 53, 54, 55, 56, 57]⟩ : ByteArray).extract ((ji11) : Int).toNat ((wrap64 ((ji11) + 1)) : Int).toNat).size ≤ 9223372036854775807 then (some (t270 ++ ((⟨#[48, 49, 50, 51, 52, 53, 54, 55, 56, 57]⟩ : ByteArray).extract ((ji11) : Int).toNat ((wrap64 ((ji11) + 1)) : Int).toNat))) else (none)) else (none)) else (none)) else (none)) = some r := by first | (rw [hji11] at H; exact H) | (simp only [hji11] at H ⊢; exact H)
   (try rw [hji11] at A10)
   by_cases c12 : 0 ≤ (ji11)
   ·rw [if_pos c12] at H
    have c12b0 := eq_true c12
    have c12b1 : decide (0 ≤ (ji11)) = true := decide_eq_true c12
    clear c12
    by_cases c13 : (ji11) ≤ (wrap64 ((ji11) + 1))
    ·rw [if_pos c13] at H
     have c13b0 := eq_true c13
     have c13b1 : decide ((ji11) ≤ (wrap64 ((ji11) + 1))) = true := decide_eq_true c13
     by_cases c14 : (wrap64 ((ji11) + 1)) ≤ 10
     ·rw [if_pos c14] at H
      have c14b0 := eq_true c14
      have c14b1 : decide ((wrap64 ((ji11) + 1)) ≤ 10) = true := decide_eq_true c14
      by_cases c15 : t270.size + ((⟨#[48, 49, 50, 51, 52, 53, 54, 55, 56, 57]⟩ : ByteArray).extract ((ji11) : Int).toNat ((wrap64 ((ji11) + 1)) : Int).toNat).size ≤ 9223372036854775807
      ·rw [if_pos c15] at H
       have c15b0 := eq_true c15
       have c15b1 : decide (t270.size + ((⟨#[48, 49, 50, 51, 52, 53, 54, 55, 56, 57]⟩ : ByteArray).extract ((ji11) : Int).toNat ((wrap64 ((ji11) + 1)) : Int).toNat).size ≤ 9223372036854775807) = true := decide_eq_true c15
       try have c15b2 : (9223372036854775807 < t270.size + ((⟨#[48, 49, 50, 51, 52, 53, 54, 55, 56, 57]⟩ : ByteArray).extract ((ji11) : Int).toNat ((wrap64 ((ji11) + 1)) : Int).toNat).size) = False := eq_false (Nat.not_lt.2 c15)
       have c15z0 : (⟨#[48, 49, 50, 51, 52, 53, 54, 55, 56, 57]⟩ : ByteArray).size = 10 := rfl
       have c15b3 := c15
       try simp only [ByteArray.size_extract, ByteArray.size_append, c15z0] at c15b3
       have c15b4 := eq_false (Nat.not_lt.2 c15b3)
       obtain rfl := Option.some.inj H
       go_enter Tryz.func42, Tryz.ntmps42
       try go_wp2
       have n0_ := Ac.mk (Ad HB.out)
       clear HB
       have HB := n0_
       clear n0_
       refine start_ (n := 11) (S := fun w' => True) (ds := []) #[false, false, false, false, false, false, false, false, false, false, false] (by kernel_rfl) rfl rfl trivial (fun hHeld => ?_); refine H9 Dn.tab5 Dn.bits5 (fun HT_ HW_ => ?_)
       generalize w.drew = w16 at HB hHeld ⊢
       refine Fb (i := 0) (N := some 15) (v := ?_) (a' := ?_) #[true, false, false, false, false, false, false, false, false, false, false] rfl rfl (Ew HT_.out (by kernel_rfl)) (fun _ _ _ h => h) (Or.inl ⟨by rfl, ?_⟩) ?_ ?_
       rotate_left
       ·intro w'
        go_simp
        first | with_reducible rfl | (rw [if_neg (by omega)]; try with_reducible rfl)
       rotate_left
       ·simp only [Act.put, List.setIfInBounds_toArray, List.set_cons_zero, List.set_cons_succ, Dw, Dy]
        rfl
       refine Fb (i := 1) (N := some 16) (v := ?_) (a' := ?_) #[true, true, false, false, false, false, false, false, false, false, false] rfl rfl (Ew HT_.out (by kernel_rfl)) (fun _ _ _ h => h) (Or.inl ⟨by rfl, ?_⟩) ?_ ?_
       rotate_left
       ·intro w'
        go_simp
        first | with_reducible rfl | (rw [if_neg (by omega)]; try with_reducible rfl)
       rotate_left
       ·simp only [Act.put, List.setIfInBounds_toArray, List.set_cons_zero, List.set_cons_succ, Dw, Dy]
        rfl
       refine Fb (i := 3) (N := some 18) (v := ?_) (a' := ?_) #[true, true, false, true, false, false, false, false, false, false, false] rfl rfl (Ew HT_.out (by kernel_rfl)) (fun _ _ _ h => h) (Or.inl ⟨by rfl, ?_⟩) ?_ ?_
       rotate_left
       ·intro w'
        go_simp
        first | with_reducible rfl | (rw [if_neg (by omega)]; try with_reducible rfl)
       rotate_left
       ·simp only [Act.put, List.setIfInBounds_toArray, List.set_cons_zero, List.set_cons_succ, Dw, Dy]
        rfl
       refine Fb (i := 4) (N := some 19) (v := ?_) (a' := ?_) #[true, true, false, true, true, false, false, false, false, false, false] rfl rfl (Ew HT_.out (by kernel_rfl)) (fun _ _ _ h => h) (Or.inl ⟨by rfl, ?_⟩) ?_ ?_
       rotate_left
       ·intro w'
        go_simp
        first | with_reducible rfl | (rw [if_neg (by omega)]; try with_reducible rfl)
       rotate_left
       ·simp only [Act.put, List.setIfInBounds_toArray, List.set_cons_zero, List.set_cons_succ, Dw, Dy]
        rfl
       refine Fb (i := 5) (N := some 20) (v := ?_) (a' := ?_) #[true, true, false, true, true, true, false, false, false, false, false] rfl rfl (Ew HT_.out (by kernel_rfl)) (fun _ _ _ h => h) (Or.inl ⟨by rfl, ?_⟩) ?_ ?_
       rotate_left
       ·intro w'
        go_simp
        first | with_reducible rfl | (rw [if_neg (by omega)]; try with_reducible rfl)
       rotate_left
       ·simp only [Act.put, List.setIfInBounds_toArray, List.set_cons_zero, List.set_cons_succ, Dw, Dy]
        rfl
       refine Fb (i := 6) (N := some 21) (v := ?_) (a' := ?_) #[true, true, false, true, true, true, true, false, false, false, false] rfl rfl (Ew HT_.out (by kernel_rfl)) (fun _ _ _ h => h) (Or.inl ⟨by rfl, ?_⟩) ?_ ?_
       rotate_left
       ·intro w'
        go_simp
        first | with_reducible rfl | (rw [if_neg (by omega)]; try with_reducible rfl)
       rotate_left
       ·simp only [Act.put, List.setIfInBounds_toArray, List.set_cons_zero, List.set_cons_succ, Dw, Dy]
        rfl
       refine Fb (i := 7) (N := some 22) (v := ?_) (a' := ?_) #[true, true, false, true, true, true, true, true, false, false, false] rfl rfl (Ew HT_.out (by kernel_rfl)) (fun _ _ _ h => h) (Or.inl ⟨by rfl, ?_⟩) ?_ ?_
       rotate_left
       ·intro w'
        go_simp
        first | with_reducible rfl | (rw [if_neg (by omega)]; try with_reducible rfl)
       rotate_left
       ·simp only [Act.put, List.setIfInBounds_toArray, List.set_cons_zero, List.set_cons_succ, Dw, Dy]
        rfl
       refine Fb (i := 8) (N := some 23) (v := ?_) (a' := ?_) #[true, true, false, true, true, true, true, true, true, false, false] rfl rfl (Ew HT_.out (by kernel_rfl)) (fun _ _ _ h => h) (Or.inl ⟨by rfl, ?_⟩) ?_ ?_
       rotate_left
       ·intro w'
        go_simp
        first | with_reducible rfl | (rw [if_neg (by omega)]; try with_reducible rfl)
       rotate_left
       ·simp only [Act.put, List.setIfInBounds_toArray, List.set_cons_zero, List.set_cons_succ, Dw, Dy]
        rfl
       refine one_ (i := 2) (N := some 17) #[true, true, true, true, true, true, true, true, true, false, false] rfl rfl (Hg HT_.out (by kernel_rfl)) (by decide) (fun K hK => ?_)
       refine goes_ Tryz.func42 (by kernel_rfl) rfl #[.int .i64 (wrap64 (Int.tdiv a0 10))] (by rfl) rfl rfl Ya_ ?_
       with_reducible refine (ih k (by omega) (wrap64 (Int.tdiv a0 10)) t270 _ A10.out).mono ?_
       rintro e w17 ⟨rfl, hb⟩
       refine ⟨_, rfl, ?_⟩
       have n0_ := Ac.mk (Ar Yb_ hb)
       clear HB
       have HB := n0_
       clear n0_
       (try clear hb)
       (try clear hb2)
       (try clear hk)
       (try clear hi)
       refine hK.out _ _ trivial (fun hHeld => ?_)
       clear hK K
       refine norm_ (a' := ?_) ?_ ?_
       rotate_left
       ·show Act.put _ (some 17) _ = _
        simp only [Act.put, List.setIfInBounds_toArray, List.set_cons_zero, List.set_cons_succ, Dw, Dy]
        rfl
       refine Fb (i := 9) (N := some 24) (v := ?_) (a' := ?_) #[true, true, true, true, true, true, true, true, true, true, false] rfl rfl (Ew HT_.out (by kernel_rfl)) (fun _ _ _ h => h) (Or.inl ⟨by rfl, ?_⟩) ?_ ?_
       rotate_left
       ·intro w'
        go_simp
        first | with_reducible rfl | (rw [if_neg (by omega)]; try with_reducible rfl)
       rotate_left
       ·simp only [Act.put, List.setIfInBounds_toArray, List.set_cons_zero, List.set_cons_succ, Dw, Dy]
        rfl
       refine Fb (i := 10) (N := some 2) (v := ?_) (a' := ?_) #[true, true, true, true, true, true, true, true, true, true, true] rfl rfl (Ew HT_.out (by kernel_rfl)) (fun _ _ _ h => h) (Or.inl ⟨by rfl, ?_⟩) ?_ ?_
       rotate_left
       ·intro w'
        go_simp
        first | with_reducible rfl | (rw [if_neg (by omega)]; try with_reducible rfl)
       rotate_left
       ·simp only [Act.put, List.setIfInBounds_toArray, List.set_cons_zero, List.set_cons_succ, Dw, Dy]
        rfl
       refine done_ (Io HT_.out (by kernel_rfl)) ?_
       try go_wp2
       go_ret
       exact ⟨by first | rfl | (simp [Au, Aw] <;> rfl) | (simp only [← hji11]; first | rfl | (simp [Au, Aw] <;> rfl)) | (simp [*, Au, Aw] <;> rfl), by repeat (first | (with_reducible first | exact HB.out | apply Ae | apply Aa | apply Ad) | exact HB.out)⟩
      ·rw [if_neg c15] at H
       exact absurd H (by simp)
     ·rw [if_neg c14] at H
      exact absurd H (by simp)
    ·rw [if_neg c13] at H
     exact absurd H (by simp)
   ·rw [if_neg c12] at H
    exact absurd H (by simp)
def Gy.f (k : Nat) (a0 : Int) : Option (ByteArray) := if a0 = 1 then (some (⟨#[49, 32, 100, 97, 121]⟩ : ByteArray)) else ((Dn.f k a0).bind fun t271 => (if t271.size + 5 ≤ 9223372036854775807 then (some (t271 ++ (⟨#[32, 100, 97, 121, 115]⟩ : ByteArray))) else (none)))
theorem Gy.mono : ∀ a0 k, LeO (Gy.f k a0) (Gy.f (k + 1) a0) := by
 intro a0 k
 unfold Gy.f
 repeat' first
   | (with_reducible exact Dn.mono _ _)
   | (with_reducible exact LeO.refl _)
   | (with_reducible exact LeO.none _)
   | (with_reducible refine LeO.ite ?_ ?_)
   | (with_reducible refine LeO.bind ?_ (fun _ => ?_))
   | exact Dn.mono _ _
   | exact LeO.none _
   | refine LeO.ite ?_ ?_
   | refine LeO.bind ?_ (fun _ => ?_)
set_option maxHeartbeats 8000000 in
set_option maxRecDepth 100000 in
theorem Gy.calls (k : Nat) (a0 : Int) (r : ByteArray) (w : World) (h : Gy.f k a0 = some r) :
  Calls Tryz.prog 43 #[.int .i64 a0] w fun e w' => e = .returned (.string r) ∧ Below w.heap.size w w' := by
 have HB := Ac.mk (Below.refl w.heap.size w)
 have H : (if a0 = 1 then (some (⟨#[49, 32, 100, 97, 121]⟩ : ByteArray)) else ((Dn.f k a0).bind fun t271 => (if t271.size + 5 ≤ 9223372036854775807 then (some (t271 ++ (⟨#[32, 100, 97, 121, 115]⟩ : ByteArray))) else (none)))) = some r := h
 clear h
 by_cases c2 : a0 = 1
 ·rw [if_pos c2] at H
  have c2b0 : (a0 == 1) = true := beq_iff_eq.mpr c2
  have c2b1 : (a0 != 1) = false := bne_eq_false_iff_eq.mpr c2
  clear c2
  obtain rfl := Option.some.inj H
  go_enter Tryz.func43, Tryz.ntmps43
  go_wp2
  go_ret
  exact ⟨by first | rfl | (simp [Au, Aw] <;> rfl) | (simp [*, Au, Aw] <;> rfl), by repeat (first | (with_reducible first | exact HB.out | apply Ae | apply Aa | apply Ad) | exact HB.out)⟩
 ·rw [if_neg c2] at H
  have c2b0 : (a0 == 1) = false := beq_eq_false_iff_ne.mpr c2
  have c2b1 : (a0 != 1) = true := bne_iff_ne.mpr c2
  replace H := Option.bind_eq_some_iff.mp H
  obtain ⟨t271, A30, H⟩ := H
  try dsimp only at H
  have A3 := Ac.mk A30
  clear A30
  by_cases c4 : t271.size + 5 ≤ 9223372036854775807
  ·rw [if_pos c4] at H
   have c4b0 := eq_true c4
   have c4b1 : decide (t271.size + 5 ≤ 9223372036854775807) = true := decide_eq_true c4
   try have c4b2 : (9223372036854775807 < t271.size + 5) = False := eq_false (Nat.not_lt.2 c4)
   obtain rfl := Option.some.inj H
   go_enter Tryz.func43, Tryz.ntmps43
   go_wp2_with (first | ((with_reducible refine Ap (f := 42) rfl ?_); refine Bj (some 6) rfl rfl Tryz.func42 (by kernel_rfl) rfl #[.int .i64 a0] rfl Ya_ ?_; (with_reducible refine (Dn.calls k a0 t271 _ A3.out).mono ?_); rintro e w5 ⟨rfl, hb⟩; refine ⟨_, rfl, ?_⟩; have n0_ := Ac.mk (Ar Yb_ hb); clear HB; have HB := n0_; clear n0_; (try clear hb); (try clear hb2); (try clear hk); (try clear hi)))
   go_ret
   exact ⟨by first | rfl | (simp [Au, Aw] <;> rfl) | (simp [*, Au, Aw] <;> rfl), by repeat (first | (with_reducible first | exact HB.out | apply Ae | apply Aa | apply Ad) | exact HB.out)⟩
  ·rw [if_neg c4] at H
   exact absurd H (by simp)
def Dt.f (k : Nat) (a0_0 : Int) (a0_1 : ByteArray) (a0_2 : Int) (a0_3 : Int) : Option (ByteArray) := if 10 + a0_1.size ≤ 9223372036854775807 then (if a0_0 = 1 then (if ((⟨#[67, 111, 110, 116, 97, 105, 110, 101, 114, 32]⟩ : ByteArray) ++ a0_1).size + 22 ≤ 9223372036854775807 then ((Dn.f k a0_2).bind fun t273 => (if (((⟨#[67, 111, 110, 116, 97, 105, 110, 101, 114, 32]⟩ : ByteArray) ++ a0_1) ++ (⟨#[32, 104, 97, 115, 32, 97, 114, 114, 105, 118, 101, 100, 32, 105, 110, 32, 115, 116, 97, 99, 107, 32]⟩ : ByteArray)).size + t273.size ≤ 9223372036854775807 then (if ((((⟨#[67, 111, 110, 116, 97, 105, 110, 101, 114, 32]⟩ : ByteArray) ++ a0_1) ++ (⟨#[32, 104, 97, 115, 32, 97, 114, 114, 105, 118, 101, 100, 32, 105, 110, 32, 115, 116, 97, 99, 107, 32]⟩ : ByteArray)) ++ t273).size + 1 ≤ 9223372036854775807 then (some (((((⟨#[67, 111, 110, 116, 97, 105, 110, 101, 114, 32]⟩ : ByteArray) ++ a0_1) ++ (⟨#[32, 104, 97, 115, 32, 97, 114, 114, 105, 118, 101, 100, 32, 105, 110, 32, 115, 116, 97, 99, 107, 32]⟩ : ByteArray)) ++ t273) ++ (⟨#[46]⟩ : ByteArray))) else (none)) else (none))) else (none)) else (if a0_0 = 2 then (if ((⟨#[67, 111, 110, 116, 97, 105, 110, 101, 114, 32]⟩ : ByteArray) ++ a0_1).size + 22 ≤ 9223372036854775807 then ((Dn.f k a0_2).bind fun t274 => (if (((⟨#[67, 111, 110, 116, 97, 105, 110, 101, 114, 32]⟩ : ByteArray) ++ a0_1) ++ (⟨#[32, 119, 97, 115, 32, 109, 111, 118, 101, 100, 32, 102, 114, 111, 109, 32, 115, 116, 97, 99, 107, 32]⟩ : ByteArray)).size + t274.size ≤ 9223372036854775807 then (if ((((⟨#[67, 111, 110, 116, 97, 105, 110, 101, 114, 32]⟩ : ByteArray) ++ a0_1) ++ (⟨#[32, 119, 97, 115, 32, 109, 111, 118, 101, 100, 32, 102, 114, 111, 109, 32, 115, 116, 97, 99, 107, 32]⟩ : ByteArray)) ++ t274).size + 10 ≤ 9223372036854775807 then ((Dn.f k a0_3).bind fun t275 => (if (((((⟨#[67, 111, 110, 116, 97, 105, 110, 101, 114, 32]⟩ : ByteArray) ++ a0_1) ++ (⟨#[32, 119, 97, 115, 32, 109, 111, 118, 101, 100, 32, 102, 114, 111, 109, 32, 115, 116, 97, 99, 107, 32]⟩ : ByteArray)) ++ t274) ++ (⟨#[32, 116, 111, 32, 115, 116, 97, 99, 107, 32]⟩ : ByteArray)).size + t275.size ≤ 9223372036854775807 then (if ((((((⟨#[67, 111, 110, 116, 97, 105, 110, 101, 114, 32]⟩ : ByteArray) ++ a0_1) ++ (⟨#[32, 119, 97, 115, 32, 109, 111, 118, 101, 100, 32, 102, 114, 111, 109, 32, 115, 116, 97, 99, 107, 32]⟩ : ByteArray)) ++ t274) ++ (⟨#[32, 116, 111, 32, 115, 116, 97, 99, 107, 32]⟩ : ByteArray)) ++ t275).size + 1 ≤ 9223372036854775807 then (some (((((((⟨#[67, 111, 110, 116, 97, 105, 110, 101, 114, 32]⟩ : ByteArray) ++ a0_1) ++ (⟨#[32, 119, 97, 115, 32, 109, 111, 118, 101, 100, 32, 102, 114, 111, 109, 32, 115, 116, 97, 99, 107, 32]⟩ : ByteArray)) ++ t274) ++ (⟨#[32, 116, 111, 32, 115, 116, 97, 99, 107, 32]⟩ : ByteArray)) ++ t275) ++ (⟨#[46]⟩ : ByteArray))) else (none)) else (none))) else (none)) else (none))) else (none)) else (if a0_0 = 3 then ((Dj.f k a0_2).bind fun bt276 => (if ((⟨#[67, 111, 110, 116, 97, 105, 110, 101, 114, 32]⟩ : ByteArray) ++ a0_1).size + 13 ≤ 9223372036854775807 then (if (((⟨#[67, 111, 110, 116, 97, 105, 110, 101, 114, 32]⟩ : ByteArray) ++ a0_1) ++ (⟨#[32, 105, 115, 32, 104, 101, 108, 100, 32, 102, 111, 114, 32]⟩ : ByteArray)).size + bt276.1.size ≤ 9223372036854775807 then (if ((((⟨#[67, 111, 110, 116, 97, 105, 110, 101, 114, 32]⟩ : ByteArray) ++ a0_1) ++ (⟨#[32, 105, 115, 32, 104, 101, 108, 100, 32, 102, 111, 114, 32]⟩ : ByteArray)) ++ bt276.1).size + 1 ≤ 9223372036854775807 then (some (((((⟨#[67, 111, 110, 116, 97, 105, 110, 101, 114, 32]⟩ : ByteArray) ++ a0_1) ++ (⟨#[32, 105, 115, 32, 104, 101, 108, 100, 32, 102, 111, 114, 32]⟩ : ByteArray)) ++ bt276.1) ++ (⟨#[46]⟩ : ByteArray))) else (none)) else (none)) else (none))) else (if a0_0 = 4 then (if ((⟨#[67, 111, 110, 116, 97, 105, 110, 101, 114, 32]⟩ : ByteArray) ++ a0_1).size + 29 ≤ 9223372036854775807 then ((Dn.f k a0_2).bind fun t278 => (if (((⟨#[67, 111, 110, 116, 97, 105, 110, 101, 114, 32]⟩ : ByteArray) ++ a0_1) ++ (⟨#[32, 105, 115, 32, 114, 101, 97, 100, 121, 32, 102, 111, 114, 32, 112, 105, 99, 107, 117, 112, 32, 105, 110, 32, 115, 108, 111, 116, 32]⟩ : ByteArray)).size + t278.size ≤ 9223372036854775807 then (if ((((⟨#[67, 111, 110, 116, 97, 105, 110, 101, 114, 32]⟩ : ByteArray) ++ a0_1) ++ (⟨#[32, 105, 115, 32, 114, 101, 97, 100, 121, 32, 102, 111, 114, 32, 112, 105, 99, 107, 117, 112, 32, 105, 110, 32, 115, 108, 111, 116, 32]⟩ : ByteArray)) ++ t278).size + 1 ≤ 9223372036854775807 then (some (((((⟨#[67, 111, 110, 116, 97, 105, 110, 101, 114, 32]⟩ : ByteArray) ++ a0_1) ++ (⟨#[32, 105, 115, 32, 114, 101, 97, 100, 121, 32, 102, 111, 114, 32, 112, 105, 99, 107, 117, 112, 32, 105, 110, 32, 115, 108, 111, 116, 32]⟩ : ByteArray)) ++ t278) ++ (⟨#[46]⟩ : ByteArray))) else (none)) else (none))) else (none)) else (if ((⟨#[67, 111, 110, 116, 97, 105, 110, 101, 114, 32]⟩ : ByteArray) ++ a0_1).size + 6 ≤ 9223372036854775807 then ((Dn.f k a0_2).bind fun t279 => (if (((⟨#[67, 111, 110, 116, 97, 105, 110, 101, 114, 32]⟩ : ByteArray) ++ a0_1) ++ (⟨#[32, 111, 119, 101, 115, 32]⟩ : ByteArray)).size + t279.size ≤ 9223372036854775807 then (if ((((⟨#[67, 111, 110, 116, 97, 105, 110, 101, 114, 32]⟩ : ByteArray) ++ a0_1) ++ (⟨#[32, 111, 119, 101, 115, 32]⟩ : ByteArray)) ++ t279).size + 5 ≤ 9223372036854775807 then ((Gy.f k a0_3).bind fun t280 => (if (((((⟨#[67, 111, 110, 116, 97, 105, 110, 101, 114, 32]⟩ : ByteArray) ++ a0_1) ++ (⟨#[32, 111, 119, 101, 115, 32]⟩ : ByteArray)) ++ t279) ++ (⟨#[32, 102, 111, 114, 32]⟩ : ByteArray)).size + t280.size ≤ 9223372036854775807 then (if ((((((⟨#[67, 111, 110, 116, 97, 105, 110, 101, 114, 32]⟩ : ByteArray) ++ a0_1) ++ (⟨#[32, 111, 119, 101, 115, 32]⟩ : ByteArray)) ++ t279) ++ (⟨#[32, 102, 111, 114, 32]⟩ : ByteArray)) ++ t280).size + 1 ≤ 9223372036854775807 then (some (((((((⟨#[67, 111, 110, 116, 97, 105, 110, 101, 114, 32]⟩ : ByteArray) ++ a0_1) ++ (⟨#[32, 111, 119, 101, 115, 32]⟩ : ByteArray)) ++ t279) ++ (⟨#[32, 102, 111, 114, 32]⟩ : ByteArray)) ++ t280) ++ (⟨#[46]⟩ : ByteArray))) else (none)) else (none))) else (none)) else (none))) else (none)))))) else (none)
theorem Dt.mono : ∀ a0 a1 a2 a3 k, LeO (Dt.f k a0 a1 a2 a3) (Dt.f (k + 1) a0 a1 a2 a3) := by
 intro a0 a1 a2 a3 k
 unfold Dt.f
 repeat' first
   | (with_reducible exact Dj.mono _ _)
   | (with_reducible exact Dn.mono _ _)
   | (with_reducible exact Gy.mono _ _)
   | (with_reducible exact LeO.refl _)
   | (with_reducible exact LeO.none _)
   | (with_reducible refine LeO.ite ?_ ?_)
   | (with_reducible refine LeO.bind ?_ (fun _ => ?_))
   | exact Dj.mono _ _
   | exact Dn.mono _ _
   | exact Gy.mono _ _
   | exact LeO.none _
   | refine LeO.ite ?_ ?_
   | refine LeO.bind ?_ (fun _ => ?_)
def Dt.T6 : Bool × List (List Nat × List Nat) := (true, [([], []), ([0], [0]), ([], []), ([2], [2]), ([3], [3]), ([1, 4], [1, 4]), ([5], [5]), ([], []), ([7], [7]), ([8, 4], [8]), ([6, 9], [6, 9]), ([10], [10]), ([11, 9, 0, 1, 2, 3, 4, 5, 6, 7, 8, 9, 10, 11], [11])])
def Dt.B6 : List Nat := [0, 1, 0, 4, 12, 31, 63, 0, 128, 412, 1023, 2047, 4095]
theorem Dt.tab6 : rtab .any (opsOf Tryz.f22 6) = Dt.T6 := by kernel_rfl
theorem Dt.bits6 : Iz Dt.T6.2 Dt.B6 = true := by kernel_rfl
def Dt.T12 : Bool × List (List Nat × List Nat) := (true, [([], []), ([0], [0]), ([], []), ([2], [2]), ([3], [3]), ([1, 4], [1, 4]), ([5], [5]), ([], []), ([7], [7]), ([8, 4], [8]), ([6, 9], [6, 9]), ([10], [10]), ([11, 9, 0, 1, 2, 3, 4, 5, 6, 7, 8, 9, 10, 11], [11])])
def Dt.B12 : List Nat := [0, 1, 0, 4, 12, 31, 63, 0, 128, 412, 1023, 2047, 4095]
theorem Dt.tab12 : rtab .any (opsOf Tryz.f22 12) = Dt.T12 := by kernel_rfl
theorem Dt.bits12 : Iz Dt.T12.2 Dt.B12 = true := by kernel_rfl
set_option maxHeartbeats 8000000 in
set_option maxRecDepth 100000 in
theorem Dt.calls (k : Nat) (a0_0 : Int) (a0_1 : ByteArray) (a0_2 : Int) (a0_3 : Int) (r : ByteArray) (w : World) (h : Dt.f k a0_0 a0_1 a0_2 a0_3 = some r) :
  Calls Tryz.prog 22 #[.agg #[.int .i64 a0_0, .string a0_1, .int .i64 a0_2, .int .i64 a0_3]] w fun e w' => e = .returned (.string r) ∧ Below w.heap.size w w' := by
 have hu25 := Tryz.underlying25
 have HB := Ac.mk (Below.refl w.heap.size w)
 have H : (if 10 + a0_1.size ≤ 9223372036854775807 then (if a0_0 = 1 then (if ((⟨#[67, 111, 110, 116, 97, 105, 110, 101, 114, 32]⟩ : ByteArray) ++ a0_1).size + 22 ≤ 9223372036854775807 then ((Dn.f k a0_2).bind fun t273 => (if (((⟨#[67, 111, 110, 116, 97, 105, 110, 101, 114, 32]⟩ : ByteArray) ++ a0_1) ++ (⟨#[32, 104, 97, 115, 32, 97, 114, 114, 105, 118, 101, 100, 32, 105, 110, 32, 115, 116, 97, 99, 107, 32]⟩ : ByteArray)).size + t273.size ≤ 9223372036854775807 then (if ((((⟨#[67, 111, 110, 116, 97, 105, 110, 101, 114, 32]⟩ : ByteArray) ++ a0_1) ++ (⟨#[32, 104, 97, 115, 32, 97, 114, 114, 105, 118, 101, 100, 32, 105, 110, 32, 115, 116, 97, 99, 107, 32]⟩ : ByteArray)) ++ t273).size + 1 ≤ 9223372036854775807 then (some (((((⟨#[67, 111, 110, 116, 97, 105, 110, 101, 114, 32]⟩ : ByteArray) ++ a0_1) ++ (⟨#[32, 104, 97, 115, 32, 97, 114, 114, 105, 118, 101, 100, 32, 105, 110, 32, 115, 116, 97, 99, 107, 32]⟩ : ByteArray)) ++ t273) ++ (⟨#[46]⟩ : ByteArray))) else (none)) else (none))) else (none)) else (if a0_0 = 2 then (if ((⟨#[67, 111, 110, 116, 97, 105, 110, 101, 114, 32]⟩ : ByteArray) ++ a0_1).size + 22 ≤ 9223372036854775807 then ((Dn.f k a0_2).bind fun t274 => (if (((⟨#[67, 111, 110, 116, 97, 105, 110, 101, 114, 32]⟩ : ByteArray) ++ a0_1) ++ (⟨#[32, 119, 97, 115, 32, 109, 111, 118, 101, 100, 32, 102, 114, 111, 109, 32, 115, 116, 97, 99, 107, 32]⟩ : ByteArray)).size + t274.size ≤ 9223372036854775807 then (if ((((⟨#[67, 111, 110, 116, 97, 105, 110, 101, 114, 32]⟩ : ByteArray) ++ a0_1) ++ (⟨#[32, 119, 97, 115, 32, 109, 111, 118, 101, 100, 32, 102, 114, 111, 109, 32, 115, 116, 97, 99, 107, 32]⟩ : ByteArray)) ++ t274).size + 10 ≤ 9223372036854775807 then ((Dn.f k a0_3).bind fun t275 => (if (((((⟨#[67, 111, 110, 116, 97, 105, 110, 101, 114, 32]⟩ : ByteArray) ++ a0_1) ++ (⟨#[32, 119, 97, 115, 32, 109, 111, 118, 101, 100, 32, 102, 114, 111, 109, 32, 115, 116, 97, 99, 107, 32]⟩ : ByteArray)) ++ t274) ++ (⟨#[32, 116, 111, 32, 115, 116, 97, 99, 107, 32]⟩ : ByteArray)).size + t275.size ≤ 9223372036854775807 then (if ((((((⟨#[67, 111, 110, 116, 97, 105, 110, 101, 114, 32]⟩ : ByteArray) ++ a0_1) ++ (⟨#[32, 119, 97, 115, 32, 109, 111, 118, 101, 100, 32, 102, 114, 111, 109, 32, 115, 116, 97, 99, 107, 32]⟩ : ByteArray)) ++ t274) ++ (⟨#[32, 116, 111, 32, 115, 116, 97, 99, 107, 32]⟩ : ByteArray)) ++ t275).size + 1 ≤ 9223372036854775807 then (some (((((((⟨#[67, 111, 110, 116, 97, 105, 110, 101, 114, 32]⟩ : ByteArray) ++ a0_1) ++ (⟨#[32, 119, 97, 115, 32, 109, 111, 118, 101, 100, 32, 102, 114, 111, 109, 32, 115, 116, 97, 99, 107, 32]⟩ : ByteArray)) ++ t274) ++ (⟨#[32, 116, 111, 32, 115, 116, 97, 99, 107, 32]⟩ : ByteArray)) ++ t275) ++ (⟨#[46]⟩ : ByteArray))) else (none)) else (none))) else (none)) else (none))) else (none)) else (if a0_0 = 3 then ((Dj.f k a0_2).bind fun bt276 => (if ((⟨#[67, 111, 110, 116, 97, 105, 110, 101, 114, 32]⟩ : ByteArray) ++ a0_1).size + 13 ≤ 9223372036854775807 then (if (((⟨#[67, 111, 110, 116, 97, 105, 110, 101, 114, 32]⟩ : ByteArray) ++ a0_1) ++ (⟨#[32, 105, 115, 32, 104, 101, 108, 100, 32, 102, 111, 114, 32]⟩ : ByteArray)).size + bt276.1.size ≤ 9223372036854775807 then (if ((((⟨#[67, 111, 110, 116, 97, 105, 110, 101, 114, 32]⟩ : ByteArray) ++ a0_1) ++ (⟨#[32, 105, 115, 32, 104, 101, 108, 100, 32, 102, 111, 114, 32]⟩ : ByteArray)) ++ bt276.1).size + 1 ≤ 9223372036854775807 then (some (((((⟨#[67, 111, 110, 116, 97, 105, 110, 101, 114, 32]⟩ : ByteArray) ++ a0_1) ++ (⟨#[32, 105, 115, 32, 104, 101, 108, 100, 32, 102, 111, 114, 32]⟩ : ByteArray)) ++ bt276.1) ++ (⟨#[46]⟩ : ByteArray))) else (none)) else (none)) else (none))) else (if a0_0 = 4 then (if ((⟨#[67, 111, 110, 116, 97, 105, 110, 101, 114, 32]⟩ : ByteArray) ++ a0_1).size + 29 ≤ 9223372036854775807 then ((Dn.f k a0_2).bind fun t278 => (if (((⟨#[67, 111, 110, 116, 97, 105, 110, 101, 114, 32]⟩ : ByteArray) ++ a0_1) ++ (⟨#[32, 105, 115, 32, 114, 101, 97, 100, 121, 32, 102, 111, 114, 32, 112, 105, 99, 107, 117, 112, 32, 105, 110, 32, 115, 108, 111, 116, 32]⟩ : ByteArray)).size + t278.size ≤ 9223372036854775807 then (if ((((⟨#[67, 111, 110, 116, 97, 105, 110, 101, 114, 32]⟩ : ByteArray) ++ a0_1) ++ (⟨#[32, 105, 115, 32, 114, 101, 97, 100, 121, 32, 102, 111, 114, 32, 112, 105, 99, 107, 117, 112, 32, 105, 110, 32, 115, 108, 111, 116, 32]⟩ : ByteArray)) ++ t278).size + 1 ≤ 9223372036854775807 then (some (((((⟨#[67, 111, 110, 116, 97, 105, 110, 101, 114, 32]⟩ : ByteArray) ++ a0_1) ++ (⟨#[32, 105, 115, 32, 114, 101, 97, 100, 121, 32, 102, 111, 114, 32, 112, 105, 99, 107, 117, 112, 32, 105, 110, 32, 115, 108, 111, 116, 32]⟩ : ByteArray)) ++ t278) ++ (⟨#[46]⟩ : ByteArray))) else (none)) else (none))) else (none)) else (if ((⟨#[67, 111, 110, 116, 97, 105, 110, 101, 114, 32]⟩ : ByteArray) ++ a0_1).size + 6 ≤ 9223372036854775807 then ((Dn.f k a0_2).bind fun t279 => (if (((⟨#[67, 111, 110, 116, 97, 105, 110, 101, 114, 32]⟩ : ByteArray) ++ a0_1) ++ (⟨#[32, 111, 119, 101, 115, 32]⟩ : ByteArray)).size + t279.size ≤ 9223372036854775807 then (if ((((⟨#[67, 111, 110, 116, 97, 105, 110, 101, 114, 32]⟩ : ByteArray) ++ a0_1) ++ (⟨#[32, 111, 119, 101, 115, 32]⟩ : ByteArray)) ++ t279).size + 5 ≤ 9223372036854775807 then ((Gy.f k a0_3).bind fun t280 => (if (((((⟨#[67, 111, 110, 116, 97, 105, 110, 101, 114, 32]⟩ : ByteArray) ++ a0_1) ++ (⟨#[32, 111, 119, 101, 115, 32]⟩ : ByteArray)) ++ t279) ++ (⟨#[32, 102, 111, 114, 32]⟩ : ByteArray)).size + t280.size ≤ 9223372036854775807 then (if ((((((⟨#[67, 111, 110, 116, 97, 105, 110, 101, 114, 32]⟩ : ByteArray) ++ a0_1) ++ (⟨#[32, 111, 119, 101, 115, 32]⟩ : ByteArray)) ++ t279) ++ (⟨#[32, 102, 111, 114, 32]⟩ : ByteArray)) ++ t280).size + 1 ≤ 9223372036854775807 then (some (((((((⟨#[67, 111, 110, 116, 97, 105, 110, 101, 114, 32]⟩ : ByteArray) ++ a0_1) ++ (⟨#[32, 111, 119, 101, 115, 32]⟩ : ByteArray)) ++ t279) ++ (⟨#[32, 102, 111, 114, 32]⟩ : ByteArray)) ++ t280) ++ (⟨#[46]⟩ : ByteArray))) else (none)) else (none))) else (none)) else (none))) else (none)))))) else (none)) = some r := h
 clear h
 by_cases c2 : 10 + a0_1.size ≤ 9223372036854775807
 ·rw [if_pos c2] at H
  have c2b0 := eq_true c2
  have c2b1 : decide (10 + a0_1.size ≤ 9223372036854775807) = true := decide_eq_true c2
  try have c2b2 : (9223372036854775807 < 10 + a0_1.size) = False := eq_false (Nat.not_lt.2 c2)
  by_cases c3 : a0_0 = 1
  ·rw [if_pos c3] at H
   have c3b0 : (a0_0 == 1) = true := beq_iff_eq.mpr c3
   have c3b1 : (a0_0 != 1) = false := bne_eq_false_iff_eq.mpr c3
   clear c3
   by_cases c4 : ((⟨#[67, 111, 110, 116, 97, 105, 110, 101, 114, 32]⟩ : ByteArray) ++ a0_1).size + 22 ≤ 9223372036854775807
   ·rw [if_pos c4] at H
    have c4b0 := eq_true c4
    have c4b1 : decide (((⟨#[67, 111, 110, 116, 97, 105, 110, 101, 114, 32]⟩ : ByteArray) ++ a0_1).size + 22 ≤ 9223372036854775807) = true := decide_eq_true c4
    try have c4b2 : (9223372036854775807 < ((⟨#[67, 111, 110, 116, 97, 105, 110, 101, 114, 32]⟩ : ByteArray) ++ a0_1).size + 22) = False := eq_false (Nat.not_lt.2 c4)
    have c4z0 : (⟨#[67, 111, 110, 116, 97, 105, 110, 101, 114, 32]⟩ : ByteArray).size = 10 := rfl
    have c4b3 := c4
    try simp only [ByteArray.size_extract, ByteArray.size_append, c4z0] at c4b3
    have c4b4 := eq_false (Nat.not_lt.2 c4b3)
    replace H := Option.bind_eq_some_iff.mp H
    obtain ⟨t273, A50, H⟩ := H
    try dsimp only at H
    have A5 := Ac.mk A50
    clear A50
    by_cases c6 : (((⟨#[67, 111, 110, 116, 97, 105, 110, 101, 114, 32]⟩ : ByteArray) ++ a0_1) ++ (⟨#[32, 104, 97, 115, 32, 97, 114, 114, 105, 118, 101, 100, 32, 105, 110, 32, 115, 116, 97, 99, 107, 32]⟩ : ByteArray)).size + t273.size ≤ 9223372036854775807
    ·rw [if_pos c6] at H
     have c6b0 := eq_true c6
     have c6b1 : decide ((((⟨#[67, 111, 110, 116, 97, 105, 110, 101, 114, 32]⟩ : ByteArray) ++ a0_1) ++ (⟨#[32, 104, 97, 115, 32, 97, 114, 114, 105, 118, 101, 100, 32, 105, 110, 32, 115, 116, 97, 99, 107, 32]⟩ : ByteArray)).size + t273.size ≤ 9223372036854775807) = true := decide_eq_true c6
     try have c6b2 : (9223372036854775807 < (((⟨#[67, 111, 110, 116, 97, 105, 110, 101, 114, 32]⟩ : ByteArray) ++ a0_1) ++ (⟨#[32, 104, 97, 115, 32, 97, 114, 114, 105, 118, 101, 100, 32, 105, 110, 32, 115, 116, 97, 99, 107, 32]⟩ : ByteArray)).size + t273.size) = False := eq_false (Nat.not_lt.2 c6)
     have c6z0 : (⟨#[32, 104, 97, 115, 32, 97, 114, 114, 105, 118, 101, 100, 32, 105, 110, 32, 115, 116, 97, 99, 107, 32]⟩ : ByteArray).size = 22 := rfl
     have c6z1 : (⟨#[67, 111, 110, 116, 97, 105, 110, 101, 114, 32]⟩ : ByteArray).size = 10 := rfl
     have c6b3 := c6
     try simp only [ByteArray.size_extract, ByteArray.size_append, c6z0, c6z1] at c6b3
     have c6b4 := eq_false (Nat.not_lt.2 c6b3)
     by_cases c7 : ((((⟨#[67, 111, 110, 116, 97, 105, 110, 101, 114, 32]⟩ : ByteArray) ++ a0_1) ++ (⟨#[32, 104, 97, 115, 32, 97, 114, 114, 105, 118, 101, 100, 32, 105, 110, 32, 115, 116, 97, 99, 107, 32]⟩ : ByteArray)) ++ t273).size + 1 ≤ 9223372036854775807
     ·rw [if_pos c7] at H
      have c7b0 := eq_true c7
      have c7b1 : decide (((((⟨#[67, 111, 110, 116, 97, 105, 110, 101, 114, 32]⟩ : ByteArray) ++ a0_1) ++ (⟨#[32, 104, 97, 115, 32, 97, 114, 114, 105, 118, 101, 100, 32, 105, 110, 32, 115, 116, 97, 99, 107, 32]⟩ : ByteArray)) ++ t273).size + 1 ≤ 9223372036854775807) = true := decide_eq_true c7
      try have c7b2 : (9223372036854775807 < ((((⟨#[67, 111, 110, 116, 97, 105, 110, 101, 114, 32]⟩ : ByteArray) ++ a0_1) ++ (⟨#[32, 104, 97, 115, 32, 97, 114, 114, 105, 118, 101, 100, 32, 105, 110, 32, 115, 116, 97, 99, 107, 32]⟩ : ByteArray)) ++ t273).size + 1) = False := eq_false (Nat.not_lt.2 c7)
      have c7z0 : (⟨#[32, 104, 97, 115, 32, 97, 114, 114, 105, 118, 101, 100, 32, 105, 110, 32, 115, 116, 97, 99, 107, 32]⟩ : ByteArray).size = 22 := rfl
      have c7z1 : (⟨#[67, 111, 110, 116, 97, 105, 110, 101, 114, 32]⟩ : ByteArray).size = 10 := rfl
      have c7b3 := c7
      try simp only [ByteArray.size_extract, ByteArray.size_append, c7z0, c7z1] at c7b3
      have c7b4 := eq_false (Nat.not_lt.2 c7b3)
      obtain rfl := Option.some.inj H
      go_enter Tryz.func22, Tryz.ntmps22
      go_wp2_with (first | ((with_reducible refine Dl (N := 1) rfl ?_); refine Dz ?hg (N := 1) ?hd (cs := #[.int .i64 a0_0, .string a0_1, .int .i64 a0_2, .int .i64 a0_3]) (t := 25) ?hr ?_; (case hd => rfl); (case hg => rfl); (case hr => first | (go_simp; done) | (go_simp; rfl)); intro gb0 hg w8 hbox hb; have n0_ := Ac.mk (Ar Yb_ hb); have n1_ := Ac.mk (hbox); have n2_ := Ac.mk ((by rw [hg]; exact (Ba Yb_) : w.heap.size ≤ gb0)); have n3_ := Ac.mk ((by rw [hg]; exact (Ba Yb_) : w.heap.size ≤ gb0)); clear HB; have HB := n0_; have BK0 := n1_; have GW0 := n2_; have GE0 := n3_; clear n0_ n1_ n2_ n3_; clear hb hbox hg; have hcz9_0 : w8.cell? ⟨gb0, 0, none⟩ = some (.int .i64 a0_0) := (Ak BK0.out 0).trans rfl; have hcz9_1 : w8.cell? ⟨gb0, 1, none⟩ = some (.string a0_1) := (Ak BK0.out 1).trans rfl; have hcz9_2 : w8.cell? ⟨gb0, 2, none⟩ = some (.int .i64 a0_2) := (Ak BK0.out 2).trans rfl; have hcz9_3 : w8.cell? ⟨gb0, 3, none⟩ = some (.int .i64 a0_3) := (Ak BK0.out 3).trans rfl; have hfz9_0 := Ai BK0.out 0; have hfz9_1 := Ai BK0.out 1; have hfz9_2 := Ai BK0.out 2; have hfz9_3 := Ai BK0.out 3) | ((with_reducible refine Ap (f := 42) rfl ?_); refine Bj (some 17) rfl rfl Tryz.func42 (by kernel_rfl) rfl #[.int .i64 a0_2] rfl Ya_ ?_; (with_reducible refine (Dn.calls k a0_2 t273 _ A5.out).mono ?_); rintro e w10 ⟨rfl, hb⟩; refine ⟨_, rfl, ?_⟩; have n0_ := Ac.mk (Bi (g := gb0) (o := .cells #[.int .i64 a0_0, .string a0_1, .int .i64 a0_2, .int .i64 a0_3] 25 (0, 0)) Yd_ hb); have n1_ := Ac.mk (Ar Yc_ hb); clear BK0; clear HB; have BK0 := n0_; have HB := n1_; clear n0_ n1_; (try clear hb); (try clear hb2); (try clear hk); (try clear hi)))
      go_ret
      exact ⟨by first | rfl | (simp [Au, Aw] <;> rfl) | (simp [*, Au, Aw] <;> rfl), by repeat (first | (with_reducible first | exact HB.out | apply Ae | apply Aa | apply Ad | refine Am ?_ GE0.out) | exact HB.out)⟩
     ·rw [if_neg c7] at H
      exact absurd H (by simp)
    ·rw [if_neg c6] at H
     exact absurd H (by simp)
   ·rw [if_neg c4] at H
    exact absurd H (by simp)
  ·rw [if_neg c3] at H
   have c3b0 : (a0_0 == 1) = false := beq_eq_false_iff_ne.mpr c3
   have c3b1 : (a0_0 != 1) = true := bne_iff_ne.mpr c3
   by_cases c11 : a0_0 = 2
   ·rw [if_pos c11] at H
    have c11b0 : (a0_0 == 2) = true := beq_iff_eq.mpr c11
    have c11b1 : (a0_0 != 2) = false := bne_eq_false_iff_eq.mpr c11
    clear c11
    by_cases c12 : ((⟨#[67, 111, 110, 116, 97, 105, 110, 101, 114, 32]⟩ : ByteArray) ++ a0_1).size + 22 ≤ 9223372036854775807
    ·rw [if_pos c12] at H
     have c12b0 := eq_true c12
     have c12b1 : decide (((⟨#[67, 111, 110, 116, 97, 105, 110, 101, 114, 32]⟩ : ByteArray) ++ a0_1).size + 22 ≤ 9223372036854775807) = true := decide_eq_true c12
     try have c12b2 : (9223372036854775807 < ((⟨#[67, 111, 110, 116, 97, 105, 110, 101, 114, 32]⟩ : ByteArray) ++ a0_1).size + 22) = False := eq_false (Nat.not_lt.2 c12)
     have c12z0 : (⟨#[67, 111, 110, 116, 97, 105, 110, 101, 114, 32]⟩ : ByteArray).size = 10 := rfl
     have c12b3 := c12
     try simp only [ByteArray.size_extract, ByteArray.size_append, c12z0] at c12b3
     have c12b4 := eq_false (Nat.not_lt.2 c12b3)
     replace H := Option.bind_eq_some_iff.mp H
     obtain ⟨t274, A130, H⟩ := H
     try dsimp only at H
     have A13 := Ac.mk A130
     clear A130
     by_cases c14 : (((⟨#[67, 111, 110, 116, 97, 105, 110, 101, 114, 32]⟩ : ByteArray) ++ a0_1) ++ (⟨#[32, 119, 97, 115, 32, 109, 111, 118, 101, 100, 32, 102, 114, 111, 109, 32, 115, 116, 97, 99, 107, 32]⟩ : ByteArray)).size + t274.size ≤ 9223372036854775807
     ·rw [if_pos c14] at H
      have c14b0 := eq_true c14
      have c14b1 : decide ((((⟨#[67, 111, 110, 116, 97, 105, 110, 101, 114, 32]⟩ : ByteArray) ++ a0_1) ++ (⟨#[32, 119, 97, 115, 32, 109, 111, 118, 101, 100, 32, 102, 114, 111, 109, 32, 115, 116, 97, 99, 107, 32]⟩ : ByteArray)).size + t274.size ≤ 9223372036854775807) = true := decide_eq_true c14
      try have c14b2 : (9223372036854775807 < (((⟨#[67, 111, 110, 116, 97, 105, 110, 101, 114, 32]⟩ : ByteArray) ++ a0_1) ++ (⟨#[32, 119, 97, 115, 32, 109, 111, 118, 101, 100, 32, 102, 114, 111, 109, 32, 115, 116, 97, 99, 107, 32]⟩ : ByteArray)).size + t274.size) = False := eq_false (Nat.not_lt.2 c14)
      have c14z0 : (⟨#[32, 119, 97, 115, 32, 109, 111, 118, 101, 100, 32, 102, 114, 111, 109, 32, 115, 116, 97, 99, 107, 32]⟩ : ByteArray).size = 22 := rfl
      have c14z1 : (⟨#[67, 111, 110, 116, 97, 105, 110, 101, 114, 32]⟩ : ByteArray).size = 10 := rfl
      have c14b3 := c14
      try simp only [ByteArray.size_extract, ByteArray.size_append, c14z0, c14z1] at c14b3
      have c14b4 := eq_false (Nat.not_lt.2 c14b3)
      by_cases c15 : ((((⟨#[67, 111, 110, 116, 97, 105, 110, 101, 114, 32]⟩ : ByteArray) ++ a0_1) ++ (⟨#[32, 119, 97, 115, 32, 109, 111, 118, 101, 100, 32, 102, 114, 111, 109, 32, 115, 116, 97, 99, 107, 32]⟩ : ByteArray)) ++ t274).size + 10 ≤ 9223372036854775807
      ·rw [if_pos c15] at H
       have c15b0 := eq_true c15
       have c15b1 : decide (((((⟨#[67, 111, 110, 116, 97, 105, 110, 101, 114, 32]⟩ : ByteArray) ++ a0_1) ++ (⟨#[32, 119, 97, 115, 32, 109, 111, 118, 101, 100, 32, 102, 114, 111, 109, 32, 115, 116, 97, 99, 107, 32]⟩ : ByteArray)) ++ t274).size + 10 ≤ 9223372036854775807) = true := decide_eq_true c15
       try have c15b2 : (9223372036854775807 < ((((⟨#[67, 111, 110, 116, 97, 105, 110, 101, 114, 32]⟩ : ByteArray) ++ a0_1) ++ (⟨#[32, 119, 97, 115, 32, 109, 111, 118, 101, 100, 32, 102, 114, 111, 109, 32, 115, 116, 97, 99, 107, 32]⟩ : ByteArray)) ++ t274).size + 10) = False := eq_false (Nat.not_lt.2 c15)
       have c15z0 : (⟨#[32, 119, 97, 115, 32, 109, 111, 118, 101, 100, 32, 102, 114, 111, 109, 32, 115, 116, 97, 99, 107, 32]⟩ : ByteArray).size = 22 := rfl
       have c15z1 : (⟨#[67, 111, 110, 116, 97, 105, 110, 101, 114, 32]⟩ : ByteArray).size = 10 := rfl
       have c15b3 := c15
       try simp only [ByteArray.size_extract, ByteArray.size_append, c15z0, c15z1] at c15b3
       have c15b4 := eq_false (Nat.not_lt.2 c15b3)
       replace H := Option.bind_eq_some_iff.mp H
       obtain ⟨t275, A160, H⟩ := H
       try dsimp only at H
       have A16 := Ac.mk A160
       clear A160
       by_cases c17 : (((((⟨#[67, 111, 110, 116, 97, 105, 110, 101, 114, 32]⟩ : ByteArray) ++ a0_1) ++ (⟨#[32, 119, 97, 115, 32, 109, 111, 118, 101, 100, 32, 102, 114, 111, 109, 32, 115, 116, 97, 99, 107, 32]⟩ : ByteArray)) ++ t274) ++ (⟨#[32, 116, 111, 32, 115, 116, 97, 99, 107, 32]⟩ : ByteArray)).size + t275.size ≤ 9223372036854775807
       ·rw [if_pos c17] at H
        have c17b0 := eq_true c17
        have c17b1 : decide ((((((⟨#[67, 111, 110, 116, 97, 105, 110, 101, 114, 32]⟩ : ByteArray) ++ a0_1) ++ (⟨#[32, 119, 97, 115, 32, 109, 111, 118, 101, 100, 32, 102, 114, 111, 109, 32, 115, 116, 97, 99, 107, 32]⟩ : ByteArray)) ++ t274) ++ (⟨#[32, 116, 111, 32, 115, 116, 97, 99, 107, 32]⟩ : ByteArray)).size + t275.size ≤ 9223372036854775807) = true := decide_eq_true c17
        try have c17b2 : (9223372036854775807 < (((((⟨#[67, 111, 110, 116, 97, 105, 110, 101, 114, 32]⟩ : ByteArray) ++ a0_1) ++ (⟨#[32, 119, 97, 115, 32, 109, 111, 118, 101, 100, 32, 102, 114, 111, 109, 32, 115, 116, 97, 99, 107, 32]⟩ : ByteArray)) ++ t274) ++ (⟨#[32, 116, 111, 32, 115, 116, 97, 99, 107, 32]⟩ : ByteArray)).size + t275.size) = False := eq_false (Nat.not_lt.2 c17)
        have c17z0 : (⟨#[32, 116, 111, 32, 115, 116, 97, 99, 107, 32]⟩ : ByteArray).size = 10 := rfl
        have c17z1 : (⟨#[32, 119, 97, 115, 32, 109, 111, 118, 101, 100, 32, 102, 114, 111, 109, 32, 115, 116, 97, 99, 107, 32]⟩ : ByteArray).size = 22 := rfl
        have c17z2 : (⟨#[67, 111, 110, 116, 97, 105, 110, 101, 114, 32]⟩ : ByteArray).size = 10 := rfl
        have c17b3 := c17
        try simp only [ByteArray.size_extract, ByteArray.size_append, c17z0, c17z1, c17z2] at c17b3
        have c17b4 := eq_false (Nat.not_lt.2 c17b3)
        by_cases c18 : ((((((⟨#[67, 111, 110, 116, 97, 105, 110, 101, 114, 32]⟩ : ByteArray) ++ a0_1) ++ (⟨#[32, 119, 97, 115, 32, 109, 111, 118, 101, 100, 32, 102, 114, 111, 109, 32, 115, 116, 97, 99, 107, 32]⟩ : ByteArray)) ++ t274) ++ (⟨#[32, 116, 111, 32, 115, 116, 97, 99, 107, 32]⟩ : ByteArray)) ++ t275).size + 1 ≤ 9223372036854775807
        ·rw [if_pos c18] at H
         have c18b0 := eq_true c18
         have c18b1 : decide (((((((⟨#[67, 111, 110, 116, 97, 105, 110, 101, 114, 32]⟩ : ByteArray) ++ a0_1) ++ (⟨#[32, 119, 97, 115, 32, 109, 111, 118, 101, 100, 32, 102, 114, 111, 109, 32, 115, 116, 97, 99, 107, 32]⟩ : ByteArray)) ++ t274) ++ (⟨#[32, 116, 111, 32, 115, 116, 97, 99, 107, 32]⟩ : ByteArray)) ++ t275).size + 1 ≤ 9223372036854775807) = true := decide_eq_true c18
         try have c18b2 : (9223372036854775807 < ((((((⟨#[67, 111, 110, 116, 97, 105, 110, 101, 114, 32]⟩ : ByteArray) ++ a0_1) ++ (⟨#[32, 119, 97, 115, 32, 109, 111, 118, 101, 100, 32, 102, 114, 111, 109, 32, 115, 116, 97, 99, 107, 32]⟩ : ByteArray)) ++ t274) ++ (⟨#[32, 116, 111, 32, 115, 116, 97, 99, 107, 32]⟩ : ByteArray)) ++ t275).size + 1) = False := eq_false (Nat.not_lt.2 c18)
         have c18z0 : (⟨#[32, 116, 111, 32, 115, 116, 97, 99, 107, 32]⟩ : ByteArray).size = 10 := rfl
         have c18z1 : (⟨#[32, 119, 97, 115, 32, 109, 111, 118, 101, 100, 32, 102, 114, 111, 109, 32, 115, 116, 97, 99, 107, 32]⟩ : ByteArray).size = 22 := rfl
         have c18z2 : (⟨#[67, 111, 110, 116, 97, 105, 110, 101, 114, 32]⟩ : ByteArray).size = 10 := rfl
         have c18b3 := c18
         try simp only [ByteArray.size_extract, ByteArray.size_append, c18z0, c18z1, c18z2] at c18b3
         have c18b4 := eq_false (Nat.not_lt.2 c18b3)
         obtain rfl := Option.some.inj H
         go_enter Tryz.func22, Tryz.ntmps22
         try go_wp2_with (first | ((with_reducible refine Dl (N := 1) rfl ?_); refine Dz ?hg (N := 1) ?hd (cs := #[.int .i64 a0_0, .string a0_1, .int .i64 a0_2, .int .i64 a0_3]) (t := 25) ?hr ?_; (case hd => rfl); (case hg => rfl); (case hr => first | (go_simp; done) | (go_simp; rfl)); intro gb0 hg w19 hbox hb; have n0_ := Ac.mk (Ar Yb_ hb); have n1_ := Ac.mk (hbox); have n2_ := Ac.mk ((by rw [hg]; exact (Ba Yb_) : w.heap.size ≤ gb0)); have n3_ := Ac.mk ((by rw [hg]; exact (Ba Yb_) : w.heap.size ≤ gb0)); clear HB; have HB := n0_; have BK0 := n1_; have GW0 := n2_; have GE0 := n3_; clear n0_ n1_ n2_ n3_; clear hb hbox hg; have hcz20_0 : w19.cell? ⟨gb0, 0, none⟩ = some (.int .i64 a0_0) := (Ak BK0.out 0).trans rfl; have hcz20_1 : w19.cell? ⟨gb0, 1, none⟩ = some (.string a0_1) := (Ak BK0.out 1).trans rfl; have hcz20_2 : w19.cell? ⟨gb0, 2, none⟩ = some (.int .i64 a0_2) := (Ak BK0.out 2).trans rfl; have hcz20_3 : w19.cell? ⟨gb0, 3, none⟩ = some (.int .i64 a0_3) := (Ak BK0.out 3).trans rfl; have hfz20_0 := Ai BK0.out 0; have hfz20_1 := Ai BK0.out 1; have hfz20_2 := Ai BK0.out 2; have hfz20_3 := Ai BK0.out 3))
         have n0_ := Ac.mk (Ah BK0.out)
         have n1_ := Ac.mk (Ad HB.out)
         clear BK0
         clear HB
         have BK0 := n0_
         have HB := n1_
         clear n0_ n1_
         refine start_ (n := 13) (S := fun w' => w'.cell? ⟨gb0, 0, none⟩ = some (.int .i64 a0_0) ∧ w'.cell? ⟨gb0, 1, none⟩ = some (.string a0_1) ∧ w'.cell? ⟨gb0, 2, none⟩ = some (.int .i64 a0_2) ∧ w'.cell? ⟨gb0, 3, none⟩ = some (.int .i64 a0_3)) (ds := []) #[false, false, false, false, false, false, false, false, false, false, false, false, false] (by kernel_rfl) rfl rfl ⟨(Ak BK0.out 0).trans rfl, (Ak BK0.out 1).trans rfl, (Ak BK0.out 2).trans rfl, (Ak BK0.out 3).trans rfl⟩ (fun hHeld => ?_); refine H9 Dt.tab6 Dt.bits6 (fun HT_ HW_ => ?_)
         generalize w19.drew = w21 at BK0 HB hHeld ⊢
         refine Fb (i := 0) (N := some 22) (v := ?_) (a' := ?_) #[true, false, false, false, false, false, false, false, false, false, false, false, false] rfl rfl (Ew HT_.out (by kernel_rfl)) (fun _ _ _ h => h) (Or.inl ⟨by rfl, ?_⟩) ?_ ?_
         rotate_left
         ·intro w'
          go_simp
          first | with_reducible rfl | (rw [if_neg (by omega)]; try with_reducible rfl)
         rotate_left
         ·simp only [Act.put, List.setIfInBounds_toArray, List.set_cons_zero, List.set_cons_succ, Dw, Dy]
          rfl
         refine Fb (i := 1) (N := some 23) (v := ?_) (a' := ?_) #[true, true, false, false, false, false, false, false, false, false, false, false, false] rfl rfl (Ew HT_.out (by kernel_rfl)) (fun _ _ _ h => h) (Or.inl ⟨by rfl, ?_⟩) ?_ ?_
         rotate_left
         ·intro w'
          go_simp
          first | with_reducible rfl | (rw [if_neg (by omega)]; try with_reducible rfl)
         rotate_left
         ·simp only [Act.put, List.setIfInBounds_toArray, List.set_cons_zero, List.set_cons_succ, Dw, Dy]
          rfl
         refine Fb (i := 2) (N := some 24) (v := ?_) (a' := ?_) #[true, true, true, false, false, false, false, false, false, false, false, false, false] rfl rfl (Ew HT_.out (by kernel_rfl)) (fun _ _ _ h => h) (Or.inl ⟨by rfl, ?_⟩) ?_ ?_
         rotate_left
         ·intro w'
          go_simp
          first | with_reducible rfl | (rw [if_neg (by omega)]; try with_reducible rfl)
         rotate_left
         ·simp only [Act.put, List.setIfInBounds_toArray, List.set_cons_zero, List.set_cons_succ, Dw, Dy]
          rfl
         refine Fb (i := 7) (N := some 29) (v := ?_) (a' := ?_) #[true, true, true, false, false, false, false, true, false, false, false, false, false] rfl rfl (Ew HT_.out (by kernel_rfl)) (fun _ _ _ h => h) (Or.inl ⟨by rfl, ?_⟩) ?_ ?_
         rotate_left
         ·intro w'
          go_simp
          first | with_reducible rfl | (rw [if_neg (by omega)]; try with_reducible rfl)
         rotate_left
         ·simp only [Act.put, List.setIfInBounds_toArray, List.set_cons_zero, List.set_cons_succ, Dw, Dy]
          rfl
         refine He (i := 3) (N := some 25) (v := ?_) (a' := ?_) #[true, true, true, true, false, false, false, true, false, false, false, false, false] rfl rfl (Gs HT_.out HW_.out (by kernel_rfl)) (fun _ _ _ h => h) (Or.inl ⟨by rfl, ?_⟩) hHeld ?_ ?_
         rotate_left
         ·rintro w' ⟨s0, s1, s2, s3⟩
          go_simp
          first | with_reducible rfl | (rw [if_neg (by omega)]; try with_reducible rfl)
         rotate_left
         ·simp only [Act.put, List.setIfInBounds_toArray, List.set_cons_zero, List.set_cons_succ, Dw, Dy]
          rfl
         refine He (i := 8) (N := some 30) (v := ?_) (a' := ?_) #[true, true, true, true, false, false, false, true, true, false, false, false, false] rfl rfl (Gs HT_.out HW_.out (by kernel_rfl)) (fun _ _ _ h => h) (Or.inl ⟨by rfl, ?_⟩) hHeld ?_ ?_
         rotate_left
         ·rintro w' ⟨s0, s1, s2, s3⟩
          go_simp
          first | with_reducible rfl | (rw [if_neg (by omega)]; try with_reducible rfl)
         rotate_left
         ·simp only [Act.put, List.setIfInBounds_toArray, List.set_cons_zero, List.set_cons_succ, Dw, Dy]
          rfl
         refine one_ (i := 4) (N := some 26) #[true, true, true, true, true, false, false, true, true, false, false, false, false] rfl rfl (Hg HT_.out (by kernel_rfl)) (by decide) (fun K hK => ?_)
         refine goes_ Tryz.func42 (by kernel_rfl) rfl #[.int .i64 a0_2] (by rfl) rfl rfl Ya_ ?_
         with_reducible refine (Dn.calls k a0_2 t274 _ A13.out).mono ?_
         rintro e w22 ⟨rfl, hb⟩
         refine ⟨_, rfl, ?_⟩
         have n0_ := Ac.mk (Bi (g := gb0) (o := .cells #[.int .i64 a0_0, .string a0_1, .int .i64 a0_2, .int .i64 a0_3] 25 (0, 0)) Yd_ hb)
         have n1_ := Ac.mk (Ar Yc_ hb)
         clear BK0
         clear HB
         have BK0 := n0_
         have HB := n1_
         clear n0_ n1_
         (try clear hb)
         (try clear hb2)
         (try clear hk)
         (try clear hi)
         refine hK.out _ _ ⟨(Ak BK0.out 0).trans rfl, (Ak BK0.out 1).trans rfl, (Ak BK0.out 2).trans rfl, (Ak BK0.out 3).trans rfl⟩ (fun hHeld => ?_)
         clear hK K
         refine norm_ (a' := ?_) ?_ ?_
         rotate_left
         ·show Act.put _ (some 26) _ = _
          simp only [Act.put, List.setIfInBounds_toArray, List.set_cons_zero, List.set_cons_succ, Dw, Dy]
          rfl
         refine Fb (i := 5) (N := some 27) (v := ?_) (a' := ?_) #[true, true, true, true, true, true, false, true, true, false, false, false, false] rfl rfl (Ew HT_.out (by kernel_rfl)) (fun _ _ _ h => h) (Or.inl ⟨by rfl, ?_⟩) ?_ ?_
         rotate_left
         ·intro w'
          go_simp
          first | with_reducible rfl | (rw [if_neg (by omega)]; try with_reducible rfl)
         rotate_left
         ·simp only [Act.put, List.setIfInBounds_toArray, List.set_cons_zero, List.set_cons_succ, Dw, Dy]
          rfl
         refine Fb (i := 6) (N := some 28) (v := ?_) (a' := ?_) #[true, true, true, true, true, true, true, true, true, false, false, false, false] rfl rfl (Ew HT_.out (by kernel_rfl)) (fun _ _ _ h => h) (Or.inl ⟨by rfl, ?_⟩) ?_ ?_
         rotate_left
         ·intro w'
          go_simp
          first | with_reducible rfl | (rw [if_neg (by omega)]; try with_reducible rfl)
         rotate_left
         ·simp only [Act.put, List.setIfInBounds_toArray, List.set_cons_zero, List.set_cons_succ, Dw, Dy]
          rfl
         refine one_ (i := 9) (N := some 31) #[true, true, true, true, true, true, true, true, true, true, false, false, false] rfl rfl (Hg HT_.out (by kernel_rfl)) (by decide) (fun K hK => ?_)
         refine goes_ Tryz.func42 (by kernel_rfl) rfl #[.int .i64 a0_3] (by rfl) rfl rfl Ya_ ?_
         with_reducible refine (Dn.calls k a0_3 t275 _ A16.out).mono ?_
         rintro e w23 ⟨rfl, hb⟩
         refine ⟨_, rfl, ?_⟩
         have n0_ := Ac.mk (Bi (g := gb0) (o := .cells #[.int .i64 a0_0, .string a0_1, .int .i64 a0_2, .int .i64 a0_3] 25 (0, 0)) Yd_ hb)
         have n1_ := Ac.mk (Ar Yc_ hb)
         clear BK0
         clear HB
         have BK0 := n0_
         have HB := n1_
         clear n0_ n1_
         (try clear hb)
         (try clear hb2)
         (try clear hk)
         (try clear hi)
         refine hK.out _ _ ⟨(Ak BK0.out 0).trans rfl, (Ak BK0.out 1).trans rfl, (Ak BK0.out 2).trans rfl, (Ak BK0.out 3).trans rfl⟩ (fun hHeld => ?_)
         clear hK K
         refine norm_ (a' := ?_) ?_ ?_
         rotate_left
         ·show Act.put _ (some 31) _ = _
          simp only [Act.put, List.setIfInBounds_toArray, List.set_cons_zero, List.set_cons_succ, Dw, Dy]
          rfl
         refine Fb (i := 10) (N := some 32) (v := ?_) (a' := ?_) #[true, true, true, true, true, true, true, true, true, true, true, false, false] rfl rfl (Ew HT_.out (by kernel_rfl)) (fun _ _ _ h => h) (Or.inl ⟨by rfl, ?_⟩) ?_ ?_
         rotate_left
         ·intro w'
          go_simp
          first | with_reducible rfl | (rw [if_neg (by omega)]; try with_reducible rfl)
         rotate_left
         ·simp only [Act.put, List.setIfInBounds_toArray, List.set_cons_zero, List.set_cons_succ, Dw, Dy]
          rfl
         refine Fb (i := 11) (N := some 33) (v := ?_) (a' := ?_) #[true, true, true, true, true, true, true, true, true, true, true, true, false] rfl rfl (Ew HT_.out (by kernel_rfl)) (fun _ _ _ h => h) (Or.inl ⟨by rfl, ?_⟩) ?_ ?_
         rotate_left
         ·intro w'
          go_simp
          first | with_reducible rfl | (rw [if_neg (by omega)]; try with_reducible rfl)
         rotate_left
         ·simp only [Act.put, List.setIfInBounds_toArray, List.set_cons_zero, List.set_cons_succ, Dw, Dy]
          rfl
         refine Fb (i := 12) (N := some 2) (v := ?_) (a' := ?_) #[true, true, true, true, true, true, true, true, true, true, true, true, true] rfl rfl (Ew HT_.out (by kernel_rfl)) (fun _ _ _ h => h) (Or.inl ⟨by rfl, ?_⟩) ?_ ?_
         rotate_left
         ·intro w'
          go_simp
          first | with_reducible rfl | (rw [if_neg (by omega)]; try with_reducible rfl)
         rotate_left
         ·simp only [Act.put, List.setIfInBounds_toArray, List.set_cons_zero, List.set_cons_succ, Dw, Dy]
          rfl
         refine done_ (Io HT_.out (by kernel_rfl)) ?_
         try go_wp2
         go_ret
         exact ⟨by first | rfl | (simp [Au, Aw] <;> rfl) | (simp [*, Au, Aw] <;> rfl), by repeat (first | (with_reducible first | exact HB.out | apply Ae | apply Aa | apply Ad | refine Am ?_ GE0.out) | exact HB.out)⟩
        ·rw [if_neg c18] at H
         exact absurd H (by simp)
       ·rw [if_neg c17] at H
        exact absurd H (by simp)
      ·rw [if_neg c15] at H
       exact absurd H (by simp)
     ·rw [if_neg c14] at H
      exact absurd H (by simp)
    ·rw [if_neg c12] at H
     exact absurd H (by simp)
   ·rw [if_neg c11] at H
    have c11b0 : (a0_0 == 2) = false := beq_eq_false_iff_ne.mpr c11
    have c11b1 : (a0_0 != 2) = true := bne_iff_ne.mpr c11
    by_cases c24 : a0_0 = 3
    ·rw [if_pos c24] at H
     have c24b0 : (a0_0 == 3) = true := beq_iff_eq.mpr c24
     have c24b1 : (a0_0 != 3) = false := bne_eq_false_iff_eq.mpr c24
     clear c24
     replace H := Option.bind_eq_some_iff.mp H
     obtain ⟨⟨t276, t277⟩, A250, H⟩ := H
     try dsimp only at H
     have A25 := Ac.mk A250
     clear A250
     by_cases c26 : ((⟨#[67, 111, 110, 116, 97, 105, 110, 101, 114, 32]⟩ : ByteArray) ++ a0_1).size + 13 ≤ 9223372036854775807
     ·rw [if_pos c26] at H
      have c26b0 := eq_true c26
      have c26b1 : decide (((⟨#[67, 111, 110, 116, 97, 105, 110, 101, 114, 32]⟩ : ByteArray) ++ a0_1).size + 13 ≤ 9223372036854775807) = true := decide_eq_true c26
      try have c26b2 : (9223372036854775807 < ((⟨#[67, 111, 110, 116, 97, 105, 110, 101, 114, 32]⟩ : ByteArray) ++ a0_1).size + 13) = False := eq_false (Nat.not_lt.2 c26)
      have c26z0 : (⟨#[67, 111, 110, 116, 97, 105, 110, 101, 114, 32]⟩ : ByteArray).size = 10 := rfl
      have c26b3 := c26
      try simp only [ByteArray.size_extract, ByteArray.size_append, c26z0] at c26b3
      have c26b4 := eq_false (Nat.not_lt.2 c26b3)
      by_cases c27 : (((⟨#[67, 111, 110, 116, 97, 105, 110, 101, 114, 32]⟩ : ByteArray) ++ a0_1) ++ (⟨#[32, 105, 115, 32, 104, 101, 108, 100, 32, 102, 111, 114, 32]⟩ : ByteArray)).size + t276.size ≤ 9223372036854775807
      ·rw [if_pos c27] at H
       have c27b0 := eq_true c27
       have c27b1 : decide ((((⟨#[67, 111, 110, 116, 97, 105, 110, 101, 114, 32]⟩ : ByteArray) ++ a0_1) ++ (⟨#[32, 105, 115, 32, 104, 101, 108, 100, 32, 102, 111, 114, 32]⟩ : ByteArray)).size + t276.size ≤ 9223372036854775807) = true := decide_eq_true c27
       try have c27b2 : (9223372036854775807 < (((⟨#[67, 111, 110, 116, 97, 105, 110, 101, 114, 32]⟩ : ByteArray) ++ a0_1) ++ (⟨#[32, 105, 115, 32, 104, 101, 108, 100, 32, 102, 111, 114, 32]⟩ : ByteArray)).size + t276.size) = False := eq_false (Nat.not_lt.2 c27)
       have c27z0 : (⟨#[32, 105, 115, 32, 104, 101, 108, 100, 32, 102, 111, 114, 32]⟩ : ByteArray).size = 13 := rfl
       have c27z1 : (⟨#[67, 111, 110, 116, 97, 105, 110, 101, 114, 32]⟩ : ByteArray).size = 10 := rfl
       have c27b3 := c27
       try simp only [ByteArray.size_extract, ByteArray.size_append, c27z0, c27z1] at c27b3
       have c27b4 := eq_false (Nat.not_lt.2 c27b3)
       by_cases c28 : ((((⟨#[67, 111, 110, 116, 97, 105, 110, 101, 114, 32]⟩ : ByteArray) ++ a0_1) ++ (⟨#[32, 105, 115, 32, 104, 101, 108, 100, 32, 102, 111, 114, 32]⟩ : ByteArray)) ++ t276).size + 1 ≤ 9223372036854775807
       ·rw [if_pos c28] at H
        have c28b0 := eq_true c28
        have c28b1 : decide (((((⟨#[67, 111, 110, 116, 97, 105, 110, 101, 114, 32]⟩ : ByteArray) ++ a0_1) ++ (⟨#[32, 105, 115, 32, 104, 101, 108, 100, 32, 102, 111, 114, 32]⟩ : ByteArray)) ++ t276).size + 1 ≤ 9223372036854775807) = true := decide_eq_true c28
        try have c28b2 : (9223372036854775807 < ((((⟨#[67, 111, 110, 116, 97, 105, 110, 101, 114, 32]⟩ : ByteArray) ++ a0_1) ++ (⟨#[32, 105, 115, 32, 104, 101, 108, 100, 32, 102, 111, 114, 32]⟩ : ByteArray)) ++ t276).size + 1) = False := eq_false (Nat.not_lt.2 c28)
        have c28z0 : (⟨#[32, 105, 115, 32, 104, 101, 108, 100, 32, 102, 111, 114, 32]⟩ : ByteArray).size = 13 := rfl
        have c28z1 : (⟨#[67, 111, 110, 116, 97, 105, 110, 101, 114, 32]⟩ : ByteArray).size = 10 := rfl
        have c28b3 := c28
        try simp only [ByteArray.size_extract, ByteArray.size_append, c28z0, c28z1] at c28b3
        have c28b4 := eq_false (Nat.not_lt.2 c28b3)
        obtain rfl := Option.some.inj H
        go_enter Tryz.func22, Tryz.ntmps22
        go_wp2_with (first | ((with_reducible refine Dl (N := 1) rfl ?_); refine Dz ?hg (N := 1) ?hd (cs := #[.int .i64 a0_0, .string a0_1, .int .i64 a0_2, .int .i64 a0_3]) (t := 25) ?hr ?_; (case hd => rfl); (case hg => rfl); (case hr => first | (go_simp; done) | (go_simp; rfl)); intro gb0 hg w29 hbox hb; have n0_ := Ac.mk (Ar Yb_ hb); have n1_ := Ac.mk (hbox); have n2_ := Ac.mk ((by rw [hg]; exact (Ba Yb_) : w.heap.size ≤ gb0)); have n3_ := Ac.mk ((by rw [hg]; exact (Ba Yb_) : w.heap.size ≤ gb0)); clear HB; have HB := n0_; have BK0 := n1_; have GW0 := n2_; have GE0 := n3_; clear n0_ n1_ n2_ n3_; clear hb hbox hg; have hcz30_0 : w29.cell? ⟨gb0, 0, none⟩ = some (.int .i64 a0_0) := (Ak BK0.out 0).trans rfl; have hcz30_1 : w29.cell? ⟨gb0, 1, none⟩ = some (.string a0_1) := (Ak BK0.out 1).trans rfl; have hcz30_2 : w29.cell? ⟨gb0, 2, none⟩ = some (.int .i64 a0_2) := (Ak BK0.out 2).trans rfl; have hcz30_3 : w29.cell? ⟨gb0, 3, none⟩ = some (.int .i64 a0_3) := (Ak BK0.out 3).trans rfl; have hfz30_0 := Ai BK0.out 0; have hfz30_1 := Ai BK0.out 1; have hfz30_2 := Ai BK0.out 2; have hfz30_3 := Ai BK0.out 3) | ((with_reducible refine Ap (f := 32) rfl ?_); refine Bj (some 39) rfl rfl Tryz.func32 (by kernel_rfl) rfl #[.int .i64 a0_2] rfl Ya_ ?_; (with_reducible refine (Dj.calls k a0_2 t276 t277 _ A25.out).mono ?_); rintro e w31 ⟨rfl, hb⟩; refine ⟨_, rfl, ?_⟩; have n0_ := Ac.mk (Bi (g := gb0) (o := .cells #[.int .i64 a0_0, .string a0_1, .int .i64 a0_2, .int .i64 a0_3] 25 (0, 0)) Yd_ hb); have n1_ := Ac.mk (Ar Yc_ hb); clear BK0; clear HB; have BK0 := n0_; have HB := n1_; clear n0_ n1_; (try clear hb); (try clear hb2); (try clear hk); (try clear hi)))
        go_ret
        exact ⟨by first | rfl | (simp [Au, Aw] <;> rfl) | (simp [*, Au, Aw] <;> rfl), by repeat (first | (with_reducible first | exact HB.out | apply Ae | apply Aa | apply Ad | refine Am ?_ GE0.out) | exact HB.out)⟩
       ·rw [if_neg c28] at H
        exact absurd H (by simp)
      ·rw [if_neg c27] at H
       exact absurd H (by simp)
     ·rw [if_neg c26] at H
      exact absurd H (by simp)
    ·rw [if_neg c24] at H
     have c24b0 : (a0_0 == 3) = false := beq_eq_false_iff_ne.mpr c24
     have c24b1 : (a0_0 != 3) = true := bne_iff_ne.mpr c24
     by_cases c32 : a0_0 = 4
     ·rw [if_pos c32] at H
      have c32b0 : (a0_0 == 4) = true := beq_iff_eq.mpr c32
      have c32b1 : (a0_0 != 4) = false := bne_eq_false_iff_eq.mpr c32
      clear c32
      by_cases c33 : ((⟨#[67, 111, 110, 116, 97, 105, 110, 101, 114, 32]⟩ : ByteArray) ++ a0_1).size + 29 ≤ 9223372036854775807
      ·rw [if_pos c33] at H
       have c33b0 := eq_true c33
       have c33b1 : decide (((⟨#[67, 111, 110, 116, 97, 105, 110, 101, 114, 32]⟩ : ByteArray) ++ a0_1).size + 29 ≤ 9223372036854775807) = true := decide_eq_true c33
       try have c33b2 : (9223372036854775807 < ((⟨#[67, 111, 110, 116, 97, 105, 110, 101, 114, 32]⟩ : ByteArray) ++ a0_1).size + 29) = False := eq_false (Nat.not_lt.2 c33)
       have c33z0 : (⟨#[67, 111, 110, 116, 97, 105, 110, 101, 114, 32]⟩ : ByteArray).size = 10 := rfl
       have c33b3 := c33
       try simp only [ByteArray.size_extract, ByteArray.size_append, c33z0] at c33b3
       have c33b4 := eq_false (Nat.not_lt.2 c33b3)
       replace H := Option.bind_eq_some_iff.mp H
       obtain ⟨t278, A340, H⟩ := H
       try dsimp only at H
       have A34 := Ac.mk A340
       clear A340
       by_cases c35 : (((⟨#[67, 111, 110, 116, 97, 105, 110, 101, 114, 32]⟩ : ByteArray) ++ a0_1) ++ (⟨#[32, 105, 115, 32, 114, 101, 97, 100, 121, 32, 102, 111, 114, 32, 112, 105, 99, 107, 117, 112, 32, 105, 110, 32, 115, 108, 111, 116, 32]⟩ : ByteArray)).size + t278.size ≤ 9223372036854775807
       ·rw [if_pos c35] at H
        have c35b0 := eq_true c35
        have c35b1 : decide ((((⟨#[67, 111, 110, 116, 97, 105, 110, 101, 114, 32]⟩ : ByteArray) ++ a0_1) ++ (⟨#[32, 105, 115, 32, 114, 101, 97, 100, 121, 32, 102, 111, 114, 32, 112, 105, 99, 107, 117, 112, 32, 105, 110, 32, 115, 108, 111, 116, 32]⟩ : ByteArray)).size + t278.size ≤ 9223372036854775807) = true := decide_eq_true c35
        try have c35b2 : (9223372036854775807 < (((⟨#[67, 111, 110, 116, 97, 105, 110, 101, 114, 32]⟩ : ByteArray) ++ a0_1) ++ (⟨#[32, 105, 115, 32, 114, 101, 97, 100, 121, 32, 102, 111, 114, 32, 112, 105, 99, 107, 117, 112, 32, 105, 110, 32, 115, 108, 111, 116, 32]⟩ : ByteArray)).size + t278.size) = False := eq_false (Nat.not_lt.2 c35)
        have c35z0 : (⟨#[32, 105, 115, 32, 114, 101, 97, 100, 121, 32, 102, 111, 114, 32, 112, 105, 99, 107, 117, 112, 32, 105, 110, 32, 115, 108, 111, 116, 32]⟩ : ByteArray).size = 29 := rfl
        have c35z1 : (⟨#[67, 111, 110, 116, 97, 105, 110, 101, 114, 32]⟩ : ByteArray).size = 10 := rfl
        have c35b3 := c35
        try simp only [ByteArray.size_extract, ByteArray.size_append, c35z0, c35z1] at c35b3
        have c35b4 := eq_false (Nat.not_lt.2 c35b3)
        by_cases c36 : ((((⟨#[67, 111, 110, 116, 97, 105, 110, 101, 114, 32]⟩ : ByteArray) ++ a0_1) ++ (⟨#[32, 105, 115, 32, 114, 101, 97, 100, 121, 32, 102, 111, 114, 32, 112, 105, 99, 107, 117, 112, 32, 105, 110, 32, 115, 108, 111, 116, 32]⟩ : ByteArray)) ++ t278).size + 1 ≤ 9223372036854775807
        ·rw [if_pos c36] at H
         have c36b0 := eq_true c36
         have c36b1 : decide (((((⟨#[67, 111, 110, 116, 97, 105, 110, 101, 114, 32]⟩ : ByteArray) ++ a0_1) ++ (⟨#[32, 105, 115, 32, 114, 101, 97, 100, 121, 32, 102, 111, 114, 32, 112, 105, 99, 107, 117, 112, 32, 105, 110, 32, 115, 108, 111, 116, 32]⟩ : ByteArray)) ++ t278).size + 1 ≤ 9223372036854775807) = true := decide_eq_true c36
         try have c36b2 : (9223372036854775807 < ((((⟨#[67, 111, 110, 116, 97, 105, 110, 101, 114, 32]⟩ : ByteArray) ++ a0_1) ++ (⟨#[32, 105, 115, 32, 114, 101, 97, 100, 121, 32, 102, 111, 114, 32, 112, 105, 99, 107, 117, 112, 32, 105, 110, 32, 115, 108, 111, 116, 32]⟩ : ByteArray)) ++ t278).size + 1) = False := eq_false (Nat.not_lt.2 c36)
         have c36z0 : (⟨#[32, 105, 115, 32, 114, 101, 97, 100, 121, 32, 102, 111, 114, 32, 112, 105, 99, 107, 117, 112, 32, 105, 110, 32, 115, 108, 111, 116, 32]⟩ : ByteArray).size = 29 := rfl
         have c36z1 : (⟨#[67, 111, 110, 116, 97, 105, 110, 101, 114, 32]⟩ : ByteArray).size = 10 := rfl
         have c36b3 := c36
         try simp only [ByteArray.size_extract, ByteArray.size_append, c36z0, c36z1] at c36b3
         have c36b4 := eq_false (Nat.not_lt.2 c36b3)
         obtain rfl := Option.some.inj H
         go_enter Tryz.func22, Tryz.ntmps22
         go_wp2_with (first | ((with_reducible refine Dl (N := 1) rfl ?_); refine Dz ?hg (N := 1) ?hd (cs := #[.int .i64 a0_0, .string a0_1, .int .i64 a0_2, .int .i64 a0_3]) (t := 25) ?hr ?_; (case hd => rfl); (case hg => rfl); (case hr => first | (go_simp; done) | (go_simp; rfl)); intro gb0 hg w37 hbox hb; have n0_ := Ac.mk (Ar Yb_ hb); have n1_ := Ac.mk (hbox); have n2_ := Ac.mk ((by rw [hg]; exact (Ba Yb_) : w.heap.size ≤ gb0)); have n3_ := Ac.mk ((by rw [hg]; exact (Ba Yb_) : w.heap.size ≤ gb0)); clear HB; have HB := n0_; have BK0 := n1_; have GW0 := n2_; have GE0 := n3_; clear n0_ n1_ n2_ n3_; clear hb hbox hg; have hcz38_0 : w37.cell? ⟨gb0, 0, none⟩ = some (.int .i64 a0_0) := (Ak BK0.out 0).trans rfl; have hcz38_1 : w37.cell? ⟨gb0, 1, none⟩ = some (.string a0_1) := (Ak BK0.out 1).trans rfl; have hcz38_2 : w37.cell? ⟨gb0, 2, none⟩ = some (.int .i64 a0_2) := (Ak BK0.out 2).trans rfl; have hcz38_3 : w37.cell? ⟨gb0, 3, none⟩ = some (.int .i64 a0_3) := (Ak BK0.out 3).trans rfl; have hfz38_0 := Ai BK0.out 0; have hfz38_1 := Ai BK0.out 1; have hfz38_2 := Ai BK0.out 2; have hfz38_3 := Ai BK0.out 3) | ((with_reducible refine Ap (f := 42) rfl ?_); refine Bj (some 53) rfl rfl Tryz.func42 (by kernel_rfl) rfl #[.int .i64 a0_2] rfl Ya_ ?_; (with_reducible refine (Dn.calls k a0_2 t278 _ A34.out).mono ?_); rintro e w39 ⟨rfl, hb⟩; refine ⟨_, rfl, ?_⟩; have n0_ := Ac.mk (Bi (g := gb0) (o := .cells #[.int .i64 a0_0, .string a0_1, .int .i64 a0_2, .int .i64 a0_3] 25 (0, 0)) Yd_ hb); have n1_ := Ac.mk (Ar Yc_ hb); clear BK0; clear HB; have BK0 := n0_; have HB := n1_; clear n0_ n1_; (try clear hb); (try clear hb2); (try clear hk); (try clear hi)))
         go_ret
         exact ⟨by first | rfl | (simp [Au, Aw] <;> rfl) | (simp [*, Au, Aw] <;> rfl), by repeat (first | (with_reducible first | exact HB.out | apply Ae | apply Aa | apply Ad | refine Am ?_ GE0.out) | exact HB.out)⟩
        ·rw [if_neg c36] at H
         exact absurd H (by simp)
       ·rw [if_neg c35] at H
        exact absurd H (by simp)
      ·rw [if_neg c33] at H
       exact absurd H (by simp)
     ·rw [if_neg c32] at H
      have c32b0 : (a0_0 == 4) = false := beq_eq_false_iff_ne.mpr c32
      have c32b1 : (a0_0 != 4) = true := bne_iff_ne.mpr c32
      by_cases c40 : ((⟨#[67, 111, 110, 116, 97, 105, 110, 101, 114, 32]⟩ : ByteArray) ++ a0_1).size + 6 ≤ 9223372036854775807
      ·rw [if_pos c40] at H
       have c40b0 := eq_true c40
       have c40b1 : decide (((⟨#[67, 111, 110, 116, 97, 105, 110, 101, 114, 32]⟩ : ByteArray) ++ a0_1).size + 6 ≤ 9223372036854775807) = true := decide_eq_true c40
       try have c40b2 : (9223372036854775807 < ((⟨#[67, 111, 110, 116, 97, 105, 110, 101, 114, 32]⟩ : ByteArray) ++ a0_1).size + 6) = False := eq_false (Nat.not_lt.2 c40)
       have c40z0 : (⟨#[67, 111, 110, 116, 97, 105, 110, 101, 114, 32]⟩ : ByteArray).size = 10 := rfl
       have c40b3 := c40
       try simp only [ByteArray.size_extract, ByteArray.size_append, c40z0] at c40b3
       have c40b4 := eq_false (Nat.not_lt.2 c40b3)
       replace H := Option.bind_eq_some_iff.mp H
       obtain ⟨t279, A410, H⟩ := H
       try dsimp only at H
       have A41 := Ac.mk A410
       clear A410
       by_cases c42 : (((⟨#[67, 111, 110, 116, 97, 105, 110, 101, 114, 32]⟩ : ByteArray) ++ a0_1) ++ (⟨#[32, 111, 119, 101, 115, 32]⟩ : ByteArray)).size + t279.size ≤ 9223372036854775807
       ·rw [if_pos c42] at H
        have c42b0 := eq_true c42
        have c42b1 : decide ((((⟨#[67, 111, 110, 116, 97, 105, 110, 101, 114, 32]⟩ : ByteArray) ++ a0_1) ++ (⟨#[32, 111, 119, 101, 115, 32]⟩ : ByteArray)).size + t279.size ≤ 9223372036854775807) = true := decide_eq_true c42
        try have c42b2 : (9223372036854775807 < (((⟨#[67, 111, 110, 116, 97, 105, 110, 101, 114, 32]⟩ : ByteArray) ++ a0_1) ++ (⟨#[32, 111, 119, 101, 115, 32]⟩ : ByteArray)).size + t279.size) = False := eq_false (Nat.not_lt.2 c42)
        have c42z0 : (⟨#[32, 111, 119, 101, 115, 32]⟩ : ByteArray).size = 6 := rfl
        have c42z1 : (⟨#[67, 111, 110, 116, 97, 105, 110, 101, 114, 32]⟩ : ByteArray).size = 10 := rfl
        have c42b3 := c42
        try simp only [ByteArray.size_extract, ByteArray.size_append, c42z0, c42z1] at c42b3
        have c42b4 := eq_false (Nat.not_lt.2 c42b3)
        by_cases c43 : ((((⟨#[67, 111, 110, 116, 97, 105, 110, 101, 114, 32]⟩ : ByteArray) ++ a0_1) ++ (⟨#[32, 111, 119, 101, 115, 32]⟩ : ByteArray)) ++ t279).size + 5 ≤ 9223372036854775807
        ·rw [if_pos c43] at H
         have c43b0 := eq_true c43
         have c43b1 : decide (((((⟨#[67, 111, 110, 116, 97, 105, 110, 101, 114, 32]⟩ : ByteArray) ++ a0_1) ++ (⟨#[32, 111, 119, 101, 115, 32]⟩ : ByteArray)) ++ t279).size + 5 ≤ 9223372036854775807) = true := decide_eq_true c43
         try have c43b2 : (9223372036854775807 < ((((⟨#[67, 111, 110, 116, 97, 105, 110, 101, 114, 32]⟩ : ByteArray) ++ a0_1) ++ (⟨#[32, 111, 119, 101, 115, 32]⟩ : ByteArray)) ++ t279).size + 5) = False := eq_false (Nat.not_lt.2 c43)
         have c43z0 : (⟨#[32, 111, 119, 101, 115, 32]⟩ : ByteArray).size = 6 := rfl
         have c43z1 : (⟨#[67, 111, 110, 116, 97, 105, 110, 101, 114, 32]⟩ : ByteArray).size = 10 := rfl
         have c43b3 := c43
         try simp only [ByteArray.size_extract, ByteArray.size_append, c43z0, c43z1] at c43b3
         have c43b4 := eq_false (Nat.not_lt.2 c43b3)
         replace H := Option.bind_eq_some_iff.mp H
         obtain ⟨t280, A440, H⟩ := H
         try dsimp only at H
         have A44 := Ac.mk A440
         clear A440
         by_cases c45 : (((((⟨#[67, 111, 110, 116, 97, 105, 110, 101, 114, 32]⟩ : ByteArray) ++ a0_1) ++ (⟨#[32, 111, 119, 101, 115, 32]⟩ : ByteArray)) ++ t279) ++ (⟨#[32, 102, 111, 114, 32]⟩ : ByteArray)).size + t280.size ≤ 9223372036854775807
         ·rw [if_pos c45] at H
          have c45b0 := eq_true c45
          have c45b1 : decide ((((((⟨#[67, 111, 110, 116, 97, 105, 110, 101, 114, 32]⟩ : ByteArray) ++ a0_1) ++ (⟨#[32, 111, 119, 101, 115, 32]⟩ : ByteArray)) ++ t279) ++ (⟨#[32, 102, 111, 114, 32]⟩ : ByteArray)).size + t280.size ≤ 9223372036854775807) = true := decide_eq_true c45
          try have c45b2 : (9223372036854775807 < (((((⟨#[67, 111, 110, 116, 97, 105, 110, 101, 114, 32]⟩ : ByteArray) ++ a0_1) ++ (⟨#[32, 111, 119, 101, 115, 32]⟩ : ByteArray)) ++ t279) ++ (⟨#[32, 102, 111, 114, 32]⟩ : ByteArray)).size + t280.size) = False := eq_false (Nat.not_lt.2 c45)
          have c45z0 : (⟨#[32, 102, 111, 114, 32]⟩ : ByteArray).size = 5 := rfl
          have c45z1 : (⟨#[32, 111, 119, 101, 115, 32]⟩ : ByteArray).size = 6 := rfl
          have c45z2 : (⟨#[67, 111, 110, 116, 97, 105, 110, 101, 114, 32]⟩ : ByteArray).size = 10 := rfl
          have c45b3 := c45
          try simp only [ByteArray.size_extract, ByteArray.size_append, c45z0, c45z1, c45z2] at c45b3
          have c45b4 := eq_false (Nat.not_lt.2 c45b3)
          by_cases c46 : ((((((⟨#[67, 111, 110, 116, 97, 105, 110, 101, 114, 32]⟩ : ByteArray) ++ a0_1) ++ (⟨#[32, 111, 119, 101, 115, 32]⟩ : ByteArray)) ++ t279) ++ (⟨#[32, 102, 111, 114, 32]⟩ : ByteArray)) ++ t280).size + 1 ≤ 9223372036854775807
          ·rw [if_pos c46] at H
           have c46b0 := eq_true c46
           have c46b1 : decide (((((((⟨#[67, 111, 110, 116, 97, 105, 110, 101, 114, 32]⟩ : ByteArray) ++ a0_1) ++ (⟨#[32, 111, 119, 101, 115, 32]⟩ : ByteArray)) ++ t279) ++ (⟨#[32, 102, 111, 114, 32]⟩ : ByteArray)) ++ t280).size + 1 ≤ 9223372036854775807) = true := decide_eq_true c46
           try have c46b2 : (9223372036854775807 < ((((((⟨#[67, 111, 110, 116, 97, 105, 110, 101, 114, 32]⟩ : ByteArray) ++ a0_1) ++ (⟨#[32, 111, 119, 101, 115, 32]⟩ : ByteArray)) ++ t279) ++ (⟨#[32, 102, 111, 114, 32]⟩ : ByteArray)) ++ t280).size + 1) = False := eq_false (Nat.not_lt.2 c46)
           have c46z0 : (⟨#[32, 102, 111, 114, 32]⟩ : ByteArray).size = 5 := rfl
           have c46z1 : (⟨#[32, 111, 119, 101, 115, 32]⟩ : ByteArray).size = 6 := rfl
           have c46z2 : (⟨#[67, 111, 110, 116, 97, 105, 110, 101, 114, 32]⟩ : ByteArray).size = 10 := rfl
           have c46b3 := c46
           try simp only [ByteArray.size_extract, ByteArray.size_append, c46z0, c46z1, c46z2] at c46b3
           have c46b4 := eq_false (Nat.not_lt.2 c46b3)
           obtain rfl := Option.some.inj H
           go_enter Tryz.func22, Tryz.ntmps22
           try go_wp2_with (first | ((with_reducible refine Dl (N := 1) rfl ?_); refine Dz ?hg (N := 1) ?hd (cs := #[.int .i64 a0_0, .string a0_1, .int .i64 a0_2, .int .i64 a0_3]) (t := 25) ?hr ?_; (case hd => rfl); (case hg => rfl); (case hr => first | (go_simp; done) | (go_simp; rfl)); intro gb0 hg w47 hbox hb; have n0_ := Ac.mk (Ar Yb_ hb); have n1_ := Ac.mk (hbox); have n2_ := Ac.mk ((by rw [hg]; exact (Ba Yb_) : w.heap.size ≤ gb0)); have n3_ := Ac.mk ((by rw [hg]; exact (Ba Yb_) : w.heap.size ≤ gb0)); clear HB; have HB := n0_; have BK0 := n1_; have GW0 := n2_; have GE0 := n3_; clear n0_ n1_ n2_ n3_; clear hb hbox hg; have hcz48_0 : w47.cell? ⟨gb0, 0, none⟩ = some (.int .i64 a0_0) := (Ak BK0.out 0).trans rfl; have hcz48_1 : w47.cell? ⟨gb0, 1, none⟩ = some (.string a0_1) := (Ak BK0.out 1).trans rfl; have hcz48_2 : w47.cell? ⟨gb0, 2, none⟩ = some (.int .i64 a0_2) := (Ak BK0.out 2).trans rfl; have hcz48_3 : w47.cell? ⟨gb0, 3, none⟩ = some (.int .i64 a0_3) := (Ak BK0.out 3).trans rfl; have hfz48_0 := Ai BK0.out 0; have hfz48_1 := Ai BK0.out 1; have hfz48_2 := Ai BK0.out 2; have hfz48_3 := Ai BK0.out 3))
           have n0_ := Ac.mk (Ah BK0.out)
           have n1_ := Ac.mk (Ad HB.out)
           clear BK0
           clear HB
           have BK0 := n0_
           have HB := n1_
           clear n0_ n1_
           refine start_ (n := 13) (S := fun w' => w'.cell? ⟨gb0, 0, none⟩ = some (.int .i64 a0_0) ∧ w'.cell? ⟨gb0, 1, none⟩ = some (.string a0_1) ∧ w'.cell? ⟨gb0, 2, none⟩ = some (.int .i64 a0_2) ∧ w'.cell? ⟨gb0, 3, none⟩ = some (.int .i64 a0_3)) (ds := []) #[false, false, false, false, false, false, false, false, false, false, false, false, false] (by kernel_rfl) rfl rfl ⟨(Ak BK0.out 0).trans rfl, (Ak BK0.out 1).trans rfl, (Ak BK0.out 2).trans rfl, (Ak BK0.out 3).trans rfl⟩ (fun hHeld => ?_); refine H9 Dt.tab12 Dt.bits12 (fun HT_ HW_ => ?_)
           generalize w47.drew = w49 at BK0 HB hHeld ⊢
           refine Fb (i := 0) (N := some 56) (v := ?_) (a' := ?_) #[true, false, false, false, false, false, false, false, false, false, false, false, false] rfl rfl (Ew HT_.out (by kernel_rfl)) (fun _ _ _ h => h) (Or.inl ⟨by rfl, ?_⟩) ?_ ?_
           rotate_left
           ·intro w'
            go_simp
            first | with_reducible rfl | (rw [if_neg (by omega)]; try with_reducible rfl)
           rotate_left
           ·simp only [Act.put, List.setIfInBounds_toArray, List.set_cons_zero, List.set_cons_succ, Dw, Dy]
            rfl
           refine Fb (i := 1) (N := some 57) (v := ?_) (a' := ?_) #[true, true, false, false, false, false, false, false, false, false, false, false, false] rfl rfl (Ew HT_.out (by kernel_rfl)) (fun _ _ _ h => h) (Or.inl ⟨by rfl, ?_⟩) ?_ ?_
           rotate_left
           ·intro w'
            go_simp
            first | with_reducible rfl | (rw [if_neg (by omega)]; try with_reducible rfl)
           rotate_left
           ·simp only [Act.put, List.setIfInBounds_toArray, List.set_cons_zero, List.set_cons_succ, Dw, Dy]
            rfl
           refine Fb (i := 2) (N := some 58) (v := ?_) (a' := ?_) #[true, true, true, false, false, false, false, false, false, false, false, false, false] rfl rfl (Ew HT_.out (by kernel_rfl)) (fun _ _ _ h => h) (Or.inl ⟨by rfl, ?_⟩) ?_ ?_
           rotate_left
           ·intro w'
            go_simp
            first | with_reducible rfl | (rw [if_neg (by omega)]; try with_reducible rfl)
           rotate_left
           ·simp only [Act.put, List.setIfInBounds_toArray, List.set_cons_zero, List.set_cons_succ, Dw, Dy]
            rfl
           refine Fb (i := 7) (N := some 63) (v := ?_) (a' := ?_) #[true, true, true, false, false, false, false, true, false, false, false, false, false] rfl rfl (Ew HT_.out (by kernel_rfl)) (fun _ _ _ h => h) (Or.inl ⟨by rfl, ?_⟩) ?_ ?_
           rotate_left
           ·intro w'
            go_simp
            first | with_reducible rfl | (rw [if_neg (by omega)]; try with_reducible rfl)
           rotate_left
           ·simp only [Act.put, List.setIfInBounds_toArray, List.set_cons_zero, List.set_cons_succ, Dw, Dy]
            rfl
           refine He (i := 3) (N := some 59) (v := ?_) (a' := ?_) #[true, true, true, true, false, false, false, true, false, false, false, false, false] rfl rfl (Gs HT_.out HW_.out (by kernel_rfl)) (fun _ _ _ h => h) (Or.inl ⟨by rfl, ?_⟩) hHeld ?_ ?_
           rotate_left
           ·rintro w' ⟨s0, s1, s2, s3⟩
            go_simp
            first | with_reducible rfl | (rw [if_neg (by omega)]; try with_reducible rfl)
           rotate_left
           ·simp only [Act.put, List.setIfInBounds_toArray, List.set_cons_zero, List.set_cons_succ, Dw, Dy]
            rfl
           refine He (i := 8) (N := some 64) (v := ?_) (a' := ?_) #[true, true, true, true, false, false, false, true, true, false, false, false, false] rfl rfl (Gs HT_.out HW_.out (by kernel_rfl)) (fun _ _ _ h => h) (Or.inl ⟨by rfl, ?_⟩) hHeld ?_ ?_
           rotate_left
           ·rintro w' ⟨s0, s1, s2, s3⟩
            go_simp
            first | with_reducible rfl | (rw [if_neg (by omega)]; try with_reducible rfl)
           rotate_left
           ·simp only [Act.put, List.setIfInBounds_toArray, List.set_cons_zero, List.set_cons_succ, Dw, Dy]
            rfl
           refine one_ (i := 4) (N := some 60) #[true, true, true, true, true, false, false, true, true, false, false, false, false] rfl rfl (Hg HT_.out (by kernel_rfl)) (by decide) (fun K hK => ?_)
           refine goes_ Tryz.func42 (by kernel_rfl) rfl #[.int .i64 a0_2] (by rfl) rfl rfl Ya_ ?_
           with_reducible refine (Dn.calls k a0_2 t279 _ A41.out).mono ?_
           rintro e w50 ⟨rfl, hb⟩
           refine ⟨_, rfl, ?_⟩
           have n0_ := Ac.mk (Bi (g := gb0) (o := .cells #[.int .i64 a0_0, .string a0_1, .int .i64 a0_2, .int .i64 a0_3] 25 (0, 0)) Yd_ hb)
           have n1_ := Ac.mk (Ar Yc_ hb)
           clear BK0
           clear HB
           have BK0 := n0_
           have HB := n1_
           clear n0_ n1_
           (try clear hb)
           (try clear hb2)
           (try clear hk)
           (try clear hi)
           refine hK.out _ _ ⟨(Ak BK0.out 0).trans rfl, (Ak BK0.out 1).trans rfl, (Ak BK0.out 2).trans rfl, (Ak BK0.out 3).trans rfl⟩ (fun hHeld => ?_)
           clear hK K
           refine norm_ (a' := ?_) ?_ ?_
           rotate_left
           ·show Act.put _ (some 60) _ = _
            simp only [Act.put, List.setIfInBounds_toArray, List.set_cons_zero, List.set_cons_succ, Dw, Dy]
            rfl
           refine Fb (i := 5) (N := some 61) (v := ?_) (a' := ?_) #[true, true, true, true, true, true, false, true, true, false, false, false, false] rfl rfl (Ew HT_.out (by kernel_rfl)) (fun _ _ _ h => h) (Or.inl ⟨by rfl, ?_⟩) ?_ ?_
           rotate_left
           ·intro w'
            go_simp
            first | with_reducible rfl | (rw [if_neg (by omega)]; try with_reducible rfl)
           rotate_left
           ·simp only [Act.put, List.setIfInBounds_toArray, List.set_cons_zero, List.set_cons_succ, Dw, Dy]
            rfl
           refine Fb (i := 6) (N := some 62) (v := ?_) (a' := ?_) #[true, true, true, true, true, true, true, true, true, false, false, false, false] rfl rfl (Ew HT_.out (by kernel_rfl)) (fun _ _ _ h => h) (Or.inl ⟨by rfl, ?_⟩) ?_ ?_
           rotate_left
           ·intro w'
            go_simp
            first | with_reducible rfl | (rw [if_neg (by omega)]; try with_reducible rfl)
           rotate_left
           ·simp only [Act.put, List.setIfInBounds_toArray, List.set_cons_zero, List.set_cons_succ, Dw, Dy]
            rfl
           refine one_ (i := 9) (N := some 65) #[true, true, true, true, true, true, true, true, true, true, false, false, false] rfl rfl (Hg HT_.out (by kernel_rfl)) (by decide) (fun K hK => ?_)
           refine goes_ Tryz.func43 (by kernel_rfl) rfl #[.int .i64 a0_3] (by rfl) rfl rfl Ya_ ?_
           with_reducible refine (Gy.calls k a0_3 t280 _ A44.out).mono ?_
           rintro e w51 ⟨rfl, hb⟩
           refine ⟨_, rfl, ?_⟩
           have n0_ := Ac.mk (Bi (g := gb0) (o := .cells #[.int .i64 a0_0, .string a0_1, .int .i64 a0_2, .int .i64 a0_3] 25 (0, 0)) Yd_ hb)
           have n1_ := Ac.mk (Ar Yc_ hb)
           clear BK0
           clear HB
           have BK0 := n0_
           have HB := n1_
           clear n0_ n1_
           (try clear hb)
           (try clear hb2)
           (try clear hk)
           (try clear hi)
           refine hK.out _ _ ⟨(Ak BK0.out 0).trans rfl, (Ak BK0.out 1).trans rfl, (Ak BK0.out 2).trans rfl, (Ak BK0.out 3).trans rfl⟩ (fun hHeld => ?_)
           clear hK K
           refine norm_ (a' := ?_) ?_ ?_
           rotate_left
           ·show Act.put _ (some 65) _ = _
            simp only [Act.put, List.setIfInBounds_toArray, List.set_cons_zero, List.set_cons_succ, Dw, Dy]
            rfl
           refine Fb (i := 10) (N := some 66) (v := ?_) (a' := ?_) #[true, true, true, true, true, true, true, true, true, true, true, false, false] rfl rfl (Ew HT_.out (by kernel_rfl)) (fun _ _ _ h => h) (Or.inl ⟨by rfl, ?_⟩) ?_ ?_
           rotate_left
           ·intro w'
            go_simp
            first | with_reducible rfl | (rw [if_neg (by omega)]; try with_reducible rfl)
           rotate_left
           ·simp only [Act.put, List.setIfInBounds_toArray, List.set_cons_zero, List.set_cons_succ, Dw, Dy]
            rfl
           refine Fb (i := 11) (N := some 67) (v := ?_) (a' := ?_) #[true, true, true, true, true, true, true, true, true, true, true, true, false] rfl rfl (Ew HT_.out (by kernel_rfl)) (fun _ _ _ h => h) (Or.inl ⟨by rfl, ?_⟩) ?_ ?_
           rotate_left
           ·intro w'
            go_simp
            first | with_reducible rfl | (rw [if_neg (by omega)]; try with_reducible rfl)
           rotate_left
           ·simp only [Act.put, List.setIfInBounds_toArray, List.set_cons_zero, List.set_cons_succ, Dw, Dy]
            rfl
           refine Fb (i := 12) (N := some 2) (v := ?_) (a' := ?_) #[true, true, true, true, true, true, true, true, true, true, true, true, true] rfl rfl (Ew HT_.out (by kernel_rfl)) (fun _ _ _ h => h) (Or.inl ⟨by rfl, ?_⟩) ?_ ?_
           rotate_left
           ·intro w'
            go_simp
            first | with_reducible rfl | (rw [if_neg (by omega)]; try with_reducible rfl)
           rotate_left
           ·simp only [Act.put, List.setIfInBounds_toArray, List.set_cons_zero, List.set_cons_succ, Dw, Dy]
            rfl
           refine done_ (Io HT_.out (by kernel_rfl)) ?_
           try go_wp2
           go_ret
           exact ⟨by first | rfl | (simp [Au, Aw] <;> rfl) | (simp [*, Au, Aw] <;> rfl), by repeat (first | (with_reducible first | exact HB.out | apply Ae | apply Aa | apply Ad | refine Am ?_ GE0.out) | exact HB.out)⟩
          ·rw [if_neg c46] at H
           exact absurd H (by simp)
         ·rw [if_neg c45] at H
          exact absurd H (by simp)
        ·rw [if_neg c43] at H
         exact absurd H (by simp)
       ·rw [if_neg c42] at H
        exact absurd H (by simp)
      ·rw [if_neg c40] at H
       exact absurd H (by simp)
 ·rw [if_neg c2] at H
  exact absurd H (by simp)
def Ep.f (k : Nat) (a0_0 : Int) (a0_1 : ByteArray) (a0_2 : Int) (a0_3 : Int) : Option (ByteArray × Bool) := (E8.f k a0_0 a0_1 a0_2 a0_3).bind fun t282 => (if t282 = true then ((Dt.f k a0_0 a0_1 a0_2 a0_3).bind fun t283 => (some (t283, true))) else (some ((⟨#[]⟩ : ByteArray), false)))
theorem Ep.mono : ∀ a0 a1 a2 a3 k, LeO (Ep.f k a0 a1 a2 a3) (Ep.f (k + 1) a0 a1 a2 a3) := by
 intro a0 a1 a2 a3 k
 unfold Ep.f
 repeat' first
   | (with_reducible exact E8.mono _ _ _ _ _)
   | (with_reducible exact Dt.mono _ _ _ _ _)
   | (with_reducible exact LeO.refl _)
   | (with_reducible exact LeO.none _)
   | (with_reducible refine LeO.ite ?_ ?_)
   | (with_reducible refine LeO.bind ?_ (fun _ => ?_))
   | exact E8.mono _ _ _ _ _
   | exact Dt.mono _ _ _ _ _
   | exact LeO.none _
   | refine LeO.ite ?_ ?_
   | refine LeO.bind ?_ (fun _ => ?_)
set_option maxHeartbeats 8000000 in
set_option maxRecDepth 100000 in
theorem Ep.calls (k : Nat) (a0_0 : Int) (a0_1 : ByteArray) (a0_2 : Int) (a0_3 : Int) (r1 : ByteArray) (r2 : Bool) (w : World) (h : Ep.f k a0_0 a0_1 a0_2 a0_3 = some (r1, r2)) :
  Calls Tryz.prog 7 #[.agg #[.int .i64 a0_0, .string a0_1, .int .i64 a0_2, .int .i64 a0_3]] w fun e w' => e = .returned (.tuple #[.string r1, .bool r2]) ∧ Below w.heap.size w w' := by
 have hu25 := Tryz.underlying25
 have HB := Ac.mk (Below.refl w.heap.size w)
 have H : ((E8.f k a0_0 a0_1 a0_2 a0_3).bind fun t282 => (if t282 = true then ((Dt.f k a0_0 a0_1 a0_2 a0_3).bind fun t283 => (some (t283, true))) else (some ((⟨#[]⟩ : ByteArray), false)))) = some (r1, r2) := h
 clear h
 replace H := Option.bind_eq_some_iff.mp H
 obtain ⟨t282, A20, H⟩ := H
 try dsimp only at H
 have A2 := Ac.mk A20
 clear A20
 by_cases c3 : t282 = true
 ·subst c3
  have H1 : ((Dt.f k a0_0 a0_1 a0_2 a0_3).bind fun t283 => (some (t283, true))) = some (r1, r2) := by rw [if_pos rfl] at H; exact H
  clear H
  have H := H1
  clear H1
  replace H := Option.bind_eq_some_iff.mp H
  obtain ⟨t283, A40, H⟩ := H
  try dsimp only at H
  have A4 := Ac.mk A40
  clear A40
  simp only [Option.some.injEq, Prod.mk.injEq] at H
  obtain ⟨rfl, rfl⟩ := H
  go_enter Tryz.func7, Tryz.ntmps7
  go_wp2_with (first | ((with_reducible refine Dl (N := 1) rfl ?_); refine Dz ?hg (N := 1) ?hd (cs := #[.int .i64 a0_0, .string a0_1, .int .i64 a0_2, .int .i64 a0_3]) (t := 25) ?hr ?_; (case hd => rfl); (case hg => rfl); (case hr => first | (go_simp; done) | (go_simp; rfl)); intro gb0 hg w5 hbox hb; have n0_ := Ac.mk (Ar Yb_ hb); have n1_ := Ac.mk (hbox); have n2_ := Ac.mk ((by rw [hg]; exact (Ba Yb_) : w.heap.size ≤ gb0)); have n3_ := Ac.mk ((by rw [hg]; exact (Ba Yb_) : w.heap.size ≤ gb0)); clear HB; have HB := n0_; have BK0 := n1_; have GW0 := n2_; have GE0 := n3_; clear n0_ n1_ n2_ n3_; clear hb hbox hg; have hcz6_0 : w5.cell? ⟨gb0, 0, none⟩ = some (.int .i64 a0_0) := (Ak BK0.out 0).trans rfl; have hcz6_1 : w5.cell? ⟨gb0, 1, none⟩ = some (.string a0_1) := (Ak BK0.out 1).trans rfl; have hcz6_2 : w5.cell? ⟨gb0, 2, none⟩ = some (.int .i64 a0_2) := (Ak BK0.out 2).trans rfl; have hcz6_3 : w5.cell? ⟨gb0, 3, none⟩ = some (.int .i64 a0_3) := (Ak BK0.out 3).trans rfl; have hfz6_0 := Ai BK0.out 0; have hfz6_1 := Ai BK0.out 1; have hfz6_2 := Ai BK0.out 2; have hfz6_3 := Ai BK0.out 3) | ((with_reducible refine Ap (f := 21) rfl ?_); refine Bj (some 5) rfl rfl Tryz.func21 (by kernel_rfl) rfl #[.agg #[.int .i64 a0_0, .string a0_1, .int .i64 a0_2, .int .i64 a0_3]] rfl Ya_ ?_; (with_reducible refine (E8.calls k a0_0 a0_1 a0_2 a0_3 true _ A2.out).mono ?_); rintro e w7 ⟨rfl, hb⟩; refine ⟨_, rfl, ?_⟩; have n0_ := Ac.mk (Bi (g := gb0) (o := .cells #[.int .i64 a0_0, .string a0_1, .int .i64 a0_2, .int .i64 a0_3] 25 (0, 0)) Yd_ hb); have n1_ := Ac.mk (Ar Yc_ hb); clear BK0; clear HB; have BK0 := n0_; have HB := n1_; clear n0_ n1_; (try clear hb); (try clear hb2); (try clear hk); (try clear hi); have hcz8_0 : w7.cell? ⟨gb0, 0, none⟩ = some (.int .i64 a0_0) := (Ak BK0.out 0).trans rfl; have hcz8_1 : w7.cell? ⟨gb0, 1, none⟩ = some (.string a0_1) := (Ak BK0.out 1).trans rfl; have hcz8_2 : w7.cell? ⟨gb0, 2, none⟩ = some (.int .i64 a0_2) := (Ak BK0.out 2).trans rfl; have hcz8_3 : w7.cell? ⟨gb0, 3, none⟩ = some (.int .i64 a0_3) := (Ak BK0.out 3).trans rfl; have hfz8_0 := Ai BK0.out 0; have hfz8_1 := Ai BK0.out 1; have hfz8_2 := Ai BK0.out 2; have hfz8_3 := Ai BK0.out 3) | ((with_reducible refine Ap (f := 22) rfl ?_); refine Bj (some 8) rfl rfl Tryz.func22 (by kernel_rfl) rfl #[.agg #[.int .i64 a0_0, .string a0_1, .int .i64 a0_2, .int .i64 a0_3]] rfl Ya_ ?_; (with_reducible refine (Dt.calls k a0_0 a0_1 a0_2 a0_3 t283 _ A4.out).mono ?_); rintro e w9 ⟨rfl, hb⟩; refine ⟨_, rfl, ?_⟩; have n0_ := Ac.mk (Bi (g := gb0) (o := .cells #[.int .i64 a0_0, .string a0_1, .int .i64 a0_2, .int .i64 a0_3] 25 (0, 0)) Yd_ hb); have n1_ := Ac.mk (Ar Yc_ hb); clear BK0; clear HB; have BK0 := n0_; have HB := n1_; clear n0_ n1_; (try clear hb); (try clear hb2); (try clear hk); (try clear hi)))
  go_ret2
  exact ⟨by first | rfl | (simp [Au, Aw] <;> rfl) | (simp [*, Au, Aw] <;> rfl), by repeat (first | (with_reducible first | exact HB.out | apply Ae | apply Aa | apply Ad | refine Am ?_ GE0.out) | exact HB.out)⟩
 ·replace c3 := Bool.eq_false_iff.mpr c3
  subst c3
  have H1 : (some ((⟨#[]⟩ : ByteArray), false)) = some (r1, r2) := by rw [if_neg (show ¬ (false = true) by decide)] at H; exact H
  clear H
  have H := H1
  clear H1
  simp only [Option.some.injEq, Prod.mk.injEq] at H
  obtain ⟨rfl, rfl⟩ := H
  go_enter Tryz.func7, Tryz.ntmps7
  go_wp2_with (first | ((with_reducible refine Dl (N := 1) rfl ?_); refine Dz ?hg (N := 1) ?hd (cs := #[.int .i64 a0_0, .string a0_1, .int .i64 a0_2, .int .i64 a0_3]) (t := 25) ?hr ?_; (case hd => rfl); (case hg => rfl); (case hr => first | (go_simp; done) | (go_simp; rfl)); intro gb0 hg w10 hbox hb; have n0_ := Ac.mk (Ar Yb_ hb); have n1_ := Ac.mk (hbox); have n2_ := Ac.mk ((by rw [hg]; exact (Ba Yb_) : w.heap.size ≤ gb0)); have n3_ := Ac.mk ((by rw [hg]; exact (Ba Yb_) : w.heap.size ≤ gb0)); clear HB; have HB := n0_; have BK0 := n1_; have GW0 := n2_; have GE0 := n3_; clear n0_ n1_ n2_ n3_; clear hb hbox hg; have hcz11_0 : w10.cell? ⟨gb0, 0, none⟩ = some (.int .i64 a0_0) := (Ak BK0.out 0).trans rfl; have hcz11_1 : w10.cell? ⟨gb0, 1, none⟩ = some (.string a0_1) := (Ak BK0.out 1).trans rfl; have hcz11_2 : w10.cell? ⟨gb0, 2, none⟩ = some (.int .i64 a0_2) := (Ak BK0.out 2).trans rfl; have hcz11_3 : w10.cell? ⟨gb0, 3, none⟩ = some (.int .i64 a0_3) := (Ak BK0.out 3).trans rfl; have hfz11_0 := Ai BK0.out 0; have hfz11_1 := Ai BK0.out 1; have hfz11_2 := Ai BK0.out 2; have hfz11_3 := Ai BK0.out 3) | ((with_reducible refine Ap (f := 21) rfl ?_); refine Bj (some 5) rfl rfl Tryz.func21 (by kernel_rfl) rfl #[.agg #[.int .i64 a0_0, .string a0_1, .int .i64 a0_2, .int .i64 a0_3]] rfl Ya_ ?_; (with_reducible refine (E8.calls k a0_0 a0_1 a0_2 a0_3 false _ A2.out).mono ?_); rintro e w12 ⟨rfl, hb⟩; refine ⟨_, rfl, ?_⟩; have n0_ := Ac.mk (Bi (g := gb0) (o := .cells #[.int .i64 a0_0, .string a0_1, .int .i64 a0_2, .int .i64 a0_3] 25 (0, 0)) Yd_ hb); have n1_ := Ac.mk (Ar Yc_ hb); clear BK0; clear HB; have BK0 := n0_; have HB := n1_; clear n0_ n1_; (try clear hb); (try clear hb2); (try clear hk); (try clear hi)))
  go_ret2
  exact ⟨by first | rfl | (simp [Au, Aw] <;> rfl) | (simp [*, Au, Aw] <;> rfl), by repeat (first | (with_reducible first | exact HB.out | apply Ae | apply Aa | apply Ad | refine Am ?_ GE0.out) | exact HB.out)⟩
def Df.j0 : Nat → ByteArray → List Int → Int → Int → Option (ByteArray)
 | 0, _, _, _, _ => none
 | k + 1, x4, x346000, x346001, x346002 => (Fq.f x346000 x346001 x346002 4).bind fun bt354 => (if bt354.1 = true then ((Fj.f x346000 bt354.2.1 bt354.2.2 x4 (⟨#[46, 32, 48, 49, 115]⟩ : ByteArray)).bind fun bt357 => (some bt357.1)) else (some x4))
def Df.f (k : Nat) (l0 : List Int) : Option (ByteArray) := (Bh.f k l0 0 0).bind fun bt346 => ((Ep.f k bt346.1 bt346.2.1 bt346.2.2.1 bt346.2.2.2.1).bind fun bt352 => (if bt352.2 = true then (Df.j0 k bt352.1 l0 bt346.2.2.2.2.1 bt346.2.2.2.2.2) else (Df.j0 k (⟨#[67, 111, 110, 116, 97, 105, 110, 101, 114, 32, 111, 119, 101, 115, 32, 49, 32, 102, 111, 114, 32, 49, 32, 100, 97, 121, 115, 46]⟩ : ByteArray) l0 bt346.2.2.2.2.1 bt346.2.2.2.2.2)))
theorem Df.Fa : ∀ k, (∀ y0 y1 y2 y3, LeO (Df.j0 k y0 y1 y2 y3) (Df.j0 (k + 1) y0 y1 y2 y3))
 | 0 => fun _ _ _ _ r h => by simp [Df.j0] at h
 | k + 1 => by
  have ih0 := Df.Fa k
  ·intro y0 y1 y2 y3
   unfold Df.j0
   repeat' first
   | (with_reducible exact ih0 _ _ _ _)
   | (with_reducible exact Ep.mono _ _ _ _ _)
   | (with_reducible exact Bh.mono _ _ _ _)
   | (with_reducible exact LeO.refl _)
   | (with_reducible exact LeO.none _)
   | (with_reducible refine LeO.ite ?_ ?_)
   | (with_reducible refine LeO.bind ?_ (fun _ => ?_))
   | exact ih0 _ _ _ _
   | exact Ep.mono _ _ _ _ _
   | exact Bh.mono _ _ _ _
   | exact LeO.none _
   | refine LeO.ite ?_ ?_
   | refine LeO.bind ?_ (fun _ => ?_)
theorem Df.mono : ∀ a0 k, LeO (Df.f k a0) (Df.f (k + 1) a0) := by
 intro a0 k
 have ih0 := Df.Fa k
 unfold Df.f
 repeat' first
   | (with_reducible exact ih0 _ _ _ _)
   | (with_reducible exact Ep.mono _ _ _ _ _)
   | (with_reducible exact Bh.mono _ _ _ _)
   | (with_reducible exact LeO.refl _)
   | (with_reducible exact LeO.none _)
   | (with_reducible refine LeO.ite ?_ ?_)
   | (with_reducible refine LeO.bind ?_ (fun _ => ?_))
   | exact ih0 _ _ _ _
   | exact Ep.mono _ _ _ _ _
   | exact Bh.mono _ _ _ _
   | exact LeO.none _
   | refine LeO.ite ?_ ?_
   | refine LeO.bind ?_ (fun _ => ?_)
set_option maxHeartbeats 8000000 in
set_option maxRecDepth 100000 in
theorem Df.calls (k : Nat) (A0 : Option Addr) (c0 : Nat) (l0 : List Int) (r : ByteArray) (w : World) (hr0 : Kd.C (Kd.int .u8) w A0 l0.length l0) (hc0 : l0.length ≤ c0) (h : Df.f k l0 = some r) :
  Calls Tryz.prog 10 #[.slice A0 l0.length c0] w fun e w' => e = .returned (.string r) ∧ Below w.heap.size w w' := by
 have hu48 := Tryz.underlying48
 have HR0 := Ac.mk hr0
 have HC0 := Ac.mk hc0
 clear hr0 hc0
 have HB := Ac.mk (Below.refl w.heap.size w)
 have H : ((Bh.f k l0 0 0).bind fun bt346 => ((Ep.f k bt346.1 bt346.2.1 bt346.2.2.1 bt346.2.2.2.1).bind fun bt352 => (if bt352.2 = true then (Df.j0 k bt352.1 l0 bt346.2.2.2.2.1 bt346.2.2.2.2.2) else (Df.j0 k (⟨#[67, 111, 110, 116, 97, 105, 110, 101, 114, 32, 111, 119, 101, 115, 32, 49, 32, 102, 111, 114, 32, 49, 32, 100, 97, 121, 115, 46]⟩ : ByteArray) l0 bt346.2.2.2.2.1 bt346.2.2.2.2.2)))) = some r := h
 clear h
 replace H := Option.bind_eq_some_iff.mp H
 obtain ⟨⟨t346, t347, t348, t349, t350, t351⟩, A20, H⟩ := H
 try dsimp only at H
 have A2 := Ac.mk A20
 clear A20
 replace H := Option.bind_eq_some_iff.mp H
 obtain ⟨⟨t352, t353⟩, A30, H⟩ := H
 try dsimp only at H
 have A3 := Ac.mk A30
 clear A30
 have HC4 := Ac.mk H
 clear H
 go_enter Tryz.func10, Tryz.ntmps10
 go_upto_if 16 with (first | ((with_reducible refine Dl (N := 8) rfl ?_); refine Dz ?hg (N := 8) ?hd (cs := #[.slice A0 l0.length c0, .int .i64 0, .int .u64 0]) (t := 48) ?hr ?_; (case hd => rfl); (case hg => rfl); (case hr => first | (go_simp; done) | (go_simp; rfl)); intro gb0 hg w5 hbox hb; have n0_ := Ac.mk (Ar Yb_ hb); have n1_ := Ac.mk ((by rw [hg]; exact (Ba Yb_) : w.heap.size ≤ gb0)); have n2_ := Ac.mk ((by rw [hg]; exact (Ba Yb_) : w.heap.size ≤ gb0)); have n3_ := Ac.mk ((⟨_, _, hbox, (by rw [hg]; exact (Ba Yb_)), HR0.out⟩ : Aj w w5 gb0 l0 0 0)); clear HB; have HB := n0_; have GW0 := n1_; have GE0 := n2_; have HI345 := n3_; clear n0_ n1_ n2_ n3_; clear hb hbox hg) | ((with_reducible refine Ap (f := 27) rfl ?_); refine Bj (some 11) rfl rfl Tryz.func27 (by kernel_rfl) rfl #[.pointer (some ⟨gb0, 0, none⟩)] rfl Ya_ ?_; (with_reducible refine (Bh.calls k gb0 l0 0 0 t346 t347 t348 t349 t350 t351 w _ ?side1 ?side2 A2.out).mono ?_); (case side1 => repeat (first | (with_reducible first | exact HI345.out | apply Aj.alloc | apply Aj.drewN | apply Aj.drew | apply Aj.Dv | apply Aj.Du) | exact HI345.out)); (case side2 => repeat (first | (with_reducible first | exact HB.out | apply Ae | apply Aa | apply Ad | refine Am ?_ (Aj.ge HI345.out)) | exact HB.out)); rintro e w6 ⟨rfl, hi, hb, hk⟩; refine ⟨_, rfl, ?_⟩; have n0_ := Ac.mk (hb); have n1_ := Ac.mk (hi); clear HB; clear HI345; have HB := n0_; have HI345 := n1_; clear n0_ n1_; (try clear hb); (try clear hb2); (try clear hk); (try clear hi)) | ((with_reducible refine Ap (f := 7) rfl ?_); refine Bj (some 12) rfl rfl Tryz.func7 (by kernel_rfl) rfl #[.agg #[.int .i64 t346, .string t347, .int .i64 t348, .int .i64 t349]] rfl Ya_ ?_; (with_reducible refine (Ep.calls k t346 t347 t348 t349 t352 t353 _ A3.out).mono ?_); rintro e w7 ⟨rfl, hb⟩; refine ⟨_, rfl, ?_⟩; have n0_ := Ac.mk (Aj.below (by repeat (first | (with_reducible first | exact HI345.out | apply Aj.alloc | apply Aj.drewN | apply Aj.drew | apply Aj.Dv | apply Aj.Du) | exact HI345.out)) hb); have n1_ := Ac.mk (Ar (by repeat (first | (with_reducible first | exact HB.out | apply Ae | apply Aa | apply Ad | refine Am ?_ (Aj.ge HI345.out)) | exact HB.out)) hb); clear HI345; clear HB; have HI345 := n0_; have HB := n1_; clear n0_ n1_; (try clear hb); (try clear hb2); (try clear hk); (try clear hi)))
 (try simp only [Act.put, List.setIfInBounds_toArray, List.set_cons_zero, List.set_cons_succ])
 go_cut [4] (fun v4 wc => ∃ (kq : Nat) (x4_3 : ByteArray), v4 = .string x4_3 ∧ Ac (Df.j0 kq x4_3 l0 t350 t351 = some r) ∧ Ac (kq ≤ k) ∧ Ac (Aj w wc gb0 l0 t350 t351) ∧ Ac (Below w.heap.size w wc))
 case first =>
  have H := HC4.out
  clear HC4
  by_cases c8 : t353 = true
  ·subst c8
   have H1 : (Df.j0 k t352 l0 t350 t351) = some r := by rw [if_pos rfl] at H; exact H
   clear H
   have H := H1
   clear H1
   have H' := Ac.mk H
   clear H
   go_wp2
   go_meet
   case rel => exact ⟨_, (t352), Yf_, H', ⟨by first | omega | exact Nat.le_refl _⟩, ⟨by repeat (first | (with_reducible first | exact HI345.out | apply Aj.alloc | apply Aj.drewN | apply Aj.drew | apply Aj.Dv | apply Aj.Du) | exact HI345.out)⟩, ⟨by repeat (first | (with_reducible first | exact HB.out | apply Ae | apply Aa | apply Ad | refine Am ?_ (Aj.ge HI345.out)) | exact HB.out)⟩⟩
  ·replace c8 := Bool.eq_false_iff.mpr c8
   subst c8
   have H1 : (Df.j0 k (⟨#[67, 111, 110, 116, 97, 105, 110, 101, 114, 32, 111, 119, 101, 115, 32, 49, 32, 102, 111, 114, 32, 49, 32, 100, 97, 121, 115, 46]⟩ : ByteArray) l0 t350 t351) = some r := by rw [if_neg (show ¬ (false = true) by decide)] at H; exact H
   clear H
   have H := H1
   clear H1
   have H' := Ac.mk H
   clear H
   go_wp2
   go_meet
   case rel => exact ⟨_, ((⟨#[67, 111, 110, 116, 97, 105, 110, 101, 114, 32, 111, 119, 101, 115, 32, 49, 32, 102, 111, 114, 32, 49, 32, 100, 97, 121, 115, 46]⟩ : ByteArray)), Yf_, H', ⟨by first | omega | exact Nat.le_refl _⟩, ⟨by repeat (first | (with_reducible first | exact HI345.out | apply Aj.alloc | apply Aj.drewN | apply Aj.drew | apply Aj.Dv | apply Aj.Du) | exact HI345.out)⟩, ⟨by repeat (first | (with_reducible first | exact HB.out | apply Ae | apply Aa | apply Ad | refine Am ?_ (Aj.ge HI345.out)) | exact HB.out)⟩⟩
 case rest =>
  clear HC4
  try clear c1; try clear c2; try clear p2; try clear c7; try clear c8
  obtain ⟨kq, x4_3, rfl, HA, HJ3, HI345, HB⟩ := hcut
  cases kq with
  | zero => exact absurd HA.out (by simp [Df.j0])
  | succ kj3 =>
   have H := HA.out
   clear HA
   simp only [Df.j0] at H
   replace H := Option.bind_eq_some_iff.mp H
   obtain ⟨⟨t354, t355, t356⟩, A90, H⟩ := H
   try dsimp only at H
   have A9 := Ac.mk A90
   clear A90
   by_cases c10 : t354 = true
   ·subst c10
    have H1 : ((Fj.f l0 t355 t356 x4_3 (⟨#[46, 32, 48, 49, 115]⟩ : ByteArray)).bind fun bt357 => (some bt357.1)) = some r := by rw [if_pos rfl] at H; exact H
    clear H
    have H := H1
    clear H1
    replace H := Option.bind_eq_some_iff.mp H
    obtain ⟨⟨t357, t358, t359⟩, A110, H⟩ := H
    try dsimp only at H
    have A11 := Ac.mk A110
    clear A110
    obtain rfl := Option.some.inj H
    go_wp2_with (first | ((with_reducible refine Ap (f := 28) rfl ?_); refine Bj (some 18) rfl rfl Tryz.func28 (by kernel_rfl) rfl #[.pointer (some ⟨gb0, 0, none⟩), .int .i64 4] rfl Ya_ ?_; (with_reducible refine (Fq.calls gb0 l0 t350 t351 4 true t355 t356 w _ ?side1 ?side2 A9.out).mono ?_); (case side1 => repeat (first | (with_reducible first | exact HI345.out | apply Aj.alloc | apply Aj.drewN | apply Aj.drew | apply Aj.Dv | apply Aj.Du) | exact HI345.out)); (case side2 => repeat (first | (with_reducible first | exact HB.out | apply Ae | apply Aa | apply Ad | refine Am ?_ (Aj.ge HI345.out)) | exact HB.out)); rintro e w12 ⟨rfl, hi, hb, hk⟩; refine ⟨_, rfl, ?_⟩; have n0_ := Ac.mk (hb); have n1_ := Ac.mk (hi); clear HB; clear HI345; have HB := n0_; have HI345 := n1_; clear n0_ n1_; (try clear hb); (try clear hb2); (try clear hk); (try clear hi)) | ((with_reducible refine Ap (f := 29) rfl ?_); refine Bj (some 21) rfl rfl Tryz.func29 (by kernel_rfl) rfl #[.pointer (some ⟨gb0, 0, none⟩), .string x4_3, .string (⟨#[46, 32, 48, 49, 115]⟩ : ByteArray)] rfl Ya_ ?_; (with_reducible refine (Fj.calls gb0 l0 t355 t356 x4_3 (⟨#[46, 32, 48, 49, 115]⟩ : ByteArray) t357 t358 t359 w _ ?side1 ?side2 A11.out).mono ?_); (case side1 => repeat (first | (with_reducible first | exact HI345.out | apply Aj.alloc | apply Aj.drewN | apply Aj.drew | apply Aj.Dv | apply Aj.Du) | exact HI345.out)); (case side2 => repeat (first | (with_reducible first | exact HB.out | apply Ae | apply Aa | apply Ad | refine Am ?_ (Aj.ge HI345.out)) | exact HB.out)); rintro e w13 ⟨rfl, hi, hb, hk⟩; refine ⟨_, rfl, ?_⟩; have n0_ := Ac.mk (hb); have n1_ := Ac.mk (hi); clear HB; clear HI345; have HB := n0_; have HI345 := n1_; clear n0_ n1_; (try clear hb); (try clear hb2); (try clear hk); (try clear hi)))
    go_ret
    exact ⟨by first | rfl | (simp [Au, Aw] <;> rfl) | (simp [*, Au, Aw] <;> rfl), by repeat (first | (with_reducible first | exact HB.out | apply Ae | apply Aa | apply Ad | refine Am ?_ (Aj.ge HI345.out)) | exact HB.out)⟩
   ·replace c10 := Bool.eq_false_iff.mpr c10
    subst c10
    have H1 : (some x4_3) = some r := by rw [if_neg (show ¬ (false = true) by decide)] at H; exact H
    clear H
    have H := H1
    clear H1
    obtain rfl := Option.some.inj H
    go_wp2_with (first | ((with_reducible refine Ap (f := 28) rfl ?_); refine Bj (some 18) rfl rfl Tryz.func28 (by kernel_rfl) rfl #[.pointer (some ⟨gb0, 0, none⟩), .int .i64 4] rfl Ya_ ?_; (with_reducible refine (Fq.calls gb0 l0 t350 t351 4 false t355 t356 w _ ?side1 ?side2 A9.out).mono ?_); (case side1 => repeat (first | (with_reducible first | exact HI345.out | apply Aj.alloc | apply Aj.drewN | apply Aj.drew | apply Aj.Dv | apply Aj.Du) | exact HI345.out)); (case side2 => repeat (first | (with_reducible first | exact HB.out | apply Ae | apply Aa | apply Ad | refine Am ?_ (Aj.ge HI345.out)) | exact HB.out)); rintro e w14 ⟨rfl, hi, hb, hk⟩; refine ⟨_, rfl, ?_⟩; have n0_ := Ac.mk (hb); have n1_ := Ac.mk (hi); clear HB; clear HI345; have HB := n0_; have HI345 := n1_; clear n0_ n1_; (try clear hb); (try clear hb2); (try clear hk); (try clear hi)))
    go_ret
    exact ⟨by first | rfl | (simp [Au, Aw] <;> rfl) | (simp [*, Au, Aw] <;> rfl), by repeat (first | (with_reducible first | exact HB.out | apply Ae | apply Aa | apply Ad | refine Am ?_ (Aj.ge HI345.out)) | exact HB.out)⟩
def Cc.f (a0 : ByteArray) (a1 : ByteArray) : Option (ByteArray × Bool) := if (a0.size : Int) < (a1.size : Int) then (some ((⟨#[]⟩ : ByteArray), false)) else (if 0 ≤ (a1.size : Int) then (if (a1.size : Int) ≤ (a0.size : Int) then (if (a0.extract 0 ((a1.size : Int) : Int).toNat).toList = a1.toList then (some (a0.extract ((a1.size : Int) : Int).toNat a0.size, true)) else (some ((⟨#[]⟩ : ByteArray), false))) else (none)) else (none))
set_option maxHeartbeats 8000000 in
set_option maxRecDepth 100000 in
theorem Cc.calls (a0 : ByteArray) (a1 : ByteArray) (r1 : ByteArray) (r2 : Bool) (w : World) (h : Cc.f a0 a1 = some (r1, r2)) :
  Calls Tryz.prog 30 #[.string a0, .string a1] w fun e w' => e = .returned (.tuple #[.string r1, .bool r2]) ∧ C9 w w' := by
 have H : (if (a0.size : Int) < (a1.size : Int) then (some ((⟨#[]⟩ : ByteArray), false)) else (if 0 ≤ (a1.size : Int) then (if (a1.size : Int) ≤ (a0.size : Int) then (if (a0.extract 0 ((a1.size : Int) : Int).toNat).toList = a1.toList then (some (a0.extract ((a1.size : Int) : Int).toNat a0.size, true)) else (some ((⟨#[]⟩ : ByteArray), false))) else (none)) else (none))) = some (r1, r2) := h
 clear h
 by_cases c3 : (a0.size : Int) < (a1.size : Int)
 ·rw [if_pos c3] at H
  have c3b0 : decide ((a0.size : Int) < (a1.size : Int)) = true := decide_eq_true c3
  have c3b1 : decide (a0.size < a1.size) = true := decide_eq_true (Int.ofNat_lt.mp c3)
  clear c3
  simp only [Option.some.injEq, Prod.mk.injEq] at H
  obtain ⟨rfl, rfl⟩ := H
  go_enter Tryz.func30, Tryz.ntmps30
  go_wp2
  go_ret2
  exact ⟨by first | rfl | (simp; done) | (simp [*]; done), by repeat (first | exact C9.refl _ | apply C9.step)⟩
 ·rw [if_neg c3] at H
  have c3b0 : decide ((a0.size : Int) < (a1.size : Int)) = false := decide_eq_false c3
  have c3b1 : decide (a0.size < a1.size) = false := decide_eq_false (fun h => c3 (Int.ofNat_lt.mpr h))
  clear c3
  by_cases c4 : 0 ≤ (a1.size : Int)
  ·rw [if_pos c4] at H
   have c4b0 := eq_true c4
   have c4b1 : decide (0 ≤ (a1.size : Int)) = true := decide_eq_true c4
   clear c4
   by_cases c5 : (a1.size : Int) ≤ (a0.size : Int)
   ·rw [if_pos c5] at H
    have c5b0 := eq_true c5
    have c5b1 : decide ((a1.size : Int) ≤ (a0.size : Int)) = true := decide_eq_true c5
    clear c5
    by_cases c6 : (a0.extract 0 ((a1.size : Int) : Int).toNat).toList = a1.toList
    ·rw [if_pos c6] at H
     have c6b0 : ((a0.extract 0 ((a1.size : Int) : Int).toNat).toList == a1.toList) = true := beq_iff_eq.mpr c6
     have c6b6 := c6b0
     try simp only [Int.toNat_natCast] at c6b6
     have c6b1 : ((a0.extract 0 ((a1.size : Int) : Int).toNat).toList != a1.toList) = false := bne_eq_false_iff_eq.mpr c6
     clear c6
     have c7b0 := eq_true (of_decide_eq_true Ye_ : 0 ≤ (a1.size : Int))
     have c8b0 := eq_true (of_decide_eq_true Ye_ : (a1.size : Int) ≤ (a0.size : Int))
     simp only [Option.some.injEq, Prod.mk.injEq] at H
     obtain ⟨rfl, rfl⟩ := H
     go_enter Tryz.func30, Tryz.ntmps30
     go_wp2
     go_ret2
     exact ⟨by first | rfl | (simp; done) | (simp [*]; done), by repeat (first | exact C9.refl _ | apply C9.step)⟩
    ·rw [if_neg c6] at H
     have c6b0 : ((a0.extract 0 ((a1.size : Int) : Int).toNat).toList == a1.toList) = false := beq_eq_false_iff_ne.mpr c6
     have c6b6 := c6b0
     try simp only [Int.toNat_natCast] at c6b6
     have c6b1 : ((a0.extract 0 ((a1.size : Int) : Int).toNat).toList != a1.toList) = true := bne_iff_ne.mpr c6
     simp only [Option.some.injEq, Prod.mk.injEq] at H
     obtain ⟨rfl, rfl⟩ := H
     go_enter Tryz.func30, Tryz.ntmps30
     go_wp2
     go_ret2
     exact ⟨by first | rfl | (simp; done) | (simp [*]; done), by repeat (first | exact C9.refl _ | apply C9.step)⟩
   ·rw [if_neg c5] at H
    exact absurd H (by simp)
  ·rw [if_neg c4] at H
   exact absurd H (by simp)
mutual
def Dc.j0 : Nat → ByteArray → ByteArray → Bool → Option (Int × Bool)
 | 0, _, _, _ => none
 | k + 1, x0, x4, x15 => if x15 = true then (if 1 ≤ (x4.size : Int) then (Dc.j1 k x0 (x4.extract 1 x4.size)) else (none)) else (Dc.j1 k x0 x4)
def Dc.j1 : Nat → ByteArray → ByteArray → Option (Int × Bool)
 | 0, _, _ => none
 | k + 1, x0, x4 => (Eb.f (x4.size : Int) 1 6).bind fun t360 => (if t360 = true then (Dc.l0 k x0 x4 0 0) else (some (0, false)))
def Dc.l0 : Nat → ByteArray → ByteArray → Int → Int → Option (Int × Bool)
 | 0, _, _, _, _ => none
 | k + 1, x0, x4, x5, x6 => if x6 < (x4.size : Int) then (if 0 ≤ x6 then (if (bt x4 x6) < 48 then (some (0, false)) else (if (bt x4 x6) > 57 then (some (0, false)) else (Dc.l0 k x0 x4 (wrap64 ((wrap64 (10 * x5)) + (((bt x4 x6) - 48) % 256))) (wrap64 (x6 + 1))))) else (none)) else (if (x4.size : Int) < (x0.size : Int) then ((Dn.f k (wrap64 (-x5))).bind fun t361 => (if t361.toList = x0.toList then (some (wrap64 (-x5), true)) else (some (0, false)))) else ((Dn.f k x5).bind fun t362 => (if t362.toList = x0.toList then (some (x5, true)) else (some (0, false)))))
end
def Dc.f (k : Nat) (a0 : ByteArray) : Option (Int × Bool) := if (a0.size : Int) > 1 then (if 0 < (a0.size : Int) then (Dc.j0 k a0 a0 ((bt a0 0) == 45)) else (none)) else (Dc.j0 k a0 a0 false)
theorem Dc.Fa : ∀ k, (∀ y0 y1 y2, LeO (Dc.j0 k y0 y1 y2) (Dc.j0 (k + 1) y0 y1 y2)) ∧ (∀ y0 y1, LeO (Dc.j1 k y0 y1) (Dc.j1 (k + 1) y0 y1)) ∧ (∀ y0 y1 y2 y3, LeO (Dc.l0 k y0 y1 y2 y3) (Dc.l0 (k + 1) y0 y1 y2 y3))
 | 0 => ⟨fun _ _ _ r h => by simp [Dc.j0] at h, fun _ _ r h => by simp [Dc.j1] at h, fun _ _ _ _ r h => by simp [Dc.l0] at h⟩
 | k + 1 => by
  obtain ⟨ih0, ih1, ih2⟩ := Dc.Fa k
  refine ⟨?_, ?_, ?_⟩
  ·intro y0 y1 y2
   unfold Dc.j0
   repeat' first
   | (with_reducible exact ih0 _ _ _)
   | (with_reducible exact ih1 _ _)
   | (with_reducible exact ih2 _ _ _ _)
   | (with_reducible exact Dn.mono _ _)
   | (with_reducible exact LeO.refl _)
   | (with_reducible exact LeO.none _)
   | (with_reducible refine LeO.ite ?_ ?_)
   | (with_reducible refine LeO.bind ?_ (fun _ => ?_))
   | exact ih0 _ _ _
   | exact ih1 _ _
   | exact ih2 _ _ _ _
   | exact Dn.mono _ _
   | exact LeO.none _
   | refine LeO.ite ?_ ?_
   | refine LeO.bind ?_ (fun _ => ?_)
  ·intro y0 y1
   unfold Dc.j1
   repeat' first
   | (with_reducible exact ih0 _ _ _)
   | (with_reducible exact ih1 _ _)
   | (with_reducible exact ih2 _ _ _ _)
   | (with_reducible exact Dn.mono _ _)
   | (with_reducible exact LeO.refl _)
   | (with_reducible exact LeO.none _)
   | (with_reducible refine LeO.ite ?_ ?_)
   | (with_reducible refine LeO.bind ?_ (fun _ => ?_))
   | exact ih0 _ _ _
   | exact ih1 _ _
   | exact ih2 _ _ _ _
   | exact Dn.mono _ _
   | exact LeO.none _
   | refine LeO.ite ?_ ?_
   | refine LeO.bind ?_ (fun _ => ?_)
  ·intro y0 y1 y2 y3
   unfold Dc.l0
   repeat' first
   | (with_reducible exact ih0 _ _ _)
   | (with_reducible exact ih1 _ _)
   | (with_reducible exact ih2 _ _ _ _)
   | (with_reducible exact Dn.mono _ _)
   | (with_reducible exact LeO.refl _)
   | (with_reducible exact LeO.none _)
   | (with_reducible refine LeO.ite ?_ ?_)
   | (with_reducible refine LeO.bind ?_ (fun _ => ?_))
   | exact ih0 _ _ _
   | exact ih1 _ _
   | exact ih2 _ _ _ _
   | exact Dn.mono _ _
   | exact LeO.none _
   | refine LeO.ite ?_ ?_
   | refine LeO.bind ?_ (fun _ => ?_)
theorem Dc.mono : ∀ a0 k, LeO (Dc.f k a0) (Dc.f (k + 1) a0) := by
 intro a0 k
 obtain ⟨ih0, ih1, ih2⟩ := Dc.Fa k
 unfold Dc.f
 repeat' first
   | (with_reducible exact ih0 _ _ _)
   | (with_reducible exact ih1 _ _)
   | (with_reducible exact ih2 _ _ _ _)
   | (with_reducible exact Dn.mono _ _)
   | (with_reducible exact LeO.refl _)
   | (with_reducible exact LeO.none _)
   | (with_reducible refine LeO.ite ?_ ?_)
   | (with_reducible refine LeO.bind ?_ (fun _ => ?_))
   | exact ih0 _ _ _
   | exact ih1 _ _
   | exact ih2 _ _ _ _
   | exact Dn.mono _ _
   | exact LeO.none _
   | refine LeO.ite ?_ ?_
   | refine LeO.bind ?_ (fun _ => ?_)
set_option maxHeartbeats 8000000 in
set_option maxRecDepth 100000 in
theorem Dc.calls (k : Nat) (a0 : ByteArray) (r1 : Int) (r2 : Bool) (w : World) (h : Dc.f k a0 = some (r1, r2)) :
  Calls Tryz.prog 53 #[.string a0] w fun e w' => e = .returned (.tuple #[.int .i64 r1, .bool r2]) ∧ Below w.heap.size w w' := by
 have HB := Ac.mk (Below.refl w.heap.size w)
 have H : (if (a0.size : Int) > 1 then (if 0 < (a0.size : Int) then (Dc.j0 k a0 a0 ((bt a0 0) == 45)) else (none)) else (Dc.j0 k a0 a0 false)) = some (r1, r2) := h
 clear h
 have HC2 := Ac.mk H
 clear H
 go_enter Tryz.func53, Tryz.ntmps53
 go_upto_region 2 with (fail)
 go_cut [15] (fun v15 wc => ∃ (kq : Nat) (x15_1 : Bool), v15 = .bool x15_1 ∧ Ac (Dc.j0 kq a0 a0 x15_1 = some (r1, r2)) ∧ Ac (kq ≤ k) ∧ Ac (Below w.heap.size w wc))
 case first =>
  have H := HC2.out
  clear HC2
  by_cases c3 : (a0.size : Int) > 1
  ·rw [if_pos c3] at H
   have c3b0 : decide (1 < (a0.size : Int)) = true := decide_eq_true c3
   have c3b1 : decide (1 < a0.size) = true := decide_eq_true (by omega)
   clear c3
   (first | rw [c3b0] | (simp only [Dw, Dy]; rw [c3b0]) | skip)
   by_cases c4 : 0 < (a0.size : Int)
   ·rw [if_pos c4] at H
    have c4b0 : decide (0 < (a0.size : Int)) = true := decide_eq_true c4
    have c4b1 : decide (0 < a0.size) = true := decide_eq_true (by omega)
    clear c4
    have H' := Ac.mk H
    clear H
    have p5 : 0 ≤ (0 : Int) := (by omega)
    have q5 : 0 < a0.size := (by have : (0 : Int) < (a0.size : Int) := of_decide_eq_true Ye_; omega)
    have hx5 : ∀ h : 0 < a0.size, ((a0[0]'h).toNat : Int) = bt a0 0 := Gm a0 0
    clear p5
    have qi5 : (0 < (a0.size : Int)) = True := eq_true (of_decide_eq_true Ye_)
    replace q5 := eq_true q5
    go_wp2
    go_meet
    case rel => exact ⟨_, (((bt a0 0) == 45)), Yf_, H', ⟨by first | omega | exact Nat.le_refl _⟩, ⟨by repeat (first | (with_reducible first | exact HB.out | apply Ae | apply Aa | apply Ad) | exact HB.out)⟩⟩
   ·rw [if_neg c4] at H
    exact absurd H (by simp)
  ·rw [if_neg c3] at H
   have c3b0 : decide (1 < (a0.size : Int)) = false := decide_eq_false c3
   have c3b1 : decide (1 < a0.size) = false := decide_eq_false (by omega)
   clear c3
   (first | rw [c3b0] | (simp only [Dw, Dy]; rw [c3b0]) | skip)
   have H' := Ac.mk H
   clear H
   go_wp2
   go_meet
   case rel => exact ⟨_, (false), Yf_, H', ⟨by first | omega | exact Nat.le_refl _⟩, ⟨by repeat (first | (with_reducible first | exact HB.out | apply Ae | apply Aa | apply Ad) | exact HB.out)⟩⟩
 case rest =>
  clear HC2
  try clear p2; try clear c3; try clear c3b0; try clear c3b1; try clear c4; try clear c4b0; try clear c4b1; try clear c5; try clear p5; try clear q5; try clear hx5; try clear qi5; try clear p5; try clear q5
  obtain ⟨kq, x15_1, rfl, HA, HJ1, HB⟩ := hcut
  cases kq with
  | zero => exact absurd HA.out (by simp [Dc.j0])
  | succ kj1 =>
   have H := HA.out
   clear HA
   simp only [Dc.j0] at H
   have HC6 := Ac.mk H
   clear H
   go_upto_if 15 with (fail)
   go_cut [4] (fun v4 wc => ∃ (kq : Nat) (x4_5 : ByteArray), v4 = .string x4_5 ∧ Ac (Dc.j1 kq a0 x4_5 = some (r1, r2)) ∧ Ac (kq ≤ kj1) ∧ Ac (Below w.heap.size w wc))
   case first =>
    have H := HC6.out
    clear HC6
    by_cases c7 : x15_1 = true
    ·subst c7
     have H1 : (if 1 ≤ (a0.size : Int) then (Dc.j1 kj1 a0 (a0.extract 1 a0.size)) else (none)) = some (r1, r2) := by rw [if_pos rfl] at H; exact H
     clear H
     have H := H1
     clear H1
     by_cases c8 : 1 ≤ (a0.size : Int)
     ·rw [if_pos c8] at H
      have c8b0 := eq_true c8
      have c8b1 : decide (1 ≤ (a0.size : Int)) = true := decide_eq_true c8
      clear c8
      have H' := Ac.mk H
      clear H
      go_wp2
      go_meet
      case rel => exact ⟨_, (a0.extract 1 a0.size), Yf_, H', ⟨by have := HJ1.out; first | omega | exact Nat.le_refl _⟩, ⟨by repeat (first | (with_reducible first | exact HB.out | apply Ae | apply Aa | apply Ad) | exact HB.out)⟩⟩
     ·rw [if_neg c8] at H
      exact absurd H (by simp)
    ·replace c7 := Bool.eq_false_iff.mpr c7
     subst c7
     have H1 : (Dc.j1 kj1 a0 a0) = some (r1, r2) := by rw [if_neg (show ¬ (false = true) by decide)] at H; exact H
     clear H
     have H := H1
     clear H1
     have H' := Ac.mk H
     clear H
     go_wp2
     go_meet
     case rel => exact ⟨_, (a0), Yf_, H', ⟨by have := HJ1.out; first | omega | exact Nat.le_refl _⟩, ⟨by repeat (first | (with_reducible first | exact HB.out | apply Ae | apply Aa | apply Ad) | exact HB.out)⟩⟩
   case rest =>
    clear HC6
    try clear p2; try clear c3; try clear c3b0; try clear c3b1; try clear c4; try clear c4b0; try clear c4b1; try clear c5; try clear p5; try clear q5; try clear hx5; try clear qi5; try clear c7; try clear c8; try clear c8b0; try clear c8b1; try clear p2; try clear p5; try clear q5
    obtain ⟨kq, x4_5, rfl, HA, HJ5, HB⟩ := hcut
    cases kq with
    | zero => exact absurd HA.out (by simp [Dc.j1])
    | succ kj5 =>
     have H := HA.out
     clear HA
     simp only [Dc.j1] at H
     replace H := Option.bind_eq_some_iff.mp H
     obtain ⟨t360, A90, H⟩ := H
     try dsimp only at H
     have A9 := Ac.mk A90
     clear A90
     by_cases c10 : t360 = true
     ·subst c10
      have H1 : (Dc.l0 kj5 a0 x4_5 0 0) = some (r1, r2) := by rw [if_pos rfl] at H; exact H
      clear H
      have H := H1
      clear H1
      have H' := Ac.mk H
      clear H
      go_wp2_with (first | ((with_reducible refine Ap (f := 41) rfl ?_); refine Bj (some 20) rfl rfl Tryz.func41 (by kernel_rfl) rfl #[.int .i64 (x4_5.size : Int), .int .i64 1, .int .i64 6] rfl Ya_ ?_; (with_reducible refine (Eb.calls (x4_5.size : Int) 1 6 true _ A9.out).mono ?_); rintro e w' ⟨rfl, ⟨nd, rfl⟩⟩; refine ⟨_, rfl, ?_⟩))
      go_loopg [5, 6] kj5 (fun kq v5 v6 w' => ∃ (x5_3 : Int) (x6_3 : Int), v5 = .int .i64 x5_3 ∧ v6 = .int .i64 x6_3 ∧ Ac (Dc.l0 kq a0 x4_5 x5_3 x6_3 = some (r1, r2)) ∧ Ac (kq ≤ kj5) ∧ Ac (Below w.heap.size w w'))
      case atStart => exact ⟨(0), (0), Yf_, Yf_, H', ⟨Nat.le_refl _⟩, ⟨by repeat (first | (with_reducible first | exact HB.out | apply Ae | apply Aa | apply Ad) | exact HB.out)⟩⟩
      case round =>
       clear H'
       try clear c1; try clear p2; try clear c3; try clear c3b0; try clear c3b1; try clear c4; try clear c4b0; try clear c4b1; try clear c5; try clear p5; try clear q5; try clear hx5; try clear qi5; try clear c7; try clear c8; try clear c8b0; try clear c8b1; try clear c10; try clear p2; try clear p5; try clear q5
       obtain ⟨x5_3, x6_3, rfl, rfl, HA, HK3, HB⟩ := hrel
       cases gk with
       | zero => exact absurd HA.out (by simp [Dc.l0])
       | succ k3 =>
        have H := HA.out
        clear HA
        simp only [Dc.l0] at H
        by_cases c11 : x6_3 < (x4_5.size : Int)
        ·rw [if_pos c11] at H
         have c11b0 : decide (x6_3 < (x4_5.size : Int)) = true := decide_eq_true c11
         clear c11
         by_cases c12 : 0 ≤ x6_3
         ·rw [if_pos c12] at H
          have c12b0 : decide (0 ≤ x6_3) = true := decide_eq_true c12
          clear c12
          by_cases c14 : (bt x4_5 x6_3) < 48
          ·rw [if_pos c14] at H
           have c14b0 : decide ((bt x4_5 x6_3) < 48) = true := decide_eq_true c14
           clear c14
           simp only [Option.some.injEq, Prod.mk.injEq] at H
           obtain ⟨rfl, rfl⟩ := H
           have p13 : 0 ≤ (x6_3 : Int) := of_decide_eq_true Ye_
           have q13 : x6_3 < (x4_5.size : Int) := of_decide_eq_true Ye_
           have hx13 := Gm x4_5 x6_3
           replace p13 := eq_true p13
           replace q13 := eq_true q13
           go_wp2
           go_ret2
           exact ⟨by first | rfl | (simp [Au, Aw] <;> rfl) | (simp [*, Au, Aw] <;> rfl), by repeat (first | (with_reducible first | exact HB.out | apply Ae | apply Aa | apply Ad) | exact HB.out)⟩
          ·rw [if_neg c14] at H
           have c14b0 : decide ((bt x4_5 x6_3) < 48) = false := decide_eq_false c14
           clear c14
           by_cases c16 : (bt x4_5 x6_3) > 57
           ·rw [if_pos c16] at H
            have c16b0 : decide (57 < (bt x4_5 x6_3)) = true := decide_eq_true c16
            clear c16
            simp only [Option.some.injEq, Prod.mk.injEq] at H
            obtain ⟨rfl, rfl⟩ := H
            have p13 : 0 ≤ (x6_3 : Int) := of_decide_eq_true Ye_
            have q13 : x6_3 < (x4_5.size : Int) := of_decide_eq_true Ye_
            have hx13 := Gm x4_5 x6_3
            replace p13 := eq_true p13
            replace q13 := eq_true q13
            have p15 : 0 ≤ (x6_3 : Int) := of_decide_eq_true Ye_
            have q15 : x6_3 < (x4_5.size : Int) := of_decide_eq_true Ye_
            have hx15 := Gm x4_5 x6_3
            replace p15 := eq_true p15
            replace q15 := eq_true q15
            go_wp2
            go_ret2
            exact ⟨by first | rfl | (simp [Au, Aw] <;> rfl) | (simp [*, Au, Aw] <;> rfl), by repeat (first | (with_reducible first | exact HB.out | apply Ae | apply Aa | apply Ad) | exact HB.out)⟩
           ·rw [if_neg c16] at H
            have c16b0 : decide (57 < (bt x4_5 x6_3)) = false := decide_eq_false c16
            clear c16
            have H' := Ac.mk H
            clear H
            have p13 : 0 ≤ (x6_3 : Int) := of_decide_eq_true Ye_
            have q13 : x6_3 < (x4_5.size : Int) := of_decide_eq_true Ye_
            have hx13 := Gm x4_5 x6_3
            replace p13 := eq_true p13
            replace q13 := eq_true q13
            have p15 : 0 ≤ (x6_3 : Int) := of_decide_eq_true Ye_
            have q15 : x6_3 < (x4_5.size : Int) := of_decide_eq_true Ye_
            have hx15 := Gm x4_5 x6_3
            replace p15 := eq_true p15
            replace q15 := eq_true q15
            have p17 : 0 ≤ (x6_3 : Int) := of_decide_eq_true Ye_
            have q17 : x6_3 < (x4_5.size : Int) := of_decide_eq_true Ye_
            have hx17 := Gm x4_5 x6_3
            replace p17 := eq_true p17
            replace q17 := eq_true q17
            go_wp2
            go_roundg k3
            case measure => have := HJ1.out; have := HJ5.out; have := HK3.out; omega
            case rel => exact ⟨(wrap64 ((wrap64 (10 * x5_3)) + (((bt x4_5 x6_3) - 48) % 256))), (wrap64 (x6_3 + 1)), Yf_, Yf_, H', ⟨by have := HJ1.out; have := HJ5.out; have := HK3.out; omega⟩, ⟨by repeat (first | (with_reducible first | exact HB.out | apply Ae | apply Aa | apply Ad) | exact HB.out)⟩⟩
         ·rw [if_neg c12] at H
          exact absurd H (by simp)
        ·rw [if_neg c11] at H
         have c11b0 : decide (x6_3 < (x4_5.size : Int)) = false := decide_eq_false c11
         clear c11
         by_cases c18 : (x4_5.size : Int) < (a0.size : Int)
         ·rw [if_pos c18] at H
          have c18b0 : decide ((x4_5.size : Int) < (a0.size : Int)) = true := decide_eq_true c18
          have c18b1 : decide (x4_5.size < a0.size) = true := decide_eq_true (Int.ofNat_lt.mp c18)
          clear c18
          replace H := Option.bind_eq_some_iff.mp H
          obtain ⟨t361, A190, H⟩ := H
          try dsimp only at H
          have A19 := Ac.mk A190
          clear A190
          by_cases c20 : t361.toList = a0.toList
          ·rw [if_pos c20] at H
           have c20b0 : (t361.toList == a0.toList) = true := beq_iff_eq.mpr c20
           have c20b1 : (t361.toList != a0.toList) = false := bne_eq_false_iff_eq.mpr c20
           clear c20
           simp only [Option.some.injEq, Prod.mk.injEq] at H
           obtain ⟨rfl, rfl⟩ := H
           go_wp2_with (first | ((with_reducible refine Ap (f := 42) rfl ?_); refine Bj (some 54) rfl rfl Tryz.func42 (by kernel_rfl) rfl #[.int .i64 (wrap64 (-x5_3))] rfl Ya_ ?_; (with_reducible refine (Dn.calls k3 (wrap64 (-x5_3)) t361 _ A19.out).mono ?_); rintro e w21 ⟨rfl, hb⟩; refine ⟨_, rfl, ?_⟩; have n0_ := Ac.mk (Ar Yb_ hb); clear HB; have HB := n0_; clear n0_; (try clear hb); (try clear hb2); (try clear hk); (try clear hi)))
           go_ret2
           exact ⟨by first | rfl | (simp [Au, Aw] <;> rfl) | (simp [*, Au, Aw] <;> rfl), by repeat (first | (with_reducible first | exact HB.out | apply Ae | apply Aa | apply Ad) | exact HB.out)⟩
          ·rw [if_neg c20] at H
           have c20b0 : (t361.toList == a0.toList) = false := beq_eq_false_iff_ne.mpr c20
           have c20b1 : (t361.toList != a0.toList) = true := bne_iff_ne.mpr c20
           simp only [Option.some.injEq, Prod.mk.injEq] at H
           obtain ⟨rfl, rfl⟩ := H
           go_wp2_with (first | ((with_reducible refine Ap (f := 42) rfl ?_); refine Bj (some 54) rfl rfl Tryz.func42 (by kernel_rfl) rfl #[.int .i64 (wrap64 (-x5_3))] rfl Ya_ ?_; (with_reducible refine (Dn.calls k3 (wrap64 (-x5_3)) t361 _ A19.out).mono ?_); rintro e w22 ⟨rfl, hb⟩; refine ⟨_, rfl, ?_⟩; have n0_ := Ac.mk (Ar Yb_ hb); clear HB; have HB := n0_; clear n0_; (try clear hb); (try clear hb2); (try clear hk); (try clear hi)))
           go_ret2
           exact ⟨by first | rfl | (simp [Au, Aw] <;> rfl) | (simp [*, Au, Aw] <;> rfl), by repeat (first | (with_reducible first | exact HB.out | apply Ae | apply Aa | apply Ad) | exact HB.out)⟩
         ·rw [if_neg c18] at H
          have c18b0 : decide ((x4_5.size : Int) < (a0.size : Int)) = false := decide_eq_false c18
          have c18b1 : decide (x4_5.size < a0.size) = false := decide_eq_false (fun h => c18 (Int.ofNat_lt.mpr h))
          clear c18
          replace H := Option.bind_eq_some_iff.mp H
          obtain ⟨t362, A230, H⟩ := H
          try dsimp only at H
          have A23 := Ac.mk A230
          clear A230
          by_cases c24 : t362.toList = a0.toList
          ·rw [if_pos c24] at H
           have c24b0 : (t362.toList == a0.toList) = true := beq_iff_eq.mpr c24
           have c24b1 : (t362.toList != a0.toList) = false := bne_eq_false_iff_eq.mpr c24
           clear c24
           simp only [Option.some.injEq, Prod.mk.injEq] at H
           obtain ⟨rfl, rfl⟩ := H
           go_wp2_with (first | ((with_reducible refine Ap (f := 42) rfl ?_); refine Bj (some 54) rfl rfl Tryz.func42 (by kernel_rfl) rfl #[.int .i64 x5_3] rfl Ya_ ?_; (with_reducible refine (Dn.calls k3 x5_3 t362 _ A23.out).mono ?_); rintro e w25 ⟨rfl, hb⟩; refine ⟨_, rfl, ?_⟩; have n0_ := Ac.mk (Ar Yb_ hb); clear HB; have HB := n0_; clear n0_; (try clear hb); (try clear hb2); (try clear hk); (try clear hi)))
           go_ret2
           exact ⟨by first | rfl | (simp [Au, Aw] <;> rfl) | (simp [*, Au, Aw] <;> rfl), by repeat (first | (with_reducible first | exact HB.out | apply Ae | apply Aa | apply Ad) | exact HB.out)⟩
          ·rw [if_neg c24] at H
           have c24b0 : (t362.toList == a0.toList) = false := beq_eq_false_iff_ne.mpr c24
           have c24b1 : (t362.toList != a0.toList) = true := bne_iff_ne.mpr c24
           simp only [Option.some.injEq, Prod.mk.injEq] at H
           obtain ⟨rfl, rfl⟩ := H
           go_wp2_with (first | ((with_reducible refine Ap (f := 42) rfl ?_); refine Bj (some 54) rfl rfl Tryz.func42 (by kernel_rfl) rfl #[.int .i64 x5_3] rfl Ya_ ?_; (with_reducible refine (Dn.calls k3 x5_3 t362 _ A23.out).mono ?_); rintro e w26 ⟨rfl, hb⟩; refine ⟨_, rfl, ?_⟩; have n0_ := Ac.mk (Ar Yb_ hb); clear HB; have HB := n0_; clear n0_; (try clear hb); (try clear hb2); (try clear hk); (try clear hi)))
           go_ret2
           exact ⟨by first | rfl | (simp [Au, Aw] <;> rfl) | (simp [*, Au, Aw] <;> rfl), by repeat (first | (with_reducible first | exact HB.out | apply Ae | apply Aa | apply Ad) | exact HB.out)⟩
     ·replace c10 := Bool.eq_false_iff.mpr c10
      subst c10
      have H1 : (some (0, false)) = some (r1, r2) := by rw [if_neg (show ¬ (false = true) by decide)] at H; exact H
      clear H
      have H := H1
      clear H1
      simp only [Option.some.injEq, Prod.mk.injEq] at H
      obtain ⟨rfl, rfl⟩ := H
      go_wp2_with (first | ((with_reducible refine Ap (f := 41) rfl ?_); refine Bj (some 20) rfl rfl Tryz.func41 (by kernel_rfl) rfl #[.int .i64 (x4_5.size : Int), .int .i64 1, .int .i64 6] rfl Ya_ ?_; (with_reducible refine (Eb.calls (x4_5.size : Int) 1 6 false _ A9.out).mono ?_); rintro e w' ⟨rfl, ⟨nd, rfl⟩⟩; refine ⟨_, rfl, ?_⟩))
      go_ret2
      exact ⟨by first | rfl | (simp [Au, Aw] <;> rfl) | (simp [*, Au, Aw] <;> rfl), by repeat (first | (with_reducible first | exact HB.out | apply Ae | apply Aa | apply Ad) | exact HB.out)⟩
def Bg.l0 : Nat → ByteArray → Int → Option (Int × ByteArray)
 | 0, _, _ => none
 | k + 1, x0, x4 => if x4 < (x0.size : Int) then (if x4 < 6 then (if 0 ≤ x4 then (if (bt x0 x4) ≥ 48 then (if (bt x0 x4) ≤ 57 then (Bg.l0 k x0 (wrap64 (x4 + 1))) else (if x4 ≤ (x0.size : Int) then ((Dc.f k (x0.extract 0 (x4 : Int).toNat)).bind fun bt363 => (some (bt363.1, x0.extract (x4 : Int).toNat x0.size))) else (none))) else (if x4 ≤ (x0.size : Int) then ((Dc.f k (x0.extract 0 (x4 : Int).toNat)).bind fun bt365 => (some (bt365.1, x0.extract (x4 : Int).toNat x0.size))) else (none))) else (none)) else (if 0 ≤ x4 then (if x4 ≤ (x0.size : Int) then ((Dc.f k (x0.extract 0 (x4 : Int).toNat)).bind fun bt367 => (some (bt367.1, x0.extract (x4 : Int).toNat x0.size))) else (none)) else (none))) else (if 0 ≤ x4 then (if x4 ≤ (x0.size : Int) then ((Dc.f k (x0.extract 0 (x4 : Int).toNat)).bind fun bt369 => (some (bt369.1, x0.extract (x4 : Int).toNat x0.size))) else (none)) else (none))
def Bg.f (k : Nat) (a0 : ByteArray) : Option (Int × ByteArray) := Bg.l0 k a0 0
theorem Bg.Fa : ∀ k, (∀ y0 y1, LeO (Bg.l0 k y0 y1) (Bg.l0 (k + 1) y0 y1))
 | 0 => fun _ _ r h => by simp [Bg.l0] at h
 | k + 1 => by
  have ih0 := Bg.Fa k
  ·intro y0 y1
   unfold Bg.l0
   repeat' first
   | (with_reducible exact ih0 _ _)
   | (with_reducible exact Dc.mono _ _)
   | (with_reducible exact LeO.refl _)
   | (with_reducible exact LeO.none _)
   | (with_reducible refine LeO.ite ?_ ?_)
   | (with_reducible refine LeO.bind ?_ (fun _ => ?_))
   | exact ih0 _ _
   | exact Dc.mono _ _
   | exact LeO.none _
   | refine LeO.ite ?_ ?_
   | refine LeO.bind ?_ (fun _ => ?_)
theorem Bg.mono : ∀ a0 k, LeO (Bg.f k a0) (Bg.f (k + 1) a0) := by
 intro a0 k
 have ih0 := Bg.Fa k
 unfold Bg.f
 repeat' first
   | (with_reducible exact ih0 _ _)
   | (with_reducible exact Dc.mono _ _)
   | (with_reducible exact LeO.refl _)
   | (with_reducible exact LeO.none _)
   | (with_reducible refine LeO.ite ?_ ?_)
   | (with_reducible refine LeO.bind ?_ (fun _ => ?_))
   | exact ih0 _ _
   | exact Dc.mono _ _
   | exact LeO.none _
   | refine LeO.ite ?_ ?_
   | refine LeO.bind ?_ (fun _ => ?_)
set_option maxHeartbeats 8000000 in
set_option maxRecDepth 100000 in
theorem Bg.calls (k : Nat) (a0 : ByteArray) (r1 : Int) (r2 : ByteArray) (w : World) (h : Bg.f k a0 = some (r1, r2)) :
  Calls Tryz.prog 31 #[.string a0] w fun e w' => e = .returned (.tuple #[.int .i64 r1, .string r2]) ∧ Below w.heap.size w w' := by
 have HB := Ac.mk (Below.refl w.heap.size w)
 have H : (Bg.l0 k a0 0) = some (r1, r2) := h
 clear h
 have H' := Ac.mk H
 clear H
 go_enter Tryz.func31, Tryz.ntmps31
 go_wp2
 repeat (go_quiet (fail); try go_wp2)
 go_loopg [4] k (fun kq v4 w' => ∃ (x4_1 : Int), v4 = .int .i64 x4_1 ∧ Ac (Bg.l0 kq a0 x4_1 = some (r1, r2)) ∧ Ac (kq ≤ k) ∧ Ac (Below w.heap.size w w'))
 case atStart => exact ⟨(0), Yf_, H', ⟨Nat.le_refl _⟩, ⟨by repeat (first | (with_reducible first | exact HB.out | apply Ae | apply Aa | apply Ad) | exact HB.out)⟩⟩
 case round =>
  clear H'
  obtain ⟨x4_1, rfl, HA, HK1, HB⟩ := hrel
  cases gk with
  | zero => exact absurd HA.out (by simp [Bg.l0])
  | succ k1 =>
   have H := HA.out
   clear HA
   simp only [Bg.l0] at H
   by_cases c2 : x4_1 < (a0.size : Int)
   ·rw [if_pos c2] at H
    have c2b0 : decide (x4_1 < (a0.size : Int)) = true := decide_eq_true c2
    clear c2
    by_cases c3 : x4_1 < 6
    ·rw [if_pos c3] at H
     have c3b0 : decide (x4_1 < 6) = true := decide_eq_true c3
     clear c3
     by_cases c4 : 0 ≤ x4_1
     ·rw [if_pos c4] at H
      have c4b0 : decide (0 ≤ x4_1) = true := decide_eq_true c4
      clear c4
      by_cases c6 : (bt a0 x4_1) ≥ 48
      ·rw [if_pos c6] at H
       have c6b0 : decide (48 ≤ (bt a0 x4_1)) = true := decide_eq_true c6
       clear c6
       by_cases c8 : (bt a0 x4_1) ≤ 57
       ·rw [if_pos c8] at H
        have c8b0 : decide ((bt a0 x4_1) ≤ 57) = true := decide_eq_true c8
        clear c8
        have H' := Ac.mk H
        clear H
        have p5 : 0 ≤ (x4_1 : Int) := of_decide_eq_true Ye_
        have q5 : x4_1 < (a0.size : Int) := of_decide_eq_true Ye_
        have hx5 := Gm a0 x4_1
        replace p5 := eq_true p5
        replace q5 := eq_true q5
        have p7 : 0 ≤ (x4_1 : Int) := of_decide_eq_true Ye_
        have q7 : x4_1 < (a0.size : Int) := of_decide_eq_true Ye_
        have hx7 := Gm a0 x4_1
        replace p7 := eq_true p7
        replace q7 := eq_true q7
        go_wp2
        repeat (go_quiet (fail); try go_wp2)
        go_roundg k1
        case measure => have := HK1.out; omega
        case rel => exact ⟨(wrap64 (x4_1 + 1)), Yf_, H', ⟨by have := HK1.out; omega⟩, ⟨by repeat (first | (with_reducible first | exact HB.out | apply Ae | apply Aa | apply Ad) | exact HB.out)⟩⟩
       ·rw [if_neg c8] at H
        have c8b0 : decide ((bt a0 x4_1) ≤ 57) = false := decide_eq_false c8
        clear c8
        have c9b0 := eq_true (of_decide_eq_true Ye_ : 0 ≤ x4_1)
        by_cases c10 : x4_1 ≤ (a0.size : Int)
        ·rw [if_pos c10] at H
         have c10b0 := eq_true c10
         have c10b1 : decide (x4_1 ≤ (a0.size : Int)) = true := decide_eq_true c10
         clear c10
         replace H := Option.bind_eq_some_iff.mp H
         obtain ⟨⟨t363, t364⟩, A110, H⟩ := H
         try dsimp only at H
         have A11 := Ac.mk A110
         clear A110
         have c12b0 := eq_true (of_decide_eq_true Ye_ : 0 ≤ x4_1)
         have c13b0 := eq_true (of_decide_eq_true Ye_ : x4_1 ≤ (a0.size : Int))
         simp only [Option.some.injEq, Prod.mk.injEq] at H
         obtain ⟨rfl, rfl⟩ := H
         have p5 : 0 ≤ (x4_1 : Int) := of_decide_eq_true Ye_
         have q5 : x4_1 < (a0.size : Int) := of_decide_eq_true Ye_
         have hx5 := Gm a0 x4_1
         replace p5 := eq_true p5
         replace q5 := eq_true q5
         have p7 : 0 ≤ (x4_1 : Int) := of_decide_eq_true Ye_
         have q7 : x4_1 < (a0.size : Int) := of_decide_eq_true Ye_
         have hx7 := Gm a0 x4_1
         replace p7 := eq_true p7
         replace q7 := eq_true q7
         go_wp2_with (first | (go_at_call 53; (with_reducible refine (Dc.calls k1 (a0.extract 0 (x4_1 : Int).toNat) t363 t364 _ A11.out).mono ?_); rintro e w14 ⟨rfl, hb⟩; have n0_ := Ac.mk (Ar Yb_ hb); clear HB; have HB := n0_; clear n0_; (try clear hb); (try clear hb2); (try clear hk); (try clear hi)))
         repeat (go_quiet (first | (go_at_call 53; (with_reducible refine (Dc.calls k1 (a0.extract 0 (x4_1 : Int).toNat) t363 t364 _ A11.out).mono ?_); rintro e w14 ⟨rfl, hb⟩; have n0_ := Ac.mk (Ar Yb_ hb); clear HB; have HB := n0_; clear n0_; (try clear hb); (try clear hb2); (try clear hk); (try clear hi))); try go_wp2_with (first | (go_at_call 53; (with_reducible refine (Dc.calls k1 (a0.extract 0 (x4_1 : Int).toNat) t363 t364 _ A11.out).mono ?_); rintro e w14 ⟨rfl, hb⟩; have n0_ := Ac.mk (Ar Yb_ hb); clear HB; have HB := n0_; clear n0_; (try clear hb); (try clear hb2); (try clear hk); (try clear hi))))
         go_ret2
         exact ⟨by first | rfl | (simp [Au, Aw] <;> rfl) | (simp [*, Au, Aw] <;> rfl), by repeat (first | (with_reducible first | exact HB.out | apply Ae | apply Aa | apply Ad) | exact HB.out)⟩
        ·rw [if_neg c10] at H
         exact absurd H (by simp)
      ·rw [if_neg c6] at H
       have c6b0 : decide (48 ≤ (bt a0 x4_1)) = false := decide_eq_false c6
       clear c6
       have c15b0 := eq_true (of_decide_eq_true Ye_ : 0 ≤ x4_1)
       by_cases c16 : x4_1 ≤ (a0.size : Int)
       ·rw [if_pos c16] at H
        have c16b0 := eq_true c16
        have c16b1 : decide (x4_1 ≤ (a0.size : Int)) = true := decide_eq_true c16
        clear c16
        replace H := Option.bind_eq_some_iff.mp H
        obtain ⟨⟨t365, t366⟩, A170, H⟩ := H
        try dsimp only at H
        have A17 := Ac.mk A170
        clear A170
        have c18b0 := eq_true (of_decide_eq_true Ye_ : 0 ≤ x4_1)
        have c19b0 := eq_true (of_decide_eq_true Ye_ : x4_1 ≤ (a0.size : Int))
        simp only [Option.some.injEq, Prod.mk.injEq] at H
        obtain ⟨rfl, rfl⟩ := H
        have p5 : 0 ≤ (x4_1 : Int) := of_decide_eq_true Ye_
        have q5 : x4_1 < (a0.size : Int) := of_decide_eq_true Ye_
        have hx5 := Gm a0 x4_1
        replace p5 := eq_true p5
        replace q5 := eq_true q5
        go_wp2_with (first | (go_at_call 53; (with_reducible refine (Dc.calls k1 (a0.extract 0 (x4_1 : Int).toNat) t365 t366 _ A17.out).mono ?_); rintro e w20 ⟨rfl, hb⟩; have n0_ := Ac.mk (Ar Yb_ hb); clear HB; have HB := n0_; clear n0_; (try clear hb); (try clear hb2); (try clear hk); (try clear hi)))
        repeat (go_quiet (first | (go_at_call 53; (with_reducible refine (Dc.calls k1 (a0.extract 0 (x4_1 : Int).toNat) t365 t366 _ A17.out).mono ?_); rintro e w20 ⟨rfl, hb⟩; have n0_ := Ac.mk (Ar Yb_ hb); clear HB; have HB := n0_; clear n0_; (try clear hb); (try clear hb2); (try clear hk); (try clear hi))); try go_wp2_with (first | (go_at_call 53; (with_reducible refine (Dc.calls k1 (a0.extract 0 (x4_1 : Int).toNat) t365 t366 _ A17.out).mono ?_); rintro e w20 ⟨rfl, hb⟩; have n0_ := Ac.mk (Ar Yb_ hb); clear HB; have HB := n0_; clear n0_; (try clear hb); (try clear hb2); (try clear hk); (try clear hi))))
        go_ret2
        exact ⟨by first | rfl | (simp [Au, Aw] <;> rfl) | (simp [*, Au, Aw] <;> rfl), by repeat (first | (with_reducible first | exact HB.out | apply Ae | apply Aa | apply Ad) | exact HB.out)⟩
       ·rw [if_neg c16] at H
        exact absurd H (by simp)
     ·rw [if_neg c4] at H
      exact absurd H (by simp)
    ·rw [if_neg c3] at H
     have c3b0 : decide (x4_1 < 6) = false := decide_eq_false c3
     clear c3
     by_cases c21 : 0 ≤ x4_1
     ·rw [if_pos c21] at H
      have c21b0 := eq_true c21
      have c21b1 : decide (0 ≤ x4_1) = true := decide_eq_true c21
      clear c21
      by_cases c22 : x4_1 ≤ (a0.size : Int)
      ·rw [if_pos c22] at H
       have c22b0 := eq_true c22
       have c22b1 : decide (x4_1 ≤ (a0.size : Int)) = true := decide_eq_true c22
       clear c22
       replace H := Option.bind_eq_some_iff.mp H
       obtain ⟨⟨t367, t368⟩, A230, H⟩ := H
       try dsimp only at H
       have A23 := Ac.mk A230
       clear A230
       have c24b0 := eq_true (of_decide_eq_true Ye_ : 0 ≤ x4_1)
       have c25b0 := eq_true (of_decide_eq_true Ye_ : x4_1 ≤ (a0.size : Int))
       simp only [Option.some.injEq, Prod.mk.injEq] at H
       obtain ⟨rfl, rfl⟩ := H
       go_wp2_with (first | (go_at_call 53; (with_reducible refine (Dc.calls k1 (a0.extract 0 (x4_1 : Int).toNat) t367 t368 _ A23.out).mono ?_); rintro e w26 ⟨rfl, hb⟩; have n0_ := Ac.mk (Ar Yb_ hb); clear HB; have HB := n0_; clear n0_; (try clear hb); (try clear hb2); (try clear hk); (try clear hi)))
       repeat (go_quiet (first | (go_at_call 53; (with_reducible refine (Dc.calls k1 (a0.extract 0 (x4_1 : Int).toNat) t367 t368 _ A23.out).mono ?_); rintro e w26 ⟨rfl, hb⟩; have n0_ := Ac.mk (Ar Yb_ hb); clear HB; have HB := n0_; clear n0_; (try clear hb); (try clear hb2); (try clear hk); (try clear hi))); try go_wp2_with (first | (go_at_call 53; (with_reducible refine (Dc.calls k1 (a0.extract 0 (x4_1 : Int).toNat) t367 t368 _ A23.out).mono ?_); rintro e w26 ⟨rfl, hb⟩; have n0_ := Ac.mk (Ar Yb_ hb); clear HB; have HB := n0_; clear n0_; (try clear hb); (try clear hb2); (try clear hk); (try clear hi))))
       go_ret2
       exact ⟨by first | rfl | (simp [Au, Aw] <;> rfl) | (simp [*, Au, Aw] <;> rfl), by repeat (first | (with_reducible first | exact HB.out | apply Ae | apply Aa | apply Ad) | exact HB.out)⟩
      ·rw [if_neg c22] at H
       exact absurd H (by simp)
     ·rw [if_neg c21] at H
      exact absurd H (by simp)
   ·rw [if_neg c2] at H
    have c2b0 : decide (x4_1 < (a0.size : Int)) = false := decide_eq_false c2
    clear c2
    by_cases c27 : 0 ≤ x4_1
    ·rw [if_pos c27] at H
     have c27b0 := eq_true c27
     have c27b1 : decide (0 ≤ x4_1) = true := decide_eq_true c27
     clear c27
     by_cases c28 : x4_1 ≤ (a0.size : Int)
     ·rw [if_pos c28] at H
      have c28b0 := eq_true c28
      have c28b1 : decide (x4_1 ≤ (a0.size : Int)) = true := decide_eq_true c28
      clear c28
      replace H := Option.bind_eq_some_iff.mp H
      obtain ⟨⟨t369, t370⟩, A290, H⟩ := H
      try dsimp only at H
      have A29 := Ac.mk A290
      clear A290
      have c30b0 := eq_true (of_decide_eq_true Ye_ : 0 ≤ x4_1)
      have c31b0 := eq_true (of_decide_eq_true Ye_ : x4_1 ≤ (a0.size : Int))
      simp only [Option.some.injEq, Prod.mk.injEq] at H
      obtain ⟨rfl, rfl⟩ := H
      go_wp2_with (first | (go_at_call 53; (with_reducible refine (Dc.calls k1 (a0.extract 0 (x4_1 : Int).toNat) t369 t370 _ A29.out).mono ?_); rintro e w32 ⟨rfl, hb⟩; have n0_ := Ac.mk (Ar Yb_ hb); clear HB; have HB := n0_; clear n0_; (try clear hb); (try clear hb2); (try clear hk); (try clear hi)))
      repeat (go_quiet (first | (go_at_call 53; (with_reducible refine (Dc.calls k1 (a0.extract 0 (x4_1 : Int).toNat) t369 t370 _ A29.out).mono ?_); rintro e w32 ⟨rfl, hb⟩; have n0_ := Ac.mk (Ar Yb_ hb); clear HB; have HB := n0_; clear n0_; (try clear hb); (try clear hb2); (try clear hk); (try clear hi))); try go_wp2_with (first | (go_at_call 53; (with_reducible refine (Dc.calls k1 (a0.extract 0 (x4_1 : Int).toNat) t369 t370 _ A29.out).mono ?_); rintro e w32 ⟨rfl, hb⟩; have n0_ := Ac.mk (Ar Yb_ hb); clear HB; have HB := n0_; clear n0_; (try clear hb); (try clear hb2); (try clear hk); (try clear hi))))
      go_ret2
      exact ⟨by first | rfl | (simp [Au, Aw] <;> rfl) | (simp [*, Au, Aw] <;> rfl), by repeat (first | (with_reducible first | exact HB.out | apply Ae | apply Aa | apply Ad) | exact HB.out)⟩
     ·rw [if_neg c28] at H
      exact absurd H (by simp)
    ·rw [if_neg c27] at H
     exact absurd H (by simp)
mutual
def Aq.j0 : Nat → ByteArray → ByteArray → Bool → Int → ByteArray → Int → Int → Option (Int × ByteArray × Int × Int × Bool)
 | 0, _, _, _, _, _, _, _ => none
 | k + 1, x0, x5, x33, x373000, x373001, x373002, x373003 => if x33 = true then (some (x373000, x373001, x373002, x373003, false)) else (if 0 ≤ 8 then (if 8 ≤ (x5.size : Int) then ((Cc.f (x5.extract 8 x5.size) (⟨#[32, 104, 97, 115, 32, 97, 114, 114, 105, 118, 101, 100, 32, 105, 110, 32, 115, 116, 97, 99, 107, 32]⟩ : ByteArray)).bind fun bt376 => (if bt376.2 = true then ((Bg.f k bt376.1).bind fun bt378 => (Aq.j2 k x0 x373000 x373001 x373002 x373003 1 (x5.extract 0 8) bt378.1 0)) else ((Cc.f (x5.extract 8 x5.size) (⟨#[32, 119, 97, 115, 32, 109, 111, 118, 101, 100, 32, 102, 114, 111, 109, 32, 115, 116, 97, 99, 107, 32]⟩ : ByteArray)).bind fun bt380 => (if bt380.2 = true then ((Bg.f k bt380.1).bind fun bt382 => ((Cc.f bt382.2 (⟨#[32, 116, 111, 32, 115, 116, 97, 99, 107, 32]⟩ : ByteArray)).bind fun bt384 => ((Bg.f k bt384.1).bind fun bt386 => (Aq.j2 k x0 x373000 x373001 x373002 x373003 2 (x5.extract 0 8) bt382.1 bt386.1)))) else ((Cc.f (x5.extract 8 x5.size) (⟨#[32, 105, 115, 32, 104, 101, 108, 100, 32, 102, 111, 114, 32]⟩ : ByteArray)).bind fun bt388 => (if bt388.2 = true then (Aq.l0 k x0 bt388.1 1 x373000 x373001 x373002 x373003 3 (x5.extract 0 8) 0 0) else ((Cc.f (x5.extract 8 x5.size) (⟨#[32, 105, 115, 32, 114, 101, 97, 100, 121, 32, 102, 111, 114, 32, 112, 105, 99, 107, 117, 112, 32, 105, 110, 32, 115, 108, 111, 116, 32]⟩ : ByteArray)).bind fun bt392 => (if bt392.2 = true then ((Bg.f k bt392.1).bind fun bt394 => (Aq.j2 k x0 x373000 x373001 x373002 x373003 4 (x5.extract 0 8) bt394.1 0)) else ((Cc.f (x5.extract 8 x5.size) (⟨#[32, 111, 119, 101, 115, 32]⟩ : ByteArray)).bind fun bt396 => (if bt396.2 = true then ((Bg.f k bt396.1).bind fun bt398 => ((Cc.f bt398.2 (⟨#[32, 102, 111, 114, 32]⟩ : ByteArray)).bind fun bt400 => ((Bg.f k bt400.1).bind fun bt402 => (Aq.j2 k x0 x373000 x373001 x373002 x373003 5 (x5.extract 0 8) bt398.1 bt402.1)))) else (Aq.j2 k x0 x373000 x373001 x373002 x373003 0 (x5.extract 0 8) 0 0))))))))))) else (none)) else (none))
def Aq.j2 : Nat → ByteArray → Int → ByteArray → Int → Int → Int → ByteArray → Int → Int → Option (Int × ByteArray × Int × Int × Bool)
 | 0, _, _, _, _, _, _, _, _, _ => none
 | k + 1, x0, x373000, x373001, x373002, x373003, x376000, x376001, x376002, x376003 => (E8.f k x376000 x376001 x376002 x376003).bind fun t404 => (if t404 = true then ((Dt.f k x376000 x376001 x376002 x376003).bind fun t405 => (if t405.toList = x0.toList then (some (x376000, x376001, x376002, x376003, true)) else (some (x373000, x373001, x373002, x373003, false)))) else (some (x373000, x373001, x373002, x373003, false)))
def Aq.l0 : Nat → ByteArray → ByteArray → Int → Int → ByteArray → Int → Int → Int → ByteArray → Int → Int → Option (Int × ByteArray × Int × Int × Bool)
 | 0, _, _, _, _, _, _, _, _, _, _, _ => none
 | k + 1, x0, x12, x14, x373000, x373001, x373002, x373003, x376000, x376001, x376002, x376003 => if x14 ≤ 15 then ((Dj.f k x14).bind fun bt390 => (if bt390.1.size + 1 ≤ 9223372036854775807 then (if x12.toList = (bt390.1 ++ (⟨#[46]⟩ : ByteArray)).toList then (Aq.l0 k x0 x12 (wrap64 (x14 + 1)) x373000 x373001 x373002 x373003 x376000 x376001 x14 x376003) else (Aq.l0 k x0 x12 (wrap64 (x14 + 1)) x373000 x373001 x373002 x373003 x376000 x376001 x376002 x376003)) else (none))) else (Aq.j2 k x0 x373000 x373001 x373002 x373003 x376000 x376001 x376002 x376003)
end
def Aq.f (k : Nat) (a0 : ByteArray) : Option (Int × ByteArray × Int × Int × Bool) := (Cc.f a0 (⟨#[67, 111, 110, 116, 97, 105, 110, 101, 114, 32]⟩ : ByteArray)).bind fun bt373 => (if bt373.2 = true then (Aq.j0 k a0 bt373.1 (decide ((bt373.1.size : Int) < 8)) 0 (⟨#[]⟩ : ByteArray) 0 0) else (Aq.j0 k a0 bt373.1 true 0 (⟨#[]⟩ : ByteArray) 0 0))
theorem Aq.Fa : ∀ k, (∀ y0 y1 y2 y3 y4 y5 y6, LeO (Aq.j0 k y0 y1 y2 y3 y4 y5 y6) (Aq.j0 (k + 1) y0 y1 y2 y3 y4 y5 y6)) ∧ (∀ y0 y1 y2 y3 y4 y5 y6 y7 y8, LeO (Aq.j2 k y0 y1 y2 y3 y4 y5 y6 y7 y8) (Aq.j2 (k + 1) y0 y1 y2 y3 y4 y5 y6 y7 y8)) ∧ (∀ y0 y1 y2 y3 y4 y5 y6 y7 y8 y9 y10, LeO (Aq.l0 k y0 y1 y2 y3 y4 y5 y6 y7 y8 y9 y10) (Aq.l0 (k + 1) y0 y1 y2 y3 y4 y5 y6 y7 y8 y9 y10))
 | 0 => ⟨fun _ _ _ _ _ _ _ r h => by simp [Aq.j0] at h, fun _ _ _ _ _ _ _ _ _ r h => by simp [Aq.j2] at h, fun _ _ _ _ _ _ _ _ _ _ _ r h => by simp [Aq.l0] at h⟩
 | k + 1 => by
  obtain ⟨ih0, ih1, ih2⟩ := Aq.Fa k
  refine ⟨?_, ?_, ?_⟩
  ·intro y0 y1 y2 y3 y4 y5 y6
   unfold Aq.j0
   repeat' first
   | (with_reducible exact ih0 _ _ _ _ _ _ _)
   | (with_reducible exact ih1 _ _ _ _ _ _ _ _ _)
   | (with_reducible exact ih2 _ _ _ _ _ _ _ _ _ _ _)
   | (with_reducible exact Dj.mono _ _)
   | (with_reducible exact Bg.mono _ _)
   | (with_reducible exact E8.mono _ _ _ _ _)
   | (with_reducible exact Dt.mono _ _ _ _ _)
   | (with_reducible exact LeO.refl _)
   | (with_reducible exact LeO.none _)
   | (with_reducible refine LeO.ite ?_ ?_)
   | (with_reducible refine LeO.bind ?_ (fun _ => ?_))
   | exact ih0 _ _ _ _ _ _ _
   | exact ih1 _ _ _ _ _ _ _ _ _
   | exact ih2 _ _ _ _ _ _ _ _ _ _ _
   | exact Dj.mono _ _
   | exact Bg.mono _ _
   | exact E8.mono _ _ _ _ _
   | exact Dt.mono _ _ _ _ _
   | exact LeO.none _
   | refine LeO.ite ?_ ?_
   | refine LeO.bind ?_ (fun _ => ?_)
  ·intro y0 y1 y2 y3 y4 y5 y6 y7 y8
   unfold Aq.j2
   repeat' first
   | (with_reducible exact ih0 _ _ _ _ _ _ _)
   | (with_reducible exact ih1 _ _ _ _ _ _ _ _ _)
   | (with_reducible exact ih2 _ _ _ _ _ _ _ _ _ _ _)
   | (with_reducible exact Dj.mono _ _)
   | (with_reducible exact Bg.mono _ _)
   | (with_reducible exact E8.mono _ _ _ _ _)
   | (with_reducible exact Dt.mono _ _ _ _ _)
   | (with_reducible exact LeO.refl _)
   | (with_reducible exact LeO.none _)
   | (with_reducible refine LeO.ite ?_ ?_)
   | (with_reducible refine LeO.bind ?_ (fun _ => ?_))
   | exact ih0 _ _ _ _ _ _ _
   | exact ih1 _ _ _ _ _ _ _ _ _
   | exact ih2 _ _ _ _ _ _ _ _ _ _ _
   | exact Dj.mono _ _
   | exact Bg.mono _ _
   | exact E8.mono _ _ _ _ _
   | exact Dt.mono _ _ _ _ _
   | exact LeO.none _
   | refine LeO.ite ?_ ?_
   | refine LeO.bind ?_ (fun _ => ?_)
  ·intro y0 y1 y2 y3 y4 y5 y6 y7 y8 y9 y10
   unfold Aq.l0
   repeat' first
   | (with_reducible exact ih0 _ _ _ _ _ _ _)
   | (with_reducible exact ih1 _ _ _ _ _ _ _ _ _)
   | (with_reducible exact ih2 _ _ _ _ _ _ _ _ _ _ _)
   | (with_reducible exact Dj.mono _ _)
   | (with_reducible exact Bg.mono _ _)
   | (with_reducible exact E8.mono _ _ _ _ _)
   | (with_reducible exact Dt.mono _ _ _ _ _)
   | (with_reducible exact LeO.refl _)
   | (with_reducible exact LeO.none _)
   | (with_reducible refine LeO.ite ?_ ?_)
   | (with_reducible refine LeO.bind ?_ (fun _ => ?_))
   | exact ih0 _ _ _ _ _ _ _
   | exact ih1 _ _ _ _ _ _ _ _ _
   | exact ih2 _ _ _ _ _ _ _ _ _ _ _
   | exact Dj.mono _ _
   | exact Bg.mono _ _
   | exact E8.mono _ _ _ _ _
   | exact Dt.mono _ _ _ _ _
   | exact LeO.none _
   | refine LeO.ite ?_ ?_
   | refine LeO.bind ?_ (fun _ => ?_)
theorem Aq.mono : ∀ a0 k, LeO (Aq.f k a0) (Aq.f (k + 1) a0) := by
 intro a0 k
 obtain ⟨ih0, ih1, ih2⟩ := Aq.Fa k
 unfold Aq.f
 repeat' first
   | (with_reducible exact ih0 _ _ _ _ _ _ _)
   | (with_reducible exact ih1 _ _ _ _ _ _ _ _ _)
   | (with_reducible exact ih2 _ _ _ _ _ _ _ _ _ _ _)
   | (with_reducible exact Dj.mono _ _)
   | (with_reducible exact Bg.mono _ _)
   | (with_reducible exact E8.mono _ _ _ _ _)
   | (with_reducible exact Dt.mono _ _ _ _ _)
   | (with_reducible exact LeO.refl _)
   | (with_reducible exact LeO.none _)
   | (with_reducible refine LeO.ite ?_ ?_)
   | (with_reducible refine LeO.bind ?_ (fun _ => ?_))
   | exact ih0 _ _ _ _ _ _ _
   | exact ih1 _ _ _ _ _ _ _ _ _
   | exact ih2 _ _ _ _ _ _ _ _ _ _ _
   | exact Dj.mono _ _
   | exact Bg.mono _ _
   | exact E8.mono _ _ _ _ _
   | exact Dt.mono _ _ _ _ _
   | exact LeO.none _
   | refine LeO.ite ?_ ?_
   | refine LeO.bind ?_ (fun _ => ?_)
set_option maxHeartbeats 8000000 in
set_option maxRecDepth 100000 in
theorem Aq.calls (k : Nat) (a0 : ByteArray) (r1 : Int) (r2 : ByteArray) (r3 : Int) (r4 : Int) (r5 : Bool) (w : World) (h : Aq.f k a0 = some (r1, r2, r3, r4, r5)) :
  Calls Tryz.prog 11 #[.string a0] w fun e w' => e = .returned (.tuple #[.agg #[.int .i64 r1, .string r2, .int .i64 r3, .int .i64 r4], .bool r5]) ∧ Below w.heap.size w w' := by
 have hu25 := Tryz.underlying25
 have HB := Ac.mk (Below.refl w.heap.size w)
 have H : ((Cc.f a0 (⟨#[67, 111, 110, 116, 97, 105, 110, 101, 114, 32]⟩ : ByteArray)).bind fun bt373 => (if bt373.2 = true then (Aq.j0 k a0 bt373.1 (decide ((bt373.1.size : Int) < 8)) 0 (⟨#[]⟩ : ByteArray) 0 0) else (Aq.j0 k a0 bt373.1 true 0 (⟨#[]⟩ : ByteArray) 0 0))) = some (r1, r2, r3, r4, r5) := h
 clear h
 replace H := Option.bind_eq_some_iff.mp H
 obtain ⟨⟨t373, t374⟩, A20, H⟩ := H
 try dsimp only at H
 have A2 := Ac.mk A20
 clear A20
 have HC3 := Ac.mk H
 clear H
 go_enter Tryz.func11, Tryz.ntmps11
 go_upto_region 3 with (first | ((with_reducible refine Dl (N := 2) rfl ?_); (try (refine G8 (by rfl) ?_; dsimp only)); refine Dz ?hg (N := 2) ?hd (cs := #[.int .i64 0, .string (⟨#[]⟩ : ByteArray), .int .i64 0, .int .i64 0]) (t := 25) ?hr ?_; (case hd => rfl); (case hg => rfl); (case hr => first | (go_simp; done) | (go_simp; rfl)); intro gb0 hg w4 hbox hb; have n0_ := Ac.mk (Ar Yb_ hb); have n1_ := Ac.mk (hbox); have n2_ := Ac.mk ((by rw [hg]; exact (Ba Yb_) : w.heap.size ≤ gb0)); have n3_ := Ac.mk ((by rw [hg]; exact (Ba Yb_) : w.heap.size ≤ gb0)); clear HB; have HB := n0_; have BK0 := n1_; have GW0 := n2_; have GE0 := n3_; clear n0_ n1_ n2_ n3_; clear hb hbox hg) | ((with_reducible refine Dl (N := 4) rfl ?_); (try (refine G8 (by rfl) ?_; dsimp only)); refine Dz ?hg (N := 4) ?hd (cs := #[.int .i64 0, .string (⟨#[]⟩ : ByteArray), .int .i64 0, .int .i64 0]) (t := 25) ?hr ?_; (case hd => rfl); (case hg => rfl); (case hr => first | (go_simp; done) | (go_simp; rfl)); intro gb1 hg w5 hbox hb; have n0_ := Ac.mk (Bi (g := gb0) (o := .cells #[.int .i64 0, .string (⟨#[]⟩ : ByteArray), .int .i64 0, .int .i64 0] 25 (0, 0)) Yd_ hb); have n1_ := Ac.mk (Ar Yc_ hb); have n2_ := Ac.mk (hbox); have n3_ := Ac.mk ((by rw [hg]; exact (Ba Yc_) : w.heap.size ≤ gb1)); have n4_ := Ac.mk ((by rw [hg]; exact (Ba Yc_) : w.heap.size ≤ gb1)); have n5_ := Ac.mk ((by rw [hg]; exact Nat.ne_of_lt (Gl (g := gb0) (o := .cells #[.int .i64 0, .string (⟨#[]⟩ : ByteArray), .int .i64 0, .int .i64 0] 25 (0, 0)) Yd_) : gb0 ≠ gb1)); have n6_ := Ac.mk ((by rw [hg]; exact Nat.ne_of_gt (Gl (g := gb0) (o := .cells #[.int .i64 0, .string (⟨#[]⟩ : ByteArray), .int .i64 0, .int .i64 0] 25 (0, 0)) Yd_) : gb1 ≠ gb0)); clear BK0; clear HB; have BK0 := n0_; have HB := n1_; have BK1 := n2_; have GW1 := n3_; have GE1 := n4_; have NB0_1 := n5_; have NB1_0 := n6_; clear n0_ n1_ n2_ n3_ n4_ n5_ n6_; clear hb hbox hg; have hnb6 := NB1_0.out; have hnc6 := NB0_1.out; have hcz7_0 : w5.cell? ⟨gb1, 0, none⟩ = some (.int .i64 0) := (Ak BK1.out 0).trans rfl; have hcz7_1 : w5.cell? ⟨gb1, 1, none⟩ = some (.string (⟨#[]⟩ : ByteArray)) := (Ak BK1.out 1).trans rfl; have hcz7_2 : w5.cell? ⟨gb1, 2, none⟩ = some (.int .i64 0) := (Ak BK1.out 2).trans rfl; have hcz7_3 : w5.cell? ⟨gb1, 3, none⟩ = some (.int .i64 0) := (Ak BK1.out 3).trans rfl; have hfz7_0 := Ai BK1.out 0; have hfz7_1 := Ai BK1.out 1; have hfz7_2 := Ai BK1.out 2; have hfz7_3 := Ai BK1.out 3) | ((with_reducible refine Ap (f := 30) rfl ?_); refine Bj (some 24) rfl rfl Tryz.func30 (by kernel_rfl) rfl #[.string a0, .string (⟨#[67, 111, 110, 116, 97, 105, 110, 101, 114, 32]⟩ : ByteArray)] rfl Ya_ ?_; (with_reducible refine (Cc.calls a0 (⟨#[67, 111, 110, 116, 97, 105, 110, 101, 114, 32]⟩ : ByteArray) t373 t374 _ A2.out).mono ?_); rintro e w' ⟨rfl, ⟨nd, rfl⟩⟩; refine ⟨_, rfl, ?_⟩))
 (try simp only [Act.put, List.setIfInBounds_toArray, List.set_cons_zero, List.set_cons_succ])
 go_cut [33] (fun v33 wc => ∃ (kq : Nat) (x33_2 : Bool), v33 = .bool x33_2 ∧ Ac (Aq.j0 kq a0 t373 x33_2 0 (⟨#[]⟩ : ByteArray) 0 0 = some (r1, r2, r3, r4, r5)) ∧ Ac (kq ≤ k) ∧ Ac (wc.heap[gb0]? = some (.cells #[.int .i64 0, .string (⟨#[]⟩ : ByteArray), .int .i64 0, .int .i64 0] 25 (0, 0))) ∧ Ac (wc.heap[gb1]? = some (.cells #[.int .i64 0, .string (⟨#[]⟩ : ByteArray), .int .i64 0, .int .i64 0] 25 (0, 0))) ∧ Ac (Below w.heap.size w wc))
 case first =>
  have H := HC3.out
  clear HC3
  by_cases c8 : t374 = true
  ·subst c8
   have H1 : (Aq.j0 k a0 t373 (decide ((t373.size : Int) < 8)) 0 (⟨#[]⟩ : ByteArray) 0 0) = some (r1, r2, r3, r4, r5) := by rw [if_pos rfl] at H; exact H
   clear H
   have H := H1
   clear H1
   have H' := Ac.mk H
   clear H
   go_wp2
   go_meet
   case rel => exact ⟨_, (decide ((t373.size : Int) < 8)), Yf_, H', ⟨by first | omega | exact Nat.le_refl _⟩, ⟨by (with_reducible repeat (first | refine Ag ?_ _ | refine Ah ?_ | refine Af ?_ _)); refine Bo ?_ NB0_1.out _; (with_reducible repeat (first | refine Ag ?_ _ | refine Ah ?_ | refine Af ?_ _)); refine Bo ?_ NB0_1.out _; (with_reducible repeat (first | refine Ag ?_ _ | refine Ah ?_ | refine Af ?_ _)); refine Bo ?_ NB0_1.out _; (with_reducible repeat (first | refine Ag ?_ _ | refine Ah ?_ | refine Af ?_ _)); refine Bo ?_ NB0_1.out _; (with_reducible repeat (first | refine Ag ?_ _ | refine Ah ?_ | refine Af ?_ _)); exact BK0.out⟩, ⟨by (with_reducible repeat (first | refine Ag ?_ _ | refine Ah ?_ | refine Af ?_ _)); refine Be (cs := #[.int .i64 0, .string (⟨#[]⟩ : ByteArray), .int .i64 0, .int .i64 0]) ?_ 3 _ rfl; (with_reducible repeat (first | refine Ag ?_ _ | refine Ah ?_ | refine Af ?_ _)); refine Be (cs := #[.int .i64 0, .string (⟨#[]⟩ : ByteArray), .int .i64 0, .int .i64 0]) ?_ 2 _ rfl; (with_reducible repeat (first | refine Ag ?_ _ | refine Ah ?_ | refine Af ?_ _)); refine Be (cs := #[.int .i64 0, .string (⟨#[]⟩ : ByteArray), .int .i64 0, .int .i64 0]) ?_ 1 _ rfl; (with_reducible repeat (first | refine Ag ?_ _ | refine Ah ?_ | refine Af ?_ _)); refine Be (cs := #[.int .i64 0, .string (⟨#[]⟩ : ByteArray), .int .i64 0, .int .i64 0]) ?_ 0 _ rfl; (with_reducible repeat (first | refine Ag ?_ _ | refine Ah ?_ | refine Af ?_ _)); exact BK1.out⟩, ⟨by repeat (first | (with_reducible first | exact HB.out | apply Ae | apply Aa | apply Ad | refine Am ?_ GE0.out | refine Am ?_ GE1.out) | exact HB.out)⟩⟩
  ·replace c8 := Bool.eq_false_iff.mpr c8
   subst c8
   have H1 : (Aq.j0 k a0 t373 true 0 (⟨#[]⟩ : ByteArray) 0 0) = some (r1, r2, r3, r4, r5) := by rw [if_neg (show ¬ (false = true) by decide)] at H; exact H
   clear H
   have H := H1
   clear H1
   have H' := Ac.mk H
   clear H
   go_wp2
   go_meet
   case rel => exact ⟨_, (true), Yf_, H', ⟨by first | omega | exact Nat.le_refl _⟩, ⟨by (with_reducible repeat (first | refine Ag ?_ _ | refine Ah ?_ | refine Af ?_ _)); refine Bo ?_ NB0_1.out _; (with_reducible repeat (first | refine Ag ?_ _ | refine Ah ?_ | refine Af ?_ _)); refine Bo ?_ NB0_1.out _; (with_reducible repeat (first | refine Ag ?_ _ | refine Ah ?_ | refine Af ?_ _)); refine Bo ?_ NB0_1.out _; (with_reducible repeat (first | refine Ag ?_ _ | refine Ah ?_ | refine Af ?_ _)); refine Bo ?_ NB0_1.out _; (with_reducible repeat (first | refine Ag ?_ _ | refine Ah ?_ | refine Af ?_ _)); exact BK0.out⟩, ⟨by (with_reducible repeat (first | refine Ag ?_ _ | refine Ah ?_ | refine Af ?_ _)); refine Be (cs := #[.int .i64 0, .string (⟨#[]⟩ : ByteArray), .int .i64 0, .int .i64 0]) ?_ 3 _ rfl; (with_reducible repeat (first | refine Ag ?_ _ | refine Ah ?_ | refine Af ?_ _)); refine Be (cs := #[.int .i64 0, .string (⟨#[]⟩ : ByteArray), .int .i64 0, .int .i64 0]) ?_ 2 _ rfl; (with_reducible repeat (first | refine Ag ?_ _ | refine Ah ?_ | refine Af ?_ _)); refine Be (cs := #[.int .i64 0, .string (⟨#[]⟩ : ByteArray), .int .i64 0, .int .i64 0]) ?_ 1 _ rfl; (with_reducible repeat (first | refine Ag ?_ _ | refine Ah ?_ | refine Af ?_ _)); refine Be (cs := #[.int .i64 0, .string (⟨#[]⟩ : ByteArray), .int .i64 0, .int .i64 0]) ?_ 0 _ rfl; (with_reducible repeat (first | refine Ag ?_ _ | refine Ah ?_ | refine Af ?_ _)); exact BK1.out⟩, ⟨by repeat (first | (with_reducible first | exact HB.out | apply Ae | apply Aa | apply Ad | refine Am ?_ GE0.out | refine Am ?_ GE1.out) | exact HB.out)⟩⟩
 case rest =>
  clear HC3
  try clear c1; try clear p2; try clear c3; try clear c6; try clear c8; try clear hcz7_0; try clear hcz7_1; try clear hcz7_2; try clear hcz7_3; try clear hfz7_0; try clear hfz7_1; try clear hfz7_2; try clear hfz7_3
  obtain ⟨kq, x33_2, rfl, HA, HJ2, BK0, BK1, HB⟩ := hcut
  cases kq with
  | zero => exact absurd HA.out (by simp [Aq.j0])
  | succ kj2 =>
   have H := HA.out
   clear HA
   simp only [Aq.j0] at H
   by_cases c9 : x33_2 = true
   ·subst c9
    have H1 : (some (0, (⟨#[]⟩ : ByteArray), 0, 0, false)) = some (r1, r2, r3, r4, r5) := by rw [if_pos rfl] at H; exact H
    clear H
    have H := H1
    clear H1
    simp only [Option.some.injEq, Prod.mk.injEq] at H
    obtain ⟨rfl, rfl, rfl, rfl, rfl⟩ := H
    have hnb10 := NB1_0.out
    have hnc10 := NB0_1.out
    have hcz11_0 : wc.cell? ⟨gb1, 0, none⟩ = some (.int .i64 0) := (Ak BK1.out 0).trans rfl
    have hcz11_1 : wc.cell? ⟨gb1, 1, none⟩ = some (.string (⟨#[]⟩ : ByteArray)) := (Ak BK1.out 1).trans rfl
    have hcz11_2 : wc.cell? ⟨gb1, 2, none⟩ = some (.int .i64 0) := (Ak BK1.out 2).trans rfl
    have hcz11_3 : wc.cell? ⟨gb1, 3, none⟩ = some (.int .i64 0) := (Ak BK1.out 3).trans rfl
    have hfz11_0 := Ai BK1.out 0
    have hfz11_1 := Ai BK1.out 1
    have hfz11_2 := Ai BK1.out 2
    have hfz11_3 := Ai BK1.out 3
    have hcz12_0 : wc.cell? ⟨gb0, 0, none⟩ = some (.int .i64 0) := (Ak BK0.out 0).trans rfl
    have hcz12_1 : wc.cell? ⟨gb0, 1, none⟩ = some (.string (⟨#[]⟩ : ByteArray)) := (Ak BK0.out 1).trans rfl
    have hcz12_2 : wc.cell? ⟨gb0, 2, none⟩ = some (.int .i64 0) := (Ak BK0.out 2).trans rfl
    have hcz12_3 : wc.cell? ⟨gb0, 3, none⟩ = some (.int .i64 0) := (Ak BK0.out 3).trans rfl
    have hfz12_0 := Ai BK0.out 0
    have hfz12_1 := Ai BK0.out 1
    have hfz12_2 := Ai BK0.out 2
    have hfz12_3 := Ai BK0.out 3
    go_wp2
    refine bodyPost_ret (Ir rfl _ _ gb0 25 #[.int .i64 0, .string (⟨#[]⟩ : ByteArray), .int .i64 0, .int .i64 0] (0, 0) _ rfl Ybe_ Tryz.underlying25 rfl (by kernel_rfl)) rfl ?_
    exact ⟨by first | rfl | (simp [Au, Aw] <;> rfl) | (simp [*, Au, Aw] <;> rfl), by repeat (first | (with_reducible first | exact HB.out | apply Ae | apply Aa | apply Ad | refine Am ?_ GE0.out | refine Am ?_ GE1.out) | exact HB.out)⟩
   ·replace c9 := Bool.eq_false_iff.mpr c9
    subst c9
    have H1 : (if 0 ≤ 8 then (if 8 ≤ (t373.size : Int) then ((Cc.f (t373.extract 8 t373.size) (⟨#[32, 104, 97, 115, 32, 97, 114, 114, 105, 118, 101, 100, 32, 105, 110, 32, 115, 116, 97, 99, 107, 32]⟩ : ByteArray)).bind fun bt376 => (if bt376.2 = true then ((Bg.f kj2 bt376.1).bind fun bt378 => (Aq.j2 kj2 a0 0 (⟨#[]⟩ : ByteArray) 0 0 1 (t373.extract 0 8) bt378.1 0)) else ((Cc.f (t373.extract 8 t373.size) (⟨#[32, 119, 97, 115, 32, 109, 111, 118, 101, 100, 32, 102, 114, 111, 109, 32, 115, 116, 97, 99, 107, 32]⟩ : ByteArray)).bind fun bt380 => (if bt380.2 = true then ((Bg.f kj2 bt380.1).bind fun bt382 => ((Cc.f bt382.2 (⟨#[32, 116, 111, 32, 115, 116, 97, 99, 107, 32]⟩ : ByteArray)).bind fun bt384 => ((Bg.f kj2 bt384.1).bind fun bt386 => (Aq.j2 kj2 a0 0 (⟨#[]⟩ : ByteArray) 0 0 2 (t373.extract 0 8) bt382.1 bt386.1)))) else ((Cc.f (t373.extract 8 t373.size) (⟨#[32, 105, 115, 32, 104, 101, 108, 100, 32, 102, 111, 114, 32]⟩ : ByteArray)).bind fun bt388 => (if bt388.2 = true then (Aq.l0 kj2 a0 bt388.1 1 0 (⟨#[]⟩ : ByteArray) 0 0 3 (t373.extract 0 8) 0 0) else ((Cc.f (t373.extract 8 t373.size) (⟨#[32, 105, 115, 32, 114, 101, 97, 100, 121, 32, 102, 111, 114, 32, 112, 105, 99, 107, 117, 112, 32, 105, 110, 32, 115, 108, 111, 116, 32]⟩ : ByteArray)).bind fun bt392 => (if bt392.2 = true then ((Bg.f kj2 bt392.1).bind fun bt394 => (Aq.j2 kj2 a0 0 (⟨#[]⟩ : ByteArray) 0 0 4 (t373.extract 0 8) bt394.1 0)) else ((Cc.f (t373.extract 8 t373.size) (⟨#[32, 111, 119, 101, 115, 32]⟩ : ByteArray)).bind fun bt396 => (if bt396.2 = true then ((Bg.f kj2 bt396.1).bind fun bt398 => ((Cc.f bt398.2 (⟨#[32, 102, 111, 114, 32]⟩ : ByteArray)).bind fun bt400 => ((Bg.f kj2 bt400.1).bind fun bt402 => (Aq.j2 kj2 a0 0 (⟨#[]⟩ : ByteArray) 0 0 5 (t373.extract 0 8) bt398.1 bt402.1)))) else (Aq.j2 kj2 a0 0 (⟨#[]⟩ : ByteArray) 0 0 0 (t373.extract 0 8) 0 0))))))))))) else (none)) else (none)) = some (r1, r2, r3, r4, r5) := by rw [if_neg (show ¬ (false = true) by decide)] at H; exact H
    clear H
    have H := H1
    clear H1
    by_cases c13 : 0 ≤ 8
    ·rw [if_pos c13] at H
     have c13b0 := eq_true c13
     have c13b1 : decide (0 ≤ 8) = true := decide_eq_true c13
     clear c13
     by_cases c14 : 8 ≤ (t373.size : Int)
     ·rw [if_pos c14] at H
      have c14b0 := eq_true c14
      have c14b1 : decide (8 ≤ (t373.size : Int)) = true := decide_eq_true c14
      clear c14
      have c15b0 := eq_true (of_decide_eq_true Ye_ : 8 ≤ (t373.size : Int))
      replace H := Option.bind_eq_some_iff.mp H
      obtain ⟨⟨t376, t377⟩, A160, H⟩ := H
      try dsimp only at H
      have A16 := Ac.mk A160
      clear A160
      have HC17 := Ac.mk H
      clear H
      go_upto_if 45 with (first | ((with_reducible refine Dl (N := 7) rfl ?_); (try (refine G8 (by rfl) ?_; dsimp only)); refine Dz ?hg (N := 7) ?hd (cs := #[.int .i64 0, .string (⟨#[]⟩ : ByteArray), .int .i64 0, .int .i64 0]) (t := 25) ?hr ?_; (case hd => rfl); (case hg => rfl); (case hr => first | (go_simp; done) | (go_simp; rfl)); intro gb2 hg w18 hbox hb; have n0_ := Ac.mk (Bi (g := gb0) (o := .cells #[.int .i64 0, .string (⟨#[]⟩ : ByteArray), .int .i64 0, .int .i64 0] 25 (0, 0)) Yd_ hb); have n1_ := Ac.mk (Bi (g := gb1) (o := .cells #[.int .i64 0, .string (⟨#[]⟩ : ByteArray), .int .i64 0, .int .i64 0] 25 (0, 0)) Yj_ hb); have n2_ := Ac.mk (Ar Ybg_ hb); have n3_ := Ac.mk (hbox); have n4_ := Ac.mk ((by rw [hg]; exact (Ba Ybg_) : w.heap.size ≤ gb2)); have n5_ := Ac.mk ((by rw [hg]; exact (Ba Ybg_) : w.heap.size ≤ gb2)); have n6_ := Ac.mk ((by rw [hg]; exact Nat.ne_of_lt (Gl (g := gb0) (o := .cells #[.int .i64 0, .string (⟨#[]⟩ : ByteArray), .int .i64 0, .int .i64 0] 25 (0, 0)) Yd_) : gb0 ≠ gb2)); have n7_ := Ac.mk ((by rw [hg]; exact Nat.ne_of_gt (Gl (g := gb0) (o := .cells #[.int .i64 0, .string (⟨#[]⟩ : ByteArray), .int .i64 0, .int .i64 0] 25 (0, 0)) Yd_) : gb2 ≠ gb0)); have n8_ := Ac.mk ((by rw [hg]; exact Nat.ne_of_lt (Gl (g := gb1) (o := .cells #[.int .i64 0, .string (⟨#[]⟩ : ByteArray), .int .i64 0, .int .i64 0] 25 (0, 0)) Yj_) : gb1 ≠ gb2)); have n9_ := Ac.mk ((by rw [hg]; exact Nat.ne_of_gt (Gl (g := gb1) (o := .cells #[.int .i64 0, .string (⟨#[]⟩ : ByteArray), .int .i64 0, .int .i64 0] 25 (0, 0)) Yj_) : gb2 ≠ gb1)); clear BK0; clear BK1; clear HB; have BK0 := n0_; have BK1 := n1_; have HB := n2_; have BK2 := n3_; have GW2 := n4_; have GE2 := n5_; have NB0_2 := n6_; have NB2_0 := n7_; have NB1_2 := n8_; have NB2_1 := n9_; clear n0_ n1_ n2_ n3_ n4_ n5_ n6_ n7_ n8_ n9_; clear hb hbox hg; have hnb19 := NB2_0.out; have hnc19 := NB0_2.out; have hnb20 := NB2_1.out; have hnc20 := NB1_2.out; have hcz21_0 : w18.cell? ⟨gb2, 0, none⟩ = some (.int .i64 0) := (Ak BK2.out 0).trans rfl; have hcz21_1 : w18.cell? ⟨gb2, 1, none⟩ = some (.string (⟨#[]⟩ : ByteArray)) := (Ak BK2.out 1).trans rfl; have hcz21_2 : w18.cell? ⟨gb2, 2, none⟩ = some (.int .i64 0) := (Ak BK2.out 2).trans rfl; have hcz21_3 : w18.cell? ⟨gb2, 3, none⟩ = some (.int .i64 0) := (Ak BK2.out 3).trans rfl; have hfz21_0 := Ai BK2.out 0; have hfz21_1 := Ai BK2.out 1; have hfz21_2 := Ai BK2.out 2; have hfz21_3 := Ai BK2.out 3) | ((with_reducible refine Ap (f := 30) rfl ?_); refine Bj (some 42) rfl rfl Tryz.func30 (by kernel_rfl) rfl #[.string (t373.extract 8 t373.size), .string (⟨#[32, 104, 97, 115, 32, 97, 114, 114, 105, 118, 101, 100, 32, 105, 110, 32, 115, 116, 97, 99, 107, 32]⟩ : ByteArray)] rfl Ya_ ?_; (with_reducible refine (Cc.calls (t373.extract 8 t373.size) (⟨#[32, 104, 97, 115, 32, 97, 114, 114, 105, 118, 101, 100, 32, 105, 110, 32, 115, 116, 97, 99, 107, 32]⟩ : ByteArray) t376 t377 _ A16.out).mono ?_); rintro e w' ⟨rfl, ⟨nd, rfl⟩⟩; refine ⟨_, rfl, ?_⟩))
      (try simp only [Act.put, List.setIfInBounds_toArray, List.set_cons_zero, List.set_cons_succ])
      go_cut [] (fun wc => ∃ (kq : Nat) (x376000_16 : Int) (x376002_16 : Int) (x376003_16 : Int), Ac (Aq.j2 kq a0 0 (⟨#[]⟩ : ByteArray) 0 0 x376000_16 (t373.extract 0 8) x376002_16 x376003_16 = some (r1, r2, r3, r4, r5)) ∧ Ac (kq ≤ kj2) ∧ Ac (wc.heap[gb0]? = some (.cells #[.int .i64 0, .string (⟨#[]⟩ : ByteArray), .int .i64 0, .int .i64 0] 25 (0, 0))) ∧ Ac (wc.heap[gb1]? = some (.cells #[.int .i64 0, .string (⟨#[]⟩ : ByteArray), .int .i64 0, .int .i64 0] 25 (0, 0))) ∧ Ac (wc.heap[gb2]? = some (.cells #[.int .i64 x376000_16, .string (t373.extract 0 8), .int .i64 x376002_16, .int .i64 x376003_16] 25 (0, 0))) ∧ Ac (Below w.heap.size w wc))
      case first =>
       have H := HC17.out
       clear HC17
       by_cases c22 : t377 = true
       ·subst c22
        have H1 : ((Bg.f kj2 t376).bind fun bt378 => (Aq.j2 kj2 a0 0 (⟨#[]⟩ : ByteArray) 0 0 1 (t373.extract 0 8) bt378.1 0)) = some (r1, r2, r3, r4, r5) := by rw [if_pos rfl] at H; exact H
        clear H
        have H := H1
        clear H1
        replace H := Option.bind_eq_some_iff.mp H
        obtain ⟨⟨t378, t379⟩, A230, H⟩ := H
        try dsimp only at H
        have A23 := Ac.mk A230
        clear A230
        have H' := Ac.mk H
        clear H
        have hnb24 := NB2_0.out
        have hnc24 := NB0_2.out
        have hnb25 := NB2_1.out
        have hnc25 := NB1_2.out
        have hcz26_0 : w18.cell? ⟨gb2, 0, none⟩ = some (.int .i64 0) := (Ak BK2.out 0).trans rfl
        have hcz26_1 : w18.cell? ⟨gb2, 1, none⟩ = some (.string (⟨#[]⟩ : ByteArray)) := (Ak BK2.out 1).trans rfl
        have hcz26_2 : w18.cell? ⟨gb2, 2, none⟩ = some (.int .i64 0) := (Ak BK2.out 2).trans rfl
        have hcz26_3 : w18.cell? ⟨gb2, 3, none⟩ = some (.int .i64 0) := (Ak BK2.out 3).trans rfl
        have hfz26_0 := Ai BK2.out 0
        have hfz26_1 := Ai BK2.out 1
        have hfz26_2 := Ai BK2.out 2
        have hfz26_3 := Ai BK2.out 3
        go_wp2_with (first | ((with_reducible refine Ap (f := 31) rfl ?_); refine Bj (some 49) rfl rfl Tryz.func31 (by kernel_rfl) rfl #[.string t376] rfl Ya_ ?_; (with_reducible refine (Bg.calls kj2 t376 t378 t379 _ A23.out).mono ?_); rintro e w27 ⟨rfl, hb⟩; refine ⟨_, rfl, ?_⟩; have n0_ := Ac.mk (Bi (g := gb0) (o := .cells #[.int .i64 0, .string (⟨#[]⟩ : ByteArray), .int .i64 0, .int .i64 0] 25 (0, 0)) Yca_ hb); have n1_ := Ac.mk (Bi (g := gb1) (o := .cells #[.int .i64 0, .string (⟨#[]⟩ : ByteArray), .int .i64 0, .int .i64 0] 25 (0, 0)) Ycb_ hb); have n2_ := Ac.mk (Bi (g := gb2) (o := .cells #[.int .i64 1, .string (t373.extract 0 8), .int .i64 0, .int .i64 0] 25 (0, 0)) Ybb_ hb); have n3_ := Ac.mk (Ar Ybc_ hb); clear BK0; clear BK1; clear BK2; clear HB; have BK0 := n0_; have BK1 := n1_; have BK2 := n2_; have HB := n3_; clear n0_ n1_ n2_ n3_; (try clear hb); (try clear hb2); (try clear hk); (try clear hi); have hcz28_0 : w27.cell? ⟨gb2, 0, none⟩ = some (.int .i64 1) := (Ak BK2.out 0).trans rfl; have hcz28_1 : w27.cell? ⟨gb2, 1, none⟩ = some (.string (t373.extract 0 8)) := (Ak BK2.out 1).trans rfl; have hcz28_2 : w27.cell? ⟨gb2, 2, none⟩ = some (.int .i64 0) := (Ak BK2.out 2).trans rfl; have hcz28_3 : w27.cell? ⟨gb2, 3, none⟩ = some (.int .i64 0) := (Ak BK2.out 3).trans rfl; have hfz28_0 := Ai BK2.out 0; have hfz28_1 := Ai BK2.out 1; have hfz28_2 := Ai BK2.out 2; have hfz28_3 := Ai BK2.out 3))
        go_meet
        case rel => exact ⟨_, (1), (t378), (0), H', ⟨by have := HJ2.out; first | omega | exact Nat.le_refl _⟩, ⟨by (with_reducible repeat (first | refine Ag ?_ _ | refine Ah ?_ | refine Af ?_ _)); refine Bo ?_ NB0_2.out _; (with_reducible repeat (first | refine Ag ?_ _ | refine Ah ?_ | refine Af ?_ _)); exact BK0.out⟩, ⟨by (with_reducible repeat (first | refine Ag ?_ _ | refine Ah ?_ | refine Af ?_ _)); refine Bo ?_ NB1_2.out _; (with_reducible repeat (first | refine Ag ?_ _ | refine Ah ?_ | refine Af ?_ _)); exact BK1.out⟩, ⟨by (with_reducible repeat (first | refine Ag ?_ _ | refine Ah ?_ | refine Af ?_ _)); refine Be (cs := #[.int .i64 1, .string (t373.extract 0 8), .int .i64 0, .int .i64 0]) ?_ 2 _ rfl; (with_reducible repeat (first | refine Ag ?_ _ | refine Ah ?_ | refine Af ?_ _)); exact BK2.out⟩, ⟨by repeat (first | (with_reducible first | exact HB.out | apply Ae | apply Aa | apply Ad | refine Am ?_ GE0.out | refine Am ?_ GE1.out | refine Am ?_ GE2.out) | exact HB.out)⟩⟩
       ·replace c22 := Bool.eq_false_iff.mpr c22
        subst c22
        have H1 : ((Cc.f (t373.extract 8 t373.size) (⟨#[32, 119, 97, 115, 32, 109, 111, 118, 101, 100, 32, 102, 114, 111, 109, 32, 115, 116, 97, 99, 107, 32]⟩ : ByteArray)).bind fun bt380 => (if bt380.2 = true then ((Bg.f kj2 bt380.1).bind fun bt382 => ((Cc.f bt382.2 (⟨#[32, 116, 111, 32, 115, 116, 97, 99, 107, 32]⟩ : ByteArray)).bind fun bt384 => ((Bg.f kj2 bt384.1).bind fun bt386 => (Aq.j2 kj2 a0 0 (⟨#[]⟩ : ByteArray) 0 0 2 (t373.extract 0 8) bt382.1 bt386.1)))) else ((Cc.f (t373.extract 8 t373.size) (⟨#[32, 105, 115, 32, 104, 101, 108, 100, 32, 102, 111, 114, 32]⟩ : ByteArray)).bind fun bt388 => (if bt388.2 = true then (Aq.l0 kj2 a0 bt388.1 1 0 (⟨#[]⟩ : ByteArray) 0 0 3 (t373.extract 0 8) 0 0) else ((Cc.f (t373.extract 8 t373.size) (⟨#[32, 105, 115, 32, 114, 101, 97, 100, 121, 32, 102, 111, 114, 32, 112, 105, 99, 107, 117, 112, 32, 105, 110, 32, 115, 108, 111, 116, 32]⟩ : ByteArray)).bind fun bt392 => (if bt392.2 = true then ((Bg.f kj2 bt392.1).bind fun bt394 => (Aq.j2 kj2 a0 0 (⟨#[]⟩ : ByteArray) 0 0 4 (t373.extract 0 8) bt394.1 0)) else ((Cc.f (t373.extract 8 t373.size) (⟨#[32, 111, 119, 101, 115, 32]⟩ : ByteArray)).bind fun bt396 => (if bt396.2 = true then ((Bg.f kj2 bt396.1).bind fun bt398 => ((Cc.f bt398.2 (⟨#[32, 102, 111, 114, 32]⟩ : ByteArray)).bind fun bt400 => ((Bg.f kj2 bt400.1).bind fun bt402 => (Aq.j2 kj2 a0 0 (⟨#[]⟩ : ByteArray) 0 0 5 (t373.extract 0 8) bt398.1 bt402.1)))) else (Aq.j2 kj2 a0 0 (⟨#[]⟩ : ByteArray) 0 0 0 (t373.extract 0 8) 0 0))))))))) = some (r1, r2, r3, r4, r5) := by rw [if_neg (show ¬ (false = true) by decide)] at H; exact H
        clear H
        have H := H1
        clear H1
        replace H := Option.bind_eq_some_iff.mp H
        obtain ⟨⟨t380, t381⟩, A290, H⟩ := H
        try dsimp only at H
        have A29 := Ac.mk A290
        clear A290
        by_cases c30 : t381 = true
        ·subst c30
         have H1 : ((Bg.f kj2 t380).bind fun bt382 => ((Cc.f bt382.2 (⟨#[32, 116, 111, 32, 115, 116, 97, 99, 107, 32]⟩ : ByteArray)).bind fun bt384 => ((Bg.f kj2 bt384.1).bind fun bt386 => (Aq.j2 kj2 a0 0 (⟨#[]⟩ : ByteArray) 0 0 2 (t373.extract 0 8) bt382.1 bt386.1)))) = some (r1, r2, r3, r4, r5) := by rw [if_pos rfl] at H; exact H
         clear H
         have H := H1
         clear H1
         replace H := Option.bind_eq_some_iff.mp H
         obtain ⟨⟨t382, t383⟩, A310, H⟩ := H
         try dsimp only at H
         have A31 := Ac.mk A310
         clear A310
         replace H := Option.bind_eq_some_iff.mp H
         obtain ⟨⟨t384, t385⟩, A320, H⟩ := H
         try dsimp only at H
         have A32 := Ac.mk A320
         clear A320
         replace H := Option.bind_eq_some_iff.mp H
         obtain ⟨⟨t386, t387⟩, A330, H⟩ := H
         try dsimp only at H
         have A33 := Ac.mk A330
         clear A330
         have H' := Ac.mk H
         clear H
         go_wp2_with (first | ((with_reducible refine Ap (f := 30) rfl ?_); refine Bj (some 55) rfl rfl Tryz.func30 (by kernel_rfl) rfl #[.string (t373.extract 8 t373.size), .string (⟨#[32, 119, 97, 115, 32, 109, 111, 118, 101, 100, 32, 102, 114, 111, 109, 32, 115, 116, 97, 99, 107, 32]⟩ : ByteArray)] rfl Ya_ ?_; (with_reducible refine (Cc.calls (t373.extract 8 t373.size) (⟨#[32, 119, 97, 115, 32, 109, 111, 118, 101, 100, 32, 102, 114, 111, 109, 32, 115, 116, 97, 99, 107, 32]⟩ : ByteArray) t380 true _ A29.out).mono ?_); rintro e w' ⟨rfl, ⟨nd, rfl⟩⟩; refine ⟨_, rfl, ?_⟩; have hnb34 := NB2_0.out; have hnc34 := NB0_2.out; have hnb35 := NB2_1.out; have hnc35 := NB1_2.out; have hcz36_0 : w18.cell? ⟨gb2, 0, none⟩ = some (.int .i64 0) := (Ak BK2.out 0).trans rfl; have hcz36_1 : w18.cell? ⟨gb2, 1, none⟩ = some (.string (⟨#[]⟩ : ByteArray)) := (Ak BK2.out 1).trans rfl; have hcz36_2 : w18.cell? ⟨gb2, 2, none⟩ = some (.int .i64 0) := (Ak BK2.out 2).trans rfl; have hcz36_3 : w18.cell? ⟨gb2, 3, none⟩ = some (.int .i64 0) := (Ak BK2.out 3).trans rfl; have hfz36_0 := Ai BK2.out 0; have hfz36_1 := Ai BK2.out 1; have hfz36_2 := Ai BK2.out 2; have hfz36_3 := Ai BK2.out 3) | ((with_reducible refine Ap (f := 31) rfl ?_); refine Bj (some 62) rfl rfl Tryz.func31 (by kernel_rfl) rfl #[.string t380] rfl Ya_ ?_; (with_reducible refine (Bg.calls kj2 t380 t382 t383 _ A31.out).mono ?_); rintro e w37 ⟨rfl, hb⟩; refine ⟨_, rfl, ?_⟩; have n0_ := Ac.mk (Bi (g := gb0) (o := .cells #[.int .i64 0, .string (⟨#[]⟩ : ByteArray), .int .i64 0, .int .i64 0] 25 (0, 0)) Yca_ hb); have n1_ := Ac.mk (Bi (g := gb1) (o := .cells #[.int .i64 0, .string (⟨#[]⟩ : ByteArray), .int .i64 0, .int .i64 0] 25 (0, 0)) Ycb_ hb); have n2_ := Ac.mk (Bi (g := gb2) (o := .cells #[.int .i64 2, .string (t373.extract 0 8), .int .i64 0, .int .i64 0] 25 (0, 0)) Ybb_ hb); have n3_ := Ac.mk (Ar Ybc_ hb); clear BK0; clear BK1; clear BK2; clear HB; have BK0 := n0_; have BK1 := n1_; have BK2 := n2_; have HB := n3_; clear n0_ n1_ n2_ n3_; (try clear hb); (try clear hb2); (try clear hk); (try clear hi); have hcz38_0 : w37.cell? ⟨gb2, 0, none⟩ = some (.int .i64 2) := (Ak BK2.out 0).trans rfl; have hcz38_1 : w37.cell? ⟨gb2, 1, none⟩ = some (.string (t373.extract 0 8)) := (Ak BK2.out 1).trans rfl; have hcz38_2 : w37.cell? ⟨gb2, 2, none⟩ = some (.int .i64 0) := (Ak BK2.out 2).trans rfl; have hcz38_3 : w37.cell? ⟨gb2, 3, none⟩ = some (.int .i64 0) := (Ak BK2.out 3).trans rfl; have hfz38_0 := Ai BK2.out 0; have hfz38_1 := Ai BK2.out 1; have hfz38_2 := Ai BK2.out 2; have hfz38_3 := Ai BK2.out 3) | ((with_reducible refine Ap (f := 30) rfl ?_); refine Bj (some 68) rfl rfl Tryz.func30 (by kernel_rfl) rfl #[.string t383, .string (⟨#[32, 116, 111, 32, 115, 116, 97, 99, 107, 32]⟩ : ByteArray)] rfl Ya_ ?_; (with_reducible refine (Cc.calls t383 (⟨#[32, 116, 111, 32, 115, 116, 97, 99, 107, 32]⟩ : ByteArray) t384 t385 _ A32.out).mono ?_); rintro e w' ⟨rfl, ⟨nd, rfl⟩⟩; refine ⟨_, rfl, ?_⟩) | ((with_reducible refine Ap (f := 31) rfl ?_); refine Bj (some 73) rfl rfl Tryz.func31 (by kernel_rfl) rfl #[.string t384] rfl Ya_ ?_; (with_reducible refine (Bg.calls kj2 t384 t386 t387 _ A33.out).mono ?_); rintro e w39 ⟨rfl, hb⟩; refine ⟨_, rfl, ?_⟩; have n0_ := Ac.mk (Bi (g := gb0) (o := .cells #[.int .i64 0, .string (⟨#[]⟩ : ByteArray), .int .i64 0, .int .i64 0] 25 (0, 0)) Yed_ hb); have n1_ := Ac.mk (Bi (g := gb1) (o := .cells #[.int .i64 0, .string (⟨#[]⟩ : ByteArray), .int .i64 0, .int .i64 0] 25 (0, 0)) Yee_ hb); have n2_ := Ac.mk (Bi (g := gb2) (o := .cells #[.int .i64 2, .string (t373.extract 0 8), .int .i64 t382, .int .i64 0] 25 (0, 0)) (by (with_reducible repeat (first | refine Ag ?_ _ | refine Ah ?_ | refine Af ?_ _)); refine Be (cs := #[.int .i64 2, .string (t373.extract 0 8), .int .i64 0, .int .i64 0]) ?_ 2 _ rfl; (with_reducible repeat (first | refine Ag ?_ _ | refine Ah ?_ | refine Af ?_ _)); exact BK2.out) hb); have n3_ := Ac.mk (Ar Ybc_ hb); clear BK0; clear BK1; clear BK2; clear HB; have BK0 := n0_; have BK1 := n1_; have BK2 := n2_; have HB := n3_; clear n0_ n1_ n2_ n3_; (try clear hb); (try clear hb2); (try clear hk); (try clear hi); have hcz40_0 : w39.cell? ⟨gb2, 0, none⟩ = some (.int .i64 2) := (Ak BK2.out 0).trans rfl; have hcz40_1 : w39.cell? ⟨gb2, 1, none⟩ = some (.string (t373.extract 0 8)) := (Ak BK2.out 1).trans rfl; have hcz40_2 : w39.cell? ⟨gb2, 2, none⟩ = some (.int .i64 t382) := (Ak BK2.out 2).trans rfl; have hcz40_3 : w39.cell? ⟨gb2, 3, none⟩ = some (.int .i64 0) := (Ak BK2.out 3).trans rfl; have hfz40_0 := Ai BK2.out 0; have hfz40_1 := Ai BK2.out 1; have hfz40_2 := Ai BK2.out 2; have hfz40_3 := Ai BK2.out 3))
         go_meet
         case rel => exact ⟨_, (2), (t382), (t386), H', ⟨by have := HJ2.out; first | omega | exact Nat.le_refl _⟩, ⟨by (with_reducible repeat (first | refine Ag ?_ _ | refine Ah ?_ | refine Af ?_ _)); refine Bo ?_ NB0_2.out _; (with_reducible repeat (first | refine Ag ?_ _ | refine Ah ?_ | refine Af ?_ _)); exact BK0.out⟩, ⟨by (with_reducible repeat (first | refine Ag ?_ _ | refine Ah ?_ | refine Af ?_ _)); refine Bo ?_ NB1_2.out _; (with_reducible repeat (first | refine Ag ?_ _ | refine Ah ?_ | refine Af ?_ _)); exact BK1.out⟩, ⟨by (with_reducible repeat (first | refine Ag ?_ _ | refine Ah ?_ | refine Af ?_ _)); refine Be (cs := #[.int .i64 2, .string (t373.extract 0 8), .int .i64 t382, .int .i64 0]) ?_ 3 _ rfl; (with_reducible repeat (first | refine Ag ?_ _ | refine Ah ?_ | refine Af ?_ _)); exact BK2.out⟩, ⟨by repeat (first | (with_reducible first | exact HB.out | apply Ae | apply Aa | apply Ad | refine Am ?_ GE0.out | refine Am ?_ GE1.out | refine Am ?_ GE2.out) | exact HB.out)⟩⟩
        ·replace c30 := Bool.eq_false_iff.mpr c30
         subst c30
         have H1 : ((Cc.f (t373.extract 8 t373.size) (⟨#[32, 105, 115, 32, 104, 101, 108, 100, 32, 102, 111, 114, 32]⟩ : ByteArray)).bind fun bt388 => (if bt388.2 = true then (Aq.l0 kj2 a0 bt388.1 1 0 (⟨#[]⟩ : ByteArray) 0 0 3 (t373.extract 0 8) 0 0) else ((Cc.f (t373.extract 8 t373.size) (⟨#[32, 105, 115, 32, 114, 101, 97, 100, 121, 32, 102, 111, 114, 32, 112, 105, 99, 107, 117, 112, 32, 105, 110, 32, 115, 108, 111, 116, 32]⟩ : ByteArray)).bind fun bt392 => (if bt392.2 = true then ((Bg.f kj2 bt392.1).bind fun bt394 => (Aq.j2 kj2 a0 0 (⟨#[]⟩ : ByteArray) 0 0 4 (t373.extract 0 8) bt394.1 0)) else ((Cc.f (t373.extract 8 t373.size) (⟨#[32, 111, 119, 101, 115, 32]⟩ : ByteArray)).bind fun bt396 => (if bt396.2 = true then ((Bg.f kj2 bt396.1).bind fun bt398 => ((Cc.f bt398.2 (⟨#[32, 102, 111, 114, 32]⟩ : ByteArray)).bind fun bt400 => ((Bg.f kj2 bt400.1).bind fun bt402 => (Aq.j2 kj2 a0 0 (⟨#[]⟩ : ByteArray) 0 0 5 (t373.extract 0 8) bt398.1 bt402.1)))) else (Aq.j2 kj2 a0 0 (⟨#[]⟩ : ByteArray) 0 0 0 (t373.extract 0 8) 0 0))))))) = some (r1, r2, r3, r4, r5) := by rw [if_neg (show ¬ (false = true) by decide)] at H; exact H
         clear H
         have H := H1
         clear H1
         replace H := Option.bind_eq_some_iff.mp H
         obtain ⟨⟨t388, t389⟩, A410, H⟩ := H
         try dsimp only at H
         have A41 := Ac.mk A410
         clear A410
         by_cases c42 : t389 = true
         ·subst c42
          have H1 : (Aq.l0 kj2 a0 t388 1 0 (⟨#[]⟩ : ByteArray) 0 0 3 (t373.extract 0 8) 0 0) = some (r1, r2, r3, r4, r5) := by rw [if_pos rfl] at H; exact H
          clear H
          have H := H1
          clear H1
          have H' := Ac.mk H
          clear H
          go_wp2_with (first | ((with_reducible refine Ap (f := 30) rfl ?_); refine Bj (some 55) rfl rfl Tryz.func30 (by kernel_rfl) rfl #[.string (t373.extract 8 t373.size), .string (⟨#[32, 119, 97, 115, 32, 109, 111, 118, 101, 100, 32, 102, 114, 111, 109, 32, 115, 116, 97, 99, 107, 32]⟩ : ByteArray)] rfl Ya_ ?_; (with_reducible refine (Cc.calls (t373.extract 8 t373.size) (⟨#[32, 119, 97, 115, 32, 109, 111, 118, 101, 100, 32, 102, 114, 111, 109, 32, 115, 116, 97, 99, 107, 32]⟩ : ByteArray) t380 false _ A29.out).mono ?_); rintro e w' ⟨rfl, ⟨nd, rfl⟩⟩; refine ⟨_, rfl, ?_⟩) | ((with_reducible refine Ap (f := 30) rfl ?_); refine Bj (some 79) rfl rfl Tryz.func30 (by kernel_rfl) rfl #[.string (t373.extract 8 t373.size), .string (⟨#[32, 105, 115, 32, 104, 101, 108, 100, 32, 102, 111, 114, 32]⟩ : ByteArray)] rfl Ya_ ?_; (with_reducible refine (Cc.calls (t373.extract 8 t373.size) (⟨#[32, 105, 115, 32, 104, 101, 108, 100, 32, 102, 111, 114, 32]⟩ : ByteArray) t388 true _ A41.out).mono ?_); rintro e w' ⟨rfl, ⟨nd, rfl⟩⟩; refine ⟨_, rfl, ?_⟩; have hnb43 := NB2_0.out; have hnc43 := NB0_2.out; have hnb44 := NB2_1.out; have hnc44 := NB1_2.out; have hcz45_0 : w18.cell? ⟨gb2, 0, none⟩ = some (.int .i64 0) := (Ak BK2.out 0).trans rfl; have hcz45_1 : w18.cell? ⟨gb2, 1, none⟩ = some (.string (⟨#[]⟩ : ByteArray)) := (Ak BK2.out 1).trans rfl; have hcz45_2 : w18.cell? ⟨gb2, 2, none⟩ = some (.int .i64 0) := (Ak BK2.out 2).trans rfl; have hcz45_3 : w18.cell? ⟨gb2, 3, none⟩ = some (.int .i64 0) := (Ak BK2.out 3).trans rfl; have hfz45_0 := Ai BK2.out 0; have hfz45_1 := Ai BK2.out 1; have hfz45_2 := Ai BK2.out 2; have hfz45_3 := Ai BK2.out 3))
          go_loopg [14] kj2 (fun kq v14 w' => ∃ (x14_2 : Int) (x376002_2 : Int), v14 = .int .i64 x14_2 ∧ Ac (Aq.l0 kq a0 t388 x14_2 0 (⟨#[]⟩ : ByteArray) 0 0 3 (t373.extract 0 8) x376002_2 0 = some (r1, r2, r3, r4, r5)) ∧ Ac (kq ≤ kj2) ∧ Ac (w'.heap[gb0]? = some (.cells #[.int .i64 0, .string (⟨#[]⟩ : ByteArray), .int .i64 0, .int .i64 0] 25 (0, 0))) ∧ Ac (w'.heap[gb1]? = some (.cells #[.int .i64 0, .string (⟨#[]⟩ : ByteArray), .int .i64 0, .int .i64 0] 25 (0, 0))) ∧ Ac (w'.heap[gb2]? = some (.cells #[.int .i64 3, .string (t373.extract 0 8), .int .i64 x376002_2, .int .i64 0] 25 (0, 0))) ∧ Ac (Below w.heap.size w w'))
          case atStart => exact ⟨(1), (0), Yf_, H', ⟨Nat.le_refl _⟩, ⟨by (with_reducible repeat (first | refine Ag ?_ _ | refine Ah ?_ | refine Af ?_ _)); refine Bo ?_ NB0_2.out _; (with_reducible repeat (first | refine Ag ?_ _ | refine Ah ?_ | refine Af ?_ _)); refine Bo ?_ NB0_2.out _; (with_reducible repeat (first | refine Ag ?_ _ | refine Ah ?_ | refine Af ?_ _)); refine Bo ?_ NB0_2.out _; (with_reducible repeat (first | refine Ag ?_ _ | refine Ah ?_ | refine Af ?_ _)); refine Bo ?_ NB0_2.out _; (with_reducible repeat (first | refine Ag ?_ _ | refine Ah ?_ | refine Af ?_ _)); refine Bo ?_ NB0_2.out _; (with_reducible repeat (first | refine Ag ?_ _ | refine Ah ?_ | refine Af ?_ _)); exact BK0.out⟩, ⟨by (with_reducible repeat (first | refine Ag ?_ _ | refine Ah ?_ | refine Af ?_ _)); refine Bo ?_ NB1_2.out _; (with_reducible repeat (first | refine Ag ?_ _ | refine Ah ?_ | refine Af ?_ _)); refine Bo ?_ NB1_2.out _; (with_reducible repeat (first | refine Ag ?_ _ | refine Ah ?_ | refine Af ?_ _)); refine Bo ?_ NB1_2.out _; (with_reducible repeat (first | refine Ag ?_ _ | refine Ah ?_ | refine Af ?_ _)); refine Bo ?_ NB1_2.out _; (with_reducible repeat (first | refine Ag ?_ _ | refine Ah ?_ | refine Af ?_ _)); refine Bo ?_ NB1_2.out _; (with_reducible repeat (first | refine Ag ?_ _ | refine Ah ?_ | refine Af ?_ _)); exact BK1.out⟩, ⟨by (with_reducible repeat (first | refine Ag ?_ _ | refine Ah ?_ | refine Af ?_ _)); refine Be (cs := #[.int .i64 0, .string (t373.extract 0 8), .int .i64 0, .int .i64 0]) ?_ 0 _ rfl; (with_reducible repeat (first | refine Ag ?_ _ | refine Ah ?_ | refine Af ?_ _)); refine Be (cs := #[.int .i64 0, .string (t373.extract 0 8), .int .i64 0, .int .i64 0]) ?_ 3 _ rfl; (with_reducible repeat (first | refine Ag ?_ _ | refine Ah ?_ | refine Af ?_ _)); refine Be (cs := #[.int .i64 0, .string (t373.extract 0 8), .int .i64 0, .int .i64 0]) ?_ 2 _ rfl; (with_reducible repeat (first | refine Ag ?_ _ | refine Ah ?_ | refine Af ?_ _)); refine Be (cs := #[.int .i64 0, .string (⟨#[]⟩ : ByteArray), .int .i64 0, .int .i64 0]) ?_ 1 _ rfl; (with_reducible repeat (first | refine Ag ?_ _ | refine Ah ?_ | refine Af ?_ _)); refine Be (cs := #[.int .i64 0, .string (⟨#[]⟩ : ByteArray), .int .i64 0, .int .i64 0]) ?_ 0 _ rfl; (with_reducible repeat (first | refine Ag ?_ _ | refine Ah ?_ | refine Af ?_ _)); exact BK2.out⟩, ⟨by repeat (first | (with_reducible first | exact HB.out | apply Ae | apply Aa | apply Ad | refine Am ?_ GE0.out | refine Am ?_ GE1.out | refine Am ?_ GE2.out) | exact HB.out)⟩⟩
          case round =>
           clear H'
           try clear c1; try clear c2; try clear p2; try clear c3; try clear c4; try clear c6; try clear c8; try clear c9; try clear c10; try clear c11; try clear c13; try clear c13b0; try clear c13b1; try clear c14; try clear c14b0; try clear c14b1; try clear c15; try clear c15b0; try clear c19; try clear c20; try clear c22; try clear c24; try clear c25; try clear c30; try clear c31; try clear c34; try clear c35; try clear c42; try clear c43; try clear c44; try clear hcz11_0; try clear hcz11_1; try clear hcz11_2; try clear hcz11_3; try clear hcz12_0; try clear hcz12_1; try clear hcz12_2; try clear hcz12_3; try clear hcz21_0; try clear hcz21_1; try clear hcz21_2; try clear hcz21_3; try clear hcz26_0; try clear hcz26_1; try clear hcz26_2; try clear hcz26_3; try clear hcz28_0; try clear hcz28_1; try clear hcz28_2; try clear hcz28_3; try clear hcz36_0; try clear hcz36_1; try clear hcz36_2; try clear hcz36_3; try clear hcz38_0; try clear hcz38_1; try clear hcz38_2; try clear hcz38_3; try clear hcz40_0; try clear hcz40_1; try clear hcz40_2; try clear hcz40_3; try clear hcz45_0; try clear hcz45_1; try clear hcz45_2; try clear hcz45_3; try clear hcz7_0; try clear hcz7_1; try clear hcz7_2; try clear hcz7_3; try clear hfz11_0; try clear hfz11_1; try clear hfz11_2; try clear hfz11_3; try clear hfz12_0; try clear hfz12_1; try clear hfz12_2; try clear hfz12_3; try clear hfz21_0; try clear hfz21_1; try clear hfz21_2; try clear hfz21_3; try clear hfz26_0; try clear hfz26_1; try clear hfz26_2; try clear hfz26_3; try clear hfz28_0; try clear hfz28_1; try clear hfz28_2; try clear hfz28_3; try clear hfz36_0; try clear hfz36_1; try clear hfz36_2; try clear hfz36_3; try clear hfz38_0; try clear hfz38_1; try clear hfz38_2; try clear hfz38_3; try clear hfz40_0; try clear hfz40_1; try clear hfz40_2; try clear hfz40_3; try clear hfz45_0; try clear hfz45_1; try clear hfz45_2; try clear hfz45_3; try clear hfz7_0; try clear hfz7_1; try clear hfz7_2; try clear hfz7_3; try clear p2
           obtain ⟨x14_2, x376002_2, rfl, HA, HK2, BK0, BK1, BK2, HB⟩ := hrel
           cases gk with
           | zero => exact absurd HA.out (by simp [Aq.l0])
           | succ k2 =>
            have H := HA.out
            clear HA
            simp only [Aq.l0] at H
            by_cases c46 : x14_2 ≤ 15
            ·rw [if_pos c46] at H
             have c46b0 : decide (x14_2 ≤ 15) = true := decide_eq_true c46
             clear c46
             (first | rw [c46b0] | (simp only [Dw, Dy]; rw [c46b0]) | skip)
             replace H := Option.bind_eq_some_iff.mp H
             obtain ⟨⟨t390, t391⟩, A470, H⟩ := H
             try dsimp only at H
             have A47 := Ac.mk A470
             clear A470
             by_cases c48 : t390.size + 1 ≤ 9223372036854775807
             ·rw [if_pos c48] at H
              have c48b0 := eq_true c48
              have c48b1 : decide (t390.size + 1 ≤ 9223372036854775807) = true := decide_eq_true c48
              try have c48b2 : (9223372036854775807 < t390.size + 1) = False := eq_false (Nat.not_lt.2 c48)
              by_cases c49 : t388.toList = (t390 ++ (⟨#[46]⟩ : ByteArray)).toList
              ·rw [if_pos c49] at H
               have c49b0 : (t388.toList == (t390 ++ (⟨#[46]⟩ : ByteArray)).toList) = true := beq_iff_eq.mpr c49
               have c49b1 : (t388.toList != (t390 ++ (⟨#[46]⟩ : ByteArray)).toList) = false := bne_eq_false_iff_eq.mpr c49
               clear c49
               have H' := Ac.mk H
               clear H
               go_wp2_with (first | ((with_reducible refine Ap (f := 32) rfl ?_); refine Bj (some 90) rfl rfl Tryz.func32 (by kernel_rfl) rfl #[.int .i64 x14_2] rfl Ya_ ?_; (with_reducible refine (Dj.calls k2 x14_2 t390 t391 _ A47.out).mono ?_); rintro e w50 ⟨rfl, hb⟩; refine ⟨_, rfl, ?_⟩; have n0_ := Ac.mk (Bi (g := gb0) (o := .cells #[.int .i64 0, .string (⟨#[]⟩ : ByteArray), .int .i64 0, .int .i64 0] 25 (0, 0)) Yd_ hb); have n1_ := Ac.mk (Bi (g := gb1) (o := .cells #[.int .i64 0, .string (⟨#[]⟩ : ByteArray), .int .i64 0, .int .i64 0] 25 (0, 0)) Yj_ hb); have n2_ := Ac.mk (Bi (g := gb2) (o := .cells #[.int .i64 3, .string (t373.extract 0 8), .int .i64 x376002_2, .int .i64 0] 25 (0, 0)) Ybj_ hb); have n3_ := Ac.mk (Ar Ybc_ hb); clear BK0; clear BK1; clear BK2; clear HB; have BK0 := n0_; have BK1 := n1_; have BK2 := n2_; have HB := n3_; clear n0_ n1_ n2_ n3_; (try clear hb); (try clear hb2); (try clear hk); (try clear hi); have hnb51 := NB2_0.out; have hnc51 := NB0_2.out; have hnb52 := NB2_1.out; have hnc52 := NB1_2.out; have hcz53_0 : w50.cell? ⟨gb2, 0, none⟩ = some (.int .i64 3) := (Ak BK2.out 0).trans rfl; have hcz53_1 : w50.cell? ⟨gb2, 1, none⟩ = some (.string (t373.extract 0 8)) := (Ak BK2.out 1).trans rfl; have hcz53_2 : w50.cell? ⟨gb2, 2, none⟩ = some (.int .i64 x376002_2) := (Ak BK2.out 2).trans rfl; have hcz53_3 : w50.cell? ⟨gb2, 3, none⟩ = some (.int .i64 0) := (Ak BK2.out 3).trans rfl; have hfz53_0 := Ai BK2.out 0; have hfz53_1 := Ai BK2.out 1; have hfz53_2 := Ai BK2.out 2; have hfz53_3 := Ai BK2.out 3))
               go_roundg k2
               case measure => have := HJ2.out; have := HK2.out; omega
               case rel => exact ⟨(wrap64 (x14_2 + 1)), (x14_2), Yf_, H', ⟨by have := HJ2.out; have := HK2.out; omega⟩, ⟨by (with_reducible repeat (first | refine Ag ?_ _ | refine Ah ?_ | refine Af ?_ _)); refine Bo ?_ NB0_2.out _; (with_reducible repeat (first | refine Ag ?_ _ | refine Ah ?_ | refine Af ?_ _)); exact BK0.out⟩, ⟨by (with_reducible repeat (first | refine Ag ?_ _ | refine Ah ?_ | refine Af ?_ _)); refine Bo ?_ NB1_2.out _; (with_reducible repeat (first | refine Ag ?_ _ | refine Ah ?_ | refine Af ?_ _)); exact BK1.out⟩, ⟨by (with_reducible repeat (first | refine Ag ?_ _ | refine Ah ?_ | refine Af ?_ _)); refine Be (cs := #[.int .i64 3, .string (t373.extract 0 8), .int .i64 x376002_2, .int .i64 0]) ?_ 2 _ rfl; (with_reducible repeat (first | refine Ag ?_ _ | refine Ah ?_ | refine Af ?_ _)); exact BK2.out⟩, ⟨by repeat (first | (with_reducible first | exact HB.out | apply Ae | apply Aa | apply Ad | refine Am ?_ GE0.out | refine Am ?_ GE1.out | refine Am ?_ GE2.out) | exact HB.out)⟩⟩
              ·rw [if_neg c49] at H
               have c49b0 : (t388.toList == (t390 ++ (⟨#[46]⟩ : ByteArray)).toList) = false := beq_eq_false_iff_ne.mpr c49
               have c49b1 : (t388.toList != (t390 ++ (⟨#[46]⟩ : ByteArray)).toList) = true := bne_iff_ne.mpr c49
               have H' := Ac.mk H
               clear H
               go_wp2_with (first | ((with_reducible refine Ap (f := 32) rfl ?_); refine Bj (some 90) rfl rfl Tryz.func32 (by kernel_rfl) rfl #[.int .i64 x14_2] rfl Ya_ ?_; (with_reducible refine (Dj.calls k2 x14_2 t390 t391 _ A47.out).mono ?_); rintro e w54 ⟨rfl, hb⟩; refine ⟨_, rfl, ?_⟩; have n0_ := Ac.mk (Bi (g := gb0) (o := .cells #[.int .i64 0, .string (⟨#[]⟩ : ByteArray), .int .i64 0, .int .i64 0] 25 (0, 0)) Yd_ hb); have n1_ := Ac.mk (Bi (g := gb1) (o := .cells #[.int .i64 0, .string (⟨#[]⟩ : ByteArray), .int .i64 0, .int .i64 0] 25 (0, 0)) Yj_ hb); have n2_ := Ac.mk (Bi (g := gb2) (o := .cells #[.int .i64 3, .string (t373.extract 0 8), .int .i64 x376002_2, .int .i64 0] 25 (0, 0)) Ybj_ hb); have n3_ := Ac.mk (Ar Ybc_ hb); clear BK0; clear BK1; clear BK2; clear HB; have BK0 := n0_; have BK1 := n1_; have BK2 := n2_; have HB := n3_; clear n0_ n1_ n2_ n3_; (try clear hb); (try clear hb2); (try clear hk); (try clear hi)))
               go_roundg k2
               case measure => have := HJ2.out; have := HK2.out; omega
               case rel => exact ⟨(wrap64 (x14_2 + 1)), (x376002_2), Yf_, H', ⟨by have := HJ2.out; have := HK2.out; omega⟩, ⟨by (with_reducible repeat (first | refine Ag ?_ _ | refine Ah ?_ | refine Af ?_ _)); exact BK0.out⟩, ⟨by (with_reducible repeat (first | refine Ag ?_ _ | refine Ah ?_ | refine Af ?_ _)); exact BK1.out⟩, ⟨by (with_reducible repeat (first | refine Ag ?_ _ | refine Ah ?_ | refine Af ?_ _)); exact BK2.out⟩, ⟨by repeat (first | (with_reducible first | exact HB.out | apply Ae | apply Aa | apply Ad | refine Am ?_ GE0.out | refine Am ?_ GE1.out | refine Am ?_ GE2.out) | exact HB.out)⟩⟩
             ·rw [if_neg c48] at H
              exact absurd H (by simp)
            ·rw [if_neg c46] at H
             have c46b0 : decide (x14_2 ≤ 15) = false := decide_eq_false c46
             clear c46
             (first | rw [c46b0] | (simp only [Dw, Dy]; rw [c46b0]) | skip)
             have H' := Ac.mk H
             clear H
             go_wp2
             go_meet
             case rel => exact ⟨_, (3), (x376002_2), (0), H', ⟨by have := HJ2.out; have := HK2.out; first | omega | exact Nat.le_refl _⟩, ⟨by (with_reducible repeat (first | refine Ag ?_ _ | refine Ah ?_ | refine Af ?_ _)); exact BK0.out⟩, ⟨by (with_reducible repeat (first | refine Ag ?_ _ | refine Ah ?_ | refine Af ?_ _)); exact BK1.out⟩, ⟨by (with_reducible repeat (first | refine Ag ?_ _ | refine Ah ?_ | refine Af ?_ _)); exact BK2.out⟩, ⟨by repeat (first | (with_reducible first | exact HB.out | apply Ae | apply Aa | apply Ad | refine Am ?_ GE0.out | refine Am ?_ GE1.out | refine Am ?_ GE2.out) | exact HB.out)⟩⟩
         ·replace c42 := Bool.eq_false_iff.mpr c42
          subst c42
          have H1 : ((Cc.f (t373.extract 8 t373.size) (⟨#[32, 105, 115, 32, 114, 101, 97, 100, 121, 32, 102, 111, 114, 32, 112, 105, 99, 107, 117, 112, 32, 105, 110, 32, 115, 108, 111, 116, 32]⟩ : ByteArray)).bind fun bt392 => (if bt392.2 = true then ((Bg.f kj2 bt392.1).bind fun bt394 => (Aq.j2 kj2 a0 0 (⟨#[]⟩ : ByteArray) 0 0 4 (t373.extract 0 8) bt394.1 0)) else ((Cc.f (t373.extract 8 t373.size) (⟨#[32, 111, 119, 101, 115, 32]⟩ : ByteArray)).bind fun bt396 => (if bt396.2 = true then ((Bg.f kj2 bt396.1).bind fun bt398 => ((Cc.f bt398.2 (⟨#[32, 102, 111, 114, 32]⟩ : ByteArray)).bind fun bt400 => ((Bg.f kj2 bt400.1).bind fun bt402 => (Aq.j2 kj2 a0 0 (⟨#[]⟩ : ByteArray) 0 0 5 (t373.extract 0 8) bt398.1 bt402.1)))) else (Aq.j2 kj2 a0 0 (⟨#[]⟩ : ByteArray) 0 0 0 (t373.extract 0 8) 0 0))))) = some (r1, r2, r3, r4, r5) := by rw [if_neg (show ¬ (false = true) by decide)] at H; exact H
          clear H
          have H := H1
          clear H1
          replace H := Option.bind_eq_some_iff.mp H
          obtain ⟨⟨t392, t393⟩, A550, H⟩ := H
          try dsimp only at H
          have A55 := Ac.mk A550
          clear A550
          by_cases c56 : t393 = true
          ·subst c56
           have H1 : ((Bg.f kj2 t392).bind fun bt394 => (Aq.j2 kj2 a0 0 (⟨#[]⟩ : ByteArray) 0 0 4 (t373.extract 0 8) bt394.1 0)) = some (r1, r2, r3, r4, r5) := by rw [if_pos rfl] at H; exact H
           clear H
           have H := H1
           clear H1
           replace H := Option.bind_eq_some_iff.mp H
           obtain ⟨⟨t394, t395⟩, A570, H⟩ := H
           try dsimp only at H
           have A57 := Ac.mk A570
           clear A570
           have H' := Ac.mk H
           clear H
           go_wp2_with (first | ((with_reducible refine Ap (f := 30) rfl ?_); refine Bj (some 55) rfl rfl Tryz.func30 (by kernel_rfl) rfl #[.string (t373.extract 8 t373.size), .string (⟨#[32, 119, 97, 115, 32, 109, 111, 118, 101, 100, 32, 102, 114, 111, 109, 32, 115, 116, 97, 99, 107, 32]⟩ : ByteArray)] rfl Ya_ ?_; (with_reducible refine (Cc.calls (t373.extract 8 t373.size) (⟨#[32, 119, 97, 115, 32, 109, 111, 118, 101, 100, 32, 102, 114, 111, 109, 32, 115, 116, 97, 99, 107, 32]⟩ : ByteArray) t380 false _ A29.out).mono ?_); rintro e w' ⟨rfl, ⟨nd, rfl⟩⟩; refine ⟨_, rfl, ?_⟩) | ((with_reducible refine Ap (f := 30) rfl ?_); refine Bj (some 79) rfl rfl Tryz.func30 (by kernel_rfl) rfl #[.string (t373.extract 8 t373.size), .string (⟨#[32, 105, 115, 32, 104, 101, 108, 100, 32, 102, 111, 114, 32]⟩ : ByteArray)] rfl Ya_ ?_; (with_reducible refine (Cc.calls (t373.extract 8 t373.size) (⟨#[32, 105, 115, 32, 104, 101, 108, 100, 32, 102, 111, 114, 32]⟩ : ByteArray) t388 false _ A41.out).mono ?_); rintro e w' ⟨rfl, ⟨nd, rfl⟩⟩; refine ⟨_, rfl, ?_⟩) | ((with_reducible refine Ap (f := 30) rfl ?_); refine Bj (some 101) rfl rfl Tryz.func30 (by kernel_rfl) rfl #[.string (t373.extract 8 t373.size), .string (⟨#[32, 105, 115, 32, 114, 101, 97, 100, 121, 32, 102, 111, 114, 32, 112, 105, 99, 107, 117, 112, 32, 105, 110, 32, 115, 108, 111, 116, 32]⟩ : ByteArray)] rfl Ya_ ?_; (with_reducible refine (Cc.calls (t373.extract 8 t373.size) (⟨#[32, 105, 115, 32, 114, 101, 97, 100, 121, 32, 102, 111, 114, 32, 112, 105, 99, 107, 117, 112, 32, 105, 110, 32, 115, 108, 111, 116, 32]⟩ : ByteArray) t392 true _ A55.out).mono ?_); rintro e w' ⟨rfl, ⟨nd, rfl⟩⟩; refine ⟨_, rfl, ?_⟩; have hnb58 := NB2_0.out; have hnc58 := NB0_2.out; have hnb59 := NB2_1.out; have hnc59 := NB1_2.out; have hcz60_0 : w18.cell? ⟨gb2, 0, none⟩ = some (.int .i64 0) := (Ak BK2.out 0).trans rfl; have hcz60_1 : w18.cell? ⟨gb2, 1, none⟩ = some (.string (⟨#[]⟩ : ByteArray)) := (Ak BK2.out 1).trans rfl; have hcz60_2 : w18.cell? ⟨gb2, 2, none⟩ = some (.int .i64 0) := (Ak BK2.out 2).trans rfl; have hcz60_3 : w18.cell? ⟨gb2, 3, none⟩ = some (.int .i64 0) := (Ak BK2.out 3).trans rfl; have hfz60_0 := Ai BK2.out 0; have hfz60_1 := Ai BK2.out 1; have hfz60_2 := Ai BK2.out 2; have hfz60_3 := Ai BK2.out 3) | ((with_reducible refine Ap (f := 31) rfl ?_); refine Bj (some 108) rfl rfl Tryz.func31 (by kernel_rfl) rfl #[.string t392] rfl Ya_ ?_; (with_reducible refine (Bg.calls kj2 t392 t394 t395 _ A57.out).mono ?_); rintro e w61 ⟨rfl, hb⟩; refine ⟨_, rfl, ?_⟩; have n0_ := Ac.mk (Bi (g := gb0) (o := .cells #[.int .i64 0, .string (⟨#[]⟩ : ByteArray), .int .i64 0, .int .i64 0] 25 (0, 0)) Yca_ hb); have n1_ := Ac.mk (Bi (g := gb1) (o := .cells #[.int .i64 0, .string (⟨#[]⟩ : ByteArray), .int .i64 0, .int .i64 0] 25 (0, 0)) Ycb_ hb); have n2_ := Ac.mk (Bi (g := gb2) (o := .cells #[.int .i64 4, .string (t373.extract 0 8), .int .i64 0, .int .i64 0] 25 (0, 0)) Ybb_ hb); have n3_ := Ac.mk (Ar Ybc_ hb); clear BK0; clear BK1; clear BK2; clear HB; have BK0 := n0_; have BK1 := n1_; have BK2 := n2_; have HB := n3_; clear n0_ n1_ n2_ n3_; (try clear hb); (try clear hb2); (try clear hk); (try clear hi); have hcz62_0 : w61.cell? ⟨gb2, 0, none⟩ = some (.int .i64 4) := (Ak BK2.out 0).trans rfl; have hcz62_1 : w61.cell? ⟨gb2, 1, none⟩ = some (.string (t373.extract 0 8)) := (Ak BK2.out 1).trans rfl; have hcz62_2 : w61.cell? ⟨gb2, 2, none⟩ = some (.int .i64 0) := (Ak BK2.out 2).trans rfl; have hcz62_3 : w61.cell? ⟨gb2, 3, none⟩ = some (.int .i64 0) := (Ak BK2.out 3).trans rfl; have hfz62_0 := Ai BK2.out 0; have hfz62_1 := Ai BK2.out 1; have hfz62_2 := Ai BK2.out 2; have hfz62_3 := Ai BK2.out 3))
           go_meet
           case rel => exact ⟨_, (4), (t394), (0), H', ⟨by have := HJ2.out; first | omega | exact Nat.le_refl _⟩, ⟨by (with_reducible repeat (first | refine Ag ?_ _ | refine Ah ?_ | refine Af ?_ _)); refine Bo ?_ NB0_2.out _; (with_reducible repeat (first | refine Ag ?_ _ | refine Ah ?_ | refine Af ?_ _)); exact BK0.out⟩, ⟨by (with_reducible repeat (first | refine Ag ?_ _ | refine Ah ?_ | refine Af ?_ _)); refine Bo ?_ NB1_2.out _; (with_reducible repeat (first | refine Ag ?_ _ | refine Ah ?_ | refine Af ?_ _)); exact BK1.out⟩, ⟨by (with_reducible repeat (first | refine Ag ?_ _ | refine Ah ?_ | refine Af ?_ _)); refine Be (cs := #[.int .i64 4, .string (t373.extract 0 8), .int .i64 0, .int .i64 0]) ?_ 2 _ rfl; (with_reducible repeat (first | refine Ag ?_ _ | refine Ah ?_ | refine Af ?_ _)); exact BK2.out⟩, ⟨by repeat (first | (with_reducible first | exact HB.out | apply Ae | apply Aa | apply Ad | refine Am ?_ GE0.out | refine Am ?_ GE1.out | refine Am ?_ GE2.out) | exact HB.out)⟩⟩
          ·replace c56 := Bool.eq_false_iff.mpr c56
           subst c56
           have H1 : ((Cc.f (t373.extract 8 t373.size) (⟨#[32, 111, 119, 101, 115, 32]⟩ : ByteArray)).bind fun bt396 => (if bt396.2 = true then ((Bg.f kj2 bt396.1).bind fun bt398 => ((Cc.f bt398.2 (⟨#[32, 102, 111, 114, 32]⟩ : ByteArray)).bind fun bt400 => ((Bg.f kj2 bt400.1).bind fun bt402 => (Aq.j2 kj2 a0 0 (⟨#[]⟩ : ByteArray) 0 0 5 (t373.extract 0 8) bt398.1 bt402.1)))) else (Aq.j2 kj2 a0 0 (⟨#[]⟩ : ByteArray) 0 0 0 (t373.extract 0 8) 0 0))) = some (r1, r2, r3, r4, r5) := by rw [if_neg (show ¬ (false = true) by decide)] at H; exact H
           clear H
           have H := H1
           clear H1
           replace H := Option.bind_eq_some_iff.mp H
           obtain ⟨⟨t396, t397⟩, A630, H⟩ := H
           try dsimp only at H
           have A63 := Ac.mk A630
           clear A630
           by_cases c64 : t397 = true
           ·subst c64
            have H1 : ((Bg.f kj2 t396).bind fun bt398 => ((Cc.f bt398.2 (⟨#[32, 102, 111, 114, 32]⟩ : ByteArray)).bind fun bt400 => ((Bg.f kj2 bt400.1).bind fun bt402 => (Aq.j2 kj2 a0 0 (⟨#[]⟩ : ByteArray) 0 0 5 (t373.extract 0 8) bt398.1 bt402.1)))) = some (r1, r2, r3, r4, r5) := by rw [if_pos rfl] at H; exact H
            clear H
            have H := H1
            clear H1
            replace H := Option.bind_eq_some_iff.mp H
            obtain ⟨⟨t398, t399⟩, A650, H⟩ := H
            try dsimp only at H
            have A65 := Ac.mk A650
            clear A650
            replace H := Option.bind_eq_some_iff.mp H
            obtain ⟨⟨t400, t401⟩, A660, H⟩ := H
            try dsimp only at H
            have A66 := Ac.mk A660
            clear A660
            replace H := Option.bind_eq_some_iff.mp H
            obtain ⟨⟨t402, t403⟩, A670, H⟩ := H
            try dsimp only at H
            have A67 := Ac.mk A670
            clear A670
            have H' := Ac.mk H
            clear H
            go_wp2_with (first | ((with_reducible refine Ap (f := 30) rfl ?_); refine Bj (some 55) rfl rfl Tryz.func30 (by kernel_rfl) rfl #[.string (t373.extract 8 t373.size), .string (⟨#[32, 119, 97, 115, 32, 109, 111, 118, 101, 100, 32, 102, 114, 111, 109, 32, 115, 116, 97, 99, 107, 32]⟩ : ByteArray)] rfl Ya_ ?_; (with_reducible refine (Cc.calls (t373.extract 8 t373.size) (⟨#[32, 119, 97, 115, 32, 109, 111, 118, 101, 100, 32, 102, 114, 111, 109, 32, 115, 116, 97, 99, 107, 32]⟩ : ByteArray) t380 false _ A29.out).mono ?_); rintro e w' ⟨rfl, ⟨nd, rfl⟩⟩; refine ⟨_, rfl, ?_⟩) | ((with_reducible refine Ap (f := 30) rfl ?_); refine Bj (some 79) rfl rfl Tryz.func30 (by kernel_rfl) rfl #[.string (t373.extract 8 t373.size), .string (⟨#[32, 105, 115, 32, 104, 101, 108, 100, 32, 102, 111, 114, 32]⟩ : ByteArray)] rfl Ya_ ?_; (with_reducible refine (Cc.calls (t373.extract 8 t373.size) (⟨#[32, 105, 115, 32, 104, 101, 108, 100, 32, 102, 111, 114, 32]⟩ : ByteArray) t388 false _ A41.out).mono ?_); rintro e w' ⟨rfl, ⟨nd, rfl⟩⟩; refine ⟨_, rfl, ?_⟩) | ((with_reducible refine Ap (f := 30) rfl ?_); refine Bj (some 101) rfl rfl Tryz.func30 (by kernel_rfl) rfl #[.string (t373.extract 8 t373.size), .string (⟨#[32, 105, 115, 32, 114, 101, 97, 100, 121, 32, 102, 111, 114, 32, 112, 105, 99, 107, 117, 112, 32, 105, 110, 32, 115, 108, 111, 116, 32]⟩ : ByteArray)] rfl Ya_ ?_; (with_reducible refine (Cc.calls (t373.extract 8 t373.size) (⟨#[32, 105, 115, 32, 114, 101, 97, 100, 121, 32, 102, 111, 114, 32, 112, 105, 99, 107, 117, 112, 32, 105, 110, 32, 115, 108, 111, 116, 32]⟩ : ByteArray) t392 false _ A55.out).mono ?_); rintro e w' ⟨rfl, ⟨nd, rfl⟩⟩; refine ⟨_, rfl, ?_⟩) | ((with_reducible refine Ap (f := 30) rfl ?_); refine Bj (some 114) rfl rfl Tryz.func30 (by kernel_rfl) rfl #[.string (t373.extract 8 t373.size), .string (⟨#[32, 111, 119, 101, 115, 32]⟩ : ByteArray)] rfl Ya_ ?_; (with_reducible refine (Cc.calls (t373.extract 8 t373.size) (⟨#[32, 111, 119, 101, 115, 32]⟩ : ByteArray) t396 true _ A63.out).mono ?_); rintro e w' ⟨rfl, ⟨nd, rfl⟩⟩; refine ⟨_, rfl, ?_⟩; have hnb68 := NB2_0.out; have hnc68 := NB0_2.out; have hnb69 := NB2_1.out; have hnc69 := NB1_2.out; have hcz70_0 : w18.cell? ⟨gb2, 0, none⟩ = some (.int .i64 0) := (Ak BK2.out 0).trans rfl; have hcz70_1 : w18.cell? ⟨gb2, 1, none⟩ = some (.string (⟨#[]⟩ : ByteArray)) := (Ak BK2.out 1).trans rfl; have hcz70_2 : w18.cell? ⟨gb2, 2, none⟩ = some (.int .i64 0) := (Ak BK2.out 2).trans rfl; have hcz70_3 : w18.cell? ⟨gb2, 3, none⟩ = some (.int .i64 0) := (Ak BK2.out 3).trans rfl; have hfz70_0 := Ai BK2.out 0; have hfz70_1 := Ai BK2.out 1; have hfz70_2 := Ai BK2.out 2; have hfz70_3 := Ai BK2.out 3) | ((with_reducible refine Ap (f := 31) rfl ?_); refine Bj (some 121) rfl rfl Tryz.func31 (by kernel_rfl) rfl #[.string t396] rfl Ya_ ?_; (with_reducible refine (Bg.calls kj2 t396 t398 t399 _ A65.out).mono ?_); rintro e w71 ⟨rfl, hb⟩; refine ⟨_, rfl, ?_⟩; have n0_ := Ac.mk (Bi (g := gb0) (o := .cells #[.int .i64 0, .string (⟨#[]⟩ : ByteArray), .int .i64 0, .int .i64 0] 25 (0, 0)) Yca_ hb); have n1_ := Ac.mk (Bi (g := gb1) (o := .cells #[.int .i64 0, .string (⟨#[]⟩ : ByteArray), .int .i64 0, .int .i64 0] 25 (0, 0)) Ycb_ hb); have n2_ := Ac.mk (Bi (g := gb2) (o := .cells #[.int .i64 5, .string (t373.extract 0 8), .int .i64 0, .int .i64 0] 25 (0, 0)) Ybb_ hb); have n3_ := Ac.mk (Ar Ybc_ hb); clear BK0; clear BK1; clear BK2; clear HB; have BK0 := n0_; have BK1 := n1_; have BK2 := n2_; have HB := n3_; clear n0_ n1_ n2_ n3_; (try clear hb); (try clear hb2); (try clear hk); (try clear hi); have hcz72_0 : w71.cell? ⟨gb2, 0, none⟩ = some (.int .i64 5) := (Ak BK2.out 0).trans rfl; have hcz72_1 : w71.cell? ⟨gb2, 1, none⟩ = some (.string (t373.extract 0 8)) := (Ak BK2.out 1).trans rfl; have hcz72_2 : w71.cell? ⟨gb2, 2, none⟩ = some (.int .i64 0) := (Ak BK2.out 2).trans rfl; have hcz72_3 : w71.cell? ⟨gb2, 3, none⟩ = some (.int .i64 0) := (Ak BK2.out 3).trans rfl; have hfz72_0 := Ai BK2.out 0; have hfz72_1 := Ai BK2.out 1; have hfz72_2 := Ai BK2.out 2; have hfz72_3 := Ai BK2.out 3) | ((with_reducible refine Ap (f := 30) rfl ?_); refine Bj (some 127) rfl rfl Tryz.func30 (by kernel_rfl) rfl #[.string t399, .string (⟨#[32, 102, 111, 114, 32]⟩ : ByteArray)] rfl Ya_ ?_; (with_reducible refine (Cc.calls t399 (⟨#[32, 102, 111, 114, 32]⟩ : ByteArray) t400 t401 _ A66.out).mono ?_); rintro e w' ⟨rfl, ⟨nd, rfl⟩⟩; refine ⟨_, rfl, ?_⟩) | ((with_reducible refine Ap (f := 31) rfl ?_); refine Bj (some 132) rfl rfl Tryz.func31 (by kernel_rfl) rfl #[.string t400] rfl Ya_ ?_; (with_reducible refine (Bg.calls kj2 t400 t402 t403 _ A67.out).mono ?_); rintro e w73 ⟨rfl, hb⟩; refine ⟨_, rfl, ?_⟩; have n0_ := Ac.mk (Bi (g := gb0) (o := .cells #[.int .i64 0, .string (⟨#[]⟩ : ByteArray), .int .i64 0, .int .i64 0] 25 (0, 0)) Yed_ hb); have n1_ := Ac.mk (Bi (g := gb1) (o := .cells #[.int .i64 0, .string (⟨#[]⟩ : ByteArray), .int .i64 0, .int .i64 0] 25 (0, 0)) Yee_ hb); have n2_ := Ac.mk (Bi (g := gb2) (o := .cells #[.int .i64 5, .string (t373.extract 0 8), .int .i64 t398, .int .i64 0] 25 (0, 0)) (by (with_reducible repeat (first | refine Ag ?_ _ | refine Ah ?_ | refine Af ?_ _)); refine Be (cs := #[.int .i64 5, .string (t373.extract 0 8), .int .i64 0, .int .i64 0]) ?_ 2 _ rfl; (with_reducible repeat (first | refine Ag ?_ _ | refine Ah ?_ | refine Af ?_ _)); exact BK2.out) hb); have n3_ := Ac.mk (Ar Ybc_ hb); clear BK0; clear BK1; clear BK2; clear HB; have BK0 := n0_; have BK1 := n1_; have BK2 := n2_; have HB := n3_; clear n0_ n1_ n2_ n3_; (try clear hb); (try clear hb2); (try clear hk); (try clear hi); have hcz74_0 : w73.cell? ⟨gb2, 0, none⟩ = some (.int .i64 5) := (Ak BK2.out 0).trans rfl; have hcz74_1 : w73.cell? ⟨gb2, 1, none⟩ = some (.string (t373.extract 0 8)) := (Ak BK2.out 1).trans rfl; have hcz74_2 : w73.cell? ⟨gb2, 2, none⟩ = some (.int .i64 t398) := (Ak BK2.out 2).trans rfl; have hcz74_3 : w73.cell? ⟨gb2, 3, none⟩ = some (.int .i64 0) := (Ak BK2.out 3).trans rfl; have hfz74_0 := Ai BK2.out 0; have hfz74_1 := Ai BK2.out 1; have hfz74_2 := Ai BK2.out 2; have hfz74_3 := Ai BK2.out 3))
            go_meet
            case rel => exact ⟨_, (5), (t398), (t402), H', ⟨by have := HJ2.out; first | omega | exact Nat.le_refl _⟩, ⟨by (with_reducible repeat (first | refine Ag ?_ _ | refine Ah ?_ | refine Af ?_ _)); refine Bo ?_ NB0_2.out _; (with_reducible repeat (first | refine Ag ?_ _ | refine Ah ?_ | refine Af ?_ _)); exact BK0.out⟩, ⟨by (with_reducible repeat (first | refine Ag ?_ _ | refine Ah ?_ | refine Af ?_ _)); refine Bo ?_ NB1_2.out _; (with_reducible repeat (first | refine Ag ?_ _ | refine Ah ?_ | refine Af ?_ _)); exact BK1.out⟩, ⟨by (with_reducible repeat (first | refine Ag ?_ _ | refine Ah ?_ | refine Af ?_ _)); refine Be (cs := #[.int .i64 5, .string (t373.extract 0 8), .int .i64 t398, .int .i64 0]) ?_ 3 _ rfl; (with_reducible repeat (first | refine Ag ?_ _ | refine Ah ?_ | refine Af ?_ _)); exact BK2.out⟩, ⟨by repeat (first | (with_reducible first | exact HB.out | apply Ae | apply Aa | apply Ad | refine Am ?_ GE0.out | refine Am ?_ GE1.out | refine Am ?_ GE2.out) | exact HB.out)⟩⟩
           ·replace c64 := Bool.eq_false_iff.mpr c64
            subst c64
            have H1 : (Aq.j2 kj2 a0 0 (⟨#[]⟩ : ByteArray) 0 0 0 (t373.extract 0 8) 0 0) = some (r1, r2, r3, r4, r5) := by rw [if_neg (show ¬ (false = true) by decide)] at H; exact H
            clear H
            have H := H1
            clear H1
            have H' := Ac.mk H
            clear H
            go_wp2_with (first | ((with_reducible refine Ap (f := 30) rfl ?_); refine Bj (some 55) rfl rfl Tryz.func30 (by kernel_rfl) rfl #[.string (t373.extract 8 t373.size), .string (⟨#[32, 119, 97, 115, 32, 109, 111, 118, 101, 100, 32, 102, 114, 111, 109, 32, 115, 116, 97, 99, 107, 32]⟩ : ByteArray)] rfl Ya_ ?_; (with_reducible refine (Cc.calls (t373.extract 8 t373.size) (⟨#[32, 119, 97, 115, 32, 109, 111, 118, 101, 100, 32, 102, 114, 111, 109, 32, 115, 116, 97, 99, 107, 32]⟩ : ByteArray) t380 false _ A29.out).mono ?_); rintro e w' ⟨rfl, ⟨nd, rfl⟩⟩; refine ⟨_, rfl, ?_⟩) | ((with_reducible refine Ap (f := 30) rfl ?_); refine Bj (some 79) rfl rfl Tryz.func30 (by kernel_rfl) rfl #[.string (t373.extract 8 t373.size), .string (⟨#[32, 105, 115, 32, 104, 101, 108, 100, 32, 102, 111, 114, 32]⟩ : ByteArray)] rfl Ya_ ?_; (with_reducible refine (Cc.calls (t373.extract 8 t373.size) (⟨#[32, 105, 115, 32, 104, 101, 108, 100, 32, 102, 111, 114, 32]⟩ : ByteArray) t388 false _ A41.out).mono ?_); rintro e w' ⟨rfl, ⟨nd, rfl⟩⟩; refine ⟨_, rfl, ?_⟩) | ((with_reducible refine Ap (f := 30) rfl ?_); refine Bj (some 101) rfl rfl Tryz.func30 (by kernel_rfl) rfl #[.string (t373.extract 8 t373.size), .string (⟨#[32, 105, 115, 32, 114, 101, 97, 100, 121, 32, 102, 111, 114, 32, 112, 105, 99, 107, 117, 112, 32, 105, 110, 32, 115, 108, 111, 116, 32]⟩ : ByteArray)] rfl Ya_ ?_; (with_reducible refine (Cc.calls (t373.extract 8 t373.size) (⟨#[32, 105, 115, 32, 114, 101, 97, 100, 121, 32, 102, 111, 114, 32, 112, 105, 99, 107, 117, 112, 32, 105, 110, 32, 115, 108, 111, 116, 32]⟩ : ByteArray) t392 false _ A55.out).mono ?_); rintro e w' ⟨rfl, ⟨nd, rfl⟩⟩; refine ⟨_, rfl, ?_⟩) | ((with_reducible refine Ap (f := 30) rfl ?_); refine Bj (some 114) rfl rfl Tryz.func30 (by kernel_rfl) rfl #[.string (t373.extract 8 t373.size), .string (⟨#[32, 111, 119, 101, 115, 32]⟩ : ByteArray)] rfl Ya_ ?_; (with_reducible refine (Cc.calls (t373.extract 8 t373.size) (⟨#[32, 111, 119, 101, 115, 32]⟩ : ByteArray) t396 false _ A63.out).mono ?_); rintro e w' ⟨rfl, ⟨nd, rfl⟩⟩; refine ⟨_, rfl, ?_⟩))
            go_meet
            case rel => exact ⟨_, (0), (0), (0), H', ⟨by have := HJ2.out; first | omega | exact Nat.le_refl _⟩, ⟨by (with_reducible repeat (first | refine Ag ?_ _ | refine Ah ?_ | refine Af ?_ _)); refine Bo ?_ NB0_2.out _; (with_reducible repeat (first | refine Ag ?_ _ | refine Ah ?_ | refine Af ?_ _)); refine Bo ?_ NB0_2.out _; (with_reducible repeat (first | refine Ag ?_ _ | refine Ah ?_ | refine Af ?_ _)); refine Bo ?_ NB0_2.out _; (with_reducible repeat (first | refine Ag ?_ _ | refine Ah ?_ | refine Af ?_ _)); refine Bo ?_ NB0_2.out _; (with_reducible repeat (first | refine Ag ?_ _ | refine Ah ?_ | refine Af ?_ _)); exact BK0.out⟩, ⟨by (with_reducible repeat (first | refine Ag ?_ _ | refine Ah ?_ | refine Af ?_ _)); refine Bo ?_ NB1_2.out _; (with_reducible repeat (first | refine Ag ?_ _ | refine Ah ?_ | refine Af ?_ _)); refine Bo ?_ NB1_2.out _; (with_reducible repeat (first | refine Ag ?_ _ | refine Ah ?_ | refine Af ?_ _)); refine Bo ?_ NB1_2.out _; (with_reducible repeat (first | refine Ag ?_ _ | refine Ah ?_ | refine Af ?_ _)); refine Bo ?_ NB1_2.out _; (with_reducible repeat (first | refine Ag ?_ _ | refine Ah ?_ | refine Af ?_ _)); exact BK1.out⟩, ⟨by (with_reducible repeat (first | refine Ag ?_ _ | refine Ah ?_ | refine Af ?_ _)); refine Be (cs := #[.int .i64 0, .string (t373.extract 0 8), .int .i64 0, .int .i64 0]) ?_ 3 _ rfl; (with_reducible repeat (first | refine Ag ?_ _ | refine Ah ?_ | refine Af ?_ _)); refine Be (cs := #[.int .i64 0, .string (t373.extract 0 8), .int .i64 0, .int .i64 0]) ?_ 2 _ rfl; (with_reducible repeat (first | refine Ag ?_ _ | refine Ah ?_ | refine Af ?_ _)); refine Be (cs := #[.int .i64 0, .string (⟨#[]⟩ : ByteArray), .int .i64 0, .int .i64 0]) ?_ 1 _ rfl; (with_reducible repeat (first | refine Ag ?_ _ | refine Ah ?_ | refine Af ?_ _)); refine Be (cs := #[.int .i64 0, .string (⟨#[]⟩ : ByteArray), .int .i64 0, .int .i64 0]) ?_ 0 _ rfl; (with_reducible repeat (first | refine Ag ?_ _ | refine Ah ?_ | refine Af ?_ _)); exact BK2.out⟩, ⟨by repeat (first | (with_reducible first | exact HB.out | apply Ae | apply Aa | apply Ad | refine Am ?_ GE0.out | refine Am ?_ GE1.out | refine Am ?_ GE2.out) | exact HB.out)⟩⟩
      case rest =>
       clear HC17
       try clear c1; try clear c2; try clear p2; try clear c3; try clear c4; try clear c5; try clear c6; try clear p6; try clear c8; try clear c9; try clear c10; try clear c11; try clear c13; try clear c13b0; try clear c13b1; try clear c14; try clear c14b0; try clear c14b1; try clear c15; try clear c15b0; try clear c19; try clear c20; try clear c22; try clear c24; try clear c25; try clear c30; try clear c31; try clear c32; try clear c34; try clear c35; try clear c42; try clear c43; try clear c44; try clear c46; try clear c46b0; try clear c48; try clear c48b0; try clear c48b1; try clear c48b2; try clear c49; try clear c49b0; try clear c49b1; try clear c51; try clear c52; try clear c56; try clear c58; try clear c59; try clear c64; try clear p64; try clear c68; try clear c69; try clear hcz11_0; try clear hcz11_1; try clear hcz11_2; try clear hcz11_3; try clear hcz12_0; try clear hcz12_1; try clear hcz12_2; try clear hcz12_3; try clear hcz21_0; try clear hcz21_1; try clear hcz21_2; try clear hcz21_3; try clear hcz26_0; try clear hcz26_1; try clear hcz26_2; try clear hcz26_3; try clear hcz28_0; try clear hcz28_1; try clear hcz28_2; try clear hcz28_3; try clear hcz36_0; try clear hcz36_1; try clear hcz36_2; try clear hcz36_3; try clear hcz38_0; try clear hcz38_1; try clear hcz38_2; try clear hcz38_3; try clear hcz40_0; try clear hcz40_1; try clear hcz40_2; try clear hcz40_3; try clear hcz45_0; try clear hcz45_1; try clear hcz45_2; try clear hcz45_3; try clear hcz53_0; try clear hcz53_1; try clear hcz53_2; try clear hcz53_3; try clear hcz60_0; try clear hcz60_1; try clear hcz60_2; try clear hcz60_3; try clear hcz62_0; try clear hcz62_1; try clear hcz62_2; try clear hcz62_3; try clear hcz70_0; try clear hcz70_1; try clear hcz70_2; try clear hcz70_3; try clear hcz72_0; try clear hcz72_1; try clear hcz72_2; try clear hcz72_3; try clear hcz74_0; try clear hcz74_1; try clear hcz74_2; try clear hcz74_3; try clear hcz7_0; try clear hcz7_1; try clear hcz7_2; try clear hcz7_3; try clear hfz11_0; try clear hfz11_1; try clear hfz11_2; try clear hfz11_3; try clear hfz12_0; try clear hfz12_1; try clear hfz12_2; try clear hfz12_3; try clear hfz21_0; try clear hfz21_1; try clear hfz21_2; try clear hfz21_3; try clear hfz26_0; try clear hfz26_1; try clear hfz26_2; try clear hfz26_3; try clear hfz28_0; try clear hfz28_1; try clear hfz28_2; try clear hfz28_3; try clear hfz36_0; try clear hfz36_1; try clear hfz36_2; try clear hfz36_3; try clear hfz38_0; try clear hfz38_1; try clear hfz38_2; try clear hfz38_3; try clear hfz40_0; try clear hfz40_1; try clear hfz40_2; try clear hfz40_3; try clear hfz45_0; try clear hfz45_1; try clear hfz45_2; try clear hfz45_3; try clear hfz53_0; try clear hfz53_1; try clear hfz53_2; try clear hfz53_3; try clear hfz60_0; try clear hfz60_1; try clear hfz60_2; try clear hfz60_3; try clear hfz62_0; try clear hfz62_1; try clear hfz62_2; try clear hfz62_3; try clear hfz70_0; try clear hfz70_1; try clear hfz70_2; try clear hfz70_3; try clear hfz72_0; try clear hfz72_1; try clear hfz72_2; try clear hfz72_3; try clear hfz74_0; try clear hfz74_1; try clear hfz74_2; try clear hfz74_3; try clear hfz7_0; try clear hfz7_1; try clear hfz7_2; try clear hfz7_3; try clear p2
       obtain ⟨kq, x376000_16, x376002_16, x376003_16, HA, HJ16, BK0, BK1, BK2, HB⟩ := hcut
       cases kq with
       | zero => exact absurd HA.out (by simp [Aq.j2])
       | succ kj16 =>
        have H := HA.out
        clear HA
        simp only [Aq.j2] at H
        replace H := Option.bind_eq_some_iff.mp H
        obtain ⟨t404, A750, H⟩ := H
        try dsimp only at H
        have A75 := Ac.mk A750
        clear A750
        by_cases c76 : t404 = true
        ·subst c76
         have H1 : ((Dt.f kj16 x376000_16 (t373.extract 0 8) x376002_16 x376003_16).bind fun t405 => (if t405.toList = a0.toList then (some (x376000_16, (t373.extract 0 8), x376002_16, x376003_16, true)) else (some (0, (⟨#[]⟩ : ByteArray), 0, 0, false)))) = some (r1, r2, r3, r4, r5) := by rw [if_pos rfl] at H; exact H
         clear H
         have H := H1
         clear H1
         replace H := Option.bind_eq_some_iff.mp H
         obtain ⟨t405, A770, H⟩ := H
         try dsimp only at H
         have A77 := Ac.mk A770
         clear A770
         by_cases c78 : t405.toList = a0.toList
         ·rw [if_pos c78] at H
          have c78b0 : (t405.toList == a0.toList) = true := beq_iff_eq.mpr c78
          have c78b1 : (t405.toList != a0.toList) = false := bne_eq_false_iff_eq.mpr c78
          clear c78
          simp only [Option.some.injEq, Prod.mk.injEq] at H
          obtain ⟨rfl, rfl, rfl, rfl, rfl⟩ := H
          have hnb79 := NB2_0.out
          have hnc79 := NB0_2.out
          have hnb80 := NB2_1.out
          have hnc80 := NB1_2.out
          have hcz81_0 : wc.cell? ⟨gb2, 0, none⟩ = some (.int .i64 x376000_16) := (Ak BK2.out 0).trans rfl
          have hcz81_1 : wc.cell? ⟨gb2, 1, none⟩ = some (.string (t373.extract 0 8)) := (Ak BK2.out 1).trans rfl
          have hcz81_2 : wc.cell? ⟨gb2, 2, none⟩ = some (.int .i64 x376002_16) := (Ak BK2.out 2).trans rfl
          have hcz81_3 : wc.cell? ⟨gb2, 3, none⟩ = some (.int .i64 x376003_16) := (Ak BK2.out 3).trans rfl
          have hfz81_0 := Ai BK2.out 0
          have hfz81_1 := Ai BK2.out 1
          have hfz81_2 := Ai BK2.out 2
          have hfz81_3 := Ai BK2.out 3
          go_wp2_with (first | ((with_reducible refine Ap (f := 21) rfl ?_); refine Bj (some 137) rfl rfl Tryz.func21 (by kernel_rfl) rfl #[.agg #[.int .i64 x376000_16, .string (t373.extract 0 8), .int .i64 x376002_16, .int .i64 x376003_16]] rfl Ya_ ?_; (with_reducible refine (E8.calls kj16 x376000_16 (t373.extract 0 8) x376002_16 x376003_16 true _ A75.out).mono ?_); rintro e w82 ⟨rfl, hb⟩; refine ⟨_, rfl, ?_⟩; have n0_ := Ac.mk (Bi (g := gb0) (o := .cells #[.int .i64 0, .string (⟨#[]⟩ : ByteArray), .int .i64 0, .int .i64 0] 25 (0, 0)) Yd_ hb); have n1_ := Ac.mk (Bi (g := gb1) (o := .cells #[.int .i64 0, .string (⟨#[]⟩ : ByteArray), .int .i64 0, .int .i64 0] 25 (0, 0)) Yj_ hb); have n2_ := Ac.mk (Bi (g := gb2) (o := .cells #[.int .i64 x376000_16, .string (t373.extract 0 8), .int .i64 x376002_16, .int .i64 x376003_16] 25 (0, 0)) Ybj_ hb); have n3_ := Ac.mk (Ar Ybc_ hb); clear BK0; clear BK1; clear BK2; clear HB; have BK0 := n0_; have BK1 := n1_; have BK2 := n2_; have HB := n3_; clear n0_ n1_ n2_ n3_; (try clear hb); (try clear hb2); (try clear hk); (try clear hi); have hcz83_0 : w82.cell? ⟨gb2, 0, none⟩ = some (.int .i64 x376000_16) := (Ak BK2.out 0).trans rfl; have hcz83_1 : w82.cell? ⟨gb2, 1, none⟩ = some (.string (t373.extract 0 8)) := (Ak BK2.out 1).trans rfl; have hcz83_2 : w82.cell? ⟨gb2, 2, none⟩ = some (.int .i64 x376002_16) := (Ak BK2.out 2).trans rfl; have hcz83_3 : w82.cell? ⟨gb2, 3, none⟩ = some (.int .i64 x376003_16) := (Ak BK2.out 3).trans rfl; have hfz83_0 := Ai BK2.out 0; have hfz83_1 := Ai BK2.out 1; have hfz83_2 := Ai BK2.out 2; have hfz83_3 := Ai BK2.out 3) | (go_at_call 22; (with_reducible refine (Dt.calls kj16 x376000_16 (t373.extract 0 8) x376002_16 x376003_16 t405 _ A77.out).mono ?_); rintro e w84 ⟨rfl, hb⟩; have n0_ := Ac.mk (Bi (g := gb0) (o := .cells #[.int .i64 0, .string (⟨#[]⟩ : ByteArray), .int .i64 0, .int .i64 0] 25 (0, 0)) Yd_ hb); have n1_ := Ac.mk (Bi (g := gb1) (o := .cells #[.int .i64 0, .string (⟨#[]⟩ : ByteArray), .int .i64 0, .int .i64 0] 25 (0, 0)) Yj_ hb); have n2_ := Ac.mk (Bi (g := gb2) (o := .cells #[.int .i64 x376000_16, .string (t373.extract 0 8), .int .i64 x376002_16, .int .i64 x376003_16] 25 (0, 0)) Ybj_ hb); have n3_ := Ac.mk (Ar Ybc_ hb); clear BK0; clear BK1; clear BK2; clear HB; have BK0 := n0_; have BK1 := n1_; have BK2 := n2_; have HB := n3_; clear n0_ n1_ n2_ n3_; (try clear hb); (try clear hb2); (try clear hk); (try clear hi); have hcz85_0 : w84.cell? ⟨gb2, 0, none⟩ = some (.int .i64 x376000_16) := (Ak BK2.out 0).trans rfl; have hcz85_1 : w84.cell? ⟨gb2, 1, none⟩ = some (.string (t373.extract 0 8)) := (Ak BK2.out 1).trans rfl; have hcz85_2 : w84.cell? ⟨gb2, 2, none⟩ = some (.int .i64 x376002_16) := (Ak BK2.out 2).trans rfl; have hcz85_3 : w84.cell? ⟨gb2, 3, none⟩ = some (.int .i64 x376003_16) := (Ak BK2.out 3).trans rfl; have hfz85_0 := Ai BK2.out 0; have hfz85_1 := Ai BK2.out 1; have hfz85_2 := Ai BK2.out 2; have hfz85_3 := Ai BK2.out 3; have hnb86 := NB0_1.out; have hnc86 := NB1_0.out; have hcz87_0 : w84.cell? ⟨gb0, 0, none⟩ = some (.int .i64 0) := (Ak BK0.out 0).trans rfl; have hcz87_1 : w84.cell? ⟨gb0, 1, none⟩ = some (.string (⟨#[]⟩ : ByteArray)) := (Ak BK0.out 1).trans rfl; have hcz87_2 : w84.cell? ⟨gb0, 2, none⟩ = some (.int .i64 0) := (Ak BK0.out 2).trans rfl; have hcz87_3 : w84.cell? ⟨gb0, 3, none⟩ = some (.int .i64 0) := (Ak BK0.out 3).trans rfl; have hfz87_0 := Ai BK0.out 0; have hfz87_1 := Ai BK0.out 1; have hfz87_2 := Ai BK0.out 2; have hfz87_3 := Ai BK0.out 3))
          refine bodyPost_ret (Ir rfl _ _ gb0 25 #[.int .i64 x376000_16, .string (t373.extract 0 8), .int .i64 x376002_16, .int .i64 x376003_16] (0, 0) _ rfl (by (with_reducible repeat (first | refine Ag ?_ _ | refine Ah ?_ | refine Af ?_ _)); refine Be (cs := #[.int .i64 x376000_16, .string (t373.extract 0 8), .int .i64 x376002_16, .int .i64 0]) ?_ 3 _ rfl; (with_reducible repeat (first | refine Ag ?_ _ | refine Ah ?_ | refine Af ?_ _)); refine Be (cs := #[.int .i64 x376000_16, .string (t373.extract 0 8), .int .i64 0, .int .i64 0]) ?_ 2 _ rfl; (with_reducible repeat (first | refine Ag ?_ _ | refine Ah ?_ | refine Af ?_ _)); refine Be (cs := #[.int .i64 x376000_16, .string (⟨#[]⟩ : ByteArray), .int .i64 0, .int .i64 0]) ?_ 1 _ rfl; (with_reducible repeat (first | refine Ag ?_ _ | refine Ah ?_ | refine Af ?_ _)); refine Be (cs := #[.int .i64 0, .string (⟨#[]⟩ : ByteArray), .int .i64 0, .int .i64 0]) ?_ 0 _ rfl; (with_reducible repeat (first | refine Ag ?_ _ | refine Ah ?_ | refine Af ?_ _)); exact BK0.out) Tryz.underlying25 rfl (by kernel_rfl)) rfl ?_
          exact ⟨by first | rfl | (simp [Au, Aw] <;> rfl) | (simp [*, Au, Aw] <;> rfl), by repeat (first | (with_reducible first | exact HB.out | apply Ae | apply Aa | apply Ad | refine Am ?_ GE0.out | refine Am ?_ GE1.out | refine Am ?_ GE2.out) | exact HB.out)⟩
         ·rw [if_neg c78] at H
          have c78b0 : (t405.toList == a0.toList) = false := beq_eq_false_iff_ne.mpr c78
          have c78b1 : (t405.toList != a0.toList) = true := bne_iff_ne.mpr c78
          simp only [Option.some.injEq, Prod.mk.injEq] at H
          obtain ⟨rfl, rfl, rfl, rfl, rfl⟩ := H
          have hnb88 := NB2_0.out
          have hnc88 := NB0_2.out
          have hnb89 := NB2_1.out
          have hnc89 := NB1_2.out
          have hcz90_0 : wc.cell? ⟨gb2, 0, none⟩ = some (.int .i64 x376000_16) := (Ak BK2.out 0).trans rfl
          have hcz90_1 : wc.cell? ⟨gb2, 1, none⟩ = some (.string (t373.extract 0 8)) := (Ak BK2.out 1).trans rfl
          have hcz90_2 : wc.cell? ⟨gb2, 2, none⟩ = some (.int .i64 x376002_16) := (Ak BK2.out 2).trans rfl
          have hcz90_3 : wc.cell? ⟨gb2, 3, none⟩ = some (.int .i64 x376003_16) := (Ak BK2.out 3).trans rfl
          have hfz90_0 := Ai BK2.out 0
          have hfz90_1 := Ai BK2.out 1
          have hfz90_2 := Ai BK2.out 2
          have hfz90_3 := Ai BK2.out 3
          go_wp2_with (first | ((with_reducible refine Ap (f := 21) rfl ?_); refine Bj (some 137) rfl rfl Tryz.func21 (by kernel_rfl) rfl #[.agg #[.int .i64 x376000_16, .string (t373.extract 0 8), .int .i64 x376002_16, .int .i64 x376003_16]] rfl Ya_ ?_; (with_reducible refine (E8.calls kj16 x376000_16 (t373.extract 0 8) x376002_16 x376003_16 true _ A75.out).mono ?_); rintro e w91 ⟨rfl, hb⟩; refine ⟨_, rfl, ?_⟩; have n0_ := Ac.mk (Bi (g := gb0) (o := .cells #[.int .i64 0, .string (⟨#[]⟩ : ByteArray), .int .i64 0, .int .i64 0] 25 (0, 0)) Yd_ hb); have n1_ := Ac.mk (Bi (g := gb1) (o := .cells #[.int .i64 0, .string (⟨#[]⟩ : ByteArray), .int .i64 0, .int .i64 0] 25 (0, 0)) Yj_ hb); have n2_ := Ac.mk (Bi (g := gb2) (o := .cells #[.int .i64 x376000_16, .string (t373.extract 0 8), .int .i64 x376002_16, .int .i64 x376003_16] 25 (0, 0)) Ybj_ hb); have n3_ := Ac.mk (Ar Ybc_ hb); clear BK0; clear BK1; clear BK2; clear HB; have BK0 := n0_; have BK1 := n1_; have BK2 := n2_; have HB := n3_; clear n0_ n1_ n2_ n3_; (try clear hb); (try clear hb2); (try clear hk); (try clear hi); have hcz92_0 : w91.cell? ⟨gb2, 0, none⟩ = some (.int .i64 x376000_16) := (Ak BK2.out 0).trans rfl; have hcz92_1 : w91.cell? ⟨gb2, 1, none⟩ = some (.string (t373.extract 0 8)) := (Ak BK2.out 1).trans rfl; have hcz92_2 : w91.cell? ⟨gb2, 2, none⟩ = some (.int .i64 x376002_16) := (Ak BK2.out 2).trans rfl; have hcz92_3 : w91.cell? ⟨gb2, 3, none⟩ = some (.int .i64 x376003_16) := (Ak BK2.out 3).trans rfl; have hfz92_0 := Ai BK2.out 0; have hfz92_1 := Ai BK2.out 1; have hfz92_2 := Ai BK2.out 2; have hfz92_3 := Ai BK2.out 3) | (go_at_call 22; (with_reducible refine (Dt.calls kj16 x376000_16 (t373.extract 0 8) x376002_16 x376003_16 t405 _ A77.out).mono ?_); rintro e w93 ⟨rfl, hb⟩; have n0_ := Ac.mk (Bi (g := gb0) (o := .cells #[.int .i64 0, .string (⟨#[]⟩ : ByteArray), .int .i64 0, .int .i64 0] 25 (0, 0)) Yd_ hb); have n1_ := Ac.mk (Bi (g := gb1) (o := .cells #[.int .i64 0, .string (⟨#[]⟩ : ByteArray), .int .i64 0, .int .i64 0] 25 (0, 0)) Yj_ hb); have n2_ := Ac.mk (Bi (g := gb2) (o := .cells #[.int .i64 x376000_16, .string (t373.extract 0 8), .int .i64 x376002_16, .int .i64 x376003_16] 25 (0, 0)) Ybj_ hb); have n3_ := Ac.mk (Ar Ybc_ hb); clear BK0; clear BK1; clear BK2; clear HB; have BK0 := n0_; have BK1 := n1_; have BK2 := n2_; have HB := n3_; clear n0_ n1_ n2_ n3_; (try clear hb); (try clear hb2); (try clear hk); (try clear hi); have hnb94 := NB1_0.out; have hnc94 := NB0_1.out; have hcz95_0 : w93.cell? ⟨gb1, 0, none⟩ = some (.int .i64 0) := (Ak BK1.out 0).trans rfl; have hcz95_1 : w93.cell? ⟨gb1, 1, none⟩ = some (.string (⟨#[]⟩ : ByteArray)) := (Ak BK1.out 1).trans rfl; have hcz95_2 : w93.cell? ⟨gb1, 2, none⟩ = some (.int .i64 0) := (Ak BK1.out 2).trans rfl; have hcz95_3 : w93.cell? ⟨gb1, 3, none⟩ = some (.int .i64 0) := (Ak BK1.out 3).trans rfl; have hfz95_0 := Ai BK1.out 0; have hfz95_1 := Ai BK1.out 1; have hfz95_2 := Ai BK1.out 2; have hfz95_3 := Ai BK1.out 3; have hcz96_0 : w93.cell? ⟨gb0, 0, none⟩ = some (.int .i64 0) := (Ak BK0.out 0).trans rfl; have hcz96_1 : w93.cell? ⟨gb0, 1, none⟩ = some (.string (⟨#[]⟩ : ByteArray)) := (Ak BK0.out 1).trans rfl; have hcz96_2 : w93.cell? ⟨gb0, 2, none⟩ = some (.int .i64 0) := (Ak BK0.out 2).trans rfl; have hcz96_3 : w93.cell? ⟨gb0, 3, none⟩ = some (.int .i64 0) := (Ak BK0.out 3).trans rfl; have hfz96_0 := Ai BK0.out 0; have hfz96_1 := Ai BK0.out 1; have hfz96_2 := Ai BK0.out 2; have hfz96_3 := Ai BK0.out 3))
          refine bodyPost_ret (Ir rfl _ _ gb0 25 #[.int .i64 0, .string (⟨#[]⟩ : ByteArray), .int .i64 0, .int .i64 0] (0, 0) _ rfl Ybe_ Tryz.underlying25 rfl (by kernel_rfl)) rfl ?_
          exact ⟨by first | rfl | (simp [Au, Aw] <;> rfl) | (simp [*, Au, Aw] <;> rfl), by repeat (first | (with_reducible first | exact HB.out | apply Ae | apply Aa | apply Ad | refine Am ?_ GE0.out | refine Am ?_ GE1.out | refine Am ?_ GE2.out) | exact HB.out)⟩
        ·replace c76 := Bool.eq_false_iff.mpr c76
         subst c76
         have H1 : (some (0, (⟨#[]⟩ : ByteArray), 0, 0, false)) = some (r1, r2, r3, r4, r5) := by rw [if_neg (show ¬ (false = true) by decide)] at H; exact H
         clear H
         have H := H1
         clear H1
         simp only [Option.some.injEq, Prod.mk.injEq] at H
         obtain ⟨rfl, rfl, rfl, rfl, rfl⟩ := H
         have hnb97 := NB2_0.out
         have hnc97 := NB0_2.out
         have hnb98 := NB2_1.out
         have hnc98 := NB1_2.out
         have hcz99_0 : wc.cell? ⟨gb2, 0, none⟩ = some (.int .i64 x376000_16) := (Ak BK2.out 0).trans rfl
         have hcz99_1 : wc.cell? ⟨gb2, 1, none⟩ = some (.string (t373.extract 0 8)) := (Ak BK2.out 1).trans rfl
         have hcz99_2 : wc.cell? ⟨gb2, 2, none⟩ = some (.int .i64 x376002_16) := (Ak BK2.out 2).trans rfl
         have hcz99_3 : wc.cell? ⟨gb2, 3, none⟩ = some (.int .i64 x376003_16) := (Ak BK2.out 3).trans rfl
         have hfz99_0 := Ai BK2.out 0
         have hfz99_1 := Ai BK2.out 1
         have hfz99_2 := Ai BK2.out 2
         have hfz99_3 := Ai BK2.out 3
         go_wp2_with (first | ((with_reducible refine Ap (f := 21) rfl ?_); refine Bj (some 137) rfl rfl Tryz.func21 (by kernel_rfl) rfl #[.agg #[.int .i64 x376000_16, .string (t373.extract 0 8), .int .i64 x376002_16, .int .i64 x376003_16]] rfl Ya_ ?_; (with_reducible refine (E8.calls kj16 x376000_16 (t373.extract 0 8) x376002_16 x376003_16 false _ A75.out).mono ?_); rintro e w100 ⟨rfl, hb⟩; refine ⟨_, rfl, ?_⟩; have n0_ := Ac.mk (Bi (g := gb0) (o := .cells #[.int .i64 0, .string (⟨#[]⟩ : ByteArray), .int .i64 0, .int .i64 0] 25 (0, 0)) Yd_ hb); have n1_ := Ac.mk (Bi (g := gb1) (o := .cells #[.int .i64 0, .string (⟨#[]⟩ : ByteArray), .int .i64 0, .int .i64 0] 25 (0, 0)) Yj_ hb); have n2_ := Ac.mk (Bi (g := gb2) (o := .cells #[.int .i64 x376000_16, .string (t373.extract 0 8), .int .i64 x376002_16, .int .i64 x376003_16] 25 (0, 0)) Ybj_ hb); have n3_ := Ac.mk (Ar Ybc_ hb); clear BK0; clear BK1; clear BK2; clear HB; have BK0 := n0_; have BK1 := n1_; have BK2 := n2_; have HB := n3_; clear n0_ n1_ n2_ n3_; (try clear hb); (try clear hb2); (try clear hk); (try clear hi); have hnb101 := NB1_0.out; have hnc101 := NB0_1.out; have hcz102_0 : w100.cell? ⟨gb1, 0, none⟩ = some (.int .i64 0) := (Ak BK1.out 0).trans rfl; have hcz102_1 : w100.cell? ⟨gb1, 1, none⟩ = some (.string (⟨#[]⟩ : ByteArray)) := (Ak BK1.out 1).trans rfl; have hcz102_2 : w100.cell? ⟨gb1, 2, none⟩ = some (.int .i64 0) := (Ak BK1.out 2).trans rfl; have hcz102_3 : w100.cell? ⟨gb1, 3, none⟩ = some (.int .i64 0) := (Ak BK1.out 3).trans rfl; have hfz102_0 := Ai BK1.out 0; have hfz102_1 := Ai BK1.out 1; have hfz102_2 := Ai BK1.out 2; have hfz102_3 := Ai BK1.out 3; have hcz103_0 : w100.cell? ⟨gb0, 0, none⟩ = some (.int .i64 0) := (Ak BK0.out 0).trans rfl; have hcz103_1 : w100.cell? ⟨gb0, 1, none⟩ = some (.string (⟨#[]⟩ : ByteArray)) := (Ak BK0.out 1).trans rfl; have hcz103_2 : w100.cell? ⟨gb0, 2, none⟩ = some (.int .i64 0) := (Ak BK0.out 2).trans rfl; have hcz103_3 : w100.cell? ⟨gb0, 3, none⟩ = some (.int .i64 0) := (Ak BK0.out 3).trans rfl; have hfz103_0 := Ai BK0.out 0; have hfz103_1 := Ai BK0.out 1; have hfz103_2 := Ai BK0.out 2; have hfz103_3 := Ai BK0.out 3))
         refine bodyPost_ret (Ir rfl _ _ gb0 25 #[.int .i64 0, .string (⟨#[]⟩ : ByteArray), .int .i64 0, .int .i64 0] (0, 0) _ rfl Ybe_ Tryz.underlying25 rfl (by kernel_rfl)) rfl ?_
         exact ⟨by first | rfl | (simp [Au, Aw] <;> rfl) | (simp [*, Au, Aw] <;> rfl), by repeat (first | (with_reducible first | exact HB.out | apply Ae | apply Aa | apply Ad | refine Am ?_ GE0.out | refine Am ?_ GE1.out | refine Am ?_ GE2.out) | exact HB.out)⟩
     ·rw [if_neg c14] at H
      exact absurd H (by simp)
    ·rw [if_neg c13] at H
     exact absurd H (by simp)
def Ea.l0 : Nat → List (S25) → Int → ByteArray → Int → Int → Option (Int)
 | 0, _, _, _, _, _ => none
 | k + 1, x0, x1, x2, x7, x8 => if x8 < x1 then (if 0 ≤ x8 then (if x8 < (x0.length : Int) then (if ((Az x0 x8).f1).toList = x2.toList then (if ((Az x0 x8).f0) = 1 then (Ea.l0 k x0 x1 x2 ((Az x0 x8).f2) (wrap64 (x8 + 1))) else (if ((Az x0 x8).f0) = 2 then (Ea.l0 k x0 x1 x2 ((Az x0 x8).f3) (wrap64 (x8 + 1))) else (Ea.l0 k x0 x1 x2 x7 (wrap64 (x8 + 1))))) else (Ea.l0 k x0 x1 x2 x7 (wrap64 (x8 + 1)))) else (none)) else (none)) else (some x7)
def Ea.f (k : Nat) (l0 : List (S25)) (a1 : Int) (a2 : ByteArray) : Option (Int) := Ea.l0 k l0 a1 a2 (-1) 0
theorem Ea.Fa : ∀ k, (∀ y0 y1 y2 y3 y4, LeO (Ea.l0 k y0 y1 y2 y3 y4) (Ea.l0 (k + 1) y0 y1 y2 y3 y4))
 | 0 => fun _ _ _ _ _ r h => by simp [Ea.l0] at h
 | k + 1 => by
  have ih0 := Ea.Fa k
  ·intro y0 y1 y2 y3 y4
   unfold Ea.l0
   repeat' first
   | (with_reducible exact ih0 _ _ _ _ _)
   | (with_reducible exact LeO.refl _)
   | (with_reducible exact LeO.none _)
   | (with_reducible refine LeO.ite ?_ ?_)
   | (with_reducible refine LeO.bind ?_ (fun _ => ?_))
   | exact ih0 _ _ _ _ _
   | exact LeO.none _
   | refine LeO.ite ?_ ?_
   | refine LeO.bind ?_ (fun _ => ?_)
theorem Ea.mono : ∀ a0 a1 a2 k, LeO (Ea.f k a0 a1 a2) (Ea.f (k + 1) a0 a1 a2) := by
 intro a0 a1 a2 k
 have ih0 := Ea.Fa k
 unfold Ea.f
 repeat' first
   | (with_reducible exact ih0 _ _ _ _ _)
   | (with_reducible exact LeO.refl _)
   | (with_reducible exact LeO.none _)
   | (with_reducible refine LeO.ite ?_ ?_)
   | (with_reducible refine LeO.bind ?_ (fun _ => ?_))
   | exact ih0 _ _ _ _ _
   | exact LeO.none _
   | refine LeO.ite ?_ ?_
   | refine LeO.bind ?_ (fun _ => ?_)
set_option maxHeartbeats 8000000 in
set_option maxRecDepth 100000 in
theorem Ea.calls (k : Nat) (A0 : Option Addr) (c0 : Nat) (l0 : List (S25)) (a1 : Int) (a2 : ByteArray) (r : Int) (w : World) (hr0 : Kd.C k25 w A0 l0.length l0) (hc0 : l0.length ≤ c0) (h : Ea.f k l0 a1 a2 = some r) :
  Calls Tryz.prog 54 #[.slice A0 l0.length c0, .int .i64 a1, .string a2] w fun e w' => e = .returned (.int .i64 r) ∧ C9 w w' := by
 have HR0 := Ac.mk hr0
 have HC0 := Ac.mk hc0
 clear hr0 hc0
 have H : (Ea.l0 k l0 a1 a2 (-1) 0) = some r := h
 clear h
 have H' := Ac.mk H
 clear H
 go_enter Tryz.func54, Tryz.ntmps54
 go_wp2
 go_loopg [7, 8] k (fun kq v7 v8 w' => ∃ (x7_1 : Int) (x8_1 : Int), v7 = .int .i64 x7_1 ∧ v8 = .int .i64 x8_1 ∧ Ac (Ea.l0 kq l0 a1 a2 x7_1 x8_1 = some r) ∧ Ac (kq ≤ k) ∧ C9 w w')
 case atStart => exact ⟨((-1)), (0), Yf_, Yf_, H', ⟨Nat.le_refl _⟩, by repeat (first | exact C9.refl _ | apply C9.step)⟩
 case round =>
  clear H'
  try clear p2
  obtain ⟨x7_1, x8_1, rfl, rfl, HA, HK1, ⟨m1, rfl⟩⟩ := hrel
  cases gk with
  | zero => exact absurd HA.out (by simp [Ea.l0])
  | succ k1 =>
   have H := HA.out
   clear HA
   simp only [Ea.l0] at H
   by_cases c4 : x8_1 < a1
   ·rw [if_pos c4] at H
    have c4b0 : decide (x8_1 < a1) = true := decide_eq_true c4
    clear c4
    by_cases c5 : 0 ≤ x8_1
    ·rw [if_pos c5] at H
     have c5b0 : decide (0 ≤ x8_1) = true := decide_eq_true c5
     clear c5
     by_cases c6 : x8_1 < (l0.length : Int)
     ·rw [if_pos c6] at H
      have c6b0 : decide (x8_1 < (l0.length : Int)) = true := decide_eq_true c6
      clear c6
      by_cases c7 : ((Az l0 x8_1).f1).toList = a2.toList
      ·rw [if_pos c7] at H
       have c7b0 : (((Az l0 x8_1).f1).toList == a2.toList) = true := beq_iff_eq.mpr c7
       have c7b1 : (((Az l0 x8_1).f1).toList != a2.toList) = false := bne_eq_false_iff_eq.mpr c7
       clear c7
       by_cases c8 : ((Az l0 x8_1).f0) = 1
       ·rw [if_pos c8] at H
        have c8b0 : (((Az l0 x8_1).f0) == 1) = true := beq_iff_eq.mpr c8
        have c8b1 : (((Az l0 x8_1).f0) != 1) = false := bne_eq_false_iff_eq.mpr c8
        clear c8
        have H' := Ac.mk H
        clear H
        have p406 : 0 ≤ (x8_1 : Int) := of_decide_eq_true Ye_
        have q406 : x8_1 < (l0.length : Int) := of_decide_eq_true Ye_
        obtain ⟨ad406, e406, hx406_0, hx406_1, hx406_2, hx406_3⟩ := G9 HR0.out x8_1 p406 q406
        cases e406
        replace p406 := eq_true p406
        replace q406 := eq_true q406
        have p407 : 0 ≤ (x8_1 : Int) := of_decide_eq_true Ye_
        have q407 : x8_1 < (l0.length : Int) := of_decide_eq_true Ye_
        obtain ⟨ad407, e407, hx407_0, hx407_1, hx407_2, hx407_3⟩ := G9 HR0.out x8_1 p407 q407
        obtain rfl : ad406 = ad407 := (by injection e407)
        replace p407 := eq_true p407
        replace q407 := eq_true q407
        have p408 : 0 ≤ (x8_1 : Int) := of_decide_eq_true Ye_
        have q408 : x8_1 < (l0.length : Int) := of_decide_eq_true Ye_
        obtain ⟨ad408, e408, hx408_0, hx408_1, hx408_2, hx408_3⟩ := G9 HR0.out x8_1 p408 q408
        obtain rfl : ad406 = ad408 := (by injection e408)
        replace p408 := eq_true p408
        replace q408 := eq_true q408
        go_wp2
        go_roundg k1
        case measure => have := HK1.out; omega
        case rel => exact ⟨((Az l0 x8_1).f2), (wrap64 (x8_1 + 1)), Yf_, Yf_, H', ⟨by have := HK1.out; omega⟩, by repeat (first | exact C9.refl _ | apply C9.step)⟩
       ·rw [if_neg c8] at H
        have c8b0 : (((Az l0 x8_1).f0) == 1) = false := beq_eq_false_iff_ne.mpr c8
        have c8b1 : (((Az l0 x8_1).f0) != 1) = true := bne_iff_ne.mpr c8
        by_cases c9 : ((Az l0 x8_1).f0) = 2
        ·rw [if_pos c9] at H
         have c9b0 : (((Az l0 x8_1).f0) == 2) = true := beq_iff_eq.mpr c9
         have c9b1 : (((Az l0 x8_1).f0) != 2) = false := bne_eq_false_iff_eq.mpr c9
         clear c9
         have H' := Ac.mk H
         clear H
         have p406 : 0 ≤ (x8_1 : Int) := of_decide_eq_true Ye_
         have q406 : x8_1 < (l0.length : Int) := of_decide_eq_true Ye_
         obtain ⟨ad406, e406, hx406_0, hx406_1, hx406_2, hx406_3⟩ := G9 HR0.out x8_1 p406 q406
         cases e406
         replace p406 := eq_true p406
         replace q406 := eq_true q406
         have p407 : 0 ≤ (x8_1 : Int) := of_decide_eq_true Ye_
         have q407 : x8_1 < (l0.length : Int) := of_decide_eq_true Ye_
         obtain ⟨ad407, e407, hx407_0, hx407_1, hx407_2, hx407_3⟩ := G9 HR0.out x8_1 p407 q407
         obtain rfl : ad406 = ad407 := (by injection e407)
         replace p407 := eq_true p407
         replace q407 := eq_true q407
         have p409 : 0 ≤ (x8_1 : Int) := of_decide_eq_true Ye_
         have q409 : x8_1 < (l0.length : Int) := of_decide_eq_true Ye_
         obtain ⟨ad409, e409, hx409_0, hx409_1, hx409_2, hx409_3⟩ := G9 HR0.out x8_1 p409 q409
         obtain rfl : ad406 = ad409 := (by injection e409)
         replace p409 := eq_true p409
         replace q409 := eq_true q409
         go_wp2
         go_roundg k1
         case measure => have := HK1.out; omega
         case rel => exact ⟨((Az l0 x8_1).f3), (wrap64 (x8_1 + 1)), Yf_, Yf_, H', ⟨by have := HK1.out; omega⟩, by repeat (first | exact C9.refl _ | apply C9.step)⟩
        ·rw [if_neg c9] at H
         have c9b0 : (((Az l0 x8_1).f0) == 2) = false := beq_eq_false_iff_ne.mpr c9
         have c9b1 : (((Az l0 x8_1).f0) != 2) = true := bne_iff_ne.mpr c9
         have H' := Ac.mk H
         clear H
         have p406 : 0 ≤ (x8_1 : Int) := of_decide_eq_true Ye_
         have q406 : x8_1 < (l0.length : Int) := of_decide_eq_true Ye_
         obtain ⟨ad406, e406, hx406_0, hx406_1, hx406_2, hx406_3⟩ := G9 HR0.out x8_1 p406 q406
         cases e406
         replace p406 := eq_true p406
         replace q406 := eq_true q406
         have p407 : 0 ≤ (x8_1 : Int) := of_decide_eq_true Ye_
         have q407 : x8_1 < (l0.length : Int) := of_decide_eq_true Ye_
         obtain ⟨ad407, e407, hx407_0, hx407_1, hx407_2, hx407_3⟩ := G9 HR0.out x8_1 p407 q407
         obtain rfl : ad406 = ad407 := (by injection e407)
         replace p407 := eq_true p407
         replace q407 := eq_true q407
         go_wp2
         go_roundg k1
         case measure => have := HK1.out; omega
         case rel => exact ⟨(x7_1), (wrap64 (x8_1 + 1)), Yf_, Yf_, H', ⟨by have := HK1.out; omega⟩, by repeat (first | exact C9.refl _ | apply C9.step)⟩
      ·rw [if_neg c7] at H
       have c7b0 : (((Az l0 x8_1).f1).toList == a2.toList) = false := beq_eq_false_iff_ne.mpr c7
       have c7b1 : (((Az l0 x8_1).f1).toList != a2.toList) = true := bne_iff_ne.mpr c7
       have H' := Ac.mk H
       clear H
       have p406 : 0 ≤ (x8_1 : Int) := of_decide_eq_true Ye_
       have q406 : x8_1 < (l0.length : Int) := of_decide_eq_true Ye_
       obtain ⟨ad406, e406, hx406_0, hx406_1, hx406_2, hx406_3⟩ := G9 HR0.out x8_1 p406 q406
       cases e406
       replace p406 := eq_true p406
       replace q406 := eq_true q406
       go_wp2
       go_roundg k1
       case measure => have := HK1.out; omega
       case rel => exact ⟨(x7_1), (wrap64 (x8_1 + 1)), Yf_, Yf_, H', ⟨by have := HK1.out; omega⟩, by repeat (first | exact C9.refl _ | apply C9.step)⟩
     ·rw [if_neg c6] at H
      exact absurd H (by simp)
    ·rw [if_neg c5] at H
     exact absurd H (by simp)
   ·rw [if_neg c4] at H
    have c4b0 : decide (x8_1 < a1) = false := decide_eq_false c4
    clear c4
    obtain rfl := Option.some.inj H
    go_wp2
    go_ret
    exact ⟨by first | rfl | (simp; done) | (simp [*]; done), by repeat (first | exact C9.refl _ | apply C9.step)⟩
end Go.Proofs.YtghnljoaklmakaaGreatDoor.X

