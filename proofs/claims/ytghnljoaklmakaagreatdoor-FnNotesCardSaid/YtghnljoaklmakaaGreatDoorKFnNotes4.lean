/- Texts that the proof of the law FnNotes leans on, part 5 of 6. -/
import Derived.Test.YtghnljoaklmakaaGreatDoorKFnNotes0
import Derived.Test.YtghnljoaklmakaaGreatDoorKFnNotes1
import Derived.Test.YtghnljoaklmakaaGreatDoorKFnNotes2
import Derived.Test.YtghnljoaklmakaaGreatDoorKFnNotes3
set_option linter.unusedVariables false
set_option linter.unusedSimpArgs false
namespace Go.Proofs.YtghnljoaklmakaaGreatDoor.X
open Go.RowKit Go.Proofs.YtghnljoaklmakaaGreatDoorW.PrintWords Go.Proofs.YtghnljoaklmakaaGreatDoorW.PrintLast Go.Proofs.YtghnljoaklmakaaGreatDoorW.PrintMore
attribute [local go_sem] Ei Eh Ez Ey D7 D6 Ej Eg
open Go.Proofs.YtghnljoaklmakaaGreatDoorG
def G7.f (k : Nat) (a0_0 : Int) (a0_1 : ByteArray) (a0_2 : Int) (a0_3 : Int) : Option (Bool) := (Di.f k a0_0 a0_1 a0_2 a0_3).bind fun t458 => (some (!t458))
theorem G7.mono : ∀ a0 a1 a2 a3 k, LeO (G7.f k a0 a1 a2 a3) (G7.f (k + 1) a0 a1 a2 a3) := by
 intro a0 a1 a2 a3 k
 unfold G7.f
 repeat' first
   | (with_reducible exact Di.mono _ _ _ _ _)
   | (with_reducible exact LeO.refl _)
   | (with_reducible exact LeO.none _)
   | (with_reducible refine LeO.ite ?_ ?_)
   | (with_reducible refine LeO.bind ?_ (fun _ => ?_))
   | exact Di.mono _ _ _ _ _
   | exact LeO.none _
   | refine LeO.ite ?_ ?_
   | refine LeO.bind ?_ (fun _ => ?_)
set_option maxHeartbeats 8000000 in
set_option maxRecDepth 100000 in
theorem G7.calls (k : Nat) (a0_0 : Int) (a0_1 : ByteArray) (a0_2 : Int) (a0_3 : Int) (r : Bool) (w : World) (h : G7.f k a0_0 a0_1 a0_2 a0_3 = some r) :
  Calls Tryz.prog 56 #[.agg #[.int .i64 a0_0, .string a0_1, .int .i64 a0_2, .int .i64 a0_3]] w fun e w' => e = .returned (.bool r) ∧ Below w.heap.size w w' := by
 have hu25 := Tryz.underlying25
 have HB := Ac.mk (Below.refl w.heap.size w)
 have H : ((Di.f k a0_0 a0_1 a0_2 a0_3).bind fun t458 => (some (!t458))) = some r := h
 clear h
 replace H := Option.bind_eq_some_iff.mp H
 obtain ⟨t458, A20, H⟩ := H
 try dsimp only at H
 have A2 := Ac.mk A20
 clear A20
 obtain rfl := Option.some.inj H
 go_enter Tryz.func56, Tryz.ntmps56
 go_wp2_with (first | ((with_reducible refine Dl (N := 1) rfl ?_); refine Dz ?hg (N := 1) ?hd (cs := #[.int .i64 a0_0, .string a0_1, .int .i64 a0_2, .int .i64 a0_3]) (t := 25) ?hr ?_; (case hd => rfl); (case hg => rfl); (case hr => first | (go_simp; done) | (go_simp; rfl)); intro gb0 hg w3 hbox hb; have n0_ := Ac.mk (Ar Yb_ hb); have n1_ := Ac.mk (hbox); have n2_ := Ac.mk ((by rw [hg]; exact (Ba Yb_) : w.heap.size ≤ gb0)); have n3_ := Ac.mk ((by rw [hg]; exact (Ba Yb_) : w.heap.size ≤ gb0)); clear HB; have HB := n0_; have BK0 := n1_; have GW0 := n2_; have GE0 := n3_; clear n0_ n1_ n2_ n3_; clear hb hbox hg; have hcz4_0 : w3.cell? ⟨gb0, 0, none⟩ = some (.int .i64 a0_0) := (Ak BK0.out 0).trans rfl; have hcz4_1 : w3.cell? ⟨gb0, 1, none⟩ = some (.string a0_1) := (Ak BK0.out 1).trans rfl; have hcz4_2 : w3.cell? ⟨gb0, 2, none⟩ = some (.int .i64 a0_2) := (Ak BK0.out 2).trans rfl; have hcz4_3 : w3.cell? ⟨gb0, 3, none⟩ = some (.int .i64 a0_3) := (Ak BK0.out 3).trans rfl; have hfz4_0 := Ai BK0.out 0; have hfz4_1 := Ai BK0.out 1; have hfz4_2 := Ai BK0.out 2; have hfz4_3 := Ai BK0.out 3) | ((with_reducible refine Ap (f := 8) rfl ?_); refine Bj (some 4) rfl rfl Tryz.func8 (by kernel_rfl) rfl #[.agg #[.int .i64 a0_0, .string a0_1, .int .i64 a0_2, .int .i64 a0_3]] rfl Ya_ ?_; (with_reducible refine (Di.calls k a0_0 a0_1 a0_2 a0_3 t458 _ A2.out).mono ?_); rintro e w5 ⟨rfl, hb⟩; refine ⟨_, rfl, ?_⟩; have n0_ := Ac.mk (Bi (g := gb0) (o := .cells #[.int .i64 a0_0, .string a0_1, .int .i64 a0_2, .int .i64 a0_3] 25 (0, 0)) Yd_ hb); have n1_ := Ac.mk (Ar Yc_ hb); clear BK0; clear HB; have BK0 := n0_; have HB := n1_; clear n0_ n1_; (try clear hb); (try clear hb2); (try clear hk); (try clear hi)))
 go_ret
 exact ⟨by first | rfl | (simp [Au, Aw] <;> rfl) | (simp [*, Au, Aw] <;> rfl), by repeat (first | (with_reducible first | exact HB.out | apply Ae | apply Aa | apply Ad | refine Am ?_ GE0.out) | exact HB.out)⟩
end Go.Proofs.YtghnljoaklmakaaGreatDoor.X

namespace Go.Proofs.YtghnljoaklmakaaGreatDoorL
open Go.RowKit Go.Proofs.YtghnljoaklmakaaGreatDoorW.PrintWords
theorem ev_eq {α : Type} {g : Nat → Option α} {r : α} (h : ∀ k, g k = some r) : Ev g r := ⟨0, fun k _ => h k⟩
theorem ev_rounds {α : Type} {g : Nat → Option α} {r : α} (h : Ev g r) : ∃ k, g k = some r := h.rounds
theorem Fz {x : Int} (h0 : -9223372036854775808 ≤ x) (h1 : x ≤ 9223372036854775807) : wrap64 x = x := by unfold wrap64; omega
theorem wrap_succ {n : Nat} (h : n < 9223372036854775807) : wrap64 ((n : Int) + 1) = ((n + 1 : Nat) : Int) := by rw [Fz (by omega) (by omega)]; rfl
theorem rd_at (l : List Int) (n : Nat) (h : n < l.length) : rd l (n : Int) = l[n] := by simp [rd, List.getD_eq_getElem?_getD, List.getElem?_eq_getElem h]
end Go.Proofs.YtghnljoaklmakaaGreatDoorL

namespace Go.Proofs.YtghnljoaklmakaaGreatDoor.X
open Go.RowKit Go.Proofs.YtghnljoaklmakaaGreatDoorW.PrintWords Go.Proofs.YtghnljoaklmakaaGreatDoorL
def okCh (n : Nat) (c : Int) : Bool := if n < 3 then decide (65 ≤ c) && decide (c ≤ 90) else decide (48 ≤ c) && decide (c ≤ 57)
def trm (n : Nat) (c : Int) : Int := if n < 3 then ((n : Int) + 2) * (c - 64) else ((n : Int) + 2) * (c - 48)
/-- The sum over the bytes from n on, if all are as they should be. -/
def chk (t : ByteArray) : Nat → Nat → Int → Option Int
 | 0, _, acc => some acc
 | d + 1, n, acc => if okCh n (bt t n) = true then chk t d (n + 1) (acc + trm n (bt t n)) else none
theorem seven (n : Nat) (h : n < 7) : n = 0 ∨ n = 1 ∨ n = 2 ∨ n = 3 ∨ n = 4 ∨ n = 5 ∨ n = 6 := by omega
theorem trm_bound (n : Nat) (h : n < 7) (c : Int) (hc : okCh n c = true) : 0 ≤ trm n c ∧ trm n c ≤ 234 := by
 rcases seven n h with rfl | rfl | rfl | rfl | rfl | rfl | rfl <;> simp [okCh] at hc <;> simp [trm] <;> omega
theorem implChk_loop (t : ByteArray) (ht : t.size = 7) : ∀ (d n : Nat) (acc : Int), n + d = 7 → 0 ≤ acc → acc ≤ 234 * n →
  Ev (fun k => Dh.l0 k t acc 7 n) (match chk t d n acc with | some s => (65 + s % 23, true) | none => (0, false)) := by
 intro d
 induction d with
 | zero =>
  intro n acc hn h0 h1
  refine Ev.step (f := fun _ => some _) (fun k => ?_) (Ev.now _)
  simp only [Dh.l0]
  rw [if_neg (by omega), Int.tmod_eq_emod_of_nonneg h0, Fz (by omega) (by omega)]
  simp only [chk]
  congr 2
  omega
 | succ d ih =>
  intro n acc hn h0 h1
  have hr := bt_range t n
  have hcast : ((n : Int) + 1) = ((n + 1 : Nat) : Int) := rfl
  by_cases hok : okCh n (bt t n) = true
  ·have hb := trm_bound n (by omega) _ hok
   have h2 := ih (n + 1) (acc + trm n (bt t n)) (by omega) (by omega) (by omega)
   simp only [chk, if_pos hok]
   refine Ev.step (f := fun k => Dh.j1 k t acc n (bt t n) 7 n (decide (n < 3))) (fun k => ?_) ?_
   ·simp only [Dh.l0]
    rw [if_pos (by omega), if_pos (by omega), if_pos (by omega)]
    by_cases h3 : n < 3
    ·simp only [okCh, if_pos h3, Bool.and_eq_true, decide_eq_true_eq] at hok
     rw [if_pos (by omega), if_pos (by omega)]
     simp [h3, hok.2]
    ·rw [if_neg (by omega)]; simp [h3]
   ·refine Ev.step (f := fun k => Dh.l0 k t (acc + trm n (bt t n)) 7 ((n + 1 : Nat) : Int)) (fun k => ?_) h2
    simp only [Dh.j1]
    rw [wrap_succ (by omega)]
    by_cases h3 : n < 3
    ·have e : wrap64 (acc + wrap64 (wrap64 ((n : Int) + 2) * ((bt t n - 65) % 256 + 1))) = acc + trm n (bt t n) := by
      have ho : 65 ≤ bt t n ∧ bt t n ≤ 90 := by simpa [okCh, h3] using hok
      have ht2 : trm n (bt t n) = ((n : Int) + 2) * (bt t n - 64) := by simp [trm, h3]
      rw [show (bt t n - 65) % 256 + 1 = bt t n - 64 by omega, Fz (x := (n : Int) + 2) (by omega) (by omega), ← ht2, Fz (x := trm n (bt t n)) (by omega) (by omega), Fz (by omega) (by omega)]
     rw [if_pos (by simp [h3]), e]
    ·have e : wrap64 (acc + wrap64 (wrap64 ((n : Int) + 2) * ((bt t n - 48) % 256))) = acc + trm n (bt t n) := by
      have ho : 48 ≤ bt t n ∧ bt t n ≤ 57 := by simpa [okCh, h3] using hok
      have ht2 : trm n (bt t n) = ((n : Int) + 2) * (bt t n - 48) := by simp [trm, h3]
      rw [show (bt t n - 48) % 256 = bt t n - 48 by omega, Fz (x := (n : Int) + 2) (by omega) (by omega), ← ht2, Fz (x := trm n (bt t n)) (by omega) (by omega), Fz (by omega) (by omega)]
     simp only [okCh, if_neg h3, Bool.and_eq_true, decide_eq_true_eq] at hok
     rw [if_neg (by simp [h3]), if_pos (by omega), if_pos (by omega), if_pos (by omega), e]
  ·simp only [chk, if_neg hok]
   by_cases h3 : n < 3
   ·simp only [okCh, if_pos h3, Bool.and_eq_true, decide_eq_true_eq] at hok
    refine Ev.step (f := fun k => Dh.j1 k t acc n (bt t n) 7 n false) (fun k => ?_) (Ev.step (f := fun _ => some (0, false)) (fun k => ?_) (Ev.now _))
    ·simp only [Dh.l0]
     rw [if_pos (by omega), if_pos (by omega), if_pos (by omega), if_pos (by omega)]
     by_cases h4 : bt t n ≥ 65
     ·rw [if_pos h4]; simp [show ¬ bt t n ≤ 90 by omega]
     ·rw [if_neg h4]
    ·simp only [Dh.j1]
     rw [if_neg (by decide), if_neg (by omega)]
   ·simp only [okCh, if_neg h3, Bool.and_eq_true, decide_eq_true_eq] at hok
    refine Ev.step (f := fun k => Dh.j1 k t acc n (bt t n) 7 n false) (fun k => ?_) (Ev.step (f := fun _ => some (0, false)) (fun k => ?_) (Ev.now _))
    ·simp only [Dh.l0]
     rw [if_pos (by omega), if_pos (by omega), if_pos (by omega), if_neg (by omega)]
    ·simp only [Dh.j1]
     rw [if_neg (by decide), if_pos (by omega)]
     by_cases h4 : bt t n ≥ 48
     ·rw [if_pos h4, if_neg (by omega)]
     ·rw [if_neg h4]
theorem specSeven_loop (t : ByteArray) (ht : t.size = 7) : ∀ (d n : Nat) (acc : Int), n + d = 7 → Ev (fun k => En.l0 k t n) (chk t d n acc).isSome := by
 intro d
 induction d with
 | zero => intro n acc hn; exact Ev.step (f := fun _ => some _) (fun k => by simp only [En.l0]; rw [if_neg (by omega)]; rfl) (Ev.now _)
 | succ d ih =>
  intro n acc hn
  by_cases hok : okCh n (bt t n) = true
  ·simp only [chk, if_pos hok]
   refine Ev.step (f := fun k => En.l0 k t ((n + 1 : Nat) : Int)) (fun k => ?_) (ih (n + 1) _ (by omega))
   simp only [En.l0]
   rw [if_pos (by omega), wrap_succ (by omega)]
   by_cases h3 : n < 3
   ·simp only [okCh, if_pos h3, Bool.and_eq_true, decide_eq_true_eq] at hok
    rw [if_pos (by omega), if_pos (by omega), if_pos (by omega), if_neg (by omega), if_neg (by omega), if_neg (by omega)]
   ·simp only [okCh, if_neg h3, Bool.and_eq_true, decide_eq_true_eq] at hok
    rw [if_neg (by omega), if_pos (by omega), if_pos (by omega), if_pos (by omega), if_neg (by omega), if_neg (by omega)]
  ·simp only [chk, if_neg hok]
   refine Ev.step (f := fun _ => some false) (fun k => ?_) (Ev.now _)
   simp only [En.l0]
   rw [if_pos (by omega)]
   by_cases h3 : n < 3
   ·simp only [okCh, if_pos h3, Bool.and_eq_true, decide_eq_true_eq] at hok
    rw [if_pos (by omega), if_pos (by omega), if_pos (by omega)]
    by_cases h4 : bt t n < 65
    ·rw [if_pos h4]
    ·rw [if_neg h4, if_pos (by omega)]
   ·simp only [okCh, if_neg h3, Bool.and_eq_true, decide_eq_true_eq] at hok
    rw [if_neg (by omega), if_pos (by omega), if_pos (by omega), if_pos (by omega)]
    by_cases h4 : bt t n < 48
    ·rw [if_pos h4]
    ·rw [if_neg h4, if_pos (by omega)]
theorem specCheck_loop (t : ByteArray) (ht : t.size = 7) : ∀ (d n : Nat) (acc s : Int), n + d = 7 → 0 ≤ acc → acc ≤ 234 * n → chk t d n acc = some s → Ev (fun k => Ee.l0 k t acc n) (65 + s % 23) := by
 intro d
 induction d with
 | zero =>
  intro n acc s hn h0 h1 hs
  simp only [chk, Option.some.injEq] at hs
  subst hs
  refine Ev.step (f := fun _ => some _) (fun k => ?_) (Ev.now _)
  simp only [Ee.l0]
  rw [if_neg (by omega), Int.tmod_eq_emod_of_nonneg h0]
  congr 1
  omega
 | succ d ih =>
  intro n acc s hn h0 h1 hs
  have hr := bt_range t n
  by_cases hok : okCh n (bt t n) = true
  ·have hb := trm_bound n (by omega) _ hok
   simp only [chk, if_pos hok] at hs
   refine Ev.step (f := fun k => Ee.l0 k t (acc + trm n (bt t n)) ((n + 1 : Nat) : Int)) (fun k => ?_) (ih (n + 1) _ s (by omega) (by omega) (by omega) hs)
   simp only [Ee.l0]
   rw [if_pos (by omega), if_pos (by omega), if_pos (by omega), wrap_succ (by omega)]
   by_cases h3 : n < 3
   ·have e : wrap64 (acc + wrap64 (wrap64 (wrap64 (wrap64 (bt t n) - 65) + 1) * wrap64 ((n : Int) + 2))) = acc + trm n (bt t n) := by
     have ho : 65 ≤ bt t n ∧ bt t n ≤ 90 := by simpa [okCh, h3] using hok
     have ht2 : trm n (bt t n) = (bt t n - 64) * ((n : Int) + 2) := by simp [trm, h3, Int.mul_comm]
     rw [Fz (x := bt t n) (by omega) (by omega), Fz (x := bt t n - 65) (by omega) (by omega), show bt t n - 65 + 1 = bt t n - 64 by omega, Fz (x := bt t n - 64) (by omega) (by omega), Fz (x := (n : Int) + 2) (by omega) (by omega), ← ht2, Fz (x := trm n (bt t n)) (by omega) (by omega), Fz (by omega) (by omega)]
    rw [if_pos (by omega), e]
   ·have e : wrap64 (acc + wrap64 (wrap64 (wrap64 (bt t n) - 48) * wrap64 ((n : Int) + 2))) = acc + trm n (bt t n) := by
     have ho : 48 ≤ bt t n ∧ bt t n ≤ 57 := by simpa [okCh, h3] using hok
     have ht2 : trm n (bt t n) = (bt t n - 48) * ((n : Int) + 2) := by simp [trm, h3, Int.mul_comm]
     rw [Fz (x := bt t n) (by omega) (by omega), Fz (x := bt t n - 48) (by omega) (by omega), Fz (x := (n : Int) + 2) (by omega) (by omega), ← ht2, Fz (x := trm n (bt t n)) (by omega) (by omega), Fz (by omega) (by omega)]
    rw [if_neg (by omega), e]
  ·simp only [chk, if_neg hok] at hs; cases hs
/-- Is it an identifier? -/
def idOk (s : ByteArray) : Bool := decide (s.size = 8) && (match chk (s.extract 0 7) 7 0 0 with | some m => bt s 7 == 65 + m % 23 | none => false)
theorem extract7 (s : ByteArray) (h : s.size = 8) : (s.extract 0 7).size = 7 := by simp [ByteArray.size_extract, h]
theorem implId_ev (s : ByteArray) : Ev (fun k => Ff.f k s) (idOk s) := by
 unfold Ff.f idOk
 by_cases h : s.size = 8
 ·have h7 := extract7 s h
  simp only [h, show ((8 : Nat) : Int) = 8 from rfl, if_true, decide_true, Bool.true_and, show (0 : Int) ≤ 7 by omega, show (7 : Int) ≤ 8 by omega, show (7 : Int) < 8 by omega]
  refine Ev.bind (a := match chk (s.extract 0 7) 7 0 0 with | some s => (65 + s % 23, true) | none => (0, false)) ?_ ?_
  ·unfold Dh.f
   simp only [h7, show ((7 : Nat) : Int) = 7 from rfl, if_true]
   exact implChk_loop _ h7 7 0 0 (by omega) (by omega) (by omega)
  ·cases chk (s.extract 0 7) 7 0 0 <;> simp <;> exact Ev.now _
 ·have : ¬ (s.size : Int) = 8 := by omega
  simp only [this, if_false, h, decide_false, Bool.false_and]
  exact Ev.now _
theorem specId_ev (s : ByteArray) : Ev (fun k => Gi.f k s) (idOk s) := by
 unfold Gi.f idOk
 by_cases h : s.size = 8
 ·have h7 := extract7 s h
  simp only [h, show ((8 : Nat) : Int) = 8 from rfl, if_true, decide_true, Bool.true_and, show (0 : Int) ≤ 7 by omega, show (7 : Int) ≤ 8 by omega, show (7 : Int) < 8 by omega]
  refine Ev.bind (a := (chk (s.extract 0 7) 7 0 0).isSome) ?_ ?_
  ·unfold En.f
   simp only [h7, show ((7 : Nat) : Int) = 7 from rfl, if_true]
   exact specSeven_loop _ h7 7 0 0 (by omega)
  ·cases hc : chk (s.extract 0 7) 7 0 0 with
   | none => simp; exact Ev.now _
   | some m =>
    simp only [Option.isSome_some, if_true]
    refine Ev.bind (a := 65 + m % 23) ?_ (Ev.now _)
    unfold Ee.f
    exact specCheck_loop _ h7 7 0 0 m (by omega) (by omega) (by omega) hc
 ·have : ¬ (s.size : Int) = 8 := by omega
  simp only [this, if_false, h, decide_false, Bool.false_and]
  exact Ev.now _
/-- Is it a note? -/
def F8 (kind : Int) (id : ByteArray) (a b : Int) : Bool :=
 idOk id && (if kind = 1 then decide (0 ≤ a) && decide (a ≤ 5) && b == 0 else if kind = 2 then decide (0 ≤ a) && decide (a ≤ 5) && decide (0 ≤ b) && decide (b ≤ 5) && a != b else
  if kind = 3 then decide (1 ≤ a) && decide (a ≤ 15) && b == 0 else if kind = 4 then decide (0 ≤ a) && decide (a ≤ 11) && b == 0 else
  if kind = 5 then decide (1 ≤ a) && decide (a ≤ 999999) && decide (1 ≤ b) && decide (b ≤ 400) else false)
theorem within_eq (a b c : Int) : Dx.f a b c = some (decide (b ≤ a) && decide (a ≤ c)) := by
 unfold Dx.f
 by_cases h : a ≥ b
 ·rw [if_pos h]; simp [show b ≤ a from h]
 ·rw [if_neg h]; simp [show ¬ b ≤ a from h]
theorem l1In_eq (a b c : Int) : Eb.f a b c = some (decide (b ≤ a) && decide (a ≤ c)) := by
 unfold Eb.f
 by_cases h : a ≥ b
 ·rw [if_pos h]; simp [show b ≤ a from h]
 ·rw [if_neg h]; simp [show ¬ b ≤ a from h]
theorem implNote_ev (kind : Int) (id : ByteArray) (a b : Int) : Ev (fun k => Di.f k kind id a b) (F8 kind id a b) := by
 unfold Di.f
 refine Ev.bind (implId_ev id) ?_
 refine ev_eq (fun _ => ?_)
 unfold F8
 simp only [within_eq, Option.bind_some]
 cases idOk id
 ·simp
 ·simp only [if_true, Bool.true_and]
  repeat' split
  all_goals (simp_all <;> omega)
theorem specNote_ev (kind : Int) (id : ByteArray) (a b : Int) : Ev (fun k => E8.f k kind id a b) (F8 kind id a b) := by
 unfold E8.f
 refine Ev.bind (specId_ev id) ?_
 refine ev_eq (fun _ => ?_)
 unfold F8
 simp only [l1In_eq, Option.bind_some]
 cases idOk id
 ·simp
 ·simp only [if_true, Bool.true_and]
  repeat' split
  all_goals (simp_all <;> omega)
end Go.Proofs.YtghnljoaklmakaaGreatDoor.X

namespace Go.Proofs.YtghnljoaklmakaaGreatDoor.X
open Go.RowKit Go.Proofs.YtghnljoaklmakaaGreatDoorW.PrintWords Go.Proofs.YtghnljoaklmakaaGreatDoorW.PrintLast Go.Proofs.YtghnljoaklmakaaGreatDoorW.PrintMore
attribute [local go_sem] Ei Eh Ez Ey D7 D6 Ej Eg
open Go.Proofs.YtghnljoaklmakaaGreatDoorG
def Il (x : S25) : Bool := F8 x.f0 x.f1 x.f2 x.f3
theorem okNote_f (x : S25) : ∃ k, G7.f k x.f0 x.f1 x.f2 x.f3 = some (!Il x) := by
 obtain ⟨k, h⟩ := (implNote_ev x.f0 x.f1 x.f2 x.f3).rounds
 exact ⟨k, by unfold G7.f; rw [h]; rfl⟩
def G5.f (l0 : List S25) : Option Bool := some (decide (l0.length ≤ 10) && l0.all Il)
set_option maxHeartbeats 2000000 in
theorem G5.calls (A0 : Option Addr) (c0 : Nat) (l0 : List (S25)) (r : Bool) (w : World) (hr0 : Kd.C k25 w A0 l0.length l0) (hc0 : l0.length ≤ c0) (h : G5.f l0 = some r) :
  Calls Tryz.prog 34 #[.slice A0 l0.length c0] w fun e w' => e = .returned (.bool r) ∧ Below w.heap.size w w' := by
 have HI := Ac.mk (fun (W : World) (hb0 : Below w.heap.size w W) => I9.calls (p := fun x => !Il x) (g := 56) (lb := #[]) (enters_of Tryz.func56 (by kernel_rfl) rfl) A0 c0 l0 W (Kd.C_below hr0 hb0) (fun W' x hb => by
  obtain ⟨k, hk⟩ := okNote_f x
  exact (G7.calls k x.f0 x.f1 x.f2 x.f3 (!Il x) W' hk).mono (fun e w' ⟨he, hb'⟩ => ⟨he, hb.trans (hb'.mono hb.size)⟩)))
 simp only [G5.f, Option.some.injEq] at h
 have ha : l0.all Il = !(l0.any fun x => !Il x) := by rw [List.all_eq_not_any_not]
 rw [ha] at h
 clear ha hr0
 have H := Ac.mk h
 clear h
 by_cases hlen : (l0.length : Int) ≤ 10
 ·have hd1 : decide ((l0.length : Int) ≤ 10) = true := decide_eq_true hlen
  have hd2 : decide (l0.length ≤ 10) = true := decide_eq_true (by omega)
  have HD2 := Ac.mk hd2
  clear hlen
  cases hq : l0.any (fun x => !Il x) with
  | true =>
   simp only [hq] at HI
   have HQ := Ac.mk hq
   clear hq
   go_enter Tryz.func34, Tryz.ntmps34
   go_wp2_with (go_at_call 55; refine (HI.out _ (by repeat (first | exact Below.refl _ _ | apply Ae | apply Aa | apply Ad))).mono ?_; rintro e w' ⟨rfl, hb'⟩)
   go_ret
   exact ⟨by rw [← H.out, HQ.out, HD2.out]; rfl, hb'⟩
  | false =>
   simp only [hq] at HI
   have HQ := Ac.mk hq
   clear hq
   go_enter Tryz.func34, Tryz.ntmps34
   go_wp2_with (go_at_call 55; refine (HI.out _ (by repeat (first | exact Below.refl _ _ | apply Ae | apply Aa | apply Ad))).mono ?_; rintro e w' ⟨rfl, hb'⟩)
   go_ret
   exact ⟨by rw [← H.out, HQ.out, HD2.out]; rfl, hb'⟩
 ·have hd1 : decide ((l0.length : Int) ≤ 10) = false := decide_eq_false hlen
  have hd2 : decide (l0.length ≤ 10) = false := decide_eq_false (by omega)
  have HD2 := Ac.mk hd2
  have HL := Ac.mk hlen
  clear hlen
  go_enter Tryz.func34, Tryz.ntmps34
  go_wp2
  go_ret
  exact ⟨by rw [← H.out, HD2.out]; rfl, Below.refl _ _⟩
def Dq.l0 : Nat → List ByteArray → List (S25) → Int → Int → Option (ByteArray × Bool)
 | 0, _, _, _, _ => none
 | k + 1, x4, x11, x12, x13 => if x13 < x12 then (if 0 ≤ x13 then (if x13 < (x11.length : Int) then ((Dp.f k ((Az x11 x13).f0) ((Az x11 x13).f1) ((Az x11 x13).f2) ((Az x11 x13).f3)).bind fun t465 => (if x4.length < 8796093022208 then (Dq.l0 k (x4 ++ [t465]) x11 x12 (wrap64 (x13 + 1))) else (none))) else (none)) else (none)) else ((strings_Join.f x4 (⟨#[32]⟩ : ByteArray)).bind fun t469 => (some (t469, true)))
def Dq.f (k : Nat) (l0 : List (S25)) : Option (ByteArray × Bool) := (G5.f l0).bind fun t459 => (if t459 = true then (Dq.l0 k (([] : List ByteArray)) l0 (l0.length : Int) 0) else (some ((⟨#[]⟩ : ByteArray), false)))
theorem Dq.Fa : ∀ k, (∀ y0 y1 y2 y3, LeO (Dq.l0 k y0 y1 y2 y3) (Dq.l0 (k + 1) y0 y1 y2 y3))
 | 0 => fun _ _ _ _ r h => by simp [Dq.l0] at h
 | k + 1 => by
  have ih0 := Dq.Fa k
  ·intro y0 y1 y2 y3
   unfold Dq.l0
   repeat' first
   | (with_reducible exact ih0 _ _ _ _)
   | (with_reducible exact Dp.mono _ _ _ _ _)
   | (with_reducible exact LeO.refl _)
   | (with_reducible exact LeO.none _)
   | (with_reducible refine LeO.ite ?_ ?_)
   | (with_reducible refine LeO.bind ?_ (fun _ => ?_))
   | exact ih0 _ _ _ _
   | exact Dp.mono _ _ _ _ _
   | exact LeO.none _
   | refine LeO.ite ?_ ?_
   | refine LeO.bind ?_ (fun _ => ?_)
theorem Dq.mono : ∀ a0 k, LeO (Dq.f k a0) (Dq.f (k + 1) a0) := by
 intro a0 k
 have ih0 := Dq.Fa k
 unfold Dq.f
 repeat' first
   | (with_reducible exact ih0 _ _ _ _)
   | (with_reducible exact Dp.mono _ _ _ _ _)
   | (with_reducible exact LeO.refl _)
   | (with_reducible exact LeO.none _)
   | (with_reducible refine LeO.ite ?_ ?_)
   | (with_reducible refine LeO.bind ?_ (fun _ => ?_))
   | exact ih0 _ _ _ _
   | exact Dp.mono _ _ _ _ _
   | exact LeO.none _
   | refine LeO.ite ?_ ?_
   | refine LeO.bind ?_ (fun _ => ?_)
set_option maxHeartbeats 8000000 in
set_option maxRecDepth 100000 in
theorem Dq.calls (k : Nat) (A0 : Option Addr) (c0 : Nat) (l0 : List (S25)) (r1 : ByteArray) (r2 : Bool) (w : World) (hr0 : Kd.C k25 w A0 l0.length l0) (hc0 : l0.length ≤ c0) (hG : Fp w) (h : Dq.f k l0 = some (r1, r2)) :
  Calls Tryz.prog 13 #[.slice A0 l0.length c0] w fun e w' => e = .returned (.tuple #[.string r1, .bool r2]) ∧ Below w.heap.size w w' := by
 have hu25 := Tryz.underlying25
 have HGL := Ac.mk hG
 clear hG
 have HR0 := Ac.mk hr0
 have HC0 := Ac.mk hc0
 clear hr0 hc0
 have HB := Ac.mk (Below.refl w.heap.size w)
 have H : ((G5.f l0).bind fun t459 => (if t459 = true then (Dq.l0 k (([] : List ByteArray)) l0 (l0.length : Int) 0) else (some ((⟨#[]⟩ : ByteArray), false)))) = some (r1, r2) := h
 clear h
 replace H := Option.bind_eq_some_iff.mp H
 obtain ⟨t459, A20, H⟩ := H
 try dsimp only at H
 have A2 := Ac.mk A20
 clear A20
 by_cases c3 : t459 = true
 ·subst c3
  have H1 : (Dq.l0 k (([] : List ByteArray)) l0 (l0.length : Int) 0) = some (r1, r2) := by rw [if_pos rfl] at H; exact H
  clear H
  have H := H1
  clear H1
  obtain ⟨y460, hy460⟩ : ∃ y_ : List ByteArray, y_ = (([] : List ByteArray)) := ⟨_, rfl⟩
  replace H : (Dq.l0 k y460 l0 (l0.length : Int) 0) = some (r1, r2) := by first | (rw [hy460]; with_reducible exact H) | (have H2_ := (Option.bind_some _ _).symm.trans H; rw [hy460]; with_reducible exact H2_) | (have H2_ := (Option.bind_some _ _).symm.trans H; with_reducible exact H2_) | with_reducible exact H | (rw [hy460]; exact H) | exact H
  have Ny460 := Ac.mk hy460
  clear hy460
  have H' := Ac.mk H
  clear H
  go_enter Tryz.func13, Tryz.ntmps13
  go_wp2_with (first | ((with_reducible refine Ap (f := 34) rfl ?_); refine Bj (some 8) rfl rfl Tryz.func34 (by kernel_rfl) rfl #[.slice A0 l0.length c0] rfl Ya_ ?_; (with_reducible refine (G5.calls _ _ l0 true _ ?side1 ?side2 A2.out).mono ?_); (case side1 => repeat (first | exact HR0.out | (with_reducible refine Kd.F5 ?_ _) | (with_reducible refine Kd.F6 ?_ _) | (with_reducible refine Kd.Gj ?_))); (case side2 => exact HC0.out); rintro e w4 ⟨rfl, hb⟩; refine ⟨_, rfl, ?_⟩; have n0_ := Ac.mk (Ar Yb_ hb); clear HB; have HB := n0_; clear n0_; (try clear hb); (try clear hb2); (try clear hk); (try clear hi)) | ((with_reducible refine Dl (N := 10) rfl ?_); refine Kd.Hz Kd.string _ 9 ?hg (N := 10) ?hd (xs := ([] : List ByteArray)) (inner := []) (ok := fun _ => True) (okp := fun _ => True) ?hr ?hp (fun _ hk => hk) trivial (Below.refl _ _) (Nat.le_refl _) (by simp) ?_; (case hd => rfl); (case hg => rfl); (case hr => first | (go_simp; done) | (go_simp; rfl)); (case hp => exact (Ed.none _ _)); intro v461 w5 ho6 hb hg_ hnew_; clear hg_ hnew_; (first | rw [← Ny460.out] at ho6 | (simp only [Int.reduceToNat] at ho6; rw [← Ny460.out] at ho6)); have n0_ := Ac.mk (Kd.Gg ho6 (Ba Yb_)); have n1_ := Ac.mk (Ar Yb_ hb); clear HB; have HO462 := n0_; have HB := n1_; clear n0_ n1_; clear hb ho6))
  go_loopg [4, 13] k (fun kq v4 v13 w' => ∃ (x4_1 : List ByteArray) (x13_1 : Int), v13 = .int .i64 x13_1 ∧ Ac (Dq.l0 kq x4_1 l0 (l0.length : Int) x13_1 = some (r1, r2)) ∧ Ac (kq ≤ k) ∧ Ac (Kd.R Kd.string 9 w' w.heap.size (fun _ => True) v4 x4_1) ∧ Ac (Below w.heap.size w w'))
  case atStart => exact ⟨(y460), (0), Yf_, H', ⟨Nat.le_refl _⟩, ⟨by (with_reducible repeat (first | apply Kd.Cb | apply Kd.Bz | apply Kd.Cm)); exact HO462.out⟩, ⟨by repeat (first | (with_reducible first | exact HB.out | apply Ae | apply Aa | apply Ad) | exact HB.out)⟩⟩
  case round =>
   clear H'
   try clear c1; try clear p2; try clear c3
   obtain ⟨x4_1, x13_1, rfl, HA, HK1, HO_4, HB⟩ := hrel
   cases gk with
   | zero => exact absurd HA.out (by simp [Dq.l0])
   | succ k1 =>
    have H := HA.out
    clear HA
    simp only [Dq.l0] at H
    by_cases c7 : x13_1 < (l0.length : Int)
    ·rw [if_pos c7] at H
     have c7b0 : decide (x13_1 < (l0.length : Int)) = true := decide_eq_true c7
     clear c7
     by_cases c8 : 0 ≤ x13_1
     ·rw [if_pos c8] at H
      have c8b0 : decide (0 ≤ x13_1) = true := decide_eq_true c8
      clear c8
      by_cases c9 : x13_1 < (l0.length : Int)
      ·rw [if_pos c9] at H
       have c9b0 : decide (x13_1 < (l0.length : Int)) = true := decide_eq_true c9
       clear c9
       replace H := Option.bind_eq_some_iff.mp H
       obtain ⟨t465, A100, H⟩ := H
       try dsimp only at H
       have A10 := Ac.mk A100
       clear A100
       by_cases c11 : x4_1.length < 8796093022208
       ·rw [if_pos c11] at H
        have LMc11 := Ac.mk c11
        clear c11
        obtain ⟨y466, hy466⟩ : ∃ y_ : List ByteArray, y_ = (x4_1 ++ [t465]) := ⟨_, rfl⟩
        replace H : (Dq.l0 k1 y466 l0 (l0.length : Int) (wrap64 (x13_1 + 1))) = some (r1, r2) := by first | (rw [hy466]; with_reducible exact H) | (have H2_ := (Option.bind_some _ _).symm.trans H; rw [hy466]; with_reducible exact H2_) | (have H2_ := (Option.bind_some _ _).symm.trans H; with_reducible exact H2_) | with_reducible exact H | (rw [hy466]; exact H) | exact H
        have Ny466 := Ac.mk hy466
        clear hy466
        have H' := Ac.mk H
        clear H
        have p463 : 0 ≤ (x13_1 : Int) := of_decide_eq_true Ye_
        have q463 : x13_1 < (l0.length : Int) := of_decide_eq_true Ye_
        obtain ⟨ad463, e463, hx463_0, hx463_1, hx463_2, hx463_3⟩ := G9 HR0.out x13_1 p463 q463
        cases e463
        replace hx463_0 := (HB.out.cell (World.block_lt_of_cell? w _ hx463_0)).trans hx463_0
        replace hx463_1 := (HB.out.cell (World.block_lt_of_cell? w _ hx463_1)).trans hx463_1
        replace hx463_2 := (HB.out.cell (World.block_lt_of_cell? w _ hx463_2)).trans hx463_2
        replace hx463_3 := (HB.out.cell (World.block_lt_of_cell? w _ hx463_3)).trans hx463_3
        replace p463 := eq_true p463
        replace q463 := eq_true q463
        go_wp2_with (first | ((with_reducible refine Dl (N := 6) rfl ?_); refine Dz ?hg (N := 6) ?hd (cs := #[.int .i64 0, .string (⟨#[]⟩ : ByteArray), .int .i64 0, .int .i64 0]) (t := 25) ?hr ?_; (case hd => rfl); (case hg => rfl); (case hr => first | (go_simp; done) | (go_simp; rfl)); intro gb0 hg w12 hbox hb; have n0_ := Ac.mk (Kd.Fe Yba_ hb); have n1_ := Ac.mk (Ar Yb_ hb); have n2_ := Ac.mk (hbox); have n3_ := Ac.mk ((by rw [hg]; exact (Ba Yb_) : w.heap.size ≤ gb0)); have n4_ := Ac.mk ((by rw [hg]; exact (Ba Yb_) : w.heap.size ≤ gb0)); clear HO_4; clear HB; have HO_4 := n0_; have HB := n1_; have BK0 := n2_; have GW0 := n3_; have GE0 := n4_; clear n0_ n1_ n2_ n3_ n4_; clear hb hbox hg; have hcz13_0 : w12.cell? ⟨gb0, 0, none⟩ = some (.int .i64 0) := (Ak BK0.out 0).trans rfl; have hcz13_1 : w12.cell? ⟨gb0, 1, none⟩ = some (.string (⟨#[]⟩ : ByteArray)) := (Ak BK0.out 1).trans rfl; have hcz13_2 : w12.cell? ⟨gb0, 2, none⟩ = some (.int .i64 0) := (Ak BK0.out 2).trans rfl; have hcz13_3 : w12.cell? ⟨gb0, 3, none⟩ = some (.int .i64 0) := (Ak BK0.out 3).trans rfl; have hfz13_0 := Ai BK0.out 0; have hfz13_1 := Ai BK0.out 1; have hfz13_2 := Ai BK0.out 2; have hfz13_3 := Ai BK0.out 3) | ((with_reducible refine Ap (f := 20) rfl ?_); refine Bj (some 19) rfl rfl Tryz.func20 (by kernel_rfl) rfl #[.agg #[.int .i64 ((Az l0 x13_1).f0), .string ((Az l0 x13_1).f1), .int .i64 ((Az l0 x13_1).f2), .int .i64 ((Az l0 x13_1).f3)]] rfl Ya_ ?_; (with_reducible refine (Dp.calls k1 ((Az l0 x13_1).f0) ((Az l0 x13_1).f1) ((Az l0 x13_1).f2) ((Az l0 x13_1).f3) t465 _ ?side1 A10.out).mono ?_); (case side1 => exact Fp.below HGL.out Yc_); rintro e w14 ⟨rfl, hb⟩; refine ⟨_, rfl, ?_⟩; have n0_ := Ac.mk (Kd.Fe (by (with_reducible repeat (first | apply Kd.Cb | apply Kd.Bz | apply Kd.Cm)); exact (Kd.R_mono (Kd.F9 (p := ⟨gb0, 3, none⟩) (Kd.F9 (p := ⟨gb0, 2, none⟩) (Kd.F9 (p := ⟨gb0, 1, none⟩) (Kd.F9 (p := ⟨gb0, 0, none⟩) (Kd.R_types HO_4.out BK0.out (by decide)) (fun _ hk => hk.2) (.int .i64 ((Az l0 x13_1).f0))) (fun _ hk => hk.2) (.string ((Az l0 x13_1).f1))) (fun _ hk => hk.2) (.int .i64 ((Az l0 x13_1).f2))) (fun _ hk => hk.2) (.int .i64 ((Az l0 x13_1).f3))) (fun _ h_ => h_.1))) hb); have n1_ := Ac.mk (Bi (g := gb0) (o := .cells #[.int .i64 ((Az l0 x13_1).f0), .string ((Az l0 x13_1).f1), .int .i64 ((Az l0 x13_1).f2), .int .i64 ((Az l0 x13_1).f3)] 25 (0, 0)) (by (with_reducible repeat (first | refine Ag ?_ _ | refine Ah ?_ | refine Af ?_ _)); refine Be (cs := #[.int .i64 ((Az l0 x13_1).f0), .string ((Az l0 x13_1).f1), .int .i64 ((Az l0 x13_1).f2), .int .i64 0]) ?_ 3 _ rfl; (with_reducible repeat (first | refine Ag ?_ _ | refine Ah ?_ | refine Af ?_ _)); refine Be (cs := #[.int .i64 ((Az l0 x13_1).f0), .string ((Az l0 x13_1).f1), .int .i64 0, .int .i64 0]) ?_ 2 _ rfl; (with_reducible repeat (first | refine Ag ?_ _ | refine Ah ?_ | refine Af ?_ _)); refine Be (cs := #[.int .i64 ((Az l0 x13_1).f0), .string (⟨#[]⟩ : ByteArray), .int .i64 0, .int .i64 0]) ?_ 1 _ rfl; (with_reducible repeat (first | refine Ag ?_ _ | refine Ah ?_ | refine Af ?_ _)); refine Be (cs := #[.int .i64 0, .string (⟨#[]⟩ : ByteArray), .int .i64 0, .int .i64 0]) ?_ 0 _ rfl; (with_reducible repeat (first | refine Ag ?_ _ | refine Ah ?_ | refine Af ?_ _)); exact BK0.out) hb); have n2_ := Ac.mk (Ar Yc_ hb); clear HO_4; clear BK0; clear HB; have HO_4 := n0_; have BK0 := n1_; have HB := n2_; clear n0_ n1_ n2_; (try clear hb); (try clear hb2); (try clear hk); (try clear hi)) | ((with_reducible refine Gz (b := .append) (xs := #[.tmp 17, .tmp 20]) rfl ?_); at_builtin; refine Kd.Ia Kd.string (w0 := w) w.heap.size rfl (.tmp 17) (.tmp 20) 57 9 (.string ⟨#[]⟩) 16 rfl Tryz.underlying57 info9 rfl (by decide) (by omega) u4 x4_1 t465 [.string t465] (fun _ => True) (fun _ => False) rfl rfl ?aP (fun _ hk => hk.elim) ?aF ?aO ?aB ?aS ?aL ?_; (case aP => exact rfl); (case aB => exact Yc_); (case aF => exact (fun _ _ => trivial)); (case aO => exact Yba_); (case aS => exact (Ba Yc_)); (case aL => have := LMc11.out; omega); intro v467 w15 ho hb hg hat; rw [← Ny466.out] at ho; have n0_ := Ac.mk (Ib (g := gb0) (o := .cells #[.int .i64 ((Az l0 x13_1).f0), .string ((Az l0 x13_1).f1), .int .i64 ((Az l0 x13_1).f2), .int .i64 ((Az l0 x13_1).f3)] 25 (0, 0)) Yd_ hg (Kd.R_ne HO_4.out BK0.out (by decide))); have n1_ := Ac.mk (hb); have n2_ := Ac.mk (ho); clear BK0; clear HB; clear HO_4; have BK0 := n0_; have HB := n1_; have HO468 := n2_; clear n0_ n1_ n2_; clear ho hb hg hat))
        go_roundg k1
        case measure => have := HK1.out; omega
        case rel => exact ⟨(y466), (wrap64 (x13_1 + 1)), Yf_, H', ⟨by have := HK1.out; omega⟩, ⟨by (with_reducible repeat (first | apply Kd.Cb | apply Kd.Bz | apply Kd.Cm)); exact HO468.out⟩, ⟨by repeat (first | (with_reducible first | exact HB.out | apply Ae | apply Aa | apply Ad | refine Am ?_ GE0.out) | exact HB.out)⟩⟩
       ·rw [if_neg c11] at H
        exact absurd H (by simp)
      ·rw [if_neg c9] at H
       exact absurd H (by simp)
     ·rw [if_neg c8] at H
      exact absurd H (by simp)
    ·rw [if_neg c7] at H
     have c7b0 : decide (x13_1 < (l0.length : Int)) = false := decide_eq_false c7
     clear c7
     replace H := Option.bind_eq_some_iff.mp H
     obtain ⟨t469, A160, H⟩ := H
     try dsimp only at H
     have A16 := Ac.mk A160
     clear A160
     simp only [Option.some.injEq, Prod.mk.injEq] at H
     obtain ⟨rfl, rfl⟩ := H
     obtain ⟨Ao17, co17, eo17⟩ := Kd.Gh HO_4.out
     subst eo17
     go_wp2_with (first | ((with_reducible refine Ap (f := 35) rfl ?_); refine Bj (some 24) rfl rfl Tryz.func35 (by kernel_rfl) rfl #[.slice Ao17 x4_1.length co17, .string (⟨#[32]⟩ : ByteArray)] rfl Ya_ ?_; (with_reducible refine (strings_Join.calls _ _ x4_1 (⟨#[32]⟩ : ByteArray) t469 _ ?side1 ?side2 A16.out).mono ?_); (case side1 => repeat (first | exact (Kd.Ec HO_4.out).2.2 | (with_reducible refine Kd.F5 ?_ _) | (with_reducible refine Kd.F6 ?_ _) | (with_reducible refine Kd.Gj ?_))); (case side2 => exact (Kd.Ec HO_4.out).2.1); rintro e w18 ⟨rfl, hb⟩; refine ⟨_, rfl, ?_⟩; have n0_ := Ac.mk (Kd.Fe Yba_ hb); have n1_ := Ac.mk (Ar Yb_ hb); clear HO_4; clear HB; have HO_4 := n0_; have HB := n1_; clear n0_ n1_; (try clear hb); (try clear hb2); (try clear hk); (try clear hi)))
     go_ret2
     exact ⟨by first | rfl | (simp [Au, Aw] <;> rfl) | (simp [*, Au, Aw] <;> rfl), by repeat (first | (with_reducible first | exact HB.out | apply Ae | apply Aa | apply Ad) | exact HB.out)⟩
 ·replace c3 := Bool.eq_false_iff.mpr c3
  subst c3
  have H1 : (some ((⟨#[]⟩ : ByteArray), false)) = some (r1, r2) := by rw [if_neg (show ¬ (false = true) by decide)] at H; exact H
  clear H
  have H := H1
  clear H1
  simp only [Option.some.injEq, Prod.mk.injEq] at H
  obtain ⟨rfl, rfl⟩ := H
  go_enter Tryz.func13, Tryz.ntmps13
  go_wp2_with (first | ((with_reducible refine Ap (f := 34) rfl ?_); refine Bj (some 8) rfl rfl Tryz.func34 (by kernel_rfl) rfl #[.slice A0 l0.length c0] rfl Ya_ ?_; (with_reducible refine (G5.calls _ _ l0 false _ ?side1 ?side2 A2.out).mono ?_); (case side1 => repeat (first | exact HR0.out | (with_reducible refine Kd.F5 ?_ _) | (with_reducible refine Kd.F6 ?_ _) | (with_reducible refine Kd.Gj ?_))); (case side2 => exact HC0.out); rintro e w19 ⟨rfl, hb⟩; refine ⟨_, rfl, ?_⟩; have n0_ := Ac.mk (Ar Yb_ hb); clear HB; have HB := n0_; clear n0_; (try clear hb); (try clear hb2); (try clear hk); (try clear hi)))
  go_ret2
  exact ⟨by first | rfl | (simp [Au, Aw] <;> rfl) | (simp [*, Au, Aw] <;> rfl), by repeat (first | (with_reducible first | exact HB.out | apply Ae | apply Aa | apply Ad) | exact HB.out)⟩
def Ef.l0 : Nat → List (S25) → Int → Option (Bool)
 | 0, _, _ => none
 | k + 1, x0, x3 => if x3 < (x0.length : Int) then (if 0 ≤ x3 then ((E8.f k ((Az x0 x3).f0) ((Az x0 x3).f1) ((Az x0 x3).f2) ((Az x0 x3).f3)).bind fun t471 => (if t471 = true then (Ef.l0 k x0 (wrap64 (x3 + 1))) else (some false))) else (none)) else (some (decide ((x0.length : Int) ≤ 10)))
def Ef.f (k : Nat) (l0 : List (S25)) : Option (Bool) := Ef.l0 k l0 0
theorem Ef.Fa : ∀ k, (∀ y0 y1, LeO (Ef.l0 k y0 y1) (Ef.l0 (k + 1) y0 y1))
 | 0 => fun _ _ r h => by simp [Ef.l0] at h
 | k + 1 => by
  have ih0 := Ef.Fa k
  ·intro y0 y1
   unfold Ef.l0
   repeat' first
   | (with_reducible exact ih0 _ _)
   | (with_reducible exact E8.mono _ _ _ _ _)
   | (with_reducible exact LeO.refl _)
   | (with_reducible exact LeO.none _)
   | (with_reducible refine LeO.ite ?_ ?_)
   | (with_reducible refine LeO.bind ?_ (fun _ => ?_))
   | exact ih0 _ _
   | exact E8.mono _ _ _ _ _
   | exact LeO.none _
   | refine LeO.ite ?_ ?_
   | refine LeO.bind ?_ (fun _ => ?_)
theorem Ef.mono : ∀ a0 k, LeO (Ef.f k a0) (Ef.f (k + 1) a0) := by
 intro a0 k
 have ih0 := Ef.Fa k
 unfold Ef.f
 repeat' first
   | (with_reducible exact ih0 _ _)
   | (with_reducible exact E8.mono _ _ _ _ _)
   | (with_reducible exact LeO.refl _)
   | (with_reducible exact LeO.none _)
   | (with_reducible refine LeO.ite ?_ ?_)
   | (with_reducible refine LeO.bind ?_ (fun _ => ?_))
   | exact ih0 _ _
   | exact E8.mono _ _ _ _ _
   | exact LeO.none _
   | refine LeO.ite ?_ ?_
   | refine LeO.bind ?_ (fun _ => ?_)
set_option maxHeartbeats 8000000 in
set_option maxRecDepth 100000 in
theorem Ef.calls (k : Nat) (A0 : Option Addr) (c0 : Nat) (l0 : List (S25)) (r : Bool) (w : World) (hr0 : Kd.C k25 w A0 l0.length l0) (hc0 : l0.length ≤ c0) (h : Ef.f k l0 = some r) :
  Calls Tryz.prog 36 #[.slice A0 l0.length c0] w fun e w' => e = .returned (.bool r) ∧ Below w.heap.size w w' := by
 have hu25 := Tryz.underlying25
 have HR0 := Ac.mk hr0
 have HC0 := Ac.mk hc0
 clear hr0 hc0
 have HB := Ac.mk (Below.refl w.heap.size w)
 have H : (Ef.l0 k l0 0) = some r := h
 clear h
 have H' := Ac.mk H
 clear H
 go_enter Tryz.func36, Tryz.ntmps36
 go_wp2
 go_loopg [3] k (fun kq v3 w' => ∃ (x3_1 : Int), v3 = .int .i64 x3_1 ∧ Ac (Ef.l0 kq l0 x3_1 = some r) ∧ Ac (kq ≤ k) ∧ Ac (Below w.heap.size w w'))
 case atStart => exact ⟨(0), Yf_, H', ⟨Nat.le_refl _⟩, ⟨by repeat (first | (with_reducible first | exact HB.out | apply Ae | apply Aa | apply Ad) | exact HB.out)⟩⟩
 case round =>
  clear H'
  obtain ⟨x3_1, rfl, HA, HK1, HB⟩ := hrel
  cases gk with
  | zero => exact absurd HA.out (by simp [Ef.l0])
  | succ k1 =>
   have H := HA.out
   clear HA
   simp only [Ef.l0] at H
   by_cases c2 : x3_1 < (l0.length : Int)
   ·rw [if_pos c2] at H
    have c2b0 : decide (x3_1 < (l0.length : Int)) = true := decide_eq_true c2
    clear c2
    by_cases c3 : 0 ≤ x3_1
    ·rw [if_pos c3] at H
     have c3b0 : decide (0 ≤ x3_1) = true := decide_eq_true c3
     clear c3
     replace H := Option.bind_eq_some_iff.mp H
     obtain ⟨t471, A40, H⟩ := H
     try dsimp only at H
     have A4 := Ac.mk A40
     clear A40
     by_cases c5 : t471 = true
     ·subst c5
      have H1 : (Ef.l0 k1 l0 (wrap64 (x3_1 + 1))) = some r := by rw [if_pos rfl] at H; exact H
      clear H
      have H := H1
      clear H1
      have H' := Ac.mk H
      clear H
      have p470 : 0 ≤ (x3_1 : Int) := of_decide_eq_true Ye_
      have q470 : x3_1 < (l0.length : Int) := of_decide_eq_true Ye_
      obtain ⟨ad470, e470, hx470_0, hx470_1, hx470_2, hx470_3⟩ := G9 HR0.out x3_1 p470 q470
      cases e470
      replace hx470_0 := (HB.out.cell (World.block_lt_of_cell? w _ hx470_0)).trans hx470_0
      replace hx470_1 := (HB.out.cell (World.block_lt_of_cell? w _ hx470_1)).trans hx470_1
      replace hx470_2 := (HB.out.cell (World.block_lt_of_cell? w _ hx470_2)).trans hx470_2
      replace hx470_3 := (HB.out.cell (World.block_lt_of_cell? w _ hx470_3)).trans hx470_3
      replace p470 := eq_true p470
      replace q470 := eq_true q470
      go_wp2_with (first | ((with_reducible refine Ap (f := 21) rfl ?_); refine Bj (some 14) rfl rfl Tryz.func21 (by kernel_rfl) rfl #[.agg #[.int .i64 ((Az l0 x3_1).f0), .string ((Az l0 x3_1).f1), .int .i64 ((Az l0 x3_1).f2), .int .i64 ((Az l0 x3_1).f3)]] rfl Ya_ ?_; (with_reducible refine (E8.calls k1 ((Az l0 x3_1).f0) ((Az l0 x3_1).f1) ((Az l0 x3_1).f2) ((Az l0 x3_1).f3) true _ A4.out).mono ?_); rintro e w6 ⟨rfl, hb⟩; refine ⟨_, rfl, ?_⟩; have n0_ := Ac.mk (Ar Yb_ hb); clear HB; have HB := n0_; clear n0_; (try clear hb); (try clear hb2); (try clear hk); (try clear hi)))
      go_roundg k1
      case measure => have := HK1.out; omega
      case rel => exact ⟨(wrap64 (x3_1 + 1)), Yf_, H', ⟨by have := HK1.out; omega⟩, ⟨by repeat (first | (with_reducible first | exact HB.out | apply Ae | apply Aa | apply Ad) | exact HB.out)⟩⟩
     ·replace c5 := Bool.eq_false_iff.mpr c5
      subst c5
      have H1 : (some false) = some r := by rw [if_neg (show ¬ (false = true) by decide)] at H; exact H
      clear H
      have H := H1
      clear H1
      obtain rfl := Option.some.inj H
      have p470 : 0 ≤ (x3_1 : Int) := of_decide_eq_true Ye_
      have q470 : x3_1 < (l0.length : Int) := of_decide_eq_true Ye_
      obtain ⟨ad470, e470, hx470_0, hx470_1, hx470_2, hx470_3⟩ := G9 HR0.out x3_1 p470 q470
      cases e470
      replace hx470_0 := (HB.out.cell (World.block_lt_of_cell? w _ hx470_0)).trans hx470_0
      replace hx470_1 := (HB.out.cell (World.block_lt_of_cell? w _ hx470_1)).trans hx470_1
      replace hx470_2 := (HB.out.cell (World.block_lt_of_cell? w _ hx470_2)).trans hx470_2
      replace hx470_3 := (HB.out.cell (World.block_lt_of_cell? w _ hx470_3)).trans hx470_3
      replace p470 := eq_true p470
      replace q470 := eq_true q470
      go_wp2_with (first | ((with_reducible refine Ap (f := 21) rfl ?_); refine Bj (some 14) rfl rfl Tryz.func21 (by kernel_rfl) rfl #[.agg #[.int .i64 ((Az l0 x3_1).f0), .string ((Az l0 x3_1).f1), .int .i64 ((Az l0 x3_1).f2), .int .i64 ((Az l0 x3_1).f3)]] rfl Ya_ ?_; (with_reducible refine (E8.calls k1 ((Az l0 x3_1).f0) ((Az l0 x3_1).f1) ((Az l0 x3_1).f2) ((Az l0 x3_1).f3) false _ A4.out).mono ?_); rintro e w7 ⟨rfl, hb⟩; refine ⟨_, rfl, ?_⟩; have n0_ := Ac.mk (Ar Yb_ hb); clear HB; have HB := n0_; clear n0_; (try clear hb); (try clear hb2); (try clear hk); (try clear hi)))
      go_ret
      exact ⟨by first | rfl | (simp [Au, Aw] <;> rfl) | (simp [*, Au, Aw] <;> rfl), by repeat (first | (with_reducible first | exact HB.out | apply Ae | apply Aa | apply Ad) | exact HB.out)⟩
    ·rw [if_neg c3] at H
     exact absurd H (by simp)
   ·rw [if_neg c2] at H
    have c2b0 : decide (x3_1 < (l0.length : Int)) = false := decide_eq_false c2
    clear c2
    obtain rfl := Option.some.inj H
    go_wp2
    go_ret
    exact ⟨by first | rfl | (simp [Au, Aw] <;> rfl) | (simp [*, Au, Aw] <;> rfl), by repeat (first | (with_reducible first | exact HB.out | apply Ae | apply Aa | apply Ad) | exact HB.out)⟩
def Cf.l0 : Nat → List (S25) → ByteArray → Int → Option (ByteArray × Bool)
 | 0, _, _, _ => none
 | k + 1, x0, x4, x5 => if x5 < (x0.length : Int) then (if x5 > 0 then (if x4.size + 1 ≤ 9223372036854775807 then (if 0 ≤ x5 then ((Dt.f k ((Az x0 x5).f0) ((Az x0 x5).f1) ((Az x0 x5).f2) ((Az x0 x5).f3)).bind fun t474 => (if (x4 ++ (⟨#[32]⟩ : ByteArray)).size + t474.size ≤ 9223372036854775807 then (Cf.l0 k x0 ((x4 ++ (⟨#[32]⟩ : ByteArray)) ++ t474) (wrap64 (x5 + 1))) else (none))) else (none)) else (none)) else (if 0 ≤ x5 then ((Dt.f k ((Az x0 x5).f0) ((Az x0 x5).f1) ((Az x0 x5).f2) ((Az x0 x5).f3)).bind fun t476 => (if x4.size + t476.size ≤ 9223372036854775807 then (Cf.l0 k x0 (x4 ++ t476) (wrap64 (x5 + 1))) else (none))) else (none))) else (some (x4, true))
def Cf.f (k : Nat) (l0 : List (S25)) : Option (ByteArray × Bool) := (Ef.f k l0).bind fun t472 => (if t472 = true then (Cf.l0 k l0 (⟨#[]⟩ : ByteArray) 0) else (some ((⟨#[]⟩ : ByteArray), false)))
theorem Cf.Fa : ∀ k, (∀ y0 y1 y2, LeO (Cf.l0 k y0 y1 y2) (Cf.l0 (k + 1) y0 y1 y2))
 | 0 => fun _ _ _ r h => by simp [Cf.l0] at h
 | k + 1 => by
  have ih0 := Cf.Fa k
  ·intro y0 y1 y2
   unfold Cf.l0
   repeat' first
   | (with_reducible exact ih0 _ _ _)
   | (with_reducible exact Ef.mono _ _)
   | (with_reducible exact Dt.mono _ _ _ _ _)
   | (with_reducible exact LeO.refl _)
   | (with_reducible exact LeO.none _)
   | (with_reducible refine LeO.ite ?_ ?_)
   | (with_reducible refine LeO.bind ?_ (fun _ => ?_))
   | exact ih0 _ _ _
   | exact Ef.mono _ _
   | exact Dt.mono _ _ _ _ _
   | exact LeO.none _
   | refine LeO.ite ?_ ?_
   | refine LeO.bind ?_ (fun _ => ?_)
theorem Cf.mono : ∀ a0 k, LeO (Cf.f k a0) (Cf.f (k + 1) a0) := by
 intro a0 k
 have ih0 := Cf.Fa k
 unfold Cf.f
 repeat' first
   | (with_reducible exact ih0 _ _ _)
   | (with_reducible exact Ef.mono _ _)
   | (with_reducible exact Dt.mono _ _ _ _ _)
   | (with_reducible exact LeO.refl _)
   | (with_reducible exact LeO.none _)
   | (with_reducible refine LeO.ite ?_ ?_)
   | (with_reducible refine LeO.bind ?_ (fun _ => ?_))
   | exact ih0 _ _ _
   | exact Ef.mono _ _
   | exact Dt.mono _ _ _ _ _
   | exact LeO.none _
   | refine LeO.ite ?_ ?_
   | refine LeO.bind ?_ (fun _ => ?_)
set_option maxHeartbeats 8000000 in
set_option maxRecDepth 100000 in
theorem Cf.calls (k : Nat) (A0 : Option Addr) (c0 : Nat) (l0 : List (S25)) (r1 : ByteArray) (r2 : Bool) (w : World) (hr0 : Kd.C k25 w A0 l0.length l0) (hc0 : l0.length ≤ c0) (h : Cf.f k l0 = some (r1, r2)) :
  Calls Tryz.prog 14 #[.slice A0 l0.length c0] w fun e w' => e = .returned (.tuple #[.string r1, .bool r2]) ∧ Below w.heap.size w w' := by
 have hu25 := Tryz.underlying25
 have HR0 := Ac.mk hr0
 have HC0 := Ac.mk hc0
 clear hr0 hc0
 have HB := Ac.mk (Below.refl w.heap.size w)
 have H : ((Ef.f k l0).bind fun t472 => (if t472 = true then (Cf.l0 k l0 (⟨#[]⟩ : ByteArray) 0) else (some ((⟨#[]⟩ : ByteArray), false)))) = some (r1, r2) := h
 clear h
 replace H := Option.bind_eq_some_iff.mp H
 obtain ⟨t472, A20, H⟩ := H
 try dsimp only at H
 have A2 := Ac.mk A20
 clear A20
 by_cases c3 : t472 = true
 ·subst c3
  have H1 : (Cf.l0 k l0 (⟨#[]⟩ : ByteArray) 0) = some (r1, r2) := by rw [if_pos rfl] at H; exact H
  clear H
  have H := H1
  clear H1
  have H' := Ac.mk H
  clear H
  go_enter Tryz.func14, Tryz.ntmps14
  go_wp2_with (first | ((with_reducible refine Ap (f := 36) rfl ?_); refine Bj (some 7) rfl rfl Tryz.func36 (by kernel_rfl) rfl #[.slice A0 l0.length c0] rfl Ya_ ?_; (with_reducible refine (Ef.calls k _ _ l0 true _ ?side1 ?side2 A2.out).mono ?_); (case side1 => repeat (first | exact HR0.out | (with_reducible refine Kd.F5 ?_ _) | (with_reducible refine Kd.F6 ?_ _) | (with_reducible refine Kd.Gj ?_))); (case side2 => exact HC0.out); rintro e w4 ⟨rfl, hb⟩; refine ⟨_, rfl, ?_⟩; have n0_ := Ac.mk (Ar Yb_ hb); clear HB; have HB := n0_; clear n0_; (try clear hb); (try clear hb2); (try clear hk); (try clear hi)))
  go_loopg [4, 5] k (fun kq v4 v5 w' => ∃ (x4_1 : ByteArray) (x5_1 : Int), v4 = .string x4_1 ∧ v5 = .int .i64 x5_1 ∧ Ac (Cf.l0 kq l0 x4_1 x5_1 = some (r1, r2)) ∧ Ac (kq ≤ k) ∧ Ac (Below w.heap.size w w'))
  case atStart => exact ⟨((⟨#[]⟩ : ByteArray)), (0), Yf_, Yf_, H', ⟨Nat.le_refl _⟩, ⟨by repeat (first | (with_reducible first | exact HB.out | apply Ae | apply Aa | apply Ad) | exact HB.out)⟩⟩
  case round =>
   clear H'
   try clear c1; try clear p2; try clear c3
   obtain ⟨x4_1, x5_1, rfl, rfl, HA, HK1, HB⟩ := hrel
   cases gk with
   | zero => exact absurd HA.out (by simp [Cf.l0])
   | succ k1 =>
    have H := HA.out
    clear HA
    simp only [Cf.l0] at H
    by_cases c5 : x5_1 < (l0.length : Int)
    ·rw [if_pos c5] at H
     have c5b0 : decide (x5_1 < (l0.length : Int)) = true := decide_eq_true c5
     clear c5
     by_cases c6 : x5_1 > 0
     ·rw [if_pos c6] at H
      have c6b0 : decide (0 < x5_1) = true := decide_eq_true c6
      clear c6
      by_cases c7 : x4_1.size + 1 ≤ 9223372036854775807
      ·rw [if_pos c7] at H
       have c7b0 := eq_true c7
       have c7b1 : decide (x4_1.size + 1 ≤ 9223372036854775807) = true := decide_eq_true c7
       try have c7b2 : (9223372036854775807 < x4_1.size + 1) = False := eq_false (Nat.not_lt.2 c7)
       by_cases c8 : 0 ≤ x5_1
       ·rw [if_pos c8] at H
        have c8b0 : decide (0 ≤ x5_1) = true := decide_eq_true c8
        clear c8
        replace H := Option.bind_eq_some_iff.mp H
        obtain ⟨t474, A90, H⟩ := H
        try dsimp only at H
        have A9 := Ac.mk A90
        clear A90
        by_cases c10 : (x4_1 ++ (⟨#[32]⟩ : ByteArray)).size + t474.size ≤ 9223372036854775807
        ·rw [if_pos c10] at H
         have c10b0 := eq_true c10
         have c10b1 : decide ((x4_1 ++ (⟨#[32]⟩ : ByteArray)).size + t474.size ≤ 9223372036854775807) = true := decide_eq_true c10
         try have c10b2 : (9223372036854775807 < (x4_1 ++ (⟨#[32]⟩ : ByteArray)).size + t474.size) = False := eq_false (Nat.not_lt.2 c10)
         have c10z0 : (⟨#[32]⟩ : ByteArray).size = 1 := rfl
         have c10b3 := c10
         try simp only [ByteArray.size_extract, ByteArray.size_append, c10z0] at c10b3
         have c10b4 := eq_false (Nat.not_lt.2 c10b3)
         have H' := Ac.mk H
         clear H
         have p473 : 0 ≤ (x5_1 : Int) := of_decide_eq_true Ye_
         have q473 : x5_1 < (l0.length : Int) := of_decide_eq_true Ye_
         obtain ⟨ad473, e473, hx473_0, hx473_1, hx473_2, hx473_3⟩ := G9 HR0.out x5_1 p473 q473
         cases e473
         replace hx473_0 := (HB.out.cell (World.block_lt_of_cell? w _ hx473_0)).trans hx473_0
         replace hx473_1 := (HB.out.cell (World.block_lt_of_cell? w _ hx473_1)).trans hx473_1
         replace hx473_2 := (HB.out.cell (World.block_lt_of_cell? w _ hx473_2)).trans hx473_2
         replace hx473_3 := (HB.out.cell (World.block_lt_of_cell? w _ hx473_3)).trans hx473_3
         replace p473 := eq_true p473
         replace q473 := eq_true q473
         go_wp2_with (first | ((with_reducible refine Ap (f := 22) rfl ?_); refine Bj (some 24) rfl rfl Tryz.func22 (by kernel_rfl) rfl #[.agg #[.int .i64 ((Az l0 x5_1).f0), .string ((Az l0 x5_1).f1), .int .i64 ((Az l0 x5_1).f2), .int .i64 ((Az l0 x5_1).f3)]] rfl Ya_ ?_; (with_reducible refine (Dt.calls k1 ((Az l0 x5_1).f0) ((Az l0 x5_1).f1) ((Az l0 x5_1).f2) ((Az l0 x5_1).f3) t474 _ A9.out).mono ?_); rintro e w11 ⟨rfl, hb⟩; refine ⟨_, rfl, ?_⟩; have n0_ := Ac.mk (Ar Yb_ hb); clear HB; have HB := n0_; clear n0_; (try clear hb); (try clear hb2); (try clear hk); (try clear hi)))
         go_roundg k1
         case measure => have := HK1.out; omega
         case rel => exact ⟨((x4_1 ++ (⟨#[32]⟩ : ByteArray)) ++ t474), (wrap64 (x5_1 + 1)), Yf_, Yf_, H', ⟨by have := HK1.out; omega⟩, ⟨by repeat (first | (with_reducible first | exact HB.out | apply Ae | apply Aa | apply Ad) | exact HB.out)⟩⟩
        ·rw [if_neg c10] at H
         exact absurd H (by simp)
       ·rw [if_neg c8] at H
        exact absurd H (by simp)
      ·rw [if_neg c7] at H
       exact absurd H (by simp)
     ·rw [if_neg c6] at H
      have c6b0 : decide (0 < x5_1) = false := decide_eq_false c6
      clear c6
      by_cases c12 : 0 ≤ x5_1
      ·rw [if_pos c12] at H
       have c12b0 : decide (0 ≤ x5_1) = true := decide_eq_true c12
       clear c12
       replace H := Option.bind_eq_some_iff.mp H
       obtain ⟨t476, A130, H⟩ := H
       try dsimp only at H
       have A13 := Ac.mk A130
       clear A130
       by_cases c14 : x4_1.size + t476.size ≤ 9223372036854775807
       ·rw [if_pos c14] at H
        have c14b0 := eq_true c14
        have c14b1 : decide (x4_1.size + t476.size ≤ 9223372036854775807) = true := decide_eq_true c14
        try have c14b2 : (9223372036854775807 < x4_1.size + t476.size) = False := eq_false (Nat.not_lt.2 c14)
        have H' := Ac.mk H
        clear H
        have p475 : 0 ≤ (x5_1 : Int) := of_decide_eq_true Ye_
        have q475 : x5_1 < (l0.length : Int) := of_decide_eq_true Ye_
        obtain ⟨ad475, e475, hx475_0, hx475_1, hx475_2, hx475_3⟩ := G9 HR0.out x5_1 p475 q475
        cases e475
        replace hx475_0 := (HB.out.cell (World.block_lt_of_cell? w _ hx475_0)).trans hx475_0
        replace hx475_1 := (HB.out.cell (World.block_lt_of_cell? w _ hx475_1)).trans hx475_1
        replace hx475_2 := (HB.out.cell (World.block_lt_of_cell? w _ hx475_2)).trans hx475_2
        replace hx475_3 := (HB.out.cell (World.block_lt_of_cell? w _ hx475_3)).trans hx475_3
        replace p475 := eq_true p475
        replace q475 := eq_true q475
        go_wp2_with (first | ((with_reducible refine Ap (f := 22) rfl ?_); refine Bj (some 24) rfl rfl Tryz.func22 (by kernel_rfl) rfl #[.agg #[.int .i64 ((Az l0 x5_1).f0), .string ((Az l0 x5_1).f1), .int .i64 ((Az l0 x5_1).f2), .int .i64 ((Az l0 x5_1).f3)]] rfl Ya_ ?_; (with_reducible refine (Dt.calls k1 ((Az l0 x5_1).f0) ((Az l0 x5_1).f1) ((Az l0 x5_1).f2) ((Az l0 x5_1).f3) t476 _ A13.out).mono ?_); rintro e w15 ⟨rfl, hb⟩; refine ⟨_, rfl, ?_⟩; have n0_ := Ac.mk (Ar Yb_ hb); clear HB; have HB := n0_; clear n0_; (try clear hb); (try clear hb2); (try clear hk); (try clear hi)))
        go_roundg k1
        case measure => have := HK1.out; omega
        case rel => exact ⟨(x4_1 ++ t476), (wrap64 (x5_1 + 1)), Yf_, Yf_, H', ⟨by have := HK1.out; omega⟩, ⟨by repeat (first | (with_reducible first | exact HB.out | apply Ae | apply Aa | apply Ad) | exact HB.out)⟩⟩
       ·rw [if_neg c14] at H
        exact absurd H (by simp)
      ·rw [if_neg c12] at H
       exact absurd H (by simp)
    ·rw [if_neg c5] at H
     have c5b0 : decide (x5_1 < (l0.length : Int)) = false := decide_eq_false c5
     clear c5
     simp only [Option.some.injEq, Prod.mk.injEq] at H
     obtain ⟨rfl, rfl⟩ := H
     go_wp2
     go_ret2
     exact ⟨by first | rfl | (simp [Au, Aw] <;> rfl) | (simp [*, Au, Aw] <;> rfl), by repeat (first | (with_reducible first | exact HB.out | apply Ae | apply Aa | apply Ad) | exact HB.out)⟩
 ·replace c3 := Bool.eq_false_iff.mpr c3
  subst c3
  have H1 : (some ((⟨#[]⟩ : ByteArray), false)) = some (r1, r2) := by rw [if_neg (show ¬ (false = true) by decide)] at H; exact H
  clear H
  have H := H1
  clear H1
  simp only [Option.some.injEq, Prod.mk.injEq] at H
  obtain ⟨rfl, rfl⟩ := H
  go_enter Tryz.func14, Tryz.ntmps14
  go_wp2_with (first | ((with_reducible refine Ap (f := 36) rfl ?_); refine Bj (some 7) rfl rfl Tryz.func36 (by kernel_rfl) rfl #[.slice A0 l0.length c0] rfl Ya_ ?_; (with_reducible refine (Ef.calls k _ _ l0 false _ ?side1 ?side2 A2.out).mono ?_); (case side1 => repeat (first | exact HR0.out | (with_reducible refine Kd.F5 ?_ _) | (with_reducible refine Kd.F6 ?_ _) | (with_reducible refine Kd.Gj ?_))); (case side2 => exact HC0.out); rintro e w16 ⟨rfl, hb⟩; refine ⟨_, rfl, ?_⟩; have n0_ := Ac.mk (Ar Yb_ hb); clear HB; have HB := n0_; clear n0_; (try clear hb); (try clear hb2); (try clear hk); (try clear hi)))
  go_ret2
  exact ⟨by first | rfl | (simp [Au, Aw] <;> rfl) | (simp [*, Au, Aw] <;> rfl), by repeat (first | (with_reducible first | exact HB.out | apply Ae | apply Aa | apply Ad) | exact HB.out)⟩
/-- Of any text. -/
def stringslite_Index.f (a0 : ByteArray) (a1 : ByteArray) : Option Int := if a0.size < 4294967281 then some (Lib.index a0.data.toList a1.data.toList) else none
theorem stringslite_Index.calls (a0 : ByteArray) (a1 : ByteArray) (r : Int) (w : World) (hG : Fp w) (h : stringslite_Index.f a0 a1 = some r) :
  Calls Tryz.prog 70 #[.string a0, .string a1] w fun e w' => e = .returned (.int .i64 r) ∧ Below w.heap.size w w' := by
 unfold stringslite_Index.f at h
 split at h
 ·rename_i hc
  simp only [Option.some.injEq] at h
  subst h
  obtain ⟨m, hm⟩ := hG.max
  refine (Go.Proofs.Tryz.stringslite_Index a0 a1 m w hc hm).mono ?_
  rintro e w' ⟨rfl, rfl⟩
  exact ⟨rfl, Below.refl _ _⟩
 ·cases h
def stringslite_Cut.f (a0 : ByteArray) (a1 : ByteArray) : Option (ByteArray × ByteArray × Bool) := (stringslite_Index.f a0 a1).bind fun t479 => (if t479 ≥ 0 then (if 0 ≤ t479 then (if t479 ≤ (a0.size : Int) then (if 0 ≤ (wrap64 (t479 + (a1.size : Int))) then (if (wrap64 (t479 + (a1.size : Int))) ≤ (a0.size : Int) then (some (a0.extract 0 (t479 : Int).toNat, a0.extract ((wrap64 (t479 + (a1.size : Int))) : Int).toNat a0.size, true)) else (none)) else (none)) else (none)) else (none)) else (some (a0, (⟨#[]⟩ : ByteArray), false)))
set_option maxHeartbeats 8000000 in
set_option maxRecDepth 100000 in
theorem stringslite_Cut.calls (a0 : ByteArray) (a1 : ByteArray) (r1 : ByteArray) (r2 : ByteArray) (r3 : Bool) (w : World) (hG : Fp w) (h : stringslite_Cut.f a0 a1 = some (r1, r2, r3)) :
  Calls Tryz.prog 60 #[.string a0, .string a1] w fun e w' => e = .returned (.tuple #[.string r1, .string r2, .bool r3]) ∧ Below w.heap.size w w' := by
 have HGL := Ac.mk hG
 clear hG
 have HB := Ac.mk (Below.refl w.heap.size w)
 have H : ((stringslite_Index.f a0 a1).bind fun t479 => (if t479 ≥ 0 then (if 0 ≤ t479 then (if t479 ≤ (a0.size : Int) then (if 0 ≤ (wrap64 (t479 + (a1.size : Int))) then (if (wrap64 (t479 + (a1.size : Int))) ≤ (a0.size : Int) then (some (a0.extract 0 (t479 : Int).toNat, a0.extract ((wrap64 (t479 + (a1.size : Int))) : Int).toNat a0.size, true)) else (none)) else (none)) else (none)) else (none)) else (some (a0, (⟨#[]⟩ : ByteArray), false)))) = some (r1, r2, r3) := h
 clear h
 replace H := Option.bind_eq_some_iff.mp H
 obtain ⟨t479, A30, H⟩ := H
 try dsimp only at H
 have A3 := Ac.mk A30
 clear A30
 by_cases c4 : t479 ≥ 0
 ·rw [if_pos c4] at H
  have c4b0 : decide (0 ≤ t479) = true := decide_eq_true c4
  clear c4
  by_cases c5 : 0 ≤ t479
  ·rw [if_pos c5] at H
   have c5b0 := eq_true c5
   have c5b1 : decide (0 ≤ t479) = true := decide_eq_true c5
   clear c5
   by_cases c6 : t479 ≤ (a0.size : Int)
   ·rw [if_pos c6] at H
    have c6b0 := eq_true c6
    have c6b1 : decide (t479 ≤ (a0.size : Int)) = true := decide_eq_true c6
    clear c6
    obtain ⟨ji7, hji7⟩ : ∃ j_ : Int, (wrap64 (t479 + (a1.size : Int))) = j_ := ⟨_, rfl⟩
    replace H : (if 0 ≤ (ji7) then (if (ji7) ≤ (a0.size : Int) then (some (a0.extract 0 (t479 : Int).toNat, a0.extract ((ji7) : Int).toNat a0.size, true)) else (none)) else (none)) = some (r1, r2, r3) := by first | (rw [hji7] at H; exact H) | (simp only [hji7] at H ⊢; exact H)
    (try rw [hji7] at A3)
    have hji7w : (IntKind.i64.wrap (t479 + (a1.size : Int))) = ji7 := (Dw _).trans hji7
    by_cases c8 : 0 ≤ (ji7)
    ·rw [if_pos c8] at H
     have c8b0 := eq_true c8
     have c8b1 : decide (0 ≤ (ji7)) = true := decide_eq_true c8
     clear c8
     by_cases c9 : (ji7) ≤ (a0.size : Int)
     ·rw [if_pos c9] at H
      have c9b0 := eq_true c9
      have c9b1 : decide ((ji7) ≤ (a0.size : Int)) = true := decide_eq_true c9
      clear c9
      simp only [Option.some.injEq, Prod.mk.injEq] at H
      obtain ⟨rfl, rfl, rfl⟩ := H
      go_enter Tryz.func60, Tryz.ntmps60
      go_wp2_with (first | (go_at_call 70; (with_reducible refine (stringslite_Index.calls a0 a1 t479 _ ?side1 A3.out).mono ?_); (case side1 => exact Fp.below HGL.out Yb_); rintro e w10 ⟨rfl, hb⟩; have n0_ := Ac.mk (Ar Yb_ hb); clear HB; have HB := n0_; clear n0_; (try clear hb); (try clear hb2); (try clear hk); (try clear hi)))
      repeat (go_quiet (first | (go_at_call 70; (with_reducible refine (stringslite_Index.calls a0 a1 t479 _ ?side1 A3.out).mono ?_); (case side1 => exact Fp.below HGL.out Yb_); rintro e w10 ⟨rfl, hb⟩; have n0_ := Ac.mk (Ar Yb_ hb); clear HB; have HB := n0_; clear n0_; (try clear hb); (try clear hb2); (try clear hk); (try clear hi))); try go_wp2_with (first | (go_at_call 70; (with_reducible refine (stringslite_Index.calls a0 a1 t479 _ ?side1 A3.out).mono ?_); (case side1 => exact Fp.below HGL.out Yb_); rintro e w10 ⟨rfl, hb⟩; have n0_ := Ac.mk (Ar Yb_ hb); clear HB; have HB := n0_; clear n0_; (try clear hb); (try clear hb2); (try clear hk); (try clear hi))))
      go_ret3
      exact ⟨by first | rfl | (simp [Au, Aw] <;> rfl) | (simp only [← hji7]; first | rfl | (simp [Au, Aw] <;> rfl)) | (simp [*, Au, Aw] <;> rfl), by repeat (first | (with_reducible first | exact HB.out | apply Ae | apply Aa | apply Ad) | exact HB.out)⟩
     ·rw [if_neg c9] at H
      exact absurd H (by simp)
    ·rw [if_neg c8] at H
     exact absurd H (by simp)
   ·rw [if_neg c6] at H
    exact absurd H (by simp)
  ·rw [if_neg c5] at H
   exact absurd H (by simp)
 ·rw [if_neg c4] at H
  have c4b0 : decide (0 ≤ t479) = false := decide_eq_false c4
  clear c4
  simp only [Option.some.injEq, Prod.mk.injEq] at H
  obtain ⟨rfl, rfl, rfl⟩ := H
  go_enter Tryz.func60, Tryz.ntmps60
  go_wp2_with (first | (go_at_call 70; (with_reducible refine (stringslite_Index.calls a0 a1 t479 _ ?side1 A3.out).mono ?_); (case side1 => exact Fp.below HGL.out Yb_); rintro e w11 ⟨rfl, hb⟩; have n0_ := Ac.mk (Ar Yb_ hb); clear HB; have HB := n0_; clear n0_; (try clear hb); (try clear hb2); (try clear hk); (try clear hi)))
  repeat (go_quiet (first | (go_at_call 70; (with_reducible refine (stringslite_Index.calls a0 a1 t479 _ ?side1 A3.out).mono ?_); (case side1 => exact Fp.below HGL.out Yb_); rintro e w11 ⟨rfl, hb⟩; have n0_ := Ac.mk (Ar Yb_ hb); clear HB; have HB := n0_; clear n0_; (try clear hb); (try clear hb2); (try clear hk); (try clear hi))); try go_wp2_with (first | (go_at_call 70; (with_reducible refine (stringslite_Index.calls a0 a1 t479 _ ?side1 A3.out).mono ?_); (case side1 => exact Fp.below HGL.out Yb_); rintro e w11 ⟨rfl, hb⟩; have n0_ := Ac.mk (Ar Yb_ hb); clear HB; have HB := n0_; clear n0_; (try clear hb); (try clear hb2); (try clear hk); (try clear hi))))
  go_ret3
  exact ⟨by first | rfl | (simp [Au, Aw] <;> rfl) | (simp [*, Au, Aw] <;> rfl), by repeat (first | (with_reducible first | exact HB.out | apply Ae | apply Aa | apply Ad) | exact HB.out)⟩
def strings_Cut.f (a0 : ByteArray) (a1 : ByteArray) : Option (ByteArray × ByteArray × Bool) := (stringslite_Cut.f a0 a1).bind fun bt480 => (some (bt480.1, bt480.2.1, bt480.2.2))
set_option maxHeartbeats 8000000 in
set_option maxRecDepth 100000 in
theorem strings_Cut.calls (a0 : ByteArray) (a1 : ByteArray) (r1 : ByteArray) (r2 : ByteArray) (r3 : Bool) (w : World) (hG : Fp w) (h : strings_Cut.f a0 a1 = some (r1, r2, r3)) :
  Calls Tryz.prog 37 #[.string a0, .string a1] w fun e w' => e = .returned (.tuple #[.string r1, .string r2, .bool r3]) ∧ Below w.heap.size w w' := by
 have HGL := Ac.mk hG
 clear hG
 have HB := Ac.mk (Below.refl w.heap.size w)
 have H : ((stringslite_Cut.f a0 a1).bind fun bt480 => (some (bt480.1, bt480.2.1, bt480.2.2))) = some (r1, r2, r3) := h
 clear h
 replace H := Option.bind_eq_some_iff.mp H
 obtain ⟨⟨t480, t481, t482⟩, A30, H⟩ := H
 try dsimp only at H
 have A3 := Ac.mk A30
 clear A30
 simp only [Option.some.injEq, Prod.mk.injEq] at H
 obtain ⟨rfl, rfl, rfl⟩ := H
 go_enter Tryz.func37, Tryz.ntmps37
 go_wp2_with (first | ((with_reducible refine Ap (f := 60) rfl ?_); refine Bj (some 9) rfl rfl Tryz.func60 (by kernel_rfl) rfl #[.string a0, .string a1] rfl Ya_ ?_; (with_reducible refine (stringslite_Cut.calls a0 a1 t480 t481 t482 _ ?side1 A3.out).mono ?_); (case side1 => exact Fp.below HGL.out Yb_); rintro e w4 ⟨rfl, hb⟩; refine ⟨_, rfl, ?_⟩; have n0_ := Ac.mk (Ar Yb_ hb); clear HB; have HB := n0_; clear n0_; (try clear hb); (try clear hb2); (try clear hk); (try clear hi)))
 go_ret3
 exact ⟨by first | rfl | (simp [Au, Aw] <;> rfl) | (simp [*, Au, Aw] <;> rfl), by repeat (first | (with_reducible first | exact HB.out | apply Ae | apply Aa | apply Ad) | exact HB.out)⟩
def stringslite_HasPrefix.f (a0 : ByteArray) (a1 : ByteArray) : Option (Bool) := if (a0.size : Int) ≥ (a1.size : Int) then (if 0 ≤ (a1.size : Int) then (if (a1.size : Int) ≤ (a0.size : Int) then (some ((a0.extract 0 ((a1.size : Int) : Int).toNat).toList == a1.toList)) else (none)) else (none)) else (some false)
set_option maxHeartbeats 8000000 in
set_option maxRecDepth 100000 in
theorem stringslite_HasPrefix.calls (a0 : ByteArray) (a1 : ByteArray) (r : Bool) (w : World) (h : stringslite_HasPrefix.f a0 a1 = some r) :
  Calls Tryz.prog 64 #[.string a0, .string a1] w fun e w' => e = .returned (.bool r) ∧ C9 w w' := by
 have H : (if (a0.size : Int) ≥ (a1.size : Int) then (if 0 ≤ (a1.size : Int) then (if (a1.size : Int) ≤ (a0.size : Int) then (some ((a0.extract 0 ((a1.size : Int) : Int).toNat).toList == a1.toList)) else (none)) else (none)) else (some false)) = some r := h
 clear h
 by_cases c3 : (a0.size : Int) ≥ (a1.size : Int)
 ·rw [if_pos c3] at H
  have c3b0 : decide ((a1.size : Int) ≤ (a0.size : Int)) = true := decide_eq_true c3
  have c3b1 : decide (a1.size ≤ a0.size) = true := decide_eq_true (Int.ofNat_le.mp c3)
  clear c3
  by_cases c4 : 0 ≤ (a1.size : Int)
  ·rw [if_pos c4] at H
   have c4b0 := eq_true c4
   have c4b1 : decide (0 ≤ (a1.size : Int)) = true := decide_eq_true c4
   clear c4
   by_cases c5 : (a1.size : Int) ≤ (a0.size : Int)
   ·rw [if_pos c5] at H
    have c5b0 := eq_true c5
    have c5b1 : decide ((a1.size : Int) ≤ (a0.size : Int)) = true := decide_eq_true c5
    clear c5
    obtain rfl := Option.some.inj H
    go_enter Tryz.func64, Tryz.ntmps64
    go_wp2
    go_ret
    exact ⟨by first | rfl | (simp; done) | (simp [*]; done), by repeat (first | exact C9.refl _ | apply C9.step)⟩
   ·rw [if_neg c5] at H
    exact absurd H (by simp)
  ·rw [if_neg c4] at H
   exact absurd H (by simp)
 ·rw [if_neg c3] at H
  have c3b0 : decide ((a1.size : Int) ≤ (a0.size : Int)) = false := decide_eq_false c3
  have c3b1 : decide (a1.size ≤ a0.size) = false := decide_eq_false (fun h => c3 (Int.ofNat_le.mpr h))
  clear c3
  obtain rfl := Option.some.inj H
  go_enter Tryz.func64, Tryz.ntmps64
  go_wp2
  go_ret
  exact ⟨by first | rfl | (simp; done) | (simp [*]; done), by repeat (first | exact C9.refl _ | apply C9.step)⟩
def stringslite_CutPrefix.f (a0 : ByteArray) (a1 : ByteArray) : Option (ByteArray × Bool) := (stringslite_HasPrefix.f a0 a1).bind fun t284 => (if t284 = true then (if 0 ≤ (a1.size : Int) then (if (a1.size : Int) ≤ (a0.size : Int) then (some (a0.extract ((a1.size : Int) : Int).toNat a0.size, true)) else (none)) else (none)) else (some (a0, false)))
set_option maxHeartbeats 8000000 in
set_option maxRecDepth 100000 in
theorem stringslite_CutPrefix.calls (a0 : ByteArray) (a1 : ByteArray) (r1 : ByteArray) (r2 : Bool) (w : World) (h : stringslite_CutPrefix.f a0 a1 = some (r1, r2)) :
  Calls Tryz.prog 45 #[.string a0, .string a1] w fun e w' => e = .returned (.tuple #[.string r1, .bool r2]) ∧ C9 w w' := by
 have H : ((stringslite_HasPrefix.f a0 a1).bind fun t284 => (if t284 = true then (if 0 ≤ (a1.size : Int) then (if (a1.size : Int) ≤ (a0.size : Int) then (some (a0.extract ((a1.size : Int) : Int).toNat a0.size, true)) else (none)) else (none)) else (some (a0, false)))) = some (r1, r2) := h
 clear h
 replace H := Option.bind_eq_some_iff.mp H
 obtain ⟨t284, A30, H⟩ := H
 try dsimp only at H
 have A3 := Ac.mk A30
 clear A30
 by_cases c4 : t284 = true
 ·subst c4
  have H1 : (if 0 ≤ (a1.size : Int) then (if (a1.size : Int) ≤ (a0.size : Int) then (some (a0.extract ((a1.size : Int) : Int).toNat a0.size, true)) else (none)) else (none)) = some (r1, r2) := by rw [if_pos rfl] at H; exact H
  clear H
  have H := H1
  clear H1
  by_cases c5 : 0 ≤ (a1.size : Int)
  ·rw [if_pos c5] at H
   have c5b0 := eq_true c5
   have c5b1 : decide (0 ≤ (a1.size : Int)) = true := decide_eq_true c5
   clear c5
   by_cases c6 : (a1.size : Int) ≤ (a0.size : Int)
   ·rw [if_pos c6] at H
    have c6b0 := eq_true c6
    have c6b1 : decide ((a1.size : Int) ≤ (a0.size : Int)) = true := decide_eq_true c6
    clear c6
    simp only [Option.some.injEq, Prod.mk.injEq] at H
    obtain ⟨rfl, rfl⟩ := H
    go_enter Tryz.func45, Tryz.ntmps45
    go_wp2_with (first | ((with_reducible refine Ap (f := 64) rfl ?_); refine Bj (some 8) rfl rfl Tryz.func64 (by kernel_rfl) rfl #[.string a0, .string a1] rfl Ya_ ?_; (with_reducible refine (stringslite_HasPrefix.calls a0 a1 true _ A3.out).mono ?_); rintro e w' ⟨rfl, ⟨nd, rfl⟩⟩; refine ⟨_, rfl, ?_⟩))
    go_ret2
    exact ⟨by first | rfl | (simp; done) | (simp [*]; done), by repeat (first | exact C9.refl _ | apply C9.step)⟩
   ·rw [if_neg c6] at H
    exact absurd H (by simp)
  ·rw [if_neg c5] at H
   exact absurd H (by simp)
 ·replace c4 := Bool.eq_false_iff.mpr c4
  subst c4
  have H1 : (some (a0, false)) = some (r1, r2) := by rw [if_neg (show ¬ (false = true) by decide)] at H; exact H
  clear H
  have H := H1
  clear H1
  simp only [Option.some.injEq, Prod.mk.injEq] at H
  obtain ⟨rfl, rfl⟩ := H
  go_enter Tryz.func45, Tryz.ntmps45
  go_wp2_with (first | ((with_reducible refine Ap (f := 64) rfl ?_); refine Bj (some 8) rfl rfl Tryz.func64 (by kernel_rfl) rfl #[.string a0, .string a1] rfl Ya_ ?_; (with_reducible refine (stringslite_HasPrefix.calls a0 a1 false _ A3.out).mono ?_); rintro e w' ⟨rfl, ⟨nd, rfl⟩⟩; refine ⟨_, rfl, ?_⟩))
  go_ret2
  exact ⟨by first | rfl | (simp; done) | (simp [*]; done), by repeat (first | exact C9.refl _ | apply C9.step)⟩
def strings_CutPrefix.f (a0 : ByteArray) (a1 : ByteArray) : Option (ByteArray × Bool) := (stringslite_CutPrefix.f a0 a1).bind fun bt285 => (some (bt285.1, bt285.2))
set_option maxHeartbeats 8000000 in
set_option maxRecDepth 100000 in
theorem strings_CutPrefix.calls (a0 : ByteArray) (a1 : ByteArray) (r1 : ByteArray) (r2 : Bool) (w : World) (h : strings_CutPrefix.f a0 a1 = some (r1, r2)) :
  Calls Tryz.prog 25 #[.string a0, .string a1] w fun e w' => e = .returned (.tuple #[.string r1, .bool r2]) ∧ C9 w w' := by
 have H : ((stringslite_CutPrefix.f a0 a1).bind fun bt285 => (some (bt285.1, bt285.2))) = some (r1, r2) := h
 clear h
 replace H := Option.bind_eq_some_iff.mp H
 obtain ⟨⟨t285, t286⟩, A30, H⟩ := H
 try dsimp only at H
 have A3 := Ac.mk A30
 clear A30
 simp only [Option.some.injEq, Prod.mk.injEq] at H
 obtain ⟨rfl, rfl⟩ := H
 go_enter Tryz.func25, Tryz.ntmps25
 go_wp2_with (first | ((with_reducible refine Ap (f := 45) rfl ?_); refine Bj (some 8) rfl rfl Tryz.func45 (by kernel_rfl) rfl #[.string a0, .string a1] rfl Ya_ ?_; (with_reducible refine (stringslite_CutPrefix.calls a0 a1 t285 t286 _ A3.out).mono ?_); rintro e w' ⟨rfl, ⟨nd, rfl⟩⟩; refine ⟨_, rfl, ?_⟩))
 go_ret2
 exact ⟨by first | rfl | (simp; done) | (simp [*]; done), by repeat (first | exact C9.refl _ | apply C9.step)⟩
def Iu.f (a0 : Int) : Option (Bool) := if a0 = 32 then (some true) else (some (a0 == 46))
set_option maxHeartbeats 8000000 in
set_option maxRecDepth 100000 in
theorem Iu.calls (a0 : Int) (r : Bool) (w : World) (h : Iu.f a0 = some r) :
  Calls Tryz.prog 47 #[.int .i32 a0] w fun e w' => e = .returned (.bool r) ∧ C9 w w' := by
 have H : (if a0 = 32 then (some true) else (some (a0 == 46))) = some r := h
 clear h
 by_cases c2 : a0 = 32
 ·rw [if_pos c2] at H
  have c2b0 : (a0 == 32) = true := beq_iff_eq.mpr c2
  have c2b1 : (a0 != 32) = false := bne_eq_false_iff_eq.mpr c2
  clear c2
  obtain rfl := Option.some.inj H
  go_enter Tryz.func47, Tryz.ntmps47
  go_wp2
  go_ret
  exact ⟨by first | rfl | (simp; done) | (simp [*]; done), by repeat (first | exact C9.refl _ | apply C9.step)⟩
 ·rw [if_neg c2] at H
  have c2b0 : (a0 == 32) = false := beq_eq_false_iff_ne.mpr c2
  have c2b1 : (a0 != 32) = true := bne_iff_ne.mpr c2
  obtain rfl := Option.some.inj H
  go_enter Tryz.func47, Tryz.ntmps47
  go_wp2
  go_ret
  exact ⟨by first | rfl | (simp; done) | (simp [*]; done), by repeat (first | exact C9.refl _ | apply C9.step)⟩
/-- A function value that answers as p at every rune, in this world and in all later ones. -/
def CloRune (v : Value) (p : Nat → Bool) (w : World) : Prop := ∃ (g : Nat) (lb : Array Value), v = .func (.func g) #[] lb ∧ (∀ args w, (callFunc g args).run Tryz.prog w = .ok (.enter g args) w) ∧ PredGrows Tryz.prog g lb p w
def strings_FieldsFunc.f (a0 : ByteArray) (p : Nat → Bool) : Option (List ByteArray) := if a0.size ≤ 4294967296 then some (Lib.goFieldsP p a0) else none
theorem strings_FieldsFunc.calls (a0 : ByteArray) (p : Nat → Bool) (v : Value) (r : List ByteArray) (w : World) (hv : CloRune v p w) (h : strings_FieldsFunc.f a0 p = some r) :
  Calls Tryz.prog 46 #[.string a0, v] w fun e w' => ∃ v0_ : Value, e = .returned (v0_) ∧ Kd.R Kd.string 9 w' w.heap.size (fun _ => True) v0_ r ∧ Below w.heap.size w w' := by
 obtain ⟨g, lb, rfl, eg, hp⟩ := hv
 unfold strings_FieldsFunc.f at h
 split at h
 ·rename_i hc
  simp only [Option.some.injEq] at h
  subst h
  refine (Go.Proofs.Tryz.strings_FieldsFunc_grows g lb eg p a0 w hc hp).mono ?_
  rintro e w' ⟨A, rfl, hA, ho, hb⟩
  exact ⟨_, rfl, Kd.R_of_own (enc := Value.string) ho (fun _ _ => trivial), hb⟩
 ·cases h
/-- A blank or a stop. -/
def clo_47 (x : Nat) : Bool := x == 32 || x == 46
theorem clo_47.ok {w : World} : CloRune (.func (.func 47) #[] #[]) clo_47 w := by
 refine ⟨47, #[], rfl, enters_of Tryz.func47 (by kernel_rfl) rfl, fun W x hx hb => ?_⟩
 show Calls Tryz.prog 47 #[.int .i32 (x : Int)] W _
 refine (Iu.calls (x : Int) (clo_47 x) W ?_).mono ?_
 ·unfold Iu.f clo_47
  by_cases h : x = 32
  ·subst h; rfl
  ·rw [if_neg (by omega)]
   congr 1
   by_cases h2 : x = 46
   ·subst h2; rfl
   ·have e1 : (x == 32) = false := by simpa using h
    have e2 : (x == 46) = false := by simpa using h2
    have e3 : ((x : Int) == 46) = false := by simp; omega
    rw [e1, e2, e3]; rfl
 ·rintro e w' ⟨rfl, hd⟩
  exact ⟨rfl, C9.below hd⟩
def G6.f (a0 : ByteArray) : Option (Int × Bool) := if a0.size ≤ 281474976710656 then (match Lib.atoiAll a0.data.toList with | .ok v => if -999999 ≤ v ∧ v ≤ 999999 then (Fh.f v).bind fun t => if t.toList = a0.toList then some (v, true) else some (0, false) else some (0, false) | _ => some (0, false)) else none
set_option maxHeartbeats 8000000 in
set_option maxRecDepth 100000 in
theorem G6.calls (a0 : ByteArray) (r1 : Int) (r2 : Bool) (w : World) (hG : Fp w) (h : G6.f a0 = some (r1, r2)) :
  Calls Tryz.prog 48 #[.string a0] w fun e w' => e = .returned (.tuple #[.int .i64 r1, .bool r2]) ∧ Below w.heap.size w w' := by
 have HG := Ac.mk hG
 clear hG
 unfold G6.f at h
 by_cases hz : a0.size ≤ 281474976710656
 ·rw [if_pos hz] at h
  rcases ha : Lib.atoiAll a0.data.toList with v | _ | _
  ·rw [ha] at h
   dsimp only at h
   have HA := Ac.mk (Go.Proofs.Tryz.strconv_Atoi_ok a0 (by omega) v ha w)
   clear ha
   have HX : Ac (Calls Tryz.prog 65 #[.string a0] w fun e w' => e = .returned (.tuple #[.int .i64 v, .nilIface]) ∧ Below w.heap.size w w') := ⟨HA.out.mono (by
    rintro e w' ⟨rfl, h⟩
    rcases h with rfl | ⟨t, rfl⟩
    ·exact ⟨rfl, Below.refl _ _⟩
    ·exact ⟨rfl, Lib.bytesWorld_below _ _ _⟩)⟩
   clear HA
   by_cases hw : -999999 ≤ v ∧ v ≤ 999999
   ·rw [if_pos hw] at h
    replace h := Option.bind_eq_some_iff.mp h
    obtain ⟨t, ht, h⟩ := h
    have A1 := Ac.mk (show Dx.f v (-999999) 999999 = some true by unfold Dx.f; rw [if_pos (show v ≥ -999999 from hw.1)]; simp [hw.2])
    have A2 := Ac.mk ht
    clear ht hw
    by_cases c : t.toList = a0.toList
    ·rw [if_pos c] at h
     simp only [Option.some.injEq, Prod.mk.injEq] at h
     obtain ⟨rfl, rfl⟩ := h
     have cb0 : (t.toList == a0.toList) = true := beq_iff_eq.mpr c
     have cb1 : (t.toList != a0.toList) = false := bne_eq_false_iff_eq.mpr c
     clear c
     go_enter Tryz.func48, Tryz.ntmps48
     go_wp2_with (first | ((with_reducible refine Ap (f := 65) rfl ?_); refine Bj (some 8) rfl rfl Tryz.func65 (by kernel_rfl) rfl #[.string a0] rfl Ya_ ?_; refine HX.out.mono ?_; rintro e w1 ⟨rfl, hb⟩; have HB := Ac.mk hb; have HG1 := Ac.mk (HG.out.below hb); clear hb; refine ⟨_, rfl, ?_⟩) | ((with_reducible refine Ap (f := 24) rfl ?_); (try (refine G8 (by rfl) ?_; dsimp only)); refine Bj (some 15) rfl rfl Tryz.func24 (by kernel_rfl) rfl #[.int .i64 v, .int .i64 (-999999), .int .i64 999999] rfl Ya_ ?_; (with_reducible refine (Dx.calls v (-999999) 999999 true _ A1.out).mono ?_); rintro e w2 ⟨rfl, ⟨nd, rfl⟩⟩; refine ⟨_, rfl, ?_⟩) | ((with_reducible refine Ap (f := 38) rfl ?_); (try (refine G8 (by rfl) ?_; dsimp only)); refine Bj (some 20) rfl rfl Tryz.func38 (by kernel_rfl) rfl #[.int .i64 v] rfl Ya_ ?_; (with_reducible refine (Fh.calls v t _ (HG1.out.below (by repeat (first | (with_reducible first | exact Below.refl _ _ | apply Ae | apply Aa | apply Ad)))) A2.out).mono ?_); rintro e w3 ⟨rfl, hb⟩; have HB2 := Ac.mk (Ar Yb_ hb); clear hb; refine ⟨_, rfl, ?_⟩))
     go_ret2
     exact ⟨by first | rfl | (simp; done) | (simp [*]; done), by repeat (first | (with_reducible first | exact HB2.out | apply Ae | apply Aa | apply Ad))⟩
    ·rw [if_neg c] at h
     simp only [Option.some.injEq, Prod.mk.injEq] at h
     obtain ⟨rfl, rfl⟩ := h
     have cb0 : (t.toList == a0.toList) = false := beq_eq_false_iff_ne.mpr c
     have cb1 : (t.toList != a0.toList) = true := bne_iff_ne.mpr c
     clear c
     go_enter Tryz.func48, Tryz.ntmps48
     go_wp2_with (first | ((with_reducible refine Ap (f := 65) rfl ?_); refine Bj (some 8) rfl rfl Tryz.func65 (by kernel_rfl) rfl #[.string a0] rfl Ya_ ?_; refine HX.out.mono ?_; rintro e w1 ⟨rfl, hb⟩; have HB := Ac.mk hb; have HG1 := Ac.mk (HG.out.below hb); clear hb; refine ⟨_, rfl, ?_⟩) | ((with_reducible refine Ap (f := 24) rfl ?_); (try (refine G8 (by rfl) ?_; dsimp only)); refine Bj (some 15) rfl rfl Tryz.func24 (by kernel_rfl) rfl #[.int .i64 v, .int .i64 (-999999), .int .i64 999999] rfl Ya_ ?_; (with_reducible refine (Dx.calls v (-999999) 999999 true _ A1.out).mono ?_); rintro e w2 ⟨rfl, ⟨nd, rfl⟩⟩; refine ⟨_, rfl, ?_⟩) | ((with_reducible refine Ap (f := 38) rfl ?_); (try (refine G8 (by rfl) ?_; dsimp only)); refine Bj (some 20) rfl rfl Tryz.func38 (by kernel_rfl) rfl #[.int .i64 v] rfl Ya_ ?_; (with_reducible refine (Fh.calls v t _ (HG1.out.below (by repeat (first | (with_reducible first | exact Below.refl _ _ | apply Ae | apply Aa | apply Ad)))) A2.out).mono ?_); rintro e w3 ⟨rfl, hb⟩; have HB2 := Ac.mk (Ar Yb_ hb); clear hb; refine ⟨_, rfl, ?_⟩))
     go_ret2
     exact ⟨by first | rfl | (simp; done) | (simp [*]; done), by repeat (first | (with_reducible first | exact HB2.out | apply Ae | apply Aa | apply Ad))⟩
   ·rw [if_neg hw] at h
    simp only [Option.some.injEq, Prod.mk.injEq] at h
    obtain ⟨rfl, rfl⟩ := h
    have A1 := Ac.mk (show Dx.f v (-999999) 999999 = some false by
     unfold Dx.f
     by_cases h1 : v ≥ -999999
     ·rw [if_pos h1]; congr 1; simp; omega
     ·rw [if_neg h1])
    clear hw
    go_enter Tryz.func48, Tryz.ntmps48
    go_wp2_with (first | ((with_reducible refine Ap (f := 65) rfl ?_); refine Bj (some 8) rfl rfl Tryz.func65 (by kernel_rfl) rfl #[.string a0] rfl Ya_ ?_; refine HX.out.mono ?_; rintro e w1 ⟨rfl, hb⟩; have HB := Ac.mk hb; have HG1 := Ac.mk (HG.out.below hb); clear hb; refine ⟨_, rfl, ?_⟩) | ((with_reducible refine Ap (f := 24) rfl ?_); (try (refine G8 (by rfl) ?_; dsimp only)); refine Bj (some 15) rfl rfl Tryz.func24 (by kernel_rfl) rfl #[.int .i64 v, .int .i64 (-999999), .int .i64 999999] rfl Ya_ ?_; (with_reducible refine (Dx.calls v (-999999) 999999 false _ A1.out).mono ?_); rintro e w2 ⟨rfl, ⟨nd, rfl⟩⟩; refine ⟨_, rfl, ?_⟩))
    go_ret2
    exact ⟨by first | rfl | (simp; done) | (simp [*]; done), by repeat (first | (with_reducible first | exact HB.out | apply Ae | apply Aa | apply Ad))⟩
  ·rw [ha] at h
   dsimp only at h
   simp only [Option.some.injEq, Prod.mk.injEq] at h
   obtain ⟨rfl, rfl⟩ := h
   obtain ⟨g_, tp, p, _, _, hv⟩ := HG.out.esyn
   have HA := Ac.mk (Go.Proofs.Any.strconv_Atoi_syntax_var Go.Proofs.Tryz.laysC172 a0 hz ha tp p w hv)
   clear ha hv
   have HX : Ac (Calls Tryz.prog 65 #[.string a0] w fun e w' => ∃ N, e = .returned (.tuple #[.int .i64 (0), .iface 101 (.pointer (some ⟨N, 0, none⟩))]) ∧ Below w.heap.size w w') := ⟨HA.out.mono (by
    rintro e w' ⟨N, rfl, _, _, hb⟩
    exact ⟨N, rfl, hb⟩)⟩
   clear HA
   go_enter Tryz.func48, Tryz.ntmps48
   go_wp2_with (first | ((with_reducible refine Ap (f := 65) rfl ?_); refine Bj (some 8) rfl rfl Tryz.func65 (by kernel_rfl) rfl #[.string a0] rfl Ya_ ?_; refine HX.out.mono ?_; rintro e w1 ⟨N_, rfl, hb⟩; have HB := Ac.mk hb; clear hb; refine ⟨_, rfl, ?_⟩))
   go_ret2
   exact ⟨by first | rfl | (simp; done) | (simp [*]; done), by repeat (first | (with_reducible first | exact HB.out | apply Ae | apply Aa | apply Ad))⟩
  ·rw [ha] at h
   dsimp only at h
   simp only [Option.some.injEq, Prod.mk.injEq] at h
   obtain ⟨rfl, rfl⟩ := h
   obtain ⟨g_, tp, p, _, _, hv⟩ := HG.out.erng
   have HA := Ac.mk (Go.Proofs.Tryz.strconv_Atoi_range_var a0 hz ha tp p w hv)
   clear ha hv
   have HX : Ac (Calls Tryz.prog 65 #[.string a0] w fun e w' => ∃ N, e = .returned (.tuple #[.int .i64 (Lib.atoiSat a0.data.toList), .iface 101 (.pointer (some ⟨N, 0, none⟩))]) ∧ Below w.heap.size w w') := ⟨HA.out.mono (by
    rintro e w' ⟨N, rfl, _, _, hb⟩
    exact ⟨N, rfl, hb⟩)⟩
   clear HA
   go_enter Tryz.func48, Tryz.ntmps48
   go_wp2_with (first | ((with_reducible refine Ap (f := 65) rfl ?_); refine Bj (some 8) rfl rfl Tryz.func65 (by kernel_rfl) rfl #[.string a0] rfl Ya_ ?_; refine HX.out.mono ?_; rintro e w1 ⟨N_, rfl, hb⟩; have HB := Ac.mk hb; clear hb; refine ⟨_, rfl, ?_⟩))
   go_ret2
   exact ⟨by first | rfl | (simp; done) | (simp [*]; done), by repeat (first | (with_reducible first | exact HB.out | apply Ae | apply Aa | apply Ad))⟩
 ·rw [if_neg hz] at h; cases h
def D5.l0 : Nat → List Int → List ByteArray → Int → Int → Option (List Int)
 | 0, _, _, _, _ => none
 | k + 1, x3, x10, x11, x12 => if x12 < x11 then (if 0 ≤ x12 then (if x12 < (x10.length : Int) then ((G6.f (rdOf ByteArray.empty x10 x12)).bind fun bt309 => (if bt309.2 = true then (if x3.length < 17592186044416 then (D5.l0 k (x3 ++ [bt309.1]) x10 x11 (wrap64 (x12 + 1))) else (none)) else (D5.l0 k x3 x10 x11 (wrap64 (x12 + 1))))) else (none)) else (none)) else ((some (([0, 0] : List Int) : List Int)).bind fun y314 => (if x3.length + y314.length < 17592186044416 then (some (x3 ++ y314)) else (none)))
def D5.f (k : Nat) (a0 : ByteArray) : Option (List Int) := (strings_FieldsFunc.f a0 clo_47).bind fun t305 => (D5.l0 k (([] : List Int)) t305 (t305.length : Int) 0)
theorem D5.Fa : ∀ k, (∀ y0 y1 y2 y3, LeO (D5.l0 k y0 y1 y2 y3) (D5.l0 (k + 1) y0 y1 y2 y3))
 | 0 => fun _ _ _ _ r h => by simp [D5.l0] at h
 | k + 1 => by
  have ih0 := D5.Fa k
  ·intro y0 y1 y2 y3
   unfold D5.l0
   repeat' first
   | (with_reducible exact ih0 _ _ _ _)
   | (with_reducible exact LeO.refl _)
   | (with_reducible exact LeO.none _)
   | (with_reducible refine LeO.ite ?_ ?_)
   | (with_reducible refine LeO.bind ?_ (fun _ => ?_))
   | exact ih0 _ _ _ _
   | exact LeO.none _
   | refine LeO.ite ?_ ?_
   | refine LeO.bind ?_ (fun _ => ?_)
theorem D5.mono : ∀ a0 k, LeO (D5.f k a0) (D5.f (k + 1) a0) := by
 intro a0 k
 have ih0 := D5.Fa k
 unfold D5.f
 repeat' first
   | (with_reducible exact ih0 _ _ _ _)
   | (with_reducible exact LeO.refl _)
   | (with_reducible exact LeO.none _)
   | (with_reducible refine LeO.ite ?_ ?_)
   | (with_reducible refine LeO.bind ?_ (fun _ => ?_))
   | exact ih0 _ _ _ _
   | exact LeO.none _
   | refine LeO.ite ?_ ?_
   | refine LeO.bind ?_ (fun _ => ?_)
set_option maxHeartbeats 8000000 in
set_option maxRecDepth 100000 in
theorem D5.calls (k : Nat) (a0 : ByteArray) (r : List Int) (w : World) (hG : Fp w) (h : D5.f k a0 = some r) :
  Calls Tryz.prog 26 #[.string a0] w fun e w' => ∃ v0_ : Value, e = .returned (v0_) ∧ Kd.R (Kd.int .i64) 3 w' w.heap.size (fun _ => True) v0_ r ∧ Below w.heap.size w w' := by
 have HGL := Ac.mk hG
 clear hG
 have HB := Ac.mk (Below.refl w.heap.size w)
 have H : ((strings_FieldsFunc.f a0 clo_47).bind fun t305 => (D5.l0 k (([] : List Int)) t305 (t305.length : Int) 0)) = some r := h
 clear h
 obtain ⟨y302, hy302⟩ : ∃ y_ : List Int, y_ = (([] : List Int)) := ⟨_, rfl⟩
 replace H : ((strings_FieldsFunc.f a0 clo_47).bind fun t305 => (D5.l0 k y302 t305 (t305.length : Int) 0)) = some r := by first | (rw [hy302]; with_reducible exact H) | (have H2_ := (Option.bind_some _ _).symm.trans H; rw [hy302]; with_reducible exact H2_) | (have H2_ := (Option.bind_some _ _).symm.trans H; with_reducible exact H2_) | with_reducible exact H | (rw [hy302]; exact H) | exact H
 have Ny302 := Ac.mk hy302
 clear hy302
 replace H := Option.bind_eq_some_iff.mp H
 obtain ⟨t305, A20, H⟩ := H
 try dsimp only at H
 have A2 := Ac.mk A20
 clear A20
 have H' := Ac.mk H
 clear H
 go_enter Tryz.func26, Tryz.ntmps26
 go_wp2_with (first | ((with_reducible refine Dl (N := 8) rfl ?_); refine Kd.Hz (Kd.int .i64) _ 3 ?hg (N := 8) ?hd (xs := ([] : List Int)) (inner := []) (ok := fun _ => True) (okp := fun _ => True) ?hr ?hp (fun _ hk => hk) trivial (Below.refl _ _) (Nat.le_refl _) (by simp) ?_; (case hd => rfl); (case hg => rfl); (case hr => first | (go_simp; done) | (go_simp; rfl)); (case hp => exact (Ed.none _ _)); intro v303 w3 ho4 hb hg_ hnew_; clear hg_ hnew_; (first | rw [← Ny302.out] at ho4 | (simp only [Int.reduceToNat] at ho4; rw [← Ny302.out] at ho4)); have n0_ := Ac.mk (Kd.Gg ho4 (Ba Yb_)); have n1_ := Ac.mk (Ar Yb_ hb); clear HB; have HO304 := n0_; have HB := n1_; clear n0_ n1_; clear hb ho4) | ((with_reducible refine Ap (f := 46) rfl ?_); refine Bj (some 10) rfl rfl Tryz.func46 (by kernel_rfl) rfl #[.string a0, .func (.func 47) #[] #[]] rfl Ya_ ?_; (with_reducible refine (strings_FieldsFunc.calls a0 (clo_47) (.func (.func 47) #[] #[]) t305 _ ?side1 A2.out).mono ?_); (case side1 => exact clo_47.ok ); rintro e w5 ⟨v306, rfl, ho0, hb⟩; refine ⟨_, rfl, ?_⟩; have n0_ := Ac.mk (Kd.Fe (by (with_reducible repeat (first | apply Kd.Cb | apply Kd.Bz | apply Kd.Cm)); exact HO304.out) hb); have n1_ := Ac.mk (Kd.Gg ho0 (Ba Yb_)); have n2_ := Ac.mk (Ar Yb_ hb); clear HO304; clear HB; have HO304 := n0_; have HO307 := n1_; have HB := n2_; clear n0_ n1_ n2_; (try clear hb); (try clear hb2); (try clear hk); (try clear hi); (try clear ho0); obtain ⟨Ao6, co6, eo6⟩ := Kd.Gh HO307.out; subst eo6))
 go_loopg [3, 12] k (fun kq v3 v12 w' => ∃ (x3_1 : List Int) (x12_1 : Int), v12 = .int .i64 x12_1 ∧ Ac (D5.l0 kq x3_1 t305 (t305.length : Int) x12_1 = some r) ∧ Ac (kq ≤ k) ∧ Ac (Kd.R (Kd.int .i64) 3 w' w.heap.size (fun _ => True) v3 x3_1) ∧ Ac (Kd.R Kd.string 9 w' w.heap.size (fun _ => True) (.slice Ao6 t305.length co6) t305) ∧ Ac (Below w.heap.size w w'))
 case atStart => exact ⟨(y302), (0), Yf_, H', ⟨Nat.le_refl _⟩, ⟨by (with_reducible repeat (first | apply Kd.Cb | apply Kd.Bz | apply Kd.Cm)); exact HO304.out⟩, ⟨by (with_reducible repeat (first | apply Kd.Cb | apply Kd.Bz | apply Kd.Cm)); exact HO307.out⟩, ⟨by repeat (first | (with_reducible first | exact HB.out | apply Ae | apply Aa | apply Ad) | exact HB.out)⟩⟩
 case round =>
  clear H'
  try clear c2; try clear p2; try clear c4
  obtain ⟨x3_1, x12_1, rfl, HA, HK1, HO_3, HO_10, HB⟩ := hrel
  cases gk with
  | zero => exact absurd HA.out (by simp [D5.l0])
  | succ k1 =>
   have H := HA.out
   clear HA
   simp only [D5.l0] at H
   by_cases c7 : x12_1 < (t305.length : Int)
   ·rw [if_pos c7] at H
    have c7b0 : decide (x12_1 < (t305.length : Int)) = true := decide_eq_true c7
    clear c7
    by_cases c8 : 0 ≤ x12_1
    ·rw [if_pos c8] at H
     have c8b0 : decide (0 ≤ x12_1) = true := decide_eq_true c8
     clear c8
     by_cases c9 : x12_1 < (t305.length : Int)
     ·rw [if_pos c9] at H
      have c9b0 : decide (x12_1 < (t305.length : Int)) = true := decide_eq_true c9
      clear c9
      replace H := Option.bind_eq_some_iff.mp H
      obtain ⟨⟨t309, t310⟩, A100, H⟩ := H
      try dsimp only at H
      have A10 := Ac.mk A100
      clear A100
      by_cases c11 : t310 = true
      ·subst c11
       have H1 : (if x3_1.length < 17592186044416 then (D5.l0 k1 (x3_1 ++ [t309]) t305 (t305.length : Int) (wrap64 (x12_1 + 1))) else (none)) = some r := by rw [if_pos rfl] at H; exact H
       clear H
       have H := H1
       clear H1
       by_cases c12 : x3_1.length < 17592186044416
       ·rw [if_pos c12] at H
        have LMc12 := Ac.mk c12
        clear c12
        obtain ⟨y311, hy311⟩ : ∃ y_ : List Int, y_ = (x3_1 ++ [t309]) := ⟨_, rfl⟩
        replace H : (D5.l0 k1 y311 t305 (t305.length : Int) (wrap64 (x12_1 + 1))) = some r := by first | (rw [hy311]; with_reducible exact H) | (have H2_ := (Option.bind_some _ _).symm.trans H; rw [hy311]; with_reducible exact H2_) | (have H2_ := (Option.bind_some _ _).symm.trans H; with_reducible exact H2_) | with_reducible exact H | (rw [hy311]; exact H) | exact H
        have Ny311 := Ac.mk hy311
        clear hy311
        have H' := Ac.mk H
        clear H
        have p308 : 0 ≤ (x12_1 : Int) := of_decide_eq_true Ye_
        have q308 : x12_1 < (t305.length : Int) := of_decide_eq_true Ye_
        obtain ⟨ad308, e308, hx308_0⟩ := Kd.I8 (Kd.Ec HO_10.out).2.2 x12_1 p308 q308
        cases e308
        replace p308 := eq_true p308
        replace q308 := eq_true q308
        go_wp2_with (first | ((with_reducible refine Ap (f := 48) rfl ?_); refine Bj (some 18) rfl rfl Tryz.func48 (by kernel_rfl) rfl #[.string (rdOf ByteArray.empty t305 x12_1)] rfl Ya_ ?_; (with_reducible refine (G6.calls (rdOf ByteArray.empty t305 x12_1) t309 true _ ?side1 A10.out).mono ?_); (case side1 => exact Fp.below HGL.out Yb_); rintro e w13 ⟨rfl, hb⟩; refine ⟨_, rfl, ?_⟩; have n0_ := Ac.mk (Kd.Fe Ycc_ hb); have n1_ := Ac.mk (Kd.Fe Ydj_ hb); have n2_ := Ac.mk (Ar Yb_ hb); clear HO_3; clear HO_10; clear HB; have HO_3 := n0_; have HO_10 := n1_; have HB := n2_; clear n0_ n1_ n2_; (try clear hb); (try clear hb2); (try clear hk); (try clear hi)) | ((with_reducible refine Gz (b := .append) (xs := #[.tmp 22, .tmp 24]) rfl ?_); at_builtin; refine Kd.Ia (Kd.int .i64) (w0 := w) w.heap.size rfl (.tmp 22) (.tmp 24) 43 3 (.int .i64 0) 8 rfl Tryz.underlying43 info3 rfl (by decide) (by omega) u3 x3_1 t309 [.int .i64 t309] (fun _ => True) (fun _ => False) rfl rfl ?aP (fun _ hk => hk.elim) ?aF ?aO ?aB ?aS ?aL ?_; (case aP => exact rfl); (case aB => exact Yb_); (case aF => exact (fun _ _ => trivial)); (case aO => exact Ycc_); (case aS => exact (Ba Yb_)); (case aL => have := LMc12.out; omega); intro v312 w14 ho hb hg hat; rw [← Ny311.out] at ho; have n0_ := Ac.mk (Kd.R_over' Ydj_ (Kd.R_typed Ycc_) (by decide) hg); have n1_ := Ac.mk (hb); have n2_ := Ac.mk (ho); clear HO_10; clear HB; clear HO_3; have HO_10 := n0_; have HB := n1_; have HO313 := n2_; clear n0_ n1_ n2_; clear ho hb hg hat))
        go_roundg k1
        case measure => have := HK1.out; omega
        case rel => exact ⟨(y311), (wrap64 (x12_1 + 1)), Yf_, H', ⟨by have := HK1.out; omega⟩, ⟨by (with_reducible repeat (first | apply Kd.Cb | apply Kd.Bz | apply Kd.Cm)); exact HO313.out⟩, ⟨by (with_reducible repeat (first | apply Kd.Cb | apply Kd.Bz | apply Kd.Cm)); exact HO_10.out⟩, ⟨by repeat (first | (with_reducible first | exact HB.out | apply Ae | apply Aa | apply Ad) | exact HB.out)⟩⟩
       ·rw [if_neg c12] at H
        exact absurd H (by simp)
      ·replace c11 := Bool.eq_false_iff.mpr c11
       subst c11
       have H1 : (D5.l0 k1 x3_1 t305 (t305.length : Int) (wrap64 (x12_1 + 1))) = some r := by rw [if_neg (show ¬ (false = true) by decide)] at H; exact H
       clear H
       have H := H1
       clear H1
       have H' := Ac.mk H
       clear H
       have p308 : 0 ≤ (x12_1 : Int) := of_decide_eq_true Ye_
       have q308 : x12_1 < (t305.length : Int) := of_decide_eq_true Ye_
       obtain ⟨ad308, e308, hx308_0⟩ := Kd.I8 (Kd.Ec HO_10.out).2.2 x12_1 p308 q308
       cases e308
       replace p308 := eq_true p308
       replace q308 := eq_true q308
       go_wp2_with (first | ((with_reducible refine Ap (f := 48) rfl ?_); refine Bj (some 18) rfl rfl Tryz.func48 (by kernel_rfl) rfl #[.string (rdOf ByteArray.empty t305 x12_1)] rfl Ya_ ?_; (with_reducible refine (G6.calls (rdOf ByteArray.empty t305 x12_1) t309 false _ ?side1 A10.out).mono ?_); (case side1 => exact Fp.below HGL.out Yb_); rintro e w15 ⟨rfl, hb⟩; refine ⟨_, rfl, ?_⟩; have n0_ := Ac.mk (Kd.Fe Ycc_ hb); have n1_ := Ac.mk (Kd.Fe Ydj_ hb); have n2_ := Ac.mk (Ar Yb_ hb); clear HO_3; clear HO_10; clear HB; have HO_3 := n0_; have HO_10 := n1_; have HB := n2_; clear n0_ n1_ n2_; (try clear hb); (try clear hb2); (try clear hk); (try clear hi)))
       go_roundg k1
       case measure => have := HK1.out; omega
       case rel => exact ⟨(x3_1), (wrap64 (x12_1 + 1)), Yf_, H', ⟨by have := HK1.out; omega⟩, ⟨by (with_reducible repeat (first | apply Kd.Cb | apply Kd.Bz | apply Kd.Cm)); exact HO_3.out⟩, ⟨by (with_reducible repeat (first | apply Kd.Cb | apply Kd.Bz | apply Kd.Cm)); exact HO_10.out⟩, ⟨by repeat (first | (with_reducible first | exact HB.out | apply Ae | apply Aa | apply Ad) | exact HB.out)⟩⟩
     ·rw [if_neg c9] at H
      exact absurd H (by simp)
    ·rw [if_neg c8] at H
     exact absurd H (by simp)
   ·rw [if_neg c7] at H
    have c7b0 : decide (x12_1 < (t305.length : Int)) = false := decide_eq_false c7
    clear c7
    obtain ⟨y314, hy314⟩ : ∃ y_ : List Int, y_ = (([0, 0] : List Int)) := ⟨_, rfl⟩
    replace H : (if x3_1.length + y314.length < 17592186044416 then (some (x3_1 ++ y314)) else (none)) = some r := by first | (rw [hy314]; with_reducible exact H) | (have H2_ := (Option.bind_some _ _).symm.trans H; rw [hy314]; with_reducible exact H2_) | (have H2_ := (Option.bind_some _ _).symm.trans H; with_reducible exact H2_) | with_reducible exact H | (rw [hy314]; exact H) | exact H
    have Ny314 := Ac.mk hy314
    clear hy314
    by_cases c16 : x3_1.length + y314.length < 17592186044416
    ·rw [if_pos c16] at H
     have LMc16 := Ac.mk c16
     clear c16
     obtain ⟨y317, hy317⟩ : ∃ y_ : List Int, y_ = (x3_1 ++ y314) := ⟨_, rfl⟩
     replace H : (some y317) = some r := by first | (rw [hy317]; with_reducible exact H) | (have H2_ := (Option.bind_some _ _).symm.trans H; rw [hy317]; with_reducible exact H2_) | (have H2_ := (Option.bind_some _ _).symm.trans H; with_reducible exact H2_) | with_reducible exact H | (rw [hy317]; exact H) | exact H
     have Ny317 := Ac.mk hy317
     clear hy317
     obtain rfl := Option.some.inj H
     go_wp2_with (first | ((with_reducible refine Dl (N := 28) rfl ?_); refine Kd.Hz (Kd.int .i64) _ 3 ?hg (N := 28) ?hd (xs := ([0, 0] : List Int)) (inner := [.int .i64 0, .int .i64 0]) (ok := fun _ => True) (okp := fun _ => True) ?hr ?hp (fun _ hk => hk) trivial (Below.refl _ _) (Nat.le_refl _) (by simp) ?_; (case hd => rfl); (case hg => rfl); (case hr => first | (go_simp; done) | (go_simp; rfl)); (case hp => exact (Ed.one (show Kd.M (Kd.int .i64) _ _ _ 0 [.int .i64 0] from rfl) (Ed.one (show Kd.M (Kd.int .i64) _ _ _ 0 [.int .i64 0] from rfl) (Ed.none _ _)))); intro v315 w17 ho18 hb hg_ hnew_; clear hg_ hnew_; (first | rw [← Ny314.out] at ho18 | (simp only [Int.reduceToNat] at ho18; rw [← Ny314.out] at ho18)); have n0_ := Ac.mk (Kd.Iq Ycc_ (Kd.R_base ho18) hb); have n1_ := Ac.mk (Kd.Fe Ydj_ hb); have n2_ := Ac.mk (Kd.Gg (Kd.R_new' ho18 (Kd.R_lt Ycc_)) (Ba Yb_)); have n3_ := Ac.mk (Ar Yb_ hb); clear HO_3; clear HO_10; clear HB; have HO_3 := n0_; have HO_10 := n1_; have HO316 := n2_; have HB := n3_; clear n0_ n1_ n2_ n3_; clear hb ho18; obtain ⟨Ao20, co20, eo20⟩ := Kd.Gh HO316.out; subst eo20) | ((with_reducible refine Gz (b := .append) (xs := #[.tmp 27, .tmp 28]) rfl ?_); at_builtin; refine Kd.R_append_rows (Kd.int .i64) (w0 := w) w.heap.size rfl (.tmp 27) (.tmp 28) 43 3 (.int .i64 0) 8 rfl Tryz.underlying43 info3 rfl (by decide) (by omega) u3 x3_1 y314 _ _ _ (fun k_ => some k_ ≠ (.slice Ao20 y314.length co20 : Value).ownBlock) (fun _ => False) rfl rfl ?aO ?aR (fun _ _ h => h) (fun _ h => h.elim) ?aF ?aB ?aS ?aL ?_; (case aR => repeat (first | exact (Kd.Ec HO316.out).2.2 | (with_reducible refine Kd.F5 ?_ _) | (with_reducible refine Kd.F6 ?_ _) | (with_reducible refine Kd.Gj ?_))); (case aB => exact Yb_); (case aF => exact (fun k_ hk => Kd.fresh' (Kd.R_lt (by (with_reducible repeat (first | apply Kd.Cb | apply Kd.Bz | apply Kd.Cm)); exact HO316.out)) k_ hk)); (case aO => exact (by (with_reducible repeat (first | apply Kd.Cb | apply Kd.Bz | apply Kd.Cm)); exact Kd.R_mono HO_3.out (fun _ hk => hk.2))); (case aS => exact (Ba Yb_)); (case aL => have := LMc16.out; omega); intro v318 w19 ho hb hg hat; rw [← Ny317.out] at ho; have n0_ := Ac.mk (Kd.R_over' Ydj_ (Kd.R_typed Ycc_) (by decide) hg); have n1_ := Ac.mk (Kd.R_after (ok := (fun _ => True)) (by (with_reducible repeat (first | apply Kd.Cb | apply Kd.Bz | apply Kd.Cm)); exact HO316.out) hg hat); have n2_ := Ac.mk (hb); have n3_ := Ac.mk (ho); clear HO_10; clear HO316; clear HB; clear HO_3; have HO_10 := n0_; have HO316 := n1_; have HB := n2_; have HO319 := n3_; clear n0_ n1_ n2_ n3_; clear ho hb hg hat))
     go_ret
     exact ⟨_, by first | rfl | (simp [Au, Aw] <;> rfl) | (simp [*, Au, Aw] <;> rfl), by (with_reducible repeat (first | apply Kd.Cb | apply Kd.Bz | apply Kd.Cm)); exact Kd.R_mono HO319.out (fun _ hk => trivial), by repeat (first | (with_reducible first | exact HB.out | apply Ae | apply Aa | apply Ad) | exact HB.out)⟩
    ·rw [if_neg c16] at H
     exact absurd H (by simp)
mutual
def Bc.j0 : Nat → ByteArray → ByteArray → Bool → Option (Int × ByteArray × Int × Int × Bool)
 | 0, _, _, _ => none
 | k + 1, x0, x4, x22 => if x22 = true then (some (0, (⟨#[]⟩ : ByteArray), 0, 0, false)) else (if 8 ≤ (x4.size : Int) then ((D5.f k (x4.extract 8 x4.size)).bind fun t323 => (if 0 < (t323.length : Int) then (if 1 < (t323.length : Int) then (Bc.l0 k x0 x4 (([(⟨1, (⟨#[]⟩ : ByteArray), rd t323 0, 0⟩ : S25), (⟨2, (⟨#[]⟩ : ByteArray), rd t323 0, rd t323 1⟩ : S25), (⟨4, (⟨#[]⟩ : ByteArray), rd t323 0, 0⟩ : S25), (⟨5, (⟨#[]⟩ : ByteArray), rd t323 0, rd t323 1⟩ : S25)] : List (S25))) 1) else (none)) else (none))) else (none))
def Bc.l0 : Nat → ByteArray → ByteArray → List (S25) → Int → Option (Int × ByteArray × Int × Int × Bool)
 | 0, _, _, _, _ => none
 | k + 1, x0, x4, x7, x8 => if x8 ≤ 15 then (if x7.length < 3518437208883 then (Bc.l0 k x0 x4 (x7 ++ [(⟨3, (⟨#[]⟩ : ByteArray), x8, 0⟩ : S25)]) (wrap64 (x8 + 1))) else (none)) else (Bc.l1 k x0 x4 x7 (x7.length : Int) 0)
def Bc.l1 : Nat → ByteArray → ByteArray → List (S25) → Int → Int → Option (Int × ByteArray × Int × Int × Bool)
 | 0, _, _, _, _, _ => none
 | k + 1, x0, x4, x59, x60, x61 => if x61 < x60 then (if 0 ≤ x61 then (if x61 < (x59.length : Int) then (if 0 ≤ 8 then (if 8 ≤ (x4.size : Int) then ((Di.f k ((Az x59 x61).f0) (x4.extract 0 8) ((Az x59 x61).f2) ((Az x59 x61).f3)).bind fun t340 => (if t340 = true then ((Dp.f k ((Az x59 x61).f0) (x4.extract 0 8) ((Az x59 x61).f2) ((Az x59 x61).f3)).bind fun t341 => (if t341.toList = x0.toList then (some ((Az x59 x61).f0, x4.extract 0 8, (Az x59 x61).f2, (Az x59 x61).f3, true)) else (Bc.l1 k x0 x4 x59 x60 (wrap64 (x61 + 1))))) else (Bc.l1 k x0 x4 x59 x60 (wrap64 (x61 + 1))))) else (none)) else (none)) else (none)) else (none)) else (some (0, (⟨#[]⟩ : ByteArray), 0, 0, false))
end
def Bc.f (k : Nat) (a0 : ByteArray) : Option (Int × ByteArray × Int × Int × Bool) := (strings_CutPrefix.f a0 (⟨#[67, 111, 110, 116, 97, 105, 110, 101, 114, 32]⟩ : ByteArray)).bind fun bt321 => (if bt321.2 = true then (Bc.j0 k a0 bt321.1 (decide ((bt321.1.size : Int) < 8))) else (Bc.j0 k a0 bt321.1 true))
theorem Bc.Fa : ∀ k, (∀ y0 y1 y2, LeO (Bc.j0 k y0 y1 y2) (Bc.j0 (k + 1) y0 y1 y2)) ∧ (∀ y0 y1 y2 y3, LeO (Bc.l0 k y0 y1 y2 y3) (Bc.l0 (k + 1) y0 y1 y2 y3)) ∧ (∀ y0 y1 y2 y3 y4, LeO (Bc.l1 k y0 y1 y2 y3 y4) (Bc.l1 (k + 1) y0 y1 y2 y3 y4))
 | 0 => ⟨fun _ _ _ r h => by simp [Bc.j0] at h, fun _ _ _ _ r h => by simp [Bc.l0] at h, fun _ _ _ _ _ r h => by simp [Bc.l1] at h⟩
 | k + 1 => by
  obtain ⟨ih0, ih1, ih2⟩ := Bc.Fa k
  refine ⟨?_, ?_, ?_⟩
  ·intro y0 y1 y2
   unfold Bc.j0
   repeat' first
   | (with_reducible exact ih0 _ _ _)
   | (with_reducible exact ih1 _ _ _ _)
   | (with_reducible exact ih2 _ _ _ _ _)
   | (with_reducible exact Di.mono _ _ _ _ _)
   | (with_reducible exact Dp.mono _ _ _ _ _)
   | (with_reducible exact D5.mono _ _)
   | (with_reducible exact LeO.refl _)
   | (with_reducible exact LeO.none _)
   | (with_reducible refine LeO.ite ?_ ?_)
   | (with_reducible refine LeO.bind ?_ (fun _ => ?_))
   | exact ih0 _ _ _
   | exact ih1 _ _ _ _
   | exact ih2 _ _ _ _ _
   | exact Di.mono _ _ _ _ _
   | exact Dp.mono _ _ _ _ _
   | exact D5.mono _ _
   | exact LeO.none _
   | refine LeO.ite ?_ ?_
   | refine LeO.bind ?_ (fun _ => ?_)
  ·intro y0 y1 y2 y3
   unfold Bc.l0
   repeat' first
   | (with_reducible exact ih0 _ _ _)
   | (with_reducible exact ih1 _ _ _ _)
   | (with_reducible exact ih2 _ _ _ _ _)
   | (with_reducible exact Di.mono _ _ _ _ _)
   | (with_reducible exact Dp.mono _ _ _ _ _)
   | (with_reducible exact D5.mono _ _)
   | (with_reducible exact LeO.refl _)
   | (with_reducible exact LeO.none _)
   | (with_reducible refine LeO.ite ?_ ?_)
   | (with_reducible refine LeO.bind ?_ (fun _ => ?_))
   | exact ih0 _ _ _
   | exact ih1 _ _ _ _
   | exact ih2 _ _ _ _ _
   | exact Di.mono _ _ _ _ _
   | exact Dp.mono _ _ _ _ _
   | exact D5.mono _ _
   | exact LeO.none _
   | refine LeO.ite ?_ ?_
   | refine LeO.bind ?_ (fun _ => ?_)
  ·intro y0 y1 y2 y3 y4
   unfold Bc.l1
   repeat' first
   | (with_reducible exact ih0 _ _ _)
   | (with_reducible exact ih1 _ _ _ _)
   | (with_reducible exact ih2 _ _ _ _ _)
   | (with_reducible exact Di.mono _ _ _ _ _)
   | (with_reducible exact Dp.mono _ _ _ _ _)
   | (with_reducible exact D5.mono _ _)
   | (with_reducible exact LeO.refl _)
   | (with_reducible exact LeO.none _)
   | (with_reducible refine LeO.ite ?_ ?_)
   | (with_reducible refine LeO.bind ?_ (fun _ => ?_))
   | exact ih0 _ _ _
   | exact ih1 _ _ _ _
   | exact ih2 _ _ _ _ _
   | exact Di.mono _ _ _ _ _
   | exact Dp.mono _ _ _ _ _
   | exact D5.mono _ _
   | exact LeO.none _
   | refine LeO.ite ?_ ?_
   | refine LeO.bind ?_ (fun _ => ?_)
theorem Bc.mono : ∀ a0 k, LeO (Bc.f k a0) (Bc.f (k + 1) a0) := by
 intro a0 k
 obtain ⟨ih0, ih1, ih2⟩ := Bc.Fa k
 unfold Bc.f
 repeat' first
   | (with_reducible exact ih0 _ _ _)
   | (with_reducible exact ih1 _ _ _ _)
   | (with_reducible exact ih2 _ _ _ _ _)
   | (with_reducible exact Di.mono _ _ _ _ _)
   | (with_reducible exact Dp.mono _ _ _ _ _)
   | (with_reducible exact D5.mono _ _)
   | (with_reducible exact LeO.refl _)
   | (with_reducible exact LeO.none _)
   | (with_reducible refine LeO.ite ?_ ?_)
   | (with_reducible refine LeO.bind ?_ (fun _ => ?_))
   | exact ih0 _ _ _
   | exact ih1 _ _ _ _
   | exact ih2 _ _ _ _ _
   | exact Di.mono _ _ _ _ _
   | exact Dp.mono _ _ _ _ _
   | exact D5.mono _ _
   | exact LeO.none _
   | refine LeO.ite ?_ ?_
   | refine LeO.bind ?_ (fun _ => ?_)
def Bc.T5 : Bool × List (List Nat × List Nat) := (true, [([], []), ([0], [0]), ([1], [1]), ([2], [2]), ([], []), ([4], [4]), ([5], [5]), ([], []), ([7], [7]), ([8], [8]), ([6, 9], [6, 9]), ([], []), ([11], [11]), ([12], [12]), ([13], [13]), ([], []), ([15], [15]), ([16], [16]), ([], []), ([18], [18]), ([19], [19]), ([17, 20], [17, 20]), ([3, 10, 14, 21], [3, 10, 14, 21]), ([22, 0, 1, 2, 3, 4, 5, 6, 7, 8, 9, 10, 11, 12, 13, 14, 15, 16, 17, 18, 19, 20, 21, 22], [22])])
def Bc.B5 : List Nat := [0, 1, 3, 7, 0, 16, 48, 0, 128, 384, 1008, 0, 2048, 6144, 14336, 0, 32768, 98304, 0, 262144, 786432, 2064384, 4194303, 8388607]
theorem Bc.tab5 : rtab .any (opsOf Tryz.f9 5) = Bc.T5 := by kernel_rfl
theorem Bc.bits5 : Iz Bc.T5.2 Bc.B5 = true := by kernel_rfl
set_option maxHeartbeats 8000000 in
set_option maxRecDepth 100000 in
theorem Bc.calls (k : Nat) (a0 : ByteArray) (r1 : Int) (r2 : ByteArray) (r3 : Int) (r4 : Int) (r5 : Bool) (w : World) (hG : Fp w) (h : Bc.f k a0 = some (r1, r2, r3, r4, r5)) :
  Calls Tryz.prog 9 #[.string a0] w fun e w' => e = .returned (.tuple #[.agg #[.int .i64 r1, .string r2, .int .i64 r3, .int .i64 r4], .bool r5]) ∧ Below w.heap.size w w' := by
 have hu25 := Tryz.underlying25
 have HGL := Ac.mk hG
 clear hG
 have HB := Ac.mk (Below.refl w.heap.size w)
 have H : ((strings_CutPrefix.f a0 (⟨#[67, 111, 110, 116, 97, 105, 110, 101, 114, 32]⟩ : ByteArray)).bind fun bt321 => (if bt321.2 = true then (Bc.j0 k a0 bt321.1 (decide ((bt321.1.size : Int) < 8))) else (Bc.j0 k a0 bt321.1 true))) = some (r1, r2, r3, r4, r5) := h
 clear h
 replace H := Option.bind_eq_some_iff.mp H
 obtain ⟨⟨t321, t322⟩, A20, H⟩ := H
 try dsimp only at H
 have A2 := Ac.mk A20
 clear A20
 have HC3 := Ac.mk H
 clear H
 go_enter Tryz.func9, Tryz.ntmps9
 go_upto_region 2 with (first | ((with_reducible refine Dl (N := 2) rfl ?_); (try (refine G8 (by rfl) ?_; dsimp only)); refine Dz ?hg (N := 2) ?hd (cs := #[.int .i64 0, .string (⟨#[]⟩ : ByteArray), .int .i64 0, .int .i64 0]) (t := 25) ?hr ?_; (case hd => rfl); (case hg => rfl); (case hr => first | (go_simp; done) | (go_simp; rfl)); intro gb0 hg w4 hbox hb; have n0_ := Ac.mk (Ar Yb_ hb); have n1_ := Ac.mk (hbox); have n2_ := Ac.mk ((by rw [hg]; exact (Ba Yb_) : w.heap.size ≤ gb0)); have n3_ := Ac.mk ((by rw [hg]; exact (Ba Yb_) : w.heap.size ≤ gb0)); clear HB; have HB := n0_; have BK0 := n1_; have GW0 := n2_; have GE0 := n3_; clear n0_ n1_ n2_ n3_; clear hb hbox hg) | ((with_reducible refine Ap (f := 25) rfl ?_); refine Bj (some 13) rfl rfl Tryz.func25 (by kernel_rfl) rfl #[.string a0, .string (⟨#[67, 111, 110, 116, 97, 105, 110, 101, 114, 32]⟩ : ByteArray)] rfl Ya_ ?_; (with_reducible refine (strings_CutPrefix.calls a0 (⟨#[67, 111, 110, 116, 97, 105, 110, 101, 114, 32]⟩ : ByteArray) t321 t322 _ A2.out).mono ?_); rintro e w' ⟨rfl, ⟨nd, rfl⟩⟩; refine ⟨_, rfl, ?_⟩))
 (try simp only [Act.put, List.setIfInBounds_toArray, List.set_cons_zero, List.set_cons_succ])
 go_cut [22] (fun v22 wc => ∃ (kq : Nat) (x22_2 : Bool), v22 = .bool x22_2 ∧ Ac (Bc.j0 kq a0 t321 x22_2 = some (r1, r2, r3, r4, r5)) ∧ Ac (kq ≤ k) ∧ Ac (wc.heap[gb0]? = some (.cells #[.int .i64 0, .string (⟨#[]⟩ : ByteArray), .int .i64 0, .int .i64 0] 25 (0, 0))) ∧ Ac (Below w.heap.size w wc))
 case first =>
  have H := HC3.out
  clear HC3
  by_cases c5 : t322 = true
  ·subst c5
   have H1 : (Bc.j0 k a0 t321 (decide ((t321.size : Int) < 8))) = some (r1, r2, r3, r4, r5) := by rw [if_pos rfl] at H; exact H
   clear H
   have H := H1
   clear H1
   have H' := Ac.mk H
   clear H
   go_wp2
   go_meet
   case rel => exact ⟨_, (decide ((t321.size : Int) < 8)), Yf_, H', ⟨by first | omega | exact Nat.le_refl _⟩, ⟨by (with_reducible repeat (first | refine Ag ?_ _ | refine Ah ?_ | refine Af ?_ _)); exact BK0.out⟩, ⟨by repeat (first | (with_reducible first | exact HB.out | apply Ae | apply Aa | apply Ad | refine Am ?_ GE0.out) | exact HB.out)⟩⟩
  ·replace c5 := Bool.eq_false_iff.mpr c5
   subst c5
   have H1 : (Bc.j0 k a0 t321 true) = some (r1, r2, r3, r4, r5) := by rw [if_neg (show ¬ (false = true) by decide)] at H; exact H
   clear H
   have H := H1
   clear H1
   have H' := Ac.mk H
   clear H
   go_wp2
   go_meet
   case rel => exact ⟨_, (true), Yf_, H', ⟨by first | omega | exact Nat.le_refl _⟩, ⟨by (with_reducible repeat (first | refine Ag ?_ _ | refine Ah ?_ | refine Af ?_ _)); exact BK0.out⟩, ⟨by repeat (first | (with_reducible first | exact HB.out | apply Ae | apply Aa | apply Ad | refine Am ?_ GE0.out) | exact HB.out)⟩⟩
 case rest =>
  clear HC3
  try clear c2; try clear p2; try clear c5
  obtain ⟨kq, x22_2, rfl, HA, HJ2, BK0, HB⟩ := hcut
  cases kq with
  | zero => exact absurd HA.out (by simp [Bc.j0])
  | succ kj2 =>
   have H := HA.out
   clear HA
   simp only [Bc.j0] at H
   by_cases c6 : x22_2 = true
   ·subst c6
    have H1 : (some (0, (⟨#[]⟩ : ByteArray), 0, 0, false)) = some (r1, r2, r3, r4, r5) := by rw [if_pos rfl] at H; exact H
    clear H
    have H := H1
    clear H1
    simp only [Option.some.injEq, Prod.mk.injEq] at H
    obtain ⟨rfl, rfl, rfl, rfl, rfl⟩ := H
    have hcz7_0 : wc.cell? ⟨gb0, 0, none⟩ = some (.int .i64 0) := (Ak BK0.out 0).trans rfl
    have hcz7_1 : wc.cell? ⟨gb0, 1, none⟩ = some (.string (⟨#[]⟩ : ByteArray)) := (Ak BK0.out 1).trans rfl
    have hcz7_2 : wc.cell? ⟨gb0, 2, none⟩ = some (.int .i64 0) := (Ak BK0.out 2).trans rfl
    have hcz7_3 : wc.cell? ⟨gb0, 3, none⟩ = some (.int .i64 0) := (Ak BK0.out 3).trans rfl
    have hfz7_0 := Ai BK0.out 0
    have hfz7_1 := Ai BK0.out 1
    have hfz7_2 := Ai BK0.out 2
    have hfz7_3 := Ai BK0.out 3
    go_wp2
    refine bodyPost_ret (Ir rfl _ _ gb0 25 #[.int .i64 0, .string (⟨#[]⟩ : ByteArray), .int .i64 0, .int .i64 0] (0, 0) _ rfl Ybe_ Tryz.underlying25 rfl (by kernel_rfl)) rfl ?_
    exact ⟨by first | rfl | (simp [Au, Aw] <;> rfl) | (simp [*, Au, Aw] <;> rfl), by repeat (first | (with_reducible first | exact HB.out | apply Ae | apply Aa | apply Ad | refine Am ?_ GE0.out) | exact HB.out)⟩
   ·replace c6 := Bool.eq_false_iff.mpr c6
    subst c6
    have H1 : (if 8 ≤ (t321.size : Int) then ((D5.f kj2 (t321.extract 8 t321.size)).bind fun t323 => (if 0 < (t323.length : Int) then (if 1 < (t323.length : Int) then (Bc.l0 kj2 a0 t321 (([(⟨1, (⟨#[]⟩ : ByteArray), rd t323 0, 0⟩ : S25), (⟨2, (⟨#[]⟩ : ByteArray), rd t323 0, rd t323 1⟩ : S25), (⟨4, (⟨#[]⟩ : ByteArray), rd t323 0, 0⟩ : S25), (⟨5, (⟨#[]⟩ : ByteArray), rd t323 0, rd t323 1⟩ : S25)] : List (S25))) 1) else (none)) else (none))) else (none)) = some (r1, r2, r3, r4, r5) := by rw [if_neg (show ¬ (false = true) by decide)] at H; exact H
    clear H
    have H := H1
    clear H1
    by_cases c8 : 8 ≤ (t321.size : Int)
    ·rw [if_pos c8] at H
     have c8b0 := eq_true c8
     have c8b1 : decide (8 ≤ (t321.size : Int)) = true := decide_eq_true c8
     clear c8
     replace H := Option.bind_eq_some_iff.mp H
     obtain ⟨t323, A90, H⟩ := H
     try dsimp only at H
     have A9 := Ac.mk A90
     clear A90
     by_cases c10 : 0 < (t323.length : Int)
     ·rw [if_pos c10] at H
      have c10b0 : decide (0 < (t323.length : Int)) = true := decide_eq_true c10
      have c10b1 : decide (0 < t323.length) = true := decide_eq_true (by omega)
      clear c10
      by_cases c11 : 1 < (t323.length : Int)
      ·rw [if_pos c11] at H
       have c11b0 : decide (1 < (t323.length : Int)) = true := decide_eq_true c11
       have c11b1 : decide (1 < t323.length) = true := decide_eq_true (by omega)
       clear c11
       obtain ⟨y332, hy332⟩ : ∃ y_ : List (S25), y_ = (([(⟨1, (⟨#[]⟩ : ByteArray), rd t323 0, 0⟩ : S25), (⟨2, (⟨#[]⟩ : ByteArray), rd t323 0, rd t323 1⟩ : S25), (⟨4, (⟨#[]⟩ : ByteArray), rd t323 0, 0⟩ : S25), (⟨5, (⟨#[]⟩ : ByteArray), rd t323 0, rd t323 1⟩ : S25)] : List (S25))) := ⟨_, rfl⟩
       replace H : (Bc.l0 kj2 a0 t321 y332 1) = some (r1, r2, r3, r4, r5) := by first | (rw [hy332]; with_reducible exact H) | (have H2_ := (Option.bind_some _ _).symm.trans H; rw [hy332]; with_reducible exact H2_) | (have H2_ := (Option.bind_some _ _).symm.trans H; with_reducible exact H2_) | with_reducible exact H | (rw [hy332]; exact H) | exact H
       have Ny332 := Ac.mk hy332
       clear hy332
       have H' := Ac.mk H
       clear H
       try go_wp2_with (first | ((with_reducible refine Ap (f := 26) rfl ?_); refine Bj (some 26) rfl rfl Tryz.func26 (by kernel_rfl) rfl #[.string (t321.extract 8 t321.size)] rfl Ya_ ?_; (with_reducible refine (D5.calls kj2 (t321.extract 8 t321.size) t323 _ ?side1 A9.out).mono ?_); (case side1 => exact Fp.below HGL.out Yc_); rintro e w12 ⟨v324, rfl, ho0, hb⟩; refine ⟨_, rfl, ?_⟩; have n0_ := Ac.mk (Kd.Gg ho0 (Ba Yc_)); have n1_ := Ac.mk (Bi (g := gb0) (o := .cells #[.int .i64 0, .string (⟨#[]⟩ : ByteArray), .int .i64 0, .int .i64 0] 25 (0, 0)) Yd_ hb); have n2_ := Ac.mk (Ar Yc_ hb); clear BK0; clear HB; have HO325 := n0_; have BK0 := n1_; have HB := n2_; clear n0_ n1_ n2_; (try clear hb); (try clear hb2); (try clear hk); (try clear hi); (try clear ho0)))
       have n0_ := Ac.mk (Kd.Cm HO325.out)
       have n1_ := Ac.mk (Ah BK0.out)
       have n2_ := Ac.mk (Ad HB.out)
       clear HO325
       clear BK0
       clear HB
       have HO325 := n0_
       have BK0 := n1_
       have HB := n2_
       clear n0_ n1_ n2_
       obtain ⟨Ao14, co14, eo14⟩ := Kd.Gh HO325.out
       (first | subst eo14 | (injection eo14 with f1_ f2_ f3_; have f4_ := f1_.symm; have f5_ := f3_.symm; clear f1_ f2_ f3_; subst f4_; subst f5_))
       have p326 : 0 ≤ (0 : Int) := (by omega)
       have q326 : 0 < (t323.length : Int) := of_decide_eq_true Ye_
       obtain ⟨ad326, e326, hx326_0⟩ := Kd.at_int (Kd.Ec HO325.out).2.2 0 p326 q326
       cases e326
       have qi326 : (0 < t323.length) = True := eq_true (by omega)
       (try rw [show ((0 : Int)).toNat = 0 from rfl] at hx326_0)
       (try rw [Addr.add_zero'] at hx326_0)
       replace p326 := eq_true p326
       replace q326 := eq_true q326
       have p327 : 0 ≤ (0 : Int) := (by omega)
       have q327 : 0 < (t323.length : Int) := of_decide_eq_true Ye_
       obtain ⟨ad327, e327, hx327_0⟩ := Kd.at_int (Kd.Ec HO325.out).2.2 0 p327 q327
       obtain rfl : ad326 = ad327 := (by injection e327)
       have qi327 : (0 < t323.length) = True := eq_true (by omega)
       (try rw [show ((0 : Int)).toNat = 0 from rfl] at hx327_0)
       (try rw [Addr.add_zero'] at hx327_0)
       replace p327 := eq_true p327
       replace q327 := eq_true q327
       have p328 : 0 ≤ (1 : Int) := (by omega)
       have q328 : 1 < (t323.length : Int) := of_decide_eq_true Ye_
       obtain ⟨ad328, e328, hx328_0⟩ := Kd.at_int (Kd.Ec HO325.out).2.2 1 p328 q328
       obtain rfl : ad326 = ad328 := (by injection e328)
       (try simp only [show (1 : Int).toNat = 1 from rfl, Nat.reduceMul, Nat.reduceEqDiff, Go.Addr.add, ↓reduceIte] at hx328_0)
       have qi328 : (1 < t323.length) = True := eq_true (by omega)
       (try rw [show ((1 : Int)).toNat = 1 from rfl] at hx328_0)
       replace p328 := eq_true p328
       replace q328 := eq_true q328
       have p329 : 0 ≤ (0 : Int) := (by omega)
       have q329 : 0 < (t323.length : Int) := of_decide_eq_true Ye_
       obtain ⟨ad329, e329, hx329_0⟩ := Kd.at_int (Kd.Ec HO325.out).2.2 0 p329 q329
       obtain rfl : ad326 = ad329 := (by injection e329)
       have qi329 : (0 < t323.length) = True := eq_true (by omega)
       (try rw [show ((0 : Int)).toNat = 0 from rfl] at hx329_0)
       (try rw [Addr.add_zero'] at hx329_0)
       replace p329 := eq_true p329
       replace q329 := eq_true q329
       have p330 : 0 ≤ (0 : Int) := (by omega)
       have q330 : 0 < (t323.length : Int) := of_decide_eq_true Ye_
       obtain ⟨ad330, e330, hx330_0⟩ := Kd.at_int (Kd.Ec HO325.out).2.2 0 p330 q330
       obtain rfl : ad326 = ad330 := (by injection e330)
       have qi330 : (0 < t323.length) = True := eq_true (by omega)
       (try rw [show ((0 : Int)).toNat = 0 from rfl] at hx330_0)
       (try rw [Addr.add_zero'] at hx330_0)
       replace p330 := eq_true p330
       replace q330 := eq_true q330
       have p331 : 0 ≤ (1 : Int) := (by omega)
       have q331 : 1 < (t323.length : Int) := of_decide_eq_true Ye_
       obtain ⟨ad331, e331, hx331_0⟩ := Kd.at_int (Kd.Ec HO325.out).2.2 1 p331 q331
       obtain rfl : ad326 = ad331 := (by injection e331)
       (try simp only [show (1 : Int).toNat = 1 from rfl, Nat.reduceMul, Nat.reduceEqDiff, Go.Addr.add, ↓reduceIte] at hx331_0)
       have qi331 : (1 < t323.length) = True := eq_true (by omega)
       (try rw [show ((1 : Int)).toNat = 1 from rfl] at hx331_0)
       replace p331 := eq_true p331
       replace q331 := eq_true q331
       refine start_ (n := 24) (S := fun w' => w'.cell? ad326 = some (.int .i64 (rd t323 0)) ∧ w'.cell? ad326 = some (.int .i64 (rd t323 0)) ∧ w'.cell? ⟨ad326.block, ad326.off + 1, none⟩ = some (.int .i64 (rd t323 1)) ∧ w'.cell? ad326 = some (.int .i64 (rd t323 0)) ∧ w'.cell? ad326 = some (.int .i64 (rd t323 0)) ∧ w'.cell? ⟨ad326.block, ad326.off + 1, none⟩ = some (.int .i64 (rd t323 1))) (ds := []) #[false, false, false, false, false, false, false, false, false, false, false, false, false, false, false, false, false, false, false, false, false, false, false, false] (by kernel_rfl) rfl rfl ⟨hx326_0, hx327_0, hx328_0, hx329_0, hx330_0, hx331_0⟩ (fun hHeld => ?_); refine H9 Bc.tab5 Bc.bits5 (fun HT_ HW_ => ?_)
       generalize w12.drew = w13 at HO325 BK0 HB hx326_0 hx327_0 hx328_0 hx329_0 hx330_0 hx331_0 hHeld ⊢
       refine Fb (i := 0) (N := some 27) (v := ?_) (a' := ?_) #[true, false, false, false, false, false, false, false, false, false, false, false, false, false, false, false, false, false, false, false, false, false, false, false] rfl rfl (Ew HT_.out (by kernel_rfl)) (fun _ _ _ h => h) (Or.inl ⟨by rfl, ?_⟩) ?_ ?_
       rotate_left
       ·intro w'
        go_simp
        with_reducible rfl
       rotate_left
       ·simp only [Act.put, List.setIfInBounds_toArray, List.set_cons_zero, List.set_cons_succ, Dw, Dy]
        rfl
       refine Fb (i := 1) (N := some 28) (v := ?_) (a' := ?_) #[true, true, false, false, false, false, false, false, false, false, false, false, false, false, false, false, false, false, false, false, false, false, false, false] rfl rfl (Ew HT_.out (by kernel_rfl)) (fun _ _ _ h => h) (Or.inl ⟨by rfl, ?_⟩) ?_ ?_
       rotate_left
       ·intro w'
        go_simp
        with_reducible rfl
       rotate_left
       ·simp only [Act.put, List.setIfInBounds_toArray, List.set_cons_zero, List.set_cons_succ, Dw, Dy]
        rfl
       refine Fb (i := 4) (N := some 31) (v := ?_) (a' := ?_) #[true, true, false, false, true, false, false, false, false, false, false, false, false, false, false, false, false, false, false, false, false, false, false, false] rfl rfl (Ew HT_.out (by kernel_rfl)) (fun _ _ _ h => h) (Or.inl ⟨by rfl, ?_⟩) ?_ ?_
       rotate_left
       ·intro w'
        go_simp
        with_reducible rfl
       rotate_left
       ·simp only [Act.put, List.setIfInBounds_toArray, List.set_cons_zero, List.set_cons_succ, Dw, Dy]
        rfl
       refine Fb (i := 5) (N := some 32) (v := ?_) (a' := ?_) #[true, true, false, false, true, true, false, false, false, false, false, false, false, false, false, false, false, false, false, false, false, false, false, false] rfl rfl (Ew HT_.out (by kernel_rfl)) (fun _ _ _ h => h) (Or.inl ⟨by rfl, ?_⟩) ?_ ?_
       rotate_left
       ·intro w'
        go_simp
        with_reducible rfl
       rotate_left
       ·simp only [Act.put, List.setIfInBounds_toArray, List.set_cons_zero, List.set_cons_succ, Dw, Dy]
        rfl
       refine Fb (i := 7) (N := some 34) (v := ?_) (a' := ?_) #[true, true, false, false, true, true, false, true, false, false, false, false, false, false, false, false, false, false, false, false, false, false, false, false] rfl rfl (Ew HT_.out (by kernel_rfl)) (fun _ _ _ h => h) (Or.inl ⟨by rfl, ?_⟩) ?_ ?_
       rotate_left
       ·intro w'
        go_simp
        with_reducible rfl
       rotate_left
       ·simp only [Act.put, List.setIfInBounds_toArray, List.set_cons_zero, List.set_cons_succ, Dw, Dy]
        rfl
       refine Fb (i := 8) (N := some 35) (v := ?_) (a' := ?_) #[true, true, false, false, true, true, false, true, true, false, false, false, false, false, false, false, false, false, false, false, false, false, false, false] rfl rfl (Ew HT_.out (by kernel_rfl)) (fun _ _ _ h => h) (Or.inl ⟨by rfl, ?_⟩) ?_ ?_
       rotate_left
       ·intro w'
        go_simp
        with_reducible rfl
       rotate_left
       ·simp only [Act.put, List.setIfInBounds_toArray, List.set_cons_zero, List.set_cons_succ, Dw, Dy]
        rfl
       refine Fb (i := 11) (N := some 38) (v := ?_) (a' := ?_) #[true, true, false, false, true, true, false, true, true, false, false, true, false, false, false, false, false, false, false, false, false, false, false, false] rfl rfl (Ew HT_.out (by kernel_rfl)) (fun _ _ _ h => h) (Or.inl ⟨by rfl, ?_⟩) ?_ ?_
       rotate_left
       ·intro w'
        go_simp
        with_reducible rfl
       rotate_left
       ·simp only [Act.put, List.setIfInBounds_toArray, List.set_cons_zero, List.set_cons_succ, Dw, Dy]
        rfl
       refine Fb (i := 12) (N := some 39) (v := ?_) (a' := ?_) #[true, true, false, false, true, true, false, true, true, false, false, true, true, false, false, false, false, false, false, false, false, false, false, false] rfl rfl (Ew HT_.out (by kernel_rfl)) (fun _ _ _ h => h) (Or.inl ⟨by rfl, ?_⟩) ?_ ?_
       rotate_left
       ·intro w'
        go_simp
        with_reducible rfl
       rotate_left
       ·simp only [Act.put, List.setIfInBounds_toArray, List.set_cons_zero, List.set_cons_succ, Dw, Dy]
        rfl
       refine Fb (i := 15) (N := some 42) (v := ?_) (a' := ?_) #[true, true, false, false, true, true, false, true, true, false, false, true, true, false, false, true, false, false, false, false, false, false, false, false] rfl rfl (Ew HT_.out (by kernel_rfl)) (fun _ _ _ h => h) (Or.inl ⟨by rfl, ?_⟩) ?_ ?_
       rotate_left
       ·intro w'
        go_simp
        with_reducible rfl
       rotate_left
       ·simp only [Act.put, List.setIfInBounds_toArray, List.set_cons_zero, List.set_cons_succ, Dw, Dy]
        rfl
       refine Fb (i := 16) (N := some 43) (v := ?_) (a' := ?_) #[true, true, false, false, true, true, false, true, true, false, false, true, true, false, false, true, true, false, false, false, false, false, false, false] rfl rfl (Ew HT_.out (by kernel_rfl)) (fun _ _ _ h => h) (Or.inl ⟨by rfl, ?_⟩) ?_ ?_
       rotate_left
       ·intro w'
        go_simp
        with_reducible rfl
       rotate_left
       ·simp only [Act.put, List.setIfInBounds_toArray, List.set_cons_zero, List.set_cons_succ, Dw, Dy]
        rfl
       refine Fb (i := 18) (N := some 45) (v := ?_) (a' := ?_) #[true, true, false, false, true, true, false, true, true, false, false, true, true, false, false, true, true, false, true, false, false, false, false, false] rfl rfl (Ew HT_.out (by kernel_rfl)) (fun _ _ _ h => h) (Or.inl ⟨by rfl, ?_⟩) ?_ ?_
       rotate_left
       ·intro w'
        go_simp
        with_reducible rfl
       rotate_left
       ·simp only [Act.put, List.setIfInBounds_toArray, List.set_cons_zero, List.set_cons_succ, Dw, Dy]
        rfl
       refine Fb (i := 19) (N := some 46) (v := ?_) (a' := ?_) #[true, true, false, false, true, true, false, true, true, false, false, true, true, false, false, true, true, false, true, true, false, false, false, false] rfl rfl (Ew HT_.out (by kernel_rfl)) (fun _ _ _ h => h) (Or.inl ⟨by rfl, ?_⟩) ?_ ?_
       rotate_left
       ·intro w'
        go_simp
        with_reducible rfl
       rotate_left
       ·simp only [Act.put, List.setIfInBounds_toArray, List.set_cons_zero, List.set_cons_succ, Dw, Dy]
        rfl
       refine He (i := 2) (N := some 29) (v := ?_) (a' := ?_) #[true, true, true, false, true, true, false, true, true, false, false, true, true, false, false, true, true, false, true, true, false, false, false, false] rfl rfl (Gs HT_.out HW_.out (by kernel_rfl)) (fun _ _ _ h => h) (Or.inl ⟨by rfl, ?_⟩) hHeld ?_ ?_
       rotate_left
       ·rintro w' ⟨s0, s1, s2, s3, s4, s5⟩
        go_simp
        with_reducible rfl
       rotate_left
       ·simp only [Act.put, List.setIfInBounds_toArray, List.set_cons_zero, List.set_cons_succ, Dw, Dy]
        rfl
       refine Fb (i := 3) (N := some 30) (v := ?_) (a' := ?_) #[true, true, true, true, true, true, false, true, true, false, false, true, true, false, false, true, true, false, true, true, false, false, false, false] rfl rfl (Ew HT_.out (by kernel_rfl)) (fun _ _ _ h => h) (Or.inl ⟨by rfl, ?_⟩) ?_ ?_
       rotate_left
       ·intro w'
        go_simp
        with_reducible rfl
       rotate_left
       ·simp only [Act.put, List.setIfInBounds_toArray, List.set_cons_zero, List.set_cons_succ, Dw, Dy]
        rfl
       refine He (i := 6) (N := some 33) (v := ?_) (a' := ?_) #[true, true, true, true, true, true, true, true, true, false, false, true, true, false, false, true, true, false, true, true, false, false, false, false] rfl rfl (Gs HT_.out HW_.out (by kernel_rfl)) (fun _ _ _ h => h) (Or.inl ⟨by rfl, ?_⟩) hHeld ?_ ?_
       rotate_left
       ·rintro w' ⟨s0, s1, s2, s3, s4, s5⟩
        go_simp
        with_reducible rfl
       rotate_left
       ·simp only [Act.put, List.setIfInBounds_toArray, List.set_cons_zero, List.set_cons_succ, Dw, Dy]
        rfl
       refine He (i := 9) (N := some 36) (v := ?_) (a' := ?_) #[true, true, true, true, true, true, true, true, true, true, false, true, true, false, false, true, true, false, true, true, false, false, false, false] rfl rfl (Gs HT_.out HW_.out (by kernel_rfl)) (fun _ _ _ h => h) (Or.inl ⟨by rfl, ?_⟩) hHeld ?_ ?_
       rotate_left
       ·rintro w' ⟨s0, s1, s2, s3, s4, s5⟩
        go_simp
        with_reducible rfl
       rotate_left
       ·simp only [Act.put, List.setIfInBounds_toArray, List.set_cons_zero, List.set_cons_succ, Dw, Dy]
        rfl
       refine Fb (i := 10) (N := some 37) (v := ?_) (a' := ?_) #[true, true, true, true, true, true, true, true, true, true, true, true, true, false, false, true, true, false, true, true, false, false, false, false] rfl rfl (Ew HT_.out (by kernel_rfl)) (fun _ _ _ h => h) (Or.inl ⟨by rfl, ?_⟩) ?_ ?_
       rotate_left
       ·intro w'
        go_simp
        with_reducible rfl
       rotate_left
       ·simp only [Act.put, List.setIfInBounds_toArray, List.set_cons_zero, List.set_cons_succ, Dw, Dy]
        rfl
       refine He (i := 13) (N := some 40) (v := ?_) (a' := ?_) #[true, true, true, true, true, true, true, true, true, true, true, true, true, true, false, true, true, false, true, true, false, false, false, false] rfl rfl (Gs HT_.out HW_.out (by kernel_rfl)) (fun _ _ _ h => h) (Or.inl ⟨by rfl, ?_⟩) hHeld ?_ ?_
       rotate_left
       ·rintro w' ⟨s0, s1, s2, s3, s4, s5⟩
        go_simp
        with_reducible rfl
       rotate_left
       ·simp only [Act.put, List.setIfInBounds_toArray, List.set_cons_zero, List.set_cons_succ, Dw, Dy]
        rfl
       refine Fb (i := 14) (N := some 41) (v := ?_) (a' := ?_) #[true, true, true, true, true, true, true, true, true, true, true, true, true, true, true, true, true, false, true, true, false, false, false, false] rfl rfl (Ew HT_.out (by kernel_rfl)) (fun _ _ _ h => h) (Or.inl ⟨by rfl, ?_⟩) ?_ ?_
       rotate_left
       ·intro w'
        go_simp
        with_reducible rfl
       rotate_left
       ·simp only [Act.put, List.setIfInBounds_toArray, List.set_cons_zero, List.set_cons_succ, Dw, Dy]
        rfl
       refine He (i := 17) (N := some 44) (v := ?_) (a' := ?_) #[true, true, true, true, true, true, true, true, true, true, true, true, true, true, true, true, true, true, true, true, false, false, false, false] rfl rfl (Gs HT_.out HW_.out (by kernel_rfl)) (fun _ _ _ h => h) (Or.inl ⟨by rfl, ?_⟩) hHeld ?_ ?_
       rotate_left
       ·rintro w' ⟨s0, s1, s2, s3, s4, s5⟩
        go_simp
        with_reducible rfl
       rotate_left
       ·simp only [Act.put, List.setIfInBounds_toArray, List.set_cons_zero, List.set_cons_succ, Dw, Dy]
        rfl
       refine He (i := 20) (N := some 47) (v := ?_) (a' := ?_) #[true, true, true, true, true, true, true, true, true, true, true, true, true, true, true, true, true, true, true, true, true, false, false, false] rfl rfl (Gs HT_.out HW_.out (by kernel_rfl)) (fun _ _ _ h => h) (Or.inl ⟨by rfl, ?_⟩) hHeld ?_ ?_
       rotate_left
       ·rintro w' ⟨s0, s1, s2, s3, s4, s5⟩
        go_simp
        with_reducible rfl
       rotate_left
       ·simp only [Act.put, List.setIfInBounds_toArray, List.set_cons_zero, List.set_cons_succ, Dw, Dy]
        rfl
       refine Fb (i := 21) (N := some 48) (v := ?_) (a' := ?_) #[true, true, true, true, true, true, true, true, true, true, true, true, true, true, true, true, true, true, true, true, true, true, false, false] rfl rfl (Ew HT_.out (by kernel_rfl)) (fun _ _ _ h => h) (Or.inl ⟨by rfl, ?_⟩) ?_ ?_
       rotate_left
       ·intro w'
        go_simp
        with_reducible rfl
       rotate_left
       ·simp only [Act.put, List.setIfInBounds_toArray, List.set_cons_zero, List.set_cons_succ, Dw, Dy]
        rfl
       refine one_ (i := 22) (N := some 49) #[true, true, true, true, true, true, true, true, true, true, true, true, true, true, true, true, true, true, true, true, true, true, true, false] rfl rfl (Hg HT_.out (by kernel_rfl)) (by decide) (fun K hK => ?_)
       refine Kd.R_lit_step k25 _ 25 ?hg (N := 49) ?hd (xs := ([(⟨1, (⟨#[]⟩ : ByteArray), rd t323 0, 0⟩ : S25), (⟨2, (⟨#[]⟩ : ByteArray), rd t323 0, rd t323 1⟩ : S25), (⟨4, (⟨#[]⟩ : ByteArray), rd t323 0, 0⟩ : S25), (⟨5, (⟨#[]⟩ : ByteArray), rd t323 0, rd t323 1⟩ : S25)] : List (S25))) (inner := [.int .i64 1, .string (⟨#[]⟩ : ByteArray), .int .i64 (rd t323 0), .int .i64 0, .int .i64 2, .string (⟨#[]⟩ : ByteArray), .int .i64 (rd t323 0), .int .i64 (rd t323 1), .int .i64 4, .string (⟨#[]⟩ : ByteArray), .int .i64 (rd t323 0), .int .i64 0, .int .i64 5, .string (⟨#[]⟩ : ByteArray), .int .i64 (rd t323 0), .int .i64 (rd t323 1)]) (ok := fun _ => True) (okp := fun _ => True) ?hr ?hp (fun _ hk => hk) trivial (Below.refl _ _) (Nat.le_refl _) (by simp) ?_; (case hd => rfl); (case hg => rfl); (case hr => first | (go_simp; done) | (go_simp; rfl)); (case hp => exact (Ed.c4 (show Kd.M k25 _ _ _ (⟨1, (⟨#[]⟩ : ByteArray), rd t323 0, 0⟩ : S25) [.int .i64 1, .string (⟨#[]⟩ : ByteArray), .int .i64 (rd t323 0), .int .i64 0] from (Ic _ _ _ (⟨1, (⟨#[]⟩ : ByteArray), rd t323 0, 0⟩ : S25) )) (Ed.c4 (show Kd.M k25 _ _ _ (⟨2, (⟨#[]⟩ : ByteArray), rd t323 0, rd t323 1⟩ : S25) [.int .i64 2, .string (⟨#[]⟩ : ByteArray), .int .i64 (rd t323 0), .int .i64 (rd t323 1)] from (Ic _ _ _ (⟨2, (⟨#[]⟩ : ByteArray), rd t323 0, rd t323 1⟩ : S25) )) (Ed.c4 (show Kd.M k25 _ _ _ (⟨4, (⟨#[]⟩ : ByteArray), rd t323 0, 0⟩ : S25) [.int .i64 4, .string (⟨#[]⟩ : ByteArray), .int .i64 (rd t323 0), .int .i64 0] from (Ic _ _ _ (⟨4, (⟨#[]⟩ : ByteArray), rd t323 0, 0⟩ : S25) )) (Ed.c4 (show Kd.M k25 _ _ _ (⟨5, (⟨#[]⟩ : ByteArray), rd t323 0, rd t323 1⟩ : S25) [.int .i64 5, .string (⟨#[]⟩ : ByteArray), .int .i64 (rd t323 0), .int .i64 (rd t323 1)] from (Ic _ _ _ (⟨5, (⟨#[]⟩ : ByteArray), rd t323 0, rd t323 1⟩ : S25) )) (Ed.none _ _))))))
       intro v333 w15 ho16 hb hg_ hnew_
       have HS0_ := (hb.cell (World.block_lt_of_cell? _ _ (hHeld.1))).trans (hHeld.1)
       have HS1_ := (hb.cell (World.block_lt_of_cell? _ _ (hHeld.2.1))).trans (hHeld.2.1)
       have HS2_ := (hb.cell (World.block_lt_of_cell? _ _ (hHeld.2.2.1))).trans (hHeld.2.2.1)
       have HS3_ := (hb.cell (World.block_lt_of_cell? _ _ (hHeld.2.2.2.1))).trans (hHeld.2.2.2.1)
       have HS4_ := (hb.cell (World.block_lt_of_cell? _ _ (hHeld.2.2.2.2.1))).trans (hHeld.2.2.2.2.1)
       have HS5_ := (hb.cell (World.block_lt_of_cell? _ _ (hHeld.2.2.2.2.2))).trans (hHeld.2.2.2.2.2)
       clear hg_ hnew_
       (first | rw [← Ny332.out] at ho16 | (simp only [Int.reduceToNat] at ho16; rw [← Ny332.out] at ho16))
       have n0_ := Ac.mk (Kd.Fe (by (with_reducible repeat (first | apply Kd.Cb | apply Kd.Bz | apply Kd.Cm)); exact HO325.out) hb)
       have n1_ := Ac.mk (Kd.Gg (Kd.H5 ho16 (g := gb0) (o := .cells #[.int .i64 0, .string (⟨#[]⟩ : ByteArray), .int .i64 0, .int .i64 0] 25 (0, 0)) Yd_) (Ba Yc_))
       have n2_ := Ac.mk (Bi (g := gb0) (o := .cells #[.int .i64 0, .string (⟨#[]⟩ : ByteArray), .int .i64 0, .int .i64 0] 25 (0, 0)) Yd_ hb)
       have n3_ := Ac.mk (Ar Yc_ hb)
       clear HO325
       clear BK0
       clear HB
       have HO325 := n0_
       have HO334 := n1_
       have BK0 := n2_
       have HB := n3_
       clear n0_ n1_ n2_ n3_
       clear hb ho16
       refine hK.out _ _ ⟨HS0_, HS1_, HS2_, HS3_, HS4_, HS5_⟩ (fun hHeld => ?_)
       clear hK K
       refine norm_ (a' := ?_) ?_ ?_
       rotate_left
       ·show Act.put _ (some 49) _ = _
        simp only [Act.put, List.setIfInBounds_toArray, List.set_cons_zero, List.set_cons_succ, Dw, Dy]
        rfl
       refine Fb (i := 23) (N := some 7) (v := ?_) (a' := ?_) #[true, true, true, true, true, true, true, true, true, true, true, true, true, true, true, true, true, true, true, true, true, true, true, true] rfl rfl (Ew HT_.out (by kernel_rfl)) (fun _ _ _ h => h) (Or.inl ⟨by rfl, ?_⟩) ?_ ?_
       rotate_left
       ·intro w'
        go_simp
        with_reducible rfl
       rotate_left
       ·simp only [Act.put, List.setIfInBounds_toArray, List.set_cons_zero, List.set_cons_succ, Dw, Dy]
        rfl
       refine done_ (Io HT_.out (by kernel_rfl)) ?_
       try go_wp2
       go_loopg [7, 8] kj2 (fun kq v7 v8 w' => ∃ (x7_2 : List (S25)) (x8_2 : Int), v8 = .int .i64 x8_2 ∧ Ac (Bc.l0 kq a0 t321 x7_2 x8_2 = some (r1, r2, r3, r4, r5)) ∧ Ac (kq ≤ kj2) ∧ Ac (Kd.R k25 25 w' w.heap.size (fun k_ => k_ ≠ gb0) v7 x7_2) ∧ Ac (w'.heap[gb0]? = some (.cells #[.int .i64 0, .string (⟨#[]⟩ : ByteArray), .int .i64 0, .int .i64 0] 25 (0, 0))) ∧ Ac (Below w.heap.size w w'))
       case atStart => exact ⟨(y332), (1), Yf_, H', ⟨Nat.le_refl _⟩, ⟨by (with_reducible repeat (first | apply Kd.Cb | apply Kd.Bz | apply Kd.Cm)); exact Kd.R_mono HO334.out (fun _ hk => hk.2)⟩, ⟨by (with_reducible repeat (first | refine Ag ?_ _ | refine Ah ?_ | refine Af ?_ _)); exact BK0.out⟩, ⟨by repeat (first | (with_reducible first | exact HB.out | apply Ae | apply Aa | apply Ad | refine Am ?_ GE0.out) | exact HB.out)⟩⟩
       case round =>
        clear H'
        try clear c1; try clear c2; try clear p2; try clear p3; try clear q3; try clear hx3; try clear qi3; try clear c4; try clear c5; try clear c6; try clear c8; try clear c8b0; try clear c8b1; try clear c9; try clear c10; try clear c10b0; try clear c10b1; try clear c11; try clear c11b0; try clear c11b1; try clear hcz7_0; try clear hcz7_1; try clear hcz7_2; try clear hcz7_3; try clear hfz7_0; try clear hfz7_1; try clear hfz7_2; try clear hfz7_3; try clear hx326_0; try clear hx327_0; try clear hx328_0; try clear hx329_0; try clear hx330_0; try clear hx331_0; try clear p2; try clear p326; try clear p327; try clear p328; try clear p329; try clear p330; try clear p331; try clear q326; try clear q327; try clear q328; try clear q329; try clear q330; try clear q331
        obtain ⟨x7_2, x8_2, rfl, HA, HK2, HO_7, BK0, HB⟩ := hrel
        cases gk with
        | zero => exact absurd HA.out (by simp [Bc.l0])
        | succ k2 =>
         have H := HA.out
         clear HA
         simp only [Bc.l0] at H
         by_cases c17 : x8_2 ≤ 15
         ·rw [if_pos c17] at H
          have c17b0 : decide (x8_2 ≤ 15) = true := decide_eq_true c17
          clear c17
          by_cases c18 : x7_2.length < 3518437208883
          ·rw [if_pos c18] at H
           have LMc18 := Ac.mk c18
           clear c18
           obtain ⟨y335, hy335⟩ : ∃ y_ : List (S25), y_ = (x7_2 ++ [(⟨3, (⟨#[]⟩ : ByteArray), x8_2, 0⟩ : S25)]) := ⟨_, rfl⟩
           replace H : (Bc.l0 k2 a0 t321 y335 (wrap64 (x8_2 + 1))) = some (r1, r2, r3, r4, r5) := by first | (rw [hy335]; with_reducible exact H) | (have H2_ := (Option.bind_some _ _).symm.trans H; rw [hy335]; with_reducible exact H2_) | (have H2_ := (Option.bind_some _ _).symm.trans H; with_reducible exact H2_) | with_reducible exact H | (rw [hy335]; exact H) | exact H
           have Ny335 := Ac.mk hy335
           clear hy335
           have H' := Ac.mk H
           clear H
           go_wp2_with (first | ((with_reducible refine Gz (b := .append) (xs := #[.tmp 54, .tmp 57]) rfl ?_); (try (refine G8 (by rfl) ?_; dsimp only)); at_builtin; refine Kd.Ia k25 (w0 := w) w.heap.size rfl (.tmp 54) (.tmp 57) 33 25 (.agg #[(.int .i64 0), (.string ⟨#[]⟩), (.int .i64 0), (.int .i64 0)]) 40 rfl Tryz.underlying33 info25 rfl (by decide) (by omega) u7 x7_2 (⟨3, (⟨#[]⟩ : ByteArray), x8_2, 0⟩ : S25) [.int .i64 3, .string (⟨#[]⟩ : ByteArray), .int .i64 x8_2, .int .i64 0] (fun k_ => k_ ≠ gb0) (fun _ => False) rfl rfl ?aP (fun _ hk => hk.elim) ?aF ?aO ?aB ?aS ?aL ?_; (case aP => exact Ic _ _ _ (⟨3, (⟨#[]⟩ : ByteArray), x8_2, 0⟩ : S25)); (case aB => exact Yc_); (case aF => exact (fun k_ hk => Kd.freshB (g := gb0) (o := .cells #[.int .i64 0, .string (⟨#[]⟩ : ByteArray), .int .i64 0, .int .i64 0] 25 (0, 0)) Yd_ k_ hk)); (case aO => exact (by (with_reducible repeat (first | apply Kd.Cb | apply Kd.Bz | apply Kd.Cm)); exact HO_7.out)); (case aS => exact (Ba Yc_)); (case aL => have := LMc18.out; omega); intro v336 w19 ho hb hg hat; rw [← Ny335.out] at ho; have n0_ := Ac.mk (Ib (g := gb0) (o := .cells #[.int .i64 0, .string (⟨#[]⟩ : ByteArray), .int .i64 0, .int .i64 0] 25 (0, 0)) Yd_ hg (Kd.R_away HO_7.out (fun _ hk => hk))); have n1_ := Ac.mk (hb); have n2_ := Ac.mk (ho); clear BK0; clear HB; clear HO_7; have BK0 := n0_; have HB := n1_; have HO337 := n2_; clear n0_ n1_ n2_; clear ho hb hg hat))
           go_roundg k2
           case measure => have := HJ2.out; have := HK2.out; omega
           case rel => exact ⟨(y335), (wrap64 (x8_2 + 1)), Yf_, H', ⟨by have := HJ2.out; have := HK2.out; omega⟩, ⟨by (with_reducible repeat (first | apply Kd.Cb | apply Kd.Bz | apply Kd.Cm)); exact HO337.out⟩, ⟨by (with_reducible repeat (first | refine Ag ?_ _ | refine Ah ?_ | refine Af ?_ _)); exact BK0.out⟩, ⟨by repeat (first | (with_reducible first | exact HB.out | apply Ae | apply Aa | apply Ad | refine Am ?_ GE0.out) | exact HB.out)⟩⟩
          ·rw [if_neg c18] at H
           exact absurd H (by simp)
         ·rw [if_neg c17] at H
          have c17b0 : decide (x8_2 ≤ 15) = false := decide_eq_false c17
          clear c17
          have H' := Ac.mk H
          clear H
          obtain ⟨Ao20, co20, eo20⟩ := Kd.Gh HO_7.out
          subst eo20
          go_wp2
          go_loopg [61] k2 (fun kq v61 w' => ∃ (x61_3 : Int) (x321000_3 : Int) (x321001_3 : ByteArray) (x321002_3 : Int) (x321003_3 : Int), v61 = .int .i64 x61_3 ∧ Ac (Bc.l1 kq a0 t321 x7_2 (x7_2.length : Int) x61_3 = some (r1, r2, r3, r4, r5)) ∧ Ac (kq ≤ k2) ∧ Ac (Kd.R k25 25 w' w.heap.size (fun k_ => k_ ≠ gb0) (.slice Ao20 x7_2.length co20) x7_2) ∧ Ac (w'.heap[gb0]? = some (.cells #[.int .i64 x321000_3, .string x321001_3, .int .i64 x321002_3, .int .i64 x321003_3] 25 (0, 0))) ∧ Ac (Below w.heap.size w w'))
          case atStart => exact ⟨(0), (0), ((⟨#[]⟩ : ByteArray)), (0), (0), Yf_, H', ⟨Nat.le_refl _⟩, ⟨by (with_reducible repeat (first | apply Kd.Cb | apply Kd.Bz | apply Kd.Cm)); exact HO_7.out⟩, ⟨by (with_reducible repeat (first | refine Ag ?_ _ | refine Ah ?_ | refine Af ?_ _)); exact BK0.out⟩, ⟨by repeat (first | (with_reducible first | exact HB.out | apply Ae | apply Aa | apply Ad | refine Am ?_ GE0.out) | exact HB.out)⟩⟩
          case round =>
           clear H'
           try clear c1; try clear c2; try clear p2; try clear p3; try clear q3; try clear hx3; try clear qi3; try clear c4; try clear c5; try clear c6; try clear p6; try clear c8; try clear c8b0; try clear c8b1; try clear c9; try clear c10; try clear c10b0; try clear c10b1; try clear c11; try clear c11b0; try clear c11b1; try clear c17; try clear c17b0; try clear c18; try clear hcz7_0; try clear hcz7_1; try clear hcz7_2; try clear hcz7_3; try clear hfz7_0; try clear hfz7_1; try clear hfz7_2; try clear hfz7_3; try clear hx326_0; try clear hx327_0; try clear hx328_0; try clear hx329_0; try clear hx330_0; try clear hx331_0; try clear p2; try clear p3; try clear p326; try clear p327; try clear p328; try clear p329; try clear p330; try clear p331; try clear q3; try clear q326; try clear q327; try clear q328; try clear q329; try clear q330; try clear q331
           obtain ⟨x61_3, x321000_3, x321001_3, x321002_3, x321003_3, rfl, HA, HK3, HO_59, BK0, HB⟩ := hrel
           cases gk with
           | zero => exact absurd HA.out (by simp [Bc.l1])
           | succ k3 =>
            have H := HA.out
            clear HA
            simp only [Bc.l1] at H
            by_cases c21 : x61_3 < (x7_2.length : Int)
            ·rw [if_pos c21] at H
             have c21b0 : decide (x61_3 < (x7_2.length : Int)) = true := decide_eq_true c21
             clear c21
             by_cases c22 : 0 ≤ x61_3
             ·rw [if_pos c22] at H
              have c22b0 : decide (0 ≤ x61_3) = true := decide_eq_true c22
              clear c22
              by_cases c23 : x61_3 < (x7_2.length : Int)
              ·rw [if_pos c23] at H
               have c23b0 : decide (x61_3 < (x7_2.length : Int)) = true := decide_eq_true c23
               clear c23
               by_cases c24 : 0 ≤ 8
               ·rw [if_pos c24] at H
                have c24b0 := eq_true c24
                have c24b1 : decide (0 ≤ 8) = true := decide_eq_true c24
                clear c24
                by_cases c25 : 8 ≤ (t321.size : Int)
                ·rw [if_pos c25] at H
                 have c25b0 := eq_true c25
                 have c25b1 : decide (8 ≤ (t321.size : Int)) = true := decide_eq_true c25
                 clear c25
                 replace H := Option.bind_eq_some_iff.mp H
                 obtain ⟨t340, A260, H⟩ := H
                 try dsimp only at H
                 have A26 := Ac.mk A260
                 clear A260
                 by_cases c27 : t340 = true
                 ·subst c27
                  have H1 : ((Dp.f k3 ((Az x7_2 x61_3).f0) (t321.extract 0 8) ((Az x7_2 x61_3).f2) ((Az x7_2 x61_3).f3)).bind fun t341 => (if t341.toList = a0.toList then (some ((Az x7_2 x61_3).f0, t321.extract 0 8, (Az x7_2 x61_3).f2, (Az x7_2 x61_3).f3, true)) else (Bc.l1 k3 a0 t321 x7_2 (x7_2.length : Int) (wrap64 (x61_3 + 1))))) = some (r1, r2, r3, r4, r5) := by rw [if_pos rfl] at H; exact H
                  clear H
                  have H := H1
                  clear H1
                  replace H := Option.bind_eq_some_iff.mp H
                  obtain ⟨t341, A280, H⟩ := H
                  try dsimp only at H
                  have A28 := Ac.mk A280
                  clear A280
                  by_cases c29 : t341.toList = a0.toList
                  ·rw [if_pos c29] at H
                   have c29b0 : (t341.toList == a0.toList) = true := beq_iff_eq.mpr c29
                   have c29b1 : (t341.toList != a0.toList) = false := bne_eq_false_iff_eq.mpr c29
                   clear c29
                   simp only [Option.some.injEq, Prod.mk.injEq] at H
                   obtain ⟨rfl, rfl, rfl, rfl, rfl⟩ := H
                   have p338 : 0 ≤ (x61_3 : Int) := of_decide_eq_true Ye_
                   have q338 : x61_3 < (x7_2.length : Int) := of_decide_eq_true Ye_
                   obtain ⟨ad338, e338, hx338_0, hx338_1, hx338_2, hx338_3⟩ := G9 (Kd.Ec HO_59.out).2.2 x61_3 p338 q338
                   cases e338
                   replace p338 := eq_true p338
                   replace q338 := eq_true q338
                   go_upto_region 14 with (first | ((with_reducible refine Dl (N := 10) rfl ?_); (try (refine G8 (by rfl) ?_; dsimp only)); refine Dz ?hg (N := 10) ?hd (cs := #[.int .i64 0, .string (⟨#[]⟩ : ByteArray), .int .i64 0, .int .i64 0]) (t := 25) ?hr ?_; (case hd => rfl); (case hg => rfl); (case hr => first | (go_simp; done) | (go_simp; rfl)); intro gb1 hg w30 hbox hb; have n0_ := Ac.mk (Kd.Fe (Kd.Ie Ydc_ gb1 (Nat.le_of_eq hg.symm)) hb); have n1_ := Ac.mk (Bi (g := gb0) (o := .cells #[.int .i64 x321000_3, .string x321001_3, .int .i64 x321002_3, .int .i64 x321003_3] 25 (0, 0)) Yd_ hb); have n2_ := Ac.mk (Ar Yc_ hb); have n3_ := Ac.mk (hbox); have n4_ := Ac.mk ((by rw [hg]; exact (Ba Yc_) : w.heap.size ≤ gb1)); have n5_ := Ac.mk ((by rw [hg]; exact (Ba Yc_) : w.heap.size ≤ gb1)); have n6_ := Ac.mk ((by rw [hg]; exact Nat.ne_of_lt (Gl (g := gb0) (o := .cells #[.int .i64 x321000_3, .string x321001_3, .int .i64 x321002_3, .int .i64 x321003_3] 25 (0, 0)) Yd_) : gb0 ≠ gb1)); have n7_ := Ac.mk ((by rw [hg]; exact Nat.ne_of_gt (Gl (g := gb0) (o := .cells #[.int .i64 x321000_3, .string x321001_3, .int .i64 x321002_3, .int .i64 x321003_3] 25 (0, 0)) Yd_) : gb1 ≠ gb0)); clear HO_59; clear BK0; clear HB; have HO_59 := n0_; have BK0 := n1_; have HB := n2_; have BK1 := n3_; have GW1 := n4_; have GE1 := n5_; have NB0_1 := n6_; have NB1_0 := n7_; clear n0_ n1_ n2_ n3_ n4_ n5_ n6_ n7_; clear hb hbox hg; have hnb31 := NB1_0.out; have hnc31 := NB0_1.out; have hcz32_0 : w30.cell? ⟨gb1, 0, none⟩ = some (.int .i64 0) := (Ak BK1.out 0).trans rfl; have hcz32_1 : w30.cell? ⟨gb1, 1, none⟩ = some (.string (⟨#[]⟩ : ByteArray)) := (Ak BK1.out 1).trans rfl; have hcz32_2 : w30.cell? ⟨gb1, 2, none⟩ = some (.int .i64 0) := (Ak BK1.out 2).trans rfl; have hcz32_3 : w30.cell? ⟨gb1, 3, none⟩ = some (.int .i64 0) := (Ak BK1.out 3).trans rfl; have hfz32_0 := Ai BK1.out 0; have hfz32_1 := Ai BK1.out 1; have hfz32_2 := Ai BK1.out 2; have hfz32_3 := Ai BK1.out 3))
                   have m0_ := Ac.mk (Kd.R_mono (Kd.F9 (p := ⟨gb1, 1, none⟩) (Kd.F9 (p := ⟨gb1, 3, none⟩) (Kd.F9 (p := ⟨gb1, 2, none⟩) (Kd.F9 (p := ⟨gb1, 1, none⟩) (Kd.F9 (p := ⟨gb1, 0, none⟩) (Kd.R_mono HO_59.out (fun k_ hk => (⟨hk, hk.2⟩ : _ ∧ k_ ≠ gb1))) (fun _ hk => hk.2) (.int .i64 ((Az x7_2 x61_3).f0))) (fun _ hk => hk.2) (.string ((Az x7_2 x61_3).f1))) (fun _ hk => hk.2) (.int .i64 ((Az x7_2 x61_3).f2))) (fun _ hk => hk.2) (.int .i64 ((Az x7_2 x61_3).f3))) (fun _ hk => hk.2) (.string (t321.extract 0 8))) (fun _ h_ => h_.1))
                   have m1_ := Ac.mk (show (((((w30.setCell ⟨gb1, 0, none⟩ (.int .i64 ((Az x7_2 x61_3).f0))).setCell ⟨gb1, 1, none⟩ (.string ((Az x7_2 x61_3).f1))).setCell ⟨gb1, 2, none⟩ (.int .i64 ((Az x7_2 x61_3).f2))).setCell ⟨gb1, 3, none⟩ (.int .i64 ((Az x7_2 x61_3).f3))).setCell ⟨gb1, 1, none⟩ (.string (t321.extract 0 8))).heap[gb0]? = some (.cells #[.int .i64 x321000_3, .string x321001_3, .int .i64 x321002_3, .int .i64 x321003_3] 25 (0, 0)) from by (with_reducible repeat (first | refine Ag ?_ _ | refine Ah ?_ | refine Af ?_ _)); refine Bo ?_ NB0_1.out _; (with_reducible repeat (first | refine Ag ?_ _ | refine Ah ?_ | refine Af ?_ _)); refine Bo ?_ NB0_1.out _; (with_reducible repeat (first | refine Ag ?_ _ | refine Ah ?_ | refine Af ?_ _)); refine Bo ?_ NB0_1.out _; (with_reducible repeat (first | refine Ag ?_ _ | refine Ah ?_ | refine Af ?_ _)); refine Bo ?_ NB0_1.out _; (with_reducible repeat (first | refine Ag ?_ _ | refine Ah ?_ | refine Af ?_ _)); refine Bo ?_ NB0_1.out _; (with_reducible repeat (first | refine Ag ?_ _ | refine Ah ?_ | refine Af ?_ _)); exact BK0.out)
                   have m2_ := Ac.mk (show (((((w30.setCell ⟨gb1, 0, none⟩ (.int .i64 ((Az x7_2 x61_3).f0))).setCell ⟨gb1, 1, none⟩ (.string ((Az x7_2 x61_3).f1))).setCell ⟨gb1, 2, none⟩ (.int .i64 ((Az x7_2 x61_3).f2))).setCell ⟨gb1, 3, none⟩ (.int .i64 ((Az x7_2 x61_3).f3))).setCell ⟨gb1, 1, none⟩ (.string (t321.extract 0 8))).heap[gb1]? = some (.cells #[.int .i64 ((Az x7_2 x61_3).f0), .string (t321.extract 0 8), .int .i64 ((Az x7_2 x61_3).f2), .int .i64 ((Az x7_2 x61_3).f3)] 25 (0, 0)) from by (with_reducible repeat (first | refine Ag ?_ _ | refine Ah ?_ | refine Af ?_ _)); refine Be (cs := #[.int .i64 ((Az x7_2 x61_3).f0), .string ((Az x7_2 x61_3).f1), .int .i64 ((Az x7_2 x61_3).f2), .int .i64 ((Az x7_2 x61_3).f3)]) ?_ 1 _ rfl; (with_reducible repeat (first | refine Ag ?_ _ | refine Ah ?_ | refine Af ?_ _)); refine Be (cs := #[.int .i64 ((Az x7_2 x61_3).f0), .string ((Az x7_2 x61_3).f1), .int .i64 ((Az x7_2 x61_3).f2), .int .i64 0]) ?_ 3 _ rfl; (with_reducible repeat (first | refine Ag ?_ _ | refine Ah ?_ | refine Af ?_ _)); refine Be (cs := #[.int .i64 ((Az x7_2 x61_3).f0), .string ((Az x7_2 x61_3).f1), .int .i64 0, .int .i64 0]) ?_ 2 _ rfl; (with_reducible repeat (first | refine Ag ?_ _ | refine Ah ?_ | refine Af ?_ _)); refine Be (cs := #[.int .i64 ((Az x7_2 x61_3).f0), .string (⟨#[]⟩ : ByteArray), .int .i64 0, .int .i64 0]) ?_ 1 _ rfl; (with_reducible repeat (first | refine Ag ?_ _ | refine Ah ?_ | refine Af ?_ _)); refine Be (cs := #[.int .i64 0, .string (⟨#[]⟩ : ByteArray), .int .i64 0, .int .i64 0]) ?_ 0 _ rfl; (with_reducible repeat (first | refine Ag ?_ _ | refine Ah ?_ | refine Af ?_ _)); exact BK1.out)
                   have m3_ := Ac.mk (show Below w.heap.size w (((((w30.setCell ⟨gb1, 0, none⟩ (.int .i64 ((Az x7_2 x61_3).f0))).setCell ⟨gb1, 1, none⟩ (.string ((Az x7_2 x61_3).f1))).setCell ⟨gb1, 2, none⟩ (.int .i64 ((Az x7_2 x61_3).f2))).setCell ⟨gb1, 3, none⟩ (.int .i64 ((Az x7_2 x61_3).f3))).setCell ⟨gb1, 1, none⟩ (.string (t321.extract 0 8))) from by repeat (first | (with_reducible first | exact HB.out | apply Ae | apply Aa | apply Ad | refine Am ?_ GE0.out | refine Am ?_ GE1.out) | exact HB.out))
                   generalize (((((w30.setCell ⟨gb1, 0, none⟩ (.int .i64 ((Az x7_2 x61_3).f0))).setCell ⟨gb1, 1, none⟩ (.string ((Az x7_2 x61_3).f1))).setCell ⟨gb1, 2, none⟩ (.int .i64 ((Az x7_2 x61_3).f2))).setCell ⟨gb1, 3, none⟩ (.int .i64 ((Az x7_2 x61_3).f3))).setCell ⟨gb1, 1, none⟩ (.string (t321.extract 0 8))) = w30n at m0_ m1_ m2_ m3_ ⊢
                   clear hcz32_0 hcz32_1 hcz32_2 hcz32_3 hfz32_0 hfz32_1 hfz32_2 hfz32_3
                   clear HO_59 BK0 BK1 HB
                   have HO_59 := m0_
                   have BK0 := m1_
                   have BK1 := m2_
                   have HB := m3_
                   clear m0_ m1_ m2_ m3_
                   have hcn_0 : w30n.cell? ⟨gb1, 0, none⟩ = some (.int .i64 ((Az x7_2 x61_3).f0)) := (Ak BK1.out 0).trans rfl
                   have hcn_1 : w30n.cell? ⟨gb1, 1, none⟩ = some (.string (t321.extract 0 8)) := (Ak BK1.out 1).trans rfl
                   have hcn_2 : w30n.cell? ⟨gb1, 2, none⟩ = some (.int .i64 ((Az x7_2 x61_3).f2)) := (Ak BK1.out 2).trans rfl
                   have hcn_3 : w30n.cell? ⟨gb1, 3, none⟩ = some (.int .i64 ((Az x7_2 x61_3).f3)) := (Ak BK1.out 3).trans rfl
                   go_wp2_with (first | ((with_reducible refine Ap (f := 8) rfl ?_); refine Bj (some 69) rfl rfl Tryz.func8 (by kernel_rfl) rfl #[.agg #[.int .i64 ((Az x7_2 x61_3).f0), .string (t321.extract 0 8), .int .i64 ((Az x7_2 x61_3).f2), .int .i64 ((Az x7_2 x61_3).f3)]] rfl Ya_ ?_; (with_reducible refine (Di.calls k3 ((Az x7_2 x61_3).f0) (t321.extract 0 8) ((Az x7_2 x61_3).f2) ((Az x7_2 x61_3).f3) true _ A26.out).mono ?_); rintro e w33 ⟨rfl, hb⟩; refine ⟨_, rfl, ?_⟩; have n0_ := Ac.mk (Kd.Fe Ydc_ hb); have n1_ := Ac.mk (Bi (g := gb0) (o := .cells #[.int .i64 x321000_3, .string x321001_3, .int .i64 x321002_3, .int .i64 x321003_3] 25 (0, 0)) Yd_ hb); have n2_ := Ac.mk (Bi (g := gb1) (o := .cells #[.int .i64 ((Az x7_2 x61_3).f0), .string (t321.extract 0 8), .int .i64 ((Az x7_2 x61_3).f2), .int .i64 ((Az x7_2 x61_3).f3)] 25 (0, 0)) Yj_ hb); have n3_ := Ac.mk (Ar Ybg_ hb); clear HO_59; clear BK0; clear BK1; clear HB; have HO_59 := n0_; have BK0 := n1_; have BK1 := n2_; have HB := n3_; clear n0_ n1_ n2_ n3_; (try clear hb); (try clear hb2); (try clear hk); (try clear hi); have hcz34_0 : w33.cell? ⟨gb1, 0, none⟩ = some (.int .i64 ((Az x7_2 x61_3).f0)) := (Ak BK1.out 0).trans rfl; have hcz34_1 : w33.cell? ⟨gb1, 1, none⟩ = some (.string (t321.extract 0 8)) := (Ak BK1.out 1).trans rfl; have hcz34_2 : w33.cell? ⟨gb1, 2, none⟩ = some (.int .i64 ((Az x7_2 x61_3).f2)) := (Ak BK1.out 2).trans rfl; have hcz34_3 : w33.cell? ⟨gb1, 3, none⟩ = some (.int .i64 ((Az x7_2 x61_3).f3)) := (Ak BK1.out 3).trans rfl; have hfz34_0 := Ai BK1.out 0; have hfz34_1 := Ai BK1.out 1; have hfz34_2 := Ai BK1.out 2; have hfz34_3 := Ai BK1.out 3; (try clear hcn_0 hcn_1 hcn_2 hcn_3)) | (go_at_call 20; (with_reducible refine (Dp.calls k3 ((Az x7_2 x61_3).f0) (t321.extract 0 8) ((Az x7_2 x61_3).f2) ((Az x7_2 x61_3).f3) t341 _ ?side1 A28.out).mono ?_); (case side1 => exact Fp.below HGL.out Ybg_); rintro e w35 ⟨rfl, hb⟩; have n0_ := Ac.mk (Kd.Fe Ydc_ hb); have n1_ := Ac.mk (Bi (g := gb0) (o := .cells #[.int .i64 x321000_3, .string x321001_3, .int .i64 x321002_3, .int .i64 x321003_3] 25 (0, 0)) Yd_ hb); have n2_ := Ac.mk (Bi (g := gb1) (o := .cells #[.int .i64 ((Az x7_2 x61_3).f0), .string (t321.extract 0 8), .int .i64 ((Az x7_2 x61_3).f2), .int .i64 ((Az x7_2 x61_3).f3)] 25 (0, 0)) Yj_ hb); have n3_ := Ac.mk (Ar Ybg_ hb); clear HO_59; clear BK0; clear BK1; clear HB; have HO_59 := n0_; have BK0 := n1_; have BK1 := n2_; have HB := n3_; clear n0_ n1_ n2_ n3_; (try clear hb); (try clear hb2); (try clear hk); (try clear hi); have hcz36_0 : w35.cell? ⟨gb1, 0, none⟩ = some (.int .i64 ((Az x7_2 x61_3).f0)) := (Ak BK1.out 0).trans rfl; have hcz36_1 : w35.cell? ⟨gb1, 1, none⟩ = some (.string (t321.extract 0 8)) := (Ak BK1.out 1).trans rfl; have hcz36_2 : w35.cell? ⟨gb1, 2, none⟩ = some (.int .i64 ((Az x7_2 x61_3).f2)) := (Ak BK1.out 2).trans rfl; have hcz36_3 : w35.cell? ⟨gb1, 3, none⟩ = some (.int .i64 ((Az x7_2 x61_3).f3)) := (Ak BK1.out 3).trans rfl; have hfz36_0 := Ai BK1.out 0; have hfz36_1 := Ai BK1.out 1; have hfz36_2 := Ai BK1.out 2; have hfz36_3 := Ai BK1.out 3; have hcz37_0 : w35.cell? ⟨gb0, 0, none⟩ = some (.int .i64 x321000_3) := (Ak BK0.out 0).trans rfl; have hcz37_1 : w35.cell? ⟨gb0, 1, none⟩ = some (.string x321001_3) := (Ak BK0.out 1).trans rfl; have hcz37_2 : w35.cell? ⟨gb0, 2, none⟩ = some (.int .i64 x321002_3) := (Ak BK0.out 2).trans rfl; have hcz37_3 : w35.cell? ⟨gb0, 3, none⟩ = some (.int .i64 x321003_3) := (Ak BK0.out 3).trans rfl; have hfz37_0 := Ai BK0.out 0; have hfz37_1 := Ai BK0.out 1; have hfz37_2 := Ai BK0.out 2; have hfz37_3 := Ai BK0.out 3))
                   refine bodyPost_ret (Ir rfl _ _ gb0 25 #[.int .i64 ((Az x7_2 x61_3).f0), .string (t321.extract 0 8), .int .i64 ((Az x7_2 x61_3).f2), .int .i64 ((Az x7_2 x61_3).f3)] (0, 0) _ rfl (by (with_reducible repeat (first | refine Ag ?_ _ | refine Ah ?_ | refine Af ?_ _)); refine Be (cs := #[.int .i64 ((Az x7_2 x61_3).f0), .string (t321.extract 0 8), .int .i64 ((Az x7_2 x61_3).f2), .int .i64 x321003_3]) ?_ 3 _ rfl; (with_reducible repeat (first | refine Ag ?_ _ | refine Ah ?_ | refine Af ?_ _)); refine Be (cs := #[.int .i64 ((Az x7_2 x61_3).f0), .string (t321.extract 0 8), .int .i64 x321002_3, .int .i64 x321003_3]) ?_ 2 _ rfl; (with_reducible repeat (first | refine Ag ?_ _ | refine Ah ?_ | refine Af ?_ _)); refine Be (cs := #[.int .i64 ((Az x7_2 x61_3).f0), .string x321001_3, .int .i64 x321002_3, .int .i64 x321003_3]) ?_ 1 _ rfl; (with_reducible repeat (first | refine Ag ?_ _ | refine Ah ?_ | refine Af ?_ _)); refine Be (cs := #[.int .i64 x321000_3, .string x321001_3, .int .i64 x321002_3, .int .i64 x321003_3]) ?_ 0 _ rfl; (with_reducible repeat (first | refine Ag ?_ _ | refine Ah ?_ | refine Af ?_ _)); exact BK0.out) Tryz.underlying25 rfl (by kernel_rfl)) rfl ?_
                   exact ⟨by first | rfl | (simp [Au, Aw] <;> rfl) | (simp [*, Au, Aw] <;> rfl), by repeat (first | (with_reducible first | exact HB.out | apply Ae | apply Aa | apply Ad | refine Am ?_ GE0.out | refine Am ?_ GE1.out) | exact HB.out)⟩
                  ·rw [if_neg c29] at H
                   have c29b0 : (t341.toList == a0.toList) = false := beq_eq_false_iff_ne.mpr c29
                   have c29b1 : (t341.toList != a0.toList) = true := bne_iff_ne.mpr c29
                   have H' := Ac.mk H
                   clear H
                   have p338 : 0 ≤ (x61_3 : Int) := of_decide_eq_true Ye_
                   have q338 : x61_3 < (x7_2.length : Int) := of_decide_eq_true Ye_
                   obtain ⟨ad338, e338, hx338_0, hx338_1, hx338_2, hx338_3⟩ := G9 (Kd.Ec HO_59.out).2.2 x61_3 p338 q338
                   cases e338
                   replace p338 := eq_true p338
                   replace q338 := eq_true q338
                   go_upto_region 14 with (first | ((with_reducible refine Dl (N := 10) rfl ?_); (try (refine G8 (by rfl) ?_; dsimp only)); refine Dz ?hg (N := 10) ?hd (cs := #[.int .i64 0, .string (⟨#[]⟩ : ByteArray), .int .i64 0, .int .i64 0]) (t := 25) ?hr ?_; (case hd => rfl); (case hg => rfl); (case hr => first | (go_simp; done) | (go_simp; rfl)); intro gb1 hg w38 hbox hb; have n0_ := Ac.mk (Kd.Fe (Kd.Ie Ydc_ gb1 (Nat.le_of_eq hg.symm)) hb); have n1_ := Ac.mk (Bi (g := gb0) (o := .cells #[.int .i64 x321000_3, .string x321001_3, .int .i64 x321002_3, .int .i64 x321003_3] 25 (0, 0)) Yd_ hb); have n2_ := Ac.mk (Ar Yc_ hb); have n3_ := Ac.mk (hbox); have n4_ := Ac.mk ((by rw [hg]; exact (Ba Yc_) : w.heap.size ≤ gb1)); have n5_ := Ac.mk ((by rw [hg]; exact (Ba Yc_) : w.heap.size ≤ gb1)); have n6_ := Ac.mk ((by rw [hg]; exact Nat.ne_of_lt (Gl (g := gb0) (o := .cells #[.int .i64 x321000_3, .string x321001_3, .int .i64 x321002_3, .int .i64 x321003_3] 25 (0, 0)) Yd_) : gb0 ≠ gb1)); have n7_ := Ac.mk ((by rw [hg]; exact Nat.ne_of_gt (Gl (g := gb0) (o := .cells #[.int .i64 x321000_3, .string x321001_3, .int .i64 x321002_3, .int .i64 x321003_3] 25 (0, 0)) Yd_) : gb1 ≠ gb0)); clear HO_59; clear BK0; clear HB; have HO_59 := n0_; have BK0 := n1_; have HB := n2_; have BK1 := n3_; have GW1 := n4_; have GE1 := n5_; have NB0_1 := n6_; have NB1_0 := n7_; clear n0_ n1_ n2_ n3_ n4_ n5_ n6_ n7_; clear hb hbox hg; have hnb39 := NB1_0.out; have hnc39 := NB0_1.out; have hcz40_0 : w38.cell? ⟨gb1, 0, none⟩ = some (.int .i64 0) := (Ak BK1.out 0).trans rfl; have hcz40_1 : w38.cell? ⟨gb1, 1, none⟩ = some (.string (⟨#[]⟩ : ByteArray)) := (Ak BK1.out 1).trans rfl; have hcz40_2 : w38.cell? ⟨gb1, 2, none⟩ = some (.int .i64 0) := (Ak BK1.out 2).trans rfl; have hcz40_3 : w38.cell? ⟨gb1, 3, none⟩ = some (.int .i64 0) := (Ak BK1.out 3).trans rfl; have hfz40_0 := Ai BK1.out 0; have hfz40_1 := Ai BK1.out 1; have hfz40_2 := Ai BK1.out 2; have hfz40_3 := Ai BK1.out 3))
                   have m0_ := Ac.mk (Kd.R_mono (Kd.F9 (p := ⟨gb1, 1, none⟩) (Kd.F9 (p := ⟨gb1, 3, none⟩) (Kd.F9 (p := ⟨gb1, 2, none⟩) (Kd.F9 (p := ⟨gb1, 1, none⟩) (Kd.F9 (p := ⟨gb1, 0, none⟩) (Kd.R_mono HO_59.out (fun k_ hk => (⟨hk, hk.2⟩ : _ ∧ k_ ≠ gb1))) (fun _ hk => hk.2) (.int .i64 ((Az x7_2 x61_3).f0))) (fun _ hk => hk.2) (.string ((Az x7_2 x61_3).f1))) (fun _ hk => hk.2) (.int .i64 ((Az x7_2 x61_3).f2))) (fun _ hk => hk.2) (.int .i64 ((Az x7_2 x61_3).f3))) (fun _ hk => hk.2) (.string (t321.extract 0 8))) (fun _ h_ => h_.1))
                   have m1_ := Ac.mk (show (((((w38.setCell ⟨gb1, 0, none⟩ (.int .i64 ((Az x7_2 x61_3).f0))).setCell ⟨gb1, 1, none⟩ (.string ((Az x7_2 x61_3).f1))).setCell ⟨gb1, 2, none⟩ (.int .i64 ((Az x7_2 x61_3).f2))).setCell ⟨gb1, 3, none⟩ (.int .i64 ((Az x7_2 x61_3).f3))).setCell ⟨gb1, 1, none⟩ (.string (t321.extract 0 8))).heap[gb0]? = some (.cells #[.int .i64 x321000_3, .string x321001_3, .int .i64 x321002_3, .int .i64 x321003_3] 25 (0, 0)) from by (with_reducible repeat (first | refine Ag ?_ _ | refine Ah ?_ | refine Af ?_ _)); refine Bo ?_ NB0_1.out _; (with_reducible repeat (first | refine Ag ?_ _ | refine Ah ?_ | refine Af ?_ _)); refine Bo ?_ NB0_1.out _; (with_reducible repeat (first | refine Ag ?_ _ | refine Ah ?_ | refine Af ?_ _)); refine Bo ?_ NB0_1.out _; (with_reducible repeat (first | refine Ag ?_ _ | refine Ah ?_ | refine Af ?_ _)); refine Bo ?_ NB0_1.out _; (with_reducible repeat (first | refine Ag ?_ _ | refine Ah ?_ | refine Af ?_ _)); refine Bo ?_ NB0_1.out _; (with_reducible repeat (first | refine Ag ?_ _ | refine Ah ?_ | refine Af ?_ _)); exact BK0.out)
                   have m2_ := Ac.mk (show (((((w38.setCell ⟨gb1, 0, none⟩ (.int .i64 ((Az x7_2 x61_3).f0))).setCell ⟨gb1, 1, none⟩ (.string ((Az x7_2 x61_3).f1))).setCell ⟨gb1, 2, none⟩ (.int .i64 ((Az x7_2 x61_3).f2))).setCell ⟨gb1, 3, none⟩ (.int .i64 ((Az x7_2 x61_3).f3))).setCell ⟨gb1, 1, none⟩ (.string (t321.extract 0 8))).heap[gb1]? = some (.cells #[.int .i64 ((Az x7_2 x61_3).f0), .string (t321.extract 0 8), .int .i64 ((Az x7_2 x61_3).f2), .int .i64 ((Az x7_2 x61_3).f3)] 25 (0, 0)) from by (with_reducible repeat (first | refine Ag ?_ _ | refine Ah ?_ | refine Af ?_ _)); refine Be (cs := #[.int .i64 ((Az x7_2 x61_3).f0), .string ((Az x7_2 x61_3).f1), .int .i64 ((Az x7_2 x61_3).f2), .int .i64 ((Az x7_2 x61_3).f3)]) ?_ 1 _ rfl; (with_reducible repeat (first | refine Ag ?_ _ | refine Ah ?_ | refine Af ?_ _)); refine Be (cs := #[.int .i64 ((Az x7_2 x61_3).f0), .string ((Az x7_2 x61_3).f1), .int .i64 ((Az x7_2 x61_3).f2), .int .i64 0]) ?_ 3 _ rfl; (with_reducible repeat (first | refine Ag ?_ _ | refine Ah ?_ | refine Af ?_ _)); refine Be (cs := #[.int .i64 ((Az x7_2 x61_3).f0), .string ((Az x7_2 x61_3).f1), .int .i64 0, .int .i64 0]) ?_ 2 _ rfl; (with_reducible repeat (first | refine Ag ?_ _ | refine Ah ?_ | refine Af ?_ _)); refine Be (cs := #[.int .i64 ((Az x7_2 x61_3).f0), .string (⟨#[]⟩ : ByteArray), .int .i64 0, .int .i64 0]) ?_ 1 _ rfl; (with_reducible repeat (first | refine Ag ?_ _ | refine Ah ?_ | refine Af ?_ _)); refine Be (cs := #[.int .i64 0, .string (⟨#[]⟩ : ByteArray), .int .i64 0, .int .i64 0]) ?_ 0 _ rfl; (with_reducible repeat (first | refine Ag ?_ _ | refine Ah ?_ | refine Af ?_ _)); exact BK1.out)
                   have m3_ := Ac.mk (show Below w.heap.size w (((((w38.setCell ⟨gb1, 0, none⟩ (.int .i64 ((Az x7_2 x61_3).f0))).setCell ⟨gb1, 1, none⟩ (.string ((Az x7_2 x61_3).f1))).setCell ⟨gb1, 2, none⟩ (.int .i64 ((Az x7_2 x61_3).f2))).setCell ⟨gb1, 3, none⟩ (.int .i64 ((Az x7_2 x61_3).f3))).setCell ⟨gb1, 1, none⟩ (.string (t321.extract 0 8))) from by repeat (first | (with_reducible first | exact HB.out | apply Ae | apply Aa | apply Ad | refine Am ?_ GE0.out | refine Am ?_ GE1.out) | exact HB.out))
                   generalize (((((w38.setCell ⟨gb1, 0, none⟩ (.int .i64 ((Az x7_2 x61_3).f0))).setCell ⟨gb1, 1, none⟩ (.string ((Az x7_2 x61_3).f1))).setCell ⟨gb1, 2, none⟩ (.int .i64 ((Az x7_2 x61_3).f2))).setCell ⟨gb1, 3, none⟩ (.int .i64 ((Az x7_2 x61_3).f3))).setCell ⟨gb1, 1, none⟩ (.string (t321.extract 0 8))) = w38n at m0_ m1_ m2_ m3_ ⊢
                   clear hcz40_0 hcz40_1 hcz40_2 hcz40_3 hfz40_0 hfz40_1 hfz40_2 hfz40_3
                   clear HO_59 BK0 BK1 HB
                   have HO_59 := m0_
                   have BK0 := m1_
                   have BK1 := m2_
                   have HB := m3_
                   clear m0_ m1_ m2_ m3_
                   have hcn_0 : w38n.cell? ⟨gb1, 0, none⟩ = some (.int .i64 ((Az x7_2 x61_3).f0)) := (Ak BK1.out 0).trans rfl
                   have hcn_1 : w38n.cell? ⟨gb1, 1, none⟩ = some (.string (t321.extract 0 8)) := (Ak BK1.out 1).trans rfl
                   have hcn_2 : w38n.cell? ⟨gb1, 2, none⟩ = some (.int .i64 ((Az x7_2 x61_3).f2)) := (Ak BK1.out 2).trans rfl
                   have hcn_3 : w38n.cell? ⟨gb1, 3, none⟩ = some (.int .i64 ((Az x7_2 x61_3).f3)) := (Ak BK1.out 3).trans rfl
                   go_wp2_with (first | ((with_reducible refine Ap (f := 8) rfl ?_); refine Bj (some 69) rfl rfl Tryz.func8 (by kernel_rfl) rfl #[.agg #[.int .i64 ((Az x7_2 x61_3).f0), .string (t321.extract 0 8), .int .i64 ((Az x7_2 x61_3).f2), .int .i64 ((Az x7_2 x61_3).f3)]] rfl Ya_ ?_; (with_reducible refine (Di.calls k3 ((Az x7_2 x61_3).f0) (t321.extract 0 8) ((Az x7_2 x61_3).f2) ((Az x7_2 x61_3).f3) true _ A26.out).mono ?_); rintro e w41 ⟨rfl, hb⟩; refine ⟨_, rfl, ?_⟩; have n0_ := Ac.mk (Kd.Fe Ydc_ hb); have n1_ := Ac.mk (Bi (g := gb0) (o := .cells #[.int .i64 x321000_3, .string x321001_3, .int .i64 x321002_3, .int .i64 x321003_3] 25 (0, 0)) Yd_ hb); have n2_ := Ac.mk (Bi (g := gb1) (o := .cells #[.int .i64 ((Az x7_2 x61_3).f0), .string (t321.extract 0 8), .int .i64 ((Az x7_2 x61_3).f2), .int .i64 ((Az x7_2 x61_3).f3)] 25 (0, 0)) Yj_ hb); have n3_ := Ac.mk (Ar Ybg_ hb); clear HO_59; clear BK0; clear BK1; clear HB; have HO_59 := n0_; have BK0 := n1_; have BK1 := n2_; have HB := n3_; clear n0_ n1_ n2_ n3_; (try clear hb); (try clear hb2); (try clear hk); (try clear hi); have hcz42_0 : w41.cell? ⟨gb1, 0, none⟩ = some (.int .i64 ((Az x7_2 x61_3).f0)) := (Ak BK1.out 0).trans rfl; have hcz42_1 : w41.cell? ⟨gb1, 1, none⟩ = some (.string (t321.extract 0 8)) := (Ak BK1.out 1).trans rfl; have hcz42_2 : w41.cell? ⟨gb1, 2, none⟩ = some (.int .i64 ((Az x7_2 x61_3).f2)) := (Ak BK1.out 2).trans rfl; have hcz42_3 : w41.cell? ⟨gb1, 3, none⟩ = some (.int .i64 ((Az x7_2 x61_3).f3)) := (Ak BK1.out 3).trans rfl; have hfz42_0 := Ai BK1.out 0; have hfz42_1 := Ai BK1.out 1; have hfz42_2 := Ai BK1.out 2; have hfz42_3 := Ai BK1.out 3; (try clear hcn_0 hcn_1 hcn_2 hcn_3)) | (go_at_call 20; (with_reducible refine (Dp.calls k3 ((Az x7_2 x61_3).f0) (t321.extract 0 8) ((Az x7_2 x61_3).f2) ((Az x7_2 x61_3).f3) t341 _ ?side1 A28.out).mono ?_); (case side1 => exact Fp.below HGL.out Ybg_); rintro e w43 ⟨rfl, hb⟩; have n0_ := Ac.mk (Kd.Fe Ydc_ hb); have n1_ := Ac.mk (Bi (g := gb0) (o := .cells #[.int .i64 x321000_3, .string x321001_3, .int .i64 x321002_3, .int .i64 x321003_3] 25 (0, 0)) Yd_ hb); have n2_ := Ac.mk (Bi (g := gb1) (o := .cells #[.int .i64 ((Az x7_2 x61_3).f0), .string (t321.extract 0 8), .int .i64 ((Az x7_2 x61_3).f2), .int .i64 ((Az x7_2 x61_3).f3)] 25 (0, 0)) Yj_ hb); have n3_ := Ac.mk (Ar Ybg_ hb); clear HO_59; clear BK0; clear BK1; clear HB; have HO_59 := n0_; have BK0 := n1_; have BK1 := n2_; have HB := n3_; clear n0_ n1_ n2_ n3_; (try clear hb); (try clear hb2); (try clear hk); (try clear hi)))
                   go_roundg k3
                   case measure => have := HJ2.out; have := HK2.out; have := HK3.out; omega
                   case rel => exact ⟨(wrap64 (x61_3 + 1)), (x321000_3), (x321001_3), (x321002_3), (x321003_3), Yf_, H', ⟨by have := HJ2.out; have := HK2.out; have := HK3.out; omega⟩, ⟨by (with_reducible repeat (first | apply Kd.Cb | apply Kd.Bz | apply Kd.Cm)); exact Kd.R_mono HO_59.out (fun _ hk => hk.1)⟩, ⟨by (with_reducible repeat (first | refine Ag ?_ _ | refine Ah ?_ | refine Af ?_ _)); exact BK0.out⟩, ⟨by repeat (first | (with_reducible first | exact HB.out | apply Ae | apply Aa | apply Ad | refine Am ?_ GE0.out | refine Am ?_ GE1.out) | exact HB.out)⟩⟩
                 ·replace c27 := Bool.eq_false_iff.mpr c27
                  subst c27
                  have H1 : (Bc.l1 k3 a0 t321 x7_2 (x7_2.length : Int) (wrap64 (x61_3 + 1))) = some (r1, r2, r3, r4, r5) := by rw [if_neg (show ¬ (false = true) by decide)] at H; exact H
                  clear H
                  have H := H1
                  clear H1
                  have H' := Ac.mk H
                  clear H
                  have p338 : 0 ≤ (x61_3 : Int) := of_decide_eq_true Ye_
                  have q338 : x61_3 < (x7_2.length : Int) := of_decide_eq_true Ye_
                  obtain ⟨ad338, e338, hx338_0, hx338_1, hx338_2, hx338_3⟩ := G9 (Kd.Ec HO_59.out).2.2 x61_3 p338 q338
                  cases e338
                  replace p338 := eq_true p338
                  replace q338 := eq_true q338
                  go_upto_region 14 with (first | ((with_reducible refine Dl (N := 10) rfl ?_); (try (refine G8 (by rfl) ?_; dsimp only)); refine Dz ?hg (N := 10) ?hd (cs := #[.int .i64 0, .string (⟨#[]⟩ : ByteArray), .int .i64 0, .int .i64 0]) (t := 25) ?hr ?_; (case hd => rfl); (case hg => rfl); (case hr => first | (go_simp; done) | (go_simp; rfl)); intro gb1 hg w44 hbox hb; have n0_ := Ac.mk (Kd.Fe (Kd.Ie Ydc_ gb1 (Nat.le_of_eq hg.symm)) hb); have n1_ := Ac.mk (Bi (g := gb0) (o := .cells #[.int .i64 x321000_3, .string x321001_3, .int .i64 x321002_3, .int .i64 x321003_3] 25 (0, 0)) Yd_ hb); have n2_ := Ac.mk (Ar Yc_ hb); have n3_ := Ac.mk (hbox); have n4_ := Ac.mk ((by rw [hg]; exact (Ba Yc_) : w.heap.size ≤ gb1)); have n5_ := Ac.mk ((by rw [hg]; exact (Ba Yc_) : w.heap.size ≤ gb1)); have n6_ := Ac.mk ((by rw [hg]; exact Nat.ne_of_lt (Gl (g := gb0) (o := .cells #[.int .i64 x321000_3, .string x321001_3, .int .i64 x321002_3, .int .i64 x321003_3] 25 (0, 0)) Yd_) : gb0 ≠ gb1)); have n7_ := Ac.mk ((by rw [hg]; exact Nat.ne_of_gt (Gl (g := gb0) (o := .cells #[.int .i64 x321000_3, .string x321001_3, .int .i64 x321002_3, .int .i64 x321003_3] 25 (0, 0)) Yd_) : gb1 ≠ gb0)); clear HO_59; clear BK0; clear HB; have HO_59 := n0_; have BK0 := n1_; have HB := n2_; have BK1 := n3_; have GW1 := n4_; have GE1 := n5_; have NB0_1 := n6_; have NB1_0 := n7_; clear n0_ n1_ n2_ n3_ n4_ n5_ n6_ n7_; clear hb hbox hg; have hnb45 := NB1_0.out; have hnc45 := NB0_1.out; have hcz46_0 : w44.cell? ⟨gb1, 0, none⟩ = some (.int .i64 0) := (Ak BK1.out 0).trans rfl; have hcz46_1 : w44.cell? ⟨gb1, 1, none⟩ = some (.string (⟨#[]⟩ : ByteArray)) := (Ak BK1.out 1).trans rfl; have hcz46_2 : w44.cell? ⟨gb1, 2, none⟩ = some (.int .i64 0) := (Ak BK1.out 2).trans rfl; have hcz46_3 : w44.cell? ⟨gb1, 3, none⟩ = some (.int .i64 0) := (Ak BK1.out 3).trans rfl; have hfz46_0 := Ai BK1.out 0; have hfz46_1 := Ai BK1.out 1; have hfz46_2 := Ai BK1.out 2; have hfz46_3 := Ai BK1.out 3))
                  have m0_ := Ac.mk (Kd.R_mono (Kd.F9 (p := ⟨gb1, 1, none⟩) (Kd.F9 (p := ⟨gb1, 3, none⟩) (Kd.F9 (p := ⟨gb1, 2, none⟩) (Kd.F9 (p := ⟨gb1, 1, none⟩) (Kd.F9 (p := ⟨gb1, 0, none⟩) (Kd.R_mono HO_59.out (fun k_ hk => (⟨hk, hk.2⟩ : _ ∧ k_ ≠ gb1))) (fun _ hk => hk.2) (.int .i64 ((Az x7_2 x61_3).f0))) (fun _ hk => hk.2) (.string ((Az x7_2 x61_3).f1))) (fun _ hk => hk.2) (.int .i64 ((Az x7_2 x61_3).f2))) (fun _ hk => hk.2) (.int .i64 ((Az x7_2 x61_3).f3))) (fun _ hk => hk.2) (.string (t321.extract 0 8))) (fun _ h_ => h_.1))
                  have m1_ := Ac.mk (show (((((w44.setCell ⟨gb1, 0, none⟩ (.int .i64 ((Az x7_2 x61_3).f0))).setCell ⟨gb1, 1, none⟩ (.string ((Az x7_2 x61_3).f1))).setCell ⟨gb1, 2, none⟩ (.int .i64 ((Az x7_2 x61_3).f2))).setCell ⟨gb1, 3, none⟩ (.int .i64 ((Az x7_2 x61_3).f3))).setCell ⟨gb1, 1, none⟩ (.string (t321.extract 0 8))).heap[gb0]? = some (.cells #[.int .i64 x321000_3, .string x321001_3, .int .i64 x321002_3, .int .i64 x321003_3] 25 (0, 0)) from by (with_reducible repeat (first | refine Ag ?_ _ | refine Ah ?_ | refine Af ?_ _)); refine Bo ?_ NB0_1.out _; (with_reducible repeat (first | refine Ag ?_ _ | refine Ah ?_ | refine Af ?_ _)); refine Bo ?_ NB0_1.out _; (with_reducible repeat (first | refine Ag ?_ _ | refine Ah ?_ | refine Af ?_ _)); refine Bo ?_ NB0_1.out _; (with_reducible repeat (first | refine Ag ?_ _ | refine Ah ?_ | refine Af ?_ _)); refine Bo ?_ NB0_1.out _; (with_reducible repeat (first | refine Ag ?_ _ | refine Ah ?_ | refine Af ?_ _)); refine Bo ?_ NB0_1.out _; (with_reducible repeat (first | refine Ag ?_ _ | refine Ah ?_ | refine Af ?_ _)); exact BK0.out)
                  have m2_ := Ac.mk (show (((((w44.setCell ⟨gb1, 0, none⟩ (.int .i64 ((Az x7_2 x61_3).f0))).setCell ⟨gb1, 1, none⟩ (.string ((Az x7_2 x61_3).f1))).setCell ⟨gb1, 2, none⟩ (.int .i64 ((Az x7_2 x61_3).f2))).setCell ⟨gb1, 3, none⟩ (.int .i64 ((Az x7_2 x61_3).f3))).setCell ⟨gb1, 1, none⟩ (.string (t321.extract 0 8))).heap[gb1]? = some (.cells #[.int .i64 ((Az x7_2 x61_3).f0), .string (t321.extract 0 8), .int .i64 ((Az x7_2 x61_3).f2), .int .i64 ((Az x7_2 x61_3).f3)] 25 (0, 0)) from by (with_reducible repeat (first | refine Ag ?_ _ | refine Ah ?_ | refine Af ?_ _)); refine Be (cs := #[.int .i64 ((Az x7_2 x61_3).f0), .string ((Az x7_2 x61_3).f1), .int .i64 ((Az x7_2 x61_3).f2), .int .i64 ((Az x7_2 x61_3).f3)]) ?_ 1 _ rfl; (with_reducible repeat (first | refine Ag ?_ _ | refine Ah ?_ | refine Af ?_ _)); refine Be (cs := #[.int .i64 ((Az x7_2 x61_3).f0), .string ((Az x7_2 x61_3).f1), .int .i64 ((Az x7_2 x61_3).f2), .int .i64 0]) ?_ 3 _ rfl; (with_reducible repeat (first | refine Ag ?_ _ | refine Ah ?_ | refine Af ?_ _)); refine Be (cs := #[.int .i64 ((Az x7_2 x61_3).f0), .string ((Az x7_2 x61_3).f1), .int .i64 0, .int .i64 0]) ?_ 2 _ rfl; (with_reducible repeat (first | refine Ag ?_ _ | refine Ah ?_ | refine Af ?_ _)); refine Be (cs := #[.int .i64 ((Az x7_2 x61_3).f0), .string (⟨#[]⟩ : ByteArray), .int .i64 0, .int .i64 0]) ?_ 1 _ rfl; (with_reducible repeat (first | refine Ag ?_ _ | refine Ah ?_ | refine Af ?_ _)); refine Be (cs := #[.int .i64 0, .string (⟨#[]⟩ : ByteArray), .int .i64 0, .int .i64 0]) ?_ 0 _ rfl; (with_reducible repeat (first | refine Ag ?_ _ | refine Ah ?_ | refine Af ?_ _)); exact BK1.out)
                  have m3_ := Ac.mk (show Below w.heap.size w (((((w44.setCell ⟨gb1, 0, none⟩ (.int .i64 ((Az x7_2 x61_3).f0))).setCell ⟨gb1, 1, none⟩ (.string ((Az x7_2 x61_3).f1))).setCell ⟨gb1, 2, none⟩ (.int .i64 ((Az x7_2 x61_3).f2))).setCell ⟨gb1, 3, none⟩ (.int .i64 ((Az x7_2 x61_3).f3))).setCell ⟨gb1, 1, none⟩ (.string (t321.extract 0 8))) from by repeat (first | (with_reducible first | exact HB.out | apply Ae | apply Aa | apply Ad | refine Am ?_ GE0.out | refine Am ?_ GE1.out) | exact HB.out))
                  generalize (((((w44.setCell ⟨gb1, 0, none⟩ (.int .i64 ((Az x7_2 x61_3).f0))).setCell ⟨gb1, 1, none⟩ (.string ((Az x7_2 x61_3).f1))).setCell ⟨gb1, 2, none⟩ (.int .i64 ((Az x7_2 x61_3).f2))).setCell ⟨gb1, 3, none⟩ (.int .i64 ((Az x7_2 x61_3).f3))).setCell ⟨gb1, 1, none⟩ (.string (t321.extract 0 8))) = w44n at m0_ m1_ m2_ m3_ ⊢
                  clear hcz46_0 hcz46_1 hcz46_2 hcz46_3 hfz46_0 hfz46_1 hfz46_2 hfz46_3
                  clear HO_59 BK0 BK1 HB
                  have HO_59 := m0_
                  have BK0 := m1_
                  have BK1 := m2_
                  have HB := m3_
                  clear m0_ m1_ m2_ m3_
                  have hcn_0 : w44n.cell? ⟨gb1, 0, none⟩ = some (.int .i64 ((Az x7_2 x61_3).f0)) := (Ak BK1.out 0).trans rfl
                  have hcn_1 : w44n.cell? ⟨gb1, 1, none⟩ = some (.string (t321.extract 0 8)) := (Ak BK1.out 1).trans rfl
                  have hcn_2 : w44n.cell? ⟨gb1, 2, none⟩ = some (.int .i64 ((Az x7_2 x61_3).f2)) := (Ak BK1.out 2).trans rfl
                  have hcn_3 : w44n.cell? ⟨gb1, 3, none⟩ = some (.int .i64 ((Az x7_2 x61_3).f3)) := (Ak BK1.out 3).trans rfl
                  go_wp2_with (first | ((with_reducible refine Ap (f := 8) rfl ?_); refine Bj (some 69) rfl rfl Tryz.func8 (by kernel_rfl) rfl #[.agg #[.int .i64 ((Az x7_2 x61_3).f0), .string (t321.extract 0 8), .int .i64 ((Az x7_2 x61_3).f2), .int .i64 ((Az x7_2 x61_3).f3)]] rfl Ya_ ?_; (with_reducible refine (Di.calls k3 ((Az x7_2 x61_3).f0) (t321.extract 0 8) ((Az x7_2 x61_3).f2) ((Az x7_2 x61_3).f3) false _ A26.out).mono ?_); rintro e w47 ⟨rfl, hb⟩; refine ⟨_, rfl, ?_⟩; have n0_ := Ac.mk (Kd.Fe Ydc_ hb); have n1_ := Ac.mk (Bi (g := gb0) (o := .cells #[.int .i64 x321000_3, .string x321001_3, .int .i64 x321002_3, .int .i64 x321003_3] 25 (0, 0)) Yd_ hb); have n2_ := Ac.mk (Bi (g := gb1) (o := .cells #[.int .i64 ((Az x7_2 x61_3).f0), .string (t321.extract 0 8), .int .i64 ((Az x7_2 x61_3).f2), .int .i64 ((Az x7_2 x61_3).f3)] 25 (0, 0)) Yj_ hb); have n3_ := Ac.mk (Ar Ybg_ hb); clear HO_59; clear BK0; clear BK1; clear HB; have HO_59 := n0_; have BK0 := n1_; have BK1 := n2_; have HB := n3_; clear n0_ n1_ n2_ n3_; (try clear hb); (try clear hb2); (try clear hk); (try clear hi); (try clear hcn_0 hcn_1 hcn_2 hcn_3)))
                  go_roundg k3
                  case measure => have := HJ2.out; have := HK2.out; have := HK3.out; omega
                  case rel => exact ⟨(wrap64 (x61_3 + 1)), (x321000_3), (x321001_3), (x321002_3), (x321003_3), Yf_, H', ⟨by have := HJ2.out; have := HK2.out; have := HK3.out; omega⟩, ⟨by (with_reducible repeat (first | apply Kd.Cb | apply Kd.Bz | apply Kd.Cm)); exact Kd.R_mono HO_59.out (fun _ hk => hk.1)⟩, ⟨by (with_reducible repeat (first | refine Ag ?_ _ | refine Ah ?_ | refine Af ?_ _)); exact BK0.out⟩, ⟨by repeat (first | (with_reducible first | exact HB.out | apply Ae | apply Aa | apply Ad | refine Am ?_ GE0.out | refine Am ?_ GE1.out) | exact HB.out)⟩⟩
                ·rw [if_neg c25] at H
                 exact absurd H (by simp)
               ·rw [if_neg c24] at H
                exact absurd H (by simp)
              ·rw [if_neg c23] at H
               exact absurd H (by simp)
             ·rw [if_neg c22] at H
              exact absurd H (by simp)
            ·rw [if_neg c21] at H
             have c21b0 : decide (x61_3 < (x7_2.length : Int)) = false := decide_eq_false c21
             clear c21
             simp only [Option.some.injEq, Prod.mk.injEq] at H
             obtain ⟨rfl, rfl, rfl, rfl, rfl⟩ := H
             have hcz48_0 : wr.cell? ⟨gb0, 0, none⟩ = some (.int .i64 x321000_3) := (Ak BK0.out 0).trans rfl
             have hcz48_1 : wr.cell? ⟨gb0, 1, none⟩ = some (.string x321001_3) := (Ak BK0.out 1).trans rfl
             have hcz48_2 : wr.cell? ⟨gb0, 2, none⟩ = some (.int .i64 x321002_3) := (Ak BK0.out 2).trans rfl
             have hcz48_3 : wr.cell? ⟨gb0, 3, none⟩ = some (.int .i64 x321003_3) := (Ak BK0.out 3).trans rfl
             have hfz48_0 := Ai BK0.out 0
             have hfz48_1 := Ai BK0.out 1
             have hfz48_2 := Ai BK0.out 2
             have hfz48_3 := Ai BK0.out 3
             go_wp2
             refine bodyPost_ret (Ir rfl _ _ gb0 25 #[.int .i64 0, .string (⟨#[]⟩ : ByteArray), .int .i64 0, .int .i64 0] (0, 0) _ rfl (by (with_reducible repeat (first | refine Ag ?_ _ | refine Ah ?_ | refine Af ?_ _)); refine Be (cs := #[.int .i64 0, .string (⟨#[]⟩ : ByteArray), .int .i64 0, .int .i64 x321003_3]) ?_ 3 _ rfl; (with_reducible repeat (first | refine Ag ?_ _ | refine Ah ?_ | refine Af ?_ _)); refine Be (cs := #[.int .i64 0, .string (⟨#[]⟩ : ByteArray), .int .i64 x321002_3, .int .i64 x321003_3]) ?_ 2 _ rfl; (with_reducible repeat (first | refine Ag ?_ _ | refine Ah ?_ | refine Af ?_ _)); refine Be (cs := #[.int .i64 0, .string x321001_3, .int .i64 x321002_3, .int .i64 x321003_3]) ?_ 1 _ rfl; (with_reducible repeat (first | refine Ag ?_ _ | refine Ah ?_ | refine Af ?_ _)); refine Be (cs := #[.int .i64 x321000_3, .string x321001_3, .int .i64 x321002_3, .int .i64 x321003_3]) ?_ 0 _ rfl; (with_reducible repeat (first | refine Ag ?_ _ | refine Ah ?_ | refine Af ?_ _)); exact BK0.out) Tryz.underlying25 rfl (by kernel_rfl)) rfl ?_
             exact ⟨by first | rfl | (simp [Au, Aw] <;> rfl) | (simp [*, Au, Aw] <;> rfl), by repeat (first | (with_reducible first | exact HB.out | apply Ae | apply Aa | apply Ad | refine Am ?_ GE0.out) | exact HB.out)⟩
      ·rw [if_neg c11] at H
       exact absurd H (by simp)
     ·rw [if_neg c10] at H
      exact absurd H (by simp)
    ·rw [if_neg c8] at H
     exact absurd H (by simp)
def Ci.l0 : Nat → ByteArray → List (S25) → Option ((List (S25)) × Bool)
 | 0, _, _ => none
 | k + 1, x0, x4 => if x0.toList = ([] : List UInt8) then ((G5.f x4).bind fun t486 => (if t486 = true then (some (x4, true)) else (some (([] : List (S25)), false)))) else ((strings_Cut.f x0 (⟨#[46, 32]⟩ : ByteArray)).bind fun bt487 => (if bt487.2.2 = true then (if bt487.1.size + 1 ≤ 9223372036854775807 then ((Bc.f k (bt487.1 ++ (⟨#[46]⟩ : ByteArray))).bind fun bt490 => (if bt490.2.2.2.2 = true then (if bt487.2.1.toList = ([] : List UInt8) then (some (([] : List (S25)), false)) else (if x4.length < 3518437208883 then (Ci.l0 k bt487.2.1 (x4 ++ [(⟨bt490.1, bt490.2.1, bt490.2.2.1, bt490.2.2.2.1⟩ : S25)])) else (none))) else (some (([] : List (S25)), false)))) else (none)) else ((Bc.f k bt487.1).bind fun bt499 => (if bt499.2.2.2.2 = true then (if x4.length < 3518437208883 then (Ci.l0 k bt487.2.1 (x4 ++ [(⟨bt499.1, bt499.2.1, bt499.2.2.1, bt499.2.2.2.1⟩ : S25)])) else (none)) else (some (([] : List (S25)), false))))))
def Ci.f (k : Nat) (a0 : ByteArray) : Option ((List (S25)) × Bool) := Ci.l0 k a0 (([] : List (S25)))
theorem Ci.Fa : ∀ k, (∀ y0 y1, LeO (Ci.l0 k y0 y1) (Ci.l0 (k + 1) y0 y1))
 | 0 => fun _ _ r h => by simp [Ci.l0] at h
 | k + 1 => by
  have ih0 := Ci.Fa k
  ·intro y0 y1
   unfold Ci.l0
   repeat' first
   | (with_reducible exact ih0 _ _)
   | (with_reducible exact Bc.mono _ _)
   | (with_reducible exact LeO.refl _)
   | (with_reducible exact LeO.none _)
   | (with_reducible refine LeO.ite ?_ ?_)
   | (with_reducible refine LeO.bind ?_ (fun _ => ?_))
   | exact ih0 _ _
   | exact Bc.mono _ _
   | exact LeO.none _
   | refine LeO.ite ?_ ?_
   | refine LeO.bind ?_ (fun _ => ?_)
theorem Ci.mono : ∀ a0 k, LeO (Ci.f k a0) (Ci.f (k + 1) a0) := by
 intro a0 k
 have ih0 := Ci.Fa k
 unfold Ci.f
 repeat' first
   | (with_reducible exact ih0 _ _)
   | (with_reducible exact Bc.mono _ _)
   | (with_reducible exact LeO.refl _)
   | (with_reducible exact LeO.none _)
   | (with_reducible refine LeO.ite ?_ ?_)
   | (with_reducible refine LeO.bind ?_ (fun _ => ?_))
   | exact ih0 _ _
   | exact Bc.mono _ _
   | exact LeO.none _
   | refine LeO.ite ?_ ?_
   | refine LeO.bind ?_ (fun _ => ?_)
set_option maxHeartbeats 8000000 in
set_option maxRecDepth 100000 in
theorem Ci.calls (k : Nat) (a0 : ByteArray) (r1 : List (S25)) (r2 : Bool) (w : World) (hG : Fp w) (h : Ci.f k a0 = some (r1, r2)) :
  Calls Tryz.prog 15 #[.string a0] w fun e w' => ∃ v0_ : Value, e = .returned (.tuple #[v0_, .bool r2]) ∧ Kd.R k25 25 w' w.heap.size (fun _ => True) v0_ r1 ∧ Below w.heap.size w w' := by
 have hu25 := Tryz.underlying25
 have HGL := Ac.mk hG
 clear hG
 have HB := Ac.mk (Below.refl w.heap.size w)
 have H : (Ci.l0 k a0 (([] : List (S25)))) = some (r1, r2) := h
 clear h
 obtain ⟨y483, hy483⟩ : ∃ y_ : List (S25), y_ = (([] : List (S25))) := ⟨_, rfl⟩
 replace H : (Ci.l0 k a0 y483) = some (r1, r2) := by first | (rw [hy483]; with_reducible exact H) | (have H2_ := (Option.bind_some _ _).symm.trans H; rw [hy483]; with_reducible exact H2_) | (have H2_ := (Option.bind_some _ _).symm.trans H; with_reducible exact H2_) | with_reducible exact H | (rw [hy483]; exact H) | exact H
 have Ny483 := Ac.mk hy483
 clear hy483
 have H' := Ac.mk H
 clear H
 go_enter Tryz.func15, Tryz.ntmps15
 go_wp2_with (first | ((with_reducible refine Dl (N := 10) rfl ?_); refine Kd.Hz k25 _ 25 ?hg (N := 10) ?hd (xs := ([] : List (S25))) (inner := []) (ok := fun _ => True) (okp := fun _ => True) ?hr ?hp (fun _ hk => hk) trivial (Below.refl _ _) (Nat.le_refl _) (by simp) ?_; (case hd => rfl); (case hg => rfl); (case hr => first | (go_simp; done) | (go_simp; rfl)); (case hp => exact (Ed.none _ _)); intro v484 w2 ho3 hb hg_ hnew_; clear hg_ hnew_; (first | rw [← Ny483.out] at ho3 | (simp only [Int.reduceToNat] at ho3; rw [← Ny483.out] at ho3)); have n0_ := Ac.mk (Kd.Gg ho3 (Ba Yb_)); have n1_ := Ac.mk (Ar Yb_ hb); clear HB; have HO485 := n0_; have HB := n1_; clear n0_ n1_; clear hb ho3))
 go_loopg [0, 4] k (fun kq v0 v4 w' => ∃ (x0_1 : ByteArray) (x4_1 : List (S25)), v0 = .string x0_1 ∧ Ac (Ci.l0 kq x0_1 x4_1 = some (r1, r2)) ∧ Ac (kq ≤ k) ∧ Ac (Kd.R k25 25 w' w.heap.size (fun _ => True) v4 x4_1) ∧ Ac (Below w.heap.size w w'))
 case atStart => exact ⟨(a0), (y483), Yf_, H', ⟨Nat.le_refl _⟩, ⟨by (with_reducible repeat (first | apply Kd.Cb | apply Kd.Bz | apply Kd.Cm)); exact HO485.out⟩, ⟨by repeat (first | (with_reducible first | exact HB.out | apply Ae | apply Aa | apply Ad) | exact HB.out)⟩⟩
 case round =>
  clear H'
  try clear c1; try clear p2
  obtain ⟨x0_1, x4_1, rfl, HA, HK1, HO_4, HB⟩ := hrel
  cases gk with
  | zero => exact absurd HA.out (by simp [Ci.l0])
  | succ k1 =>
   have H := HA.out
   clear HA
   simp only [Ci.l0] at H
   by_cases c4 : x0_1.toList = ([] : List UInt8)
   ·rw [if_pos c4] at H
    have c4b0 : (x0_1.toList == ([] : List UInt8)) = true := beq_iff_eq.mpr c4
    have c4b1 : (x0_1.toList != ([] : List UInt8)) = false := bne_eq_false_iff_eq.mpr c4
    clear c4
    replace H := Option.bind_eq_some_iff.mp H
    obtain ⟨t486, A50, H⟩ := H
    try dsimp only at H
    have A5 := Ac.mk A50
    clear A50
    by_cases c6 : t486 = true
    ·subst c6
     have H1 : (some (x4_1, true)) = some (r1, r2) := by rw [if_pos rfl] at H; exact H
     clear H
     have H := H1
     clear H1
     simp only [Option.some.injEq, Prod.mk.injEq] at H
     obtain ⟨rfl, rfl⟩ := H
     obtain ⟨Ao7, co7, eo7⟩ := Kd.Gh HO_4.out
     subst eo7
     go_wp2_with (first | ((with_reducible refine Ap (f := 34) rfl ?_); refine Bj (some 42) rfl rfl Tryz.func34 (by kernel_rfl) rfl #[.slice Ao7 x4_1.length co7] rfl Ya_ ?_; (with_reducible refine (G5.calls _ _ x4_1 true _ ?side1 ?side2 A5.out).mono ?_); (case side1 => repeat (first | exact (Kd.Ec HO_4.out).2.2 | (with_reducible refine Kd.F5 ?_ _) | (with_reducible refine Kd.F6 ?_ _) | (with_reducible refine Kd.Gj ?_))); (case side2 => exact (Kd.Ec HO_4.out).2.1); rintro e w8 ⟨rfl, hb⟩; refine ⟨_, rfl, ?_⟩; have n0_ := Ac.mk (Kd.Fe Yba_ hb); have n1_ := Ac.mk (Ar Yb_ hb); clear HO_4; clear HB; have HO_4 := n0_; have HB := n1_; clear n0_ n1_; (try clear hb); (try clear hb2); (try clear hk); (try clear hi)))
     go_ret2
     exact ⟨_, by first | rfl | (simp [Au, Aw] <;> rfl) | (simp [*, Au, Aw] <;> rfl), by (with_reducible repeat (first | apply Kd.Cb | apply Kd.Bz | apply Kd.Cm)); exact HO_4.out, by repeat (first | (with_reducible first | exact HB.out | apply Ae | apply Aa | apply Ad) | exact HB.out)⟩
    ·replace c6 := Bool.eq_false_iff.mpr c6
     subst c6
     have H1 : (some (([] : List (S25)), false)) = some (r1, r2) := by rw [if_neg (show ¬ (false = true) by decide)] at H; exact H
     clear H
     have H := H1
     clear H1
     simp only [Option.some.injEq, Prod.mk.injEq] at H
     obtain ⟨rfl, rfl⟩ := H
     obtain ⟨Ao9, co9, eo9⟩ := Kd.Gh HO_4.out
     subst eo9
     go_wp2_with (first | ((with_reducible refine Ap (f := 34) rfl ?_); refine Bj (some 42) rfl rfl Tryz.func34 (by kernel_rfl) rfl #[.slice Ao9 x4_1.length co9] rfl Ya_ ?_; (with_reducible refine (G5.calls _ _ x4_1 false _ ?side1 ?side2 A5.out).mono ?_); (case side1 => repeat (first | exact (Kd.Ec HO_4.out).2.2 | (with_reducible refine Kd.F5 ?_ _) | (with_reducible refine Kd.F6 ?_ _) | (with_reducible refine Kd.Gj ?_))); (case side2 => exact (Kd.Ec HO_4.out).2.1); rintro e w10 ⟨rfl, hb⟩; refine ⟨_, rfl, ?_⟩; have n0_ := Ac.mk (Kd.Fe Yba_ hb); have n1_ := Ac.mk (Ar Yb_ hb); clear HO_4; clear HB; have HO_4 := n0_; have HB := n1_; clear n0_ n1_; (try clear hb); (try clear hb2); (try clear hk); (try clear hi)))
     go_ret2
     exact ⟨_, by first | rfl | (simp [Au, Aw] <;> rfl) | (simp [*, Au, Aw] <;> rfl), by first | exact Kd.R_nil _ _ _ _ _ | exact Kd.N_nil _ _ _ _ _ | exact Kd.V_nil _ _ _ _ _ | exact Kd.Q_nil _ _ _ _ _ | exact Kd.S_nil _ _ _ _ _, by repeat (first | (with_reducible first | exact HB.out | apply Ae | apply Aa | apply Ad) | exact HB.out)⟩
   ·rw [if_neg c4] at H
    have c4b0 : (x0_1.toList == ([] : List UInt8)) = false := beq_eq_false_iff_ne.mpr c4
    have c4b1 : (x0_1.toList != ([] : List UInt8)) = true := bne_iff_ne.mpr c4
    replace H := Option.bind_eq_some_iff.mp H
    obtain ⟨⟨t487, t488, t489⟩, A110, H⟩ := H
    try dsimp only at H
    have A11 := Ac.mk A110
    clear A110
    by_cases c12 : t489 = true
    ·subst c12
     have H1 : (if t487.size + 1 ≤ 9223372036854775807 then ((Bc.f k1 (t487 ++ (⟨#[46]⟩ : ByteArray))).bind fun bt490 => (if bt490.2.2.2.2 = true then (if t488.toList = ([] : List UInt8) then (some (([] : List (S25)), false)) else (if x4_1.length < 3518437208883 then (Ci.l0 k1 t488 (x4_1 ++ [(⟨bt490.1, bt490.2.1, bt490.2.2.1, bt490.2.2.2.1⟩ : S25)])) else (none))) else (some (([] : List (S25)), false)))) else (none)) = some (r1, r2) := by rw [if_pos rfl] at H; exact H
     clear H
     have H := H1
     clear H1
     by_cases c13 : t487.size + 1 ≤ 9223372036854775807
     ·rw [if_pos c13] at H
      have c13b0 := eq_true c13
      have c13b1 : decide (t487.size + 1 ≤ 9223372036854775807) = true := decide_eq_true c13
      try have c13b2 : (9223372036854775807 < t487.size + 1) = False := eq_false (Nat.not_lt.2 c13)
      replace H := Option.bind_eq_some_iff.mp H
      obtain ⟨⟨t490, t491, t492, t493, t494⟩, A140, H⟩ := H
      try dsimp only at H
      have A14 := Ac.mk A140
      clear A140
      by_cases c15 : t494 = true
      ·subst c15
       have H1 : (if t488.toList = ([] : List UInt8) then (some (([] : List (S25)), false)) else (if x4_1.length < 3518437208883 then (Ci.l0 k1 t488 (x4_1 ++ [(⟨t490, t491, t492, t493⟩ : S25)])) else (none))) = some (r1, r2) := by rw [if_pos rfl] at H; exact H
       clear H
       have H := H1
       clear H1
       by_cases c16 : t488.toList = ([] : List UInt8)
       ·rw [if_pos c16] at H
        have c16b0 : (t488.toList == ([] : List UInt8)) = true := beq_iff_eq.mpr c16
        have c16b1 : (t488.toList != ([] : List UInt8)) = false := bne_eq_false_iff_eq.mpr c16
        clear c16
        simp only [Option.some.injEq, Prod.mk.injEq] at H
        obtain ⟨rfl, rfl⟩ := H
        go_wp2_with (first | ((with_reducible refine Ap (f := 37) rfl ?_); refine Bj (some 15) rfl rfl Tryz.func37 (by kernel_rfl) rfl #[.string x0_1, .string (⟨#[46, 32]⟩ : ByteArray)] rfl Ya_ ?_; (with_reducible refine (strings_Cut.calls x0_1 (⟨#[46, 32]⟩ : ByteArray) t487 t488 true _ ?side1 A11.out).mono ?_); (case side1 => exact Fp.below HGL.out Yb_); rintro e w17 ⟨rfl, hb⟩; refine ⟨_, rfl, ?_⟩; have n0_ := Ac.mk (Kd.Fe Yba_ hb); have n1_ := Ac.mk (Ar Yb_ hb); clear HO_4; clear HB; have HO_4 := n0_; have HB := n1_; clear n0_ n1_; (try clear hb); (try clear hb2); (try clear hk); (try clear hi)) | ((with_reducible refine Ap (f := 9) rfl ?_); refine Bj (some 24) rfl rfl Tryz.func9 (by kernel_rfl) rfl #[.string (t487 ++ (⟨#[46]⟩ : ByteArray))] rfl Ya_ ?_; (with_reducible refine (Bc.calls k1 (t487 ++ (⟨#[46]⟩ : ByteArray)) t490 t491 t492 t493 true _ ?side1 A14.out).mono ?_); (case side1 => exact Fp.below HGL.out Yb_); rintro e w18 ⟨rfl, hb⟩; refine ⟨_, rfl, ?_⟩; have n0_ := Ac.mk (Kd.Fe Yba_ hb); have n1_ := Ac.mk (Ar Yb_ hb); clear HO_4; clear HB; have HO_4 := n0_; have HB := n1_; clear n0_ n1_; (try clear hb); (try clear hb2); (try clear hk); (try clear hi)) | ((with_reducible refine Dl (N := 8) rfl ?_); refine Dz ?hg (N := 8) ?hd (cs := #[.int .i64 0, .string (⟨#[]⟩ : ByteArray), .int .i64 0, .int .i64 0]) (t := 25) ?hr ?_; (case hd => rfl); (case hg => rfl); (case hr => first | (go_simp; done) | (go_simp; rfl)); intro gb0 hg w19 hbox hb; have n0_ := Ac.mk (Kd.Fe (Kd.Ie Yba_ gb0 (Nat.le_of_eq hg.symm)) hb); have n1_ := Ac.mk (Ar Yb_ hb); have n2_ := Ac.mk (hbox); have n3_ := Ac.mk ((by rw [hg]; exact (Ba Yb_) : w.heap.size ≤ gb0)); have n4_ := Ac.mk ((by rw [hg]; exact (Ba Yb_) : w.heap.size ≤ gb0)); clear HO_4; clear HB; have HO_4 := n0_; have HB := n1_; have BK0 := n2_; have GW0 := n3_; have GE0 := n4_; clear n0_ n1_ n2_ n3_ n4_; clear hb hbox hg; have hcz20_0 : w19.cell? ⟨gb0, 0, none⟩ = some (.int .i64 0) := (Ak BK0.out 0).trans rfl; have hcz20_1 : w19.cell? ⟨gb0, 1, none⟩ = some (.string (⟨#[]⟩ : ByteArray)) := (Ak BK0.out 1).trans rfl; have hcz20_2 : w19.cell? ⟨gb0, 2, none⟩ = some (.int .i64 0) := (Ak BK0.out 2).trans rfl; have hcz20_3 : w19.cell? ⟨gb0, 3, none⟩ = some (.int .i64 0) := (Ak BK0.out 3).trans rfl; have hfz20_0 := Ai BK0.out 0; have hfz20_1 := Ai BK0.out 1; have hfz20_2 := Ai BK0.out 2; have hfz20_3 := Ai BK0.out 3))
        go_ret2
        exact ⟨_, by first | rfl | (simp [Au, Aw] <;> rfl) | (simp [*, Au, Aw] <;> rfl), by first | exact Kd.R_nil _ _ _ _ _ | exact Kd.N_nil _ _ _ _ _ | exact Kd.V_nil _ _ _ _ _ | exact Kd.Q_nil _ _ _ _ _ | exact Kd.S_nil _ _ _ _ _, by repeat (first | (with_reducible first | exact HB.out | apply Ae | apply Aa | apply Ad | refine Am ?_ GE0.out) | exact HB.out)⟩
       ·rw [if_neg c16] at H
        have c16b0 : (t488.toList == ([] : List UInt8)) = false := beq_eq_false_iff_ne.mpr c16
        have c16b1 : (t488.toList != ([] : List UInt8)) = true := bne_iff_ne.mpr c16
        by_cases c21 : x4_1.length < 3518437208883
        ·rw [if_pos c21] at H
         have LMc21 := Ac.mk c21
         clear c21
         obtain ⟨y496, hy496⟩ : ∃ y_ : List (S25), y_ = (x4_1 ++ [(⟨t490, t491, t492, t493⟩ : S25)]) := ⟨_, rfl⟩
         replace H : (Ci.l0 k1 t488 y496) = some (r1, r2) := by first | (rw [hy496]; with_reducible exact H) | (have H2_ := (Option.bind_some _ _).symm.trans H; rw [hy496]; with_reducible exact H2_) | (have H2_ := (Option.bind_some _ _).symm.trans H; with_reducible exact H2_) | with_reducible exact H | (rw [hy496]; exact H) | exact H
         have Ny496 := Ac.mk hy496
         clear hy496
         have H' := Ac.mk H
         clear H
         go_wp2_with (first | ((with_reducible refine Ap (f := 37) rfl ?_); refine Bj (some 15) rfl rfl Tryz.func37 (by kernel_rfl) rfl #[.string x0_1, .string (⟨#[46, 32]⟩ : ByteArray)] rfl Ya_ ?_; (with_reducible refine (strings_Cut.calls x0_1 (⟨#[46, 32]⟩ : ByteArray) t487 t488 true _ ?side1 A11.out).mono ?_); (case side1 => exact Fp.below HGL.out Yb_); rintro e w22 ⟨rfl, hb⟩; refine ⟨_, rfl, ?_⟩; have n0_ := Ac.mk (Kd.Fe Yba_ hb); have n1_ := Ac.mk (Ar Yb_ hb); clear HO_4; clear HB; have HO_4 := n0_; have HB := n1_; clear n0_ n1_; (try clear hb); (try clear hb2); (try clear hk); (try clear hi)) | ((with_reducible refine Ap (f := 9) rfl ?_); refine Bj (some 24) rfl rfl Tryz.func9 (by kernel_rfl) rfl #[.string (t487 ++ (⟨#[46]⟩ : ByteArray))] rfl Ya_ ?_; (with_reducible refine (Bc.calls k1 (t487 ++ (⟨#[46]⟩ : ByteArray)) t490 t491 t492 t493 true _ ?side1 A14.out).mono ?_); (case side1 => exact Fp.below HGL.out Yb_); rintro e w23 ⟨rfl, hb⟩; refine ⟨_, rfl, ?_⟩; have n0_ := Ac.mk (Kd.Fe Yba_ hb); have n1_ := Ac.mk (Ar Yb_ hb); clear HO_4; clear HB; have HO_4 := n0_; have HB := n1_; clear n0_ n1_; (try clear hb); (try clear hb2); (try clear hk); (try clear hi)) | ((with_reducible refine Dl (N := 8) rfl ?_); refine Dz ?hg (N := 8) ?hd (cs := #[.int .i64 0, .string (⟨#[]⟩ : ByteArray), .int .i64 0, .int .i64 0]) (t := 25) ?hr ?_; (case hd => rfl); (case hg => rfl); (case hr => first | (go_simp; done) | (go_simp; rfl)); intro gb0 hg w24 hbox hb; have n0_ := Ac.mk (Kd.Fe (Kd.Ie Yba_ gb0 (Nat.le_of_eq hg.symm)) hb); have n1_ := Ac.mk (Ar Yb_ hb); have n2_ := Ac.mk (hbox); have n3_ := Ac.mk ((by rw [hg]; exact (Ba Yb_) : w.heap.size ≤ gb0)); have n4_ := Ac.mk ((by rw [hg]; exact (Ba Yb_) : w.heap.size ≤ gb0)); clear HO_4; clear HB; have HO_4 := n0_; have HB := n1_; have BK0 := n2_; have GW0 := n3_; have GE0 := n4_; clear n0_ n1_ n2_ n3_ n4_; clear hb hbox hg; have hcz25_0 : w24.cell? ⟨gb0, 0, none⟩ = some (.int .i64 0) := (Ak BK0.out 0).trans rfl; have hcz25_1 : w24.cell? ⟨gb0, 1, none⟩ = some (.string (⟨#[]⟩ : ByteArray)) := (Ak BK0.out 1).trans rfl; have hcz25_2 : w24.cell? ⟨gb0, 2, none⟩ = some (.int .i64 0) := (Ak BK0.out 2).trans rfl; have hcz25_3 : w24.cell? ⟨gb0, 3, none⟩ = some (.int .i64 0) := (Ak BK0.out 3).trans rfl; have hfz25_0 := Ai BK0.out 0; have hfz25_1 := Ai BK0.out 1; have hfz25_2 := Ai BK0.out 2; have hfz25_3 := Ai BK0.out 3) | ((with_reducible refine Gz (b := .append) (xs := #[.tmp 36, .tmp 38]) rfl ?_); at_builtin; refine Kd.Ia k25 (w0 := w) w.heap.size rfl (.tmp 36) (.tmp 38) 33 25 (.agg #[(.int .i64 0), (.string ⟨#[]⟩), (.int .i64 0), (.int .i64 0)]) 40 rfl Tryz.underlying33 info25 rfl (by decide) (by omega) u4 x4_1 (⟨t490, t491, t492, t493⟩ : S25) [.int .i64 t490, .string t491, .int .i64 t492, .int .i64 t493] (fun k_ => k_ ≠ gb0) (fun _ => False) rfl Yeh_ ?aP (fun _ hk => hk.elim) ?aF ?aO ?aB ?aS ?aL ?_; (case aP => exact Ic _ _ _ (⟨t490, t491, t492, t493⟩ : S25)); (case aB => exact Yc_); (case aF => exact (fun k_ hk => Kd.freshB (g := gb0) (o := .cells #[.int .i64 t490, .string t491, .int .i64 t492, .int .i64 t493] 25 (0, 0)) Ych_ k_ hk)); (case aO => exact (by (with_reducible repeat (first | apply Kd.Cb | apply Kd.Bz | apply Kd.Cm)); exact Kd.R_mono (Kd.F9 (p := ⟨gb0, 3, none⟩) (Kd.F9 (p := ⟨gb0, 2, none⟩) (Kd.F9 (p := ⟨gb0, 1, none⟩) (Kd.F9 (p := ⟨gb0, 0, none⟩) (Kd.R_mono HO_4.out (fun k_ hk => (⟨hk, hk.2⟩ : _ ∧ k_ ≠ gb0))) (fun _ hk => hk.2) (.int .i64 t490)) (fun _ hk => hk.2) (.string t491)) (fun _ hk => hk.2) (.int .i64 t492)) (fun _ hk => hk.2) (.int .i64 t493)) (fun _ hk => hk.1.2))); (case aS => exact (Ba Yc_)); (case aL => have := LMc21.out; omega); intro v497 w26 ho hb hg hat; rw [← Ny496.out] at ho; have n0_ := Ac.mk (Ib (g := gb0) (o := .cells #[.int .i64 t490, .string t491, .int .i64 t492, .int .i64 t493] 25 (0, 0)) Ych_ hg (Kd.R_away HO_4.out (fun _ hk => hk.2))); have n1_ := Ac.mk (hb); have n2_ := Ac.mk (ho); clear BK0; clear HB; clear HO_4; have BK0 := n0_; have HB := n1_; have HO498 := n2_; clear n0_ n1_ n2_; clear ho hb hg hat))
         go_roundg k1
         case measure => have := HK1.out; omega
         case rel => exact ⟨(t488), (y496), Yf_, H', ⟨by have := HK1.out; omega⟩, ⟨by (with_reducible repeat (first | apply Kd.Cb | apply Kd.Bz | apply Kd.Cm)); exact Kd.R_mono HO498.out (fun _ hk => trivial)⟩, ⟨by repeat (first | (with_reducible first | exact HB.out | apply Ae | apply Aa | apply Ad | refine Am ?_ GE0.out) | exact HB.out)⟩⟩
        ·rw [if_neg c21] at H
         exact absurd H (by simp)
      ·replace c15 := Bool.eq_false_iff.mpr c15
       subst c15
       have H1 : (some (([] : List (S25)), false)) = some (r1, r2) := by rw [if_neg (show ¬ (false = true) by decide)] at H; exact H
       clear H
       have H := H1
       clear H1
       simp only [Option.some.injEq, Prod.mk.injEq] at H
       obtain ⟨rfl, rfl⟩ := H
       go_wp2_with (first | ((with_reducible refine Ap (f := 37) rfl ?_); refine Bj (some 15) rfl rfl Tryz.func37 (by kernel_rfl) rfl #[.string x0_1, .string (⟨#[46, 32]⟩ : ByteArray)] rfl Ya_ ?_; (with_reducible refine (strings_Cut.calls x0_1 (⟨#[46, 32]⟩ : ByteArray) t487 t488 true _ ?side1 A11.out).mono ?_); (case side1 => exact Fp.below HGL.out Yb_); rintro e w27 ⟨rfl, hb⟩; refine ⟨_, rfl, ?_⟩; have n0_ := Ac.mk (Kd.Fe Yba_ hb); have n1_ := Ac.mk (Ar Yb_ hb); clear HO_4; clear HB; have HO_4 := n0_; have HB := n1_; clear n0_ n1_; (try clear hb); (try clear hb2); (try clear hk); (try clear hi)) | ((with_reducible refine Ap (f := 9) rfl ?_); refine Bj (some 24) rfl rfl Tryz.func9 (by kernel_rfl) rfl #[.string (t487 ++ (⟨#[46]⟩ : ByteArray))] rfl Ya_ ?_; (with_reducible refine (Bc.calls k1 (t487 ++ (⟨#[46]⟩ : ByteArray)) t490 t491 t492 t493 false _ ?side1 A14.out).mono ?_); (case side1 => exact Fp.below HGL.out Yb_); rintro e w28 ⟨rfl, hb⟩; refine ⟨_, rfl, ?_⟩; have n0_ := Ac.mk (Kd.Fe Yba_ hb); have n1_ := Ac.mk (Ar Yb_ hb); clear HO_4; clear HB; have HO_4 := n0_; have HB := n1_; clear n0_ n1_; (try clear hb); (try clear hb2); (try clear hk); (try clear hi)) | ((with_reducible refine Dl (N := 8) rfl ?_); refine Dz ?hg (N := 8) ?hd (cs := #[.int .i64 0, .string (⟨#[]⟩ : ByteArray), .int .i64 0, .int .i64 0]) (t := 25) ?hr ?_; (case hd => rfl); (case hg => rfl); (case hr => first | (go_simp; done) | (go_simp; rfl)); intro gb0 hg w29 hbox hb; have n0_ := Ac.mk (Kd.Fe (Kd.Ie Yba_ gb0 (Nat.le_of_eq hg.symm)) hb); have n1_ := Ac.mk (Ar Yb_ hb); have n2_ := Ac.mk (hbox); have n3_ := Ac.mk ((by rw [hg]; exact (Ba Yb_) : w.heap.size ≤ gb0)); have n4_ := Ac.mk ((by rw [hg]; exact (Ba Yb_) : w.heap.size ≤ gb0)); clear HO_4; clear HB; have HO_4 := n0_; have HB := n1_; have BK0 := n2_; have GW0 := n3_; have GE0 := n4_; clear n0_ n1_ n2_ n3_ n4_; clear hb hbox hg; have hcz30_0 : w29.cell? ⟨gb0, 0, none⟩ = some (.int .i64 0) := (Ak BK0.out 0).trans rfl; have hcz30_1 : w29.cell? ⟨gb0, 1, none⟩ = some (.string (⟨#[]⟩ : ByteArray)) := (Ak BK0.out 1).trans rfl; have hcz30_2 : w29.cell? ⟨gb0, 2, none⟩ = some (.int .i64 0) := (Ak BK0.out 2).trans rfl; have hcz30_3 : w29.cell? ⟨gb0, 3, none⟩ = some (.int .i64 0) := (Ak BK0.out 3).trans rfl; have hfz30_0 := Ai BK0.out 0; have hfz30_1 := Ai BK0.out 1; have hfz30_2 := Ai BK0.out 2; have hfz30_3 := Ai BK0.out 3))
       go_ret2
       exact ⟨_, by first | rfl | (simp [Au, Aw] <;> rfl) | (simp [*, Au, Aw] <;> rfl), by first | exact Kd.R_nil _ _ _ _ _ | exact Kd.N_nil _ _ _ _ _ | exact Kd.V_nil _ _ _ _ _ | exact Kd.Q_nil _ _ _ _ _ | exact Kd.S_nil _ _ _ _ _, by repeat (first | (with_reducible first | exact HB.out | apply Ae | apply Aa | apply Ad | refine Am ?_ GE0.out) | exact HB.out)⟩
     ·rw [if_neg c13] at H
      exact absurd H (by simp)
    ·replace c12 := Bool.eq_false_iff.mpr c12
     subst c12
     have H1 : ((Bc.f k1 t487).bind fun bt499 => (if bt499.2.2.2.2 = true then (if x4_1.length < 3518437208883 then (Ci.l0 k1 t488 (x4_1 ++ [(⟨bt499.1, bt499.2.1, bt499.2.2.1, bt499.2.2.2.1⟩ : S25)])) else (none)) else (some (([] : List (S25)), false)))) = some (r1, r2) := by rw [if_neg (show ¬ (false = true) by decide)] at H; exact H
     clear H
     have H := H1
     clear H1
     replace H := Option.bind_eq_some_iff.mp H
     obtain ⟨⟨t499, t500, t501, t502, t503⟩, A310, H⟩ := H
     try dsimp only at H
     have A31 := Ac.mk A310
     clear A310
     by_cases c32 : t503 = true
     ·subst c32
      have H1 : (if x4_1.length < 3518437208883 then (Ci.l0 k1 t488 (x4_1 ++ [(⟨t499, t500, t501, t502⟩ : S25)])) else (none)) = some (r1, r2) := by rw [if_pos rfl] at H; exact H
      clear H
      have H := H1
      clear H1
      by_cases c33 : x4_1.length < 3518437208883
      ·rw [if_pos c33] at H
       have LMc33 := Ac.mk c33
       clear c33
       obtain ⟨y505, hy505⟩ : ∃ y_ : List (S25), y_ = (x4_1 ++ [(⟨t499, t500, t501, t502⟩ : S25)]) := ⟨_, rfl⟩
       replace H : (Ci.l0 k1 t488 y505) = some (r1, r2) := by first | (rw [hy505]; with_reducible exact H) | (have H2_ := (Option.bind_some _ _).symm.trans H; rw [hy505]; with_reducible exact H2_) | (have H2_ := (Option.bind_some _ _).symm.trans H; with_reducible exact H2_) | with_reducible exact H | (rw [hy505]; exact H) | exact H
       have Ny505 := Ac.mk hy505
       clear hy505
       have H' := Ac.mk H
       clear H
       go_wp2_with (first | ((with_reducible refine Ap (f := 37) rfl ?_); refine Bj (some 15) rfl rfl Tryz.func37 (by kernel_rfl) rfl #[.string x0_1, .string (⟨#[46, 32]⟩ : ByteArray)] rfl Ya_ ?_; (with_reducible refine (strings_Cut.calls x0_1 (⟨#[46, 32]⟩ : ByteArray) t487 t488 false _ ?side1 A11.out).mono ?_); (case side1 => exact Fp.below HGL.out Yb_); rintro e w34 ⟨rfl, hb⟩; refine ⟨_, rfl, ?_⟩; have n0_ := Ac.mk (Kd.Fe Yba_ hb); have n1_ := Ac.mk (Ar Yb_ hb); clear HO_4; clear HB; have HO_4 := n0_; have HB := n1_; clear n0_ n1_; (try clear hb); (try clear hb2); (try clear hk); (try clear hi)) | ((with_reducible refine Ap (f := 9) rfl ?_); refine Bj (some 24) rfl rfl Tryz.func9 (by kernel_rfl) rfl #[.string t487] rfl Ya_ ?_; (with_reducible refine (Bc.calls k1 t487 t499 t500 t501 t502 true _ ?side1 A31.out).mono ?_); (case side1 => exact Fp.below HGL.out Yb_); rintro e w35 ⟨rfl, hb⟩; refine ⟨_, rfl, ?_⟩; have n0_ := Ac.mk (Kd.Fe Yba_ hb); have n1_ := Ac.mk (Ar Yb_ hb); clear HO_4; clear HB; have HO_4 := n0_; have HB := n1_; clear n0_ n1_; (try clear hb); (try clear hb2); (try clear hk); (try clear hi)) | ((with_reducible refine Dl (N := 8) rfl ?_); refine Dz ?hg (N := 8) ?hd (cs := #[.int .i64 0, .string (⟨#[]⟩ : ByteArray), .int .i64 0, .int .i64 0]) (t := 25) ?hr ?_; (case hd => rfl); (case hg => rfl); (case hr => first | (go_simp; done) | (go_simp; rfl)); intro gb1 hg w36 hbox hb; have n0_ := Ac.mk (Kd.Fe (Kd.Ie Yba_ gb1 (Nat.le_of_eq hg.symm)) hb); have n1_ := Ac.mk (Ar Yb_ hb); have n2_ := Ac.mk (hbox); have n3_ := Ac.mk ((by rw [hg]; exact (Ba Yb_) : w.heap.size ≤ gb1)); have n4_ := Ac.mk ((by rw [hg]; exact (Ba Yb_) : w.heap.size ≤ gb1)); clear HO_4; clear HB; have HO_4 := n0_; have HB := n1_; have BK1 := n2_; have GW1 := n3_; have GE1 := n4_; clear n0_ n1_ n2_ n3_ n4_; clear hb hbox hg; have hcz37_0 : w36.cell? ⟨gb1, 0, none⟩ = some (.int .i64 0) := (Ak BK1.out 0).trans rfl; have hcz37_1 : w36.cell? ⟨gb1, 1, none⟩ = some (.string (⟨#[]⟩ : ByteArray)) := (Ak BK1.out 1).trans rfl; have hcz37_2 : w36.cell? ⟨gb1, 2, none⟩ = some (.int .i64 0) := (Ak BK1.out 2).trans rfl; have hcz37_3 : w36.cell? ⟨gb1, 3, none⟩ = some (.int .i64 0) := (Ak BK1.out 3).trans rfl; have hfz37_0 := Ai BK1.out 0; have hfz37_1 := Ai BK1.out 1; have hfz37_2 := Ai BK1.out 2; have hfz37_3 := Ai BK1.out 3) | ((with_reducible refine Gz (b := .append) (xs := #[.tmp 36, .tmp 38]) rfl ?_); at_builtin; refine Kd.Ia k25 (w0 := w) w.heap.size rfl (.tmp 36) (.tmp 38) 33 25 (.agg #[(.int .i64 0), (.string ⟨#[]⟩), (.int .i64 0), (.int .i64 0)]) 40 rfl Tryz.underlying33 info25 rfl (by decide) (by omega) u4 x4_1 (⟨t499, t500, t501, t502⟩ : S25) [.int .i64 t499, .string t500, .int .i64 t501, .int .i64 t502] (fun k_ => k_ ≠ gb1) (fun _ => False) rfl Yeh_ ?aP (fun _ hk => hk.elim) ?aF ?aO ?aB ?aS ?aL ?_; (case aP => exact Ic _ _ _ (⟨t499, t500, t501, t502⟩ : S25)); (case aB => exact Yeg_); (case aF => exact (fun k_ hk => Kd.freshB (g := gb1) (o := .cells #[.int .i64 t499, .string t500, .int .i64 t501, .int .i64 t502] 25 (0, 0)) Yci_ k_ hk)); (case aO => exact (by (with_reducible repeat (first | apply Kd.Cb | apply Kd.Bz | apply Kd.Cm)); exact Kd.R_mono (Kd.F9 (p := ⟨gb1, 3, none⟩) (Kd.F9 (p := ⟨gb1, 2, none⟩) (Kd.F9 (p := ⟨gb1, 1, none⟩) (Kd.F9 (p := ⟨gb1, 0, none⟩) (Kd.R_mono HO_4.out (fun k_ hk => (⟨hk, hk.2⟩ : _ ∧ k_ ≠ gb1))) (fun _ hk => hk.2) (.int .i64 t499)) (fun _ hk => hk.2) (.string t500)) (fun _ hk => hk.2) (.int .i64 t501)) (fun _ hk => hk.2) (.int .i64 t502)) (fun _ hk => hk.1.2))); (case aS => exact (Ba Yeg_)); (case aL => have := LMc33.out; omega); intro v506 w38 ho hb hg hat; rw [← Ny505.out] at ho; have n0_ := Ac.mk (Ib (g := gb1) (o := .cells #[.int .i64 t499, .string t500, .int .i64 t501, .int .i64 t502] 25 (0, 0)) Yci_ hg (Kd.R_away HO_4.out (fun _ hk => hk.2))); have n1_ := Ac.mk (hb); have n2_ := Ac.mk (ho); clear BK1; clear HB; clear HO_4; have BK1 := n0_; have HB := n1_; have HO507 := n2_; clear n0_ n1_ n2_; clear ho hb hg hat))
       go_roundg k1
       case measure => have := HK1.out; omega
       case rel => exact ⟨(t488), (y505), Yf_, H', ⟨by have := HK1.out; omega⟩, ⟨by (with_reducible repeat (first | apply Kd.Cb | apply Kd.Bz | apply Kd.Cm)); exact Kd.R_mono HO507.out (fun _ hk => trivial)⟩, ⟨by repeat (first | (with_reducible first | exact HB.out | apply Ae | apply Aa | apply Ad | refine Am ?_ GE1.out) | exact HB.out)⟩⟩
      ·rw [if_neg c33] at H
       exact absurd H (by simp)
     ·replace c32 := Bool.eq_false_iff.mpr c32
      subst c32
      have H1 : (some (([] : List (S25)), false)) = some (r1, r2) := by rw [if_neg (show ¬ (false = true) by decide)] at H; exact H
      clear H
      have H := H1
      clear H1
      simp only [Option.some.injEq, Prod.mk.injEq] at H
      obtain ⟨rfl, rfl⟩ := H
      go_wp2_with (first | ((with_reducible refine Ap (f := 37) rfl ?_); refine Bj (some 15) rfl rfl Tryz.func37 (by kernel_rfl) rfl #[.string x0_1, .string (⟨#[46, 32]⟩ : ByteArray)] rfl Ya_ ?_; (with_reducible refine (strings_Cut.calls x0_1 (⟨#[46, 32]⟩ : ByteArray) t487 t488 false _ ?side1 A11.out).mono ?_); (case side1 => exact Fp.below HGL.out Yb_); rintro e w39 ⟨rfl, hb⟩; refine ⟨_, rfl, ?_⟩; have n0_ := Ac.mk (Kd.Fe Yba_ hb); have n1_ := Ac.mk (Ar Yb_ hb); clear HO_4; clear HB; have HO_4 := n0_; have HB := n1_; clear n0_ n1_; (try clear hb); (try clear hb2); (try clear hk); (try clear hi)) | ((with_reducible refine Ap (f := 9) rfl ?_); refine Bj (some 24) rfl rfl Tryz.func9 (by kernel_rfl) rfl #[.string t487] rfl Ya_ ?_; (with_reducible refine (Bc.calls k1 t487 t499 t500 t501 t502 false _ ?side1 A31.out).mono ?_); (case side1 => exact Fp.below HGL.out Yb_); rintro e w40 ⟨rfl, hb⟩; refine ⟨_, rfl, ?_⟩; have n0_ := Ac.mk (Kd.Fe Yba_ hb); have n1_ := Ac.mk (Ar Yb_ hb); clear HO_4; clear HB; have HO_4 := n0_; have HB := n1_; clear n0_ n1_; (try clear hb); (try clear hb2); (try clear hk); (try clear hi)) | ((with_reducible refine Dl (N := 8) rfl ?_); refine Dz ?hg (N := 8) ?hd (cs := #[.int .i64 0, .string (⟨#[]⟩ : ByteArray), .int .i64 0, .int .i64 0]) (t := 25) ?hr ?_; (case hd => rfl); (case hg => rfl); (case hr => first | (go_simp; done) | (go_simp; rfl)); intro gb1 hg w41 hbox hb; have n0_ := Ac.mk (Kd.Fe (Kd.Ie Yba_ gb1 (Nat.le_of_eq hg.symm)) hb); have n1_ := Ac.mk (Ar Yb_ hb); have n2_ := Ac.mk (hbox); have n3_ := Ac.mk ((by rw [hg]; exact (Ba Yb_) : w.heap.size ≤ gb1)); have n4_ := Ac.mk ((by rw [hg]; exact (Ba Yb_) : w.heap.size ≤ gb1)); clear HO_4; clear HB; have HO_4 := n0_; have HB := n1_; have BK1 := n2_; have GW1 := n3_; have GE1 := n4_; clear n0_ n1_ n2_ n3_ n4_; clear hb hbox hg; have hcz42_0 : w41.cell? ⟨gb1, 0, none⟩ = some (.int .i64 0) := (Ak BK1.out 0).trans rfl; have hcz42_1 : w41.cell? ⟨gb1, 1, none⟩ = some (.string (⟨#[]⟩ : ByteArray)) := (Ak BK1.out 1).trans rfl; have hcz42_2 : w41.cell? ⟨gb1, 2, none⟩ = some (.int .i64 0) := (Ak BK1.out 2).trans rfl; have hcz42_3 : w41.cell? ⟨gb1, 3, none⟩ = some (.int .i64 0) := (Ak BK1.out 3).trans rfl; have hfz42_0 := Ai BK1.out 0; have hfz42_1 := Ai BK1.out 1; have hfz42_2 := Ai BK1.out 2; have hfz42_3 := Ai BK1.out 3))
      go_ret2
      exact ⟨_, by first | rfl | (simp [Au, Aw] <;> rfl) | (simp [*, Au, Aw] <;> rfl), by first | exact Kd.R_nil _ _ _ _ _ | exact Kd.N_nil _ _ _ _ _ | exact Kd.V_nil _ _ _ _ _ | exact Kd.Q_nil _ _ _ _ _ | exact Kd.S_nil _ _ _ _ _, by repeat (first | (with_reducible first | exact HB.out | apply Ae | apply Aa | apply Ad | refine Am ?_ GE1.out) | exact HB.out)⟩
end Go.Proofs.YtghnljoaklmakaaGreatDoor.X

namespace Go.Proofs.YtghnljoaklmakaaGreatDoor.X
open Go.RowKit Go.Proofs.YtghnljoaklmakaaGreatDoorW.PrintWords Go.Proofs.YtghnljoaklmakaaGreatDoorW.PrintLast Go.Proofs.YtghnljoaklmakaaGreatDoorW.PrintMore
attribute [local go_sem] Ei Eh Ez Ey D7 D6 Ej Eg
open Go.Proofs.YtghnljoaklmakaaGreatDoorG
attribute [local go_sem high] eqA25
def D8.l0 : Nat → List (S25) → List (S25) → Int → Option (Bool)
 | 0, _, _, _ => none
 | k + 1, x0, x1, x5 => if x5 < (x0.length : Int) then (if 0 ≤ x5 then (if x5 < (x1.length : Int) then (if (!(((Az x0 x5).f0) == ((Az x1 x5).f0)) || (!((((Az x0 x5).f1).toList) == (((Az x1 x5).f1).toList)) || (!(((Az x0 x5).f2) == ((Az x1 x5).f2)) || (!(((Az x0 x5).f3) == ((Az x1 x5).f3)))))) = true then (some false) else (D8.l0 k x0 x1 (wrap64 (x5 + 1)))) else (none)) else (none)) else (some true)
def D8.f (k : Nat) (l0 : List (S25)) (l1 : List (S25)) : Option (Bool) := if (l0.length : Int) = (l1.length : Int) then (D8.l0 k l0 l1 0) else (some false)
theorem D8.Fa : ∀ k, (∀ y0 y1 y2, LeO (D8.l0 k y0 y1 y2) (D8.l0 (k + 1) y0 y1 y2))
 | 0 => fun _ _ _ r h => by simp [D8.l0] at h
 | k + 1 => by
  have ih0 := D8.Fa k
  ·intro y0 y1 y2
   unfold D8.l0
   repeat' first
   | (with_reducible exact ih0 _ _ _)
   | (with_reducible exact LeO.refl _)
   | (with_reducible exact LeO.none _)
   | (with_reducible refine LeO.ite ?_ ?_)
   | (with_reducible refine LeO.bind ?_ (fun _ => ?_))
   | exact ih0 _ _ _
   | exact LeO.none _
   | refine LeO.ite ?_ ?_
   | refine LeO.bind ?_ (fun _ => ?_)
theorem D8.mono : ∀ a0 a1 k, LeO (D8.f k a0 a1) (D8.f (k + 1) a0 a1) := by
 intro a0 a1 k
 have ih0 := D8.Fa k
 unfold D8.f
 repeat' first
   | (with_reducible exact ih0 _ _ _)
   | (with_reducible exact LeO.refl _)
   | (with_reducible exact LeO.none _)
   | (with_reducible refine LeO.ite ?_ ?_)
   | (with_reducible refine LeO.bind ?_ (fun _ => ?_))
   | exact ih0 _ _ _
   | exact LeO.none _
   | refine LeO.ite ?_ ?_
   | refine LeO.bind ?_ (fun _ => ?_)
set_option maxHeartbeats 8000000 in
set_option maxRecDepth 100000 in
theorem D8.calls (k : Nat) (A0 : Option Addr) (c0 : Nat) (l0 : List (S25)) (A1 : Option Addr) (c1 : Nat) (l1 : List (S25)) (r : Bool) (w : World) (hr0 : Kd.C k25 w A0 l0.length l0) (hc0 : l0.length ≤ c0) (hr1 : Kd.C k25 w A1 l1.length l1) (hc1 : l1.length ≤ c1) (h : D8.f k l0 l1 = some r) :
  Calls Tryz.prog 16 #[.slice A0 l0.length c0, .slice A1 l1.length c1] w fun e w' => e = .returned (.bool r) ∧ C9 w w' := by
 have hu25 := Tryz.underlying25
 have HR0 := Ac.mk hr0
 have HC0 := Ac.mk hc0
 clear hr0 hc0
 have HR1 := Ac.mk hr1
 have HC1 := Ac.mk hc1
 clear hr1 hc1
 have H : (if (l0.length : Int) = (l1.length : Int) then (D8.l0 k l0 l1 0) else (some false)) = some r := h
 clear h
 by_cases c3 : (l0.length : Int) = (l1.length : Int)
 ·rw [if_pos c3] at H
  have c3b0 : ((l0.length : Int) == (l1.length : Int)) = true := beq_iff_eq.mpr c3
  have c3b1 : ((l0.length : Int) != (l1.length : Int)) = false := bne_eq_false_iff_eq.mpr c3
  have c3b2 : (l0.length == l1.length) = true := by first | simpa using c3 | (simp at c3 ⊢; omega)
  clear c3
  have H' := Ac.mk H
  clear H
  go_enter Tryz.func16, Tryz.ntmps16
  go_wp2
  repeat (go_quiet (fail); try go_wp2)
  go_loopg [5] k (fun kq v5 w' => ∃ (x5_1 : Int), v5 = .int .i64 x5_1 ∧ Ac (D8.l0 kq l0 l1 x5_1 = some r) ∧ Ac (kq ≤ k) ∧ C9 w w')
  case atStart => exact ⟨(0), Yf_, H', ⟨Nat.le_refl _⟩, by repeat (first | exact C9.refl _ | apply C9.step)⟩
  case round =>
   clear H'
   try clear c1; try clear p2; try clear c3; try clear c3b0; try clear c3b1; try clear c3b2
   obtain ⟨x5_1, rfl, HA, HK1, ⟨m1, rfl⟩⟩ := hrel
   cases gk with
   | zero => exact absurd HA.out (by simp [D8.l0])
   | succ k1 =>
    have H := HA.out
    clear HA
    simp only [D8.l0] at H
    by_cases c4 : x5_1 < (l0.length : Int)
    ·rw [if_pos c4] at H
     have c4b0 : decide (x5_1 < (l0.length : Int)) = true := decide_eq_true c4
     clear c4
     by_cases c5 : 0 ≤ x5_1
     ·rw [if_pos c5] at H
      have c5b0 : decide (0 ≤ x5_1) = true := decide_eq_true c5
      clear c5
      by_cases c6 : x5_1 < (l1.length : Int)
      ·rw [if_pos c6] at H
       have c6b0 : decide (x5_1 < (l1.length : Int)) = true := decide_eq_true c6
       clear c6
       by_cases c7 : (!(((Az l0 x5_1).f0) == ((Az l1 x5_1).f0)) || (!((((Az l0 x5_1).f1).toList) == (((Az l1 x5_1).f1).toList)) || (!(((Az l0 x5_1).f2) == ((Az l1 x5_1).f2)) || (!(((Az l0 x5_1).f3) == ((Az l1 x5_1).f3)))))) = true
       ·rw [if_pos c7] at H
        have c7b0 : (!(((Az l0 x5_1).f0) == ((Az l1 x5_1).f0)) || (!((((Az l0 x5_1).f1).toList) == (((Az l1 x5_1).f1).toList)) || (!(((Az l0 x5_1).f2) == ((Az l1 x5_1).f2)) || (!(((Az l0 x5_1).f3) == ((Az l1 x5_1).f3)))))) = true := c7
        clear c7
        obtain rfl := Option.some.inj H
        have p508 : 0 ≤ (x5_1 : Int) := of_decide_eq_true Ye_
        have q508 : x5_1 < (l0.length : Int) := of_decide_eq_true Ye_
        obtain ⟨ad508, e508, hx508_0, hx508_1, hx508_2, hx508_3⟩ := G9 HR0.out x5_1 p508 q508
        cases e508
        replace p508 := eq_true p508
        replace q508 := eq_true q508
        have p509 : 0 ≤ (x5_1 : Int) := of_decide_eq_true Ye_
        have q509 : x5_1 < (l1.length : Int) := of_decide_eq_true Ye_
        obtain ⟨ad509, e509, hx509_0, hx509_1, hx509_2, hx509_3⟩ := G9 HR1.out x5_1 p509 q509
        cases e509
        replace p509 := eq_true p509
        replace q509 := eq_true q509
        go_wp2
        repeat (go_quiet (fail); try go_wp2)
        go_ret
        exact ⟨by first | rfl | (simp; done) | (simp [*]; done), by repeat (first | exact C9.refl _ | apply C9.step)⟩
       ·rw [if_neg c7] at H
        have c7b0 : (!(((Az l0 x5_1).f0) == ((Az l1 x5_1).f0)) || (!((((Az l0 x5_1).f1).toList) == (((Az l1 x5_1).f1).toList)) || (!(((Az l0 x5_1).f2) == ((Az l1 x5_1).f2)) || (!(((Az l0 x5_1).f3) == ((Az l1 x5_1).f3)))))) = false := by simpa using c7
        clear c7
        have H' := Ac.mk H
        clear H
        have p508 : 0 ≤ (x5_1 : Int) := of_decide_eq_true Ye_
        have q508 : x5_1 < (l0.length : Int) := of_decide_eq_true Ye_
        obtain ⟨ad508, e508, hx508_0, hx508_1, hx508_2, hx508_3⟩ := G9 HR0.out x5_1 p508 q508
        cases e508
        replace p508 := eq_true p508
        replace q508 := eq_true q508
        have p509 : 0 ≤ (x5_1 : Int) := of_decide_eq_true Ye_
        have q509 : x5_1 < (l1.length : Int) := of_decide_eq_true Ye_
        obtain ⟨ad509, e509, hx509_0, hx509_1, hx509_2, hx509_3⟩ := G9 HR1.out x5_1 p509 q509
        cases e509
        replace p509 := eq_true p509
        replace q509 := eq_true q509
        go_wp2
        repeat (go_quiet (fail); try go_wp2)
        go_roundg k1
        case measure => have := HK1.out; omega
        case rel => exact ⟨(wrap64 (x5_1 + 1)), Yf_, H', ⟨by have := HK1.out; omega⟩, by repeat (first | exact C9.refl _ | apply C9.step)⟩
      ·rw [if_neg c6] at H
       exact absurd H (by simp)
     ·rw [if_neg c5] at H
      exact absurd H (by simp)
    ·rw [if_neg c4] at H
     have c4b0 : decide (x5_1 < (l0.length : Int)) = false := decide_eq_false c4
     clear c4
     obtain rfl := Option.some.inj H
     go_wp2
     repeat (go_quiet (fail); try go_wp2)
     go_ret
     exact ⟨by first | rfl | (simp; done) | (simp [*]; done), by repeat (first | exact C9.refl _ | apply C9.step)⟩
 ·rw [if_neg c3] at H
  have c3b0 : ((l0.length : Int) == (l1.length : Int)) = false := beq_eq_false_iff_ne.mpr c3
  have c3b1 : ((l0.length : Int) != (l1.length : Int)) = true := bne_iff_ne.mpr c3
  have c3b2 : (l0.length == l1.length) = false := by first | simpa using c3 | (simp at c3 ⊢; omega)
  obtain rfl := Option.some.inj H
  go_enter Tryz.func16, Tryz.ntmps16
  go_wp2
  repeat (go_quiet (fail); try go_wp2)
  go_ret
  exact ⟨by first | rfl | (simp; done) | (simp [*]; done), by repeat (first | exact C9.refl _ | apply C9.step)⟩
end Go.Proofs.YtghnljoaklmakaaGreatDoor.X

namespace Go.Proofs.YtghnljoaklmakaaGreatDoor.X
open Go.RowKit Go.Proofs.YtghnljoaklmakaaGreatDoorW.PrintWords Go.Proofs.YtghnljoaklmakaaGreatDoorW.PrintLast Go.Proofs.YtghnljoaklmakaaGreatDoorW.PrintMore
attribute [local go_sem] Ei Eh Ez Ey D7 D6 Ej Eg
open Go.Proofs.YtghnljoaklmakaaGreatDoorG
def Es.f (k : Nat) (l0 : List Int) : Option (ByteArray) := (Bf.f k l0 0 0).bind fun bt511 => ((Cf.f k bt511.1).bind fun bt516 => ((Fq.f l0 bt511.2.1 bt511.2.2 4).bind fun bt518 => (if bt518.1 = true then ((Fj.f l0 bt518.2.1 bt518.2.2 bt516.1 (⟨#[46, 32, 48, 49, 115]⟩ : ByteArray)).bind fun bt521 => (some bt521.1)) else (some bt516.1))))
theorem Es.mono : ∀ a0 k, LeO (Es.f k a0) (Es.f (k + 1) a0) := by
 intro a0 k
 unfold Es.f
 repeat' first
   | (with_reducible exact Cf.mono _ _)
   | (with_reducible exact Bf.mono _ _ _ _)
   | (with_reducible exact LeO.refl _)
   | (with_reducible exact LeO.none _)
   | (with_reducible refine LeO.ite ?_ ?_)
   | (with_reducible refine LeO.bind ?_ (fun _ => ?_))
   | exact Cf.mono _ _
   | exact Bf.mono _ _ _ _
   | exact LeO.none _
   | refine LeO.ite ?_ ?_
   | refine LeO.bind ?_ (fun _ => ?_)
set_option maxHeartbeats 8000000 in
set_option maxRecDepth 100000 in
theorem Es.calls (k : Nat) (A0 : Option Addr) (c0 : Nat) (l0 : List Int) (r : ByteArray) (w : World) (hr0 : Kd.C (Kd.int .u8) w A0 l0.length l0) (hc0 : l0.length ≤ c0) (h : Es.f k l0 = some r) :
  Calls Tryz.prog 17 #[.slice A0 l0.length c0] w fun e w' => e = .returned (.string r) ∧ Below w.heap.size w w' := by
 have hu48 := Tryz.underlying48
 have HR0 := Ac.mk hr0
 have HC0 := Ac.mk hc0
 clear hr0 hc0
 have HB := Ac.mk (Below.refl w.heap.size w)
 have H : ((Bf.f k l0 0 0).bind fun bt511 => ((Cf.f k bt511.1).bind fun bt516 => ((Fq.f l0 bt511.2.1 bt511.2.2 4).bind fun bt518 => (if bt518.1 = true then ((Fj.f l0 bt518.2.1 bt518.2.2 bt516.1 (⟨#[46, 32, 48, 49, 115]⟩ : ByteArray)).bind fun bt521 => (some bt521.1)) else (some bt516.1))))) = some r := h
 clear h
 replace H := Option.bind_eq_some_iff.mp H
 obtain ⟨⟨t511, t514, t515⟩, A20, H⟩ := H
 try dsimp only at H
 have A2 := Ac.mk A20
 clear A20
 replace H := Option.bind_eq_some_iff.mp H
 obtain ⟨⟨t516, t517⟩, A30, H⟩ := H
 try dsimp only at H
 have A3 := Ac.mk A30
 clear A30
 replace H := Option.bind_eq_some_iff.mp H
 obtain ⟨⟨t518, t519, t520⟩, A40, H⟩ := H
 try dsimp only at H
 have A4 := Ac.mk A40
 clear A40
 by_cases c5 : t518 = true
 ·subst c5
  have H1 : ((Fj.f l0 t519 t520 t516 (⟨#[46, 32, 48, 49, 115]⟩ : ByteArray)).bind fun bt521 => (some bt521.1)) = some r := by rw [if_pos rfl] at H; exact H
  clear H
  have H := H1
  clear H1
  replace H := Option.bind_eq_some_iff.mp H
  obtain ⟨⟨t521, t522, t523⟩, A60, H⟩ := H
  try dsimp only at H
  have A6 := Ac.mk A60
  clear A60
  obtain rfl := Option.some.inj H
  go_enter Tryz.func17, Tryz.ntmps17
  go_wp2_with (first | ((with_reducible refine Dl (N := 8) rfl ?_); refine Dz ?hg (N := 8) ?hd (cs := #[.slice A0 l0.length c0, .int .i64 0, .int .u64 0]) (t := 48) ?hr ?_; (case hd => rfl); (case hg => rfl); (case hr => first | (go_simp; done) | (go_simp; rfl)); intro gb0 hg w7 hbox hb; have n0_ := Ac.mk (Ar Yb_ hb); have n1_ := Ac.mk ((by rw [hg]; exact (Ba Yb_) : w.heap.size ≤ gb0)); have n2_ := Ac.mk ((by rw [hg]; exact (Ba Yb_) : w.heap.size ≤ gb0)); have n3_ := Ac.mk ((⟨_, _, hbox, (by rw [hg]; exact (Ba Yb_)), HR0.out⟩ : Aj w w7 gb0 l0 0 0)); clear HB; have HB := n0_; have GW0 := n1_; have GE0 := n2_; have HI510 := n3_; clear n0_ n1_ n2_ n3_; clear hb hbox hg) | ((with_reducible refine Ap (f := 33) rfl ?_); refine Bj (some 11) rfl rfl Tryz.func33 (by kernel_rfl) rfl #[.pointer (some ⟨gb0, 0, none⟩)] rfl Ya_ ?_; (with_reducible refine (Bf.calls k gb0 l0 0 0 t511 t514 t515 w _ ?side1 ?side2 A2.out).mono ?_); (case side1 => repeat (first | (with_reducible first | exact HI510.out | apply Aj.alloc | apply Aj.drewN | apply Aj.drew | apply Aj.Dv | apply Aj.Du) | exact HI510.out)); (case side2 => repeat (first | (with_reducible first | exact HB.out | apply Ae | apply Aa | apply Ad | refine Am ?_ (Aj.ge HI510.out)) | exact HB.out)); rintro e w8 ⟨v512, rfl, ho0, hi, hb, hk⟩; refine ⟨_, rfl, ?_⟩; have n0_ := Ac.mk (Kd.Gg ho0 (Ba Ydi_)); have n1_ := Ac.mk (hb); have n2_ := Ac.mk (hi); clear HB; clear HI510; have HO513 := n0_; have HB := n1_; have HI510 := n2_; clear n0_ n1_ n2_; (try clear hb); (try clear hb2); (try clear hk); (try clear hi); (try clear ho0); obtain ⟨Ao9, co9, eo9⟩ := Kd.Gh HO513.out; subst eo9) | ((with_reducible refine Ap (f := 14) rfl ?_); refine Bj (some 12) rfl rfl Tryz.func14 (by kernel_rfl) rfl #[.slice Ao9 t511.length co9] rfl Ya_ ?_; (with_reducible refine (Cf.calls k _ _ t511 t516 t517 _ ?side1 ?side2 A3.out).mono ?_); (case side1 => repeat (first | exact (Kd.Ec HO513.out).2.2 | (with_reducible refine Kd.F5 ?_ _) | (with_reducible refine Kd.F6 ?_ _) | (with_reducible refine Kd.Gj ?_))); (case side2 => exact (Kd.Ec HO513.out).2.1); rintro e w10 ⟨rfl, hb⟩; refine ⟨_, rfl, ?_⟩; have n0_ := Ac.mk (Kd.Fe Yea_ hb); have n1_ := Ac.mk (Aj.below Yef_ hb); have n2_ := Ac.mk (Ar Ydi_ hb); clear HO513; clear HI510; clear HB; have HO513 := n0_; have HI510 := n1_; have HB := n2_; clear n0_ n1_ n2_; (try clear hb); (try clear hb2); (try clear hk); (try clear hi)) | ((with_reducible refine Ap (f := 28) rfl ?_); refine Bj (some 16) rfl rfl Tryz.func28 (by kernel_rfl) rfl #[.pointer (some ⟨gb0, 0, none⟩), .int .i64 4] rfl Ya_ ?_; (with_reducible refine (Fq.calls gb0 l0 t514 t515 4 true t519 t520 w _ ?side1 ?side2 A4.out).mono ?_); (case side1 => repeat (first | (with_reducible first | exact HI510.out | apply Aj.alloc | apply Aj.drewN | apply Aj.drew | apply Aj.Dv | apply Aj.Du) | exact HI510.out)); (case side2 => repeat (first | (with_reducible first | exact HB.out | apply Ae | apply Aa | apply Ad | refine Am ?_ (Aj.ge HI510.out)) | exact HB.out)); rintro e w11 ⟨rfl, hi, hb, hk⟩; refine ⟨_, rfl, ?_⟩; have n0_ := Ac.mk (Kd.R_mono (Kd.Hr (Aj.apart (show Aj w _ gb0 l0 t514 t515 from by repeat (first | (with_reducible first | exact HI510.out | apply Aj.alloc | apply Aj.drewN | apply Aj.drew | apply Aj.Dv | apply Aj.Du) | exact HI510.out)) Yea_ (by decide)) hk (fun _ h => h.2)) (fun _ h => h.1)); have n1_ := Ac.mk (hb); have n2_ := Ac.mk (hi); clear HO513; clear HB; clear HI510; have HO513 := n0_; have HB := n1_; have HI510 := n2_; clear n0_ n1_ n2_; (try clear hb); (try clear hb2); (try clear hk); (try clear hi)) | ((with_reducible refine Ap (f := 29) rfl ?_); refine Bj (some 19) rfl rfl Tryz.func29 (by kernel_rfl) rfl #[.pointer (some ⟨gb0, 0, none⟩), .string t516, .string (⟨#[46, 32, 48, 49, 115]⟩ : ByteArray)] rfl Ya_ ?_; (with_reducible refine (Fj.calls gb0 l0 t519 t520 t516 (⟨#[46, 32, 48, 49, 115]⟩ : ByteArray) t521 t522 t523 w _ ?side1 ?side2 A6.out).mono ?_); (case side1 => repeat (first | (with_reducible first | exact HI510.out | apply Aj.alloc | apply Aj.drewN | apply Aj.drew | apply Aj.Dv | apply Aj.Du) | exact HI510.out)); (case side2 => repeat (first | (with_reducible first | exact HB.out | apply Ae | apply Aa | apply Ad | refine Am ?_ (Aj.ge HI510.out)) | exact HB.out)); rintro e w12 ⟨rfl, hi, hb, hk⟩; refine ⟨_, rfl, ?_⟩; have n0_ := Ac.mk (Kd.R_mono (Kd.Hr (Aj.apart (show Aj w _ gb0 l0 t519 t520 from by repeat (first | (with_reducible first | exact HI510.out | apply Aj.alloc | apply Aj.drewN | apply Aj.drew | apply Aj.Dv | apply Aj.Du) | exact HI510.out)) Yea_ (by decide)) hk (fun _ h => h.2)) (fun _ h => h.1)); have n1_ := Ac.mk (hb); have n2_ := Ac.mk (hi); clear HO513; clear HB; clear HI510; have HO513 := n0_; have HB := n1_; have HI510 := n2_; clear n0_ n1_ n2_; (try clear hb); (try clear hb2); (try clear hk); (try clear hi)))
  go_ret
  exact ⟨by first | rfl | (simp [Au, Aw] <;> rfl) | (simp [*, Au, Aw] <;> rfl), by repeat (first | (with_reducible first | exact HB.out | apply Ae | apply Aa | apply Ad | refine Am ?_ (Aj.ge HI510.out)) | exact HB.out)⟩
 ·replace c5 := Bool.eq_false_iff.mpr c5
  subst c5
  have H1 : (some t516) = some r := by rw [if_neg (show ¬ (false = true) by decide)] at H; exact H
  clear H
  have H := H1
  clear H1
  obtain rfl := Option.some.inj H
  go_enter Tryz.func17, Tryz.ntmps17
  go_wp2_with (first | ((with_reducible refine Dl (N := 8) rfl ?_); refine Dz ?hg (N := 8) ?hd (cs := #[.slice A0 l0.length c0, .int .i64 0, .int .u64 0]) (t := 48) ?hr ?_; (case hd => rfl); (case hg => rfl); (case hr => first | (go_simp; done) | (go_simp; rfl)); intro gb0 hg w13 hbox hb; have n0_ := Ac.mk (Ar Yb_ hb); have n1_ := Ac.mk ((by rw [hg]; exact (Ba Yb_) : w.heap.size ≤ gb0)); have n2_ := Ac.mk ((by rw [hg]; exact (Ba Yb_) : w.heap.size ≤ gb0)); have n3_ := Ac.mk ((⟨_, _, hbox, (by rw [hg]; exact (Ba Yb_)), HR0.out⟩ : Aj w w13 gb0 l0 0 0)); clear HB; have HB := n0_; have GW0 := n1_; have GE0 := n2_; have HI510 := n3_; clear n0_ n1_ n2_ n3_; clear hb hbox hg) | ((with_reducible refine Ap (f := 33) rfl ?_); refine Bj (some 11) rfl rfl Tryz.func33 (by kernel_rfl) rfl #[.pointer (some ⟨gb0, 0, none⟩)] rfl Ya_ ?_; (with_reducible refine (Bf.calls k gb0 l0 0 0 t511 t514 t515 w _ ?side1 ?side2 A2.out).mono ?_); (case side1 => repeat (first | (with_reducible first | exact HI510.out | apply Aj.alloc | apply Aj.drewN | apply Aj.drew | apply Aj.Dv | apply Aj.Du) | exact HI510.out)); (case side2 => repeat (first | (with_reducible first | exact HB.out | apply Ae | apply Aa | apply Ad | refine Am ?_ (Aj.ge HI510.out)) | exact HB.out)); rintro e w14 ⟨v512, rfl, ho0, hi, hb, hk⟩; refine ⟨_, rfl, ?_⟩; have n0_ := Ac.mk (Kd.Gg ho0 (Ba Ydi_)); have n1_ := Ac.mk (hb); have n2_ := Ac.mk (hi); clear HB; clear HI510; have HO513 := n0_; have HB := n1_; have HI510 := n2_; clear n0_ n1_ n2_; (try clear hb); (try clear hb2); (try clear hk); (try clear hi); (try clear ho0); obtain ⟨Ao15, co15, eo15⟩ := Kd.Gh HO513.out; subst eo15) | ((with_reducible refine Ap (f := 14) rfl ?_); refine Bj (some 12) rfl rfl Tryz.func14 (by kernel_rfl) rfl #[.slice Ao15 t511.length co15] rfl Ya_ ?_; (with_reducible refine (Cf.calls k _ _ t511 t516 t517 _ ?side1 ?side2 A3.out).mono ?_); (case side1 => repeat (first | exact (Kd.Ec HO513.out).2.2 | (with_reducible refine Kd.F5 ?_ _) | (with_reducible refine Kd.F6 ?_ _) | (with_reducible refine Kd.Gj ?_))); (case side2 => exact (Kd.Ec HO513.out).2.1); rintro e w16 ⟨rfl, hb⟩; refine ⟨_, rfl, ?_⟩; have n0_ := Ac.mk (Kd.Fe Yea_ hb); have n1_ := Ac.mk (Aj.below Yef_ hb); have n2_ := Ac.mk (Ar Ydi_ hb); clear HO513; clear HI510; clear HB; have HO513 := n0_; have HI510 := n1_; have HB := n2_; clear n0_ n1_ n2_; (try clear hb); (try clear hb2); (try clear hk); (try clear hi)) | ((with_reducible refine Ap (f := 28) rfl ?_); refine Bj (some 16) rfl rfl Tryz.func28 (by kernel_rfl) rfl #[.pointer (some ⟨gb0, 0, none⟩), .int .i64 4] rfl Ya_ ?_; (with_reducible refine (Fq.calls gb0 l0 t514 t515 4 false t519 t520 w _ ?side1 ?side2 A4.out).mono ?_); (case side1 => repeat (first | (with_reducible first | exact HI510.out | apply Aj.alloc | apply Aj.drewN | apply Aj.drew | apply Aj.Dv | apply Aj.Du) | exact HI510.out)); (case side2 => repeat (first | (with_reducible first | exact HB.out | apply Ae | apply Aa | apply Ad | refine Am ?_ (Aj.ge HI510.out)) | exact HB.out)); rintro e w17 ⟨rfl, hi, hb, hk⟩; refine ⟨_, rfl, ?_⟩; have n0_ := Ac.mk (Kd.R_mono (Kd.Hr (Aj.apart (show Aj w _ gb0 l0 t514 t515 from by repeat (first | (with_reducible first | exact HI510.out | apply Aj.alloc | apply Aj.drewN | apply Aj.drew | apply Aj.Dv | apply Aj.Du) | exact HI510.out)) Yea_ (by decide)) hk (fun _ h => h.2)) (fun _ h => h.1)); have n1_ := Ac.mk (hb); have n2_ := Ac.mk (hi); clear HO513; clear HB; clear HI510; have HO513 := n0_; have HB := n1_; have HI510 := n2_; clear n0_ n1_ n2_; (try clear hb); (try clear hb2); (try clear hk); (try clear hi)))
  go_ret
  exact ⟨by first | rfl | (simp [Au, Aw] <;> rfl) | (simp [*, Au, Aw] <;> rfl), by repeat (first | (with_reducible first | exact HB.out | apply Ae | apply Aa | apply Ad | refine Am ?_ (Aj.ge HI510.out)) | exact HB.out)⟩
mutual
def Bl.l0 : Nat → ByteArray → List (S25) → Int → Option ((List (S25)) × Bool)
 | 0, _, _, _ => none
 | k + 1, x0, x4, x5 => if x5 < (x0.size : Int) then (Bl.l1 k x0 x4 x5 x5) else ((Cf.f k x4).bind fun bt527 => (if bt527.2 = true then (if bt527.1.toList = x0.toList then (some (x4, true)) else (some ((([] : List (S25))), false))) else (some ((([] : List (S25))), false))))
def Bl.j2 : Nat → ByteArray → List (S25) → Int → Int → Option ((List (S25)) × Bool)
 | 0, _, _, _, _ => none
 | k + 1, x0, x4, x5, x6 => if x6 = (x0.size : Int) then (some ((([] : List (S25))), false)) else (if 0 ≤ x5 then (if x5 ≤ (wrap64 (x6 + 1)) then (if (wrap64 (x6 + 1)) ≤ (x0.size : Int) then ((Aq.f k (x0.extract (x5 : Int).toNat ((wrap64 (x6 + 1)) : Int).toNat)).bind fun bt538 => (if bt538.2.2.2.2 = true then (if x4.length < 3518437208883 then (Bl.l0 k x0 (x4 ++ [(⟨bt538.1, bt538.2.1, bt538.2.2.1, bt538.2.2.2.1⟩ : S25)]) (wrap64 (x6 + 2))) else (none)) else (some ((([] : List (S25))), false)))) else (none)) else (none)) else (none))
def Bl.l1 : Nat → ByteArray → List (S25) → Int → Int → Option ((List (S25)) × Bool)
 | 0, _, _, _, _ => none
 | k + 1, x0, x4, x5, x6 => if x6 < (x0.size : Int) then (if 0 ≤ x6 then (if (bt x0 x6) = 46 then (Bl.j2 k x0 x4 x5 x6) else (Bl.l1 k x0 x4 x5 (wrap64 (x6 + 1)))) else (none)) else (Bl.j2 k x0 x4 x5 x6)
end
def Bl.f (k : Nat) (a0 : ByteArray) : Option ((List (S25)) × Bool) := (some (([] : List (S25)) : List (S25))).bind fun y524 => (if (a0.size : Int) > 2000 then (some (y524, false)) else (Bl.l0 k a0 y524 0))
theorem Bl.Fa : ∀ k, (∀ y0 y1 y2, LeO (Bl.l0 k y0 y1 y2) (Bl.l0 (k + 1) y0 y1 y2)) ∧ (∀ y0 y1 y2 y3, LeO (Bl.j2 k y0 y1 y2 y3) (Bl.j2 (k + 1) y0 y1 y2 y3)) ∧ (∀ y0 y1 y2 y3, LeO (Bl.l1 k y0 y1 y2 y3) (Bl.l1 (k + 1) y0 y1 y2 y3))
 | 0 => ⟨fun _ _ _ r h => by simp [Bl.l0] at h, fun _ _ _ _ r h => by simp [Bl.j2] at h, fun _ _ _ _ r h => by simp [Bl.l1] at h⟩
 | k + 1 => by
  obtain ⟨ih0, ih1, ih2⟩ := Bl.Fa k
  refine ⟨?_, ?_, ?_⟩
  ·intro y0 y1 y2
   unfold Bl.l0
   repeat' first
   | (with_reducible exact ih0 _ _ _)
   | (with_reducible exact ih1 _ _ _ _)
   | (with_reducible exact ih2 _ _ _ _)
   | (with_reducible exact Aq.mono _ _)
   | (with_reducible exact Cf.mono _ _)
   | (with_reducible exact LeO.refl _)
   | (with_reducible exact LeO.none _)
   | (with_reducible refine LeO.ite ?_ ?_)
   | (with_reducible refine LeO.bind ?_ (fun _ => ?_))
   | exact ih0 _ _ _
   | exact ih1 _ _ _ _
   | exact ih2 _ _ _ _
   | exact Aq.mono _ _
   | exact Cf.mono _ _
   | exact LeO.none _
   | refine LeO.ite ?_ ?_
   | refine LeO.bind ?_ (fun _ => ?_)
  ·intro y0 y1 y2 y3
   unfold Bl.j2
   repeat' first
   | (with_reducible exact ih0 _ _ _)
   | (with_reducible exact ih1 _ _ _ _)
   | (with_reducible exact ih2 _ _ _ _)
   | (with_reducible exact Aq.mono _ _)
   | (with_reducible exact Cf.mono _ _)
   | (with_reducible exact LeO.refl _)
   | (with_reducible exact LeO.none _)
   | (with_reducible refine LeO.ite ?_ ?_)
   | (with_reducible refine LeO.bind ?_ (fun _ => ?_))
   | exact ih0 _ _ _
   | exact ih1 _ _ _ _
   | exact ih2 _ _ _ _
   | exact Aq.mono _ _
   | exact Cf.mono _ _
   | exact LeO.none _
   | refine LeO.ite ?_ ?_
   | refine LeO.bind ?_ (fun _ => ?_)
  ·intro y0 y1 y2 y3
   unfold Bl.l1
   repeat' first
   | (with_reducible exact ih0 _ _ _)
   | (with_reducible exact ih1 _ _ _ _)
   | (with_reducible exact ih2 _ _ _ _)
   | (with_reducible exact Aq.mono _ _)
   | (with_reducible exact Cf.mono _ _)
   | (with_reducible exact LeO.refl _)
   | (with_reducible exact LeO.none _)
   | (with_reducible refine LeO.ite ?_ ?_)
   | (with_reducible refine LeO.bind ?_ (fun _ => ?_))
   | exact ih0 _ _ _
   | exact ih1 _ _ _ _
   | exact ih2 _ _ _ _
   | exact Aq.mono _ _
   | exact Cf.mono _ _
   | exact LeO.none _
   | refine LeO.ite ?_ ?_
   | refine LeO.bind ?_ (fun _ => ?_)
theorem Bl.mono : ∀ a0 k, LeO (Bl.f k a0) (Bl.f (k + 1) a0) := by
 intro a0 k
 obtain ⟨ih0, ih1, ih2⟩ := Bl.Fa k
 unfold Bl.f
 repeat' first
   | (with_reducible exact ih0 _ _ _)
   | (with_reducible exact ih1 _ _ _ _)
   | (with_reducible exact ih2 _ _ _ _)
   | (with_reducible exact Aq.mono _ _)
   | (with_reducible exact Cf.mono _ _)
   | (with_reducible exact LeO.refl _)
   | (with_reducible exact LeO.none _)
   | (with_reducible refine LeO.ite ?_ ?_)
   | (with_reducible refine LeO.bind ?_ (fun _ => ?_))
   | exact ih0 _ _ _
   | exact ih1 _ _ _ _
   | exact ih2 _ _ _ _
   | exact Aq.mono _ _
   | exact Cf.mono _ _
   | exact LeO.none _
   | refine LeO.ite ?_ ?_
   | refine LeO.bind ?_ (fun _ => ?_)
set_option maxHeartbeats 8000000 in
set_option maxRecDepth 100000 in
theorem Bl.calls (k : Nat) (a0 : ByteArray) (r1 : List (S25)) (r2 : Bool) (w : World) (h : Bl.f k a0 = some (r1, r2)) :
  Calls Tryz.prog 18 #[.string a0] w fun e w' => ∃ v0_ : Value, e = .returned (.tuple #[v0_, .bool r2]) ∧ Kd.R k25 25 w' w.heap.size (fun _ => True) v0_ r1 ∧ Below w.heap.size w w' := by
 have hu25 := Tryz.underlying25
 have HB := Ac.mk (Below.refl w.heap.size w)
 have H : ((some (([] : List (S25)) : List (S25))).bind fun y524 => (if (a0.size : Int) > 2000 then (some (y524, false)) else (Bl.l0 k a0 y524 0))) = some (r1, r2) := h
 clear h
 obtain ⟨y524, hy524⟩ : ∃ y_ : List (S25), y_ = (([] : List (S25))) := ⟨_, rfl⟩
 replace H : (if (a0.size : Int) > 2000 then (some (y524, false)) else (Bl.l0 k a0 y524 0)) = some (r1, r2) := by first | (rw [hy524]; with_reducible exact H) | (have H2_ := (Option.bind_some _ _).symm.trans H; rw [hy524]; with_reducible exact H2_) | (have H2_ := (Option.bind_some _ _).symm.trans H; with_reducible exact H2_) | with_reducible exact H | (rw [hy524]; exact H) | exact H
 have Ny524 := Ac.mk hy524
 clear hy524
 by_cases c2 : (a0.size : Int) > 2000
 ·rw [if_pos c2] at H
  have c2b0 : decide (2000 < (a0.size : Int)) = true := decide_eq_true c2
  have c2b1 : decide (2000 < a0.size) = true := decide_eq_true (by omega)
  clear c2
  simp only [Option.some.injEq, Prod.mk.injEq] at H
  obtain ⟨rfl, rfl⟩ := H
  go_enter Tryz.func18, Tryz.ntmps18
  go_wp2_with (first | ((with_reducible refine Dl (N := 11) rfl ?_); refine Kd.Hz k25 _ 25 ?hg (N := 11) ?hd (xs := ([] : List (S25))) (inner := []) (ok := fun _ => True) (okp := fun _ => True) ?hr ?hp (fun _ hk => hk) trivial (Below.refl _ _) (Nat.le_refl _) (by simp) ?_; (case hd => rfl); (case hg => rfl); (case hr => first | (go_simp; done) | (go_simp; rfl)); (case hp => exact (Ed.none _ _)); intro v525 w3 ho4 hb hg_ hnew_; clear hg_ hnew_; (first | rw [← Ny524.out] at ho4 | (simp only [Int.reduceToNat] at ho4; rw [← Ny524.out] at ho4)); have n0_ := Ac.mk (Kd.Gg ho4 (Ba Yb_)); have n1_ := Ac.mk (Ar Yb_ hb); clear HB; have HO526 := n0_; have HB := n1_; clear n0_ n1_; clear hb ho4))
  go_ret2
  exact ⟨_, by first | rfl | (simp [Au, Aw] <;> rfl) | (simp [*, Au, Aw] <;> rfl), by (with_reducible repeat (first | apply Kd.Cb | apply Kd.Bz | apply Kd.Cm)); exact HO526.out, by repeat (first | (with_reducible first | exact HB.out | apply Ae | apply Aa | apply Ad) | exact HB.out)⟩
 ·rw [if_neg c2] at H
  have c2b0 : decide (2000 < (a0.size : Int)) = false := decide_eq_false c2
  have c2b1 : decide (2000 < a0.size) = false := decide_eq_false (by omega)
  clear c2
  have H' := Ac.mk H
  clear H
  go_enter Tryz.func18, Tryz.ntmps18
  go_wp2_with (first | ((with_reducible refine Dl (N := 11) rfl ?_); refine Kd.Hz k25 _ 25 ?hg (N := 11) ?hd (xs := ([] : List (S25))) (inner := []) (ok := fun _ => True) (okp := fun _ => True) ?hr ?hp (fun _ hk => hk) trivial (Below.refl _ _) (Nat.le_refl _) (by simp) ?_; (case hd => rfl); (case hg => rfl); (case hr => first | (go_simp; done) | (go_simp; rfl)); (case hp => exact (Ed.none _ _)); intro v525 w5 ho6 hb hg_ hnew_; clear hg_ hnew_; (first | rw [← Ny524.out] at ho6 | (simp only [Int.reduceToNat] at ho6; rw [← Ny524.out] at ho6)); have n0_ := Ac.mk (Kd.Gg ho6 (Ba Yb_)); have n1_ := Ac.mk (Ar Yb_ hb); clear HB; have HO526 := n0_; have HB := n1_; clear n0_ n1_; clear hb ho6))
  go_loopg [4, 5] k (fun kq v4 v5 w' => ∃ (x4_1 : List (S25)) (x5_1 : Int), v5 = .int .i64 x5_1 ∧ Ac (Bl.l0 kq a0 x4_1 x5_1 = some (r1, r2)) ∧ Ac (kq ≤ k) ∧ Ac (Kd.R k25 25 w' w.heap.size (fun _ => True) v4 x4_1) ∧ Ac (Below w.heap.size w w'))
  case atStart => exact ⟨(y524), (0), Yf_, H', ⟨Nat.le_refl _⟩, ⟨by (with_reducible repeat (first | apply Kd.Cb | apply Kd.Bz | apply Kd.Cm)); exact HO526.out⟩, ⟨by repeat (first | (with_reducible first | exact HB.out | apply Ae | apply Aa | apply Ad) | exact HB.out)⟩⟩
  case round =>
   clear H'
   try clear c1; try clear c2; try clear c2b0; try clear c2b1; try clear p2
   obtain ⟨x4_1, x5_1, rfl, HA, HK1, HO_4, HB⟩ := hrel
   cases gk with
   | zero => exact absurd HA.out (by simp [Bl.l0])
   | succ k1 =>
    have H := HA.out
    clear HA
    simp only [Bl.l0] at H
    by_cases c7 : x5_1 < (a0.size : Int)
    ·rw [if_pos c7] at H
     have c7b0 : decide (x5_1 < (a0.size : Int)) = true := decide_eq_true c7
     clear c7
     have HC8 := Ac.mk H
     clear H
     go_upto_block 2 with (fail)
     go_cut [6] (fun v6 wc => ∃ (kq : Nat) (x6_7 : Int), v6 = .int .i64 x6_7 ∧ Ac (Bl.j2 kq a0 x4_1 x5_1 x6_7 = some (r1, r2)) ∧ Ac (kq ≤ k1) ∧ Ac (Kd.R k25 25 wc w.heap.size (fun _ => True) u4 x4_1) ∧ Ac (Below w.heap.size w wc))
     case first =>
      have H := HC8.out
      clear HC8
      have H' := Ac.mk H
      clear H
      go_wp2
      go_loopg [6] k1 (fun kq v6 w' => ∃ (x6_2 : Int), v6 = .int .i64 x6_2 ∧ Ac (Bl.l1 kq a0 x4_1 x5_1 x6_2 = some (r1, r2)) ∧ Ac (kq ≤ k1) ∧ Ac (Kd.R k25 25 w' w.heap.size (fun _ => True) u4 x4_1) ∧ Ac (Below w.heap.size w w'))
      case atStart => exact ⟨(x5_1), Yf_, H', ⟨Nat.le_refl _⟩, ⟨by (with_reducible repeat (first | apply Kd.Cb | apply Kd.Bz | apply Kd.Cm)); exact HO_4.out⟩, ⟨by repeat (first | (with_reducible first | exact HB.out | apply Ae | apply Aa | apply Ad) | exact HB.out)⟩⟩
      case round =>
       clear H'
       try clear c1; try clear c2; try clear c2b0; try clear c2b1; try clear p2; try clear c7; try clear c7b0; try clear p2
       obtain ⟨x6_2, rfl, HA, HK2, HO_4, HB⟩ := hrel
       cases gk with
       | zero => exact absurd HA.out (by simp [Bl.l1])
       | succ k2 =>
        have H := HA.out
        clear HA
        simp only [Bl.l1] at H
        by_cases c9 : x6_2 < (a0.size : Int)
        ·rw [if_pos c9] at H
         have c9b0 : decide (x6_2 < (a0.size : Int)) = true := decide_eq_true c9
         clear c9
         (first | rw [c9b0] | (simp only [Dw, Dy]; rw [c9b0]) | skip)
         by_cases c10 : 0 ≤ x6_2
         ·rw [if_pos c10] at H
          have c10b0 : decide (0 ≤ x6_2) = true := decide_eq_true c10
          clear c10
          by_cases c12 : (bt a0 x6_2) = 46
          ·rw [if_pos c12] at H
           have c12b0 : ((bt a0 x6_2) == 46) = true := beq_iff_eq.mpr c12
           have c12b1 : ((bt a0 x6_2) != 46) = false := bne_eq_false_iff_eq.mpr c12
           clear c12
           have H' := Ac.mk H
           clear H
           have p11 : 0 ≤ (x6_2 : Int) := of_decide_eq_true Ye_
           have q11 : x6_2 < (a0.size : Int) := of_decide_eq_true Ye_
           have hx11 := Gm a0 x6_2
           replace p11 := eq_true p11
           replace q11 := eq_true q11
           go_wp2
           go_meet
           case rel => exact ⟨_, (x6_2), Yf_, H', ⟨by have := HK1.out; have := HK2.out; first | omega | exact Nat.le_refl _⟩, ⟨by (with_reducible repeat (first | apply Kd.Cb | apply Kd.Bz | apply Kd.Cm)); exact HO_4.out⟩, ⟨by repeat (first | (with_reducible first | exact HB.out | apply Ae | apply Aa | apply Ad) | exact HB.out)⟩⟩
          ·rw [if_neg c12] at H
           have c12b0 : ((bt a0 x6_2) == 46) = false := beq_eq_false_iff_ne.mpr c12
           have c12b1 : ((bt a0 x6_2) != 46) = true := bne_iff_ne.mpr c12
           have H' := Ac.mk H
           clear H
           have p11 : 0 ≤ (x6_2 : Int) := of_decide_eq_true Ye_
           have q11 : x6_2 < (a0.size : Int) := of_decide_eq_true Ye_
           have hx11 := Gm a0 x6_2
           replace p11 := eq_true p11
           replace q11 := eq_true q11
           go_wp2
           go_roundg k2
           case measure => have := HK1.out; have := HK2.out; omega
           case rel => exact ⟨(wrap64 (x6_2 + 1)), Yf_, H', ⟨by have := HK1.out; have := HK2.out; omega⟩, ⟨by (with_reducible repeat (first | apply Kd.Cb | apply Kd.Bz | apply Kd.Cm)); exact HO_4.out⟩, ⟨by repeat (first | (with_reducible first | exact HB.out | apply Ae | apply Aa | apply Ad) | exact HB.out)⟩⟩
         ·rw [if_neg c10] at H
          exact absurd H (by simp)
        ·rw [if_neg c9] at H
         have c9b0 : decide (x6_2 < (a0.size : Int)) = false := decide_eq_false c9
         clear c9
         (first | rw [c9b0] | (simp only [Dw, Dy]; rw [c9b0]) | skip)
         have H' := Ac.mk H
         clear H
         go_wp2
         go_meet
         case rel => exact ⟨_, (x6_2), Yf_, H', ⟨by have := HK1.out; have := HK2.out; first | omega | exact Nat.le_refl _⟩, ⟨by (with_reducible repeat (first | apply Kd.Cb | apply Kd.Bz | apply Kd.Cm)); exact HO_4.out⟩, ⟨by repeat (first | (with_reducible first | exact HB.out | apply Ae | apply Aa | apply Ad) | exact HB.out)⟩⟩
     case rest =>
      clear HC8
      try clear c1; try clear p1; try clear q1; try clear hx1; try clear c2; try clear c2b0; try clear c2b1; try clear p2; try clear p6; try clear c7; try clear c7b0; try clear c9; try clear c9b0; try clear c10; try clear c10b0; try clear p11; try clear q11; try clear hx11; try clear c12; try clear c12b0; try clear c12b1; try clear p11; try clear p2; try clear q11
      obtain ⟨kq, x6_7, rfl, HA, HJ7, HO_4, HB⟩ := hcut
      cases kq with
      | zero => exact absurd HA.out (by simp [Bl.j2])
      | succ kj7 =>
       have H := HA.out
       clear HA
       simp only [Bl.j2] at H
       by_cases c13 : x6_7 = (a0.size : Int)
       ·rw [if_pos c13] at H
        have c13b0 : (x6_7 == (a0.size : Int)) = true := beq_iff_eq.mpr c13
        have c13b1 : (x6_7 != (a0.size : Int)) = false := bne_eq_false_iff_eq.mpr c13
        clear c13
        obtain ⟨y535, hy535⟩ : ∃ y_ : List (S25), y_ = (([] : List (S25))) := ⟨_, rfl⟩
        replace H : (some (y535, false)) = some (r1, r2) := by first | (rw [hy535]; with_reducible exact H) | (have H2_ := (Option.bind_some _ _).symm.trans H; rw [hy535]; with_reducible exact H2_) | (have H2_ := (Option.bind_some _ _).symm.trans H; with_reducible exact H2_) | with_reducible exact H | (rw [hy535]; exact H) | exact H
        have Ny535 := Ac.mk hy535
        clear hy535
        simp only [Option.some.injEq, Prod.mk.injEq] at H
        obtain ⟨rfl, rfl⟩ := H
        go_wp2_with (first | ((with_reducible refine Dl (N := 37) rfl ?_); refine Kd.Hz k25 _ 25 ?hg (N := 37) ?hd (xs := ([] : List (S25))) (inner := []) (ok := fun _ => True) (okp := fun _ => True) ?hr ?hp (fun _ hk => hk) trivial (Below.refl _ _) (Nat.le_refl _) (by simp) ?_; (case hd => rfl); (case hg => rfl); (case hr => first | (go_simp; done) | (go_simp; rfl)); (case hp => exact (Ed.none _ _)); intro v536 w14 ho15 hb hg_ hnew_; clear hg_ hnew_; (first | rw [← Ny535.out] at ho15 | (simp only [Int.reduceToNat] at ho15; rw [← Ny535.out] at ho15)); have n0_ := Ac.mk (Kd.Iq Yba_ (Kd.R_base ho15) hb); have n1_ := Ac.mk (Kd.Gg (Kd.R_new' ho15 (Kd.R_lt Yba_)) (Ba Yb_)); have n2_ := Ac.mk (Ar Yb_ hb); clear HO_4; clear HB; have HO_4 := n0_; have HO537 := n1_; have HB := n2_; clear n0_ n1_ n2_; clear hb ho15))
        go_ret2
        exact ⟨_, by first | rfl | (simp [Au, Aw] <;> rfl) | (simp [*, Au, Aw] <;> rfl), by (with_reducible repeat (first | apply Kd.Cb | apply Kd.Bz | apply Kd.Cm)); exact Kd.R_mono HO537.out (fun _ hk => trivial), by repeat (first | (with_reducible first | exact HB.out | apply Ae | apply Aa | apply Ad) | exact HB.out)⟩
       ·rw [if_neg c13] at H
        have c13b0 : (x6_7 == (a0.size : Int)) = false := beq_eq_false_iff_ne.mpr c13
        have c13b1 : (x6_7 != (a0.size : Int)) = true := bne_iff_ne.mpr c13
        by_cases c16 : 0 ≤ x5_1
        ·rw [if_pos c16] at H
         have c16b0 := eq_true c16
         have c16b1 : decide (0 ≤ x5_1) = true := decide_eq_true c16
         clear c16
         by_cases c17 : x5_1 ≤ (wrap64 (x6_7 + 1))
         ·rw [if_pos c17] at H
          have c17b0 := eq_true c17
          have c17b1 : decide (x5_1 ≤ (wrap64 (x6_7 + 1))) = true := decide_eq_true c17
          by_cases c18 : (wrap64 (x6_7 + 1)) ≤ (a0.size : Int)
          ·rw [if_pos c18] at H
           have c18b0 := eq_true c18
           have c18b1 : decide ((wrap64 (x6_7 + 1)) ≤ (a0.size : Int)) = true := decide_eq_true c18
           replace H := Option.bind_eq_some_iff.mp H
           obtain ⟨⟨t538, t539, t540, t541, t542⟩, A190, H⟩ := H
           try dsimp only at H
           have A19 := Ac.mk A190
           clear A190
           by_cases c20 : t542 = true
           ·subst c20
            have H1 : (if x4_1.length < 3518437208883 then (Bl.l0 kj7 a0 (x4_1 ++ [(⟨t538, t539, t540, t541⟩ : S25)]) (wrap64 (x6_7 + 2))) else (none)) = some (r1, r2) := by rw [if_pos rfl] at H; exact H
            clear H
            have H := H1
            clear H1
            by_cases c21 : x4_1.length < 3518437208883
            ·rw [if_pos c21] at H
             have LMc21 := Ac.mk c21
             clear c21
             obtain ⟨y544, hy544⟩ : ∃ y_ : List (S25), y_ = (x4_1 ++ [(⟨t538, t539, t540, t541⟩ : S25)]) := ⟨_, rfl⟩
             replace H : (Bl.l0 kj7 a0 y544 (wrap64 (x6_7 + 2))) = some (r1, r2) := by first | (rw [hy544]; with_reducible exact H) | (have H2_ := (Option.bind_some _ _).symm.trans H; rw [hy544]; with_reducible exact H2_) | (have H2_ := (Option.bind_some _ _).symm.trans H; with_reducible exact H2_) | with_reducible exact H | (rw [hy544]; exact H) | exact H
             have Ny544 := Ac.mk hy544
             clear hy544
             have H' := Ac.mk H
             clear H
             go_wp2_with (first | ((with_reducible refine Ap (f := 11) rfl ?_); refine Bj (some 44) rfl rfl Tryz.func11 (by kernel_rfl) rfl #[.string (a0.extract (x5_1 : Int).toNat ((wrap64 (x6_7 + 1)) : Int).toNat)] rfl Ya_ ?_; (with_reducible refine (Aq.calls kj7 (a0.extract (x5_1 : Int).toNat ((wrap64 (x6_7 + 1)) : Int).toNat) t538 t539 t540 t541 true _ A19.out).mono ?_); rintro e w22 ⟨rfl, hb⟩; refine ⟨_, rfl, ?_⟩; have n0_ := Ac.mk (Kd.Fe Yba_ hb); have n1_ := Ac.mk (Ar Yb_ hb); clear HO_4; clear HB; have HO_4 := n0_; have HB := n1_; clear n0_ n1_; (try clear hb); (try clear hb2); (try clear hk); (try clear hi)) | ((with_reducible refine Dl (N := 7) rfl ?_); refine Dz ?hg (N := 7) ?hd (cs := #[.int .i64 0, .string (⟨#[]⟩ : ByteArray), .int .i64 0, .int .i64 0]) (t := 25) ?hr ?_; (case hd => rfl); (case hg => rfl); (case hr => first | (go_simp; done) | (go_simp; rfl)); intro gb0 hg w23 hbox hb; have n0_ := Ac.mk (Kd.Fe (Kd.Ie Yba_ gb0 (Nat.le_of_eq hg.symm)) hb); have n1_ := Ac.mk (Ar Yb_ hb); have n2_ := Ac.mk (hbox); have n3_ := Ac.mk ((by rw [hg]; exact (Ba Yb_) : w.heap.size ≤ gb0)); have n4_ := Ac.mk ((by rw [hg]; exact (Ba Yb_) : w.heap.size ≤ gb0)); clear HO_4; clear HB; have HO_4 := n0_; have HB := n1_; have BK0 := n2_; have GW0 := n3_; have GE0 := n4_; clear n0_ n1_ n2_ n3_ n4_; clear hb hbox hg; have hcz24_0 : w23.cell? ⟨gb0, 0, none⟩ = some (.int .i64 0) := (Ak BK0.out 0).trans rfl; have hcz24_1 : w23.cell? ⟨gb0, 1, none⟩ = some (.string (⟨#[]⟩ : ByteArray)) := (Ak BK0.out 1).trans rfl; have hcz24_2 : w23.cell? ⟨gb0, 2, none⟩ = some (.int .i64 0) := (Ak BK0.out 2).trans rfl; have hcz24_3 : w23.cell? ⟨gb0, 3, none⟩ = some (.int .i64 0) := (Ak BK0.out 3).trans rfl; have hfz24_0 := Ai BK0.out 0; have hfz24_1 := Ai BK0.out 1; have hfz24_2 := Ai BK0.out 2; have hfz24_3 := Ai BK0.out 3) | ((with_reducible refine Gz (b := .append) (xs := #[.tmp 50, .tmp 52]) rfl ?_); at_builtin; refine Kd.Ia k25 (w0 := w) w.heap.size rfl (.tmp 50) (.tmp 52) 33 25 (.agg #[(.int .i64 0), (.string ⟨#[]⟩), (.int .i64 0), (.int .i64 0)]) 40 rfl Tryz.underlying33 info25 rfl (by decide) (by omega) u4 x4_1 (⟨t538, t539, t540, t541⟩ : S25) [.int .i64 t538, .string t539, .int .i64 t540, .int .i64 t541] (fun k_ => k_ ≠ gb0) (fun _ => False) rfl Yeh_ ?aP (fun _ hk => hk.elim) ?aF ?aO ?aB ?aS ?aL ?_; (case aP => exact Ic _ _ _ (⟨t538, t539, t540, t541⟩ : S25)); (case aB => exact Yc_); (case aF => exact (fun k_ hk => Kd.freshB (g := gb0) (o := .cells #[.int .i64 t538, .string t539, .int .i64 t540, .int .i64 t541] 25 (0, 0)) Ybf_ k_ hk)); (case aO => exact (by (with_reducible repeat (first | apply Kd.Cb | apply Kd.Bz | apply Kd.Cm)); exact Kd.R_mono (Kd.F9 (p := ⟨gb0, 3, none⟩) (Kd.F9 (p := ⟨gb0, 2, none⟩) (Kd.F9 (p := ⟨gb0, 1, none⟩) (Kd.F9 (p := ⟨gb0, 0, none⟩) (Kd.R_mono HO_4.out (fun k_ hk => (⟨hk, hk.2⟩ : _ ∧ k_ ≠ gb0))) (fun _ hk => hk.2) (.int .i64 t538)) (fun _ hk => hk.2) (.string t539)) (fun _ hk => hk.2) (.int .i64 t540)) (fun _ hk => hk.2) (.int .i64 t541)) (fun _ hk => hk.1.2))); (case aS => exact (Ba Yc_)); (case aL => have := LMc21.out; omega); intro v545 w25 ho hb hg hat; rw [← Ny544.out] at ho; have n0_ := Ac.mk (Ib (g := gb0) (o := .cells #[.int .i64 t538, .string t539, .int .i64 t540, .int .i64 t541] 25 (0, 0)) Ybf_ hg (Kd.R_away HO_4.out (fun _ hk => hk.2))); have n1_ := Ac.mk (hb); have n2_ := Ac.mk (ho); clear BK0; clear HB; clear HO_4; have BK0 := n0_; have HB := n1_; have HO546 := n2_; clear n0_ n1_ n2_; clear ho hb hg hat))
             go_roundg kj7
             case measure => have := HK1.out; have := HJ7.out; omega
             case rel => exact ⟨(y544), (wrap64 (x6_7 + 2)), Yf_, H', ⟨by have := HK1.out; have := HJ7.out; omega⟩, ⟨by (with_reducible repeat (first | apply Kd.Cb | apply Kd.Bz | apply Kd.Cm)); exact Kd.R_mono HO546.out (fun _ hk => trivial)⟩, ⟨by repeat (first | (with_reducible first | exact HB.out | apply Ae | apply Aa | apply Ad | refine Am ?_ GE0.out) | exact HB.out)⟩⟩
            ·rw [if_neg c21] at H
             exact absurd H (by simp)
           ·replace c20 := Bool.eq_false_iff.mpr c20
            subst c20
            have H1 : (some ((([] : List (S25))), false)) = some (r1, r2) := by rw [if_neg (show ¬ (false = true) by decide)] at H; exact H
            clear H
            have H := H1
            clear H1
            obtain ⟨y547, hy547⟩ : ∃ y_ : List (S25), y_ = (([] : List (S25))) := ⟨_, rfl⟩
            replace H : (some (y547, false)) = some (r1, r2) := by first | (rw [hy547]; with_reducible exact H) | (have H2_ := (Option.bind_some _ _).symm.trans H; rw [hy547]; with_reducible exact H2_) | (have H2_ := (Option.bind_some _ _).symm.trans H; with_reducible exact H2_) | with_reducible exact H | (rw [hy547]; exact H) | exact H
            have Ny547 := Ac.mk hy547
            clear hy547
            simp only [Option.some.injEq, Prod.mk.injEq] at H
            obtain ⟨rfl, rfl⟩ := H
            go_wp2_with (first | ((with_reducible refine Ap (f := 11) rfl ?_); refine Bj (some 44) rfl rfl Tryz.func11 (by kernel_rfl) rfl #[.string (a0.extract (x5_1 : Int).toNat ((wrap64 (x6_7 + 1)) : Int).toNat)] rfl Ya_ ?_; (with_reducible refine (Aq.calls kj7 (a0.extract (x5_1 : Int).toNat ((wrap64 (x6_7 + 1)) : Int).toNat) t538 t539 t540 t541 false _ A19.out).mono ?_); rintro e w26 ⟨rfl, hb⟩; refine ⟨_, rfl, ?_⟩; have n0_ := Ac.mk (Kd.Fe Yba_ hb); have n1_ := Ac.mk (Ar Yb_ hb); clear HO_4; clear HB; have HO_4 := n0_; have HB := n1_; clear n0_ n1_; (try clear hb); (try clear hb2); (try clear hk); (try clear hi)) | ((with_reducible refine Dl (N := 7) rfl ?_); refine Dz ?hg (N := 7) ?hd (cs := #[.int .i64 0, .string (⟨#[]⟩ : ByteArray), .int .i64 0, .int .i64 0]) (t := 25) ?hr ?_; (case hd => rfl); (case hg => rfl); (case hr => first | (go_simp; done) | (go_simp; rfl)); intro gb0 hg w27 hbox hb; have n0_ := Ac.mk (Kd.Fe (Kd.Ie Yba_ gb0 (Nat.le_of_eq hg.symm)) hb); have n1_ := Ac.mk (Ar Yb_ hb); have n2_ := Ac.mk (hbox); have n3_ := Ac.mk ((by rw [hg]; exact (Ba Yb_) : w.heap.size ≤ gb0)); have n4_ := Ac.mk ((by rw [hg]; exact (Ba Yb_) : w.heap.size ≤ gb0)); clear HO_4; clear HB; have HO_4 := n0_; have HB := n1_; have BK0 := n2_; have GW0 := n3_; have GE0 := n4_; clear n0_ n1_ n2_ n3_ n4_; clear hb hbox hg; have hcz28_0 : w27.cell? ⟨gb0, 0, none⟩ = some (.int .i64 0) := (Ak BK0.out 0).trans rfl; have hcz28_1 : w27.cell? ⟨gb0, 1, none⟩ = some (.string (⟨#[]⟩ : ByteArray)) := (Ak BK0.out 1).trans rfl; have hcz28_2 : w27.cell? ⟨gb0, 2, none⟩ = some (.int .i64 0) := (Ak BK0.out 2).trans rfl; have hcz28_3 : w27.cell? ⟨gb0, 3, none⟩ = some (.int .i64 0) := (Ak BK0.out 3).trans rfl; have hfz28_0 := Ai BK0.out 0; have hfz28_1 := Ai BK0.out 1; have hfz28_2 := Ai BK0.out 2; have hfz28_3 := Ai BK0.out 3) | ((with_reducible refine Dl (N := 49) rfl ?_); refine Kd.Hz k25 _ 25 ?hg (N := 49) ?hd (xs := ([] : List (S25))) (inner := []) (ok := fun _ => True) (okp := fun _ => True) ?hr ?hp (fun _ hk => hk) trivial (Below.refl _ _) (Nat.le_refl _) (by simp) ?_; (case hd => rfl); (case hg => rfl); (case hr => first | (go_simp; done) | (go_simp; rfl)); (case hp => exact (Ed.none _ _)); intro v548 w29 ho30 hb hg_ hnew_; clear hg_ hnew_; (first | rw [← Ny547.out] at ho30 | (simp only [Int.reduceToNat] at ho30; rw [← Ny547.out] at ho30)); have n0_ := Ac.mk (Kd.Iq Ydh_ (Kd.R_base ho30) hb); have n1_ := Ac.mk (Kd.Gg (Kd.H5 (Kd.R_new' ho30 (Kd.R_lt Ydh_)) (g := gb0) (o := .cells #[.int .i64 t538, .string t539, .int .i64 t540, .int .i64 t541] 25 (0, 0)) Ybf_) (Ba Yc_)); have n2_ := Ac.mk (Bi (g := gb0) (o := .cells #[.int .i64 t538, .string t539, .int .i64 t540, .int .i64 t541] 25 (0, 0)) Ybf_ hb); have n3_ := Ac.mk (Ar Yc_ hb); clear HO_4; clear BK0; clear HB; have HO_4 := n0_; have HO549 := n1_; have BK0 := n2_; have HB := n3_; clear n0_ n1_ n2_ n3_; clear hb ho30))
            go_ret2
            exact ⟨_, by first | rfl | (simp [Au, Aw] <;> rfl) | (simp [*, Au, Aw] <;> rfl), by (with_reducible repeat (first | apply Kd.Cb | apply Kd.Bz | apply Kd.Cm)); exact Kd.R_mono HO549.out (fun _ hk => trivial), by repeat (first | (with_reducible first | exact HB.out | apply Ae | apply Aa | apply Ad | refine Am ?_ GE0.out) | exact HB.out)⟩
          ·rw [if_neg c18] at H
           exact absurd H (by simp)
         ·rw [if_neg c17] at H
          exact absurd H (by simp)
        ·rw [if_neg c16] at H
         exact absurd H (by simp)
    ·rw [if_neg c7] at H
     have c7b0 : decide (x5_1 < (a0.size : Int)) = false := decide_eq_false c7
     clear c7
     replace H := Option.bind_eq_some_iff.mp H
     obtain ⟨⟨t527, t528⟩, A310, H⟩ := H
     try dsimp only at H
     have A31 := Ac.mk A310
     clear A310
     by_cases c32 : t528 = true
     ·subst c32
      have H1 : (if t527.toList = a0.toList then (some (x4_1, true)) else (some ((([] : List (S25))), false))) = some (r1, r2) := by rw [if_pos rfl] at H; exact H
      clear H
      have H := H1
      clear H1
      by_cases c33 : t527.toList = a0.toList
      ·rw [if_pos c33] at H
       have c33b0 : (t527.toList == a0.toList) = true := beq_iff_eq.mpr c33
       have c33b1 : (t527.toList != a0.toList) = false := bne_eq_false_iff_eq.mpr c33
       clear c33
       simp only [Option.some.injEq, Prod.mk.injEq] at H
       obtain ⟨rfl, rfl⟩ := H
       obtain ⟨Ao34, co34, eo34⟩ := Kd.Gh HO_4.out
       subst eo34
       go_wp2_with (first | ((with_reducible refine Ap (f := 14) rfl ?_); refine Bj (some 58) rfl rfl Tryz.func14 (by kernel_rfl) rfl #[.slice Ao34 x4_1.length co34] rfl Ya_ ?_; (with_reducible refine (Cf.calls k1 _ _ x4_1 t527 true _ ?side1 ?side2 A31.out).mono ?_); (case side1 => repeat (first | exact (Kd.Ec HO_4.out).2.2 | (with_reducible refine Kd.F5 ?_ _) | (with_reducible refine Kd.F6 ?_ _) | (with_reducible refine Kd.Gj ?_))); (case side2 => exact (Kd.Ec HO_4.out).2.1); rintro e w35 ⟨rfl, hb⟩; refine ⟨_, rfl, ?_⟩; have n0_ := Ac.mk (Kd.Fe Yba_ hb); have n1_ := Ac.mk (Ar Yb_ hb); clear HO_4; clear HB; have HO_4 := n0_; have HB := n1_; clear n0_ n1_; (try clear hb); (try clear hb2); (try clear hk); (try clear hi)))
       go_ret2
       exact ⟨_, by first | rfl | (simp [Au, Aw] <;> rfl) | (simp [*, Au, Aw] <;> rfl), by (with_reducible repeat (first | apply Kd.Cb | apply Kd.Bz | apply Kd.Cm)); exact HO_4.out, by repeat (first | (with_reducible first | exact HB.out | apply Ae | apply Aa | apply Ad) | exact HB.out)⟩
      ·rw [if_neg c33] at H
       have c33b0 : (t527.toList == a0.toList) = false := beq_eq_false_iff_ne.mpr c33
       have c33b1 : (t527.toList != a0.toList) = true := bne_iff_ne.mpr c33
       obtain ⟨y529, hy529⟩ : ∃ y_ : List (S25), y_ = (([] : List (S25))) := ⟨_, rfl⟩
       replace H : (some (y529, false)) = some (r1, r2) := by first | (rw [hy529]; with_reducible exact H) | (have H2_ := (Option.bind_some _ _).symm.trans H; rw [hy529]; with_reducible exact H2_) | (have H2_ := (Option.bind_some _ _).symm.trans H; with_reducible exact H2_) | with_reducible exact H | (rw [hy529]; exact H) | exact H
       have Ny529 := Ac.mk hy529
       clear hy529
       simp only [Option.some.injEq, Prod.mk.injEq] at H
       obtain ⟨rfl, rfl⟩ := H
       obtain ⟨Ao36, co36, eo36⟩ := Kd.Gh HO_4.out
       subst eo36
       go_wp2_with (first | ((with_reducible refine Ap (f := 14) rfl ?_); refine Bj (some 58) rfl rfl Tryz.func14 (by kernel_rfl) rfl #[.slice Ao36 x4_1.length co36] rfl Ya_ ?_; (with_reducible refine (Cf.calls k1 _ _ x4_1 t527 true _ ?side1 ?side2 A31.out).mono ?_); (case side1 => repeat (first | exact (Kd.Ec HO_4.out).2.2 | (with_reducible refine Kd.F5 ?_ _) | (with_reducible refine Kd.F6 ?_ _) | (with_reducible refine Kd.Gj ?_))); (case side2 => exact (Kd.Ec HO_4.out).2.1); rintro e w37 ⟨rfl, hb⟩; refine ⟨_, rfl, ?_⟩; have n0_ := Ac.mk (Kd.Fe Yba_ hb); have n1_ := Ac.mk (Ar Yb_ hb); clear HO_4; clear HB; have HO_4 := n0_; have HB := n1_; clear n0_ n1_; (try clear hb); (try clear hb2); (try clear hk); (try clear hi)) | ((with_reducible refine Dl (N := 68) rfl ?_); refine Kd.Hz k25 _ 25 ?hg (N := 68) ?hd (xs := ([] : List (S25))) (inner := []) (ok := fun _ => True) (okp := fun _ => True) ?hr ?hp (fun _ hk => hk) trivial (Below.refl _ _) (Nat.le_refl _) (by simp) ?_; (case hd => rfl); (case hg => rfl); (case hr => first | (go_simp; done) | (go_simp; rfl)); (case hp => exact (Ed.none _ _)); intro v530 w38 ho39 hb hg_ hnew_; clear hg_ hnew_; (first | rw [← Ny529.out] at ho39 | (simp only [Int.reduceToNat] at ho39; rw [← Ny529.out] at ho39)); have n0_ := Ac.mk (Kd.Iq Yba_ (Kd.R_base ho39) hb); have n1_ := Ac.mk (Kd.Gg (Kd.R_new' ho39 (Kd.R_lt Yba_)) (Ba Yb_)); have n2_ := Ac.mk (Ar Yb_ hb); clear HO_4; clear HB; have HO_4 := n0_; have HO531 := n1_; have HB := n2_; clear n0_ n1_ n2_; clear hb ho39))
       go_ret2
       exact ⟨_, by first | rfl | (simp [Au, Aw] <;> rfl) | (simp [*, Au, Aw] <;> rfl), by (with_reducible repeat (first | apply Kd.Cb | apply Kd.Bz | apply Kd.Cm)); exact Kd.R_mono HO531.out (fun _ hk => trivial), by repeat (first | (with_reducible first | exact HB.out | apply Ae | apply Aa | apply Ad) | exact HB.out)⟩
     ·replace c32 := Bool.eq_false_iff.mpr c32
      subst c32
      have H1 : (some ((([] : List (S25))), false)) = some (r1, r2) := by rw [if_neg (show ¬ (false = true) by decide)] at H; exact H
      clear H
      have H := H1
      clear H1
      obtain ⟨y532, hy532⟩ : ∃ y_ : List (S25), y_ = (([] : List (S25))) := ⟨_, rfl⟩
      replace H : (some (y532, false)) = some (r1, r2) := by first | (rw [hy532]; with_reducible exact H) | (have H2_ := (Option.bind_some _ _).symm.trans H; rw [hy532]; with_reducible exact H2_) | (have H2_ := (Option.bind_some _ _).symm.trans H; with_reducible exact H2_) | with_reducible exact H | (rw [hy532]; exact H) | exact H
      have Ny532 := Ac.mk hy532
      clear hy532
      simp only [Option.some.injEq, Prod.mk.injEq] at H
      obtain ⟨rfl, rfl⟩ := H
      obtain ⟨Ao40, co40, eo40⟩ := Kd.Gh HO_4.out
      subst eo40
      go_wp2_with (first | ((with_reducible refine Ap (f := 14) rfl ?_); refine Bj (some 58) rfl rfl Tryz.func14 (by kernel_rfl) rfl #[.slice Ao40 x4_1.length co40] rfl Ya_ ?_; (with_reducible refine (Cf.calls k1 _ _ x4_1 t527 false _ ?side1 ?side2 A31.out).mono ?_); (case side1 => repeat (first | exact (Kd.Ec HO_4.out).2.2 | (with_reducible refine Kd.F5 ?_ _) | (with_reducible refine Kd.F6 ?_ _) | (with_reducible refine Kd.Gj ?_))); (case side2 => exact (Kd.Ec HO_4.out).2.1); rintro e w41 ⟨rfl, hb⟩; refine ⟨_, rfl, ?_⟩; have n0_ := Ac.mk (Kd.Fe Yba_ hb); have n1_ := Ac.mk (Ar Yb_ hb); clear HO_4; clear HB; have HO_4 := n0_; have HB := n1_; clear n0_ n1_; (try clear hb); (try clear hb2); (try clear hk); (try clear hi)) | ((with_reducible refine Dl (N := 68) rfl ?_); refine Kd.Hz k25 _ 25 ?hg (N := 68) ?hd (xs := ([] : List (S25))) (inner := []) (ok := fun _ => True) (okp := fun _ => True) ?hr ?hp (fun _ hk => hk) trivial (Below.refl _ _) (Nat.le_refl _) (by simp) ?_; (case hd => rfl); (case hg => rfl); (case hr => first | (go_simp; done) | (go_simp; rfl)); (case hp => exact (Ed.none _ _)); intro v533 w42 ho43 hb hg_ hnew_; clear hg_ hnew_; (first | rw [← Ny532.out] at ho43 | (simp only [Int.reduceToNat] at ho43; rw [← Ny532.out] at ho43)); have n0_ := Ac.mk (Kd.Iq Yba_ (Kd.R_base ho43) hb); have n1_ := Ac.mk (Kd.Gg (Kd.R_new' ho43 (Kd.R_lt Yba_)) (Ba Yb_)); have n2_ := Ac.mk (Ar Yb_ hb); clear HO_4; clear HB; have HO_4 := n0_; have HO534 := n1_; have HB := n2_; clear n0_ n1_ n2_; clear hb ho43))
      go_ret2
      exact ⟨_, by first | rfl | (simp [Au, Aw] <;> rfl) | (simp [*, Au, Aw] <;> rfl), by (with_reducible repeat (first | apply Kd.Cb | apply Kd.Bz | apply Kd.Cm)); exact Kd.R_mono HO534.out (fun _ hk => trivial), by repeat (first | (with_reducible first | exact HB.out | apply Ae | apply Aa | apply Ad) | exact HB.out)⟩
def Ip.f (l0 : List Int) : Option (Bool) := some (decide ((l0.length : Int) > 65536))
set_option maxHeartbeats 8000000 in
set_option maxRecDepth 100000 in
theorem Ip.calls (A0 : Option Addr) (c0 : Nat) (l0 : List Int) (r : Bool) (w : World) (hr0 : Kd.C (Kd.int .u8) w A0 l0.length l0) (hc0 : l0.length ≤ c0) (h : Ip.f l0 = some r) :
  Calls Tryz.prog 4 #[.slice A0 l0.length c0] w fun e w' => e = .returned (.bool r) ∧ C9 w w' := by
 have HR0 := Ac.mk hr0
 have HC0 := Ac.mk hc0
 clear hr0 hc0
 have H : (some (decide ((l0.length : Int) > 65536))) = some r := h
 clear h
 obtain rfl := Option.some.inj H
 go_enter Tryz.func4, Tryz.ntmps4
 go_wp2
 go_ret
 exact ⟨by first | rfl | (simp; done) | (simp [*]; done), by repeat (first | exact C9.refl _ | apply C9.step)⟩
def F7.f (k : Nat) (l0 : List Int) : Option (Int × ByteArray × Int × Int) := (Bh.f k l0 0 0).bind fun bt190 => (some (bt190.1, bt190.2.1, bt190.2.2.1, bt190.2.2.2.1))
theorem F7.mono : ∀ a0 k, LeO (F7.f k a0) (F7.f (k + 1) a0) := by
 intro a0 k
 unfold F7.f
 repeat' first
   | (with_reducible exact Bh.mono _ _ _ _)
   | (with_reducible exact LeO.refl _)
   | (with_reducible exact LeO.none _)
   | (with_reducible refine LeO.ite ?_ ?_)
   | (with_reducible refine LeO.bind ?_ (fun _ => ?_))
   | exact Bh.mono _ _ _ _
   | exact LeO.none _
   | refine LeO.ite ?_ ?_
   | refine LeO.bind ?_ (fun _ => ?_)
set_option maxHeartbeats 8000000 in
set_option maxRecDepth 100000 in
theorem F7.calls (k : Nat) (A0 : Option Addr) (c0 : Nat) (l0 : List Int) (r1 : Int) (r2 : ByteArray) (r3 : Int) (r4 : Int) (w : World) (hr0 : Kd.C (Kd.int .u8) w A0 l0.length l0) (hc0 : l0.length ≤ c0) (h : F7.f k l0 = some (r1, r2, r3, r4)) :
  Calls Tryz.prog 19 #[.slice A0 l0.length c0] w fun e w' => e = .returned (.agg #[.int .i64 r1, .string r2, .int .i64 r3, .int .i64 r4]) ∧ Below w.heap.size w w' := by
 have hu25 := Tryz.underlying25
 have hu48 := Tryz.underlying48
 have HR0 := Ac.mk hr0
 have HC0 := Ac.mk hc0
 clear hr0 hc0
 have HB := Ac.mk (Below.refl w.heap.size w)
 have H : ((Bh.f k l0 0 0).bind fun bt190 => (some (bt190.1, bt190.2.1, bt190.2.2.1, bt190.2.2.2.1))) = some (r1, r2, r3, r4) := h
 clear h
 replace H := Option.bind_eq_some_iff.mp H
 obtain ⟨⟨t190, t191, t192, t193, t194, t195⟩, A20, H⟩ := H
 try dsimp only at H
 have A2 := Ac.mk A20
 clear A20
 simp only [Option.some.injEq, Prod.mk.injEq] at H
 obtain ⟨rfl, rfl, rfl, rfl⟩ := H
 go_enter Tryz.func19, Tryz.ntmps19
 go_wp2_with (first | ((with_reducible refine Dl (N := 2) rfl ?_); refine Dz ?hg (N := 2) ?hd (cs := #[.int .i64 0, .string (⟨#[]⟩ : ByteArray), .int .i64 0, .int .i64 0]) (t := 25) ?hr ?_; (case hd => rfl); (case hg => rfl); (case hr => first | (go_simp; done) | (go_simp; rfl)); intro gb0 hg w3 hbox hb; have n0_ := Ac.mk (Ar Yb_ hb); have n1_ := Ac.mk (hbox); have n2_ := Ac.mk ((by rw [hg]; exact (Ba Yb_) : w.heap.size ≤ gb0)); have n3_ := Ac.mk ((by rw [hg]; exact (Ba Yb_) : w.heap.size ≤ gb0)); clear HB; have HB := n0_; have BK0 := n1_; have GW0 := n2_; have GE0 := n3_; clear n0_ n1_ n2_ n3_; clear hb hbox hg) | ((with_reducible refine Dl (N := 6) rfl ?_); refine Dz ?hg (N := 6) ?hd (cs := #[.slice A0 l0.length c0, .int .i64 0, .int .u64 0]) (t := 48) ?hr ?_; (case hd => rfl); (case hg => rfl); (case hr => first | (go_simp; done) | (go_simp; rfl)); intro gb1 hg w4 hbox hb; have n0_ := Ac.mk (Bi (g := gb0) (o := .cells #[.int .i64 0, .string (⟨#[]⟩ : ByteArray), .int .i64 0, .int .i64 0] 25 (0, 0)) Yd_ hb); have n1_ := Ac.mk (Ar Yc_ hb); have n2_ := Ac.mk ((by rw [hg]; exact (Ba Yc_) : w.heap.size ≤ gb1)); have n3_ := Ac.mk ((by rw [hg]; exact (Ba Yc_) : w.heap.size ≤ gb1)); have n4_ := Ac.mk ((by rw [hg]; exact Nat.ne_of_lt (Gl (g := gb0) (o := .cells #[.int .i64 0, .string (⟨#[]⟩ : ByteArray), .int .i64 0, .int .i64 0] 25 (0, 0)) Yd_) : gb0 ≠ gb1)); have n5_ := Ac.mk ((by rw [hg]; exact Nat.ne_of_gt (Gl (g := gb0) (o := .cells #[.int .i64 0, .string (⟨#[]⟩ : ByteArray), .int .i64 0, .int .i64 0] 25 (0, 0)) Yd_) : gb1 ≠ gb0)); have n6_ := Ac.mk ((⟨_, _, hbox, (by rw [hg]; exact (Ba Yc_)), HR0.out⟩ : Aj w w4 gb1 l0 0 0)); clear BK0; clear HB; have BK0 := n0_; have HB := n1_; have GW1 := n2_; have GE1 := n3_; have NB0_1 := n4_; have NB1_0 := n5_; have HI189 := n6_; clear n0_ n1_ n2_ n3_ n4_ n5_ n6_; clear hb hbox hg) | ((with_reducible refine Ap (f := 27) rfl ?_); refine Bj (some 8) rfl rfl Tryz.func27 (by kernel_rfl) rfl #[.pointer (some ⟨gb1, 0, none⟩)] rfl Ya_ ?_; (with_reducible refine (Bh.calls k gb1 l0 0 0 t190 t191 t192 t193 t194 t195 w _ ?side1 ?side2 A2.out).mono ?_); (case side1 => repeat (first | (with_reducible first | exact HI189.out | apply Aj.alloc | apply Aj.drewN | apply Aj.drew | apply Aj.Dv | apply Aj.Du | refine Aj.far ?_ NB1_0.out _) | exact HI189.out)); (case side2 => repeat (first | (with_reducible first | exact HB.out | apply Ae | apply Aa | apply Ad | refine Am ?_ (Aj.ge HI189.out) | refine Am ?_ GE0.out) | exact HB.out)); rintro e w5 ⟨rfl, hi, hb, hk⟩; refine ⟨_, rfl, ?_⟩; have n0_ := Ac.mk (A8.blk hk (g' := gb0) (o := .cells #[.int .i64 0, .string (⟨#[]⟩ : ByteArray), .int .i64 0, .int .i64 0] 25 (0, 0)) Yd_ NB0_1.out (by simp)); have n1_ := Ac.mk (hb); have n2_ := Ac.mk (hi); clear BK0; clear HB; clear HI189; have BK0 := n0_; have HB := n1_; have HI189 := n2_; clear n0_ n1_ n2_; (try clear hb); (try clear hb2); (try clear hk); (try clear hi); have hnb6 := NB0_1.out; have hnc6 := NB1_0.out; have hcz7_0 : w5.cell? ⟨gb0, 0, none⟩ = some (.int .i64 0) := (Ak BK0.out 0).trans rfl; have hcz7_1 : w5.cell? ⟨gb0, 1, none⟩ = some (.string (⟨#[]⟩ : ByteArray)) := (Ak BK0.out 1).trans rfl; have hcz7_2 : w5.cell? ⟨gb0, 2, none⟩ = some (.int .i64 0) := (Ak BK0.out 2).trans rfl; have hcz7_3 : w5.cell? ⟨gb0, 3, none⟩ = some (.int .i64 0) := (Ak BK0.out 3).trans rfl; have hfz7_0 := Ai BK0.out 0; have hfz7_1 := Ai BK0.out 1; have hfz7_2 := Ai BK0.out 2; have hfz7_3 := Ai BK0.out 3))
 refine bodyPost_ret (results_cell_row rfl _ _ gb0 25 #[.int .i64 t190, .string t191, .int .i64 t192, .int .i64 t193] (0, 0) _ rfl (by (with_reducible repeat (first | refine Ag ?_ _ | refine Ah ?_ | refine Af ?_ _)); refine Be (cs := #[.int .i64 t190, .string t191, .int .i64 t192, .int .i64 0]) ?_ 3 _ rfl; (with_reducible repeat (first | refine Ag ?_ _ | refine Ah ?_ | refine Af ?_ _)); refine Be (cs := #[.int .i64 t190, .string t191, .int .i64 0, .int .i64 0]) ?_ 2 _ rfl; (with_reducible repeat (first | refine Ag ?_ _ | refine Ah ?_ | refine Af ?_ _)); refine Be (cs := #[.int .i64 t190, .string (⟨#[]⟩ : ByteArray), .int .i64 0, .int .i64 0]) ?_ 1 _ rfl; (with_reducible repeat (first | refine Ag ?_ _ | refine Ah ?_ | refine Af ?_ _)); refine Be (cs := #[.int .i64 0, .string (⟨#[]⟩ : ByteArray), .int .i64 0, .int .i64 0]) ?_ 0 _ rfl; (with_reducible repeat (first | refine Ag ?_ _ | refine Ah ?_ | refine Af ?_ _)); exact BK0.out) Tryz.underlying25 rfl (by kernel_rfl)) rfl ?_
 exact ⟨by first | rfl | (simp [Au, Aw] <;> rfl) | (simp [*, Au, Aw] <;> rfl), by repeat (first | (with_reducible first | exact HB.out | apply Ae | apply Aa | apply Ad | refine Am ?_ (Aj.ge HI189.out) | refine Am ?_ GE0.out) | exact HB.out)⟩
end Go.Proofs.YtghnljoaklmakaaGreatDoor.X

