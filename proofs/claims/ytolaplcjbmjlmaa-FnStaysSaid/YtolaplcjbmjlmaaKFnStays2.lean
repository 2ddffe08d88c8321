/- Texts that the proof of the law FnStays leans on, part 3 of 6. -/
import Derived.Shelf.Small.Bits
import Derived.Shelf.Strconv.Itoa0
import Derived.Shelf.Sort.Plain
import Derived.Ground.Names2Prog
import Derived.Shelf.Slices.SearchI
import Derived.Shelf.Slices.In.SortNone
import Derived.Ground.SlgfProg
import Derived.Shelf.SlicesE.IndexFunc
import Derived.Shelf.SlicesE.DeleteFunc
import Derived.Ground.SlsfProg
import Derived.Shelf.SlSortCmp.Insertion
import Derived.Test.YtolaplcjbmjlmaaProg
import Derived.Sort.OwnSortedInts
import Derived.Test.YtolaplcjbmjlmaaKFnStays0
import Derived.Test.YtolaplcjbmjlmaaKFnStays1
set_option linter.unusedVariables false
set_option linter.unusedSimpArgs false
namespace Go.Proofs.Ytolaplcjbmjlmaa.X
open Go.RowKit Go.Proofs.YtolaplcjbmjlmaaW.PrintWords Go.Proofs.YtolaplcjbmjlmaaW.PrintLast Go.Proofs.YtolaplcjbmjlmaaW.PrintMore
attribute [local go_sem] max2_int min2_int max_two min_two max_three min_three max_four min_four
/-- Where a number goes: behind the last one that is not pushed on. -/
def F5 (f : Int → Bool) (out : List Int) : Nat → Nat
 | 0 => 0
 | x + 1 => if f (rd out (x : Int)) = true then F5 f out x else x + 1
theorem posIn_le (f : Int → Bool) (out : List Int) : ∀ x, F5 f out x ≤ x
 | 0 => Nat.le_refl _
 | x + 1 => by
  unfold F5
  split
  ·exact Nat.le_succ_of_le (posIn_le f out x)
  ·exact Nat.le_refl _
def Gj (f : Int → Bool) (v : Int) (out : List Int) : List Int := (out.take (F5 f out out.length) ++ [v]) ++ out.drop (F5 f out out.length)
theorem Ig (f : Int → Bool) (v : Int) (out : List Int) : (Gj f v out).length = out.length + 1 := by
 have := posIn_le f out out.length
 unfold Gj
 simp only [List.length_append, List.length_take, List.length_drop, List.length_cons, List.length_nil]
 omega
def over (v y : Int) : Bool := decide (v < y)
def G5 (l : List Int) : List Int := l.foldl (fun out v => Gj (over v) v out) []
theorem sortedL_snoc (l : List Int) (v : Int) : G5 (l ++ [v]) = Gj (over v) v (G5 l) := by unfold G5; rw [List.foldl_append]; rfl
theorem sortedL_next (l : List Int) (i : Nat) (h : i < l.length) : G5 (l.take (i + 1)) = Gj (over (rd l (i : Int))) (rd l (i : Int)) (G5 (l.take i)) := by
 rw [List.take_succ_eq_append_getElem h, sortedL_snoc]
 have : rd l (i : Int) = l[i] := by simp [rd, List.getD_eq_getElem?_getD, List.getElem?_eq_getElem h]
 rw [this]
theorem sortedL_length (l : List Int) : ∀ i, i ≤ l.length → (G5 (l.take i)).length = i
 | 0, _ => rfl
 | i + 1, h => by rw [sortedL_next l i (by omega), Ig, sortedL_length l i (by omega)]
def F9.f (l0 : List Int) : Option (List Int) := if l0.length ≤ 1048576 then some (G5 l0) else none
set_option maxHeartbeats 8000000 in
set_option maxRecDepth 100000 in
theorem F9.calls (A0 : Option Addr) (c0 : Nat) (l0 : List Int) (r : List Int) (w : World) (hr0 : Kd.C (Kd.int .i64) w A0 l0.length l0) (hc0 : l0.length ≤ c0) (h : F9.f l0 = some r) :
  Calls Try.prog 77 #[.slice A0 l0.length c0] w fun e w' => ∃ v0_ : Value, e = .returned v0_ ∧ Kd.R (Kd.int .i64) 3 w' w.heap.size (fun _ => True) v0_ r ∧ Below w.heap.size w w' := by
 have HR0 := Aside0.mk hr0
 have HC0 := Aside0.mk hc0
 clear hr0 hc0
 have HB := Aside0.mk (Below.refl w.heap.size w)
 unfold F9.f at h
 split at h
 rotate_left
 ·cases h
 rename_i hl_
 obtain rfl := Option.some.inj h
 have HL0 := Aside0.mk hl_
 clear h hl_
 go_enter Try.func77, Try.ntmps77
 go_wp2_with ((with_reducible refine gate_dst (N := 6) rfl ?_); refine Kd.R_lit (Kd.int .i64) _ 3 ?hg (N := 6) ?hd (xs := ([] : List Int)) (inner := []) (ok := fun _ => True) (okp := fun _ => True) ?hr ?hp (fun _ hk => hk) trivial HB.out (Nat.le_refl _) (by simp) ?_; (case hd => rfl); (case hg => rfl); (case hr => first | (go_simp; done) | (go_simp; rfl)); (case hp => exact (Dw.none _ _)); intro v6 w1 ho hb hg_ hnew_; have HO := Aside0.mk ho; clear HB; have HB := Aside0.mk hb; clear ho hb hg_ hnew_)
 repeat (go_quiet (fail); try go_wp2)
 go_loopg [3, 4] l0.length (fun gg v3 v4 w' => ∃ (i : Nat) (ii : Int), v4 = .int .i64 ii ∧ Aside0 (ii = (i : Int)) ∧ Aside0 (i ≤ l0.length ∧ l0.length ≤ i + gg) ∧ Aside0 (Kd.R (Kd.int .i64) 3 w' w.heap.size (fun _ => True) v3 (G5 (l0.take i))) ∧ Aside0 (Below w.heap.size w w'))
 case atStart => exact ⟨0, 0, rfl, ⟨rfl⟩, ⟨by omega, by omega⟩, HO, HB⟩
 case round =>
  clear HO HB
  obtain ⟨i, ii, rfl, HII, HI, HO, HB⟩ := hrel
  by_cases c : i < l0.length
  ·have cb0 : decide (ii < (l0.length : Int)) = true := decide_eq_true (by have := HII.out; omega)
   have HNX := Aside0.mk (show G5 (l0.take (i + 1)) = Gj (over (rd l0 ii)) (rd l0 ii) (G5 (l0.take i)) by rw [HII.out]; exact sortedL_next l0 i c)
   have HLN := Aside0.mk (sortedL_length l0 i (by omega))
   have HWI := Aside0.mk (show wrap64 (ii + 1) = ((i + 1 : Nat) : Int) by have := HL0.out; have := HII.out; unfold wrap64; omega)
   have HCI := Aside0.mk c
   clear c
   obtain ⟨Ao, co, e3_⟩ := Kd.R_slice HO.out
   subst e3_
   generalize G5 (l0.take i) = out at HO HNX HLN ⊢
   have HLEN := Aside0.mk (show out.length ≤ 1048576 by have := HLN.out; have := HI.out; have := HL0.out; omega)
   obtain ⟨adl_, el_, hxl_⟩ := Kd.Fv HR0.out ii (by have := HII.out; omega) Ydj_
   cases el_
   have HXL := Aside0.mk hxl_
   clear hxl_
   have pi_ : (0 ≤ ii) = True := eq_true (by have := HII.out; omega)
   have qi_ : (ii < (l0.length : Int)) = True := eq_true Ydj_
   generalize rd l0 ii = v at HNX HXL
   go_wp2
   repeat (go_quiet (fail); try go_wp2)
   go_loopg [5] out.length (fun gg v5 w' => ∃ (x : Nat) (xi : Int), v5 = .int .i64 xi ∧ Aside0 (xi = (x : Int)) ∧ Aside0 (x ≤ out.length ∧ x ≤ gg) ∧ Aside0 (F5 (over v) out x = F5 (over v) out out.length) ∧ Aside0 (Kd.R (Kd.int .i64) 3 w' w.heap.size (fun _ => True) (.slice Ao out.length co) out) ∧ Aside0 (Below w.heap.size w w'))
   case atStart => exact ⟨out.length, _, rfl, ⟨rfl⟩, ⟨Nat.le_refl _, Nat.le_refl _⟩, ⟨rfl⟩, HO, HB⟩
   case round =>
    clear HO HB
    obtain ⟨x, xi, rfl, HXI, HX, HPOS, HO, HB⟩ := hrel
    by_cases hx0 : x = 0
    ·have cz_ : decide (0 < xi) = false := decide_eq_false (by have := HXI.out; omega)
     have hp0_ : F5 (over v) out x = x := by rw [hx0]; rfl
     replace HPOS := Aside0.mk (hp0_.symm.trans HPOS.out)
     clear hp0_ hx0
     try go_wp2
     have m_ := Aside0.mk (Ae HB.out)
     clear HB
     have HB := m_
     clear m_
     have m_ := Aside0.mk (Kd.Ba HO.out)
     clear HO
     have HO := m_
     clear m_
     refine G9 (n := 14) (S := fun w' => True) (ds := []) #[false, false, false, false, false, false, false, false, false, false, false, false, false, false] (by kernel_rfl) rfl rfl trivial (fun hHeld => ?_)
     generalize wr.drew = w20 at HB HO  hHeld ⊢
     refine Bg (i := 0) (N := some 15) (v := ?_) (a' := ?_) #[true, false, false, false, false, false, false, false, false, false, false, false, false, false] rfl rfl (by kernel_rfl) (fun _ _ _ h => h) (Or.inl ⟨by rfl, ?_⟩) ?_ ?_
     rotate_left
     ·intro w'
      go_simp
      first | done | with_reducible rfl
     rotate_left
     ·simp only [Act.put, List.setIfInBounds_toArray, List.set_cons_zero, List.set_cons_succ, Aj, Ak]
      rfl
     refine Bg (i := 1) (N := some 16) (v := ?_) (a' := ?_) #[true, true, false, false, false, false, false, false, false, false, false, false, false, false] rfl rfl (by kernel_rfl) (fun _ _ _ h => h) (Or.inl ⟨by rfl, ?_⟩) ?_ ?_
     rotate_left
     ·intro w'
      go_simp
      first | done | with_reducible rfl
     rotate_left
     ·simp only [Act.put, List.setIfInBounds_toArray, List.set_cons_zero, List.set_cons_succ, Aj, Ak]
      rfl
     refine Bg (i := 2) (N := some 17) (v := ?_) (a' := ?_) #[true, true, true, false, false, false, false, false, false, false, false, false, false, false] rfl rfl (by kernel_rfl) (fun _ _ _ h => h) (Or.inl ⟨by rfl, ?_⟩) ?_ ?_
     rotate_left
     ·intro w'
      go_simp
      first | done | with_reducible rfl
     rotate_left
     ·simp only [Act.put, List.setIfInBounds_toArray, List.set_cons_zero, List.set_cons_succ, Aj, Ak]
      rfl
     refine Bg (i := 3) (N := some 18) (v := undef) (a' := ?_) #[true, true, true, true, false, false, false, false, false, false, false, false, false, false] rfl rfl (by kernel_rfl) (fun _ _ _ h => h) (Or.inr ⟨by rfl, rfl⟩) ?_ ?_
     rotate_left
     ·simp only [Act.put, List.setIfInBounds_toArray, List.set_cons_zero, List.set_cons_succ, Aj, Ak]
      rfl
     refine Bg (i := 4) (N := some 19) (v := undef) (a' := ?_) #[true, true, true, true, true, false, false, false, false, false, false, false, false, false] rfl rfl (by kernel_rfl) (fun _ _ _ h => h) (Or.inr ⟨by rfl, rfl⟩) ?_ ?_
     rotate_left
     ·simp only [Act.put, List.setIfInBounds_toArray, List.set_cons_zero, List.set_cons_succ, Aj, Ak]
      rfl
     refine Bg (i := 5) (N := some 20) (v := undef) (a' := ?_) #[true, true, true, true, true, true, false, false, false, false, false, false, false, false] rfl rfl (by kernel_rfl) (fun _ _ _ h => h) (Or.inr ⟨by rfl, rfl⟩) ?_ ?_
     rotate_left
     ·simp only [Act.put, List.setIfInBounds_toArray, List.set_cons_zero, List.set_cons_succ, Aj, Ak]
      rfl
     refine Bg (i := 6) (N := some 21) (v := undef) (a' := ?_) #[true, true, true, true, true, true, true, false, false, false, false, false, false, false] rfl rfl (by kernel_rfl) (fun _ _ _ h => h) (Or.inr ⟨by rfl, rfl⟩) ?_ ?_
     rotate_left
     ·simp only [Act.put, List.setIfInBounds_toArray, List.set_cons_zero, List.set_cons_succ, Aj, Ak]
      rfl
     refine Bg (i := 7) (N := some 22) (v := undef) (a' := ?_) #[true, true, true, true, true, true, true, true, false, false, false, false, false, false] rfl rfl (by kernel_rfl) (fun _ _ _ h => h) (Or.inr ⟨by rfl, rfl⟩) ?_ ?_
     rotate_left
     ·simp only [Act.put, List.setIfInBounds_toArray, List.set_cons_zero, List.set_cons_succ, Aj, Ak]
      rfl
     refine Bg (i := 8) (N := some 23) (v := undef) (a' := ?_) #[true, true, true, true, true, true, true, true, true, false, false, false, false, false] rfl rfl (by kernel_rfl) (fun _ _ _ h => h) (Or.inr ⟨by rfl, rfl⟩) ?_ ?_
     rotate_left
     ·simp only [Act.put, List.setIfInBounds_toArray, List.set_cons_zero, List.set_cons_succ, Aj, Ak]
      rfl
     refine Bg (i := 9) (N := some 24) (v := undef) (a' := ?_) #[true, true, true, true, true, true, true, true, true, true, false, false, false, false] rfl rfl (by kernel_rfl) (fun _ _ _ h => h) (Or.inr ⟨by rfl, rfl⟩) ?_ ?_
     rotate_left
     ·simp only [Act.put, List.setIfInBounds_toArray, List.set_cons_zero, List.set_cons_succ, Aj, Ak]
      rfl
     refine Bg (i := 10) (N := some 25) (v := undef) (a' := ?_) #[true, true, true, true, true, true, true, true, true, true, true, false, false, false] rfl rfl (by kernel_rfl) (fun _ _ _ h => h) (Or.inr ⟨by rfl, rfl⟩) ?_ ?_
     rotate_left
     ·simp only [Act.put, List.setIfInBounds_toArray, List.set_cons_zero, List.set_cons_succ, Aj, Ak]
      rfl
     refine Bg (i := 11) (N := some 26) (v := undef) (a' := ?_) #[true, true, true, true, true, true, true, true, true, true, true, true, false, false] rfl rfl (by kernel_rfl) (fun _ _ _ h => h) (Or.inr ⟨by rfl, rfl⟩) ?_ ?_
     rotate_left
     ·simp only [Act.put, List.setIfInBounds_toArray, List.set_cons_zero, List.set_cons_succ, Aj, Ak]
      rfl
     refine Bg (i := 12) (N := some 27) (v := undef) (a' := ?_) #[true, true, true, true, true, true, true, true, true, true, true, true, true, false] rfl rfl (by kernel_rfl) (fun _ _ _ h => h) (Or.inr ⟨by rfl, rfl⟩) ?_ ?_
     rotate_left
     ·simp only [Act.put, List.setIfInBounds_toArray, List.set_cons_zero, List.set_cons_succ, Aj, Ak]
      rfl
     refine Bg (i := 13) (N := some 28) (v := ?_) (a' := ?_) #[true, true, true, true, true, true, true, true, true, true, true, true, true, true] rfl rfl (by kernel_rfl) (fun _ _ _ h => h) (Or.inl ⟨by rfl, ?_⟩) ?_ ?_
     rotate_left
     ·intro w'
      go_simp
      first | done | with_reducible rfl
     rotate_left
     ·simp only [Act.put, List.setIfInBounds_toArray, List.set_cons_zero, List.set_cons_succ, Aj, Ak]
      rfl
     refine done_ (by kernel_rfl) ?_
     try clear hHeld
     have HP := Aside0.mk (show x ≤ out.length from HX.out.1)
     try go_wp2
     have m_ := Aside0.mk (Ae HB.out)
     clear HB
     have HB := m_
     clear m_
     have m_ := Aside0.mk (Kd.Ba HO.out)
     clear HO
     have HO := m_
     clear m_
     have hx1 := (HB.out.cell (World.block_lt_of_cell? w _ HXL.out)).trans HXL.out
     obtain ⟨i0_, hi0_, _, hsz0_, _⟩ := info_parts info3
     have HCo := Aside0.mk (Kd.R_reads' HO.out).2.1
     have hcut1 := cut_to (P := Try.prog) 53 3 .i64 Try.underlying53 hi0_ Ao out.length co xi (by have := HXI.out; omega) Ydb_ HCo.out
     have hcut2 := cut_from (P := Try.prog) 53 3 .i64 Try.underlying53 hi0_ 1 hsz0_ Ao out.length co xi (by have := HXI.out; omega) Ydb_
     have hxt_ : xi.toNat = x := by rw [HXI.out]; rfl
     simp only [hxt_, Nat.mul_one] at hcut1 hcut2
     clear hxt_
     obtain ⟨Ac_, hAc_⟩ : ∃ A_ : Option Addr, (if co = x then Ao else Ao.map (·.add x)) = A_ := ⟨_, rfl⟩
     first | rw [hAc_] at hcut2 | simp only [hAc_, Option.map_some] at hcut2
     have HAc := Aside0.mk hAc_
     clear hAc_
     refine G9 (n := 16) (S := fun w' => w'.cell? (adl_.add ii.toNat) = some (.int .i64 v)) (ds := []) #[false, false, false, false, false, false, false, false, false, false, false, false, false, false, false, false] (by kernel_rfl) rfl rfl (hx1) (fun hHeld => ?_)
     generalize w20.drew = W0_ at HB HO hx1 hHeld ⊢
     have HRo := Aside0.mk (Kd.R_reads' HO.out).2.2
     have HB2 := Aside0.mk (Below.refl W0_.heap.size W0_)
     clear HO
     refine Bg (i := 1) (N := some 32) (v := ?_) (a' := ?_) #[false, true, false, false, false, false, false, false, false, false, false, false, false, false, false, false] rfl rfl (by kernel_rfl) (fun _ _ _ h => h) (Or.inl ⟨by rfl, ?_⟩) ?_ ?_
     rotate_left
     ·intro w'
      go_simp
      first | done | with_reducible rfl
     rotate_left
     ·simp only [Act.put, List.setIfInBounds_toArray, List.set_cons_zero, List.set_cons_succ, Aj, Ak]
      rfl
     refine Bg (i := 2) (N := some 33) (v := ?_) (a' := ?_) #[false, true, true, false, false, false, false, false, false, false, false, false, false, false, false, false] rfl rfl (by kernel_rfl) (fun _ _ _ h => h) (Or.inl ⟨by rfl, ?_⟩) ?_ ?_
     rotate_left
     ·intro w'
      go_simp
      first | done | with_reducible rfl
     rotate_left
     ·simp only [Act.put, List.setIfInBounds_toArray, List.set_cons_zero, List.set_cons_succ, Aj, Ak]
      rfl
     refine Bg (i := 3) (N := some 34) (v := ?_) (a' := ?_) #[false, true, true, true, false, false, false, false, false, false, false, false, false, false, false, false] rfl rfl (by kernel_rfl) (fun _ _ _ h => h) (Or.inl ⟨by rfl, ?_⟩) ?_ ?_
     rotate_left
     ·intro w'
      go_simp
      first | done | with_reducible rfl
     rotate_left
     ·simp only [Act.put, List.setIfInBounds_toArray, List.set_cons_zero, List.set_cons_succ, Aj, Ak]
      rfl
     refine Bg (i := 5) (N := some 36) (v := ?_) (a' := ?_) #[false, true, true, true, false, true, false, false, false, false, false, false, false, false, false, false] rfl rfl (by kernel_rfl) (fun _ _ _ h => h) (Or.inl ⟨by rfl, ?_⟩) ?_ ?_
     rotate_left
     ·intro w'
      go_simp
      first | done | with_reducible rfl
     rotate_left
     ·simp only [Act.put, List.setIfInBounds_toArray, List.set_cons_zero, List.set_cons_succ, Aj, Ak]
      rfl
     refine Bg (i := 6) (N := some 37) (v := ?_) (a' := ?_) #[false, true, true, true, false, true, true, false, false, false, false, false, false, false, false, false] rfl rfl (by kernel_rfl) (fun _ _ _ h => h) (Or.inl ⟨by rfl, ?_⟩) ?_ ?_
     rotate_left
     ·intro w'
      go_simp
      first | done | with_reducible rfl
     rotate_left
     ·simp only [Act.put, List.setIfInBounds_toArray, List.set_cons_zero, List.set_cons_succ, Aj, Ak]
      rfl
     refine Bg (i := 7) (N := some 38) (v := ?_) (a' := ?_) #[false, true, true, true, false, true, true, true, false, false, false, false, false, false, false, false] rfl rfl (by kernel_rfl) (fun _ _ _ h => h) (Or.inl ⟨by rfl, ?_⟩) ?_ ?_
     rotate_left
     ·intro w'
      go_simp
      first | done | with_reducible rfl
     rotate_left
     ·simp only [Act.put, List.setIfInBounds_toArray, List.set_cons_zero, List.set_cons_succ, Aj, Ak]
      rfl
     refine Bg (i := 11) (N := some 42) (v := ?_) (a' := ?_) #[false, true, true, true, false, true, true, true, false, false, false, true, false, false, false, false] rfl rfl (by kernel_rfl) (fun _ _ _ h => h) (Or.inl ⟨by rfl, ?_⟩) ?_ ?_
     rotate_left
     ·intro w'
      go_simp
      first | done | with_reducible rfl
     rotate_left
     ·simp only [Act.put, List.setIfInBounds_toArray, List.set_cons_zero, List.set_cons_succ, Aj, Ak]
      rfl
     refine Bg (i := 12) (N := some 43) (v := ?_) (a' := ?_) #[false, true, true, true, false, true, true, true, false, false, false, true, true, false, false, false] rfl rfl (by kernel_rfl) (fun _ _ _ h => h) (Or.inl ⟨by rfl, ?_⟩) ?_ ?_
     rotate_left
     ·intro w'
      go_simp
      first | done | with_reducible rfl
     rotate_left
     ·simp only [Act.put, List.setIfInBounds_toArray, List.set_cons_zero, List.set_cons_succ, Aj, Ak]
      rfl
     refine Bg (i := 13) (N := some 44) (v := ?_) (a' := ?_) #[false, true, true, true, false, true, true, true, false, false, false, true, true, true, false, false] rfl rfl (by kernel_rfl) (fun _ _ _ h => h) (Or.inl ⟨by rfl, ?_⟩) ?_ ?_
     rotate_left
     ·intro w'
      go_simp
      first | done | with_reducible rfl
     rotate_left
     ·simp only [Act.put, List.setIfInBounds_toArray, List.set_cons_zero, List.set_cons_succ, Aj, Ak]
      rfl
     refine Gg (i := 8) (N := some 39) (v := ?_) (a' := ?_) #[false, true, true, true, false, true, true, true, true, false, false, true, true, true, false, false] rfl rfl (by kernel_rfl) (fun _ _ _ h => h) (Or.inl ⟨by rfl, ?_⟩) hHeld ?_ ?_
     rotate_left
     ·intro w' s0
      go_simp
      first | done | with_reducible rfl
     rotate_left
     ·simp only [Act.put, List.setIfInBounds_toArray, List.set_cons_zero, List.set_cons_succ, Aj, Ak]
      rfl
     refine join_ (σ := Value × Value × Option Addr × Nat) 3 #[true, true, true, true, true, true, true, true, true, true, false, true, true, true, false, false] (fun s => match s with | ⟨v31, v35, A40, c40⟩ => [(31, v31), (35, v35), (40, .slice A40 ([v] : List Int).length c40)]) (fun s w' => match s with | ⟨v31, v35, A40, c40⟩ => Aside0 (Kd.R (Kd.int .i64) 3 w' W0_.heap.size (fun _ => True) v35 (out.take x)) ∧ Aside0 (Kd.R (Kd.int .i64) 3 w' W0_.heap.size (fun _ => True) (.slice A40 ([v] : List Int).length c40) [v]) ∧ Aside0 (Below W0_.heap.size W0_ w')) ?_ ?_
     rotate_left
     ·intro hCont
      refine two_ (i := 0) (j := 9) (Ni := some 31) (Nj := some 40) #[true, true, true, true, false, true, true, true, true, false, false, true, true, true, false, false] #[false, true, true, true, false, true, true, true, true, true, false, true, true, true, false, false] rfl rfl rfl rfl (by kernel_rfl) (by decide) (by decide) (fun K hK => ?_) (fun K hK => ?_)
      ·skip
       refine Kd.Fz (Kd.int .i64) W0_.heap.size 3 ?hg (N := 31) ?hd (xs := ([] : List Int)) (inner := []) (ok := fun _ => True) (okp := fun _ => True) ?hr ?hp (fun _ hk => hk) trivial HB2.out (below_size HB2.out) (by simp) ?_; (case hd => rfl); (case hg => rfl); (case hr => first | (go_simp; done) | (go_simp; rfl)); (case hp => exact (Dw.none _ _))
       intro v31 W1_ ho hb hg_ hnew_
       have HN := Aside0.mk ho
       clear HB2
       have HB2 := Aside0.mk hb
       clear hb hg_ hnew_ ho
       refine hK.out _ _ ((HB2.out.cell (World.block_lt_of_cell? _ _ hx1)).trans hx1) (fun hHeld => ?_)
       clear hK K
       refine En (a' := ?_) ?_ ?_
       rotate_left
       ·show Act.put _ (some 31) _ = _
        simp only [Act.put, List.setIfInBounds_toArray, List.set_cons_zero, List.set_cons_succ, Aj, Ak]
        rfl
       refine two_ (i := 4) (j := 9) (Ni := some 35) (Nj := some 40) #[true, true, true, true, true, true, true, true, true, false, false, true, true, true, false, false] #[true, true, true, true, false, true, true, true, true, true, false, true, true, true, false, false] rfl rfl rfl rfl (by kernel_rfl) (by decide) (by decide) (fun K hK => ?_) (fun K hK => ?_)
       ·skip
        refine Kd.Ei (Kd.int .i64) (w0 := W0_) W0_.heap.size (by rfl) (.tmp 31) (.tmp 34) 53 3 (.int .i64 0) 8 rfl Try.underlying53 info3 rfl (by decide) (by omega) v31 [] (out.take x) Ao x co (fun _ => True) (fun _ => False) rfl rfl HN.out Ybd_ (fun _ _ h => h) (fun _ h => h.elim) (fun _ _ => trivial) HB2.out (below_size HB2.out) Yh_ ?_
        intro v35 W2_ ho hb hg_ hat_
        rw [List.nil_append] at ho
        clear HN
        have HN := Aside0.mk ho
        clear HB2
        have HB2 := Aside0.mk hb
        clear hb hg_ hat_ ho
        refine hK.out _ _ ((HB2.out.cell (World.block_lt_of_cell? _ _ hx1)).trans hx1) (fun hHeld => ?_)
        clear hK K
        refine En (a' := ?_) ?_ ?_
        rotate_left
        ·show Act.put _ (some 35) _ = _
         simp only [Act.put, List.setIfInBounds_toArray, List.set_cons_zero, List.set_cons_succ, Aj, Ak]
         rfl
        refine one_ (i := 9) (N := some 40) #[true, true, true, true, true, true, true, true, true, true, false, true, true, true, false, false] rfl rfl (by kernel_rfl) (by decide) (fun K hK => ?_)
        refine Kd.Fz (Kd.int .i64) W0_.heap.size 3 ?hg (N := 40) ?hd (xs := ([v] : List Int)) (inner := [.int .i64 v]) (ok := fun _ => True) (okp := fun _ => True) ?hr ?hp (fun _ hk => hk) trivial HB2.out (below_size HB2.out) (by simp) ?_; (case hd => rfl); (case hg => rfl); (case hr => first | (go_simp; done) | (go_simp; rfl)); (case hp => exact (Dw.one (show Kd.M (Kd.int .i64) _ _ _ v [.int .i64 v] from rfl) (Dw.none _ _)))
        intro v40_ W3_ ho hb hg_ hnew_
        obtain ⟨A40, c40, e40_⟩ := Kd.R_slice ho
        subst e40_
        have HL := Aside0.mk ho
        have m_ := Aside0.mk (Kd.Ht HN.out hg_ (fun _ _ h_ => nomatch h_))
        clear HN
        have HN := m_
        clear m_
        clear HB2
        have HB2 := Aside0.mk hb
        clear hb hg_ hnew_ ho
        refine hK.out _ _ ((HB2.out.cell (World.block_lt_of_cell? _ _ hx1)).trans hx1) (fun hHeld => ?_)
        clear hK K
        refine En (a' := ?_) ?_ ?_
        rotate_left
        ·show Act.put _ (some 40) _ = _
         simp only [Act.put, List.setIfInBounds_toArray, List.set_cons_zero, List.set_cons_succ, Aj, Ak]
         rfl
        exact En Ybg_ (hCont (v31, v35, A40, c40) _ ⟨HN, HL, HB2⟩)
       ·skip
        refine Kd.Fz (Kd.int .i64) W0_.heap.size 3 ?hg (N := 40) ?hd (xs := ([v] : List Int)) (inner := [.int .i64 v]) (ok := fun _ => True) (okp := fun _ => True) ?hr ?hp (fun _ hk => hk) trivial HB2.out (below_size HB2.out) (by simp) ?_; (case hd => rfl); (case hg => rfl); (case hr => first | (go_simp; done) | (go_simp; rfl)); (case hp => exact (Dw.one (show Kd.M (Kd.int .i64) _ _ _ v [.int .i64 v] from rfl) (Dw.none _ _)))
        intro v40_ W2_ ho hb hg_ hnew_
        obtain ⟨A40, c40, e40_⟩ := Kd.R_slice ho
        subst e40_
        have HL := Aside0.mk ho
        have NE_ := Aside0.mk (show v31.ownBlock ≠ (Value.slice A40 ([v] : List Int).length c40).ownBlock by obtain ⟨b_, hb1_, hb2_⟩ := hnew_; intro e_; rw [hb1_] at e_; have := Kd.R_lt HN.out b_ e_; omega)
        have m_ := Aside0.mk (Kd.Ht HN.out hg_ (fun _ _ h_ => nomatch h_))
        clear HN
        have HN := m_
        clear m_
        clear HB2
        have HB2 := Aside0.mk hb
        clear hb hg_ hnew_ ho
        refine hK.out _ _ ((HB2.out.cell (World.block_lt_of_cell? _ _ hx1)).trans hx1) (fun hHeld => ?_)
        clear hK K
        refine En (a' := ?_) ?_ ?_
        rotate_left
        ·show Act.put _ (some 40) _ = _
         simp only [Act.put, List.setIfInBounds_toArray, List.set_cons_zero, List.set_cons_succ, Aj, Ak]
         rfl
        refine one_ (i := 4) (N := some 35) #[true, true, true, true, true, true, true, true, true, true, false, true, true, true, false, false] rfl rfl (by kernel_rfl) (by decide) (fun K hK => ?_)
        refine Kd.Ei (Kd.int .i64) (w0 := W0_) W0_.heap.size (by rfl) (.tmp 31) (.tmp 34) 53 3 (.int .i64 0) 8 rfl Try.underlying53 info3 rfl (by decide) (by omega) v31 [] (out.take x) Ao x co (fun _ => True) (fun _ => False) rfl rfl HN.out Ybd_ (fun _ _ h => h) (fun _ h => h.elim) (fun _ _ => trivial) HB2.out (below_size HB2.out) Yh_ ?_
        intro v35 W3_ ho hb hg_ hat_
        rw [List.nil_append] at ho
        have m_ := Aside0.mk (Kd.Ic HL.out rfl hg_ NE_.out)
        clear HL
        have HL := m_
        clear m_
        clear NE_
        clear HN
        have HN := Aside0.mk ho
        clear HB2
        have HB2 := Aside0.mk hb
        clear hb hg_ hat_ ho
        refine hK.out _ _ ((HB2.out.cell (World.block_lt_of_cell? _ _ hx1)).trans hx1) (fun hHeld => ?_)
        clear hK K
        refine En (a' := ?_) ?_ ?_
        rotate_left
        ·show Act.put _ (some 35) _ = _
         simp only [Act.put, List.setIfInBounds_toArray, List.set_cons_zero, List.set_cons_succ, Aj, Ak]
         rfl
        exact En Ybg_ (hCont (v31, v35, A40, c40) _ ⟨HN, HL, HB2⟩)
      ·skip
       refine Kd.Fz (Kd.int .i64) W0_.heap.size 3 ?hg (N := 40) ?hd (xs := ([v] : List Int)) (inner := [.int .i64 v]) (ok := fun _ => True) (okp := fun _ => True) ?hr ?hp (fun _ hk => hk) trivial HB2.out (below_size HB2.out) (by simp) ?_; (case hd => rfl); (case hg => rfl); (case hr => first | (go_simp; done) | (go_simp; rfl)); (case hp => exact (Dw.one (show Kd.M (Kd.int .i64) _ _ _ v [.int .i64 v] from rfl) (Dw.none _ _)))
       intro v40_ W1_ ho hb hg_ hnew_
       obtain ⟨A40, c40, e40_⟩ := Kd.R_slice ho
       subst e40_
       have HL := Aside0.mk ho
       clear HB2
       have HB2 := Aside0.mk hb
       clear hb hg_ hnew_ ho
       refine hK.out _ _ ((HB2.out.cell (World.block_lt_of_cell? _ _ hx1)).trans hx1) (fun hHeld => ?_)
       clear hK K
       refine En (a' := ?_) ?_ ?_
       rotate_left
       ·show Act.put _ (some 40) _ = _
        simp only [Act.put, List.setIfInBounds_toArray, List.set_cons_zero, List.set_cons_succ, Aj, Ak]
        rfl
       refine one_ (i := 0) (N := some 31) #[true, true, true, true, false, true, true, true, true, true, false, true, true, true, false, false] rfl rfl (by kernel_rfl) (by decide) (fun K hK => ?_)
       refine Kd.Fz (Kd.int .i64) W0_.heap.size 3 ?hg (N := 31) ?hd (xs := ([] : List Int)) (inner := []) (ok := fun _ => True) (okp := fun _ => True) ?hr ?hp (fun _ hk => hk) trivial HB2.out (below_size HB2.out) (by simp) ?_; (case hd => rfl); (case hg => rfl); (case hr => first | (go_simp; done) | (go_simp; rfl)); (case hp => exact (Dw.none _ _))
       intro v31 W2_ ho hb hg_ hnew_
       have HN := Aside0.mk ho
       have NE_ := Aside0.mk (show v31.ownBlock ≠ (Value.slice A40 ([v] : List Int).length c40).ownBlock by obtain ⟨b_, hb1_, hb2_⟩ := hnew_; intro e_; rw [hb1_] at e_; have := Kd.R_lt HL.out b_ e_.symm; omega)
       have m_ := Aside0.mk (Kd.Ht HL.out hg_ (fun _ _ h_ => nomatch h_))
       clear HL
       have HL := m_
       clear m_
       clear HB2
       have HB2 := Aside0.mk hb
       clear hb hg_ hnew_ ho
       refine hK.out _ _ ((HB2.out.cell (World.block_lt_of_cell? _ _ hx1)).trans hx1) (fun hHeld => ?_)
       clear hK K
       refine En (a' := ?_) ?_ ?_
       rotate_left
       ·show Act.put _ (some 31) _ = _
        simp only [Act.put, List.setIfInBounds_toArray, List.set_cons_zero, List.set_cons_succ, Aj, Ak]
        rfl
       refine one_ (i := 4) (N := some 35) #[true, true, true, true, true, true, true, true, true, true, false, true, true, true, false, false] rfl rfl (by kernel_rfl) (by decide) (fun K hK => ?_)
       refine Kd.Ei (Kd.int .i64) (w0 := W0_) W0_.heap.size (by rfl) (.tmp 31) (.tmp 34) 53 3 (.int .i64 0) 8 rfl Try.underlying53 info3 rfl (by decide) (by omega) v31 [] (out.take x) Ao x co (fun _ => True) (fun _ => False) rfl rfl HN.out Ybd_ (fun _ _ h => h) (fun _ h => h.elim) (fun _ _ => trivial) HB2.out (below_size HB2.out) Yh_ ?_
       intro v35 W3_ ho hb hg_ hat_
       rw [List.nil_append] at ho
       have m_ := Aside0.mk (Kd.Ic HL.out rfl hg_ NE_.out)
       clear HL
       have HL := m_
       clear m_
       clear NE_
       clear HN
       have HN := Aside0.mk ho
       clear HB2
       have HB2 := Aside0.mk hb
       clear hb hg_ hat_ ho
       refine hK.out _ _ ((HB2.out.cell (World.block_lt_of_cell? _ _ hx1)).trans hx1) (fun hHeld => ?_)
       clear hK K
       refine En (a' := ?_) ?_ ?_
       rotate_left
       ·show Act.put _ (some 35) _ = _
        simp only [Act.put, List.setIfInBounds_toArray, List.set_cons_zero, List.set_cons_succ, Aj, Ak]
        rfl
       exact En Ybg_ (hCont (v31, v35, A40, c40) _ ⟨HN, HL, HB2⟩)
     clear HB2
     rintro ⟨v31, v35, A40, c40⟩ W4_ ⟨HN, HL, HB2⟩
     have hHeld : (fun w' => w'.cell? (adl_.add ii.toNat) = some (.int .i64 v)) W4_ := (HB2.out.cell (World.block_lt_of_cell? _ _ hx1)).trans hx1
     refine En (a' := ?_) ?_ ?_
     rotate_left
     ·simp only [Gz, Act.put, List.setIfInBounds_toArray, List.set_cons_zero, List.set_cons_succ]
      rfl
     refine one_ (i := 10) (N := some 41) #[true, true, true, true, true, true, true, true, true, true, true, true, true, true, false, false] rfl rfl (by kernel_rfl) (by decide) (fun K hK => ?_)
     refine Kd.Ei (Kd.int .i64) (w0 := W0_) W0_.heap.size (by rfl) (.tmp 35) (.tmp 40) 53 3 (.int .i64 0) 8 rfl Try.underlying53 info3 rfl (by decide) (by omega) v35 (out.take x) [v] A40 ([v] : List Int).length c40 (fun _ => True) (fun _ => False) rfl rfl HN.out ((Kd.R_reads' HL.out).2.2) (fun _ _ h => h) (fun _ h => h.elim) (fun _ _ => trivial) HB2.out (below_size HB2.out) Yh_ ?_
     intro v41 W5_ ho hb hg_ hat_
     clear HN HL
     have HN := Aside0.mk ho
     clear HB2
     have HB2 := Aside0.mk hb
     clear hb hg_ hat_ ho
     refine hK.out _ _ ((HB2.out.cell (World.block_lt_of_cell? _ _ hx1)).trans hx1) (fun hHeld => ?_)
     clear hK K
     refine En (a' := ?_) ?_ ?_
     rotate_left
     ·show Act.put _ (some 41) _ = _
      simp only [Act.put, List.setIfInBounds_toArray, List.set_cons_zero, List.set_cons_succ, Aj, Ak]
      rfl
     refine one_ (i := 14) (N := some 45) #[true, true, true, true, true, true, true, true, true, true, true, true, true, true, true, false] rfl rfl (by kernel_rfl) (by decide) (fun K hK => ?_)
     refine Kd.Ei (Kd.int .i64) (w0 := W0_) W0_.heap.size (by rfl) (.tmp 41) (.tmp 44) 53 3 (.int .i64 0) 8 rfl Try.underlying53 info3 rfl (by decide) (by omega) v41 (out.take x ++ [v]) (out.drop x) Ac_ (out.length - x) (co - x) (fun _ => True) (fun _ => False) rfl rfl HN.out Ycb_ (fun _ _ h => h) (fun _ h => h.elim) (fun _ _ => trivial) HB2.out (below_size HB2.out) Yh_ ?_
     intro v45 W6_ ho hb hg_ hat_
     clear HN
     have HN := Aside0.mk ho
     clear HB2
     have HB2 := Aside0.mk hb
     clear hb hg_ hat_ ho
     refine hK.out _ _ ((HB2.out.cell (World.block_lt_of_cell? _ _ hx1)).trans hx1) (fun hHeld => ?_)
     clear hK K
     refine En (a' := ?_) ?_ ?_
     rotate_left
     ·show Act.put _ (some 45) _ = _
      simp only [Act.put, List.setIfInBounds_toArray, List.set_cons_zero, List.set_cons_succ, Aj, Ak]
      rfl
     refine Bg (i := 15) (N := some 3) (v := ?_) (a' := ?_) #[true, true, true, true, true, true, true, true, true, true, true, true, true, true, true, true] rfl rfl (by kernel_rfl) (fun _ _ _ h => h) (Or.inl ⟨by rfl, ?_⟩) ?_ ?_
     rotate_left
     ·intro w'
      go_simp
      first | done | with_reducible rfl
     rotate_left
     ·simp only [Act.put, List.setIfInBounds_toArray, List.set_cons_zero, List.set_cons_succ, Aj, Ak]
      rfl
     refine done_ (by kernel_rfl) ?_
     have HO := Aside0.mk (Kd.R_lower HN.out (below_size HB.out))
     have m_ := Aside0.mk (below_step HB.out HB2.out)
     clear HB HN HB2 HRo hcut1 hcut2 hi0_ hsz0_
     have HB := m_
     clear m_
     have HO2 := Aside0.mk (show Kd.R (Kd.int .i64) 3 W6_ w.heap.size (fun _ => True) v45 (G5 (l0.take (i + 1))) from by rw [HNX.out]; unfold Gj; rw [← HPOS.out]; exact HO.out)
     try go_wp2
     repeat (go_quiet (fail); try go_wp2)
     go_roundg (l0.length - (i + 1))
     case measure => have := HI.out; have := HCI.out; omega
     case rel => exact ⟨i + 1, _, rfl, HWI, ⟨by have := HCI.out; omega, by have := HI.out; omega⟩, HO2, HB⟩
    ·obtain ⟨y, hy⟩ : ∃ y, x = y + 1 := ⟨x - 1, by omega⟩
     obtain ⟨yi, hyi⟩ : ∃ yi : Int, yi = (y : Int) := ⟨_, rfl⟩
     have HYI := Aside0.mk hyi
     have hwx_ : wrap64 (xi - 1) = yi := by have := HX.out; have := HXI.out; have := HLEN.out; unfold wrap64; omega
     have hwxw_ : IntKind.i64.wrap (xi - 1) = yi := (Aj _).trans hwx_
     have cz_ : decide (0 < xi) = true := decide_eq_true (by have := HXI.out; omega)
     have px_ : (0 ≤ yi) = True := eq_true (by omega)
     have qx_ : (yi < (out.length : Int)) = True := eq_true (by have := HX.out; omega)
     by_cases cq : v < rd out yi
     ·have cl_ : decide (v < rd out yi) = true := decide_eq_true cq
      have hp_ : F5 (over v) out x = F5 (over v) out y := by
       rw [hy]
       rw [hyi] at cl_
       show (if over v (rd out (y : Int)) = true then F5 (over v) out y else y + 1) = _
       unfold over
       rw [cl_]
       rfl
      replace HPOS := Aside0.mk (hp_.symm.trans HPOS.out)
      have HY := Aside0.mk hy
      clear hp_ cq hx0 hy hyi
      try go_wp2
      have m_ := Aside0.mk (Ae HB.out)
      clear HB
      have HB := m_
      clear m_
      have m_ := Aside0.mk (Kd.Ba HO.out)
      clear HO
      have HO := m_
      clear m_
      obtain ⟨ado_, eo_, hx2⟩ := Kd.Fv (Kd.R_reads' HO.out).2.2 yi (by have := HYI.out; omega) Yeg_
      cases eo_
      have hx1 := (HB.out.cell (World.block_lt_of_cell? w _ HXL.out)).trans HXL.out
      refine G9 (n := 14) (S := fun w' => w'.cell? (ado_.add yi.toNat) = some (.int .i64 (rd out yi)) ∧ w'.cell? (adl_.add ii.toNat) = some (.int .i64 v)) (ds := []) #[false, false, false, false, false, false, false, false, false, false, false, false, false, false] (by kernel_rfl) rfl rfl ⟨hx2, hx1⟩ (fun hHeld => ?_)
      generalize wr.drew = w21 at HB HO hx2 hx1 hHeld ⊢
      refine Bg (i := 0) (N := some 15) (v := ?_) (a' := ?_) #[true, false, false, false, false, false, false, false, false, false, false, false, false, false] rfl rfl (by kernel_rfl) (fun _ _ _ h => h) (Or.inl ⟨by rfl, ?_⟩) ?_ ?_
      rotate_left
      ·intro w'
       go_simp
       first | done | with_reducible rfl
      rotate_left
      ·simp only [Act.put, List.setIfInBounds_toArray, List.set_cons_zero, List.set_cons_succ, Aj, Ak]
       rfl
      refine Bg (i := 1) (N := some 16) (v := ?_) (a' := ?_) #[true, true, false, false, false, false, false, false, false, false, false, false, false, false] rfl rfl (by kernel_rfl) (fun _ _ _ h => h) (Or.inl ⟨by rfl, ?_⟩) ?_ ?_
      rotate_left
      ·intro w'
       go_simp
       first | done | with_reducible rfl
      rotate_left
      ·simp only [Act.put, List.setIfInBounds_toArray, List.set_cons_zero, List.set_cons_succ, Aj, Ak]
       rfl
      refine Bg (i := 2) (N := some 17) (v := ?_) (a' := ?_) #[true, true, true, false, false, false, false, false, false, false, false, false, false, false] rfl rfl (by kernel_rfl) (fun _ _ _ h => h) (Or.inl ⟨by rfl, ?_⟩) ?_ ?_
      rotate_left
      ·intro w'
       go_simp
       first | done | with_reducible rfl
      rotate_left
      ·simp only [Act.put, List.setIfInBounds_toArray, List.set_cons_zero, List.set_cons_succ, Aj, Ak]
       rfl
      refine Bg (i := 3) (N := some 18) (v := ?_) (a' := ?_) #[true, true, true, true, false, false, false, false, false, false, false, false, false, false] rfl rfl (by kernel_rfl) (fun _ _ _ h => h) (Or.inl ⟨by rfl, ?_⟩) ?_ ?_
      rotate_left
      ·intro w'
       go_simp
       first | done | with_reducible rfl
      rotate_left
      ·simp only [Act.put, List.setIfInBounds_toArray, List.set_cons_zero, List.set_cons_succ, Aj, Ak]
       rfl
      refine Bg (i := 4) (N := some 19) (v := ?_) (a' := ?_) #[true, true, true, true, true, false, false, false, false, false, false, false, false, false] rfl rfl (by kernel_rfl) (fun _ _ _ h => h) (Or.inl ⟨by rfl, ?_⟩) ?_ ?_
      rotate_left
      ·intro w'
       go_simp
       first | done | with_reducible rfl
      rotate_left
      ·simp only [Act.put, List.setIfInBounds_toArray, List.set_cons_zero, List.set_cons_succ, Aj, Ak]
       rfl
      refine Bg (i := 5) (N := some 20) (v := ?_) (a' := ?_) #[true, true, true, true, true, true, false, false, false, false, false, false, false, false] rfl rfl (by kernel_rfl) (fun _ _ _ h => h) (Or.inl ⟨by rfl, ?_⟩) ?_ ?_
      rotate_left
      ·intro w'
       go_simp
       first | done | with_reducible rfl
      rotate_left
      ·simp only [Act.put, List.setIfInBounds_toArray, List.set_cons_zero, List.set_cons_succ, Aj, Ak]
       rfl
      refine Bg (i := 6) (N := some 21) (v := ?_) (a' := ?_) #[true, true, true, true, true, true, true, false, false, false, false, false, false, false] rfl rfl (by kernel_rfl) (fun _ _ _ h => h) (Or.inl ⟨by rfl, ?_⟩) ?_ ?_
      rotate_left
      ·intro w'
       go_simp
       first | done | with_reducible rfl
      rotate_left
      ·simp only [Act.put, List.setIfInBounds_toArray, List.set_cons_zero, List.set_cons_succ, Aj, Ak]
       rfl
      refine Bg (i := 8) (N := some 23) (v := ?_) (a' := ?_) #[true, true, true, true, true, true, true, false, true, false, false, false, false, false] rfl rfl (by kernel_rfl) (fun _ _ _ h => h) (Or.inl ⟨by rfl, ?_⟩) ?_ ?_
      rotate_left
      ·intro w'
       go_simp
       first | done | with_reducible rfl
      rotate_left
      ·simp only [Act.put, List.setIfInBounds_toArray, List.set_cons_zero, List.set_cons_succ, Aj, Ak]
       rfl
      refine Bg (i := 9) (N := some 24) (v := ?_) (a' := ?_) #[true, true, true, true, true, true, true, false, true, true, false, false, false, false] rfl rfl (by kernel_rfl) (fun _ _ _ h => h) (Or.inl ⟨by rfl, ?_⟩) ?_ ?_
      rotate_left
      ·intro w'
       go_simp
       first | done | with_reducible rfl
      rotate_left
      ·simp only [Act.put, List.setIfInBounds_toArray, List.set_cons_zero, List.set_cons_succ, Aj, Ak]
       rfl
      refine Bg (i := 10) (N := some 25) (v := ?_) (a' := ?_) #[true, true, true, true, true, true, true, false, true, true, true, false, false, false] rfl rfl (by kernel_rfl) (fun _ _ _ h => h) (Or.inl ⟨by rfl, ?_⟩) ?_ ?_
      rotate_left
      ·intro w'
       go_simp
       first | done | with_reducible rfl
      rotate_left
      ·simp only [Act.put, List.setIfInBounds_toArray, List.set_cons_zero, List.set_cons_succ, Aj, Ak]
       rfl
      refine Gg (i := 7) (N := some 22) (v := ?_) (a' := ?_) #[true, true, true, true, true, true, true, true, true, true, true, false, false, false] rfl rfl (by kernel_rfl) (fun _ _ _ h => h) (Or.inl ⟨by rfl, ?_⟩) hHeld ?_ ?_
      rotate_left
      ·rintro w' ⟨s0, s1⟩
       go_simp
       first | done | with_reducible rfl
      rotate_left
      ·simp only [Act.put, List.setIfInBounds_toArray, List.set_cons_zero, List.set_cons_succ, Aj, Ak]
       rfl
      refine Gg (i := 11) (N := some 26) (v := ?_) (a' := ?_) #[true, true, true, true, true, true, true, true, true, true, true, true, false, false] rfl rfl (by kernel_rfl) (fun _ _ _ h => h) (Or.inl ⟨by rfl, ?_⟩) hHeld ?_ ?_
      rotate_left
      ·rintro w' ⟨s0, s1⟩
       go_simp
       first | done | with_reducible rfl
      rotate_left
      ·simp only [Act.put, List.setIfInBounds_toArray, List.set_cons_zero, List.set_cons_succ, Aj, Ak]
       rfl
      refine Bg (i := 12) (N := some 27) (v := ?_) (a' := ?_) #[true, true, true, true, true, true, true, true, true, true, true, true, true, false] rfl rfl (by kernel_rfl) (fun _ _ _ h => h) (Or.inl ⟨by rfl, ?_⟩) ?_ ?_
      rotate_left
      ·intro w'
       go_simp
       first | done | with_reducible rfl
      rotate_left
      ·simp only [Act.put, List.setIfInBounds_toArray, List.set_cons_zero, List.set_cons_succ, Aj, Ak]
       rfl
      refine Bg (i := 13) (N := some 28) (v := ?_) (a' := ?_) #[true, true, true, true, true, true, true, true, true, true, true, true, true, true] rfl rfl (by kernel_rfl) (fun _ _ _ h => h) (Or.inl ⟨by rfl, ?_⟩) ?_ ?_
      rotate_left
      ·intro w'
       go_simp
       first | done | with_reducible rfl
      rotate_left
      ·simp only [Act.put, List.setIfInBounds_toArray, List.set_cons_zero, List.set_cons_succ, Aj, Ak]
       rfl
      refine done_ (by kernel_rfl) ?_
      try clear hHeld
      try go_wp2
      repeat (go_quiet (fail); try go_wp2)
      go_roundg y
      case measure => have := HX.out; have := HY.out; omega
      case rel => exact ⟨y, yi, by first | rfl | (rw [hwx_]; done) | (simp [hwx_]; done), HYI, ⟨by have := HX.out; have := HY.out; omega, Nat.le_refl _⟩, HPOS, HO, HB⟩
     ·have cl_ : decide (v < rd out yi) = false := decide_eq_false cq
      have hp_ : F5 (over v) out x = x := by
       rw [hy]
       rw [hyi] at cl_
       show (if over v (rd out (y : Int)) = true then F5 (over v) out y else y + 1) = _
       unfold over
       rw [cl_]
       rfl
      replace HPOS := Aside0.mk (hp_.symm.trans HPOS.out)
      have HY := Aside0.mk hy
      clear hp_ cq hx0 hy hyi
      try go_wp2
      have m_ := Aside0.mk (Ae HB.out)
      clear HB
      have HB := m_
      clear m_
      have m_ := Aside0.mk (Kd.Ba HO.out)
      clear HO
      have HO := m_
      clear m_
      obtain ⟨ado_, eo_, hx2⟩ := Kd.Fv (Kd.R_reads' HO.out).2.2 yi (by have := HYI.out; omega) Yeg_
      cases eo_
      have hx1 := (HB.out.cell (World.block_lt_of_cell? w _ HXL.out)).trans HXL.out
      refine G9 (n := 14) (S := fun w' => w'.cell? (ado_.add yi.toNat) = some (.int .i64 (rd out yi)) ∧ w'.cell? (adl_.add ii.toNat) = some (.int .i64 v)) (ds := []) #[false, false, false, false, false, false, false, false, false, false, false, false, false, false] (by kernel_rfl) rfl rfl ⟨hx2, hx1⟩ (fun hHeld => ?_)
      generalize wr.drew = w22 at HB HO hx2 hx1 hHeld ⊢
      refine Bg (i := 0) (N := some 15) (v := ?_) (a' := ?_) #[true, false, false, false, false, false, false, false, false, false, false, false, false, false] rfl rfl (by kernel_rfl) (fun _ _ _ h => h) (Or.inl ⟨by rfl, ?_⟩) ?_ ?_
      rotate_left
      ·intro w'
       go_simp
       first | done | with_reducible rfl
      rotate_left
      ·simp only [Act.put, List.setIfInBounds_toArray, List.set_cons_zero, List.set_cons_succ, Aj, Ak]
       rfl
      refine Bg (i := 1) (N := some 16) (v := ?_) (a' := ?_) #[true, true, false, false, false, false, false, false, false, false, false, false, false, false] rfl rfl (by kernel_rfl) (fun _ _ _ h => h) (Or.inl ⟨by rfl, ?_⟩) ?_ ?_
      rotate_left
      ·intro w'
       go_simp
       first | done | with_reducible rfl
      rotate_left
      ·simp only [Act.put, List.setIfInBounds_toArray, List.set_cons_zero, List.set_cons_succ, Aj, Ak]
       rfl
      refine Bg (i := 2) (N := some 17) (v := ?_) (a' := ?_) #[true, true, true, false, false, false, false, false, false, false, false, false, false, false] rfl rfl (by kernel_rfl) (fun _ _ _ h => h) (Or.inl ⟨by rfl, ?_⟩) ?_ ?_
      rotate_left
      ·intro w'
       go_simp
       first | done | with_reducible rfl
      rotate_left
      ·simp only [Act.put, List.setIfInBounds_toArray, List.set_cons_zero, List.set_cons_succ, Aj, Ak]
       rfl
      refine Bg (i := 3) (N := some 18) (v := ?_) (a' := ?_) #[true, true, true, true, false, false, false, false, false, false, false, false, false, false] rfl rfl (by kernel_rfl) (fun _ _ _ h => h) (Or.inl ⟨by rfl, ?_⟩) ?_ ?_
      rotate_left
      ·intro w'
       go_simp
       first | done | with_reducible rfl
      rotate_left
      ·simp only [Act.put, List.setIfInBounds_toArray, List.set_cons_zero, List.set_cons_succ, Aj, Ak]
       rfl
      refine Bg (i := 4) (N := some 19) (v := ?_) (a' := ?_) #[true, true, true, true, true, false, false, false, false, false, false, false, false, false] rfl rfl (by kernel_rfl) (fun _ _ _ h => h) (Or.inl ⟨by rfl, ?_⟩) ?_ ?_
      rotate_left
      ·intro w'
       go_simp
       first | done | with_reducible rfl
      rotate_left
      ·simp only [Act.put, List.setIfInBounds_toArray, List.set_cons_zero, List.set_cons_succ, Aj, Ak]
       rfl
      refine Bg (i := 5) (N := some 20) (v := ?_) (a' := ?_) #[true, true, true, true, true, true, false, false, false, false, false, false, false, false] rfl rfl (by kernel_rfl) (fun _ _ _ h => h) (Or.inl ⟨by rfl, ?_⟩) ?_ ?_
      rotate_left
      ·intro w'
       go_simp
       first | done | with_reducible rfl
      rotate_left
      ·simp only [Act.put, List.setIfInBounds_toArray, List.set_cons_zero, List.set_cons_succ, Aj, Ak]
       rfl
      refine Bg (i := 6) (N := some 21) (v := ?_) (a' := ?_) #[true, true, true, true, true, true, true, false, false, false, false, false, false, false] rfl rfl (by kernel_rfl) (fun _ _ _ h => h) (Or.inl ⟨by rfl, ?_⟩) ?_ ?_
      rotate_left
      ·intro w'
       go_simp
       first | done | with_reducible rfl
      rotate_left
      ·simp only [Act.put, List.setIfInBounds_toArray, List.set_cons_zero, List.set_cons_succ, Aj, Ak]
       rfl
      refine Bg (i := 8) (N := some 23) (v := ?_) (a' := ?_) #[true, true, true, true, true, true, true, false, true, false, false, false, false, false] rfl rfl (by kernel_rfl) (fun _ _ _ h => h) (Or.inl ⟨by rfl, ?_⟩) ?_ ?_
      rotate_left
      ·intro w'
       go_simp
       first | done | with_reducible rfl
      rotate_left
      ·simp only [Act.put, List.setIfInBounds_toArray, List.set_cons_zero, List.set_cons_succ, Aj, Ak]
       rfl
      refine Bg (i := 9) (N := some 24) (v := ?_) (a' := ?_) #[true, true, true, true, true, true, true, false, true, true, false, false, false, false] rfl rfl (by kernel_rfl) (fun _ _ _ h => h) (Or.inl ⟨by rfl, ?_⟩) ?_ ?_
      rotate_left
      ·intro w'
       go_simp
       first | done | with_reducible rfl
      rotate_left
      ·simp only [Act.put, List.setIfInBounds_toArray, List.set_cons_zero, List.set_cons_succ, Aj, Ak]
       rfl
      refine Bg (i := 10) (N := some 25) (v := ?_) (a' := ?_) #[true, true, true, true, true, true, true, false, true, true, true, false, false, false] rfl rfl (by kernel_rfl) (fun _ _ _ h => h) (Or.inl ⟨by rfl, ?_⟩) ?_ ?_
      rotate_left
      ·intro w'
       go_simp
       first | done | with_reducible rfl
      rotate_left
      ·simp only [Act.put, List.setIfInBounds_toArray, List.set_cons_zero, List.set_cons_succ, Aj, Ak]
       rfl
      refine Gg (i := 7) (N := some 22) (v := ?_) (a' := ?_) #[true, true, true, true, true, true, true, true, true, true, true, false, false, false] rfl rfl (by kernel_rfl) (fun _ _ _ h => h) (Or.inl ⟨by rfl, ?_⟩) hHeld ?_ ?_
      rotate_left
      ·rintro w' ⟨s0, s1⟩
       go_simp
       first | done | with_reducible rfl
      rotate_left
      ·simp only [Act.put, List.setIfInBounds_toArray, List.set_cons_zero, List.set_cons_succ, Aj, Ak]
       rfl
      refine Gg (i := 11) (N := some 26) (v := ?_) (a' := ?_) #[true, true, true, true, true, true, true, true, true, true, true, true, false, false] rfl rfl (by kernel_rfl) (fun _ _ _ h => h) (Or.inl ⟨by rfl, ?_⟩) hHeld ?_ ?_
      rotate_left
      ·rintro w' ⟨s0, s1⟩
       go_simp
       first | done | with_reducible rfl
      rotate_left
      ·simp only [Act.put, List.setIfInBounds_toArray, List.set_cons_zero, List.set_cons_succ, Aj, Ak]
       rfl
      refine Bg (i := 12) (N := some 27) (v := ?_) (a' := ?_) #[true, true, true, true, true, true, true, true, true, true, true, true, true, false] rfl rfl (by kernel_rfl) (fun _ _ _ h => h) (Or.inl ⟨by rfl, ?_⟩) ?_ ?_
      rotate_left
      ·intro w'
       go_simp
       first | done | with_reducible rfl
      rotate_left
      ·simp only [Act.put, List.setIfInBounds_toArray, List.set_cons_zero, List.set_cons_succ, Aj, Ak]
       rfl
      refine Bg (i := 13) (N := some 28) (v := ?_) (a' := ?_) #[true, true, true, true, true, true, true, true, true, true, true, true, true, true] rfl rfl (by kernel_rfl) (fun _ _ _ h => h) (Or.inl ⟨by rfl, ?_⟩) ?_ ?_
      rotate_left
      ·intro w'
       go_simp
       first | done | with_reducible rfl
      rotate_left
      ·simp only [Act.put, List.setIfInBounds_toArray, List.set_cons_zero, List.set_cons_succ, Aj, Ak]
       rfl
      refine done_ (by kernel_rfl) ?_
      try clear hHeld
      have HP := Aside0.mk (show x ≤ out.length from HX.out.1)
      try go_wp2
      have m_ := Aside0.mk (Ae HB.out)
      clear HB
      have HB := m_
      clear m_
      have m_ := Aside0.mk (Kd.Ba HO.out)
      clear HO
      have HO := m_
      clear m_
      have hx1 := (HB.out.cell (World.block_lt_of_cell? w _ HXL.out)).trans HXL.out
      obtain ⟨i0_, hi0_, _, hsz0_, _⟩ := info_parts info3
      have HCo := Aside0.mk (Kd.R_reads' HO.out).2.1
      have hcut1 := cut_to (P := Try.prog) 53 3 .i64 Try.underlying53 hi0_ (some ado_) out.length co xi (by have := HXI.out; omega) Ydb_ HCo.out
      have hcut2 := cut_from (P := Try.prog) 53 3 .i64 Try.underlying53 hi0_ 1 hsz0_ (some ado_) out.length co xi (by have := HXI.out; omega) Ydb_
      have hxt_ : xi.toNat = x := by rw [HXI.out]; rfl
      simp only [hxt_, Nat.mul_one] at hcut1 hcut2
      clear hxt_
      obtain ⟨Ac_, hAc_⟩ : ∃ A_ : Option Addr, (if co = x then some ado_ else some (ado_.add x)) = A_ := ⟨_, rfl⟩
      first | rw [hAc_] at hcut2 | simp only [hAc_, Option.map_some] at hcut2
      have HAc := Aside0.mk hAc_
      clear hAc_
      refine G9 (n := 16) (S := fun w' => w'.cell? (adl_.add ii.toNat) = some (.int .i64 v)) (ds := []) #[false, false, false, false, false, false, false, false, false, false, false, false, false, false, false, false] (by kernel_rfl) rfl rfl (hx1) (fun hHeld => ?_)
      generalize w22.drew = W0_ at HB HO hx1 hHeld ⊢
      have HRo := Aside0.mk (Kd.R_reads' HO.out).2.2
      have HB2 := Aside0.mk (Below.refl W0_.heap.size W0_)
      clear HO
      refine Bg (i := 1) (N := some 32) (v := ?_) (a' := ?_) #[false, true, false, false, false, false, false, false, false, false, false, false, false, false, false, false] rfl rfl (by kernel_rfl) (fun _ _ _ h => h) (Or.inl ⟨by rfl, ?_⟩) ?_ ?_
      rotate_left
      ·intro w'
       go_simp
       first | done | with_reducible rfl
      rotate_left
      ·simp only [Act.put, List.setIfInBounds_toArray, List.set_cons_zero, List.set_cons_succ, Aj, Ak]
       rfl
      refine Bg (i := 2) (N := some 33) (v := ?_) (a' := ?_) #[false, true, true, false, false, false, false, false, false, false, false, false, false, false, false, false] rfl rfl (by kernel_rfl) (fun _ _ _ h => h) (Or.inl ⟨by rfl, ?_⟩) ?_ ?_
      rotate_left
      ·intro w'
       go_simp
       first | done | with_reducible rfl
      rotate_left
      ·simp only [Act.put, List.setIfInBounds_toArray, List.set_cons_zero, List.set_cons_succ, Aj, Ak]
       rfl
      refine Bg (i := 3) (N := some 34) (v := ?_) (a' := ?_) #[false, true, true, true, false, false, false, false, false, false, false, false, false, false, false, false] rfl rfl (by kernel_rfl) (fun _ _ _ h => h) (Or.inl ⟨by rfl, ?_⟩) ?_ ?_
      rotate_left
      ·intro w'
       go_simp
       first | done | with_reducible rfl
      rotate_left
      ·simp only [Act.put, List.setIfInBounds_toArray, List.set_cons_zero, List.set_cons_succ, Aj, Ak]
       rfl
      refine Bg (i := 5) (N := some 36) (v := ?_) (a' := ?_) #[false, true, true, true, false, true, false, false, false, false, false, false, false, false, false, false] rfl rfl (by kernel_rfl) (fun _ _ _ h => h) (Or.inl ⟨by rfl, ?_⟩) ?_ ?_
      rotate_left
      ·intro w'
       go_simp
       first | done | with_reducible rfl
      rotate_left
      ·simp only [Act.put, List.setIfInBounds_toArray, List.set_cons_zero, List.set_cons_succ, Aj, Ak]
       rfl
      refine Bg (i := 6) (N := some 37) (v := ?_) (a' := ?_) #[false, true, true, true, false, true, true, false, false, false, false, false, false, false, false, false] rfl rfl (by kernel_rfl) (fun _ _ _ h => h) (Or.inl ⟨by rfl, ?_⟩) ?_ ?_
      rotate_left
      ·intro w'
       go_simp
       first | done | with_reducible rfl
      rotate_left
      ·simp only [Act.put, List.setIfInBounds_toArray, List.set_cons_zero, List.set_cons_succ, Aj, Ak]
       rfl
      refine Bg (i := 7) (N := some 38) (v := ?_) (a' := ?_) #[false, true, true, true, false, true, true, true, false, false, false, false, false, false, false, false] rfl rfl (by kernel_rfl) (fun _ _ _ h => h) (Or.inl ⟨by rfl, ?_⟩) ?_ ?_
      rotate_left
      ·intro w'
       go_simp
       first | done | with_reducible rfl
      rotate_left
      ·simp only [Act.put, List.setIfInBounds_toArray, List.set_cons_zero, List.set_cons_succ, Aj, Ak]
       rfl
      refine Bg (i := 11) (N := some 42) (v := ?_) (a' := ?_) #[false, true, true, true, false, true, true, true, false, false, false, true, false, false, false, false] rfl rfl (by kernel_rfl) (fun _ _ _ h => h) (Or.inl ⟨by rfl, ?_⟩) ?_ ?_
      rotate_left
      ·intro w'
       go_simp
       first | done | with_reducible rfl
      rotate_left
      ·simp only [Act.put, List.setIfInBounds_toArray, List.set_cons_zero, List.set_cons_succ, Aj, Ak]
       rfl
      refine Bg (i := 12) (N := some 43) (v := ?_) (a' := ?_) #[false, true, true, true, false, true, true, true, false, false, false, true, true, false, false, false] rfl rfl (by kernel_rfl) (fun _ _ _ h => h) (Or.inl ⟨by rfl, ?_⟩) ?_ ?_
      rotate_left
      ·intro w'
       go_simp
       first | done | with_reducible rfl
      rotate_left
      ·simp only [Act.put, List.setIfInBounds_toArray, List.set_cons_zero, List.set_cons_succ, Aj, Ak]
       rfl
      refine Bg (i := 13) (N := some 44) (v := ?_) (a' := ?_) #[false, true, true, true, false, true, true, true, false, false, false, true, true, true, false, false] rfl rfl (by kernel_rfl) (fun _ _ _ h => h) (Or.inl ⟨by rfl, ?_⟩) ?_ ?_
      rotate_left
      ·intro w'
       go_simp
       first | done | with_reducible rfl
      rotate_left
      ·simp only [Act.put, List.setIfInBounds_toArray, List.set_cons_zero, List.set_cons_succ, Aj, Ak]
       rfl
      refine Gg (i := 8) (N := some 39) (v := ?_) (a' := ?_) #[false, true, true, true, false, true, true, true, true, false, false, true, true, true, false, false] rfl rfl (by kernel_rfl) (fun _ _ _ h => h) (Or.inl ⟨by rfl, ?_⟩) hHeld ?_ ?_
      rotate_left
      ·intro w' s0
       go_simp
       first | done | with_reducible rfl
      rotate_left
      ·simp only [Act.put, List.setIfInBounds_toArray, List.set_cons_zero, List.set_cons_succ, Aj, Ak]
       rfl
      refine join_ (σ := Value × Value × Option Addr × Nat) 3 #[true, true, true, true, true, true, true, true, true, true, false, true, true, true, false, false] (fun s => match s with | ⟨v31, v35, A40, c40⟩ => [(31, v31), (35, v35), (40, .slice A40 ([v] : List Int).length c40)]) (fun s w' => match s with | ⟨v31, v35, A40, c40⟩ => Aside0 (Kd.R (Kd.int .i64) 3 w' W0_.heap.size (fun _ => True) v35 (out.take x)) ∧ Aside0 (Kd.R (Kd.int .i64) 3 w' W0_.heap.size (fun _ => True) (.slice A40 ([v] : List Int).length c40) [v]) ∧ Aside0 (Below W0_.heap.size W0_ w')) ?_ ?_
      rotate_left
      ·intro hCont
       refine two_ (i := 0) (j := 9) (Ni := some 31) (Nj := some 40) #[true, true, true, true, false, true, true, true, true, false, false, true, true, true, false, false] #[false, true, true, true, false, true, true, true, true, true, false, true, true, true, false, false] rfl rfl rfl rfl (by kernel_rfl) (by decide) (by decide) (fun K hK => ?_) (fun K hK => ?_)
       ·skip
        refine Kd.Fz (Kd.int .i64) W0_.heap.size 3 ?hg (N := 31) ?hd (xs := ([] : List Int)) (inner := []) (ok := fun _ => True) (okp := fun _ => True) ?hr ?hp (fun _ hk => hk) trivial HB2.out (below_size HB2.out) (by simp) ?_; (case hd => rfl); (case hg => rfl); (case hr => first | (go_simp; done) | (go_simp; rfl)); (case hp => exact (Dw.none _ _))
        intro v31 W1_ ho hb hg_ hnew_
        have HN := Aside0.mk ho
        clear HB2
        have HB2 := Aside0.mk hb
        clear hb hg_ hnew_ ho
        refine hK.out _ _ ((HB2.out.cell (World.block_lt_of_cell? _ _ hx1)).trans hx1) (fun hHeld => ?_)
        clear hK K
        refine En (a' := ?_) ?_ ?_
        rotate_left
        ·show Act.put _ (some 31) _ = _
         simp only [Act.put, List.setIfInBounds_toArray, List.set_cons_zero, List.set_cons_succ, Aj, Ak]
         rfl
        refine two_ (i := 4) (j := 9) (Ni := some 35) (Nj := some 40) #[true, true, true, true, true, true, true, true, true, false, false, true, true, true, false, false] #[true, true, true, true, false, true, true, true, true, true, false, true, true, true, false, false] rfl rfl rfl rfl (by kernel_rfl) (by decide) (by decide) (fun K hK => ?_) (fun K hK => ?_)
        ·skip
         refine Kd.Ei (Kd.int .i64) (w0 := W0_) W0_.heap.size (by rfl) (.tmp 31) (.tmp 34) 53 3 (.int .i64 0) 8 rfl Try.underlying53 info3 rfl (by decide) (by omega) v31 [] (out.take x) (some ado_) x co (fun _ => True) (fun _ => False) rfl rfl HN.out Ybd_ (fun _ _ h => h) (fun _ h => h.elim) (fun _ _ => trivial) HB2.out (below_size HB2.out) Yh_ ?_
         intro v35 W2_ ho hb hg_ hat_
         rw [List.nil_append] at ho
         clear HN
         have HN := Aside0.mk ho
         clear HB2
         have HB2 := Aside0.mk hb
         clear hb hg_ hat_ ho
         refine hK.out _ _ ((HB2.out.cell (World.block_lt_of_cell? _ _ hx1)).trans hx1) (fun hHeld => ?_)
         clear hK K
         refine En (a' := ?_) ?_ ?_
         rotate_left
         ·show Act.put _ (some 35) _ = _
          simp only [Act.put, List.setIfInBounds_toArray, List.set_cons_zero, List.set_cons_succ, Aj, Ak]
          rfl
         refine one_ (i := 9) (N := some 40) #[true, true, true, true, true, true, true, true, true, true, false, true, true, true, false, false] rfl rfl (by kernel_rfl) (by decide) (fun K hK => ?_)
         refine Kd.Fz (Kd.int .i64) W0_.heap.size 3 ?hg (N := 40) ?hd (xs := ([v] : List Int)) (inner := [.int .i64 v]) (ok := fun _ => True) (okp := fun _ => True) ?hr ?hp (fun _ hk => hk) trivial HB2.out (below_size HB2.out) (by simp) ?_; (case hd => rfl); (case hg => rfl); (case hr => first | (go_simp; done) | (go_simp; rfl)); (case hp => exact (Dw.one (show Kd.M (Kd.int .i64) _ _ _ v [.int .i64 v] from rfl) (Dw.none _ _)))
         intro v40_ W3_ ho hb hg_ hnew_
         obtain ⟨A40, c40, e40_⟩ := Kd.R_slice ho
         subst e40_
         have HL := Aside0.mk ho
         have m_ := Aside0.mk (Kd.Ht HN.out hg_ (fun _ _ h_ => nomatch h_))
         clear HN
         have HN := m_
         clear m_
         clear HB2
         have HB2 := Aside0.mk hb
         clear hb hg_ hnew_ ho
         refine hK.out _ _ ((HB2.out.cell (World.block_lt_of_cell? _ _ hx1)).trans hx1) (fun hHeld => ?_)
         clear hK K
         refine En (a' := ?_) ?_ ?_
         rotate_left
         ·show Act.put _ (some 40) _ = _
          simp only [Act.put, List.setIfInBounds_toArray, List.set_cons_zero, List.set_cons_succ, Aj, Ak]
          rfl
         exact En Ybg_ (hCont (v31, v35, A40, c40) _ ⟨HN, HL, HB2⟩)
        ·skip
         refine Kd.Fz (Kd.int .i64) W0_.heap.size 3 ?hg (N := 40) ?hd (xs := ([v] : List Int)) (inner := [.int .i64 v]) (ok := fun _ => True) (okp := fun _ => True) ?hr ?hp (fun _ hk => hk) trivial HB2.out (below_size HB2.out) (by simp) ?_; (case hd => rfl); (case hg => rfl); (case hr => first | (go_simp; done) | (go_simp; rfl)); (case hp => exact (Dw.one (show Kd.M (Kd.int .i64) _ _ _ v [.int .i64 v] from rfl) (Dw.none _ _)))
         intro v40_ W2_ ho hb hg_ hnew_
         obtain ⟨A40, c40, e40_⟩ := Kd.R_slice ho
         subst e40_
         have HL := Aside0.mk ho
         have NE_ := Aside0.mk (show v31.ownBlock ≠ (Value.slice A40 ([v] : List Int).length c40).ownBlock by obtain ⟨b_, hb1_, hb2_⟩ := hnew_; intro e_; rw [hb1_] at e_; have := Kd.R_lt HN.out b_ e_; omega)
         have m_ := Aside0.mk (Kd.Ht HN.out hg_ (fun _ _ h_ => nomatch h_))
         clear HN
         have HN := m_
         clear m_
         clear HB2
         have HB2 := Aside0.mk hb
         clear hb hg_ hnew_ ho
         refine hK.out _ _ ((HB2.out.cell (World.block_lt_of_cell? _ _ hx1)).trans hx1) (fun hHeld => ?_)
         clear hK K
         refine En (a' := ?_) ?_ ?_
         rotate_left
         ·show Act.put _ (some 40) _ = _
          simp only [Act.put, List.setIfInBounds_toArray, List.set_cons_zero, List.set_cons_succ, Aj, Ak]
          rfl
         refine one_ (i := 4) (N := some 35) #[true, true, true, true, true, true, true, true, true, true, false, true, true, true, false, false] rfl rfl (by kernel_rfl) (by decide) (fun K hK => ?_)
         refine Kd.Ei (Kd.int .i64) (w0 := W0_) W0_.heap.size (by rfl) (.tmp 31) (.tmp 34) 53 3 (.int .i64 0) 8 rfl Try.underlying53 info3 rfl (by decide) (by omega) v31 [] (out.take x) (some ado_) x co (fun _ => True) (fun _ => False) rfl rfl HN.out Ybd_ (fun _ _ h => h) (fun _ h => h.elim) (fun _ _ => trivial) HB2.out (below_size HB2.out) Yh_ ?_
         intro v35 W3_ ho hb hg_ hat_
         rw [List.nil_append] at ho
         have m_ := Aside0.mk (Kd.Ic HL.out rfl hg_ NE_.out)
         clear HL
         have HL := m_
         clear m_
         clear NE_
         clear HN
         have HN := Aside0.mk ho
         clear HB2
         have HB2 := Aside0.mk hb
         clear hb hg_ hat_ ho
         refine hK.out _ _ ((HB2.out.cell (World.block_lt_of_cell? _ _ hx1)).trans hx1) (fun hHeld => ?_)
         clear hK K
         refine En (a' := ?_) ?_ ?_
         rotate_left
         ·show Act.put _ (some 35) _ = _
          simp only [Act.put, List.setIfInBounds_toArray, List.set_cons_zero, List.set_cons_succ, Aj, Ak]
          rfl
         exact En Ybg_ (hCont (v31, v35, A40, c40) _ ⟨HN, HL, HB2⟩)
       ·skip
        refine Kd.Fz (Kd.int .i64) W0_.heap.size 3 ?hg (N := 40) ?hd (xs := ([v] : List Int)) (inner := [.int .i64 v]) (ok := fun _ => True) (okp := fun _ => True) ?hr ?hp (fun _ hk => hk) trivial HB2.out (below_size HB2.out) (by simp) ?_; (case hd => rfl); (case hg => rfl); (case hr => first | (go_simp; done) | (go_simp; rfl)); (case hp => exact (Dw.one (show Kd.M (Kd.int .i64) _ _ _ v [.int .i64 v] from rfl) (Dw.none _ _)))
        intro v40_ W1_ ho hb hg_ hnew_
        obtain ⟨A40, c40, e40_⟩ := Kd.R_slice ho
        subst e40_
        have HL := Aside0.mk ho
        clear HB2
        have HB2 := Aside0.mk hb
        clear hb hg_ hnew_ ho
        refine hK.out _ _ ((HB2.out.cell (World.block_lt_of_cell? _ _ hx1)).trans hx1) (fun hHeld => ?_)
        clear hK K
        refine En (a' := ?_) ?_ ?_
        rotate_left
        ·show Act.put _ (some 40) _ = _
         simp only [Act.put, List.setIfInBounds_toArray, List.set_cons_zero, List.set_cons_succ, Aj, Ak]
         rfl
        refine one_ (i := 0) (N := some 31) #[true, true, true, true, false, true, true, true, true, true, false, true, true, true, false, false] rfl rfl (by kernel_rfl) (by decide) (fun K hK => ?_)
        refine Kd.Fz (Kd.int .i64) W0_.heap.size 3 ?hg (N := 31) ?hd (xs := ([] : List Int)) (inner := []) (ok := fun _ => True) (okp := fun _ => True) ?hr ?hp (fun _ hk => hk) trivial HB2.out (below_size HB2.out) (by simp) ?_; (case hd => rfl); (case hg => rfl); (case hr => first | (go_simp; done) | (go_simp; rfl)); (case hp => exact (Dw.none _ _))
        intro v31 W2_ ho hb hg_ hnew_
        have HN := Aside0.mk ho
        have NE_ := Aside0.mk (show v31.ownBlock ≠ (Value.slice A40 ([v] : List Int).length c40).ownBlock by obtain ⟨b_, hb1_, hb2_⟩ := hnew_; intro e_; rw [hb1_] at e_; have := Kd.R_lt HL.out b_ e_.symm; omega)
        have m_ := Aside0.mk (Kd.Ht HL.out hg_ (fun _ _ h_ => nomatch h_))
        clear HL
        have HL := m_
        clear m_
        clear HB2
        have HB2 := Aside0.mk hb
        clear hb hg_ hnew_ ho
        refine hK.out _ _ ((HB2.out.cell (World.block_lt_of_cell? _ _ hx1)).trans hx1) (fun hHeld => ?_)
        clear hK K
        refine En (a' := ?_) ?_ ?_
        rotate_left
        ·show Act.put _ (some 31) _ = _
         simp only [Act.put, List.setIfInBounds_toArray, List.set_cons_zero, List.set_cons_succ, Aj, Ak]
         rfl
        refine one_ (i := 4) (N := some 35) #[true, true, true, true, true, true, true, true, true, true, false, true, true, true, false, false] rfl rfl (by kernel_rfl) (by decide) (fun K hK => ?_)
        refine Kd.Ei (Kd.int .i64) (w0 := W0_) W0_.heap.size (by rfl) (.tmp 31) (.tmp 34) 53 3 (.int .i64 0) 8 rfl Try.underlying53 info3 rfl (by decide) (by omega) v31 [] (out.take x) (some ado_) x co (fun _ => True) (fun _ => False) rfl rfl HN.out Ybd_ (fun _ _ h => h) (fun _ h => h.elim) (fun _ _ => trivial) HB2.out (below_size HB2.out) Yh_ ?_
        intro v35 W3_ ho hb hg_ hat_
        rw [List.nil_append] at ho
        have m_ := Aside0.mk (Kd.Ic HL.out rfl hg_ NE_.out)
        clear HL
        have HL := m_
        clear m_
        clear NE_
        clear HN
        have HN := Aside0.mk ho
        clear HB2
        have HB2 := Aside0.mk hb
        clear hb hg_ hat_ ho
        refine hK.out _ _ ((HB2.out.cell (World.block_lt_of_cell? _ _ hx1)).trans hx1) (fun hHeld => ?_)
        clear hK K
        refine En (a' := ?_) ?_ ?_
        rotate_left
        ·show Act.put _ (some 35) _ = _
         simp only [Act.put, List.setIfInBounds_toArray, List.set_cons_zero, List.set_cons_succ, Aj, Ak]
         rfl
        exact En Ybg_ (hCont (v31, v35, A40, c40) _ ⟨HN, HL, HB2⟩)
      clear HB2
      rintro ⟨v31, v35, A40, c40⟩ W4_ ⟨HN, HL, HB2⟩
      have hHeld : (fun w' => w'.cell? (adl_.add ii.toNat) = some (.int .i64 v)) W4_ := (HB2.out.cell (World.block_lt_of_cell? _ _ hx1)).trans hx1
      refine En (a' := ?_) ?_ ?_
      rotate_left
      ·simp only [Gz, Act.put, List.setIfInBounds_toArray, List.set_cons_zero, List.set_cons_succ]
       rfl
      refine one_ (i := 10) (N := some 41) #[true, true, true, true, true, true, true, true, true, true, true, true, true, true, false, false] rfl rfl (by kernel_rfl) (by decide) (fun K hK => ?_)
      refine Kd.Ei (Kd.int .i64) (w0 := W0_) W0_.heap.size (by rfl) (.tmp 35) (.tmp 40) 53 3 (.int .i64 0) 8 rfl Try.underlying53 info3 rfl (by decide) (by omega) v35 (out.take x) [v] A40 ([v] : List Int).length c40 (fun _ => True) (fun _ => False) rfl rfl HN.out ((Kd.R_reads' HL.out).2.2) (fun _ _ h => h) (fun _ h => h.elim) (fun _ _ => trivial) HB2.out (below_size HB2.out) Yh_ ?_
      intro v41 W5_ ho hb hg_ hat_
      clear HN HL
      have HN := Aside0.mk ho
      clear HB2
      have HB2 := Aside0.mk hb
      clear hb hg_ hat_ ho
      refine hK.out _ _ ((HB2.out.cell (World.block_lt_of_cell? _ _ hx1)).trans hx1) (fun hHeld => ?_)
      clear hK K
      refine En (a' := ?_) ?_ ?_
      rotate_left
      ·show Act.put _ (some 41) _ = _
       simp only [Act.put, List.setIfInBounds_toArray, List.set_cons_zero, List.set_cons_succ, Aj, Ak]
       rfl
      refine one_ (i := 14) (N := some 45) #[true, true, true, true, true, true, true, true, true, true, true, true, true, true, true, false] rfl rfl (by kernel_rfl) (by decide) (fun K hK => ?_)
      refine Kd.Ei (Kd.int .i64) (w0 := W0_) W0_.heap.size (by rfl) (.tmp 41) (.tmp 44) 53 3 (.int .i64 0) 8 rfl Try.underlying53 info3 rfl (by decide) (by omega) v41 (out.take x ++ [v]) (out.drop x) Ac_ (out.length - x) (co - x) (fun _ => True) (fun _ => False) rfl rfl HN.out Ycb_ (fun _ _ h => h) (fun _ h => h.elim) (fun _ _ => trivial) HB2.out (below_size HB2.out) Yh_ ?_
      intro v45 W6_ ho hb hg_ hat_
      clear HN
      have HN := Aside0.mk ho
      clear HB2
      have HB2 := Aside0.mk hb
      clear hb hg_ hat_ ho
      refine hK.out _ _ ((HB2.out.cell (World.block_lt_of_cell? _ _ hx1)).trans hx1) (fun hHeld => ?_)
      clear hK K
      refine En (a' := ?_) ?_ ?_
      rotate_left
      ·show Act.put _ (some 45) _ = _
       simp only [Act.put, List.setIfInBounds_toArray, List.set_cons_zero, List.set_cons_succ, Aj, Ak]
       rfl
      refine Bg (i := 15) (N := some 3) (v := ?_) (a' := ?_) #[true, true, true, true, true, true, true, true, true, true, true, true, true, true, true, true] rfl rfl (by kernel_rfl) (fun _ _ _ h => h) (Or.inl ⟨by rfl, ?_⟩) ?_ ?_
      rotate_left
      ·intro w'
       go_simp
       first | done | with_reducible rfl
      rotate_left
      ·simp only [Act.put, List.setIfInBounds_toArray, List.set_cons_zero, List.set_cons_succ, Aj, Ak]
       rfl
      refine done_ (by kernel_rfl) ?_
      have HO := Aside0.mk (Kd.R_lower HN.out (below_size HB.out))
      have m_ := Aside0.mk (below_step HB.out HB2.out)
      clear HB HN HB2 HRo hcut1 hcut2 hi0_ hsz0_
      have HB := m_
      clear m_
      have HO2 := Aside0.mk (show Kd.R (Kd.int .i64) 3 W6_ w.heap.size (fun _ => True) v45 (G5 (l0.take (i + 1))) from by rw [HNX.out]; unfold Gj; rw [← HPOS.out]; exact HO.out)
      try go_wp2
      repeat (go_quiet (fail); try go_wp2)
      go_roundg (l0.length - (i + 1))
      case measure => have := HI.out; have := HCI.out; omega
      case rel => exact ⟨i + 1, _, rfl, HWI, ⟨by have := HCI.out; omega, by have := HI.out; omega⟩, HO2, HB⟩
  ·have cb0 : decide (ii < (l0.length : Int)) = false := decide_eq_false (by have := HII.out; omega)
   have e_ : i = l0.length := by have := HI.out; omega
   go_wp2
   repeat (go_quiet (fail); try go_wp2)
   go_ret
   exact ⟨_, by first | rfl | (simp; done), by rw [e_, List.take_length] at HO; exact HO.out, HB.out⟩
end Go.Proofs.Ytolaplcjbmjlmaa.X

namespace Go.Proofs.Ytolaplcjbmjlmaa.X
open Go.RowKit Go.Proofs.YtolaplcjbmjlmaaW.PrintWords Go.Proofs.YtolaplcjbmjlmaaW.PrintLast Go.Proofs.YtolaplcjbmjlmaaW.PrintMore
attribute [local go_sem] max2_int min2_int max_two min_two max_three min_three max_four min_four
theorem putIn_mem {f : Int → Bool} {v j : Int} {out : List Int} (h : j ∈ Gj f v out) : j = v ∨ j ∈ out := by
 unfold Gj at h
 simp only [List.mem_append, List.mem_singleton] at h
 rcases h with (h | h) | h
 ·exact .inr (List.mem_of_mem_take h)
 ·exact .inl h
 ·exact .inr (List.mem_of_mem_drop h)
def G6 (all : List Int) (i j : Int) : Bool := decide (rd all j < rd all i)
def Hl (all : List Int) (h : Int) : Nat → List Int
 | 0 => []
 | i + 1 => if rd all (i : Int) ≤ h then Hl all h i else Gj (G6 all (i : Int)) (i : Int) (Hl all h i)
theorem longL_length (all : List Int) (h : Int) : ∀ i, (Hl all h i).length ≤ i
 | 0 => Nat.le_refl _
 | i + 1 => by
  have := longL_length all h i
  unfold Hl
  split
  ·omega
  ·rw [Ig]; omega
theorem longL_mem (all : List Int) (h : Int) : ∀ i : Nat, ∀ j ∈ Hl all h i, 0 ≤ j ∧ j < (i : Int)
 | 0 => fun j hj => by cases hj
 | i + 1 => fun j hj => by
  have ih := longL_mem all h i
  unfold Hl at hj
  split at hj
  ·have := ih j hj; omega
  ·rcases putIn_mem hj with rfl | hj
   ·omega
   ·have := ih j hj; omega
theorem rd_mem {l : List Int} {x : Nat} (h : x < l.length) : rd l (x : Int) ∈ l := by
 have : rd l (x : Int) = l[x] := by simp [rd, List.getD_eq_getElem?_getD, List.getElem?_eq_getElem h]
 rw [this]
 exact List.getElem_mem h
def Ef.f (k : Nat) (l0 : List S59) (a1 : Int) : Option (List Int × Bool) := (Aq.f k l0).bind fun g => if g = true then ((Eg.f a1 0 240).bind fun z => if z = true then ((Cj.f k l0).bind fun all => if all.length ≤ 1048576 then some (Hl all a1 all.length, true) else none) else some ([], false)) else some ([], false)
theorem Ef.mono (l0 : List S59) (a1 : Int) (k : Nat) : LeO (Ef.f k l0 a1) (Ef.f (k + 1) l0 a1) := by
 unfold Ef.f
 refine LeO.bind (Aq.mono _ _) (fun _ => LeO.ite ?_ (LeO.refl _))
 refine LeO.bind (LeO.refl _) (fun _ => LeO.ite ?_ (LeO.refl _))
 exact LeO.bind (Cj.mono _ _) (fun _ => LeO.refl _)
set_option maxHeartbeats 8000000 in
set_option maxRecDepth 100000 in
theorem Ef.calls (k : Nat) (A0 : Option Addr) (c0 : Nat) (l0 : List S59) (a1 : Int) (r1 : List Int) (r2 : Bool) (w : World) (hr0 : Kd.C k59 w A0 l0.length l0) (hc0 : l0.length ≤ c0) (h : Ef.f k l0 a1 = some (r1, r2)) :
  Calls Try.prog 40 #[.slice A0 l0.length c0, .int .i64 a1] w fun e w' => ∃ v0_ : Value, e = .returned (.tuple #[v0_, .bool r2]) ∧ Kd.R (Kd.int .i64) 3 w' w.heap.size (fun _ => True) v0_ r1 ∧ Below w.heap.size w w' := by
 have HR0 := Aside0.mk hr0
 have HC0 := Aside0.mk hc0
 clear hr0 hc0
 have HB := Aside0.mk (Below.refl w.heap.size w)
 unfold Ef.f at h
 replace h := Option.bind_eq_some_iff.mp h
 obtain ⟨g, a_, h⟩ := h
 have A1 := Aside0.mk a_
 clear a_
 cases g with
 | false =>
  rw [if_neg (by decide)] at h
  simp only [Option.some.injEq, Prod.mk.injEq] at h
  obtain ⟨rfl, rfl⟩ := h
  go_enter Try.func40, Try.ntmps40
  go_wp2_with (first | ((with_reducible refine gate_dst (N := 10) rfl ?_); refine Kd.R_lit (Kd.int .i64) _ 3 ?hg (N := 10) ?hd (xs := ([] : List Int)) (inner := []) (ok := fun _ => True) (okp := fun _ => True) ?hr ?hp (fun _ hk => hk) trivial HB.out (Nat.le_refl _) (by simp) ?_; (case hd => rfl); (case hg => rfl); (case hr => first | (go_simp; done) | (go_simp; rfl)); (case hp => exact (Dw.none _ _)); intro v6 w1 ho hb hg_ hnew_; have HO := Aside0.mk ho; clear HB; have HB := Aside0.mk hb; clear ho hb hg_ hnew_) | ((with_reducible refine gate_callee (f := 54) rfl ?_); (try (refine gate_guard (by rfl) ?_; dsimp only)); refine goesL_ (some 12) rfl rfl Try.func54 (by kernel_rfl) rfl #[.slice A0 l0.length c0] rfl Yb_ ?_; (with_reducible refine (Aq.calls k A0 c0 l0 false _ (Kd.C_below HR0.out HB.out) HC0.out A1.out).mono ?_); rintro e w2 ⟨rfl, hb⟩; refine ⟨_, rfl, ?_⟩; have m_ := Aside0.mk (Kd.R_below HO.out hb); clear HO; have HO := m_; clear m_; have m_ := Aside0.mk (below_step HB.out hb); clear HB; have HB := m_; clear m_; clear hb))
  repeat (go_quiet (fail); try go_wp2)
  go_ret2
  exact ⟨_, by first | rfl | (simp; done) | (simp [*]; done), HO.out, HB.out⟩
 | true =>
  rw [if_pos rfl] at h
  replace h := Option.bind_eq_some_iff.mp h
  obtain ⟨z, a_, h⟩ := h
  have A2 := Aside0.mk a_
  clear a_
  cases z with
  | false =>
   rw [if_neg (by decide)] at h
   simp only [Option.some.injEq, Prod.mk.injEq] at h
   obtain ⟨rfl, rfl⟩ := h
   go_enter Try.func40, Try.ntmps40
   go_wp2_with (first | ((with_reducible refine gate_dst (N := 10) rfl ?_); refine Kd.R_lit (Kd.int .i64) _ 3 ?hg (N := 10) ?hd (xs := ([] : List Int)) (inner := []) (ok := fun _ => True) (okp := fun _ => True) ?hr ?hp (fun _ hk => hk) trivial HB.out (Nat.le_refl _) (by simp) ?_; (case hd => rfl); (case hg => rfl); (case hr => first | (go_simp; done) | (go_simp; rfl)); (case hp => exact (Dw.none _ _)); intro v6 w1 ho hb hg_ hnew_; have HO := Aside0.mk ho; clear HB; have HB := Aside0.mk hb; clear ho hb hg_ hnew_) | ((with_reducible refine gate_callee (f := 54) rfl ?_); (try (refine gate_guard (by rfl) ?_; dsimp only)); refine goesL_ (some 12) rfl rfl Try.func54 (by kernel_rfl) rfl #[.slice A0 l0.length c0] rfl Yb_ ?_; (with_reducible refine (Aq.calls k A0 c0 l0 true _ (Kd.C_below HR0.out HB.out) HC0.out A1.out).mono ?_); rintro e w3 ⟨rfl, hb⟩; refine ⟨_, rfl, ?_⟩; have m_ := Aside0.mk (Kd.R_below HO.out hb); clear HO; have HO := m_; clear m_; have m_ := Aside0.mk (below_step HB.out hb); clear HB; have HB := m_; clear m_; clear hb) | ((with_reducible refine gate_callee (f := 52) rfl ?_); (try (refine gate_guard (by rfl) ?_; dsimp only)); refine goesL_ (some 16) rfl rfl Try.func52 (by kernel_rfl) rfl #[.int .i64 a1, .int .i64 0, .int .i64 240] rfl Yb_ ?_; (with_reducible refine (Eg.calls a1 0 240 false _ A2.out).mono ?_); rintro e w4 ⟨rfl, hd_⟩; refine ⟨_, rfl, ?_⟩; have hb := Drawn0.below hd_; clear hd_; have m_ := Aside0.mk (Kd.R_below HO.out hb); clear HO; have HO := m_; clear m_; have m_ := Aside0.mk (below_step HB.out hb); clear HB; have HB := m_; clear m_; clear hb))
   repeat (go_quiet (fail); try go_wp2)
   go_ret2
   exact ⟨_, by first | rfl | (simp; done) | (simp [*]; done), HO.out, HB.out⟩
  | true =>
   rw [if_pos rfl] at h
   replace h := Option.bind_eq_some_iff.mp h
   obtain ⟨all, a_, h⟩ := h
   have A3 := Aside0.mk a_
   clear a_
   split at h
   rotate_left
   ·cases h
   rename_i hl_
   have HL0 := Aside0.mk hl_
   clear hl_
   simp only [Option.some.injEq, Prod.mk.injEq] at h
   obtain ⟨rfl, rfl⟩ := h
   go_enter Try.func40, Try.ntmps40
   go_wp2_with (first | ((with_reducible refine gate_dst (N := 10) rfl ?_); refine Kd.R_lit (Kd.int .i64) _ 3 ?hg (N := 10) ?hd (xs := ([] : List Int)) (inner := []) (ok := fun _ => True) (okp := fun _ => True) ?hr ?hp (fun _ hk => hk) trivial HB.out (Nat.le_refl _) (by simp) ?_; (case hd => rfl); (case hg => rfl); (case hr => first | (go_simp; done) | (go_simp; rfl)); (case hp => exact (Dw.none _ _)); intro v6 w1 ho hb hg_ hnew_; have HO := Aside0.mk ho; clear HB; have HB := Aside0.mk hb; clear ho hb hg_ hnew_) | ((with_reducible refine gate_callee (f := 54) rfl ?_); (try (refine gate_guard (by rfl) ?_; dsimp only)); refine goesL_ (some 12) rfl rfl Try.func54 (by kernel_rfl) rfl #[.slice A0 l0.length c0] rfl Yb_ ?_; (with_reducible refine (Aq.calls k A0 c0 l0 true _ (Kd.C_below HR0.out HB.out) HC0.out A1.out).mono ?_); rintro e w5 ⟨rfl, hb⟩; refine ⟨_, rfl, ?_⟩; have m_ := Aside0.mk (Kd.R_below HO.out hb); clear HO; have HO := m_; clear m_; have m_ := Aside0.mk (below_step HB.out hb); clear HB; have HB := m_; clear m_; clear hb) | ((with_reducible refine gate_callee (f := 52) rfl ?_); (try (refine gate_guard (by rfl) ?_; dsimp only)); refine goesL_ (some 16) rfl rfl Try.func52 (by kernel_rfl) rfl #[.int .i64 a1, .int .i64 0, .int .i64 240] rfl Yb_ ?_; (with_reducible refine (Eg.calls a1 0 240 true _ A2.out).mono ?_); rintro e w6 ⟨rfl, hd_⟩; refine ⟨_, rfl, ?_⟩; have hb := Drawn0.below hd_; clear hd_; have m_ := Aside0.mk (Kd.R_below HO.out hb); clear HO; have HO := m_; clear m_; have m_ := Aside0.mk (below_step HB.out hb); clear HB; have HB := m_; clear m_; clear hb) | ((with_reducible refine gate_callee (f := 63) rfl ?_); (try (refine gate_guard (by rfl) ?_; dsimp only)); refine goesL_ (some 21) rfl rfl Try.func63 (by kernel_rfl) rfl #[.slice A0 l0.length c0] rfl Yb_ ?_; (with_reducible refine (Cj.calls k A0 c0 l0 all _ (Kd.C_below HR0.out HB.out) HC0.out A3.out).mono ?_); rintro e w1 ⟨v7, rfl, ho, hb⟩; refine ⟨_, rfl, ?_⟩; have HA := Aside0.mk (Kd.R_lower ho (below_size HB.out)); obtain ⟨Aa, ca, ea_⟩ := Kd.R_slice HA.out; subst ea_; clear ho; have m_ := Aside0.mk (Kd.R_below HO.out hb); clear HO; have HO := m_; clear m_; have m_ := Aside0.mk (below_step HB.out hb); clear HB; have HB := m_; clear m_; clear hb))
   repeat (go_quiet (fail); try go_wp2)
   go_loopg [6, 8] all.length (fun gg v6 v8 w' => ∃ (i : Nat) (ii : Int), v8 = .int .i64 ii ∧ Aside0 (ii = (i : Int)) ∧ Aside0 (i ≤ all.length ∧ all.length ≤ i + gg) ∧ Aside0 (Kd.R (Kd.int .i64) 3 w' w.heap.size (fun _ => True) v6 (Hl all a1 i)) ∧ Aside0 (Kd.R (Kd.int .i64) 3 w' w.heap.size (fun _ => True) (.slice Aa all.length ca) all) ∧ Aside0 (Below w.heap.size w w'))
   case atStart => exact ⟨0, 0, rfl, ⟨rfl⟩, ⟨by omega, by omega⟩, HO, HA, HB⟩
   case round =>
    clear HO HA HB
    obtain ⟨i, ii, rfl, HII, HI, HO, HA, HB⟩ := hrel
    by_cases c : i < all.length
    ·have cb0 : decide (ii < (all.length : Int)) = true := decide_eq_true (by have := HII.out; omega)
     have HNX := Aside0.mk (show Hl all a1 (i + 1) = (if rd all ii ≤ a1 then Hl all a1 i else Gj (G6 all ii) ii (Hl all a1 i)) by rw [HII.out]; rfl)
     have HLN := Aside0.mk (longL_length all a1 i)
     have HWI := Aside0.mk (show wrap64 (ii + 1) = ((i + 1 : Nat) : Int) by have := HL0.out; have := HII.out; unfold wrap64; omega)
     have HME := Aside0.mk (longL_mem all a1 i)
     have HCI := Aside0.mk c
     clear c
     obtain ⟨Ao, co, e3_⟩ := Kd.R_slice HO.out
     subst e3_
     generalize Hl all a1 i = out at HO HNX HLN HME ⊢
     have HLEN := Aside0.mk (show out.length ≤ 1048576 by have := HLN.out; have := HI.out; have := HL0.out; omega)
     obtain ⟨ada_, el_, hx3⟩ := Kd.Fv (Kd.R_reads' HA.out).2.2 ii (by have := HII.out; omega) Ydj_
     cases el_
     have pi_ : (0 ≤ ii) = True := eq_true (by have := HII.out; omega)
     have qi_ : (ii < (all.length : Int)) = True := eq_true Ydj_
     by_cases cq0 : rd all ii ≤ a1
     ·have cb1 : decide (rd all ii ≤ a1) = true := decide_eq_true cq0
      have HO2 := Aside0.mk (show Kd.R (Kd.int .i64) 3 wr w.heap.size (fun _ => True) (.slice Ao out.length co) (Hl all a1 (i + 1)) from by rw [HNX.out, if_pos cq0]; exact HO.out)
      clear cq0
      go_wp2
      repeat (go_quiet (fail); try go_wp2)
      go_roundg (all.length - (i + 1))
      case measure => have := HI.out; have := HCI.out; omega
      case rel => exact ⟨i + 1, _, rfl, HWI, ⟨by have := HCI.out; omega, by have := HI.out; omega⟩, HO2, HA, HB⟩
     ·have cb1 : decide (rd all ii ≤ a1) = false := decide_eq_false cq0
      rw [if_neg cq0] at HNX
      clear cq0
      go_wp2
      repeat (go_quiet (fail); try go_wp2)
      clear hx3
      go_loopg [9] out.length (fun gg v9 w' => ∃ (x : Nat) (xi : Int), v9 = .int .i64 xi ∧ Aside0 (xi = (x : Int)) ∧ Aside0 (x ≤ out.length ∧ x ≤ gg) ∧ Aside0 (F5 (G6 all ii) out x = F5 (G6 all ii) out out.length) ∧ Aside0 (Kd.R (Kd.int .i64) 3 w' w.heap.size (fun _ => True) (.slice Ao out.length co) out) ∧ Aside0 (Kd.R (Kd.int .i64) 3 w' w.heap.size (fun _ => True) (.slice (some ada_) all.length ca) all) ∧ Aside0 (Below w.heap.size w w'))
      case atStart => exact ⟨out.length, _, rfl, ⟨rfl⟩, ⟨Nat.le_refl _, Nat.le_refl _⟩, ⟨rfl⟩, HO, HA, HB⟩
      case round =>
       clear HO HA HB
       obtain ⟨x, xi, rfl, HXI, HX, HPOS, HO, HA, HB⟩ := hrel
       by_cases hx0 : x = 0
       ·have cz_ : decide (0 < xi) = false := decide_eq_false (by have := HXI.out; omega)
        have hp0_ : F5 (G6 all ii) out x = x := by rw [hx0]; rfl
        replace HPOS := Aside0.mk (hp0_.symm.trans HPOS.out)
        clear hp0_ hx0
        try go_wp2
        have m_ := Aside0.mk (Ae HB.out)
        clear HB
        have HB := m_
        clear m_
        have m_ := Aside0.mk (Kd.Ba HO.out)
        clear HO
        have HO := m_
        clear m_
        have m_ := Aside0.mk (Kd.Ba HA.out)
        clear HA
        have HA := m_
        clear m_
        refine G9 (n := 17) (S := fun w' => True) (ds := []) #[false, false, false, false, false, false, false, false, false, false, false, false, false, false, false, false, false] (by kernel_rfl) rfl rfl trivial (fun hHeld => ?_)
        generalize wr.drew = w7 at HB HO HA  hHeld ⊢
        refine Bg (i := 0) (N := some 36) (v := ?_) (a' := ?_) #[true, false, false, false, false, false, false, false, false, false, false, false, false, false, false, false, false] rfl rfl (by kernel_rfl) (fun _ _ _ h => h) (Or.inl ⟨by rfl, ?_⟩) ?_ ?_
        rotate_left
        ·intro w'
         go_simp
         first | done | with_reducible rfl
        rotate_left
        ·simp only [Act.put, List.setIfInBounds_toArray, List.set_cons_zero, List.set_cons_succ, Aj, Ak]
         rfl
        refine Bg (i := 1) (N := some 37) (v := ?_) (a' := ?_) #[true, true, false, false, false, false, false, false, false, false, false, false, false, false, false, false, false] rfl rfl (by kernel_rfl) (fun _ _ _ h => h) (Or.inl ⟨by rfl, ?_⟩) ?_ ?_
        rotate_left
        ·intro w'
         go_simp
         first | done | with_reducible rfl
        rotate_left
        ·simp only [Act.put, List.setIfInBounds_toArray, List.set_cons_zero, List.set_cons_succ, Aj, Ak]
         rfl
        refine Bg (i := 2) (N := some 38) (v := ?_) (a' := ?_) #[true, true, true, false, false, false, false, false, false, false, false, false, false, false, false, false, false] rfl rfl (by kernel_rfl) (fun _ _ _ h => h) (Or.inl ⟨by rfl, ?_⟩) ?_ ?_
        rotate_left
        ·intro w'
         go_simp
         first | done | with_reducible rfl
        rotate_left
        ·simp only [Act.put, List.setIfInBounds_toArray, List.set_cons_zero, List.set_cons_succ, Aj, Ak]
         rfl
        refine Bg (i := 3) (N := some 39) (v := undef) (a' := ?_) #[true, true, true, true, false, false, false, false, false, false, false, false, false, false, false, false, false] rfl rfl (by kernel_rfl) (fun _ _ _ h => h) (Or.inr ⟨by rfl, rfl⟩) ?_ ?_
        rotate_left
        ·simp only [Act.put, List.setIfInBounds_toArray, List.set_cons_zero, List.set_cons_succ, Aj, Ak]
         rfl
        refine Bg (i := 4) (N := some 40) (v := undef) (a' := ?_) #[true, true, true, true, true, false, false, false, false, false, false, false, false, false, false, false, false] rfl rfl (by kernel_rfl) (fun _ _ _ h => h) (Or.inr ⟨by rfl, rfl⟩) ?_ ?_
        rotate_left
        ·simp only [Act.put, List.setIfInBounds_toArray, List.set_cons_zero, List.set_cons_succ, Aj, Ak]
         rfl
        refine Bg (i := 5) (N := some 41) (v := undef) (a' := ?_) #[true, true, true, true, true, true, false, false, false, false, false, false, false, false, false, false, false] rfl rfl (by kernel_rfl) (fun _ _ _ h => h) (Or.inr ⟨by rfl, rfl⟩) ?_ ?_
        rotate_left
        ·simp only [Act.put, List.setIfInBounds_toArray, List.set_cons_zero, List.set_cons_succ, Aj, Ak]
         rfl
        refine Bg (i := 6) (N := some 42) (v := undef) (a' := ?_) #[true, true, true, true, true, true, true, false, false, false, false, false, false, false, false, false, false] rfl rfl (by kernel_rfl) (fun _ _ _ h => h) (Or.inr ⟨by rfl, rfl⟩) ?_ ?_
        rotate_left
        ·simp only [Act.put, List.setIfInBounds_toArray, List.set_cons_zero, List.set_cons_succ, Aj, Ak]
         rfl
        refine Bg (i := 7) (N := some 43) (v := undef) (a' := ?_) #[true, true, true, true, true, true, true, true, false, false, false, false, false, false, false, false, false] rfl rfl (by kernel_rfl) (fun _ _ _ h => h) (Or.inr ⟨by rfl, rfl⟩) ?_ ?_
        rotate_left
        ·simp only [Act.put, List.setIfInBounds_toArray, List.set_cons_zero, List.set_cons_succ, Aj, Ak]
         rfl
        refine Bg (i := 8) (N := some 44) (v := undef) (a' := ?_) #[true, true, true, true, true, true, true, true, true, false, false, false, false, false, false, false, false] rfl rfl (by kernel_rfl) (fun _ _ _ h => h) (Or.inr ⟨by rfl, rfl⟩) ?_ ?_
        rotate_left
        ·simp only [Act.put, List.setIfInBounds_toArray, List.set_cons_zero, List.set_cons_succ, Aj, Ak]
         rfl
        refine Bg (i := 9) (N := some 45) (v := undef) (a' := ?_) #[true, true, true, true, true, true, true, true, true, true, false, false, false, false, false, false, false] rfl rfl (by kernel_rfl) (fun _ _ _ h => h) (Or.inr ⟨by rfl, rfl⟩) ?_ ?_
        rotate_left
        ·simp only [Act.put, List.setIfInBounds_toArray, List.set_cons_zero, List.set_cons_succ, Aj, Ak]
         rfl
        refine Bg (i := 10) (N := some 46) (v := undef) (a' := ?_) #[true, true, true, true, true, true, true, true, true, true, true, false, false, false, false, false, false] rfl rfl (by kernel_rfl) (fun _ _ _ h => h) (Or.inr ⟨by rfl, rfl⟩) ?_ ?_
        rotate_left
        ·simp only [Act.put, List.setIfInBounds_toArray, List.set_cons_zero, List.set_cons_succ, Aj, Ak]
         rfl
        refine Bg (i := 11) (N := some 47) (v := undef) (a' := ?_) #[true, true, true, true, true, true, true, true, true, true, true, true, false, false, false, false, false] rfl rfl (by kernel_rfl) (fun _ _ _ h => h) (Or.inr ⟨by rfl, rfl⟩) ?_ ?_
        rotate_left
        ·simp only [Act.put, List.setIfInBounds_toArray, List.set_cons_zero, List.set_cons_succ, Aj, Ak]
         rfl
        refine Bg (i := 12) (N := some 48) (v := undef) (a' := ?_) #[true, true, true, true, true, true, true, true, true, true, true, true, true, false, false, false, false] rfl rfl (by kernel_rfl) (fun _ _ _ h => h) (Or.inr ⟨by rfl, rfl⟩) ?_ ?_
        rotate_left
        ·simp only [Act.put, List.setIfInBounds_toArray, List.set_cons_zero, List.set_cons_succ, Aj, Ak]
         rfl
        refine Bg (i := 13) (N := some 49) (v := undef) (a' := ?_) #[true, true, true, true, true, true, true, true, true, true, true, true, true, true, false, false, false] rfl rfl (by kernel_rfl) (fun _ _ _ h => h) (Or.inr ⟨by rfl, rfl⟩) ?_ ?_
        rotate_left
        ·simp only [Act.put, List.setIfInBounds_toArray, List.set_cons_zero, List.set_cons_succ, Aj, Ak]
         rfl
        refine Bg (i := 14) (N := some 50) (v := undef) (a' := ?_) #[true, true, true, true, true, true, true, true, true, true, true, true, true, true, true, false, false] rfl rfl (by kernel_rfl) (fun _ _ _ h => h) (Or.inr ⟨by rfl, rfl⟩) ?_ ?_
        rotate_left
        ·simp only [Act.put, List.setIfInBounds_toArray, List.set_cons_zero, List.set_cons_succ, Aj, Ak]
         rfl
        refine Bg (i := 15) (N := some 51) (v := undef) (a' := ?_) #[true, true, true, true, true, true, true, true, true, true, true, true, true, true, true, true, false] rfl rfl (by kernel_rfl) (fun _ _ _ h => h) (Or.inr ⟨by rfl, rfl⟩) ?_ ?_
        rotate_left
        ·simp only [Act.put, List.setIfInBounds_toArray, List.set_cons_zero, List.set_cons_succ, Aj, Ak]
         rfl
        refine Bg (i := 16) (N := some 52) (v := ?_) (a' := ?_) #[true, true, true, true, true, true, true, true, true, true, true, true, true, true, true, true, true] rfl rfl (by kernel_rfl) (fun _ _ _ h => h) (Or.inl ⟨by rfl, ?_⟩) ?_ ?_
        rotate_left
        ·intro w'
         go_simp
         first | done | with_reducible rfl
        rotate_left
        ·simp only [Act.put, List.setIfInBounds_toArray, List.set_cons_zero, List.set_cons_succ, Aj, Ak]
         rfl
        refine done_ (by kernel_rfl) ?_
        try clear hHeld
        have HP := Aside0.mk (show x ≤ out.length from HX.out.1)
        try go_wp2
        have m_ := Aside0.mk (Ae HB.out)
        clear HB
        have HB := m_
        clear m_
        have m_ := Aside0.mk (Kd.Ba HO.out)
        clear HO
        have HO := m_
        clear m_
        have m_ := Aside0.mk (Kd.Ba HA.out)
        clear HA
        have HA := m_
        clear m_
        obtain ⟨i0_, hi0_, _, hsz0_, _⟩ := info_parts info3
        have HCo := Aside0.mk (Kd.R_reads' HO.out).2.1
        have hcut1 := cut_to (P := Try.prog) 53 3 .i64 Try.underlying53 hi0_ Ao out.length co xi (by have := HXI.out; omega) Ydb_ HCo.out
        have hcut2 := cut_from (P := Try.prog) 53 3 .i64 Try.underlying53 hi0_ 1 hsz0_ Ao out.length co xi (by have := HXI.out; omega) Ydb_
        have hxt_ : xi.toNat = x := by rw [HXI.out]; rfl
        simp only [hxt_, Nat.mul_one] at hcut1 hcut2
        clear hxt_
        obtain ⟨Ac_, hAc_⟩ : ∃ A_ : Option Addr, (if co = x then Ao else Ao.map (·.add x)) = A_ := ⟨_, rfl⟩
        first | rw [hAc_] at hcut2 | simp only [hAc_, Option.map_some] at hcut2
        have HAc := Aside0.mk hAc_
        clear hAc_
        refine G9 (n := 13) (S := fun w' => True) (ds := []) #[false, false, false, false, false, false, false, false, false, false, false, false, false] (by kernel_rfl) rfl rfl trivial (fun hHeld => ?_)
        generalize w7.drew = W0_ at HB HO HA hHeld ⊢
        have HRo := Aside0.mk (Kd.R_reads' HO.out).2.2
        have HB2 := Aside0.mk (Below.refl W0_.heap.size W0_)
        clear HO
        refine Bg (i := 1) (N := some 56) (v := ?_) (a' := ?_) #[false, true, false, false, false, false, false, false, false, false, false, false, false] rfl rfl (by kernel_rfl) (fun _ _ _ h => h) (Or.inl ⟨by rfl, ?_⟩) ?_ ?_
        rotate_left
        ·intro w'
         go_simp
         first | done | with_reducible rfl
        rotate_left
        ·simp only [Act.put, List.setIfInBounds_toArray, List.set_cons_zero, List.set_cons_succ, Aj, Ak]
         rfl
        refine Bg (i := 2) (N := some 57) (v := ?_) (a' := ?_) #[false, true, true, false, false, false, false, false, false, false, false, false, false] rfl rfl (by kernel_rfl) (fun _ _ _ h => h) (Or.inl ⟨by rfl, ?_⟩) ?_ ?_
        rotate_left
        ·intro w'
         go_simp
         first | done | with_reducible rfl
        rotate_left
        ·simp only [Act.put, List.setIfInBounds_toArray, List.set_cons_zero, List.set_cons_succ, Aj, Ak]
         rfl
        refine Bg (i := 3) (N := some 58) (v := ?_) (a' := ?_) #[false, true, true, true, false, false, false, false, false, false, false, false, false] rfl rfl (by kernel_rfl) (fun _ _ _ h => h) (Or.inl ⟨by rfl, ?_⟩) ?_ ?_
        rotate_left
        ·intro w'
         go_simp
         first | done | with_reducible rfl
        rotate_left
        ·simp only [Act.put, List.setIfInBounds_toArray, List.set_cons_zero, List.set_cons_succ, Aj, Ak]
         rfl
        refine Bg (i := 5) (N := some 60) (v := ?_) (a' := ?_) #[false, true, true, true, false, true, false, false, false, false, false, false, false] rfl rfl (by kernel_rfl) (fun _ _ _ h => h) (Or.inl ⟨by rfl, ?_⟩) ?_ ?_
        rotate_left
        ·intro w'
         go_simp
         first | done | with_reducible rfl
        rotate_left
        ·simp only [Act.put, List.setIfInBounds_toArray, List.set_cons_zero, List.set_cons_succ, Aj, Ak]
         rfl
        refine Bg (i := 8) (N := some 63) (v := ?_) (a' := ?_) #[false, true, true, true, false, true, false, false, true, false, false, false, false] rfl rfl (by kernel_rfl) (fun _ _ _ h => h) (Or.inl ⟨by rfl, ?_⟩) ?_ ?_
        rotate_left
        ·intro w'
         go_simp
         first | done | with_reducible rfl
        rotate_left
        ·simp only [Act.put, List.setIfInBounds_toArray, List.set_cons_zero, List.set_cons_succ, Aj, Ak]
         rfl
        refine Bg (i := 9) (N := some 64) (v := ?_) (a' := ?_) #[false, true, true, true, false, true, false, false, true, true, false, false, false] rfl rfl (by kernel_rfl) (fun _ _ _ h => h) (Or.inl ⟨by rfl, ?_⟩) ?_ ?_
        rotate_left
        ·intro w'
         go_simp
         first | done | with_reducible rfl
        rotate_left
        ·simp only [Act.put, List.setIfInBounds_toArray, List.set_cons_zero, List.set_cons_succ, Aj, Ak]
         rfl
        refine Bg (i := 10) (N := some 65) (v := ?_) (a' := ?_) #[false, true, true, true, false, true, false, false, true, true, true, false, false] rfl rfl (by kernel_rfl) (fun _ _ _ h => h) (Or.inl ⟨by rfl, ?_⟩) ?_ ?_
        rotate_left
        ·intro w'
         go_simp
         first | done | with_reducible rfl
        rotate_left
        ·simp only [Act.put, List.setIfInBounds_toArray, List.set_cons_zero, List.set_cons_succ, Aj, Ak]
         rfl
        refine join_ (σ := Value × Value × Option Addr × Nat) 3 #[true, true, true, true, true, true, true, false, true, true, true, false, false] (fun s => match s with | ⟨v31, v35, A40, c40⟩ => [(55, v31), (59, v35), (61, .slice A40 ([ii] : List Int).length c40)]) (fun s w' => match s with | ⟨v31, v35, A40, c40⟩ => Aside0 (Kd.R (Kd.int .i64) 3 w' W0_.heap.size (fun _ => True) v35 (out.take x)) ∧ Aside0 (Kd.R (Kd.int .i64) 3 w' W0_.heap.size (fun _ => True) (.slice A40 ([ii] : List Int).length c40) [ii]) ∧ Aside0 (Below W0_.heap.size W0_ w')) ?_ ?_
        rotate_left
        ·intro hCont
         refine two_ (i := 0) (j := 6) (Ni := some 55) (Nj := some 61) #[true, true, true, true, false, true, false, false, true, true, true, false, false] #[false, true, true, true, false, true, true, false, true, true, true, false, false] rfl rfl rfl rfl (by kernel_rfl) (by decide) (by decide) (fun K hK => ?_) (fun K hK => ?_)
         ·skip
          refine Kd.Fz (Kd.int .i64) W0_.heap.size 3 ?hg (N := 55) ?hd (xs := ([] : List Int)) (inner := []) (ok := fun _ => True) (okp := fun _ => True) ?hr ?hp (fun _ hk => hk) trivial HB2.out (below_size HB2.out) (by simp) ?_; (case hd => rfl); (case hg => rfl); (case hr => first | (go_simp; done) | (go_simp; rfl)); (case hp => exact (Dw.none _ _))
          intro v31 W1_ ho hb hg_ hnew_
          have HN := Aside0.mk ho
          clear HB2
          have HB2 := Aside0.mk hb
          clear hb hg_ hnew_ ho
          refine hK.out _ _ trivial (fun hHeld => ?_)
          clear hK K
          refine En (a' := ?_) ?_ ?_
          rotate_left
          ·show Act.put _ (some 55) _ = _
           simp only [Act.put, List.setIfInBounds_toArray, List.set_cons_zero, List.set_cons_succ, Aj, Ak]
           rfl
          refine two_ (i := 4) (j := 6) (Ni := some 59) (Nj := some 61) #[true, true, true, true, true, true, false, false, true, true, true, false, false] #[true, true, true, true, false, true, true, false, true, true, true, false, false] rfl rfl rfl rfl (by kernel_rfl) (by decide) (by decide) (fun K hK => ?_) (fun K hK => ?_)
          ·skip
           refine Kd.Ei (Kd.int .i64) (w0 := W0_) W0_.heap.size (by rfl) (.tmp 55) (.tmp 58) 53 3 (.int .i64 0) 8 rfl Try.underlying53 info3 rfl (by decide) (by omega) v31 [] (out.take x) Ao x co (fun _ => True) (fun _ => False) rfl rfl HN.out Ybd_ (fun _ _ h => h) (fun _ h => h.elim) (fun _ _ => trivial) HB2.out (below_size HB2.out) Yh_ ?_
           intro v35 W2_ ho hb hg_ hat_
           rw [List.nil_append] at ho
           clear HN
           have HN := Aside0.mk ho
           clear HB2
           have HB2 := Aside0.mk hb
           clear hb hg_ hat_ ho
           refine hK.out _ _ trivial (fun hHeld => ?_)
           clear hK K
           refine En (a' := ?_) ?_ ?_
           rotate_left
           ·show Act.put _ (some 59) _ = _
            simp only [Act.put, List.setIfInBounds_toArray, List.set_cons_zero, List.set_cons_succ, Aj, Ak]
            rfl
           refine one_ (i := 6) (N := some 61) #[true, true, true, true, true, true, true, false, true, true, true, false, false] rfl rfl (by kernel_rfl) (by decide) (fun K hK => ?_)
           refine Kd.Fz (Kd.int .i64) W0_.heap.size 3 ?hg (N := 61) ?hd (xs := ([ii] : List Int)) (inner := [.int .i64 ii]) (ok := fun _ => True) (okp := fun _ => True) ?hr ?hp (fun _ hk => hk) trivial HB2.out (below_size HB2.out) (by simp) ?_; (case hd => rfl); (case hg => rfl); (case hr => first | (go_simp; done) | (go_simp; rfl)); (case hp => exact (Dw.one (show Kd.M (Kd.int .i64) _ _ _ ii [.int .i64 ii] from rfl) (Dw.none _ _)))
           intro v40_ W3_ ho hb hg_ hnew_
           obtain ⟨A40, c40, e40_⟩ := Kd.R_slice ho
           subst e40_
           have HL := Aside0.mk ho
           have m_ := Aside0.mk (Kd.Ht HN.out hg_ (fun _ _ h_ => nomatch h_))
           clear HN
           have HN := m_
           clear m_
           clear HB2
           have HB2 := Aside0.mk hb
           clear hb hg_ hnew_ ho
           refine hK.out _ _ trivial (fun hHeld => ?_)
           clear hK K
           refine En (a' := ?_) ?_ ?_
           rotate_left
           ·show Act.put _ (some 61) _ = _
            simp only [Act.put, List.setIfInBounds_toArray, List.set_cons_zero, List.set_cons_succ, Aj, Ak]
            rfl
           exact En Ybg_ (hCont (v31, v35, A40, c40) _ ⟨HN, HL, HB2⟩)
          ·skip
           refine Kd.Fz (Kd.int .i64) W0_.heap.size 3 ?hg (N := 61) ?hd (xs := ([ii] : List Int)) (inner := [.int .i64 ii]) (ok := fun _ => True) (okp := fun _ => True) ?hr ?hp (fun _ hk => hk) trivial HB2.out (below_size HB2.out) (by simp) ?_; (case hd => rfl); (case hg => rfl); (case hr => first | (go_simp; done) | (go_simp; rfl)); (case hp => exact (Dw.one (show Kd.M (Kd.int .i64) _ _ _ ii [.int .i64 ii] from rfl) (Dw.none _ _)))
           intro v40_ W2_ ho hb hg_ hnew_
           obtain ⟨A40, c40, e40_⟩ := Kd.R_slice ho
           subst e40_
           have HL := Aside0.mk ho
           have NE_ := Aside0.mk (show v31.ownBlock ≠ (Value.slice A40 ([ii] : List Int).length c40).ownBlock by obtain ⟨b_, hb1_, hb2_⟩ := hnew_; intro e_; rw [hb1_] at e_; have := Kd.R_lt HN.out b_ e_; omega)
           have m_ := Aside0.mk (Kd.Ht HN.out hg_ (fun _ _ h_ => nomatch h_))
           clear HN
           have HN := m_
           clear m_
           clear HB2
           have HB2 := Aside0.mk hb
           clear hb hg_ hnew_ ho
           refine hK.out _ _ trivial (fun hHeld => ?_)
           clear hK K
           refine En (a' := ?_) ?_ ?_
           rotate_left
           ·show Act.put _ (some 61) _ = _
            simp only [Act.put, List.setIfInBounds_toArray, List.set_cons_zero, List.set_cons_succ, Aj, Ak]
            rfl
           refine one_ (i := 4) (N := some 59) #[true, true, true, true, true, true, true, false, true, true, true, false, false] rfl rfl (by kernel_rfl) (by decide) (fun K hK => ?_)
           refine Kd.Ei (Kd.int .i64) (w0 := W0_) W0_.heap.size (by rfl) (.tmp 55) (.tmp 58) 53 3 (.int .i64 0) 8 rfl Try.underlying53 info3 rfl (by decide) (by omega) v31 [] (out.take x) Ao x co (fun _ => True) (fun _ => False) rfl rfl HN.out Ybd_ (fun _ _ h => h) (fun _ h => h.elim) (fun _ _ => trivial) HB2.out (below_size HB2.out) Yh_ ?_
           intro v35 W3_ ho hb hg_ hat_
           rw [List.nil_append] at ho
           have m_ := Aside0.mk (Kd.Ic HL.out rfl hg_ NE_.out)
           clear HL
           have HL := m_
           clear m_
           clear NE_
           clear HN
           have HN := Aside0.mk ho
           clear HB2
           have HB2 := Aside0.mk hb
           clear hb hg_ hat_ ho
           refine hK.out _ _ trivial (fun hHeld => ?_)
           clear hK K
           refine En (a' := ?_) ?_ ?_
           rotate_left
           ·show Act.put _ (some 59) _ = _
            simp only [Act.put, List.setIfInBounds_toArray, List.set_cons_zero, List.set_cons_succ, Aj, Ak]
            rfl
           exact En Ybg_ (hCont (v31, v35, A40, c40) _ ⟨HN, HL, HB2⟩)
         ·skip
          refine Kd.Fz (Kd.int .i64) W0_.heap.size 3 ?hg (N := 61) ?hd (xs := ([ii] : List Int)) (inner := [.int .i64 ii]) (ok := fun _ => True) (okp := fun _ => True) ?hr ?hp (fun _ hk => hk) trivial HB2.out (below_size HB2.out) (by simp) ?_; (case hd => rfl); (case hg => rfl); (case hr => first | (go_simp; done) | (go_simp; rfl)); (case hp => exact (Dw.one (show Kd.M (Kd.int .i64) _ _ _ ii [.int .i64 ii] from rfl) (Dw.none _ _)))
          intro v40_ W1_ ho hb hg_ hnew_
          obtain ⟨A40, c40, e40_⟩ := Kd.R_slice ho
          subst e40_
          have HL := Aside0.mk ho
          clear HB2
          have HB2 := Aside0.mk hb
          clear hb hg_ hnew_ ho
          refine hK.out _ _ trivial (fun hHeld => ?_)
          clear hK K
          refine En (a' := ?_) ?_ ?_
          rotate_left
          ·show Act.put _ (some 61) _ = _
           simp only [Act.put, List.setIfInBounds_toArray, List.set_cons_zero, List.set_cons_succ, Aj, Ak]
           rfl
          refine one_ (i := 0) (N := some 55) #[true, true, true, true, false, true, true, false, true, true, true, false, false] rfl rfl (by kernel_rfl) (by decide) (fun K hK => ?_)
          refine Kd.Fz (Kd.int .i64) W0_.heap.size 3 ?hg (N := 55) ?hd (xs := ([] : List Int)) (inner := []) (ok := fun _ => True) (okp := fun _ => True) ?hr ?hp (fun _ hk => hk) trivial HB2.out (below_size HB2.out) (by simp) ?_; (case hd => rfl); (case hg => rfl); (case hr => first | (go_simp; done) | (go_simp; rfl)); (case hp => exact (Dw.none _ _))
          intro v31 W2_ ho hb hg_ hnew_
          have HN := Aside0.mk ho
          have NE_ := Aside0.mk (show v31.ownBlock ≠ (Value.slice A40 ([ii] : List Int).length c40).ownBlock by obtain ⟨b_, hb1_, hb2_⟩ := hnew_; intro e_; rw [hb1_] at e_; have := Kd.R_lt HL.out b_ e_.symm; omega)
          have m_ := Aside0.mk (Kd.Ht HL.out hg_ (fun _ _ h_ => nomatch h_))
          clear HL
          have HL := m_
          clear m_
          clear HB2
          have HB2 := Aside0.mk hb
          clear hb hg_ hnew_ ho
          refine hK.out _ _ trivial (fun hHeld => ?_)
          clear hK K
          refine En (a' := ?_) ?_ ?_
          rotate_left
          ·show Act.put _ (some 55) _ = _
           simp only [Act.put, List.setIfInBounds_toArray, List.set_cons_zero, List.set_cons_succ, Aj, Ak]
           rfl
          refine one_ (i := 4) (N := some 59) #[true, true, true, true, true, true, true, false, true, true, true, false, false] rfl rfl (by kernel_rfl) (by decide) (fun K hK => ?_)
          refine Kd.Ei (Kd.int .i64) (w0 := W0_) W0_.heap.size (by rfl) (.tmp 55) (.tmp 58) 53 3 (.int .i64 0) 8 rfl Try.underlying53 info3 rfl (by decide) (by omega) v31 [] (out.take x) Ao x co (fun _ => True) (fun _ => False) rfl rfl HN.out Ybd_ (fun _ _ h => h) (fun _ h => h.elim) (fun _ _ => trivial) HB2.out (below_size HB2.out) Yh_ ?_
          intro v35 W3_ ho hb hg_ hat_
          rw [List.nil_append] at ho
          have m_ := Aside0.mk (Kd.Ic HL.out rfl hg_ NE_.out)
          clear HL
          have HL := m_
          clear m_
          clear NE_
          clear HN
          have HN := Aside0.mk ho
          clear HB2
          have HB2 := Aside0.mk hb
          clear hb hg_ hat_ ho
          refine hK.out _ _ trivial (fun hHeld => ?_)
          clear hK K
          refine En (a' := ?_) ?_ ?_
          rotate_left
          ·show Act.put _ (some 59) _ = _
           simp only [Act.put, List.setIfInBounds_toArray, List.set_cons_zero, List.set_cons_succ, Aj, Ak]
           rfl
          exact En Ybg_ (hCont (v31, v35, A40, c40) _ ⟨HN, HL, HB2⟩)
        clear HB2
        rintro ⟨v31, v35, A40, c40⟩ W4_ ⟨HN, HL, HB2⟩
        have hHeld : (fun w' => True) W4_ := trivial
        refine En (a' := ?_) ?_ ?_
        rotate_left
        ·simp only [Gz, Act.put, List.setIfInBounds_toArray, List.set_cons_zero, List.set_cons_succ]
         rfl
        refine one_ (i := 7) (N := some 62) #[true, true, true, true, true, true, true, true, true, true, true, false, false] rfl rfl (by kernel_rfl) (by decide) (fun K hK => ?_)
        refine Kd.Ei (Kd.int .i64) (w0 := W0_) W0_.heap.size (by rfl) (.tmp 59) (.tmp 61) 53 3 (.int .i64 0) 8 rfl Try.underlying53 info3 rfl (by decide) (by omega) v35 (out.take x) [ii] A40 ([ii] : List Int).length c40 (fun _ => True) (fun _ => False) rfl rfl HN.out ((Kd.R_reads' HL.out).2.2) (fun _ _ h => h) (fun _ h => h.elim) (fun _ _ => trivial) HB2.out (below_size HB2.out) Yh_ ?_
        intro v41 W5_ ho hb hg_ hat_
        clear HN HL
        have HN := Aside0.mk ho
        clear HB2
        have HB2 := Aside0.mk hb
        clear hb hg_ hat_ ho
        refine hK.out _ _ trivial (fun hHeld => ?_)
        clear hK K
        refine En (a' := ?_) ?_ ?_
        rotate_left
        ·show Act.put _ (some 62) _ = _
         simp only [Act.put, List.setIfInBounds_toArray, List.set_cons_zero, List.set_cons_succ, Aj, Ak]
         rfl
        refine one_ (i := 11) (N := some 66) #[true, true, true, true, true, true, true, true, true, true, true, true, false] rfl rfl (by kernel_rfl) (by decide) (fun K hK => ?_)
        refine Kd.Ei (Kd.int .i64) (w0 := W0_) W0_.heap.size (by rfl) (.tmp 62) (.tmp 65) 53 3 (.int .i64 0) 8 rfl Try.underlying53 info3 rfl (by decide) (by omega) v41 (out.take x ++ [ii]) (out.drop x) Ac_ (out.length - x) (co - x) (fun _ => True) (fun _ => False) rfl rfl HN.out Ycb_ (fun _ _ h => h) (fun _ h => h.elim) (fun _ _ => trivial) HB2.out (below_size HB2.out) Yh_ ?_
        intro v45 W6_ ho hb hg_ hat_
        clear HN
        have HN := Aside0.mk ho
        clear HB2
        have HB2 := Aside0.mk hb
        clear hb hg_ hat_ ho
        refine hK.out _ _ trivial (fun hHeld => ?_)
        clear hK K
        refine En (a' := ?_) ?_ ?_
        rotate_left
        ·show Act.put _ (some 66) _ = _
         simp only [Act.put, List.setIfInBounds_toArray, List.set_cons_zero, List.set_cons_succ, Aj, Ak]
         rfl
        refine Bg (i := 12) (N := some 6) (v := ?_) (a' := ?_) #[true, true, true, true, true, true, true, true, true, true, true, true, true] rfl rfl (by kernel_rfl) (fun _ _ _ h => h) (Or.inl ⟨by rfl, ?_⟩) ?_ ?_
        rotate_left
        ·intro w'
         go_simp
         first | done | with_reducible rfl
        rotate_left
        ·simp only [Act.put, List.setIfInBounds_toArray, List.set_cons_zero, List.set_cons_succ, Aj, Ak]
         rfl
        refine done_ (by kernel_rfl) ?_
        have m_ := Aside0.mk (Kd.R_below HA.out HB2.out)
        clear HA
        have HA := m_
        clear m_
        have HO := Aside0.mk (Kd.R_lower HN.out (below_size HB.out))
        have m_ := Aside0.mk (below_step HB.out HB2.out)
        clear HB HN HB2 HRo hcut1 hcut2 hi0_ hsz0_
        have HB := m_
        clear m_
        have HO2 := Aside0.mk (show Kd.R (Kd.int .i64) 3 W6_ w.heap.size (fun _ => True) v45 (Hl all a1 (i + 1)) from by rw [HNX.out]; unfold Gj; rw [← HPOS.out]; exact HO.out)
        try go_wp2
        repeat (go_quiet (fail); try go_wp2)
        go_roundg (all.length - (i + 1))
        case measure => have := HI.out; have := HCI.out; omega
        case rel => exact ⟨i + 1, _, rfl, HWI, ⟨by have := HCI.out; omega, by have := HI.out; omega⟩, HO2, HA, HB⟩
       ·obtain ⟨y, hy⟩ : ∃ y, x = y + 1 := ⟨x - 1, by omega⟩
        obtain ⟨yi, hyi⟩ : ∃ yi : Int, yi = (y : Int) := ⟨_, rfl⟩
        have HYI := Aside0.mk hyi
        have hwx_ : wrap64 (xi - 1) = yi := by have := HX.out; have := HXI.out; have := HLEN.out; unfold wrap64; omega
        have hwxw_ : IntKind.i64.wrap (xi - 1) = yi := (Aj _).trans hwx_
        have cz_ : decide (0 < xi) = true := decide_eq_true (by have := HXI.out; omega)
        have px_ : (0 ≤ yi) = True := eq_true (by omega)
        have qx_ : (yi < (out.length : Int)) = True := eq_true (by have := HX.out; omega)
        have hm_ := HME.out _ (rd_mem (l := out) (x := y) (by have := HX.out; omega))
        rw [← hyi] at hm_
        have HJ := Aside0.mk (show 0 ≤ rd out yi ∧ rd out yi < (all.length : Int) by have := HCI.out; have := HII.out; omega)
        clear hm_
        have pj_ : (0 ≤ rd out yi) = True := eq_true HJ.out.1
        have qj_ : (rd out yi < (all.length : Int)) = True := eq_true HJ.out.2
        by_cases cq : rd all (rd out yi) < rd all ii
        ·have cl_ : decide (rd all (rd out yi) < rd all ii) = true := decide_eq_true cq
         have hp_ : F5 (G6 all ii) out x = F5 (G6 all ii) out y := by
          rw [hy]
          rw [hyi] at cl_
          show (if G6 all ii (rd out (y : Int)) = true then F5 (G6 all ii) out y else y + 1) = _
          unfold G6
          rw [cl_]
          rfl
         replace HPOS := Aside0.mk (hp_.symm.trans HPOS.out)
         have HY := Aside0.mk hy
         clear hp_ cq hx0 hy hyi
         try go_wp2
         have m_ := Aside0.mk (Ae HB.out)
         clear HB
         have HB := m_
         clear m_
         have m_ := Aside0.mk (Kd.Ba HO.out)
         clear HO
         have HO := m_
         clear m_
         have m_ := Aside0.mk (Kd.Ba HA.out)
         clear HA
         have HA := m_
         clear m_
         obtain ⟨ado_, eo_, hx2⟩ := Kd.Fv (Kd.R_reads' HO.out).2.2 yi (by have := HYI.out; omega) Yeg_
         cases eo_
         obtain ⟨ada2_, ea_, hx3⟩ := Kd.Fv (Kd.R_reads' HA.out).2.2 ii (by have := HII.out; omega) Ydj_
         obtain rfl : ada_ = ada2_ := (by injection ea_)
         obtain ⟨ada3_, ea_, hx1⟩ := Kd.Fv (Kd.R_reads' HA.out).2.2 (rd out yi) HJ.out.1 HJ.out.2
         obtain rfl : ada_ = ada3_ := (by injection ea_)
         refine G9 (n := 17) (S := fun w' => w'.cell? (ado_.add yi.toNat) = some (.int .i64 (rd out yi)) ∧ w'.cell? (ada_.add (rd out yi).toNat) = some (.int .i64 (rd all (rd out yi))) ∧ w'.cell? (ada_.add ii.toNat) = some (.int .i64 (rd all ii))) (ds := []) #[false, false, false, false, false, false, false, false, false, false, false, false, false, false, false, false, false] (by kernel_rfl) rfl rfl ⟨hx2, hx1, hx3⟩ (fun hHeld => ?_)
         generalize wr.drew = w8 at HB HO HA hx2 hx1 hx3 hHeld ⊢
         refine Bg (i := 0) (N := some 36) (v := ?_) (a' := ?_) #[true, false, false, false, false, false, false, false, false, false, false, false, false, false, false, false, false] rfl rfl (by kernel_rfl) (fun _ _ _ h => h) (Or.inl ⟨by rfl, ?_⟩) ?_ ?_
         rotate_left
         ·intro w'
          go_simp
          first | done | with_reducible rfl
         rotate_left
         ·simp only [Act.put, List.setIfInBounds_toArray, List.set_cons_zero, List.set_cons_succ, Aj, Ak]
          rfl
         refine Bg (i := 1) (N := some 37) (v := ?_) (a' := ?_) #[true, true, false, false, false, false, false, false, false, false, false, false, false, false, false, false, false] rfl rfl (by kernel_rfl) (fun _ _ _ h => h) (Or.inl ⟨by rfl, ?_⟩) ?_ ?_
         rotate_left
         ·intro w'
          go_simp
          first | done | with_reducible rfl
         rotate_left
         ·simp only [Act.put, List.setIfInBounds_toArray, List.set_cons_zero, List.set_cons_succ, Aj, Ak]
          rfl
         refine Bg (i := 2) (N := some 38) (v := ?_) (a' := ?_) #[true, true, true, false, false, false, false, false, false, false, false, false, false, false, false, false, false] rfl rfl (by kernel_rfl) (fun _ _ _ h => h) (Or.inl ⟨by rfl, ?_⟩) ?_ ?_
         rotate_left
         ·intro w'
          go_simp
          first | done | with_reducible rfl
         rotate_left
         ·simp only [Act.put, List.setIfInBounds_toArray, List.set_cons_zero, List.set_cons_succ, Aj, Ak]
          rfl
         refine Bg (i := 3) (N := some 39) (v := ?_) (a' := ?_) #[true, true, true, true, false, false, false, false, false, false, false, false, false, false, false, false, false] rfl rfl (by kernel_rfl) (fun _ _ _ h => h) (Or.inl ⟨by rfl, ?_⟩) ?_ ?_
         rotate_left
         ·intro w'
          go_simp
          first | done | with_reducible rfl
         rotate_left
         ·simp only [Act.put, List.setIfInBounds_toArray, List.set_cons_zero, List.set_cons_succ, Aj, Ak]
          rfl
         refine Bg (i := 4) (N := some 40) (v := ?_) (a' := ?_) #[true, true, true, true, true, false, false, false, false, false, false, false, false, false, false, false, false] rfl rfl (by kernel_rfl) (fun _ _ _ h => h) (Or.inl ⟨by rfl, ?_⟩) ?_ ?_
         rotate_left
         ·intro w'
          go_simp
          first | done | with_reducible rfl
         rotate_left
         ·simp only [Act.put, List.setIfInBounds_toArray, List.set_cons_zero, List.set_cons_succ, Aj, Ak]
          rfl
         refine Bg (i := 5) (N := some 41) (v := ?_) (a' := ?_) #[true, true, true, true, true, true, false, false, false, false, false, false, false, false, false, false, false] rfl rfl (by kernel_rfl) (fun _ _ _ h => h) (Or.inl ⟨by rfl, ?_⟩) ?_ ?_
         rotate_left
         ·intro w'
          go_simp
          first | done | with_reducible rfl
         rotate_left
         ·simp only [Act.put, List.setIfInBounds_toArray, List.set_cons_zero, List.set_cons_succ, Aj, Ak]
          rfl
         refine Bg (i := 6) (N := some 42) (v := ?_) (a' := ?_) #[true, true, true, true, true, true, true, false, false, false, false, false, false, false, false, false, false] rfl rfl (by kernel_rfl) (fun _ _ _ h => h) (Or.inl ⟨by rfl, ?_⟩) ?_ ?_
         rotate_left
         ·intro w'
          go_simp
          first | done | with_reducible rfl
         rotate_left
         ·simp only [Act.put, List.setIfInBounds_toArray, List.set_cons_zero, List.set_cons_succ, Aj, Ak]
          rfl
         refine Bg (i := 7) (N := some 43) (v := ?_) (a' := ?_) #[true, true, true, true, true, true, true, true, false, false, false, false, false, false, false, false, false] rfl rfl (by kernel_rfl) (fun _ _ _ h => h) (Or.inl ⟨by rfl, ?_⟩) ?_ ?_
         rotate_left
         ·intro w'
          go_simp
          first | done | with_reducible rfl
         rotate_left
         ·simp only [Act.put, List.setIfInBounds_toArray, List.set_cons_zero, List.set_cons_succ, Aj, Ak]
          rfl
         refine Bg (i := 11) (N := some 47) (v := ?_) (a' := ?_) #[true, true, true, true, true, true, true, true, false, false, false, true, false, false, false, false, false] rfl rfl (by kernel_rfl) (fun _ _ _ h => h) (Or.inl ⟨by rfl, ?_⟩) ?_ ?_
         rotate_left
         ·intro w'
          go_simp
          first | done | with_reducible rfl
         rotate_left
         ·simp only [Act.put, List.setIfInBounds_toArray, List.set_cons_zero, List.set_cons_succ, Aj, Ak]
          rfl
         refine Bg (i := 12) (N := some 48) (v := ?_) (a' := ?_) #[true, true, true, true, true, true, true, true, false, false, false, true, true, false, false, false, false] rfl rfl (by kernel_rfl) (fun _ _ _ h => h) (Or.inl ⟨by rfl, ?_⟩) ?_ ?_
         rotate_left
         ·intro w'
          go_simp
          first | done | with_reducible rfl
         rotate_left
         ·simp only [Act.put, List.setIfInBounds_toArray, List.set_cons_zero, List.set_cons_succ, Aj, Ak]
          rfl
         refine Bg (i := 13) (N := some 49) (v := ?_) (a' := ?_) #[true, true, true, true, true, true, true, true, false, false, false, true, true, true, false, false, false] rfl rfl (by kernel_rfl) (fun _ _ _ h => h) (Or.inl ⟨by rfl, ?_⟩) ?_ ?_
         rotate_left
         ·intro w'
          go_simp
          first | done | with_reducible rfl
         rotate_left
         ·simp only [Act.put, List.setIfInBounds_toArray, List.set_cons_zero, List.set_cons_succ, Aj, Ak]
          rfl
         refine Gg (i := 8) (N := some 44) (v := ?_) (a' := ?_) #[true, true, true, true, true, true, true, true, true, false, false, true, true, true, false, false, false] rfl rfl (by kernel_rfl) (fun _ _ _ h => h) (Or.inl ⟨by rfl, ?_⟩) hHeld ?_ ?_
         rotate_left
         ·rintro w' ⟨s0, s1, s2⟩
          go_simp
          first | done | with_reducible rfl
         rotate_left
         ·simp only [Act.put, List.setIfInBounds_toArray, List.set_cons_zero, List.set_cons_succ, Aj, Ak]
          rfl
         refine Bg (i := 9) (N := some 45) (v := ?_) (a' := ?_) #[true, true, true, true, true, true, true, true, true, true, false, true, true, true, false, false, false] rfl rfl (by kernel_rfl) (fun _ _ _ h => h) (Or.inl ⟨by rfl, ?_⟩) ?_ ?_
         rotate_left
         ·intro w'
          go_simp
          first | done | with_reducible rfl
         rotate_left
         ·simp only [Act.put, List.setIfInBounds_toArray, List.set_cons_zero, List.set_cons_succ, Aj, Ak]
          rfl
         refine Gg (i := 10) (N := some 46) (v := ?_) (a' := ?_) #[true, true, true, true, true, true, true, true, true, true, true, true, true, true, false, false, false] rfl rfl (by kernel_rfl) (fun _ _ _ h => h) (Or.inl ⟨by rfl, ?_⟩) hHeld ?_ ?_
         rotate_left
         ·rintro w' ⟨s0, s1, s2⟩
          go_simp
          first | done | with_reducible rfl
         rotate_left
         ·simp only [Act.put, List.setIfInBounds_toArray, List.set_cons_zero, List.set_cons_succ, Aj, Ak]
          rfl
         refine Gg (i := 14) (N := some 50) (v := ?_) (a' := ?_) #[true, true, true, true, true, true, true, true, true, true, true, true, true, true, true, false, false] rfl rfl (by kernel_rfl) (fun _ _ _ h => h) (Or.inl ⟨by rfl, ?_⟩) hHeld ?_ ?_
         rotate_left
         ·rintro w' ⟨s0, s1, s2⟩
          go_simp
          first | done | with_reducible rfl
         rotate_left
         ·simp only [Act.put, List.setIfInBounds_toArray, List.set_cons_zero, List.set_cons_succ, Aj, Ak]
          rfl
         refine Bg (i := 15) (N := some 51) (v := ?_) (a' := ?_) #[true, true, true, true, true, true, true, true, true, true, true, true, true, true, true, true, false] rfl rfl (by kernel_rfl) (fun _ _ _ h => h) (Or.inl ⟨by rfl, ?_⟩) ?_ ?_
         rotate_left
         ·intro w'
          go_simp
          first | done | with_reducible rfl
         rotate_left
         ·simp only [Act.put, List.setIfInBounds_toArray, List.set_cons_zero, List.set_cons_succ, Aj, Ak]
          rfl
         refine Bg (i := 16) (N := some 52) (v := ?_) (a' := ?_) #[true, true, true, true, true, true, true, true, true, true, true, true, true, true, true, true, true] rfl rfl (by kernel_rfl) (fun _ _ _ h => h) (Or.inl ⟨by rfl, ?_⟩) ?_ ?_
         rotate_left
         ·intro w'
          go_simp
          first | done | with_reducible rfl
         rotate_left
         ·simp only [Act.put, List.setIfInBounds_toArray, List.set_cons_zero, List.set_cons_succ, Aj, Ak]
          rfl
         refine done_ (by kernel_rfl) ?_
         try clear hHeld
         try go_wp2
         repeat (go_quiet (fail); try go_wp2)
         go_roundg y
         case measure => have := HX.out; have := HY.out; omega
         case rel => exact ⟨y, yi, by first | rfl | (rw [hwx_]; done) | (simp [hwx_]; done), HYI, ⟨by have := HX.out; have := HY.out; omega, Nat.le_refl _⟩, HPOS, HO, HA, HB⟩
        ·have cl_ : decide (rd all (rd out yi) < rd all ii) = false := decide_eq_false cq
         have hp_ : F5 (G6 all ii) out x = x := by
          rw [hy]
          rw [hyi] at cl_
          show (if G6 all ii (rd out (y : Int)) = true then F5 (G6 all ii) out y else y + 1) = _
          unfold G6
          rw [cl_]
          rfl
         replace HPOS := Aside0.mk (hp_.symm.trans HPOS.out)
         have HY := Aside0.mk hy
         clear hp_ cq hx0 hy hyi
         try go_wp2
         have m_ := Aside0.mk (Ae HB.out)
         clear HB
         have HB := m_
         clear m_
         have m_ := Aside0.mk (Kd.Ba HO.out)
         clear HO
         have HO := m_
         clear m_
         have m_ := Aside0.mk (Kd.Ba HA.out)
         clear HA
         have HA := m_
         clear m_
         obtain ⟨ado_, eo_, hx2⟩ := Kd.Fv (Kd.R_reads' HO.out).2.2 yi (by have := HYI.out; omega) Yeg_
         cases eo_
         obtain ⟨ada2_, ea_, hx3⟩ := Kd.Fv (Kd.R_reads' HA.out).2.2 ii (by have := HII.out; omega) Ydj_
         obtain rfl : ada_ = ada2_ := (by injection ea_)
         obtain ⟨ada3_, ea_, hx1⟩ := Kd.Fv (Kd.R_reads' HA.out).2.2 (rd out yi) HJ.out.1 HJ.out.2
         obtain rfl : ada_ = ada3_ := (by injection ea_)
         refine G9 (n := 17) (S := fun w' => w'.cell? (ado_.add yi.toNat) = some (.int .i64 (rd out yi)) ∧ w'.cell? (ada_.add (rd out yi).toNat) = some (.int .i64 (rd all (rd out yi))) ∧ w'.cell? (ada_.add ii.toNat) = some (.int .i64 (rd all ii))) (ds := []) #[false, false, false, false, false, false, false, false, false, false, false, false, false, false, false, false, false] (by kernel_rfl) rfl rfl ⟨hx2, hx1, hx3⟩ (fun hHeld => ?_)
         generalize wr.drew = w9 at HB HO HA hx2 hx1 hx3 hHeld ⊢
         refine Bg (i := 0) (N := some 36) (v := ?_) (a' := ?_) #[true, false, false, false, false, false, false, false, false, false, false, false, false, false, false, false, false] rfl rfl (by kernel_rfl) (fun _ _ _ h => h) (Or.inl ⟨by rfl, ?_⟩) ?_ ?_
         rotate_left
         ·intro w'
          go_simp
          first | done | with_reducible rfl
         rotate_left
         ·simp only [Act.put, List.setIfInBounds_toArray, List.set_cons_zero, List.set_cons_succ, Aj, Ak]
          rfl
         refine Bg (i := 1) (N := some 37) (v := ?_) (a' := ?_) #[true, true, false, false, false, false, false, false, false, false, false, false, false, false, false, false, false] rfl rfl (by kernel_rfl) (fun _ _ _ h => h) (Or.inl ⟨by rfl, ?_⟩) ?_ ?_
         rotate_left
         ·intro w'
          go_simp
          first | done | with_reducible rfl
         rotate_left
         ·simp only [Act.put, List.setIfInBounds_toArray, List.set_cons_zero, List.set_cons_succ, Aj, Ak]
          rfl
         refine Bg (i := 2) (N := some 38) (v := ?_) (a' := ?_) #[true, true, true, false, false, false, false, false, false, false, false, false, false, false, false, false, false] rfl rfl (by kernel_rfl) (fun _ _ _ h => h) (Or.inl ⟨by rfl, ?_⟩) ?_ ?_
         rotate_left
         ·intro w'
          go_simp
          first | done | with_reducible rfl
         rotate_left
         ·simp only [Act.put, List.setIfInBounds_toArray, List.set_cons_zero, List.set_cons_succ, Aj, Ak]
          rfl
         refine Bg (i := 3) (N := some 39) (v := ?_) (a' := ?_) #[true, true, true, true, false, false, false, false, false, false, false, false, false, false, false, false, false] rfl rfl (by kernel_rfl) (fun _ _ _ h => h) (Or.inl ⟨by rfl, ?_⟩) ?_ ?_
         rotate_left
         ·intro w'
          go_simp
          first | done | with_reducible rfl
         rotate_left
         ·simp only [Act.put, List.setIfInBounds_toArray, List.set_cons_zero, List.set_cons_succ, Aj, Ak]
          rfl
         refine Bg (i := 4) (N := some 40) (v := ?_) (a' := ?_) #[true, true, true, true, true, false, false, false, false, false, false, false, false, false, false, false, false] rfl rfl (by kernel_rfl) (fun _ _ _ h => h) (Or.inl ⟨by rfl, ?_⟩) ?_ ?_
         rotate_left
         ·intro w'
          go_simp
          first | done | with_reducible rfl
         rotate_left
         ·simp only [Act.put, List.setIfInBounds_toArray, List.set_cons_zero, List.set_cons_succ, Aj, Ak]
          rfl
         refine Bg (i := 5) (N := some 41) (v := ?_) (a' := ?_) #[true, true, true, true, true, true, false, false, false, false, false, false, false, false, false, false, false] rfl rfl (by kernel_rfl) (fun _ _ _ h => h) (Or.inl ⟨by rfl, ?_⟩) ?_ ?_
         rotate_left
         ·intro w'
          go_simp
          first | done | with_reducible rfl
         rotate_left
         ·simp only [Act.put, List.setIfInBounds_toArray, List.set_cons_zero, List.set_cons_succ, Aj, Ak]
          rfl
         refine Bg (i := 6) (N := some 42) (v := ?_) (a' := ?_) #[true, true, true, true, true, true, true, false, false, false, false, false, false, false, false, false, false] rfl rfl (by kernel_rfl) (fun _ _ _ h => h) (Or.inl ⟨by rfl, ?_⟩) ?_ ?_
         rotate_left
         ·intro w'
          go_simp
          first | done | with_reducible rfl
         rotate_left
         ·simp only [Act.put, List.setIfInBounds_toArray, List.set_cons_zero, List.set_cons_succ, Aj, Ak]
          rfl
         refine Bg (i := 7) (N := some 43) (v := ?_) (a' := ?_) #[true, true, true, true, true, true, true, true, false, false, false, false, false, false, false, false, false] rfl rfl (by kernel_rfl) (fun _ _ _ h => h) (Or.inl ⟨by rfl, ?_⟩) ?_ ?_
         rotate_left
         ·intro w'
          go_simp
          first | done | with_reducible rfl
         rotate_left
         ·simp only [Act.put, List.setIfInBounds_toArray, List.set_cons_zero, List.set_cons_succ, Aj, Ak]
          rfl
         refine Bg (i := 11) (N := some 47) (v := ?_) (a' := ?_) #[true, true, true, true, true, true, true, true, false, false, false, true, false, false, false, false, false] rfl rfl (by kernel_rfl) (fun _ _ _ h => h) (Or.inl ⟨by rfl, ?_⟩) ?_ ?_
         rotate_left
         ·intro w'
          go_simp
          first | done | with_reducible rfl
         rotate_left
         ·simp only [Act.put, List.setIfInBounds_toArray, List.set_cons_zero, List.set_cons_succ, Aj, Ak]
          rfl
         refine Bg (i := 12) (N := some 48) (v := ?_) (a' := ?_) #[true, true, true, true, true, true, true, true, false, false, false, true, true, false, false, false, false] rfl rfl (by kernel_rfl) (fun _ _ _ h => h) (Or.inl ⟨by rfl, ?_⟩) ?_ ?_
         rotate_left
         ·intro w'
          go_simp
          first | done | with_reducible rfl
         rotate_left
         ·simp only [Act.put, List.setIfInBounds_toArray, List.set_cons_zero, List.set_cons_succ, Aj, Ak]
          rfl
         refine Bg (i := 13) (N := some 49) (v := ?_) (a' := ?_) #[true, true, true, true, true, true, true, true, false, false, false, true, true, true, false, false, false] rfl rfl (by kernel_rfl) (fun _ _ _ h => h) (Or.inl ⟨by rfl, ?_⟩) ?_ ?_
         rotate_left
         ·intro w'
          go_simp
          first | done | with_reducible rfl
         rotate_left
         ·simp only [Act.put, List.setIfInBounds_toArray, List.set_cons_zero, List.set_cons_succ, Aj, Ak]
          rfl
         refine Gg (i := 8) (N := some 44) (v := ?_) (a' := ?_) #[true, true, true, true, true, true, true, true, true, false, false, true, true, true, false, false, false] rfl rfl (by kernel_rfl) (fun _ _ _ h => h) (Or.inl ⟨by rfl, ?_⟩) hHeld ?_ ?_
         rotate_left
         ·rintro w' ⟨s0, s1, s2⟩
          go_simp
          first | done | with_reducible rfl
         rotate_left
         ·simp only [Act.put, List.setIfInBounds_toArray, List.set_cons_zero, List.set_cons_succ, Aj, Ak]
          rfl
         refine Bg (i := 9) (N := some 45) (v := ?_) (a' := ?_) #[true, true, true, true, true, true, true, true, true, true, false, true, true, true, false, false, false] rfl rfl (by kernel_rfl) (fun _ _ _ h => h) (Or.inl ⟨by rfl, ?_⟩) ?_ ?_
         rotate_left
         ·intro w'
          go_simp
          first | done | with_reducible rfl
         rotate_left
         ·simp only [Act.put, List.setIfInBounds_toArray, List.set_cons_zero, List.set_cons_succ, Aj, Ak]
          rfl
         refine Gg (i := 10) (N := some 46) (v := ?_) (a' := ?_) #[true, true, true, true, true, true, true, true, true, true, true, true, true, true, false, false, false] rfl rfl (by kernel_rfl) (fun _ _ _ h => h) (Or.inl ⟨by rfl, ?_⟩) hHeld ?_ ?_
         rotate_left
         ·rintro w' ⟨s0, s1, s2⟩
          go_simp
          first | done | with_reducible rfl
         rotate_left
         ·simp only [Act.put, List.setIfInBounds_toArray, List.set_cons_zero, List.set_cons_succ, Aj, Ak]
          rfl
         refine Gg (i := 14) (N := some 50) (v := ?_) (a' := ?_) #[true, true, true, true, true, true, true, true, true, true, true, true, true, true, true, false, false] rfl rfl (by kernel_rfl) (fun _ _ _ h => h) (Or.inl ⟨by rfl, ?_⟩) hHeld ?_ ?_
         rotate_left
         ·rintro w' ⟨s0, s1, s2⟩
          go_simp
          first | done | with_reducible rfl
         rotate_left
         ·simp only [Act.put, List.setIfInBounds_toArray, List.set_cons_zero, List.set_cons_succ, Aj, Ak]
          rfl
         refine Bg (i := 15) (N := some 51) (v := ?_) (a' := ?_) #[true, true, true, true, true, true, true, true, true, true, true, true, true, true, true, true, false] rfl rfl (by kernel_rfl) (fun _ _ _ h => h) (Or.inl ⟨by rfl, ?_⟩) ?_ ?_
         rotate_left
         ·intro w'
          go_simp
          first | done | with_reducible rfl
         rotate_left
         ·simp only [Act.put, List.setIfInBounds_toArray, List.set_cons_zero, List.set_cons_succ, Aj, Ak]
          rfl
         refine Bg (i := 16) (N := some 52) (v := ?_) (a' := ?_) #[true, true, true, true, true, true, true, true, true, true, true, true, true, true, true, true, true] rfl rfl (by kernel_rfl) (fun _ _ _ h => h) (Or.inl ⟨by rfl, ?_⟩) ?_ ?_
         rotate_left
         ·intro w'
          go_simp
          first | done | with_reducible rfl
         rotate_left
         ·simp only [Act.put, List.setIfInBounds_toArray, List.set_cons_zero, List.set_cons_succ, Aj, Ak]
          rfl
         refine done_ (by kernel_rfl) ?_
         try clear hHeld
         have HP := Aside0.mk (show x ≤ out.length from HX.out.1)
         try go_wp2
         have m_ := Aside0.mk (Ae HB.out)
         clear HB
         have HB := m_
         clear m_
         have m_ := Aside0.mk (Kd.Ba HO.out)
         clear HO
         have HO := m_
         clear m_
         have m_ := Aside0.mk (Kd.Ba HA.out)
         clear HA
         have HA := m_
         clear m_
         obtain ⟨i0_, hi0_, _, hsz0_, _⟩ := info_parts info3
         have HCo := Aside0.mk (Kd.R_reads' HO.out).2.1
         have hcut1 := cut_to (P := Try.prog) 53 3 .i64 Try.underlying53 hi0_ (some ado_) out.length co xi (by have := HXI.out; omega) Ydb_ HCo.out
         have hcut2 := cut_from (P := Try.prog) 53 3 .i64 Try.underlying53 hi0_ 1 hsz0_ (some ado_) out.length co xi (by have := HXI.out; omega) Ydb_
         have hxt_ : xi.toNat = x := by rw [HXI.out]; rfl
         simp only [hxt_, Nat.mul_one] at hcut1 hcut2
         clear hxt_
         obtain ⟨Ac_, hAc_⟩ : ∃ A_ : Option Addr, (if co = x then some ado_ else some (ado_.add x)) = A_ := ⟨_, rfl⟩
         first | rw [hAc_] at hcut2 | simp only [hAc_, Option.map_some] at hcut2
         have HAc := Aside0.mk hAc_
         clear hAc_
         refine G9 (n := 13) (S := fun w' => True) (ds := []) #[false, false, false, false, false, false, false, false, false, false, false, false, false] (by kernel_rfl) rfl rfl trivial (fun hHeld => ?_)
         generalize w9.drew = W0_ at HB HO HA hHeld ⊢
         have HRo := Aside0.mk (Kd.R_reads' HO.out).2.2
         have HB2 := Aside0.mk (Below.refl W0_.heap.size W0_)
         clear HO
         refine Bg (i := 1) (N := some 56) (v := ?_) (a' := ?_) #[false, true, false, false, false, false, false, false, false, false, false, false, false] rfl rfl (by kernel_rfl) (fun _ _ _ h => h) (Or.inl ⟨by rfl, ?_⟩) ?_ ?_
         rotate_left
         ·intro w'
          go_simp
          first | done | with_reducible rfl
         rotate_left
         ·simp only [Act.put, List.setIfInBounds_toArray, List.set_cons_zero, List.set_cons_succ, Aj, Ak]
          rfl
         refine Bg (i := 2) (N := some 57) (v := ?_) (a' := ?_) #[false, true, true, false, false, false, false, false, false, false, false, false, false] rfl rfl (by kernel_rfl) (fun _ _ _ h => h) (Or.inl ⟨by rfl, ?_⟩) ?_ ?_
         rotate_left
         ·intro w'
          go_simp
          first | done | with_reducible rfl
         rotate_left
         ·simp only [Act.put, List.setIfInBounds_toArray, List.set_cons_zero, List.set_cons_succ, Aj, Ak]
          rfl
         refine Bg (i := 3) (N := some 58) (v := ?_) (a' := ?_) #[false, true, true, true, false, false, false, false, false, false, false, false, false] rfl rfl (by kernel_rfl) (fun _ _ _ h => h) (Or.inl ⟨by rfl, ?_⟩) ?_ ?_
         rotate_left
         ·intro w'
          go_simp
          first | done | with_reducible rfl
         rotate_left
         ·simp only [Act.put, List.setIfInBounds_toArray, List.set_cons_zero, List.set_cons_succ, Aj, Ak]
          rfl
         refine Bg (i := 5) (N := some 60) (v := ?_) (a' := ?_) #[false, true, true, true, false, true, false, false, false, false, false, false, false] rfl rfl (by kernel_rfl) (fun _ _ _ h => h) (Or.inl ⟨by rfl, ?_⟩) ?_ ?_
         rotate_left
         ·intro w'
          go_simp
          first | done | with_reducible rfl
         rotate_left
         ·simp only [Act.put, List.setIfInBounds_toArray, List.set_cons_zero, List.set_cons_succ, Aj, Ak]
          rfl
         refine Bg (i := 8) (N := some 63) (v := ?_) (a' := ?_) #[false, true, true, true, false, true, false, false, true, false, false, false, false] rfl rfl (by kernel_rfl) (fun _ _ _ h => h) (Or.inl ⟨by rfl, ?_⟩) ?_ ?_
         rotate_left
         ·intro w'
          go_simp
          first | done | with_reducible rfl
         rotate_left
         ·simp only [Act.put, List.setIfInBounds_toArray, List.set_cons_zero, List.set_cons_succ, Aj, Ak]
          rfl
         refine Bg (i := 9) (N := some 64) (v := ?_) (a' := ?_) #[false, true, true, true, false, true, false, false, true, true, false, false, false] rfl rfl (by kernel_rfl) (fun _ _ _ h => h) (Or.inl ⟨by rfl, ?_⟩) ?_ ?_
         rotate_left
         ·intro w'
          go_simp
          first | done | with_reducible rfl
         rotate_left
         ·simp only [Act.put, List.setIfInBounds_toArray, List.set_cons_zero, List.set_cons_succ, Aj, Ak]
          rfl
         refine Bg (i := 10) (N := some 65) (v := ?_) (a' := ?_) #[false, true, true, true, false, true, false, false, true, true, true, false, false] rfl rfl (by kernel_rfl) (fun _ _ _ h => h) (Or.inl ⟨by rfl, ?_⟩) ?_ ?_
         rotate_left
         ·intro w'
          go_simp
          first | done | with_reducible rfl
         rotate_left
         ·simp only [Act.put, List.setIfInBounds_toArray, List.set_cons_zero, List.set_cons_succ, Aj, Ak]
          rfl
         refine join_ (σ := Value × Value × Option Addr × Nat) 3 #[true, true, true, true, true, true, true, false, true, true, true, false, false] (fun s => match s with | ⟨v31, v35, A40, c40⟩ => [(55, v31), (59, v35), (61, .slice A40 ([ii] : List Int).length c40)]) (fun s w' => match s with | ⟨v31, v35, A40, c40⟩ => Aside0 (Kd.R (Kd.int .i64) 3 w' W0_.heap.size (fun _ => True) v35 (out.take x)) ∧ Aside0 (Kd.R (Kd.int .i64) 3 w' W0_.heap.size (fun _ => True) (.slice A40 ([ii] : List Int).length c40) [ii]) ∧ Aside0 (Below W0_.heap.size W0_ w')) ?_ ?_
         rotate_left
         ·intro hCont
          refine two_ (i := 0) (j := 6) (Ni := some 55) (Nj := some 61) #[true, true, true, true, false, true, false, false, true, true, true, false, false] #[false, true, true, true, false, true, true, false, true, true, true, false, false] rfl rfl rfl rfl (by kernel_rfl) (by decide) (by decide) (fun K hK => ?_) (fun K hK => ?_)
          ·skip
           refine Kd.Fz (Kd.int .i64) W0_.heap.size 3 ?hg (N := 55) ?hd (xs := ([] : List Int)) (inner := []) (ok := fun _ => True) (okp := fun _ => True) ?hr ?hp (fun _ hk => hk) trivial HB2.out (below_size HB2.out) (by simp) ?_; (case hd => rfl); (case hg => rfl); (case hr => first | (go_simp; done) | (go_simp; rfl)); (case hp => exact (Dw.none _ _))
           intro v31 W1_ ho hb hg_ hnew_
           have HN := Aside0.mk ho
           clear HB2
           have HB2 := Aside0.mk hb
           clear hb hg_ hnew_ ho
           refine hK.out _ _ trivial (fun hHeld => ?_)
           clear hK K
           refine En (a' := ?_) ?_ ?_
           rotate_left
           ·show Act.put _ (some 55) _ = _
            simp only [Act.put, List.setIfInBounds_toArray, List.set_cons_zero, List.set_cons_succ, Aj, Ak]
            rfl
           refine two_ (i := 4) (j := 6) (Ni := some 59) (Nj := some 61) #[true, true, true, true, true, true, false, false, true, true, true, false, false] #[true, true, true, true, false, true, true, false, true, true, true, false, false] rfl rfl rfl rfl (by kernel_rfl) (by decide) (by decide) (fun K hK => ?_) (fun K hK => ?_)
           ·skip
            refine Kd.Ei (Kd.int .i64) (w0 := W0_) W0_.heap.size (by rfl) (.tmp 55) (.tmp 58) 53 3 (.int .i64 0) 8 rfl Try.underlying53 info3 rfl (by decide) (by omega) v31 [] (out.take x) (some ado_) x co (fun _ => True) (fun _ => False) rfl rfl HN.out Ybd_ (fun _ _ h => h) (fun _ h => h.elim) (fun _ _ => trivial) HB2.out (below_size HB2.out) Yh_ ?_
            intro v35 W2_ ho hb hg_ hat_
            rw [List.nil_append] at ho
            clear HN
            have HN := Aside0.mk ho
            clear HB2
            have HB2 := Aside0.mk hb
            clear hb hg_ hat_ ho
            refine hK.out _ _ trivial (fun hHeld => ?_)
            clear hK K
            refine En (a' := ?_) ?_ ?_
            rotate_left
            ·show Act.put _ (some 59) _ = _
             simp only [Act.put, List.setIfInBounds_toArray, List.set_cons_zero, List.set_cons_succ, Aj, Ak]
             rfl
            refine one_ (i := 6) (N := some 61) #[true, true, true, true, true, true, true, false, true, true, true, false, false] rfl rfl (by kernel_rfl) (by decide) (fun K hK => ?_)
            refine Kd.Fz (Kd.int .i64) W0_.heap.size 3 ?hg (N := 61) ?hd (xs := ([ii] : List Int)) (inner := [.int .i64 ii]) (ok := fun _ => True) (okp := fun _ => True) ?hr ?hp (fun _ hk => hk) trivial HB2.out (below_size HB2.out) (by simp) ?_; (case hd => rfl); (case hg => rfl); (case hr => first | (go_simp; done) | (go_simp; rfl)); (case hp => exact (Dw.one (show Kd.M (Kd.int .i64) _ _ _ ii [.int .i64 ii] from rfl) (Dw.none _ _)))
            intro v40_ W3_ ho hb hg_ hnew_
            obtain ⟨A40, c40, e40_⟩ := Kd.R_slice ho
            subst e40_
            have HL := Aside0.mk ho
            have m_ := Aside0.mk (Kd.Ht HN.out hg_ (fun _ _ h_ => nomatch h_))
            clear HN
            have HN := m_
            clear m_
            clear HB2
            have HB2 := Aside0.mk hb
            clear hb hg_ hnew_ ho
            refine hK.out _ _ trivial (fun hHeld => ?_)
            clear hK K
            refine En (a' := ?_) ?_ ?_
            rotate_left
            ·show Act.put _ (some 61) _ = _
             simp only [Act.put, List.setIfInBounds_toArray, List.set_cons_zero, List.set_cons_succ, Aj, Ak]
             rfl
            exact En Ybg_ (hCont (v31, v35, A40, c40) _ ⟨HN, HL, HB2⟩)
           ·skip
            refine Kd.Fz (Kd.int .i64) W0_.heap.size 3 ?hg (N := 61) ?hd (xs := ([ii] : List Int)) (inner := [.int .i64 ii]) (ok := fun _ => True) (okp := fun _ => True) ?hr ?hp (fun _ hk => hk) trivial HB2.out (below_size HB2.out) (by simp) ?_; (case hd => rfl); (case hg => rfl); (case hr => first | (go_simp; done) | (go_simp; rfl)); (case hp => exact (Dw.one (show Kd.M (Kd.int .i64) _ _ _ ii [.int .i64 ii] from rfl) (Dw.none _ _)))
            intro v40_ W2_ ho hb hg_ hnew_
            obtain ⟨A40, c40, e40_⟩ := Kd.R_slice ho
            subst e40_
            have HL := Aside0.mk ho
            have NE_ := Aside0.mk (show v31.ownBlock ≠ (Value.slice A40 ([ii] : List Int).length c40).ownBlock by obtain ⟨b_, hb1_, hb2_⟩ := hnew_; intro e_; rw [hb1_] at e_; have := Kd.R_lt HN.out b_ e_; omega)
            have m_ := Aside0.mk (Kd.Ht HN.out hg_ (fun _ _ h_ => nomatch h_))
            clear HN
            have HN := m_
            clear m_
            clear HB2
            have HB2 := Aside0.mk hb
            clear hb hg_ hnew_ ho
            refine hK.out _ _ trivial (fun hHeld => ?_)
            clear hK K
            refine En (a' := ?_) ?_ ?_
            rotate_left
            ·show Act.put _ (some 61) _ = _
             simp only [Act.put, List.setIfInBounds_toArray, List.set_cons_zero, List.set_cons_succ, Aj, Ak]
             rfl
            refine one_ (i := 4) (N := some 59) #[true, true, true, true, true, true, true, false, true, true, true, false, false] rfl rfl (by kernel_rfl) (by decide) (fun K hK => ?_)
            refine Kd.Ei (Kd.int .i64) (w0 := W0_) W0_.heap.size (by rfl) (.tmp 55) (.tmp 58) 53 3 (.int .i64 0) 8 rfl Try.underlying53 info3 rfl (by decide) (by omega) v31 [] (out.take x) (some ado_) x co (fun _ => True) (fun _ => False) rfl rfl HN.out Ybd_ (fun _ _ h => h) (fun _ h => h.elim) (fun _ _ => trivial) HB2.out (below_size HB2.out) Yh_ ?_
            intro v35 W3_ ho hb hg_ hat_
            rw [List.nil_append] at ho
            have m_ := Aside0.mk (Kd.Ic HL.out rfl hg_ NE_.out)
            clear HL
            have HL := m_
            clear m_
            clear NE_
            clear HN
            have HN := Aside0.mk ho
            clear HB2
            have HB2 := Aside0.mk hb
            clear hb hg_ hat_ ho
            refine hK.out _ _ trivial (fun hHeld => ?_)
            clear hK K
            refine En (a' := ?_) ?_ ?_
            rotate_left
            ·show Act.put _ (some 59) _ = _
             simp only [Act.put, List.setIfInBounds_toArray, List.set_cons_zero, List.set_cons_succ, Aj, Ak]
             rfl
            exact En Ybg_ (hCont (v31, v35, A40, c40) _ ⟨HN, HL, HB2⟩)
          ·skip
           refine Kd.Fz (Kd.int .i64) W0_.heap.size 3 ?hg (N := 61) ?hd (xs := ([ii] : List Int)) (inner := [.int .i64 ii]) (ok := fun _ => True) (okp := fun _ => True) ?hr ?hp (fun _ hk => hk) trivial HB2.out (below_size HB2.out) (by simp) ?_; (case hd => rfl); (case hg => rfl); (case hr => first | (go_simp; done) | (go_simp; rfl)); (case hp => exact (Dw.one (show Kd.M (Kd.int .i64) _ _ _ ii [.int .i64 ii] from rfl) (Dw.none _ _)))
           intro v40_ W1_ ho hb hg_ hnew_
           obtain ⟨A40, c40, e40_⟩ := Kd.R_slice ho
           subst e40_
           have HL := Aside0.mk ho
           clear HB2
           have HB2 := Aside0.mk hb
           clear hb hg_ hnew_ ho
           refine hK.out _ _ trivial (fun hHeld => ?_)
           clear hK K
           refine En (a' := ?_) ?_ ?_
           rotate_left
           ·show Act.put _ (some 61) _ = _
            simp only [Act.put, List.setIfInBounds_toArray, List.set_cons_zero, List.set_cons_succ, Aj, Ak]
            rfl
           refine one_ (i := 0) (N := some 55) #[true, true, true, true, false, true, true, false, true, true, true, false, false] rfl rfl (by kernel_rfl) (by decide) (fun K hK => ?_)
           refine Kd.Fz (Kd.int .i64) W0_.heap.size 3 ?hg (N := 55) ?hd (xs := ([] : List Int)) (inner := []) (ok := fun _ => True) (okp := fun _ => True) ?hr ?hp (fun _ hk => hk) trivial HB2.out (below_size HB2.out) (by simp) ?_; (case hd => rfl); (case hg => rfl); (case hr => first | (go_simp; done) | (go_simp; rfl)); (case hp => exact (Dw.none _ _))
           intro v31 W2_ ho hb hg_ hnew_
           have HN := Aside0.mk ho
           have NE_ := Aside0.mk (show v31.ownBlock ≠ (Value.slice A40 ([ii] : List Int).length c40).ownBlock by obtain ⟨b_, hb1_, hb2_⟩ := hnew_; intro e_; rw [hb1_] at e_; have := Kd.R_lt HL.out b_ e_.symm; omega)
           have m_ := Aside0.mk (Kd.Ht HL.out hg_ (fun _ _ h_ => nomatch h_))
           clear HL
           have HL := m_
           clear m_
           clear HB2
           have HB2 := Aside0.mk hb
           clear hb hg_ hnew_ ho
           refine hK.out _ _ trivial (fun hHeld => ?_)
           clear hK K
           refine En (a' := ?_) ?_ ?_
           rotate_left
           ·show Act.put _ (some 55) _ = _
            simp only [Act.put, List.setIfInBounds_toArray, List.set_cons_zero, List.set_cons_succ, Aj, Ak]
            rfl
           refine one_ (i := 4) (N := some 59) #[true, true, true, true, true, true, true, false, true, true, true, false, false] rfl rfl (by kernel_rfl) (by decide) (fun K hK => ?_)
           refine Kd.Ei (Kd.int .i64) (w0 := W0_) W0_.heap.size (by rfl) (.tmp 55) (.tmp 58) 53 3 (.int .i64 0) 8 rfl Try.underlying53 info3 rfl (by decide) (by omega) v31 [] (out.take x) (some ado_) x co (fun _ => True) (fun _ => False) rfl rfl HN.out Ybd_ (fun _ _ h => h) (fun _ h => h.elim) (fun _ _ => trivial) HB2.out (below_size HB2.out) Yh_ ?_
           intro v35 W3_ ho hb hg_ hat_
           rw [List.nil_append] at ho
           have m_ := Aside0.mk (Kd.Ic HL.out rfl hg_ NE_.out)
           clear HL
           have HL := m_
           clear m_
           clear NE_
           clear HN
           have HN := Aside0.mk ho
           clear HB2
           have HB2 := Aside0.mk hb
           clear hb hg_ hat_ ho
           refine hK.out _ _ trivial (fun hHeld => ?_)
           clear hK K
           refine En (a' := ?_) ?_ ?_
           rotate_left
           ·show Act.put _ (some 59) _ = _
            simp only [Act.put, List.setIfInBounds_toArray, List.set_cons_zero, List.set_cons_succ, Aj, Ak]
            rfl
           exact En Ybg_ (hCont (v31, v35, A40, c40) _ ⟨HN, HL, HB2⟩)
         clear HB2
         rintro ⟨v31, v35, A40, c40⟩ W4_ ⟨HN, HL, HB2⟩
         have hHeld : (fun w' => True) W4_ := trivial
         refine En (a' := ?_) ?_ ?_
         rotate_left
         ·simp only [Gz, Act.put, List.setIfInBounds_toArray, List.set_cons_zero, List.set_cons_succ]
          rfl
         refine one_ (i := 7) (N := some 62) #[true, true, true, true, true, true, true, true, true, true, true, false, false] rfl rfl (by kernel_rfl) (by decide) (fun K hK => ?_)
         refine Kd.Ei (Kd.int .i64) (w0 := W0_) W0_.heap.size (by rfl) (.tmp 59) (.tmp 61) 53 3 (.int .i64 0) 8 rfl Try.underlying53 info3 rfl (by decide) (by omega) v35 (out.take x) [ii] A40 ([ii] : List Int).length c40 (fun _ => True) (fun _ => False) rfl rfl HN.out ((Kd.R_reads' HL.out).2.2) (fun _ _ h => h) (fun _ h => h.elim) (fun _ _ => trivial) HB2.out (below_size HB2.out) Yh_ ?_
         intro v41 W5_ ho hb hg_ hat_
         clear HN HL
         have HN := Aside0.mk ho
         clear HB2
         have HB2 := Aside0.mk hb
         clear hb hg_ hat_ ho
         refine hK.out _ _ trivial (fun hHeld => ?_)
         clear hK K
         refine En (a' := ?_) ?_ ?_
         rotate_left
         ·show Act.put _ (some 62) _ = _
          simp only [Act.put, List.setIfInBounds_toArray, List.set_cons_zero, List.set_cons_succ, Aj, Ak]
          rfl
         refine one_ (i := 11) (N := some 66) #[true, true, true, true, true, true, true, true, true, true, true, true, false] rfl rfl (by kernel_rfl) (by decide) (fun K hK => ?_)
         refine Kd.Ei (Kd.int .i64) (w0 := W0_) W0_.heap.size (by rfl) (.tmp 62) (.tmp 65) 53 3 (.int .i64 0) 8 rfl Try.underlying53 info3 rfl (by decide) (by omega) v41 (out.take x ++ [ii]) (out.drop x) Ac_ (out.length - x) (co - x) (fun _ => True) (fun _ => False) rfl rfl HN.out Ycb_ (fun _ _ h => h) (fun _ h => h.elim) (fun _ _ => trivial) HB2.out (below_size HB2.out) Yh_ ?_
         intro v45 W6_ ho hb hg_ hat_
         clear HN
         have HN := Aside0.mk ho
         clear HB2
         have HB2 := Aside0.mk hb
         clear hb hg_ hat_ ho
         refine hK.out _ _ trivial (fun hHeld => ?_)
         clear hK K
         refine En (a' := ?_) ?_ ?_
         rotate_left
         ·show Act.put _ (some 66) _ = _
          simp only [Act.put, List.setIfInBounds_toArray, List.set_cons_zero, List.set_cons_succ, Aj, Ak]
          rfl
         refine Bg (i := 12) (N := some 6) (v := ?_) (a' := ?_) #[true, true, true, true, true, true, true, true, true, true, true, true, true] rfl rfl (by kernel_rfl) (fun _ _ _ h => h) (Or.inl ⟨by rfl, ?_⟩) ?_ ?_
         rotate_left
         ·intro w'
          go_simp
          first | done | with_reducible rfl
         rotate_left
         ·simp only [Act.put, List.setIfInBounds_toArray, List.set_cons_zero, List.set_cons_succ, Aj, Ak]
          rfl
         refine done_ (by kernel_rfl) ?_
         have m_ := Aside0.mk (Kd.R_below HA.out HB2.out)
         clear HA
         have HA := m_
         clear m_
         have HO := Aside0.mk (Kd.R_lower HN.out (below_size HB.out))
         have m_ := Aside0.mk (below_step HB.out HB2.out)
         clear HB HN HB2 HRo hcut1 hcut2 hi0_ hsz0_
         have HB := m_
         clear m_
         have HO2 := Aside0.mk (show Kd.R (Kd.int .i64) 3 W6_ w.heap.size (fun _ => True) v45 (Hl all a1 (i + 1)) from by rw [HNX.out]; unfold Gj; rw [← HPOS.out]; exact HO.out)
         try go_wp2
         repeat (go_quiet (fail); try go_wp2)
         go_roundg (all.length - (i + 1))
         case measure => have := HI.out; have := HCI.out; omega
         case rel => exact ⟨i + 1, _, rfl, HWI, ⟨by have := HCI.out; omega, by have := HI.out; omega⟩, HO2, HA, HB⟩
    ·have cb0 : decide (ii < (all.length : Int)) = false := decide_eq_false (by have := HII.out; omega)
     have e_ : i = all.length := by have := HI.out; omega
     go_wp2
     repeat (go_quiet (fail); try go_wp2)
     go_ret2
     exact ⟨_, by first | rfl | (simp; done) | (simp [*]; done), by rw [e_] at HO; exact HO.out, HB.out⟩
end Go.Proofs.Ytolaplcjbmjlmaa.X

namespace Go.Proofs
open Go.Shelf
def Try.lays189_ren : Go.Shelf.Ren := ⟨fun | 189 => 78 | 125 => 86 | 257 => 85 | 128 => 99 | 129 => 100 | 294 => 90 | 295 => 91 | 296 => 92 | 297 => 93 | 298 => 94 | 299 => 95 | 216 => 96 | 300 => 97 | 301 => 98 | 328 => 102 | 329 => 103 | 330 => 104 | 331 => 105 | 332 => 106 | 215 => 84 | 343 => 108 | n => n, fun | 28 => 53 | 3 => 3 | 46 => 89 | 0 => 0 | 51 => 101 | 53 => 71 | 4 => 4 | 183 => 94 | 182 => 93 | 131 => 22 | 5 => 5 | 9 => 9 | 218 => 103 | 222 => 107 | 228 => 109 | 229 => 66 | n => n, fun | n => n⟩
theorem Try.lays189 : Go.Proofs.Lays.n189 Try.prog Try.lays189_ren := {
  mixed := by kernel_rfl
  f125 := Try.func86.trans (congrArg some (by kernel_rfl))
  f128 := Try.func99.trans (congrArg some (by kernel_rfl))
  f129 := Try.func100.trans (congrArg some (by kernel_rfl))
  f189 := Try.func78.trans (congrArg some (by kernel_rfl))
  f215 := Try.func84.trans (congrArg some (by kernel_rfl))
  f216 := Try.func96.trans (congrArg some (by kernel_rfl))
  f257 := Try.func85.trans (congrArg some (by kernel_rfl))
  f294 := Try.func90.trans (congrArg some (by kernel_rfl))
  f295 := Try.func91.trans (congrArg some (by kernel_rfl))
  f296 := Try.func92.trans (congrArg some (by kernel_rfl))
  f297 := Try.func93.trans (congrArg some (by kernel_rfl))
  f298 := Try.func94.trans (congrArg some (by kernel_rfl))
  f299 := Try.func95.trans (congrArg some (by kernel_rfl))
  f300 := Try.func97.trans (congrArg some (by kernel_rfl))
  f301 := Try.func98.trans (congrArg some (by kernel_rfl))
  f328 := Try.func102.trans (congrArg some (by kernel_rfl))
  f329 := Try.func103.trans (congrArg some (by kernel_rfl))
  f330 := Try.func104.trans (congrArg some (by kernel_rfl))
  f331 := Try.func105.trans (congrArg some (by kernel_rfl))
  f332 := Try.func106.trans (congrArg some (by kernel_rfl))
  f343 := Try.func108.trans (congrArg some (by kernel_rfl))
  t0 := Try.underlying0
  a0 := Try.isAgg0
  z0 := Try.sizeOf0
  v0 := Try.zeroValue0
  t3 := Try.underlying3
  a3 := Try.isAgg3
  z3 := Try.sizeOf3
  v3 := Try.zeroValue3
  t4 := Try.underlying4
  a4 := Try.isAgg4
  z4 := Try.sizeOf4
  v4 := Try.zeroValue4
  t5 := Try.underlying5
  a5 := Try.isAgg5
  z5 := Try.sizeOf5
  v5 := Try.zeroValue5
  t9 := Try.underlying9
  a9 := Try.isAgg9
  z9 := Try.sizeOf9
  v9 := Try.zeroValue9
  t28 := Try.underlying53
  a28 := Try.isAgg53
  z28 := Try.sizeOf53
  v28 := Try.zeroValue53
  t46 := Try.underlying89
  a46 := Try.isAgg89
  z46 := Try.sizeOf89
  v46 := Try.zeroValue89
  t51 := Try.underlying101
  a51 := Try.isAgg101
  z51 := Try.sizeOf101
  v51 := Try.zeroValue101
  t53 := Try.underlying71
  a53 := Try.isAgg71
  z53 := Try.sizeOf71
  v53 := Try.zeroValue71
  t131 := Try.underlying22
  a131 := Try.isAgg22
  z131 := Try.sizeOf22
  v131 := Try.zeroValue22
  t182 := Try.underlying93
  a182 := Try.isAgg93
  z182 := Try.sizeOf93
  v182 := Try.zeroValue93
  t183 := Try.underlying94
  a183 := Try.isAgg94
  z183 := Try.sizeOf94
  v183 := Try.zeroValue94
  t218 := Try.underlying103
  a218 := Try.isAgg103
  z218 := Try.sizeOf103
  v218 := Try.zeroValue103
  t222 := Try.underlying107
  a222 := Try.isAgg107
  z222 := Try.sizeOf107
  v222 := Try.zeroValue107
  t228 := Try.underlying109
  a228 := Try.isAgg109
  z228 := Try.sizeOf109
  v228 := Try.zeroValue109
  t229 := Try.underlying66
  a229 := Try.isAgg66
  z229 := Try.sizeOf66
  v229 := Try.zeroValue66 }
open Go.Sort Go.RowKit in
theorem Try.slices_Sort_int (blk off cap : Nat) (zs : List Int) (w : World) (hH : Holds (Value.int .i64) w blk off zs.toArray) (hblk : blk < w.heap.size) (hsz : zs.length < 4611686018427387904) :
    Calls Try.prog 78 #[.slice (some ⟨blk, off, none⟩) zs.length cap] w fun e w' =>
      e = .returned (.tuple #[]) ∧ ∃ n os, w' = grow (putRow (Value.int .i64) (Sort.ahead w n) blk off (zs.mergeSort fun x y => decide (x ≤ y)).toArray) os := Any.slices_Sort_int Try.lays189 blk off cap zs w hH hblk hsz
open Go.RowKit Go.Sort in
/-- .. and plain. (LAID: no walk: one application.) -/
theorem Try.slices_Sort_int_none (p : Option Addr) (cap : Nat) (w : World) :
    Calls Try.prog 78 #[.slice p 0 cap] w fun e w' => e = .returned (.tuple #[]) ∧ w' = w := Any.slices_Sort_int_none Try.lays189 p cap w
def Try.laysSlH6_f82_ren : Go.Shelf.Ren := ⟨fun | 6 => 82 | n => n, fun | 22 => 53 | 23 => 3 | 25 => 76 | 3 => 3 | 0 => 0 | 4 => 4 | n => n, fun | n => n⟩
theorem Try.laysSlH6_f82 : Go.Proofs.SlLaysH.n6 Try.prog Try.laysSlH6_f82_ren := {
  mixed := by kernel_rfl
  f6 := ⟨Try.f82.name, by decide, Try.func82.trans (congrArg some (by kernel_rfl))⟩
  t0 := Try.underlying0
  a0 := Try.isAgg0
  z0 := Try.sizeOf0
  v0 := Try.zeroValue0
  t3 := Try.underlying3
  a3 := Try.isAgg3
  z3 := Try.sizeOf3
  v3 := Try.zeroValue3
  t4 := Try.underlying4
  a4 := Try.isAgg4
  z4 := Try.sizeOf4
  v4 := Try.zeroValue4
  t22 := Try.underlying53
  a22 := Try.isAgg53
  z22 := Try.sizeOf53
  v22 := Try.zeroValue53
  a23 := Try.isAgg3
  z23 := Try.sizeOf3
  t25 := Try.underlying76
  a25 := Try.isAgg76
  z25 := Try.sizeOf76
  v25 := Try.zeroValue76 }
open Go.RowKit Go.Lib in
/-- The same at a slice of length 0, a nil one too: the predicate is not called: nothing is asked of it. (LAID AT THE INSTANCE 'slices.IndexFunc[[]int,int]': no walk: one application.) -/
theorem Try.slices_IndexFunc_empty {α : Type} [Inhabited α] (a : Option Addr) (c : Nat) (fv : Value) (w : World) :
    Calls Try.prog 82 #[.slice a 0 c, fv] w fun e w' => e = .returned (.int .i64 (-1)) ∧ w' = w := AnyE.slices_IndexFunc_empty Try.laysSlH6_f82 a c fv w
def Try.laysSlH10_f71_ren : Go.Shelf.Ren := ⟨fun | 10 => 71 | 6 => 82 | n => n, fun | 22 => 53 | 23 => 3 | 25 => 76 | 3 => 3 | 4 => 4 | 0 => 0 | n => n, fun | n => n⟩
theorem Try.laysSlH10_f71 : Go.Proofs.SlLaysH.n10 Try.prog Try.laysSlH10_f71_ren := {
  mixed := by kernel_rfl
  f6 := ⟨Try.f82.name, by decide, Try.func82.trans (congrArg some (by kernel_rfl))⟩
  f10 := ⟨Try.f71.name, by decide, Try.func71.trans (congrArg some (by kernel_rfl))⟩
  t0 := Try.underlying0
  a0 := Try.isAgg0
  z0 := Try.sizeOf0
  v0 := Try.zeroValue0
  t3 := Try.underlying3
  a3 := Try.isAgg3
  z3 := Try.sizeOf3
  v3 := Try.zeroValue3
  t4 := Try.underlying4
  a4 := Try.isAgg4
  z4 := Try.sizeOf4
  v4 := Try.zeroValue4
  t22 := Try.underlying53
  a22 := Try.isAgg53
  z22 := Try.sizeOf53
  v22 := Try.zeroValue53
  a23 := Try.isAgg3
  z23 := Try.sizeOf3
  t25 := Try.underlying76
  a25 := Try.isAgg76
  z25 := Try.sizeOf76
  v25 := Try.zeroValue76 }
open Go.RowKit Go.Lib Go.Sort in
theorem Try.slices_DeleteFunc {α : Type} [Inhabited α] (enc : α → Value) (hO : OneCell enc) (p : α → Bool) (g : Nat) (lb : Array Value) (eg : ∀ args w, (callFunc g args).run Try.prog w = .ok (.enter g args) w) (zr : α) (v23 : ∀ w, (zeroValue 3).run Try.prog w = .ok (enc zr) w) (blk off cap : Nat) (d : Array α) (w : World) (hp : PredAt Try.prog g lb enc p w) (hpo : PredOver Try.prog g lb enc p blk off d.size w) (hH : Holds enc w blk off d) (hsz : d.size ≤ 9223372036854775807) (hcap : d.size ≤ cap) :
    Calls Try.prog 71 #[.slice (some ⟨blk, off, none⟩) d.size cap, .func (.func g) #[] lb] w fun e w' => e = .returned (.slice (some ⟨blk, off, none⟩) (d.toList.filter fun x => !p x).length cap) ∧ ∃ q, w' = putRow enc (Sort.ahead w q) blk off ((d.toList.filter fun x => !p x) ++ List.replicate (d.size - (d.toList.filter fun x => !p x).length) zr).toArray := AnyE.slices_DeleteFunc Try.laysSlH10_f71 enc hO p g lb eg zr v23 blk off cap d w hp hpo hH hsz hcap
def Try.laysSlF20_f88_ren : Go.Shelf.Ren := ⟨fun | 20 => 88 | n => n, fun | 24 => 3 | 22 => 53 | 3 => 3 | 25 => 80 | 4 => 4 | 0 => 0 | n => n, fun | n => n⟩
theorem Try.laysSlF20_f88 : Go.Proofs.SlLaysF.n20 Try.prog Try.laysSlF20_f88_ren := {
  mixed := by kernel_rfl
  f20 := ⟨Try.f88.name, by decide, Try.func88.trans (congrArg some (by kernel_rfl))⟩
  t0 := Try.underlying0
  a0 := Try.isAgg0
  z0 := Try.sizeOf0
  v0 := Try.zeroValue0
  t3 := Try.underlying3
  a3 := Try.isAgg3
  z3 := Try.sizeOf3
  v3 := Try.zeroValue3
  t4 := Try.underlying4
  a4 := Try.isAgg4
  z4 := Try.sizeOf4
  v4 := Try.zeroValue4
  t22 := Try.underlying53
  a22 := Try.isAgg53
  z22 := Try.sizeOf53
  v22 := Try.zeroValue53
  a24 := Try.isAgg3
  z24 := Try.sizeOf3
  t25 := Try.underlying80
  a25 := Try.isAgg80
  z25 := Try.sizeOf80
  v25 := Try.zeroValue80 }
open Go.RowKit Go.Lib Go.Sort in
theorem Try.insertionSortCmpFunc_one {α : Type} [Inhabited α] (enc : α → Value) (hO : OneCell enc) (cf : α → α → Int) (g : Nat) (cb : Array Value) (blk off cap a b : Nat) (d : Array α) (w : World) (eg : ∀ args w, (callFunc g args).run Try.prog w = .ok (.enter g args) w) (hcmp : CmpReads Try.prog g cb enc cf blk off d.size w) (hH : Holds enc w blk off d) (hab : a ≤ b) (hb : b ≤ d.size) (hsz : d.size < 4611686018427387904) :
    Calls Try.prog 88 #[.slice (some ⟨blk, off, none⟩) d.size cap, .int .i64 a, .int .i64 b, .func (.func g) #[] cb] w fun e w' =>
      e = .returned (.tuple #[]) ∧ ∃ n, w' = (putRow enc w blk off (Sort.insertionSort (ltOf cf) d a b)).drewN n := Any.insertionSortCmpFunc_one Try.laysSlF20_f88 enc hO cf g cb blk off cap a b d w eg hcmp hH hab hb hsz
end Go.Proofs

namespace Go.Proofs.Ytolaplcjbmjlmaa.X
open Go.RowKit Go.Proofs.YtolaplcjbmjlmaaW.PrintWords Go.Proofs.YtolaplcjbmjlmaaW.PrintLast Go.Proofs.YtolaplcjbmjlmaaW.PrintMore
attribute [local go_sem] max2_int min2_int max_two min_two max_three min_three max_four min_four
/-- The members of a list, as values. -/
def memEnc (l : List Int) (x : {x : Int // x ∈ l}) : Value := .int .i64 x.1
theorem putRow_mem {l : List Int} [Inhabited {x : Int // x ∈ l}] (w : World) (blk : Nat) (d : Array {x : Int // x ∈ l}) : Go.Sort.putRow (memEnc l) w blk 0 d = Go.Sort.putRow (Value.int .i64) w blk 0 (d.map Subtype.val) := by
 unfold Go.Sort.putRow
 refine congrArg (Go.Sort.mapBlock w blk) (funext fun c => ?_)
 unfold Go.Sort.putCells
 have : (fun (k : Nat) (x : Value) => if 0 ≤ k ∧ k < 0 + d.size then memEnc l d[k - 0]! else x) = (fun k x => if 0 ≤ k ∧ k < 0 + (d.map Subtype.val).size then Value.int .i64 (d.map Subtype.val)[k - 0]! else x) := by
  funext k x
  by_cases hk : k < d.size
  ·simp [hk, memEnc]
  ·simp [hk]
 rw [this]
theorem below_sorted {w0 w : World} {blk n : Nat} {os : Array Obj} (d : Array Int) (hB : Below w0.heap.size w0 w) (hblk : w0.heap.size ≤ blk) : Below w0.heap.size w0 (Go.Sort.grow (Go.Sort.putRow (Value.int .i64) (Go.Sort.ahead w n) blk 0 d) os) := by
 have hg := grownBy_sortedI (w := w) (g := blk) (n := n) (os := os) d
 exact ⟨hg.os.trans hB.os, hg.tape.trans hB.tape, hg.output.trans hB.output, Nat.le_trans hB.size hg.size, fun i hi => (hg.block i (Nat.lt_of_lt_of_le hi hB.size) (fun e => by injection e with e; omega)).trans (hB.block i hi)⟩
set_option maxHeartbeats 2000000 in
set_option maxRecDepth 100000 in
theorem slices_DeleteFunc_ints.calls {g : Nat} {lb : Array Value} (eg : ∀ args w, (callFunc g args).run Try.prog w = .ok (.enter g args) w) (p : Int → Bool) (w0 w : World) (blk cap : Nat) (l : List Int) (h0 : 0 ∈ l) (base : Nat) (ok : Nat → Prop)
  (HO : Kd.R (Kd.int .i64) 3 w base ok (.slice (some ⟨blk, 0, none⟩) l.length cap) l) (hB : Below w0.heap.size w0 w) (hblk : w0.heap.size ≤ blk)
  (hp : ∀ (W : World) (x : Int), x ∈ l → Below w0.heap.size w0 W → Calls Try.prog g (#[.int .i64 x] ++ lb) W fun e w' => e = .returned (.bool (p x)) ∧ ∃ q, w' = W.drewN q) :
  Calls Try.prog 71 #[.slice (some ⟨blk, 0, none⟩) l.length cap, .func (.func g) #[] lb] w fun e w' => e = .returned (.slice (some ⟨blk, 0, none⟩) (l.filter fun x => !p x).length cap) ∧ Kd.R (Kd.int .i64) 3 w' base ok (.slice (some ⟨blk, 0, none⟩) (l.filter fun x => !p x).length cap) (l.filter fun x => !p x) ∧ Below w0.heap.size w0 w' := by
 have hown := Kd.own_of_R HO
 have hok := HO.1
 rcases hown.2 with ⟨h, _⟩ | ⟨g', cap', cur, hv, hbase, hb, hn, hcap, hsz, htake⟩
 ·cases h
 cases hv
 haveI : Inhabited {x : Int // x ∈ l} := ⟨⟨0, h0⟩⟩
 have hd : (l.attach.toArray).size = l.length := by simp
 have hdm : (l.attach.toArray).map Subtype.val = l.toArray := by simp
 have hlen : l.length ≤ cur.size := by omega
 have htake' : cur.toList.take l.length = l.map (Value.int .i64) := by rw [Nat.mul_one] at htake; exact htake
 have hH0 := holds_of_blockI hb htake'
 have hH : Go.Sort.Holds (memEnc l) w blk 0 l.attach.toArray := fun j hj => by
  have hj' : j < l.length := by omega
  have := hH0 j (by simpa using hj')
  simpa [memEnc, hj'] using this
 have hmax : l.length ≤ 9223372036854775807 := by have : maxLen = 140737488355328 ∨ maxLen ≤ 9223372036854775807 := Or.inr (by decide); rcases this with e | e <;> omega
 have H := Go.Proofs.Try.slices_DeleteFunc (memEnc l) (fun _ => rfl) (fun x => p x.1) g lb eg ⟨0, h0⟩ (fun _ => rfl) blk 0 cap l.attach.toArray w
  (fun W x hW => hp W x.1 x.2 (hB.trans (hW.mono hB.size)))
  (fun n os dk x hdk => by
   unfold Go.Proofs.sortWorld
   rw [putRow_mem]
   exact hp _ x.1 x.2 (below_sorted _ hB hblk))
  hH (by rw [hd]; exact hmax) (by rw [hd]; exact hn)
 rw [hd] at H
 have hfil : ((l.attach).filter fun x => !p x.1).map Subtype.val = l.filter fun x => !p x := by
  have := List.filter_map (f := Subtype.val) (p := fun x => !p x) (l := l.attach)
  rw [List.attach_map_subtype_val] at this
  exact this.symm
 have hfl : ((l.attach).filter fun x => !p x.1).length = (l.filter fun x => !p x).length := by rw [← hfil, List.length_map]
 refine H.mono ?_
 rintro e w' ⟨rfl, q, rfl⟩
 have hle : (l.filter fun x => !p x).length ≤ l.length := List.length_filter_le _ _
 rw [putRow_mem]
 have hts : (((l.attach.toArray).toList.filter fun x => !p x.1) ++ List.replicate (l.length - ((l.attach.toArray).toList.filter fun x => !p x.1).length) (⟨0, h0⟩ : {x : Int // x ∈ l})).toArray.map Subtype.val = ((l.filter fun x => !p x) ++ List.replicate (l.length - (l.filter fun x => !p x).length) 0).toArray := by
  simp [hfil, hfl]
 rw [hts]
 have htl : ((l.filter fun x => !p x) ++ List.replicate (l.length - (l.filter fun x => !p x).length) (0 : Int)).length = l.length := by simp; omega
 refine ⟨by simp [hfl], ?_, ?_⟩
 ·refine Kd.R_of_own ⟨by simp [encs], .inr ⟨blk, cap, _, rfl, hbase, heap_sortedI (n := q) (os := #[]) _ hb, by omega, hcap, by simp [Go.Sort.putCells, hsz], ?_⟩⟩ hok
  have := take_putCellsI cur ((l.filter fun x => !p x) ++ List.replicate (l.length - (l.filter fun x => !p x).length) (0 : Int)) (by omega)
  rw [Nat.mul_one]
  have e2 := congrArg (List.take (l.filter fun x => !p x).length) this
  rw [List.take_take, htl, Nat.min_eq_left hle, List.map_append, List.take_left' (by simp)] at e2
  exact e2
 ·exact below_sorted (os := #[]) _ hB hblk
/-- Of an empty slice. -/
theorem slices_DeleteFunc_none.calls (a : Option Addr) (c : Nat) (fv : Value) (w : World) :
  Calls Try.prog 71 #[.slice a 0 c, fv] w fun e w' => e = .returned (.slice a 0 c) ∧ Drawn0 w w' := by
 go_enter Try.func71, Try.ntmps71
 go_wp2_with (go_at_call 82; refine (Go.Proofs.Try.slices_IndexFunc_empty (α := Int) a c fv _).mono ?_; rintro e w' ⟨rfl, rfl⟩)
 repeat (go_quiet (fail); try go_wp2)
 go_ret
 exact ⟨rfl, Drawn0.refl _⟩
end Go.Proofs.Ytolaplcjbmjlmaa.X

namespace Go.Proofs.Ytolaplcjbmjlmaa.X
open Go.RowKit Go.Proofs.YtolaplcjbmjlmaaW.PrintWords Go.Proofs.YtolaplcjbmjlmaaW.PrintLast Go.Proofs.YtolaplcjbmjlmaaW.PrintMore
attribute [local go_sem] max2_int min2_int max_two min_two max_three min_three max_four min_four
def impl_upTo.l0 : Nat → List Int → Int → Int → Option (List Int)
 | 0, _, _, _ => none
 | k + 1, x3, x6, x7 => if x7 < x6 then (if x3.length < 17592186044416 then (impl_upTo.l0 k (x3 ++ [x7]) x6 (wrap64 (x7 + 1))) else (none)) else (some x3)
def impl_upTo.f (k : Nat) (a0 : Int) : Option (List Int) := impl_upTo.l0 k (([] : List Int)) a0 0
theorem impl_upTo.Dq : ∀ k, (∀ y0 y1 y2, LeO (impl_upTo.l0 k y0 y1 y2) (impl_upTo.l0 (k + 1) y0 y1 y2))
 | 0 => fun _ _ _ r h => by simp [impl_upTo.l0] at h
 | k + 1 => by
  have ih0 := impl_upTo.Dq k
  ·intro y0 y1 y2
   unfold impl_upTo.l0
   repeat' first
   | (with_reducible exact ih0 _ _ _)
   | (with_reducible exact LeO.refl _)
   | (with_reducible exact LeO.none _)
   | (with_reducible refine LeO.ite ?_ ?_)
   | (with_reducible refine LeO.bind ?_ (fun _ => ?_))
   | exact ih0 _ _ _
   | exact LeO.none _
   | refine LeO.ite ?_ ?_
   | refine LeO.bind ?_ (fun _ => ?_)
theorem impl_upTo.mono : ∀ a0 k, LeO (impl_upTo.f k a0) (impl_upTo.f (k + 1) a0) := by
 intro a0 k
 have ih0 := impl_upTo.Dq k
 unfold impl_upTo.f
 repeat' first
   | (with_reducible exact ih0 _ _ _)
   | (with_reducible exact LeO.refl _)
   | (with_reducible exact LeO.none _)
   | (with_reducible refine LeO.ite ?_ ?_)
   | (with_reducible refine LeO.bind ?_ (fun _ => ?_))
   | exact ih0 _ _ _
   | exact LeO.none _
   | refine LeO.ite ?_ ?_
   | refine LeO.bind ?_ (fun _ => ?_)
set_option maxHeartbeats 8000000 in
set_option maxRecDepth 100000 in
theorem impl_upTo.calls (k : Nat) (a0 : Int) (r : List Int) (w : World) (h : impl_upTo.f k a0 = some r) :
  Calls Try.prog 72 #[.int .i64 a0] w fun e w' => ∃ v0_ : Value, e = .returned (v0_) ∧ Kd.R (Kd.int .i64) 3 w' w.heap.size (fun _ => True) v0_ r ∧ Below w.heap.size w w' := by
 have HB := Aside0.mk (Below.refl w.heap.size w)
 have H : (impl_upTo.l0 k (([] : List Int)) a0 0) = some r := h
 clear h
 obtain ⟨y551, hy551⟩ : ∃ y_ : List Int, y_ = (([] : List Int)) := ⟨_, rfl⟩
 replace H : (impl_upTo.l0 k y551 a0 0) = some r := by first | (rw [hy551]; with_reducible exact H) | (have H2_ := (Option.bind_some _ _).symm.trans H; rw [hy551]; with_reducible exact H2_) | (have H2_ := (Option.bind_some _ _).symm.trans H; with_reducible exact H2_) | with_reducible exact H | (rw [hy551]; exact H) | exact H
 have Ny551 := Aside0.mk hy551
 clear hy551
 have H' := Aside0.mk H
 clear H
 go_enter Try.func72, Try.ntmps72
 go_wp2_with (first | ((with_reducible refine gate_dst (N := 5) rfl ?_); refine Kd.R_lit (Kd.int .i64) _ 3 ?hg (N := 5) ?hd (xs := ([] : List Int)) (inner := []) (ok := fun _ => True) (okp := fun _ => True) ?hr ?hp (fun _ hk => hk) trivial (Below.refl _ _) (Nat.le_refl _) (by simp) ?_; (case hd => rfl); (case hg => rfl); (case hr => first | (go_simp; done) | (go_simp; rfl)); (case hp => exact (Dw.none _ _)); intro v552 w2 ho3 hb hg_ hnew_; clear hg_ hnew_; (first | rw [← Ny551.out] at ho3 | (simp only [Int.reduceToNat] at ho3; rw [← Ny551.out] at ho3)); have n0_ := Aside0.mk (Kd.R_lower ho3 (below_size Ya_)); have n1_ := Aside0.mk (below_step Ya_ hb); clear HB; have HO553 := n0_; have HB := n1_; clear n0_ n1_; clear hb ho3))
 go_loopg [3, 7] k (fun kq v3 v7 w' => ∃ (x3_1 : List Int) (x7_1 : Int), v7 = .int .i64 x7_1 ∧ Aside0 (impl_upTo.l0 kq x3_1 a0 x7_1 = some r) ∧ Aside0 (kq ≤ k) ∧ Aside0 (Kd.R (Kd.int .i64) 3 w' w.heap.size (fun _ => True) v3 x3_1) ∧ Aside0 (Below w.heap.size w w'))
 case atStart => exact ⟨(y551), (0), Yd_, H', ⟨Nat.le_refl _⟩, ⟨by (with_reducible repeat (first | apply Kd.Ap | apply Kd.Am | apply Kd.Ba)); exact HO553.out⟩, ⟨by repeat (first | (with_reducible first | exact HB.out | apply Af | apply Ad | apply Ae) | exact HB.out)⟩⟩
 case round =>
  clear H'
  try clear p2
  obtain ⟨x3_1, x7_1, rfl, HA, HK1, HO_3, HB⟩ := hrel
  cases gk with
  | zero => exact absurd HA.out (by simp [impl_upTo.l0])
  | succ k1 =>
   have H := HA.out
   clear HA
   simp only [impl_upTo.l0] at H
   by_cases c4 : x7_1 < a0
   ·rw [if_pos c4] at H
    have c4b0 : decide (x7_1 < a0) = true := decide_eq_true c4
    clear c4
    by_cases c5 : x3_1.length < 17592186044416
    ·rw [if_pos c5] at H
     have LMc5 := Aside0.mk c5
     clear c5
     obtain ⟨y554, hy554⟩ : ∃ y_ : List Int, y_ = (x3_1 ++ [x7_1]) := ⟨_, rfl⟩
     replace H : (impl_upTo.l0 k1 y554 a0 (wrap64 (x7_1 + 1))) = some r := by first | (rw [hy554]; with_reducible exact H) | (have H2_ := (Option.bind_some _ _).symm.trans H; rw [hy554]; with_reducible exact H2_) | (have H2_ := (Option.bind_some _ _).symm.trans H; with_reducible exact H2_) | with_reducible exact H | (rw [hy554]; exact H) | exact H
     have Ny554 := Aside0.mk hy554
     clear hy554
     have H' := Aside0.mk H
     clear H
     go_wp2_with (first | ((with_reducible refine H5 (b := .append) (xs := #[.tmp 10, .tmp 12]) rfl ?_); at_builtin; refine Kd.R_append (Kd.int .i64) (w0 := w) w.heap.size rfl (.tmp 10) (.tmp 12) 53 3 (.int .i64 0) 8 rfl Try.underlying53 info3 rfl (by decide) (by omega) u3 x3_1 x7_1 [.int .i64 x7_1] (fun _ => True) (fun _ => False) rfl rfl ?aP (fun _ hk => hk.elim) ?aF ?aO ?aB ?aS ?aL ?_; (case aP => exact rfl); (case aB => exact Ya_); (case aF => exact (fun _ _ => trivial)); (case aO => exact Yg_); (case aS => exact (below_size Ya_)); (case aL => have := LMc5.out; omega); intro v555 w6 ho hb hg hat; rw [← Ny554.out] at ho; have n0_ := Aside0.mk (hb); have n1_ := Aside0.mk (ho); clear HB; clear HO_3; have HB := n0_; have HO556 := n1_; clear n0_ n1_; clear ho hb hg hat))
     go_roundg k1
     case measure => have := HK1.out; omega
     case rel => exact ⟨(y554), (wrap64 (x7_1 + 1)), Yd_, H', ⟨by have := HK1.out; omega⟩, ⟨by (with_reducible repeat (first | apply Kd.Ap | apply Kd.Am | apply Kd.Ba)); exact HO556.out⟩, ⟨by repeat (first | (with_reducible first | exact HB.out | apply Af | apply Ad | apply Ae) | exact HB.out)⟩⟩
    ·rw [if_neg c5] at H
     exact absurd H (by simp)
   ·rw [if_neg c4] at H
    have c4b0 : decide (x7_1 < a0) = false := decide_eq_false c4
    clear c4
    obtain rfl := Option.some.inj H
    go_wp2
    go_ret
    exact ⟨_, by first | rfl | (simp [Aw, Az] <;> rfl) | (simp [*, Aw, Az] <;> rfl), by (with_reducible repeat (first | apply Kd.Ap | apply Kd.Am | apply Kd.Ba)); exact HO_3.out, by repeat (first | (with_reducible first | exact HB.out | apply Af | apply Ad | apply Ae) | exact HB.out)⟩
end Go.Proofs.Ytolaplcjbmjlmaa.X

namespace Go.Proofs.Ytolaplcjbmjlmaa.X
open Go.RowKit Go.Proofs.YtolaplcjbmjlmaaW.PrintWords Go.Proofs.YtolaplcjbmjlmaaW.PrintLast Go.Proofs.YtolaplcjbmjlmaaW.PrintMore
attribute [local go_sem] max2_int min2_int max_two min_two max_three min_three max_four min_four
/-- A stable sort, number by number. -/
def stabL (f : Int → Int → Bool) (l : List Int) : List Int := l.foldl (fun out v => Gj (f v) v out) []
section
variable {p : Int → Prop}
/-- The numbers of an array of members. -/
def E8 (d : Array {x : Int // p x}) : List Int := d.toList.map Subtype.val
theorem vals_length (d : Array {x : Int // p x}) : (E8 d).length = d.size := by simp [E8]
theorem vals_get [Inhabited {x : Int // p x}] (d : Array {x : Int // p x}) (j : Nat) (h : j < d.size) : rd (E8 d) (j : Int) = (d[j]!).val := by
 have h1 : j < (E8 d).length := by rw [vals_length]; exact h
 simp only [rd, Int.toNat_natCast, List.getD_eq_getElem?_getD, List.getElem?_eq_getElem h1, Option.getD_some]
 simp [E8, h]
theorem posIn_same (f : Int → Bool) (a b : List Int) : ∀ x : Nat, (∀ j : Nat, j < x → rd a (j : Int) = rd b (j : Int)) → F5 f a x = F5 f b x
 | 0, _ => rfl
 | x + 1, h => by
  unfold F5
  rw [h x (by omega), posIn_same f a b x (fun j hj => h j (by omega))]
theorem split2 (D : List Int) (x : Nat) (h : x + 1 < D.length) : ∃ A B : List Int, A.length = x ∧ D = A ++ rd D (x : Int) :: rd D ((x + 1 : Nat) : Int) :: B := by
 refine ⟨D.take x, D.drop (x + 2), by rw [List.length_take]; omega, ?_⟩
 have e1 : D.drop x = D[x] :: D.drop (x + 1) := List.drop_eq_getElem_cons (by omega)
 have e2 : D.drop (x + 1) = D[x + 1] :: D.drop (x + 2) := List.drop_eq_getElem_cons h
 have r1 : rd D (x : Int) = D[x] := by simp [rd, List.getD_eq_getElem?_getD, List.getElem?_eq_getElem (show x < D.length by omega)]
 have r2 : rd D ((x + 1 : Nat) : Int) = D[x + 1] := by simp only [rd, Int.toNat_natCast, List.getD_eq_getElem?_getD, List.getElem?_eq_getElem h, Option.getD_some]
 rw [r1, r2]
 have := (List.take_append_drop x D).symm
 rw [e1, e2] at this
 exact this
theorem vals_swp [Inhabited {x : Int // p x}] (d : Array {x : Int // p x}) (x : Nat) (h : x + 1 < d.size) : E8 (Go.Sort.swp d (x + 1) x) = ((E8 d).set (x + 1) (rd (E8 d) (x : Int))).set x (rd (E8 d) ((x + 1 : Nat) : Int)) := by
 rw [vals_get d x (by omega), vals_get d (x + 1) h]
 unfold E8 Go.Sort.swp
 simp [List.map_set]
theorem insInner_list [Inhabited {x : Int // p x}] (lt : {x : Int // p x} → {x : Int // p x} → Bool) (f : Int → Int → Bool) (hlt : ∀ a b, lt a b = f a.val b.val) : ∀ (x : Nat) (d : Array {x : Int // p x}), x < d.size →
  E8 (Go.Sort.insInner lt 0 x d) = Gj (f (rd (E8 d) (x : Int))) (rd (E8 d) (x : Int)) ((E8 d).take x) ++ (E8 d).drop (x + 1)
 | 0, d, h => by
  have hl : 0 < (E8 d).length := by rw [vals_length]; exact h
  unfold Go.Sort.insInner
  cases hD : E8 d with
  | nil => rw [hD] at hl; cases hl
  | cons a r => simp [Gj, F5, rd]
 | x + 1, d, h => by
  have hl : x + 1 < (E8 d).length := by rw [vals_length]; exact h
  obtain ⟨A, B, hA, hD⟩ := split2 (E8 d) x hl
  have hc : (decide (x + 1 > 0) && lt d[x + 1]! d[x]!) = f (rd (E8 d) ((x + 1 : Nat) : Int)) (rd (E8 d) (x : Int)) := by rw [hlt, vals_get d x (by omega), vals_get d (x + 1) h]; simp
  unfold Go.Sort.insInner
  have hsw := vals_swp d x h
  generalize hv : rd (E8 d) ((x + 1 : Nat) : Int) = v at hc hD hsw ⊢
  generalize hy : rd (E8 d) (x : Int) = y at hc hD hsw
  have ht1 : (E8 d).take (x + 1) = A ++ [y] := by rw [hD, ← hA, List.take_append, List.take_of_length_le (by omega)]; simp
  have hd2 : (E8 d).drop (x + 1 + 1) = B := by rw [hD, ← hA, List.drop_append, List.drop_of_length_le (by omega), show A.length + 1 + 1 - A.length = 2 by omega]; rfl
  have hry : rd (A ++ [y]) (x : Int) = y := by simp [rd, ← hA]
  rw [hc, ht1, hd2]
  unfold Gj
  have hlen : (A ++ [y]).length = x + 1 := by simp [hA]
  rw [hlen]
  have hpos : F5 (f v) (A ++ [y]) (x + 1) = if f v y = true then F5 (f v) (A ++ [y]) x else x + 1 := by
   show (if f v (rd (A ++ [y]) (x : Int)) = true then F5 (f v) (A ++ [y]) x else x + 1) = _
   rw [hry]
  rw [hpos]
  cases hf : f v y with
  | true =>
   simp only [if_true]
   have hs : (Go.Sort.swp d (x + 1) x).size = d.size := by unfold Go.Sort.swp; simp
   have ih := insInner_list lt f hlt x (Go.Sort.swp d (x + 1) x) (by omega)
   have hV : E8 (Go.Sort.swp d (x + 1) x) = A ++ v :: y :: B := by
    rw [hsw, hD]
    subst hA
    simp [List.set_append]
   rw [hV] at ih
   have hrv : rd (A ++ v :: y :: B) (x : Int) = v := by simp [rd, ← hA]
   have hta : (A ++ v :: y :: B).take x = A := by simp [← hA]
   have hda : (A ++ v :: y :: B).drop (x + 1) = y :: B := by simp [List.drop_append, ← hA]
   rw [hrv, hta, hda] at ih
   rw [ih]
   unfold Gj
   rw [hA]
   have hps : F5 (f v) (A ++ [y]) x = F5 (f v) A x := posIn_same _ _ _ _ (fun j hj => by simp [rd, List.getD_eq_getElem?_getD, List.getElem?_append_left (show j < A.length by omega)])
   rw [hps]
   have hle := posIn_le (f v) A x
   generalize F5 (f v) A x = q at hle ⊢
   rw [List.take_append_of_le_length (by omega), List.drop_append_of_le_length (by omega)]
   simp
  | false =>
   simp only [Bool.false_eq_true, if_false]
   rw [← hlen, List.take_length, List.drop_length, hD]
   simp
theorem insOuter_list [Inhabited {x : Int // p x}] (lt : {x : Int // p x} → {x : Int // p x} → Bool) (f : Int → Int → Bool) (hlt : ∀ a b, lt a b = f a.val b.val) : ∀ (n i : Nat) (d : Array {x : Int // p x}), d.size - i = n → i ≤ d.size →
  E8 (Go.Sort.insOuter lt 0 d.size i d) = ((E8 d).drop i).foldl (fun out v => Gj (f v) v out) ((E8 d).take i)
 | 0, i, d, hn, hi => by
  have hl := vals_length d
  rw [Go.Sort.insOuter, if_neg (by omega), List.drop_of_length_le (by omega), List.take_of_length_le (by omega)]
  rfl
 | n + 1, i, d, hn, hi => by
  have hl := vals_length d
  have hlt2 : i < d.size := by omega
  have key := insInner_list lt f hlt i d hlt2
  have hpl : (Gj (f (rd (E8 d) (i : Int))) (rd (E8 d) (i : Int)) ((E8 d).take i)).length = i + 1 := by rw [Ig, List.length_take]; omega
  have hsz : (Go.Sort.insInner lt 0 i d).size = d.size := by
   have := congrArg List.length key
   rw [vals_length, List.length_append, hpl, List.length_drop] at this
   omega
  have ih := insOuter_list lt f hlt n (i + 1) (Go.Sort.insInner lt 0 i d) (by omega) (by omega)
  rw [hsz] at ih
  rw [Go.Sort.insOuter, if_pos hlt2, ih, key]
  have e1 : (Gj (f (rd (E8 d) (i : Int))) (rd (E8 d) (i : Int)) ((E8 d).take i) ++ (E8 d).drop (i + 1)).drop (i + 1) = (E8 d).drop (i + 1) := by rw [← hpl]; simp [hpl]
  have e2 : (Gj (f (rd (E8 d) (i : Int))) (rd (E8 d) (i : Int)) ((E8 d).take i) ++ (E8 d).drop (i + 1)).take (i + 1) = Gj (f (rd (E8 d) (i : Int))) (rd (E8 d) (i : Int)) ((E8 d).take i) := by rw [← hpl]; simp [hpl]
  rw [e1, e2]
  have e3 : (E8 d).drop i = rd (E8 d) (i : Int) :: (E8 d).drop (i + 1) := by
   rw [List.drop_eq_getElem_cons (by omega : i < (E8 d).length)]
   simp [rd, List.getD_eq_getElem?_getD, List.getElem?_eq_getElem (show i < (E8 d).length by omega)]
  rw [e3, List.foldl_cons]
theorem Ip [Inhabited {x : Int // p x}] (lt : {x : Int // p x} → {x : Int // p x} → Bool) (f : Int → Int → Bool) (hlt : ∀ a b, lt a b = f a.val b.val) (d : Array {x : Int // p x}) : E8 (Go.Sort.insertionSort lt d 0 d.size) = stabL f (E8 d) := by
 unfold Go.Sort.insertionSort stabL
 have hl := vals_length d
 by_cases h : d.size = 0
 ·have e : E8 d = [] := List.eq_nil_of_length_eq_zero (by omega)
  rw [Go.Sort.insOuter, if_neg (by omega), e]
  rfl
 ·rw [insOuter_list lt f hlt _ 1 d rfl (by omega)]
  cases hD : E8 d with
  | nil => rw [hD] at hl; simp at hl; omega
  | cons a r => simp [Gj, F5]
end
section
variable {p : Int → Prop}
/-- The members, as values. -/
def encP (x : {x : Int // p x}) : Value := .int .i64 x.1
theorem putRow_encP [Inhabited {x : Int // p x}] (w : World) (blk : Nat) (d : Array {x : Int // p x}) : Go.Sort.putRow encP w blk 0 d = Go.Sort.putRow (Value.int .i64) w blk 0 (d.map Subtype.val) := by
 unfold Go.Sort.putRow
 refine congrArg (Go.Sort.mapBlock w blk) (funext fun c => ?_)
 unfold Go.Sort.putCells
 have : (fun (k : Nat) (x : Value) => if 0 ≤ k ∧ k < 0 + d.size then encP d[k - 0]! else x) = (fun k x => if 0 ≤ k ∧ k < 0 + (d.map Subtype.val).size then Value.int .i64 (d.map Subtype.val)[k - 0]! else x) := by
  funext k x
  by_cases hk : k < d.size
  ·simp [hk, encP]
  ·simp [hk]
 rw [this]
theorem Ik {w0 w : World} {blk n : Nat} {os : Array Obj} (d : Array Int) (hB : Below w0.heap.size w0 w) (hblk : w0.heap.size ≤ blk) : Below w0.heap.size w0 (Go.Sort.grow (Go.Sort.putRow (Value.int .i64) (Go.Sort.ahead w n) blk 0 d) os) := by
 have hg := grownBy_sortedI (w := w) (g := blk) (n := n) (os := os) d
 exact ⟨hg.os.trans hB.os, hg.tape.trans hB.tape, hg.output.trans hB.output, Nat.le_trans hB.size hg.size, fun i hi => (hg.block i (Nat.lt_of_lt_of_le hi hB.size) (fun e => by injection e with e; omega)).trans (hB.block i hi)⟩
variable [Inhabited {x : Int // p x}]
theorem cmpReads_of {g : Nat} {lb : Array Value} {cf : Int → Int → Int} {w0 : World} {blk : Nat} (hblk : w0.heap.size ≤ blk)
  (hcmp : ∀ (W : World) (x y : Int), p x → p y → Below w0.heap.size w0 W → Calls Try.prog g (#[.int .i64 x, .int .i64 y] ++ lb) W fun e w' => e = .returned (.int .i64 (cf x y)) ∧ ∃ q, w' = W.drewN q)
  (W : World) (hW : Below w0.heap.size w0 W) (n : Nat) : Go.Proofs.CmpReads Try.prog g lb (encP (p := p)) (fun a b => cf a.1 b.1) blk 0 n W := by
 intro m os dk _ x y
 refine hcmp _ x.1 y.1 x.2 y.2 ?_
 unfold Go.Proofs.sortWorld
 rw [putRow_encP]
 exact Ik _ hW hblk
theorem below_put {w0 W : World} {blk n : Nat} (hblk : w0.heap.size ≤ blk) (hW : Below w0.heap.size w0 W) (d : Array {x : Int // p x}) : Below w0.heap.size w0 ((Go.Sort.putRow encP W blk 0 d).drewN n) := by
 rw [putRow_encP]
 have := Ik (n := n) (os := #[]) (d.map Subtype.val) hW hblk
 rw [Go.Sort.grow_empty] at this
 exact this
set_option maxHeartbeats 8000000 in
set_option maxRecDepth 100000 in
theorem slices_stableCmp.calls {g : Nat} {lb : Array Value} (eg : ∀ args w, (callFunc g args).run Try.prog w = .ok (.enter g args) w) (cf : Int → Int → Int) (w0 w : World) (blk cap : Nat) (d : Array {x : Int // p x}) (h20 : d.size ≤ 20) (hB : Below w0.heap.size w0 w) (hblk : w0.heap.size ≤ blk)
  (hcmp : ∀ (W : World) (x y : Int), p x → p y → Below w0.heap.size w0 W → Calls Try.prog g (#[.int .i64 x, .int .i64 y] ++ lb) W fun e w' => e = .returned (.int .i64 (cf x y)) ∧ ∃ q, w' = W.drewN q) (hH : Go.Sort.Holds encP w blk 0 d) :
  Calls Try.prog 83 #[.slice (some ⟨blk, 0, none⟩) d.size cap, .int .i64 d.size, .func (.func g) #[] lb] w fun e w' => e = .returned (.tuple #[]) ∧ ∃ n, w' = (Go.Sort.putRow encP w blk 0 (Go.Sort.insertionSort (Go.Proofs.ltOf fun a b => cf a.1 b.1) d 0 d.size)).drewN n := by
 have H1 := Aside0.mk (Go.Proofs.Try.insertionSortCmpFunc_one encP (fun _ => rfl) (fun a b => cf a.1 b.1) g lb blk 0 cap 0 d.size d w eg (cmpReads_of hblk hcmp w hB _) hH (Nat.zero_le _) (Nat.le_refl _) (by omega))
 obtain ⟨S, hS⟩ : ∃ S, S = Go.Sort.insertionSort (Go.Proofs.ltOf fun a b => cf a.1 b.1) d 0 d.size := ⟨_, rfl⟩
 rw [← hS] at H1 ⊢
 have hSz : S.size = d.size := by
  have h1 := Ip (Go.Proofs.ltOf fun (a b : {x : Int // p x}) => cf a.1 b.1) (fun v y => decide (cf v y < 0)) (fun _ _ => rfl) d
  rw [← hS] at h1
  have h2 : ∀ (l out : List Int), (l.foldl (fun out v => Gj (fun y => decide (cf v y < 0)) v out) out).length = out.length + l.length := by
   intro l
   induction l with
   | nil => intro out; simp
   | cons a r ih => intro out; rw [List.foldl_cons, ih, Ig, List.length_cons]; omega
  have h3 := congrArg List.length h1
  rw [vals_length] at h3
  unfold stabL at h3
  rw [h2, vals_length] at h3
  simpa using h3
 have H2 : Aside0 (∀ n, Calls Try.prog 88 #[.slice (some ⟨blk, 0, none⟩) d.size cap, .int .i64 d.size, .int .i64 d.size, .func (.func g) #[] lb] ((Go.Sort.putRow encP w blk 0 S).drewN n) fun e w' => e = .returned (.tuple #[]) ∧ ∃ m, w' = (Go.Sort.putRow encP w blk 0 S).drewN m) := ⟨fun n => by
  have hh : Go.Sort.Holds encP ((Go.Sort.putRow encP w blk 0 S).drewN n) blk 0 S := Go.Sort.holds_putRow encP w blk 0 d S hH hSz
  have h := Go.Proofs.Try.insertionSortCmpFunc_one encP (fun _ => rfl) (fun a b => cf a.1 b.1) g lb blk 0 cap d.size d.size S ((Go.Sort.putRow encP w blk 0 S).drewN n) eg (cmpReads_of hblk hcmp _ (below_put hblk hB S) _) hh (Nat.le_refl _) (by omega) (by omega)
  rw [hSz] at h
  refine h.mono ?_
  rintro e w' ⟨rfl, m, rfl⟩
  have hid : Go.Sort.insertionSort (Go.Proofs.ltOf fun (a b : {x : Int // p x}) => cf a.1 b.1) S d.size d.size = S := by unfold Go.Sort.insertionSort; rw [Go.Sort.insOuter, if_neg (by omega)]
  rw [hid, Go.Sort.putRow_self encP _ blk 0 S hh]
  exact ⟨rfl, n + m, World.drewN_drewN _ _ _⟩⟩
 clear hcmp hH hS
 have c40 : decide ((40 : Int) ≤ (d.size : Int)) = false := decide_eq_false (by omega)
 have cb : decide ((20 : Int) < (d.size : Int)) = false := decide_eq_false (by omega)
 have hw40 : IntKind.i64.wrap (20 + 20) = 40 := by decide
 go_enter Try.func83, Try.ntmps83
 go_wp2
 go_loopg [7, 8] 1 (fun gg v7 v8 w' => (v7 = .int .i64 0 ∧ v8 = .int .i64 20 ∧ Aside0 (w = w') ∧ Aside0 (gg = 1)) ∨ (v7 = .int .i64 20 ∧ v8 = .int .i64 40 ∧ Aside0 (d.size = 20) ∧ Aside0 (∃ n, w' = (Go.Sort.putRow encP w blk 0 S).drewN n)))
 case atStart => exact .inl ⟨rfl, rfl, ⟨rfl⟩, ⟨rfl⟩⟩
 case round =>
  rcases hrel with ⟨rfl, rfl, HW, HG⟩ | ⟨rfl, rfl, HD, HW⟩
  ·obtain ⟨rfl⟩ := HW
   by_cases h : d.size = 20
   ·have c20 : decide ((20 : Int) ≤ (d.size : Int)) = true := decide_eq_true (by omega)
    have H1' := H1.out
    rw [show ((d.size : Nat) : Int) = 20 by omega] at H1'
    have HD := Aside0.mk h
    clear h
    go_wp2_with (go_at_call 88; refine H1'.mono ?_; rintro e w' ⟨rfl, n, rfl⟩)
    go_roundg 0
    case measure => have := HG.out; omega
    case rel => exact .inr ⟨rfl, by first | rfl | (rw [hw40]), HD, ⟨_, rfl⟩⟩
   ·have c20 : decide ((20 : Int) ≤ (d.size : Int)) = false := decide_eq_false (by omega)
    clear h
    go_wp2_with (go_at_call 88; refine H1.out.mono ?_; rintro e w' ⟨rfl, n, rfl⟩)
    go_loopg [6] 0 (fun gg v6 w' => v6 = .int .i64 20 ∧ Aside0 (w' = (Go.Sort.putRow encP w blk 0 S).drewN n))
    case atStart => exact ⟨rfl, ⟨rfl⟩⟩
    case round =>
     obtain ⟨rfl, HW⟩ := hrel
     obtain ⟨rfl⟩ := HW
     go_wp2
     go_end0
     exact ⟨rfl, _, rfl⟩
  ·obtain ⟨n, rfl⟩ := HW.out
   have H2' := H2.out n
   rw [show ((d.size : Nat) : Int) = 20 from by have := HD.out; omega] at H2'
   have cd : ((d.size : Nat) : Int) = 20 := by have := HD.out; omega
   clear HW
   go_wp2_with (go_at_call 88; rw [cd]; refine H2'.mono ?_; rintro e w' ⟨rfl, m, rfl⟩)
   go_loopg [6] 0 (fun gg v6 w' => v6 = .int .i64 20 ∧ Aside0 (w' = (Go.Sort.putRow encP w blk 0 S).drewN m))
   case atStart => exact ⟨rfl, ⟨rfl⟩⟩
   case round =>
    obtain ⟨rfl, HW⟩ := hrel
    obtain ⟨rfl⟩ := HW
    go_wp2
    go_end0
    exact ⟨rfl, _, rfl⟩
end
theorem stabL_length (f : Int → Int → Bool) (l : List Int) : (stabL f l).length = l.length := by
 have h2 : ∀ (l out : List Int), (l.foldl (fun out v => Gj (f v) v out) out).length = out.length + l.length := by
  intro l
  induction l with
  | nil => intro out; simp
  | cons a r ih => intro out; rw [List.foldl_cons, ih, Ig, List.length_cons]; omega
 unfold stabL
 rw [h2]
 simp
set_option maxHeartbeats 8000000 in
set_option maxRecDepth 100000 in
/-- slices.SortStableFunc of a row of the call's own, of at most 20 numbers. -/
theorem slices_SortStableFunc_own.calls {g : Nat} {lb : Array Value} (eg : ∀ args w, (callFunc g args).run Try.prog w = .ok (.enter g args) w) (p : Int → Prop) (p0 : p 0) (cf : Int → Int → Int) (w0 w : World) (blk cap : Nat) (l : List Int) (hpl : ∀ x ∈ l, p x) (h20 : l.length ≤ 20) (base : Nat) (ok : Nat → Prop)
  (HO : Kd.R (Kd.int .i64) 3 w base ok (.slice (some ⟨blk, 0, none⟩) l.length cap) l) (hB : Below w0.heap.size w0 w) (hblk : w0.heap.size ≤ blk)
  (hcmp : ∀ (W : World) (x y : Int), p x → p y → Below w0.heap.size w0 W → Calls Try.prog g (#[.int .i64 x, .int .i64 y] ++ lb) W fun e w' => e = .returned (.int .i64 (cf x y)) ∧ ∃ q, w' = W.drewN q) :
  Calls Try.prog 74 #[.slice (some ⟨blk, 0, none⟩) l.length cap, .func (.func g) #[] lb] w fun e w' => e = .returned (.tuple #[]) ∧ Kd.R (Kd.int .i64) 3 w' base ok (.slice (some ⟨blk, 0, none⟩) (stabL (fun v y => decide (cf v y < 0)) l).length cap) (stabL (fun v y => decide (cf v y < 0)) l) ∧ Below w0.heap.size w0 w' := by
 have hown := Kd.own_of_R HO
 have hok := HO.1
 rcases hown.2 with ⟨h, _⟩ | ⟨g', cap', cur, hv, hbase, hb, hn, hcap, hsz, htake⟩
 ·cases h
 cases hv
 haveI : Inhabited {x : Int // p x} := ⟨⟨0, p0⟩⟩
 obtain ⟨d, hd⟩ : ∃ d : Array {x : Int // p x}, d = (l.attach.map fun x => (⟨x.1, hpl x.1 x.2⟩ : {x : Int // p x})).toArray := ⟨_, rfl⟩
 have hds : d.size = l.length := by rw [hd]; simp
 have hdv : E8 d = l := by rw [hd]; unfold E8; simp [List.map_map, Function.comp_def]
 have hlen : l.length ≤ cur.size := by omega
 have htake' : cur.toList.take l.length = l.map (Value.int .i64) := by rw [Nat.mul_one] at htake; exact htake
 have hH0 := holds_of_blockI hb htake'
 have hH : Go.Sort.Holds encP w blk 0 d := fun j hj => by
  have hj' : j < l.length := by omega
  have h1 := hH0 j (by simpa using hj')
  have h2 : (d[j]!).val = l.toArray[j]! := by
   have := vals_get d j hj
   rw [hdv] at this
   rw [← this]
   simp [rd, hj', List.getD_eq_getElem?_getD]
  rw [show encP d[j]! = Value.int .i64 l.toArray[j]! from congrArg (Value.int .i64) h2]
  exact h1
 have H := Aside0.mk (slices_stableCmp.calls eg cf w0 w blk cap d (by omega) hB hblk hcmp hH)
 have hins := Ip (Go.Proofs.ltOf fun (a b : {x : Int // p x}) => cf a.1 b.1) (fun v y => decide (cf v y < 0)) (fun _ _ => rfl) d
 rw [hdv] at hins
 rw [hds] at H hins
 have hsl := stabL_length (fun v y => decide (cf v y < 0)) l
 clear hcmp hH hH0 hd
 go_enter Try.func74, Try.ntmps74
 go_wp2_with (go_at_call 83; refine H.out.mono ?_; rintro e w' ⟨rfl, n, rfl⟩)
 go_end0
 rw [putRow_encP]
 have e1 : (Go.Sort.insertionSort (Go.Proofs.ltOf fun (a b : {x : Int // p x}) => cf a.1 b.1) d 0 l.length).map Subtype.val = (stabL (fun v y => decide (cf v y < 0)) l).toArray := by
  apply Array.ext'
  rw [Array.toList_map]
  exact hins
 rw [e1]
 generalize stabL (fun v y => decide (cf v y < 0)) l = ts at hsl ⊢
 have hw : (Go.Sort.putRow (Value.int .i64) w blk 0 ts.toArray).drewN n = Go.Sort.grow (Go.Sort.putRow (Value.int .i64) (Go.Sort.ahead w n) blk 0 ts.toArray) #[] := by rw [Go.Sort.grow_empty]; rfl
 rw [hw]
 refine ⟨rfl, ?_, Ik _ hB hblk⟩
 have htk := take_putCellsI cur ts (by omega)
 refine Kd.R_of_own ⟨by simp [encs], .inr ⟨blk, cap, _, rfl, hbase, heap_sortedI (n := n) (os := #[]) _ hb, by omega, hcap, by simp [Go.Sort.putCells, hsz], ?_⟩⟩ hok
 rw [Nat.mul_one]
 exact htk
set_option maxHeartbeats 8000000 in
/-- Of an empty slice. -/
theorem slices_insertion_none.calls (a : Option Addr) (c : Nat) (fv : Value) (w : World) :
  Calls Try.prog 88 #[.slice a 0 c, .int .i64 0, .int .i64 0, fv] w fun e w' => e = .returned (.tuple #[]) ∧ Drawn0 w w' := by
 go_enter Try.func88, Try.ntmps88
 go_wp2
 go_loopg [8] 0 (fun gg v8 w' => v8 = .int .i64 1 ∧ Aside0 (w = w'))
 case atStart => exact ⟨by first | rfl | decide, ⟨rfl⟩⟩
 case round =>
  obtain ⟨rfl, HW⟩ := hrel
  obtain ⟨rfl⟩ := HW
  go_wp2
  go_end0
  exact ⟨rfl, Drawn0.refl _⟩
set_option maxHeartbeats 8000000 in
theorem slices_stableCmp_none.calls (a : Option Addr) (c : Nat) (fv : Value) (w : World) :
  Calls Try.prog 83 #[.slice a 0 c, .int .i64 0, fv] w fun e w' => e = .returned (.tuple #[]) ∧ Drawn0 w w' := by
 go_enter Try.func83, Try.ntmps83
 go_wp2
 go_loopg [7, 8] 0 (fun gg v7 v8 w' => v7 = .int .i64 0 ∧ v8 = .int .i64 20 ∧ Aside0 (w = w'))
 case atStart => exact ⟨rfl, rfl, ⟨rfl⟩⟩
 case round =>
  obtain ⟨rfl, rfl, HW⟩ := hrel
  obtain ⟨rfl⟩ := HW
  go_wp2_with (go_at_call 88; refine (slices_insertion_none.calls a c fv _).mono ?_; rintro e w' ⟨rfl, ⟨nd, rfl⟩⟩)
  go_loopg [6] 0 (fun gg v6 w' => v6 = .int .i64 20 ∧ Aside0 (w' = w.drewN nd))
  case atStart => exact ⟨rfl, ⟨rfl⟩⟩
  case round =>
   obtain ⟨rfl, HW⟩ := hrel
   obtain ⟨rfl⟩ := HW
   go_wp2
   go_end0
   exact ⟨rfl, ⟨_, rfl⟩⟩
set_option maxHeartbeats 8000000 in
theorem slices_SortStableFunc_none.calls (a : Option Addr) (c : Nat) (f : Fn) (t lb : Array Value) (w : World) :
  Calls Try.prog 74 #[.slice a 0 c, .func f t lb] w fun e w' => e = .returned (.tuple #[]) ∧ Drawn0 w w' := by
 go_enter Try.func74, Try.ntmps74
 go_wp2_with (go_at_call 83; refine (slices_stableCmp_none.calls a c _ _).mono ?_; rintro e w' ⟨rfl, ⟨nd, rfl⟩⟩)
 go_end0
 exact ⟨rfl, ⟨_, rfl⟩⟩
def slices_SortStableFunc_ints.f (l0 : List Int) : Option (List Int) := some l0
end Go.Proofs.Ytolaplcjbmjlmaa.X

namespace Go.Proofs.Ytolaplcjbmjlmaa.X
open Go.RowKit Go.Proofs.YtolaplcjbmjlmaaW.PrintWords Go.Proofs.YtolaplcjbmjlmaaW.PrintLast Go.Proofs.YtolaplcjbmjlmaaW.PrintMore
attribute [local go_sem] max2_int min2_int max_two min_two max_three min_three max_four min_four
def cmp_isNaN_int.f (a0 : Int) : Option (Bool) := some (a0 != a0)
set_option maxHeartbeats 8000000 in
set_option maxRecDepth 100000 in
theorem cmp_isNaN_int.calls (a0 : Int) (r : Bool) (w : World) (h : cmp_isNaN_int.f a0 = some r) :
  Calls Try.prog 84 #[.int .i64 a0] w fun e w' => e = .returned (.bool r) ∧ Drawn0 w w' := by
 have H : (some (a0 != a0)) = some r := h
 clear h
 obtain rfl := Option.some.inj H
 go_enter Try.func84, Try.ntmps84
 go_wp2
 go_ret
 exact ⟨by first | rfl | (simp; done) | (simp [*]; done), by repeat (first | exact Drawn0.refl _ | apply Drawn0.step)⟩
end Go.Proofs.Ytolaplcjbmjlmaa.X

namespace Go.Proofs.Ytolaplcjbmjlmaa.X
open Go.RowKit Go.Proofs.YtolaplcjbmjlmaaW.PrintWords Go.Proofs.YtolaplcjbmjlmaaW.PrintLast Go.Proofs.YtolaplcjbmjlmaaW.PrintMore
attribute [local go_sem] max2_int min2_int max_two min_two max_three min_three max_four min_four
def cmp_Compare_int.f (a0 : Int) (a1 : Int) : Option (Int) := (cmp_isNaN_int.f a0).bind fun t557 => ((cmp_isNaN_int.f a1).bind fun t558 => (if t557 = true then (if t558 = true then (some 0) else (some (-1))) else (if t558 = true then (some 1) else (if a0 < a1 then (some (-1)) else (if a0 > a1 then (some 1) else (some 0))))))
set_option maxHeartbeats 8000000 in
set_option maxRecDepth 100000 in
theorem cmp_Compare_int.calls (a0 : Int) (a1 : Int) (r : Int) (w : World) (h : cmp_Compare_int.f a0 a1 = some r) :
  Calls Try.prog 76 #[.int .i64 a0, .int .i64 a1] w fun e w' => e = .returned (.int .i64 r) ∧ Drawn0 w w' := by
 have H : ((cmp_isNaN_int.f a0).bind fun t557 => ((cmp_isNaN_int.f a1).bind fun t558 => (if t557 = true then (if t558 = true then (some 0) else (some (-1))) else (if t558 = true then (some 1) else (if a0 < a1 then (some (-1)) else (if a0 > a1 then (some 1) else (some 0))))))) = some r := h
 clear h
 replace H := Option.bind_eq_some_iff.mp H
 obtain ⟨t557, A30, H⟩ := H
 replace H : ((cmp_isNaN_int.f a1).bind fun t558 => (if t557 = true then (if t558 = true then (some 0) else (some (-1))) else (if t558 = true then (some 1) else (if a0 < a1 then (some (-1)) else (if a0 > a1 then (some 1) else (some 0)))))) = some r := H
 have A3 := Aside0.mk A30
 clear A30
 replace H := Option.bind_eq_some_iff.mp H
 obtain ⟨t558, A40, H⟩ := H
 replace H : (if t557 = true then (if t558 = true then (some 0) else (some (-1))) else (if t558 = true then (some 1) else (if a0 < a1 then (some (-1)) else (if a0 > a1 then (some 1) else (some 0))))) = some r := H
 have A4 := Aside0.mk A40
 clear A40
 by_cases c5 : t557 = true
 ·subst c5
  have H1 : (if t558 = true then (some 0) else (some (-1))) = some r := by rw [if_pos rfl] at H; exact H
  clear H
  have H := H1
  clear H1
  by_cases c6 : t558 = true
  ·subst c6
   have H1 : (some 0) = some r := by rw [if_pos rfl] at H; exact H
   clear H
   have H := H1
   clear H1
   obtain rfl := Option.some.inj H
   go_enter Try.func76, Try.ntmps76
   go_wp2_with (first | ((with_reducible refine gate_callee (f := 84) rfl ?_); refine goesL_ (some 8) rfl rfl Try.func84 (by kernel_rfl) rfl #[.int .i64 a0] rfl Yb_ ?_; (with_reducible refine (cmp_isNaN_int.calls a0 true _ A3.out).mono ?_); rintro e w' ⟨rfl, ⟨nd, rfl⟩⟩; refine ⟨_, rfl, ?_⟩) | ((with_reducible refine gate_callee (f := 84) rfl ?_); refine goesL_ (some 10) rfl rfl Try.func84 (by kernel_rfl) rfl #[.int .i64 a1] rfl Yb_ ?_; (with_reducible refine (cmp_isNaN_int.calls a1 true _ A4.out).mono ?_); rintro e w' ⟨rfl, ⟨nd, rfl⟩⟩; refine ⟨_, rfl, ?_⟩))
   go_ret
   exact ⟨by first | rfl | (simp; done) | (simp [*]; done), by repeat (first | exact Drawn0.refl _ | apply Drawn0.step)⟩
  ·replace c6 := Bool.eq_false_iff.mpr c6
   subst c6
   have H1 : (some (-1)) = some r := by rw [if_neg (show ¬ (false = true) by decide)] at H; exact H
   clear H
   have H := H1
   clear H1
   obtain rfl := Option.some.inj H
   go_enter Try.func76, Try.ntmps76
   go_wp2_with (first | ((with_reducible refine gate_callee (f := 84) rfl ?_); refine goesL_ (some 8) rfl rfl Try.func84 (by kernel_rfl) rfl #[.int .i64 a0] rfl Yb_ ?_; (with_reducible refine (cmp_isNaN_int.calls a0 true _ A3.out).mono ?_); rintro e w' ⟨rfl, ⟨nd, rfl⟩⟩; refine ⟨_, rfl, ?_⟩) | ((with_reducible refine gate_callee (f := 84) rfl ?_); refine goesL_ (some 10) rfl rfl Try.func84 (by kernel_rfl) rfl #[.int .i64 a1] rfl Yb_ ?_; (with_reducible refine (cmp_isNaN_int.calls a1 false _ A4.out).mono ?_); rintro e w' ⟨rfl, ⟨nd, rfl⟩⟩; refine ⟨_, rfl, ?_⟩))
   go_ret
   exact ⟨by first | rfl | (simp; done) | (simp [*]; done), by repeat (first | exact Drawn0.refl _ | apply Drawn0.step)⟩
 ·replace c5 := Bool.eq_false_iff.mpr c5
  subst c5
  have H1 : (if t558 = true then (some 1) else (if a0 < a1 then (some (-1)) else (if a0 > a1 then (some 1) else (some 0)))) = some r := by rw [if_neg (show ¬ (false = true) by decide)] at H; exact H
  clear H
  have H := H1
  clear H1
  by_cases c7 : t558 = true
  ·subst c7
   have H1 : (some 1) = some r := by rw [if_pos rfl] at H; exact H
   clear H
   have H := H1
   clear H1
   obtain rfl := Option.some.inj H
   go_enter Try.func76, Try.ntmps76
   go_wp2_with (first | ((with_reducible refine gate_callee (f := 84) rfl ?_); refine goesL_ (some 8) rfl rfl Try.func84 (by kernel_rfl) rfl #[.int .i64 a0] rfl Yb_ ?_; (with_reducible refine (cmp_isNaN_int.calls a0 false _ A3.out).mono ?_); rintro e w' ⟨rfl, ⟨nd, rfl⟩⟩; refine ⟨_, rfl, ?_⟩) | ((with_reducible refine gate_callee (f := 84) rfl ?_); refine goesL_ (some 10) rfl rfl Try.func84 (by kernel_rfl) rfl #[.int .i64 a1] rfl Yb_ ?_; (with_reducible refine (cmp_isNaN_int.calls a1 true _ A4.out).mono ?_); rintro e w' ⟨rfl, ⟨nd, rfl⟩⟩; refine ⟨_, rfl, ?_⟩))
   go_ret
   exact ⟨by first | rfl | (simp; done) | (simp [*]; done), by repeat (first | exact Drawn0.refl _ | apply Drawn0.step)⟩
  ·replace c7 := Bool.eq_false_iff.mpr c7
   subst c7
   have H1 : (if a0 < a1 then (some (-1)) else (if a0 > a1 then (some 1) else (some 0))) = some r := by rw [if_neg (show ¬ (false = true) by decide)] at H; exact H
   clear H
   have H := H1
   clear H1
   by_cases c8 : a0 < a1
   ·rw [if_pos c8] at H
    have c8b0 : decide (a0 < a1) = true := decide_eq_true c8
    clear c8
    obtain rfl := Option.some.inj H
    go_enter Try.func76, Try.ntmps76
    go_wp2_with (first | ((with_reducible refine gate_callee (f := 84) rfl ?_); refine goesL_ (some 8) rfl rfl Try.func84 (by kernel_rfl) rfl #[.int .i64 a0] rfl Yb_ ?_; (with_reducible refine (cmp_isNaN_int.calls a0 false _ A3.out).mono ?_); rintro e w' ⟨rfl, ⟨nd, rfl⟩⟩; refine ⟨_, rfl, ?_⟩) | ((with_reducible refine gate_callee (f := 84) rfl ?_); refine goesL_ (some 10) rfl rfl Try.func84 (by kernel_rfl) rfl #[.int .i64 a1] rfl Yb_ ?_; (with_reducible refine (cmp_isNaN_int.calls a1 false _ A4.out).mono ?_); rintro e w' ⟨rfl, ⟨nd, rfl⟩⟩; refine ⟨_, rfl, ?_⟩))
    go_ret
    exact ⟨by first | rfl | (simp; done) | (simp [*]; done), by repeat (first | exact Drawn0.refl _ | apply Drawn0.step)⟩
   ·rw [if_neg c8] at H
    have c8b0 : decide (a0 < a1) = false := decide_eq_false c8
    clear c8
    by_cases c9 : a0 > a1
    ·rw [if_pos c9] at H
     have c9b0 : decide (a1 < a0) = true := decide_eq_true c9
     clear c9
     obtain rfl := Option.some.inj H
     go_enter Try.func76, Try.ntmps76
     go_wp2_with (first | ((with_reducible refine gate_callee (f := 84) rfl ?_); refine goesL_ (some 8) rfl rfl Try.func84 (by kernel_rfl) rfl #[.int .i64 a0] rfl Yb_ ?_; (with_reducible refine (cmp_isNaN_int.calls a0 false _ A3.out).mono ?_); rintro e w' ⟨rfl, ⟨nd, rfl⟩⟩; refine ⟨_, rfl, ?_⟩) | ((with_reducible refine gate_callee (f := 84) rfl ?_); refine goesL_ (some 10) rfl rfl Try.func84 (by kernel_rfl) rfl #[.int .i64 a1] rfl Yb_ ?_; (with_reducible refine (cmp_isNaN_int.calls a1 false _ A4.out).mono ?_); rintro e w' ⟨rfl, ⟨nd, rfl⟩⟩; refine ⟨_, rfl, ?_⟩))
     go_ret
     exact ⟨by first | rfl | (simp; done) | (simp [*]; done), by repeat (first | exact Drawn0.refl _ | apply Drawn0.step)⟩
    ·rw [if_neg c9] at H
     have c9b0 : decide (a1 < a0) = false := decide_eq_false c9
     clear c9
     obtain rfl := Option.some.inj H
     go_enter Try.func76, Try.ntmps76
     go_wp2_with (first | ((with_reducible refine gate_callee (f := 84) rfl ?_); refine goesL_ (some 8) rfl rfl Try.func84 (by kernel_rfl) rfl #[.int .i64 a0] rfl Yb_ ?_; (with_reducible refine (cmp_isNaN_int.calls a0 false _ A3.out).mono ?_); rintro e w' ⟨rfl, ⟨nd, rfl⟩⟩; refine ⟨_, rfl, ?_⟩) | ((with_reducible refine gate_callee (f := 84) rfl ?_); refine goesL_ (some 10) rfl rfl Try.func84 (by kernel_rfl) rfl #[.int .i64 a1] rfl Yb_ ?_; (with_reducible refine (cmp_isNaN_int.calls a1 false _ A4.out).mono ?_); rintro e w' ⟨rfl, ⟨nd, rfl⟩⟩; refine ⟨_, rfl, ?_⟩))
     go_ret
     exact ⟨by first | rfl | (simp; done) | (simp [*]; done), by repeat (first | exact Drawn0.refl _ | apply Drawn0.step)⟩
end Go.Proofs.Ytolaplcjbmjlmaa.X

namespace Go.Proofs.Ytolaplcjbmjlmaa.X
open Go.RowKit Go.Proofs.YtolaplcjbmjlmaaW.PrintWords Go.Proofs.YtolaplcjbmjlmaaW.PrintLast Go.Proofs.YtolaplcjbmjlmaaW.PrintMore
attribute [local go_sem] max2_int min2_int max_two min_two max_three min_three max_four min_four
def clo_long (ls : List Int) (h : Int) (x : Int) : Bool := decide (rd ls x ≤ h)
set_option maxHeartbeats 2000000 in
theorem clo_long.ok {gl gh : Nat} {A : Option Addr} {c : Nat} {ls : List Int} {h x : Int} (W : World) (h0 : 0 ≤ x) (h1 : x < (ls.length : Int)) (hcl : W.cell? ⟨gl, 0, none⟩ = some (.slice A ls.length c)) (hch : W.cell? ⟨gh, 0, none⟩ = some (.int .i64 h)) (hC : Kd.C (Kd.int .i64) W A ls.length ls) :
  Calls Try.prog 73 #[.int .i64 x, .pointer (some ⟨gl, 0, none⟩), .pointer (some ⟨gh, 0, none⟩)] W fun e w' => e = .returned (.bool (clo_long ls h x)) ∧ ∃ q, w' = W.drewN q := by
 obtain ⟨ad, e, k0⟩ := Kd.Fv hC x h0 h1
 cases e
 have p1 := eq_true h0
 have q1 := eq_true h1
 clear hC
 unfold clo_long
 generalize rd ls x = y at *
 go_enter Try.func73, Try.ntmps73
 go_wp2
 repeat (go_quiet (fail); try go_wp2)
 go_ret
 exact ⟨rfl, ⟨_, rfl⟩⟩
/-- How two stays compare: the longer one first. -/
def cmpLong (ls : List Int) (i k : Int) : Int := if rd ls k < rd ls i then -1 else if rd ls k > rd ls i then 1 else 0
theorem cmpLong_f (ls : List Int) (i k : Int) : cmp_Compare_int.f (rd ls k) (rd ls i) = some (cmpLong ls i k) := by
 unfold cmp_Compare_int.f cmp_isNaN_int.f cmpLong
 simp
 split
 ·rfl
 ·split <;> rfl
set_option maxHeartbeats 2000000 in
theorem cmpLong.ok {gl : Nat} {A : Option Addr} {c : Nat} {ls : List Int} {i j : Int} (W : World) (h0 : 0 ≤ i) (h1 : i < (ls.length : Int)) (h2 : 0 ≤ j) (h3 : j < (ls.length : Int)) (hcl : W.cell? ⟨gl, 0, none⟩ = some (.slice A ls.length c)) (hC : Kd.C (Kd.int .i64) W A ls.length ls) :
  Calls Try.prog 75 #[.int .i64 i, .int .i64 j, .pointer (some ⟨gl, 0, none⟩)] W fun e w' => e = .returned (.int .i64 (cmpLong ls i j)) ∧ ∃ q, w' = W.drewN q := by
 obtain ⟨ad, e, k0⟩ := Kd.Fv hC i h0 h1
 cases e
 obtain ⟨ad2, e, k1⟩ := Kd.Fv hC j h2 h3
 cases e
 have p1 := eq_true h0
 have q1 := eq_true h1
 have p2 := eq_true h2
 have q2 := eq_true h3
 have HF := Aside0.mk (cmpLong_f ls i j)
 clear hC
 generalize cmpLong ls i j = r at HF ⊢
 generalize rd ls i = y at *
 generalize rd ls j = z at *
 go_enter Try.func75, Try.ntmps75
 go_wp2_with (go_at_call 76; (with_reducible refine (cmp_Compare_int.calls z y r _ HF.out).mono ?_); rintro e w' ⟨rfl, ⟨nd, rfl⟩⟩; (try first | exact ⟨rfl, _, World.drewN_drewN _ _ _⟩ | exact ⟨rfl, _, Eq.trans (World.drewN_drewN _ _ _) (congrArg (World.drewN _) (Nat.add_assoc _ _ _))⟩))
 repeat (go_quiet (first | (go_at_call 76; (with_reducible refine (cmp_Compare_int.calls z y r _ HF.out).mono ?_); rintro e w' ⟨rfl, ⟨nd, rfl⟩⟩; (try first | exact ⟨rfl, _, World.drewN_drewN _ _ _⟩ | exact ⟨rfl, _, Eq.trans (World.drewN_drewN _ _ _) (congrArg (World.drewN _) (Nat.add_assoc _ _ _))⟩))); try go_wp2)
 go_ret
 exact ⟨rfl, ⟨_, rfl⟩⟩
end Go.Proofs.Ytolaplcjbmjlmaa.X

namespace Go.Proofs.YtolaplcjbmjlmaaOwn
open Go.RowKit Go.Proofs.YtolaplcjbmjlmaaW.PrintWords
theorem ite_some {α : Type} {p : Prop} [Decidable p] {a : Option α} {r : α} (h : (if p then a else none) = some r) : p ∧ a = some r := by
 by_cases c : p
 ·rw [if_pos c] at h; exact ⟨c, h⟩
 ·rw [if_neg c] at h; cases h
theorem lend {e : Nat} {W : World} {base : Nat} {ok : Nat → Prop} {g n cap : Nat} {xs : List (List Int)} (h : Kd.S (Kd.slice 3 (Kd.int .i64)) e W base ok (.slice (some ⟨g, 0, none⟩) n cap) xs) (i : Int) (h0 : 0 ≤ i) (h1 : i < n) :
  ∃ (oki : Nat → Prop) (v : Value), W.cell? ⟨g, i.toNat, none⟩ = some v ∧ Kd.R (Kd.int .i64) 3 W base oki v (xs.getD i.toNat []) ∧ (∀ k, oki k → ok k ∧ k ≠ g) ∧
   ∀ (w1 : World) (okp : Nat → Prop) (x' : List Int), Kept W w1 oki → Kd.R (Kd.int .i64) 3 w1 base okp v x' → Kd.S (Kd.slice 3 (Kd.int .i64)) e w1 base ok (.slice (some ⟨g, 0, none⟩) n cap) (xs.set i.toNat x') := by
 obtain ⟨oki, c, hcl, hM, hcc, hoki, hH⟩ := Kd.S_lend h [] i h0 h1
 obtain ⟨v, rfl, hR⟩ := hM
 refine ⟨oki, v, ?_, hR, hoki, fun w1 okp x' hk hR' => ?_⟩
 ·have := hcc 0 v rfl
  rw [show (Kd.slice 3 (Kd.int .i64)).sz = 1 from rfl, Nat.mul_one, Nat.add_zero] at this
  exact this
 ·exact Kd.H_back (okp := fun k => some k = v.ownBlock) (Kd.H_kept hH hk (fun k _ hn => hn)) ⟨v, rfl, Kd.R_tight rfl hR'⟩ (fun k hk2 => hR.1 k hk2.symm)
/-- Block g alone is written. -/
structure Only (w w' : World) (g : Nat) : Prop where
 os : w'.os = w.os
 tape : w'.tape = w.tape
 output : w'.output = w.output
 size : w'.heap.size = w.heap.size
 others : ∀ k, k ≠ g → w'.heap[k]? = w.heap[k]?
theorem Only.refl (w : World) (g : Nat) : Only w w g := ⟨rfl, rfl, rfl, rfl, fun _ _ => rfl⟩
theorem Only.set {w w' : World} {g : Nat} (h : Only w w' g) (j : Nat) (v : Value) : Only w (w'.setCell ⟨g, j, none⟩ v) g :=
 ⟨h.os, h.tape, h.output, by simp [World.setCell, h.size], fun k hk => (Below.heap_setCell w' ⟨g, j, none⟩ v k hk).trans (h.others k hk)⟩
theorem Only.below {w0 w w' : World} {g : Nat} (h : Only w w' g) (hB : Below w0.heap.size w0 w) (hg : w0.heap.size ≤ g) : Below w0.heap.size w0 w' :=
 ⟨h.os.trans hB.os, h.tape.trans hB.tape, h.output.trans hB.output, by rw [h.size]; exact hB.size, fun i hi => (h.others i (by omega)).trans (hB.block i hi)⟩
section
variable {α : Type} {d : Kd α} {e base g t : Nat} {ok : Nat → Prop} {w w' : World} {v : Value} {xs : List α} {cells : Array Value}
theorem onlyR (h : d.R e w base ok v xs) (hb : w.heap[g]? = some (.cells cells t (0, 0))) (ht : ∀ q, q ∈ e :: d.E → q ≠ t) (ho : Only w w' g) : d.R e w' base ok v xs :=
 Kd.R_mono (Kd.R_step (Kd.R_types h hb ht) (fun k hk _ => ho.others k hk.2)) (fun _ hk => hk.1)
end
end Go.Proofs.YtolaplcjbmjlmaaOwn

namespace Go.Proofs.Ytolaplcjbmjlmaa.X
open Go.RowKit Go.Proofs.YtolaplcjbmjlmaaW.PrintWords Go.Proofs.YtolaplcjbmjlmaaW.PrintLast Go.Proofs.YtolaplcjbmjlmaaW.PrintMore
attribute [local go_sem] max2_int min2_int max_two min_two max_three min_three max_four min_four
def longI (ls : List Int) (h : Int) (u : List Int) : List Int := stabL (fun v y => decide (cmpLong ls v y < 0)) (u.filter fun x => !clo_long ls h x)
def impl_LongStays.f (k : Nat) (l0 : List S59) (a1 : Int) : Option (List Int × Bool) := (impl_IsValidStays.f l0).bind fun g => if g = true then ((impl_within.f a1 0 240).bind fun z => if z = true then ((impl_lengthsOf.f k l0).bind fun ls => (impl_upTo.f k (l0.length : Int)).bind fun u => if u = [] then some ([], true) else if (0 ∈ u ∧ u.length ≤ 20) ∧ (∀ x ∈ u, 0 ≤ x ∧ x < (ls.length : Int)) then some (longI ls a1 u, true) else none) else some ([], false)) else some ([], false)
theorem impl_LongStays.mono (l0 : List S59) (a1 : Int) (k : Nat) : LeO (impl_LongStays.f k l0 a1) (impl_LongStays.f (k + 1) l0 a1) := by
 unfold impl_LongStays.f
 refine LeO.bind (LeO.refl _) (fun _ => LeO.ite ?_ (LeO.refl _))
 refine LeO.bind (LeO.refl _) (fun _ => LeO.ite ?_ (LeO.refl _))
 exact LeO.bind (impl_lengthsOf.mono _ _) (fun _ => LeO.bind (impl_upTo.mono _ _) (fun _ => LeO.refl _))
theorem R_some2 {w : World} {base : Nat} {ok : Nat → Prop} {v : Value} {l : List Int} (h : Kd.R (Kd.int .i64) 3 w base ok v l) (h0 : 0 ∈ l) : ∃ blk cap, v = .slice (some ⟨blk, 0, none⟩) l.length cap ∧ base ≤ blk := by
 rcases (Kd.own_of_R h).2 with ⟨_, e⟩ | ⟨g, cap, cur, hv, hb, _⟩
 ·rw [List.length_eq_zero_iff.1 e] at h0; cases h0
 ·exact ⟨g, cap, hv, hb⟩
set_option maxHeartbeats 8000000 in
set_option maxRecDepth 100000 in
theorem impl_LongStays.calls (k : Nat) (A0 : Option Addr) (c0 : Nat) (l0 : List S59) (a1 : Int) (r1 : List Int) (r2 : Bool) (w : World) (hr0 : Kd.C k59 w A0 l0.length l0) (hc0 : l0.length ≤ c0) (h : impl_LongStays.f k l0 a1 = some (r1, r2)) :
  Calls Try.prog 41 #[.slice A0 l0.length c0, .int .i64 a1] w fun e w' => ∃ v0_ : Value, e = .returned (.tuple #[v0_, .bool r2]) ∧ Kd.R (Kd.int .i64) 3 w' w.heap.size (fun _ => True) v0_ r1 ∧ Below w.heap.size w w' := by
 have HR0 := Aside0.mk hr0
 have HC0 := Aside0.mk hc0
 clear hr0 hc0
 have HB := Aside0.mk (Below.refl w.heap.size w)
 unfold impl_LongStays.f at h
 replace h := Option.bind_eq_some_iff.mp h
 obtain ⟨g, a_, h⟩ := h
 have A1 := Aside0.mk a_
 clear a_
 cases g with
 | false =>
  rw [if_neg (by decide)] at h
  simp only [Option.some.injEq, Prod.mk.injEq] at h
  obtain ⟨rfl, rfl⟩ := h
  go_enter Try.func41, Try.ntmps41
  go_wp2_with (first | ((with_reducible refine gate_dst (N := 3) rfl ?_); refine box_event ?hg (N := 3) ?hd (cs := #[.int .i64 a1]) (t := 3) ?hr ?_; (case hd => rfl); (case hg => rfl); (case hr => first | (go_simp; done) | (go_simp; rfl)); intro gh hg w1 hbox hb; have BH := Aside0.mk hbox; have m_ := Aside0.mk (below_step HB.out hb); clear HB; have HB := m_; clear m_; clear hb hbox hg; have hzh : w1.cell? ⟨gh, 0, none⟩ = some (.int .i64 a1) := (blk_cell BH.out 0).trans rfl) | ((with_reducible refine gate_callee (f := 19) rfl ?_); (try (refine gate_guard (by rfl) ?_; dsimp only)); refine goesL_ (some 9) rfl rfl Try.func19 (by kernel_rfl) rfl #[.slice A0 l0.length c0] rfl Yb_ ?_; (with_reducible refine (impl_IsValidStays.calls A0 c0 l0 false _ (Kd.C_below HR0.out HB.out) HC0.out A1.out).mono ?_); rintro e w11 ⟨rfl, hb⟩; refine ⟨_, rfl, ?_⟩; clear hzh; have m_ := Aside0.mk (blk_below BH.out hb); clear BH; have BH := m_; clear m_; have m_ := Aside0.mk (below_step HB.out hb); clear HB; have HB := m_; clear m_; have hzh : w11.cell? ⟨gh, 0, none⟩ = some (.int .i64 a1) := (blk_cell BH.out 0).trans rfl; clear hb))
  repeat (go_quiet (fail); try go_wp2)
  go_ret2
  exact ⟨_, by first | rfl | (simp; done) | (simp [*]; done), Kd.R_nil _ _ _ _ _, HB.out⟩
 | true =>
  rw [if_pos rfl] at h
  replace h := Option.bind_eq_some_iff.mp h
  obtain ⟨z, a_, h⟩ := h
  have A2 := Aside0.mk a_
  clear a_
  cases z with
  | false =>
   rw [if_neg (by decide)] at h
   simp only [Option.some.injEq, Prod.mk.injEq] at h
   obtain ⟨rfl, rfl⟩ := h
   go_enter Try.func41, Try.ntmps41
   go_wp2_with (first | ((with_reducible refine gate_dst (N := 3) rfl ?_); refine box_event ?hg (N := 3) ?hd (cs := #[.int .i64 a1]) (t := 3) ?hr ?_; (case hd => rfl); (case hg => rfl); (case hr => first | (go_simp; done) | (go_simp; rfl)); intro gh hg w1 hbox hb; have BH := Aside0.mk hbox; have m_ := Aside0.mk (below_step HB.out hb); clear HB; have HB := m_; clear m_; clear hb hbox hg; have hzh : w1.cell? ⟨gh, 0, none⟩ = some (.int .i64 a1) := (blk_cell BH.out 0).trans rfl) | ((with_reducible refine gate_callee (f := 19) rfl ?_); (try (refine gate_guard (by rfl) ?_; dsimp only)); refine goesL_ (some 9) rfl rfl Try.func19 (by kernel_rfl) rfl #[.slice A0 l0.length c0] rfl Yb_ ?_; (with_reducible refine (impl_IsValidStays.calls A0 c0 l0 true _ (Kd.C_below HR0.out HB.out) HC0.out A1.out).mono ?_); rintro e w12 ⟨rfl, hb⟩; refine ⟨_, rfl, ?_⟩; clear hzh; have m_ := Aside0.mk (blk_below BH.out hb); clear BH; have BH := m_; clear m_; have m_ := Aside0.mk (below_step HB.out hb); clear HB; have HB := m_; clear m_; have hzh : w12.cell? ⟨gh, 0, none⟩ = some (.int .i64 a1) := (blk_cell BH.out 0).trans rfl; clear hb) | ((with_reducible refine gate_callee (f := 53) rfl ?_); (try (refine gate_guard (by rfl) ?_; dsimp only)); refine goesL_ (some 13) rfl rfl Try.func53 (by kernel_rfl) rfl #[.int .i64 a1, .int .i64 0, .int .i64 240] rfl Yb_ ?_; (with_reducible refine (impl_within.calls a1 0 240 false _ A2.out).mono ?_); rintro e w13 ⟨rfl, hd_⟩; refine ⟨_, rfl, ?_⟩; have hb := Drawn0.below hd_; clear hd_; clear hzh; have m_ := Aside0.mk (blk_below BH.out hb); clear BH; have BH := m_; clear m_; have m_ := Aside0.mk (below_step HB.out hb); clear HB; have HB := m_; clear m_; have hzh : w13.cell? ⟨gh, 0, none⟩ = some (.int .i64 a1) := (blk_cell BH.out 0).trans rfl; clear hb))
   repeat (go_quiet (fail); try go_wp2)
   go_ret2
   exact ⟨_, by first | rfl | (simp; done) | (simp [*]; done), Kd.R_nil _ _ _ _ _, HB.out⟩
  | true =>
   rw [if_pos rfl] at h
   replace h := Option.bind_eq_some_iff.mp h
   obtain ⟨ls, a_, h⟩ := h
   have A3 := Aside0.mk a_
   clear a_
   replace h := Option.bind_eq_some_iff.mp h
   obtain ⟨u, a_, h⟩ := h
   have A4 := Aside0.mk a_
   clear a_
   by_cases c3 : u = []
   ·subst c3
    rw [if_pos rfl] at h
    simp only [Option.some.injEq, Prod.mk.injEq] at h
    obtain ⟨rfl, rfl⟩ := h
    go_enter Try.func41, Try.ntmps41
    go_wp2_with (first | ((with_reducible refine gate_dst (N := 3) rfl ?_); refine box_event ?hg (N := 3) ?hd (cs := #[.int .i64 a1]) (t := 3) ?hr ?_; (case hd => rfl); (case hg => rfl); (case hr => first | (go_simp; done) | (go_simp; rfl)); intro gh hg w1 hbox hb; have BH := Aside0.mk hbox; have m_ := Aside0.mk (below_step HB.out hb); clear HB; have HB := m_; clear m_; clear hb hbox hg; have hzh : w1.cell? ⟨gh, 0, none⟩ = some (.int .i64 a1) := (blk_cell BH.out 0).trans rfl) | ((with_reducible refine gate_callee (f := 19) rfl ?_); (try (refine gate_guard (by rfl) ?_; dsimp only)); refine goesL_ (some 9) rfl rfl Try.func19 (by kernel_rfl) rfl #[.slice A0 l0.length c0] rfl Yb_ ?_; (with_reducible refine (impl_IsValidStays.calls A0 c0 l0 true _ (Kd.C_below HR0.out HB.out) HC0.out A1.out).mono ?_); rintro e w14 ⟨rfl, hb⟩; refine ⟨_, rfl, ?_⟩; clear hzh; have m_ := Aside0.mk (blk_below BH.out hb); clear BH; have BH := m_; clear m_; have m_ := Aside0.mk (below_step HB.out hb); clear HB; have HB := m_; clear m_; have hzh : w14.cell? ⟨gh, 0, none⟩ = some (.int .i64 a1) := (blk_cell BH.out 0).trans rfl; clear hb) | ((with_reducible refine gate_callee (f := 53) rfl ?_); (try (refine gate_guard (by rfl) ?_; dsimp only)); refine goesL_ (some 13) rfl rfl Try.func53 (by kernel_rfl) rfl #[.int .i64 a1, .int .i64 0, .int .i64 240] rfl Yb_ ?_; (with_reducible refine (impl_within.calls a1 0 240 true _ A2.out).mono ?_); rintro e w15 ⟨rfl, hd_⟩; refine ⟨_, rfl, ?_⟩; have hb := Drawn0.below hd_; clear hd_; clear hzh; have m_ := Aside0.mk (blk_below BH.out hb); clear BH; have BH := m_; clear m_; have m_ := Aside0.mk (below_step HB.out hb); clear HB; have HB := m_; clear m_; have hzh : w15.cell? ⟨gh, 0, none⟩ = some (.int .i64 a1) := (blk_cell BH.out 0).trans rfl; clear hb) | ((with_reducible refine gate_callee (f := 65) rfl ?_); (try (refine gate_guard (by rfl) ?_; dsimp only)); refine goesL_ (some 17) rfl rfl Try.func65 (by kernel_rfl) rfl #[.slice A0 l0.length c0] rfl Yb_ ?_; (with_reducible refine (impl_lengthsOf.calls k A0 c0 l0 ls _ (Kd.C_below HR0.out HB.out) HC0.out A3.out).mono ?_); rintro e w10 ⟨v17, rfl, ho, hb⟩; refine ⟨_, rfl, ?_⟩; have HA := Aside0.mk (Kd.R_lower ho (below_size HB.out)); obtain ⟨Aa, ca, ea_⟩ := Kd.R_slice HA.out; subst ea_; clear ho; clear hzh; have m_ := Aside0.mk (blk_below BH.out hb); clear BH; have BH := m_; clear m_; have m_ := Aside0.mk (below_step HB.out hb); clear HB; have HB := m_; clear m_; have hzh : w10.cell? ⟨gh, 0, none⟩ = some (.int .i64 a1) := (blk_cell BH.out 0).trans rfl; clear hb) | ((with_reducible refine gate_dst (N := 6) rfl ?_); refine box_event ?hg (N := 6) ?hd (cs := #[.slice none 0 0]) (t := 53) ?hr ?_; (case hd => rfl); (case hg => rfl); (case hr => first | (go_simp; done) | (go_simp; rfl)); intro gl hg w5 hbox hb; have GEl := Aside0.mk (show w.heap.size ≤ gl by rw [hg]; exact below_size HB.out); have NEl := Aside0.mk (show gh ≠ gl by rw [hg]; exact Nat.ne_of_lt (blk_lt BH.out)); have BL := Aside0.mk hbox; have m_ := Aside0.mk (Kd.R_below HA.out hb); clear HA; have HA := m_; clear m_; clear hzh; have m_ := Aside0.mk (blk_below BH.out hb); clear BH; have BH := m_; clear m_; have m_ := Aside0.mk (below_step HB.out hb); clear HB; have HB := m_; clear m_; have hzh : w5.cell? ⟨gh, 0, none⟩ = some (.int .i64 a1) := (blk_cell BH.out 0).trans rfl; clear hb hbox hg; have hzl : w5.cell? ⟨gl, 0, none⟩ = some (.slice none 0 0) := (blk_cell BL.out 0).trans rfl; have hfl := blk_frozen BL.out 0) | ((with_reducible refine gate_store (t := 53) (p := 6) rfl ?_); refine store_event (t := 53) (p := 6) (v := ?vo_l) (w1 := (w5.setCell ⟨gl, 0, none⟩ (.slice Aa ls.length ca))) ?hg ?ho ?hn ?hr ?_; (case ho => rfl); (case hg => rfl); (case hn => rfl); (case hr => first | (go_simp; done) | (go_simp; rfl)); intro w6 hw; have hO_ : Go.Proofs.YtolaplcjbmjlmaaOwn.Only w5 w6 gl := (by rw [hw]; exact (Go.Proofs.YtolaplcjbmjlmaaOwn.Only.refl _ _).set 0 _); have hbx_ : w6.heap[gl]? = some (.cells #[.slice Aa ls.length ca] 53 (0, 0)) := (by rw [hw]; refine blk_put (cs := #[.slice none 0 0]) ?_ 0 _ rfl; exact BL.out); clear hw hzl hfl hzh; have m_ := Aside0.mk (Go.Proofs.YtolaplcjbmjlmaaOwn.onlyR HA.out BL.out (by decide) hO_); clear HA; have HA := m_; clear m_; have m_ := Aside0.mk ((hO_.others _ NEl.out).trans BH.out); clear BH; have BH := m_; clear m_; have m_ := Aside0.mk (hO_.below HB.out GEl.out); clear HB; have HB := m_; clear m_; clear BL; have BL := Aside0.mk hbx_; clear hbx_ hO_; have hzh : w6.cell? ⟨gh, 0, none⟩ = some (.int .i64 a1) := (blk_cell BH.out 0).trans rfl) | ((with_reducible refine gate_callee (f := 72) rfl ?_); (try (refine gate_guard (by rfl) ?_; dsimp only)); refine goesL_ (some 20) rfl rfl Try.func72 (by kernel_rfl) rfl #[.int .i64 (l0.length : Int)] rfl Yb_ ?_; (with_reducible refine (impl_upTo.calls k (l0.length : Int) [] _ A4.out).mono ?_); rintro e w16 ⟨v20, rfl, ho, hb⟩; refine ⟨_, rfl, ?_⟩; have HO := Aside0.mk (Kd.R_lower ho (below_size HB.out)); obtain ⟨Au, cu, eu_⟩ := Kd.R_slice HO.out; subst eu_; clear ho; have m_ := Aside0.mk (Kd.R_below HA.out hb); clear HA; have HA := m_; clear m_; have m_ := Aside0.mk (blk_below BL.out hb); clear BL; have BL := m_; clear m_; clear hzh; have m_ := Aside0.mk (blk_below BH.out hb); clear BH; have BH := m_; clear m_; have m_ := Aside0.mk (below_step HB.out hb); clear HB; have HB := m_; clear m_; have hzh : w16.cell? ⟨gh, 0, none⟩ = some (.int .i64 a1) := (blk_cell BH.out 0).trans rfl; clear hb) | ((with_reducible refine gate_callee (f := 71) rfl ?_); (try (refine gate_guard (by rfl) ?_; dsimp only)); refine goesL_ (some 22) rfl rfl Try.func71 (by kernel_rfl) rfl #[.slice Au 0 cu, .func (.func 73) #[] #[.pointer (some ⟨gl, 0, none⟩), .pointer (some ⟨gh, 0, none⟩)]] rfl Yb_ ?_; (with_reducible refine (slices_DeleteFunc_none.calls Au cu _ _).mono ?_); rintro e w8 ⟨rfl, hd_⟩; refine ⟨_, rfl, ?_⟩; have hb := Drawn0.below hd_; clear hd_; have m_ := Aside0.mk (Kd.R_below HO.out hb); clear HO; have HO := m_; clear m_; clear hzh; have m_ := Aside0.mk (blk_below BH.out hb); clear BH; have BH := m_; clear m_; have m_ := Aside0.mk (below_step HB.out hb); clear HB; have HB := m_; clear m_; have hzh : w8.cell? ⟨gh, 0, none⟩ = some (.int .i64 a1) := (blk_cell BH.out 0).trans rfl; clear hb) | ((with_reducible refine gate_callee (f := 74) rfl ?_); (try (refine gate_guard (by rfl) ?_; dsimp only)); refine goesL_ (some 25) rfl rfl Try.func74 (by kernel_rfl) rfl #[.slice Au 0 cu, .func (.func 75) #[] #[.pointer (some ⟨gl, 0, none⟩)]] rfl Yb_ ?_; refine (slices_SortStableFunc_none.calls Au cu (.func 75) _ _ _).mono ?_; rintro e w9 ⟨rfl, hd_⟩; refine ⟨_, rfl, ?_⟩; have hb := Drawn0.below hd_; clear hd_; have m_ := Aside0.mk (Kd.R_below HO.out hb); clear HO; have HO := m_; clear m_; clear hzh; have m_ := Aside0.mk (blk_below BH.out hb); clear BH; have BH := m_; clear m_; have m_ := Aside0.mk (below_step HB.out hb); clear HB; have HB := m_; clear m_; have hzh : w9.cell? ⟨gh, 0, none⟩ = some (.int .i64 a1) := (blk_cell BH.out 0).trans rfl; clear hb))
    repeat (go_quiet (fail); try go_wp2)
    go_ret2
    exact ⟨_, by first | rfl | (simp; done) | (simp [*]; done), HO.out, HB.out⟩
   ·rw [if_neg c3] at h
    clear c3
    obtain ⟨c4, h⟩ := Go.Proofs.YtolaplcjbmjlmaaOwn.ite_some h
    have U0 := Aside0.mk c4
    clear c4
    simp only [Option.some.injEq, Prod.mk.injEq] at h
    obtain ⟨rfl, rfl⟩ := h
    go_enter Try.func41, Try.ntmps41
    go_wp2_with (first | ((with_reducible refine gate_dst (N := 3) rfl ?_); refine box_event ?hg (N := 3) ?hd (cs := #[.int .i64 a1]) (t := 3) ?hr ?_; (case hd => rfl); (case hg => rfl); (case hr => first | (go_simp; done) | (go_simp; rfl)); intro gh hg w1 hbox hb; have BH := Aside0.mk hbox; have m_ := Aside0.mk (below_step HB.out hb); clear HB; have HB := m_; clear m_; clear hb hbox hg; have hzh : w1.cell? ⟨gh, 0, none⟩ = some (.int .i64 a1) := (blk_cell BH.out 0).trans rfl) | ((with_reducible refine gate_callee (f := 19) rfl ?_); (try (refine gate_guard (by rfl) ?_; dsimp only)); refine goesL_ (some 9) rfl rfl Try.func19 (by kernel_rfl) rfl #[.slice A0 l0.length c0] rfl Yb_ ?_; (with_reducible refine (impl_IsValidStays.calls A0 c0 l0 true _ (Kd.C_below HR0.out HB.out) HC0.out A1.out).mono ?_); rintro e w17 ⟨rfl, hb⟩; refine ⟨_, rfl, ?_⟩; clear hzh; have m_ := Aside0.mk (blk_below BH.out hb); clear BH; have BH := m_; clear m_; have m_ := Aside0.mk (below_step HB.out hb); clear HB; have HB := m_; clear m_; have hzh : w17.cell? ⟨gh, 0, none⟩ = some (.int .i64 a1) := (blk_cell BH.out 0).trans rfl; clear hb) | ((with_reducible refine gate_callee (f := 53) rfl ?_); (try (refine gate_guard (by rfl) ?_; dsimp only)); refine goesL_ (some 13) rfl rfl Try.func53 (by kernel_rfl) rfl #[.int .i64 a1, .int .i64 0, .int .i64 240] rfl Yb_ ?_; (with_reducible refine (impl_within.calls a1 0 240 true _ A2.out).mono ?_); rintro e w18 ⟨rfl, hd_⟩; refine ⟨_, rfl, ?_⟩; have hb := Drawn0.below hd_; clear hd_; clear hzh; have m_ := Aside0.mk (blk_below BH.out hb); clear BH; have BH := m_; clear m_; have m_ := Aside0.mk (below_step HB.out hb); clear HB; have HB := m_; clear m_; have hzh : w18.cell? ⟨gh, 0, none⟩ = some (.int .i64 a1) := (blk_cell BH.out 0).trans rfl; clear hb) | ((with_reducible refine gate_callee (f := 65) rfl ?_); (try (refine gate_guard (by rfl) ?_; dsimp only)); refine goesL_ (some 17) rfl rfl Try.func65 (by kernel_rfl) rfl #[.slice A0 l0.length c0] rfl Yb_ ?_; (with_reducible refine (impl_lengthsOf.calls k A0 c0 l0 ls _ (Kd.C_below HR0.out HB.out) HC0.out A3.out).mono ?_); rintro e w10 ⟨v17, rfl, ho, hb⟩; refine ⟨_, rfl, ?_⟩; have HA := Aside0.mk (Kd.R_lower ho (below_size HB.out)); obtain ⟨Aa, ca, ea_⟩ := Kd.R_slice HA.out; subst ea_; clear ho; clear hzh; have m_ := Aside0.mk (blk_below BH.out hb); clear BH; have BH := m_; clear m_; have m_ := Aside0.mk (below_step HB.out hb); clear HB; have HB := m_; clear m_; have hzh : w10.cell? ⟨gh, 0, none⟩ = some (.int .i64 a1) := (blk_cell BH.out 0).trans rfl; clear hb) | ((with_reducible refine gate_dst (N := 6) rfl ?_); refine box_event ?hg (N := 6) ?hd (cs := #[.slice none 0 0]) (t := 53) ?hr ?_; (case hd => rfl); (case hg => rfl); (case hr => first | (go_simp; done) | (go_simp; rfl)); intro gl hg w5 hbox hb; have GEl := Aside0.mk (show w.heap.size ≤ gl by rw [hg]; exact below_size HB.out); have NEl := Aside0.mk (show gh ≠ gl by rw [hg]; exact Nat.ne_of_lt (blk_lt BH.out)); have BL := Aside0.mk hbox; have m_ := Aside0.mk (Kd.R_below HA.out hb); clear HA; have HA := m_; clear m_; clear hzh; have m_ := Aside0.mk (blk_below BH.out hb); clear BH; have BH := m_; clear m_; have m_ := Aside0.mk (below_step HB.out hb); clear HB; have HB := m_; clear m_; have hzh : w5.cell? ⟨gh, 0, none⟩ = some (.int .i64 a1) := (blk_cell BH.out 0).trans rfl; clear hb hbox hg; have hzl : w5.cell? ⟨gl, 0, none⟩ = some (.slice none 0 0) := (blk_cell BL.out 0).trans rfl; have hfl := blk_frozen BL.out 0) | ((with_reducible refine gate_store (t := 53) (p := 6) rfl ?_); refine store_event (t := 53) (p := 6) (v := ?vo_l) (w1 := (w5.setCell ⟨gl, 0, none⟩ (.slice Aa ls.length ca))) ?hg ?ho ?hn ?hr ?_; (case ho => rfl); (case hg => rfl); (case hn => rfl); (case hr => first | (go_simp; done) | (go_simp; rfl)); intro w6 hw; have hO_ : Go.Proofs.YtolaplcjbmjlmaaOwn.Only w5 w6 gl := (by rw [hw]; exact (Go.Proofs.YtolaplcjbmjlmaaOwn.Only.refl _ _).set 0 _); have hbx_ : w6.heap[gl]? = some (.cells #[.slice Aa ls.length ca] 53 (0, 0)) := (by rw [hw]; refine blk_put (cs := #[.slice none 0 0]) ?_ 0 _ rfl; exact BL.out); clear hw hzl hfl hzh; have m_ := Aside0.mk (Go.Proofs.YtolaplcjbmjlmaaOwn.onlyR HA.out BL.out (by decide) hO_); clear HA; have HA := m_; clear m_; have m_ := Aside0.mk ((hO_.others _ NEl.out).trans BH.out); clear BH; have BH := m_; clear m_; have m_ := Aside0.mk (hO_.below HB.out GEl.out); clear HB; have HB := m_; clear m_; clear BL; have BL := Aside0.mk hbx_; clear hbx_ hO_; have hzh : w6.cell? ⟨gh, 0, none⟩ = some (.int .i64 a1) := (blk_cell BH.out 0).trans rfl) | ((with_reducible refine gate_callee (f := 72) rfl ?_); (try (refine gate_guard (by rfl) ?_; dsimp only)); refine goesL_ (some 20) rfl rfl Try.func72 (by kernel_rfl) rfl #[.int .i64 (l0.length : Int)] rfl Yb_ ?_; (with_reducible refine (impl_upTo.calls k (l0.length : Int) u _ A4.out).mono ?_); rintro e w19 ⟨v20, rfl, ho, hb⟩; refine ⟨_, rfl, ?_⟩; have HLC := Aside0.mk (Kd.R_reads' HA.out).2.2; have hcl6 := Aside0.mk (show w6.cell? ⟨gl, 0, none⟩ = some (.slice Aa ls.length ca) from (blk_cell BL.out 0).trans rfl); have hch6 := Aside0.mk (show w6.cell? ⟨gh, 0, none⟩ = some (.int .i64 a1) from (blk_cell BH.out 0).trans rfl); have hlc6 := Aside0.mk (show Kd.C (Kd.int .i64) w6 Aa ls.length ls from HLC.out); have HB6 := HB; have HW6 := Aside0.mk hb; have HO := Aside0.mk ho; obtain ⟨blk, cap, eu_, hbl⟩ := R_some2 ho U0.out.1.1; subst eu_; have HBK := Aside0.mk hbl; clear ho hbl; have m_ := Aside0.mk (Kd.R_below HA.out hb); clear HA; have HA := m_; clear m_; have m_ := Aside0.mk (blk_below BL.out hb); clear BL; have BL := m_; clear m_; clear hzh; have m_ := Aside0.mk (blk_below BH.out hb); clear BH; have BH := m_; clear m_; have m_ := Aside0.mk (below_step HB.out hb); clear HB; have HB := m_; clear m_; have hzh : w19.cell? ⟨gh, 0, none⟩ = some (.int .i64 a1) := (blk_cell BH.out 0).trans rfl; clear hb) | ((with_reducible refine gate_callee (f := 71) rfl ?_); (try (refine gate_guard (by rfl) ?_; dsimp only)); refine goesL_ (some 22) rfl rfl Try.func71 (by kernel_rfl) rfl #[.slice (some ⟨blk, 0, none⟩) u.length cap, .func (.func 73) #[] #[.pointer (some ⟨gl, 0, none⟩), .pointer (some ⟨gh, 0, none⟩)]] rfl Yb_ ?_; refine (slices_DeleteFunc_ints.calls (enters_of Try.func73 (by kernel_rfl) rfl) (clo_long ls a1) w6 _ blk cap u U0.out.1.1 _ (fun _ => True) HO.out HW6.out HBK.out ?hp_).mono ?_; (case hp_ => intro W_ x_ hx_ hW_; exact clo_long.ok W_ (U0.out.2 x_ hx_).1 (U0.out.2 x_ hx_).2 ((hW_.cell (World.block_lt_of_cell? _ _ hcl6.out)).trans hcl6.out) ((hW_.cell (World.block_lt_of_cell? _ _ hch6.out)).trans hch6.out) (Kd.C_below hlc6.out hW_)); rintro e w8 ⟨rfl, ho, hb⟩; refine ⟨_, rfl, ?_⟩; clear HO HW6; have HO := Aside0.mk ho; have HW6 := Aside0.mk hb; have HFL := Aside0.mk (show ∀ x ∈ u.filter (fun x => !clo_long ls a1 x), x ∈ u from fun x hx => (List.mem_filter.1 hx).1); have HFN := Aside0.mk (show (u.filter (fun x => !clo_long ls a1 x)).length ≤ u.length from List.length_filter_le _ _); generalize hf_ : (u.filter fun x => !clo_long ls a1 x) = f_ at HO HFL HFN ⊢; have HF := Aside0.mk hf_; clear ho hb hf_) | ((with_reducible refine gate_callee (f := 74) rfl ?_); (try (refine gate_guard (by rfl) ?_; dsimp only)); refine goesL_ (some 25) rfl rfl Try.func74 (by kernel_rfl) rfl #[.slice (some ⟨blk, 0, none⟩) f_.length cap, .func (.func 75) #[] #[.pointer (some ⟨gl, 0, none⟩)]] rfl Yb_ ?_; refine (slices_SortStableFunc_own.calls (enters_of Try.func75 (by kernel_rfl) rfl) (fun x => 0 ≤ x ∧ x < (ls.length : Int)) (U0.out.2 0 U0.out.1.1) (cmpLong ls) w6 _ blk cap f_ (fun x hx => U0.out.2 x (HFL.out x hx)) (Nat.le_trans HFN.out U0.out.1.2) _ (fun _ => True) HO.out HW6.out HBK.out ?hq_).mono ?_; (case hq_ => intro W_ x_ y_ hx_ hy_ hW_; exact cmpLong.ok W_ hx_.1 hx_.2 hy_.1 hy_.2 ((hW_.cell (World.block_lt_of_cell? _ _ hcl6.out)).trans hcl6.out) (Kd.C_below hlc6.out hW_)); rintro e w9 ⟨rfl, ho, hb⟩; refine ⟨_, rfl, ?_⟩; clear HO HW6; have HO := Aside0.mk ho; have HW6 := Aside0.mk hb; rw [stabL_length] at HO; clear ho hb))
    repeat (go_quiet (fail); try go_wp2)
    go_ret2
    exact ⟨_, by first | rfl | (simp; done) | (simp [*]; done), by show Kd.R _ _ _ _ _ _ (stabL _ _); rw [HF.out]; exact Kd.R_lower HO.out (below_size HB6.out), below_step HB6.out HW6.out⟩
end Go.Proofs.Ytolaplcjbmjlmaa.X

namespace Go.Proofs.Ytolaplcjbmjlmaa.X
open Go.RowKit Go.Proofs.YtolaplcjbmjlmaaW.PrintWords Go.Proofs.YtolaplcjbmjlmaaW.PrintLast Go.Proofs.YtolaplcjbmjlmaaW.PrintMore
attribute [local go_sem] max2_int min2_int max_two min_two max_three min_three max_four min_four
def Bz.j0 : Nat → List (S59) → Bool → Option (Int × Int × Bool)
 | 0, _, _ => none
 | k + 1, x0, x16 => if x16 = true then (some (0, 0, false)) else ((Cj.f k x0).bind fun t595 => ((F9.f t595).bind fun t598 => (if 0 ≤ (wrap64 (Int.tdiv (wrap64 ((t598.length : Int) - 1)) 2)) then (if (wrap64 (Int.tdiv (wrap64 ((t598.length : Int) - 1)) 2)) < (t598.length : Int) then (if 0 ≤ (wrap64 ((t598.length : Int) / 2)) then (if (wrap64 ((t598.length : Int) / 2)) < (t598.length : Int) then ((Dk.f k (wrap64 ((rd t598 (wrap64 (Int.tdiv (wrap64 ((t598.length : Int) - 1)) 2))) + (rd t598 (wrap64 ((t598.length : Int) / 2))))) 2).bind fun bt603 => (some (bt603.1, bt603.2, true))) else (none)) else (none)) else (none)) else (none))))
def Bz.f (k : Nat) (l0 : List (S59)) : Option (Int × Int × Bool) := (Aq.f k l0).bind fun t594 => (if t594 = true then (Bz.j0 k l0 ((l0.length : Int) == 0)) else (Bz.j0 k l0 true))
theorem Bz.Dq : ∀ k, (∀ y0 y1, LeO (Bz.j0 k y0 y1) (Bz.j0 (k + 1) y0 y1))
 | 0 => fun _ _ r h => by simp [Bz.j0] at h
 | k + 1 => by
  have ih0 := Bz.Dq k
  ·intro y0 y1
   unfold Bz.j0
   repeat' first
   | (with_reducible exact ih0 _ _)
   | (with_reducible exact Dk.mono _ _ _)
   | (with_reducible exact Aq.mono _ _)
   | (with_reducible exact Cj.mono _ _)
   | (with_reducible exact LeO.refl _)
   | (with_reducible exact LeO.none _)
   | (with_reducible refine LeO.ite ?_ ?_)
   | (with_reducible refine LeO.bind ?_ (fun _ => ?_))
   | exact ih0 _ _
   | exact Dk.mono _ _ _
   | exact Aq.mono _ _
   | exact Cj.mono _ _
   | exact LeO.none _
   | refine LeO.ite ?_ ?_
   | refine LeO.bind ?_ (fun _ => ?_)
theorem Bz.mono : ∀ a0 k, LeO (Bz.f k a0) (Bz.f (k + 1) a0) := by
 intro a0 k
 have ih0 := Bz.Dq k
 unfold Bz.f
 repeat' first
   | (with_reducible exact ih0 _ _)
   | (with_reducible exact Dk.mono _ _ _)
   | (with_reducible exact Aq.mono _ _)
   | (with_reducible exact Cj.mono _ _)
   | (with_reducible exact LeO.refl _)
   | (with_reducible exact LeO.none _)
   | (with_reducible refine LeO.ite ?_ ?_)
   | (with_reducible refine LeO.bind ?_ (fun _ => ?_))
   | exact ih0 _ _
   | exact Dk.mono _ _ _
   | exact Aq.mono _ _
   | exact Cj.mono _ _
   | exact LeO.none _
   | refine LeO.ite ?_ ?_
   | refine LeO.bind ?_ (fun _ => ?_)
set_option maxHeartbeats 8000000 in
set_option maxRecDepth 100000 in
theorem Bz.calls (k : Nat) (A0 : Option Addr) (c0 : Nat) (l0 : List (S59)) (r1 : Int) (r2 : Int) (r3 : Bool) (w : World) (hr0 : Kd.C k59 w A0 l0.length l0) (hc0 : l0.length ≤ c0) (h : Bz.f k l0 = some (r1, r2, r3)) :
  Calls Try.prog 45 #[.slice A0 l0.length c0] w fun e w' => e = .returned (.tuple #[.int .i64 r1, .int .i64 r2, .bool r3]) ∧ Below w.heap.size w w' := by
 have HR0 := Aside0.mk hr0
 have HC0 := Aside0.mk hc0
 clear hr0 hc0
 have HB := Aside0.mk (Below.refl w.heap.size w)
 have H : ((Aq.f k l0).bind fun t594 => (if t594 = true then (Bz.j0 k l0 ((l0.length : Int) == 0)) else (Bz.j0 k l0 true))) = some (r1, r2, r3) := h
 clear h
 have HC2 := Aside0.mk H
 clear H
 go_enter Try.func45, Try.ntmps45
 go_upto_region 1 with (fail)
 repeat (go_quiet (fail); go_upto_region 1 with (fail))
 go_cut [16] (fun v16 wc => ∃ (kq : Nat) (x16_1 : Bool), v16 = .bool x16_1 ∧ Aside0 (Bz.j0 kq l0 x16_1 = some (r1, r2, r3)) ∧ Aside0 (kq ≤ k) ∧ Aside0 (Below w.heap.size w wc))
 case first =>
  have H := HC2.out
  clear HC2
  replace H := Option.bind_eq_some_iff.mp H
  obtain ⟨t594, A30, H⟩ := H
  replace H : (if t594 = true then (Bz.j0 k l0 ((l0.length : Int) == 0)) else (Bz.j0 k l0 true)) = some (r1, r2, r3) := H
  have A3 := Aside0.mk A30
  clear A30
  by_cases c4 : t594 = true
  ·subst c4
   have H1 : (Bz.j0 k l0 ((l0.length : Int) == 0)) = some (r1, r2, r3) := by rw [if_pos rfl] at H; exact H
   clear H
   have H := H1
   clear H1
   have H' := Aside0.mk H
   clear H
   go_wp2_with (first | (go_at_call 54; (with_reducible refine (Aq.calls k _ _ l0 true _ ?side1 ?side2 A3.out).mono ?_); (case side1 => repeat (first | exact (Kd.C_below HR0.out HB.out) | (with_reducible refine Kd.Be ?_ _) | (with_reducible refine Kd.Bf ?_ _) | (with_reducible refine Kd.Bh ?_))); (case side2 => exact HC0.out); rintro e w5 ⟨rfl, hb⟩; have n0_ := Aside0.mk (below_step Ya_ hb); clear HB; have HB := n0_; clear n0_; (try clear hb); (try clear hb2); (try clear hk); (try clear hi)))
   repeat (go_quiet (first | (go_at_call 54; (with_reducible refine (Aq.calls k _ _ l0 true _ ?side1 ?side2 A3.out).mono ?_); (case side1 => repeat (first | exact (Kd.C_below HR0.out HB.out) | (with_reducible refine Kd.Be ?_ _) | (with_reducible refine Kd.Bf ?_ _) | (with_reducible refine Kd.Bh ?_))); (case side2 => exact HC0.out); rintro e w5 ⟨rfl, hb⟩; have n0_ := Aside0.mk (below_step Ya_ hb); clear HB; have HB := n0_; clear n0_; (try clear hb); (try clear hb2); (try clear hk); (try clear hi))); try go_wp2_with (first | (go_at_call 54; (with_reducible refine (Aq.calls k _ _ l0 true _ ?side1 ?side2 A3.out).mono ?_); (case side1 => repeat (first | exact (Kd.C_below HR0.out HB.out) | (with_reducible refine Kd.Be ?_ _) | (with_reducible refine Kd.Bf ?_ _) | (with_reducible refine Kd.Bh ?_))); (case side2 => exact HC0.out); rintro e w5 ⟨rfl, hb⟩; have n0_ := Aside0.mk (below_step Ya_ hb); clear HB; have HB := n0_; clear n0_; (try clear hb); (try clear hb2); (try clear hk); (try clear hi))))
   go_meet
   case rel => exact ⟨_, (((l0.length : Int) == 0)), Yd_, H', ⟨by first | omega | exact Nat.le_refl _⟩, ⟨by repeat (first | (with_reducible first | exact HB.out | apply Af | apply Ad | apply Ae) | exact HB.out)⟩⟩
  ·replace c4 := Bool.eq_false_iff.mpr c4
   subst c4
   have H1 : (Bz.j0 k l0 true) = some (r1, r2, r3) := by rw [if_neg (show ¬ (false = true) by decide)] at H; exact H
   clear H
   have H := H1
   clear H1
   have H' := Aside0.mk H
   clear H
   go_wp2_with (first | (go_at_call 54; (with_reducible refine (Aq.calls k _ _ l0 false _ ?side1 ?side2 A3.out).mono ?_); (case side1 => repeat (first | exact (Kd.C_below HR0.out HB.out) | (with_reducible refine Kd.Be ?_ _) | (with_reducible refine Kd.Bf ?_ _) | (with_reducible refine Kd.Bh ?_))); (case side2 => exact HC0.out); rintro e w6 ⟨rfl, hb⟩; have n0_ := Aside0.mk (below_step Ya_ hb); clear HB; have HB := n0_; clear n0_; (try clear hb); (try clear hb2); (try clear hk); (try clear hi)))
   repeat (go_quiet (first | (go_at_call 54; (with_reducible refine (Aq.calls k _ _ l0 false _ ?side1 ?side2 A3.out).mono ?_); (case side1 => repeat (first | exact (Kd.C_below HR0.out HB.out) | (with_reducible refine Kd.Be ?_ _) | (with_reducible refine Kd.Bf ?_ _) | (with_reducible refine Kd.Bh ?_))); (case side2 => exact HC0.out); rintro e w6 ⟨rfl, hb⟩; have n0_ := Aside0.mk (below_step Ya_ hb); clear HB; have HB := n0_; clear n0_; (try clear hb); (try clear hb2); (try clear hk); (try clear hi))); try go_wp2_with (first | (go_at_call 54; (with_reducible refine (Aq.calls k _ _ l0 false _ ?side1 ?side2 A3.out).mono ?_); (case side1 => repeat (first | exact (Kd.C_below HR0.out HB.out) | (with_reducible refine Kd.Be ?_ _) | (with_reducible refine Kd.Bf ?_ _) | (with_reducible refine Kd.Bh ?_))); (case side2 => exact HC0.out); rintro e w6 ⟨rfl, hb⟩; have n0_ := Aside0.mk (below_step Ya_ hb); clear HB; have HB := n0_; clear n0_; (try clear hb); (try clear hb2); (try clear hk); (try clear hi))))
   go_meet
   case rel => exact ⟨_, (true), Yd_, H', ⟨by first | omega | exact Nat.le_refl _⟩, ⟨by repeat (first | (with_reducible first | exact HB.out | apply Af | apply Ad | apply Ae) | exact HB.out)⟩⟩
 case rest =>
  clear HC2
  try clear p2
  try clear c4
  obtain ⟨kq, x16_1, rfl, HA, HJ1, HB⟩ := hcut
  cases kq with
  | zero => exact absurd HA.out (by simp [Bz.j0])
  | succ kj1 =>
   have H := HA.out
   clear HA
   simp only [Bz.j0] at H
   by_cases c7 : x16_1 = true
   ·subst c7
    have H1 : (some (0, 0, false)) = some (r1, r2, r3) := by rw [if_pos rfl] at H; exact H
    clear H
    have H := H1
    clear H1
    simp only [Option.some.injEq, Prod.mk.injEq] at H
    obtain ⟨rfl, rfl, rfl⟩ := H
    go_wp2
    repeat (go_quiet (fail); try go_wp2)
    go_ret3
    exact ⟨by first | rfl | (simp [Aw, Az] <;> rfl) | (simp [*, Aw, Az] <;> rfl), by repeat (first | (with_reducible first | exact HB.out | apply Af | apply Ad | apply Ae) | exact HB.out)⟩
   ·replace c7 := Bool.eq_false_iff.mpr c7
    subst c7
    have H1 : ((Cj.f kj1 l0).bind fun t595 => ((F9.f t595).bind fun t598 => (if 0 ≤ (wrap64 (Int.tdiv (wrap64 ((t598.length : Int) - 1)) 2)) then (if (wrap64 (Int.tdiv (wrap64 ((t598.length : Int) - 1)) 2)) < (t598.length : Int) then (if 0 ≤ (wrap64 ((t598.length : Int) / 2)) then (if (wrap64 ((t598.length : Int) / 2)) < (t598.length : Int) then ((Dk.f kj1 (wrap64 ((rd t598 (wrap64 (Int.tdiv (wrap64 ((t598.length : Int) - 1)) 2))) + (rd t598 (wrap64 ((t598.length : Int) / 2))))) 2).bind fun bt603 => (some (bt603.1, bt603.2, true))) else (none)) else (none)) else (none)) else (none)))) = some (r1, r2, r3) := by rw [if_neg (show ¬ (false = true) by decide)] at H; exact H
    clear H
    have H := H1
    clear H1
    replace H := Option.bind_eq_some_iff.mp H
    obtain ⟨t595, A80, H⟩ := H
    replace H : ((F9.f t595).bind fun t598 => (if 0 ≤ (wrap64 (Int.tdiv (wrap64 ((t598.length : Int) - 1)) 2)) then (if (wrap64 (Int.tdiv (wrap64 ((t598.length : Int) - 1)) 2)) < (t598.length : Int) then (if 0 ≤ (wrap64 ((t598.length : Int) / 2)) then (if (wrap64 ((t598.length : Int) / 2)) < (t598.length : Int) then ((Dk.f kj1 (wrap64 ((rd t598 (wrap64 (Int.tdiv (wrap64 ((t598.length : Int) - 1)) 2))) + (rd t598 (wrap64 ((t598.length : Int) / 2))))) 2).bind fun bt603 => (some (bt603.1, bt603.2, true))) else (none)) else (none)) else (none)) else (none))) = some (r1, r2, r3) := H
    have A8 := Aside0.mk A80
    clear A80
    replace H := Option.bind_eq_some_iff.mp H
    obtain ⟨t598, A90, H⟩ := H
    replace H : (if 0 ≤ (wrap64 (Int.tdiv (wrap64 ((t598.length : Int) - 1)) 2)) then (if (wrap64 (Int.tdiv (wrap64 ((t598.length : Int) - 1)) 2)) < (t598.length : Int) then (if 0 ≤ (wrap64 ((t598.length : Int) / 2)) then (if (wrap64 ((t598.length : Int) / 2)) < (t598.length : Int) then ((Dk.f kj1 (wrap64 ((rd t598 (wrap64 (Int.tdiv (wrap64 ((t598.length : Int) - 1)) 2))) + (rd t598 (wrap64 ((t598.length : Int) / 2))))) 2).bind fun bt603 => (some (bt603.1, bt603.2, true))) else (none)) else (none)) else (none)) else (none)) = some (r1, r2, r3) := H
    have A9 := Aside0.mk A90
    clear A90
    obtain ⟨ji10, hji10⟩ : ∃ j_ : Int, (wrap64 (Int.tdiv (wrap64 ((t598.length : Int) - 1)) 2)) = j_ := ⟨_, rfl⟩
    replace H : (if 0 ≤ (ji10) then (if (ji10) < (t598.length : Int) then (if 0 ≤ (wrap64 ((t598.length : Int) / 2)) then (if (wrap64 ((t598.length : Int) / 2)) < (t598.length : Int) then ((Dk.f kj1 (wrap64 ((rd t598 (ji10)) + (rd t598 (wrap64 ((t598.length : Int) / 2))))) 2).bind fun bt603 => (some (bt603.1, bt603.2, true))) else (none)) else (none)) else (none)) else (none)) = some (r1, r2, r3) := by first | (rw [hji10] at H; exact H) | (simp only [hji10] at H ⊢; exact H)
    (try rw [hji10] at A8)
    (try rw [hji10] at A9)
    have hji10w : (IntKind.i64.wrap (Int.tdiv (wrap64 ((t598.length : Int) - 1)) 2)) = ji10 := (Aj _).trans hji10
    by_cases c11 : 0 ≤ (ji10)
    ·rw [if_pos c11] at H
     have c11b0 : decide (0 ≤ (ji10)) = true := decide_eq_true c11
     clear c11
     by_cases c12 : (ji10) < (t598.length : Int)
     ·rw [if_pos c12] at H
      have c12b0 : decide ((ji10) < (t598.length : Int)) = true := decide_eq_true c12
      clear c12
      obtain ⟨ji13, hji13⟩ : ∃ j_ : Int, (wrap64 ((t598.length : Int) / 2)) = j_ := ⟨_, rfl⟩
      replace H : (if 0 ≤ (ji13) then (if (ji13) < (t598.length : Int) then ((Dk.f kj1 (wrap64 ((rd t598 (ji10)) + (rd t598 (ji13)))) 2).bind fun bt603 => (some (bt603.1, bt603.2, true))) else (none)) else (none)) = some (r1, r2, r3) := by first | (rw [hji13] at H; exact H) | (simp only [hji13] at H ⊢; exact H)
      (try rw [hji13] at A8)
      (try rw [hji13] at A9)
      have hji13w : (IntKind.i64.wrap ((t598.length : Int) / 2)) = ji13 := (Aj _).trans hji13
      by_cases c14 : 0 ≤ (ji13)
      ·rw [if_pos c14] at H
       have c14b0 : decide (0 ≤ (ji13)) = true := decide_eq_true c14
       clear c14
       by_cases c15 : (ji13) < (t598.length : Int)
       ·rw [if_pos c15] at H
        have c15b0 : decide ((ji13) < (t598.length : Int)) = true := decide_eq_true c15
        clear c15
        replace H := Option.bind_eq_some_iff.mp H
        obtain ⟨⟨t603, t604⟩, A160, H⟩ := H
        replace H : (some (t603, t604, true)) = some (r1, r2, r3) := H
        have A16 := Aside0.mk A160
        clear A160
        simp only [Option.some.injEq, Prod.mk.injEq] at H
        obtain ⟨rfl, rfl, rfl⟩ := H
        go_wp2_with (first | (go_at_call 63; (with_reducible refine (Cj.calls kj1 _ _ l0 t595 _ ?side1 ?side2 A8.out).mono ?_); (case side1 => repeat (first | exact (Kd.C_below HR0.out HB.out) | (with_reducible refine Kd.Be ?_ _) | (with_reducible refine Kd.Bf ?_ _) | (with_reducible refine Kd.Bh ?_))); (case side2 => exact HC0.out); rintro e w17 ⟨v596, rfl, ho0, hb⟩; have n0_ := Aside0.mk (Kd.R_lower ho0 (below_size Ya_)); have n1_ := Aside0.mk (below_step Ya_ hb); clear HB; have HO597 := n0_; have HB := n1_; clear n0_ n1_; (try clear hb); (try clear hb2); (try clear hk); (try clear hi); (try clear ho0); obtain ⟨Ao18, co18, eo18⟩ := Kd.R_slice HO597.out; subst eo18) | (go_at_call 77; (with_reducible refine (F9.calls _ _ t595 t598 _ ?side1 ?side2 A9.out).mono ?_); (case side1 => repeat (first | exact (Kd.R_reads' HO597.out).2.2 | (with_reducible refine Kd.Be ?_ _) | (with_reducible refine Kd.Bf ?_ _) | (with_reducible refine Kd.Bh ?_))); (case side2 => exact (Kd.R_reads' HO597.out).2.1); rintro e w19 ⟨v599, rfl, ho0, hb⟩; have n0_ := Aside0.mk (Kd.Gs Ycd_ (Kd.Gv ho0) hb); have n1_ := Aside0.mk (Kd.R_lower (Kd.G7 ho0 (Kd.R_lt Ycd_)) (below_size Ya_)); have n2_ := Aside0.mk (below_step Ya_ hb); clear HO597; clear HB; have HO597 := n0_; have HO600 := n1_; have HB := n2_; clear n0_ n1_ n2_; (try clear hb); (try clear hb2); (try clear hk); (try clear hi); (try clear ho0); obtain ⟨Ao20, co20, eo20⟩ := Kd.R_slice HO600.out; subst eo20; have p601 : 0 ≤ ((ji10) : Int) := of_decide_eq_true Yc_; have q601 : (ji10) < (t598.length : Int) := of_decide_eq_true Yc_; obtain ⟨ad601, e601, hx601_0⟩ := Kd.Fv (Kd.R_reads' HO600.out).2.2 (ji10) p601 q601; cases e601; replace p601 := eq_true p601; replace q601 := eq_true q601; have p602 : 0 ≤ ((ji13) : Int) := of_decide_eq_true Yc_; have q602 : (ji13) < (t598.length : Int) := of_decide_eq_true Yc_; obtain ⟨ad602, e602, hx602_0⟩ := Kd.Fv (Kd.R_reads' HO600.out).2.2 (ji13) p602 q602; obtain rfl : ad601 = ad602 := (by injection e602); replace p602 := eq_true p602; replace q602 := eq_true q602) | (go_at_call 61; refine Gt (args' := #[.int .i64 (wrap64 ((rd t598 (ji10)) + (rd t598 (ji13)))), .int .i64 2]) Ycc_ ?_; (with_reducible refine (Dk.calls kj1 (wrap64 ((rd t598 (ji10)) + (rd t598 (ji13)))) 2 t603 t604 _ A16.out).mono ?_); rintro e w' ⟨rfl, ⟨nd, rfl⟩⟩; (try first | exact ⟨rfl, _, World.drewN_drewN _ _ _⟩ | exact ⟨rfl, _, Eq.trans (World.drewN_drewN _ _ _) (congrArg (World.drewN _) (Nat.add_assoc _ _ _))⟩)))
        repeat (go_quiet (first | (go_at_call 63; (with_reducible refine (Cj.calls kj1 _ _ l0 t595 _ ?side1 ?side2 A8.out).mono ?_); (case side1 => repeat (first | exact (Kd.C_below HR0.out HB.out) | (with_reducible refine Kd.Be ?_ _) | (with_reducible refine Kd.Bf ?_ _) | (with_reducible refine Kd.Bh ?_))); (case side2 => exact HC0.out); rintro e w17 ⟨v596, rfl, ho0, hb⟩; have n0_ := Aside0.mk (Kd.R_lower ho0 (below_size Ya_)); have n1_ := Aside0.mk (below_step Ya_ hb); clear HB; have HO597 := n0_; have HB := n1_; clear n0_ n1_; (try clear hb); (try clear hb2); (try clear hk); (try clear hi); (try clear ho0); obtain ⟨Ao18, co18, eo18⟩ := Kd.R_slice HO597.out; subst eo18) | (go_at_call 77; (with_reducible refine (F9.calls _ _ t595 t598 _ ?side1 ?side2 A9.out).mono ?_); (case side1 => repeat (first | exact (Kd.R_reads' HO597.out).2.2 | (with_reducible refine Kd.Be ?_ _) | (with_reducible refine Kd.Bf ?_ _) | (with_reducible refine Kd.Bh ?_))); (case side2 => exact (Kd.R_reads' HO597.out).2.1); rintro e w19 ⟨v599, rfl, ho0, hb⟩; have n0_ := Aside0.mk (Kd.Gs Ycd_ (Kd.Gv ho0) hb); have n1_ := Aside0.mk (Kd.R_lower (Kd.G7 ho0 (Kd.R_lt Ycd_)) (below_size Ya_)); have n2_ := Aside0.mk (below_step Ya_ hb); clear HO597; clear HB; have HO597 := n0_; have HO600 := n1_; have HB := n2_; clear n0_ n1_ n2_; (try clear hb); (try clear hb2); (try clear hk); (try clear hi); (try clear ho0); obtain ⟨Ao20, co20, eo20⟩ := Kd.R_slice HO600.out; subst eo20; have p601 : 0 ≤ ((ji10) : Int) := of_decide_eq_true Yc_; have q601 : (ji10) < (t598.length : Int) := of_decide_eq_true Yc_; obtain ⟨ad601, e601, hx601_0⟩ := Kd.Fv (Kd.R_reads' HO600.out).2.2 (ji10) p601 q601; cases e601; replace p601 := eq_true p601; replace q601 := eq_true q601; have p602 : 0 ≤ ((ji13) : Int) := of_decide_eq_true Yc_; have q602 : (ji13) < (t598.length : Int) := of_decide_eq_true Yc_; obtain ⟨ad602, e602, hx602_0⟩ := Kd.Fv (Kd.R_reads' HO600.out).2.2 (ji13) p602 q602; obtain rfl : ad601 = ad602 := (by injection e602); replace p602 := eq_true p602; replace q602 := eq_true q602) | (go_at_call 61; refine Gt (args' := #[.int .i64 (wrap64 ((rd t598 (ji10)) + (rd t598 (ji13)))), .int .i64 2]) Ycc_ ?_; (with_reducible refine (Dk.calls kj1 (wrap64 ((rd t598 (ji10)) + (rd t598 (ji13)))) 2 t603 t604 _ A16.out).mono ?_); rintro e w' ⟨rfl, ⟨nd, rfl⟩⟩; (try first | exact ⟨rfl, _, World.drewN_drewN _ _ _⟩ | exact ⟨rfl, _, Eq.trans (World.drewN_drewN _ _ _) (congrArg (World.drewN _) (Nat.add_assoc _ _ _))⟩))); try go_wp2_with (first | (go_at_call 63; (with_reducible refine (Cj.calls kj1 _ _ l0 t595 _ ?side1 ?side2 A8.out).mono ?_); (case side1 => repeat (first | exact (Kd.C_below HR0.out HB.out) | (with_reducible refine Kd.Be ?_ _) | (with_reducible refine Kd.Bf ?_ _) | (with_reducible refine Kd.Bh ?_))); (case side2 => exact HC0.out); rintro e w17 ⟨v596, rfl, ho0, hb⟩; have n0_ := Aside0.mk (Kd.R_lower ho0 (below_size Ya_)); have n1_ := Aside0.mk (below_step Ya_ hb); clear HB; have HO597 := n0_; have HB := n1_; clear n0_ n1_; (try clear hb); (try clear hb2); (try clear hk); (try clear hi); (try clear ho0); obtain ⟨Ao18, co18, eo18⟩ := Kd.R_slice HO597.out; subst eo18) | (go_at_call 77; (with_reducible refine (F9.calls _ _ t595 t598 _ ?side1 ?side2 A9.out).mono ?_); (case side1 => repeat (first | exact (Kd.R_reads' HO597.out).2.2 | (with_reducible refine Kd.Be ?_ _) | (with_reducible refine Kd.Bf ?_ _) | (with_reducible refine Kd.Bh ?_))); (case side2 => exact (Kd.R_reads' HO597.out).2.1); rintro e w19 ⟨v599, rfl, ho0, hb⟩; have n0_ := Aside0.mk (Kd.Gs Ycd_ (Kd.Gv ho0) hb); have n1_ := Aside0.mk (Kd.R_lower (Kd.G7 ho0 (Kd.R_lt Ycd_)) (below_size Ya_)); have n2_ := Aside0.mk (below_step Ya_ hb); clear HO597; clear HB; have HO597 := n0_; have HO600 := n1_; have HB := n2_; clear n0_ n1_ n2_; (try clear hb); (try clear hb2); (try clear hk); (try clear hi); (try clear ho0); obtain ⟨Ao20, co20, eo20⟩ := Kd.R_slice HO600.out; subst eo20; have p601 : 0 ≤ ((ji10) : Int) := of_decide_eq_true Yc_; have q601 : (ji10) < (t598.length : Int) := of_decide_eq_true Yc_; obtain ⟨ad601, e601, hx601_0⟩ := Kd.Fv (Kd.R_reads' HO600.out).2.2 (ji10) p601 q601; cases e601; replace p601 := eq_true p601; replace q601 := eq_true q601; have p602 : 0 ≤ ((ji13) : Int) := of_decide_eq_true Yc_; have q602 : (ji13) < (t598.length : Int) := of_decide_eq_true Yc_; obtain ⟨ad602, e602, hx602_0⟩ := Kd.Fv (Kd.R_reads' HO600.out).2.2 (ji13) p602 q602; obtain rfl : ad601 = ad602 := (by injection e602); replace p602 := eq_true p602; replace q602 := eq_true q602) | (go_at_call 61; refine Gt (args' := #[.int .i64 (wrap64 ((rd t598 (ji10)) + (rd t598 (ji13)))), .int .i64 2]) Ycc_ ?_; (with_reducible refine (Dk.calls kj1 (wrap64 ((rd t598 (ji10)) + (rd t598 (ji13)))) 2 t603 t604 _ A16.out).mono ?_); rintro e w' ⟨rfl, ⟨nd, rfl⟩⟩; (try first | exact ⟨rfl, _, World.drewN_drewN _ _ _⟩ | exact ⟨rfl, _, Eq.trans (World.drewN_drewN _ _ _) (congrArg (World.drewN _) (Nat.add_assoc _ _ _))⟩))))
        go_ret3
        exact ⟨by first | rfl | (simp [Aw, Az] <;> rfl) | (simp only [← hji10, ← hji13]; first | rfl | (simp [Aw, Az] <;> rfl)) | (simp [*, Aw, Az] <;> rfl), by repeat (first | (with_reducible first | exact HB.out | apply Af | apply Ad | apply Ae) | exact HB.out)⟩
       ·rw [if_neg c15] at H
        exact absurd H (by simp)
      ·rw [if_neg c14] at H
       exact absurd H (by simp)
     ·rw [if_neg c12] at H
      exact absurd H (by simp)
    ·rw [if_neg c11] at H
     exact absurd H (by simp)
end Go.Proofs.Ytolaplcjbmjlmaa.X

namespace Go.Proofs.Ytolaplcjbmjlmaa.X
open Go.RowKit Go.Proofs.YtolaplcjbmjlmaaW.PrintWords Go.Proofs.YtolaplcjbmjlmaaW.PrintLast Go.Proofs.YtolaplcjbmjlmaaW.PrintMore
attribute [local go_sem] max2_int min2_int max_two min_two max_three min_three max_four min_four
/-- The numbers in ascending order. -/
def Gl (l : List Int) : List Int := l.mergeSort fun x y => decide (x ≤ y)
def slices_Sort_int.f (l0 : List Int) : Option (List Int) := some (Gl l0)
theorem below_sortedI {w0 w : World} {blk n : Nat} {os : Array Obj} (d : Array Int) (hB : Below w0.heap.size w0 w) (hblk : w0.heap.size ≤ blk) : Below w0.heap.size w0 (Go.Sort.grow (Go.Sort.putRow (Value.int .i64) (Go.Sort.ahead w n) blk 0 d) os) := by
 have hg := grownBy_sortedI (w := w) (g := blk) (n := n) (os := os) d
 exact ⟨hg.os.trans hB.os, hg.tape.trans hB.tape, hg.output.trans hB.output, Nat.le_trans hB.size hg.size, fun i hi => (hg.block i (Nat.lt_of_lt_of_le hi hB.size) (fun e => by injection e with e; omega)).trans (hB.block i hi)⟩
set_option maxHeartbeats 2000000 in
/-- slices.Sort of a row of the call's own. -/
theorem slices_Sort_own.calls (w0 w : World) (A : Option Addr) (cap : Nat) (l : List Int) (base : Nat) (ok : Nat → Prop) (HO : Kd.R (Kd.int .i64) 3 w base ok (.slice A l.length cap) l) (hB : Below w0.heap.size w0 w) (hbase : w0.heap.size ≤ base) (hl20 : l.length ≤ 1048576) :
  Calls Try.prog 78 #[.slice A l.length cap] w fun e w' => e = .returned (.tuple #[]) ∧ Kd.R (Kd.int .i64) 3 w' base ok (.slice A (Gl l).length cap) (Gl l) ∧ Below w0.heap.size w0 w' := by
 have hown := Kd.own_of_R HO
 have hok := HO.1
 have hsl : (Gl l).length = l.length := List.length_mergeSort _
 rcases hown.2 with ⟨h, hn⟩ | ⟨g, cap', cur, hv, hb0, hb, hn, hcap, hsz, htake⟩
 ·have hl : l = [] := by injection h with _ h2 _; exact List.eq_nil_of_length_eq_zero h2
  subst hl
  injection h with h1 _ h3
  subst h1
  subst h3
  refine (Go.Proofs.Try.slices_Sort_int_none none 0 w).mono ?_
  rintro e w' ⟨rfl, rfl⟩
  have e0 : Gl [] = [] := by simp [Gl]
  rw [e0]
  exact ⟨rfl, HO, hB⟩
 ·cases hv
  have hlen : l.length ≤ cur.size := by omega
  have htake' : cur.toList.take l.length = l.map (Value.int .i64) := by rw [Nat.mul_one] at htake; exact htake
  have hH := holds_of_blockI hb htake'
  have hlt : g < w.heap.size := by
   rcases Nat.lt_or_ge g w.heap.size with h' | h'
   ·exact h'
   ·simp [Array.getElem?_eq_none h'] at hb
  refine (Go.Proofs.Try.slices_Sort_int g 0 cap l w hH hlt (by omega)).mono ?_
  rintro e w' ⟨rfl, n, os, rfl⟩
  refine ⟨rfl, ?_, below_sortedI _ hB (Nat.le_trans hbase hb0)⟩
  have htk := take_putCellsI cur (Gl l) (by omega)
  rw [hsl] at htk
  have hk : (Value.slice (some ⟨g, 0, none⟩) (Gl l).length cap) = .slice (some ⟨g, 0, none⟩) (Gl l).length cap := rfl
  refine Kd.R_of_own ⟨by simp [encs], .inr ⟨g, cap, _, rfl, hb0, heap_sortedI (n := n) (os := os) _ hb, by omega, hcap, by simp [Go.Sort.putCells, hsz], ?_⟩⟩ hok
  rw [Nat.mul_one, hsl]
  exact htk
end Go.Proofs.Ytolaplcjbmjlmaa.X

namespace Go.Proofs.Ytolaplcjbmjlmaa.X
open Go.RowKit Go.Proofs.YtolaplcjbmjlmaaW.PrintWords Go.Proofs.YtolaplcjbmjlmaaW.PrintLast Go.Proofs.YtolaplcjbmjlmaaW.PrintMore
attribute [local go_sem] max2_int min2_int max_two min_two max_three min_three max_four min_four
theorem med_facts {n : Nat} (h : 0 < n ∧ n ≤ 1048576) : ∃ p a b : Int, a = (((n - 1) / 2 : Nat) : Int) ∧ b = ((n / 2 : Nat) : Int) ∧ wrap64 ((n : Int) - 1) = p ∧ wrap64 (p + 1) = (n : Int) ∧ wrap64 (Int.tdiv p 2) = a ∧ wrap64 (Int.tdiv (n : Int) 2) = b ∧ wrap64 ((n : Int) / 2) = b ∧ 0 ≤ a ∧ a < (n : Int) ∧ 0 ≤ b ∧ b < (n : Int) := by
 refine ⟨((n - 1 : Nat) : Int), (((n - 1) / 2 : Nat) : Int), ((n / 2 : Nat) : Int), rfl, rfl, ?_, ?_, ?_, ?_, ?_, by omega, by omega, by omega, by omega⟩
 ·unfold wrap64; omega
 ·unfold wrap64; omega
 ·rw [Int.tdiv_eq_ediv_of_nonneg (by omega)]; unfold wrap64; omega
 ·rw [Int.tdiv_eq_ediv_of_nonneg (by omega)]; unfold wrap64; omega
 ·unfold wrap64; omega
def Ec.f (k : Nat) (l0 : List S59) : Option (Int × Int × Bool) := (impl_IsValidStays.f l0).bind fun g => if g = true then (if l0.length = 0 then some (0, 0, false) else (impl_lengthsOf.f k l0).bind fun hs => if 0 < hs.length ∧ hs.length ≤ 1048576 then ((Df.f k (wrap64 (rd (Gl hs) (((hs.length - 1) / 2 : Nat) : Int) + rd (Gl hs) ((hs.length / 2 : Nat) : Int))) 2).bind fun t => some (t.1, t.2, true)) else none) else some (0, 0, false)
theorem Ec.mono (l0 : List S59) (k : Nat) : LeO (Ec.f k l0) (Ec.f (k + 1) l0) := by
 unfold Ec.f
 refine LeO.bind (LeO.refl _) (fun _ => LeO.ite (LeO.ite (LeO.refl _) ?_) (LeO.refl _))
 refine LeO.bind (impl_lengthsOf.mono _ _) (fun _ => LeO.ite ?_ (LeO.refl _))
 exact LeO.bind (Df.mono _ _ _) (fun _ => LeO.refl _)
set_option maxHeartbeats 8000000 in
set_option maxRecDepth 100000 in
theorem Ec.calls (k : Nat) (A0 : Option Addr) (c0 : Nat) (l0 : List S59) (r1 r2 : Int) (r3 : Bool) (w : World) (hr0 : Kd.C k59 w A0 l0.length l0) (hc0 : l0.length ≤ c0) (h : Ec.f k l0 = some (r1, r2, r3)) :
  Calls Try.prog 46 #[.slice A0 l0.length c0] w fun e w' => e = .returned (.tuple #[.int .i64 r1, .int .i64 r2, .bool r3]) ∧ Below w.heap.size w w' := by
 have HR0 := Aside0.mk hr0
 have HC0 := Aside0.mk hc0
 clear hr0 hc0
 have HB := Aside0.mk (Below.refl w.heap.size w)
 unfold Ec.f at h
 replace h := Option.bind_eq_some_iff.mp h
 obtain ⟨g, a_, h⟩ := h
 have A1 := Aside0.mk a_
 clear a_
 cases g with
 | false =>
  rw [if_neg (by decide)] at h
  simp only [Option.some.injEq, Prod.mk.injEq] at h
  obtain ⟨rfl, rfl, rfl⟩ := h
  go_enter Try.func46, Try.ntmps46
  go_wp2_with (first | ((with_reducible refine gate_callee (f := 19) rfl ?_); (try (refine gate_guard (by rfl) ?_; dsimp only)); refine goesL_ (some 10) rfl rfl Try.func19 (by kernel_rfl) rfl #[.slice A0 l0.length c0] rfl Yb_ ?_; (with_reducible refine (impl_IsValidStays.calls A0 c0 l0 false _ (Kd.C_below HR0.out HB.out) HC0.out A1.out).mono ?_); rintro e w24 ⟨rfl, hb⟩; refine ⟨_, rfl, ?_⟩; have m_ := Aside0.mk (below_step HB.out hb); clear HB; have HB := m_; clear m_; clear hb))
  repeat (go_quiet (fail); try go_wp2)
  go_ret3
  exact ⟨by first | rfl | (simp; done) | (simp [*]; done), HB.out⟩
 | true =>
  rw [if_pos rfl] at h
  by_cases c0_ : l0.length = 0
  ·rw [if_pos c0_] at h
   have cb0 : ((l0.length : Int) == 0) = true := by simp [c0_]
   simp only [Option.some.injEq, Prod.mk.injEq] at h
   obtain ⟨rfl, rfl, rfl⟩ := h
   go_enter Try.func46, Try.ntmps46
   go_wp2_with (first | ((with_reducible refine gate_callee (f := 19) rfl ?_); (try (refine gate_guard (by rfl) ?_; dsimp only)); refine goesL_ (some 10) rfl rfl Try.func19 (by kernel_rfl) rfl #[.slice A0 l0.length c0] rfl Yb_ ?_; (with_reducible refine (impl_IsValidStays.calls A0 c0 l0 true _ (Kd.C_below HR0.out HB.out) HC0.out A1.out).mono ?_); rintro e w25 ⟨rfl, hb⟩; refine ⟨_, rfl, ?_⟩; have m_ := Aside0.mk (below_step HB.out hb); clear HB; have HB := m_; clear m_; clear hb))
   repeat (go_quiet (fail); try go_wp2)
   go_ret3
   exact ⟨by first | rfl | (simp; done) | (simp [*]; done), HB.out⟩
  ·rw [if_neg c0_] at h
   have cb0 : ((l0.length : Int) == 0) = false := beq_eq_false_iff_ne.mpr (by omega)
   clear c0_
   replace h := Option.bind_eq_some_iff.mp h
   obtain ⟨hs, a_, h⟩ := h
   have A2 := Aside0.mk a_
   clear a_
   obtain ⟨cz_, h⟩ := Go.Proofs.YtolaplcjbmjlmaaOwn.ite_some h
   have HZ := Aside0.mk cz_
   clear cz_
   replace h := Option.bind_eq_some_iff.mp h
   obtain ⟨t, a_, h⟩ := h
   have A3 := Aside0.mk a_
   clear a_
   obtain ⟨t1, t2⟩ := t
   dsimp only at h
   simp only [Option.some.injEq, Prod.mk.injEq] at h
   obtain ⟨rfl, rfl, rfl⟩ := h
   go_enter Try.func46, Try.ntmps46
   go_upto_region 5 with (first | ((with_reducible refine gate_callee (f := 19) rfl ?_); (try (refine gate_guard (by rfl) ?_; dsimp only)); refine goesL_ (some 10) rfl rfl Try.func19 (by kernel_rfl) rfl #[.slice A0 l0.length c0] rfl Yb_ ?_; (with_reducible refine (impl_IsValidStays.calls A0 c0 l0 true _ (Kd.C_below HR0.out HB.out) HC0.out A1.out).mono ?_); rintro e w26 ⟨rfl, hb⟩; refine ⟨_, rfl, ?_⟩; have m_ := Aside0.mk (below_step HB.out hb); clear HB; have HB := m_; clear m_; clear hb) | ((with_reducible refine gate_callee (f := 65) rfl ?_); (try (refine gate_guard (by rfl) ?_; dsimp only)); refine goesL_ (some 18) rfl rfl Try.func65 (by kernel_rfl) rfl #[.slice A0 l0.length c0] rfl Yb_ ?_; (with_reducible refine (impl_lengthsOf.calls k A0 c0 l0 hs _ (Kd.C_below HR0.out HB.out) HC0.out A2.out).mono ?_); rintro e w23 ⟨v5, rfl, ho, hb⟩; refine ⟨_, rfl, ?_⟩; have HO := Aside0.mk (Kd.R_lower ho (below_size HB.out)); obtain ⟨Ao, co, ea_⟩ := Kd.R_slice HO.out; subst ea_; clear ho; have m_ := Aside0.mk (below_step HB.out hb); clear HB; have HB := m_; clear m_; clear hb) | ((with_reducible refine gate_callee (f := 78) rfl ?_); (try (refine gate_guard (by rfl) ?_; dsimp only)); refine goesL_ (some 20) rfl rfl Try.func78 (by kernel_rfl) rfl #[.slice Ao hs.length co] rfl Yb_ ?_; refine (slices_Sort_own.calls w _ Ao co hs w.heap.size (fun _ => True) HO.out HB.out (Nat.le_refl _) HZ.out.2).mono ?_; rintro e w3 ⟨rfl, ho, hb⟩; refine ⟨_, rfl, ?_⟩; clear HO HB; have HO := Aside0.mk ho; have HB := Aside0.mk hb; clear ho hb))
   have hsl_ : (Gl hs).length = hs.length := List.length_mergeSort _
   rw [hsl_] at HO
   generalize Gl hs = ss at HO A3 hsl_ ⊢
   have HSL := Aside0.mk hsl_
   clear hsl_
   obtain ⟨p_, a_, b_, ha_, hb_, hw1, hw2, hq1, hq2, hq3, pa0, ca_, pb0, cb_⟩ := med_facts HZ.out
   rw [← ha_, ← hb_] at A3
   clear ha_ hb_
   have hw1w := (Aj _).trans hw1
   have hw2w := (Aj _).trans hw2
   have hq1w := (Aj _).trans hq1
   have hq2w := (Aj _).trans hq2
   have hq3w := (Aj _).trans hq3
   have pa_ := eq_true pa0
   have pb_ := eq_true pb0
   have qa_ := eq_true ca_
   have qb_ := eq_true cb_
   go_upto_region 6 with (fail)
   have m_ := Aside0.mk (Ae HB.out)
   clear HB
   have HB := m_
   clear m_
   have m_ := Aside0.mk (Kd.Ba HO.out)
   clear HO
   have HO := m_
   clear m_
   obtain ⟨ad_, e_, hx1⟩ := Kd.Fv (Kd.R_reads' HO.out).2.2 a_ (of_eq_true pa_) (by rw [HSL.out]; exact ca_)
   cases e_
   obtain ⟨ad2_, e_, hx2⟩ := Kd.Fv (Kd.R_reads' HO.out).2.2 b_ (of_eq_true pb_) (by rw [HSL.out]; exact cb_)
   cases e_
   refine G9 (n := 18) (S := fun w' => w'.cell? (ad_.add a_.toNat) = some (.int .i64 (rd ss a_)) ∧ w'.cell? (ad_.add b_.toNat) = some (.int .i64 (rd ss b_))) (ds := []) #[false, false, false, false, false, false, false, false, false, false, false, false, false, false, false, false, false, false] (by kernel_rfl) rfl rfl ⟨hx1, hx2⟩ (fun hHeld => ?_)
   generalize World.drew _ = w4 at HB HO hx1 hx2 hHeld ⊢
   refine Bg (i := 0) (N := some 25) (v := ?_) (a' := ?_) #[true, false, false, false, false, false, false, false, false, false, false, false, false, false, false, false, false, false] rfl rfl (by kernel_rfl) (fun _ _ _ h => h) (Or.inl ⟨by rfl, ?_⟩) ?_ ?_
   rotate_left
   ·intro w'
    go_simp
    first | done | with_reducible rfl
   rotate_left
   ·simp only [Act.put, List.setIfInBounds_toArray, List.set_cons_zero, List.set_cons_succ, Aj, Ak]
    rfl
   refine Bg (i := 1) (N := some 26) (v := ?_) (a' := ?_) #[true, true, false, false, false, false, false, false, false, false, false, false, false, false, false, false, false, false] rfl rfl (by kernel_rfl) (fun _ _ _ h => h) (Or.inl ⟨by rfl, ?_⟩) ?_ ?_
   rotate_left
   ·intro w'
    go_simp
    first | done | with_reducible rfl
   rotate_left
   ·simp only [Act.put, List.setIfInBounds_toArray, List.set_cons_zero, List.set_cons_succ, Aj, Ak]
    rfl
   refine Bg (i := 2) (N := some 27) (v := ?_) (a' := ?_) #[true, true, true, false, false, false, false, false, false, false, false, false, false, false, false, false, false, false] rfl rfl (by kernel_rfl) (fun _ _ _ h => h) (Or.inl ⟨by rfl, ?_⟩) ?_ ?_
   rotate_left
   ·intro w'
    go_simp
    first | done | with_reducible rfl
   rotate_left
   ·simp only [Act.put, List.setIfInBounds_toArray, List.set_cons_zero, List.set_cons_succ, Aj, Ak]
    rfl
   refine Bg (i := 3) (N := some 28) (v := ?_) (a' := ?_) #[true, true, true, true, false, false, false, false, false, false, false, false, false, false, false, false, false, false] rfl rfl (by kernel_rfl) (fun _ _ _ h => h) (Or.inl ⟨by rfl, ?_⟩) ?_ ?_
   rotate_left
   ·intro w'
    go_simp
    first | done | with_reducible rfl
   rotate_left
   ·simp only [Act.put, List.setIfInBounds_toArray, List.set_cons_zero, List.set_cons_succ, Aj, Ak]
    rfl
   refine Bg (i := 5) (N := some 30) (v := ?_) (a' := ?_) #[true, true, true, true, false, true, false, false, false, false, false, false, false, false, false, false, false, false] rfl rfl (by kernel_rfl) (fun _ _ _ h => h) (Or.inl ⟨by rfl, ?_⟩) ?_ ?_
   rotate_left
   ·intro w'
    go_simp
    first | done | with_reducible rfl
   rotate_left
   ·simp only [Act.put, List.setIfInBounds_toArray, List.set_cons_zero, List.set_cons_succ, Aj, Ak]
    rfl
   refine Bg (i := 6) (N := some 31) (v := ?_) (a' := ?_) #[true, true, true, true, false, true, true, false, false, false, false, false, false, false, false, false, false, false] rfl rfl (by kernel_rfl) (fun _ _ _ h => h) (Or.inl ⟨by rfl, ?_⟩) ?_ ?_
   rotate_left
   ·intro w'
    go_simp
    first | done | with_reducible rfl
   rotate_left
   ·simp only [Act.put, List.setIfInBounds_toArray, List.set_cons_zero, List.set_cons_succ, Aj, Ak]
    rfl
   refine Bg (i := 7) (N := some 32) (v := ?_) (a' := ?_) #[true, true, true, true, false, true, true, true, false, false, false, false, false, false, false, false, false, false] rfl rfl (by kernel_rfl) (fun _ _ _ h => h) (Or.inl ⟨by rfl, ?_⟩) ?_ ?_
   rotate_left
   ·intro w'
    go_simp
    first | done | with_reducible rfl
   rotate_left
   ·simp only [Act.put, List.setIfInBounds_toArray, List.set_cons_zero, List.set_cons_succ, Aj, Ak]
    rfl
   refine Bg (i := 8) (N := some 33) (v := ?_) (a' := ?_) #[true, true, true, true, false, true, true, true, true, false, false, false, false, false, false, false, false, false] rfl rfl (by kernel_rfl) (fun _ _ _ h => h) (Or.inl ⟨by rfl, ?_⟩) ?_ ?_
   rotate_left
   ·intro w'
    go_simp
    first | done | with_reducible rfl
   rotate_left
   ·simp only [Act.put, List.setIfInBounds_toArray, List.set_cons_zero, List.set_cons_succ, Aj, Ak]
    rfl
   refine Bg (i := 9) (N := some 34) (v := ?_) (a' := ?_) #[true, true, true, true, false, true, true, true, true, true, false, false, false, false, false, false, false, false] rfl rfl (by kernel_rfl) (fun _ _ _ h => h) (Or.inl ⟨by rfl, ?_⟩) ?_ ?_
   rotate_left
   ·intro w'
    go_simp
    first | done | with_reducible rfl
   rotate_left
   ·simp only [Act.put, List.setIfInBounds_toArray, List.set_cons_zero, List.set_cons_succ, Aj, Ak]
    rfl
   refine Gg (i := 4) (N := some 29) (v := ?_) (a' := ?_) #[true, true, true, true, true, true, true, true, true, true, false, false, false, false, false, false, false, false] rfl rfl (by kernel_rfl) (fun _ _ _ h => h) (Or.inl ⟨by rfl, ?_⟩) hHeld ?_ ?_
   rotate_left
   ·rintro w' ⟨s0, s1⟩
    go_simp
    first | done | with_reducible rfl
   rotate_left
   ·simp only [Act.put, List.setIfInBounds_toArray, List.set_cons_zero, List.set_cons_succ, Aj, Ak]
    rfl
   refine Gg (i := 10) (N := some 35) (v := ?_) (a' := ?_) #[true, true, true, true, true, true, true, true, true, true, true, false, false, false, false, false, false, false] rfl rfl (by kernel_rfl) (fun _ _ _ h => h) (Or.inl ⟨by rfl, ?_⟩) hHeld ?_ ?_
   rotate_left
   ·rintro w' ⟨s0, s1⟩
    go_simp
    first | done | with_reducible rfl
   rotate_left
   ·simp only [Act.put, List.setIfInBounds_toArray, List.set_cons_zero, List.set_cons_succ, Aj, Ak]
    rfl
   refine Bg (i := 11) (N := some 36) (v := ?_) (a' := ?_) #[true, true, true, true, true, true, true, true, true, true, true, true, false, false, false, false, false, false] rfl rfl (by kernel_rfl) (fun _ _ _ h => h) (Or.inl ⟨by rfl, ?_⟩) ?_ ?_
   rotate_left
   ·intro w'
    go_simp
    first | done | with_reducible rfl
   rotate_left
   ·simp only [Act.put, List.setIfInBounds_toArray, List.set_cons_zero, List.set_cons_succ, Aj, Ak]
    rfl
   refine one_ (i := 12) (N := some 37) #[true, true, true, true, true, true, true, true, true, true, true, true, true, false, false, false, false, false] rfl rfl (by kernel_rfl) (by decide) (fun K hK => ?_)
   refine goes_ Try.func62 (by kernel_rfl) rfl #[.int .i64 (wrap64 (rd ss a_ + rd ss b_)), .int .i64 2] (by rfl) rfl rfl (by simp only [List.map_toArray, List.map_cons, List.map_nil]; rfl) ?_
   with_reducible refine (Df.calls k _ 2 t1 t2 _ A3.out).mono ?_
   rintro e w5 ⟨rfl, hd_⟩
   refine ⟨_, rfl, ?_⟩
   have hb := Drawn0.below hd_
   have hx1 := (hb.cell (World.block_lt_of_cell? _ _ hx1)).trans hx1
   have hx2 := (hb.cell (World.block_lt_of_cell? _ _ hx2)).trans hx2
   have m_ := Aside0.mk (below_step HB.out hb)
   clear HB
   have HB := m_
   clear m_
   clear hb hd_
   refine hK.out _ _ ⟨hx1, hx2⟩ (fun hHeld => ?_)
   clear hK K
   refine En (a' := ?_) ?_ ?_
   rotate_left
   ·show Act.put _ (some 37) _ = _
    simp only [Act.put, List.setIfInBounds_toArray, List.set_cons_zero, List.set_cons_succ, Aj, Ak]
    rfl
   refine Bg (i := 13) (N := some 24) (v := ?_) (a' := ?_) #[true, true, true, true, true, true, true, true, true, true, true, true, true, true, false, false, false, false] rfl rfl (by kernel_rfl) (fun _ _ _ h => h) (Or.inl ⟨by rfl, ?_⟩) ?_ ?_
   rotate_left
   ·intro w'
    go_simp
    first | done | with_reducible rfl
   rotate_left
   ·simp only [Act.put, List.setIfInBounds_toArray, List.set_cons_zero, List.set_cons_succ, Aj, Ak]
    rfl
   refine Bg (i := 14) (N := some 38) (v := ?_) (a' := ?_) #[true, true, true, true, true, true, true, true, true, true, true, true, true, true, true, false, false, false] rfl rfl (by kernel_rfl) (fun _ _ _ h => h) (Or.inl ⟨by rfl, ?_⟩) ?_ ?_
   rotate_left
   ·intro w'
    go_simp
    first | done | with_reducible rfl
   rotate_left
   ·simp only [Act.put, List.setIfInBounds_toArray, List.set_cons_zero, List.set_cons_succ, Aj, Ak]
    rfl
   refine Bg (i := 15) (N := some 39) (v := ?_) (a' := ?_) #[true, true, true, true, true, true, true, true, true, true, true, true, true, true, true, true, false, false] rfl rfl (by kernel_rfl) (fun _ _ _ h => h) (Or.inl ⟨by rfl, ?_⟩) ?_ ?_
   rotate_left
   ·intro w'
    go_simp
    first | done | with_reducible rfl
   rotate_left
   ·simp only [Act.put, List.setIfInBounds_toArray, List.set_cons_zero, List.set_cons_succ, Aj, Ak]
    rfl
   refine Bg (i := 16) (N := some 7) (v := ?_) (a' := ?_) #[true, true, true, true, true, true, true, true, true, true, true, true, true, true, true, true, true, false] rfl rfl (by kernel_rfl) (fun _ _ _ h => h) (Or.inl ⟨by rfl, ?_⟩) ?_ ?_
   rotate_left
   ·intro w'
    go_simp
    first | done | with_reducible rfl
   rotate_left
   ·simp only [Act.put, List.setIfInBounds_toArray, List.set_cons_zero, List.set_cons_succ, Aj, Ak]
    rfl
   refine Bg (i := 17) (N := some 8) (v := ?_) (a' := ?_) #[true, true, true, true, true, true, true, true, true, true, true, true, true, true, true, true, true, true] rfl rfl (by kernel_rfl) (fun _ _ _ h => h) (Or.inl ⟨by rfl, ?_⟩) ?_ ?_
   rotate_left
   ·intro w'
    go_simp
    first | done | with_reducible rfl
   rotate_left
   ·simp only [Act.put, List.setIfInBounds_toArray, List.set_cons_zero, List.set_cons_succ, Aj, Ak]
    rfl
   refine done_ (by kernel_rfl) ?_
   try go_wp2
   repeat (go_quiet (fail); try go_wp2)
   go_ret3
   exact ⟨by first | rfl | (simp; done) | (simp [*]; done), HB.out⟩
end Go.Proofs.Ytolaplcjbmjlmaa.X

