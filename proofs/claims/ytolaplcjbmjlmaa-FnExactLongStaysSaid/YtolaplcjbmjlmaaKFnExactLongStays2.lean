/- Texts that the proof of the law FnExactLongStays leans on, part 3 of 5. -/
import Derived.Shelf.Abstract
import Derived.Shelf.Small.Bits
import Derived.Shelf.Strconv.Itoa0
import Derived.Shelf.Sort.Plain
import Derived.Ground.Names2Prog
import Derived.Shelf.Slices.SearchI
import Derived.Shelf.Slices.In.SortNone
import Derived.Ground.SlgfProg
import Derived.Shelf.SlicesE.IndexFunc
import Derived.Shelf.SlicesE.DeleteFunc
import Derived.Ground.SlsfProg
import Derived.Shelf.SlSortCmp.Insertion
import Derived.Test.YtolaplcjbmjlmaaProg
import Derived.Sort.OwnSortedInts
import Derived.Test.YtolaplcjbmjlmaaKFnExactLongStays0
import Derived.Test.YtolaplcjbmjlmaaKFnExactLongStays1
-- written by a program of this session (wip/ext.py) out of the translation. Not trusted: Lean checks it.
namespace Go.Proofs.Ytolaplcjbmjlmaa.X
open Go.RowKit Go.Proofs.YtolaplcjbmjlmaaW.PrintWords Go.Proofs.YtolaplcjbmjlmaaW.PrintLast Go.Proofs.YtolaplcjbmjlmaaW.PrintMore
attribute [local go_sem] max2_int min2_int max_two min_two max_three min_three max_four min_four   -- for this text's walks alone
set_option linter.unusedVariables false
set_option linter.unusedSimpArgs false

/-- Where a number goes: behind the last one that is not pushed on. -/
def posIn (f : Int → Bool) (out : List Int) : Nat → Nat
  | 0 => 0
  | x + 1 => if f (rd out (x : Int)) = true then posIn f out x else x + 1
theorem posIn_le (f : Int → Bool) (out : List Int) : ∀ x, posIn f out x ≤ x
  | 0 => Nat.le_refl _
  | x + 1 => by
    unfold posIn
    split
    · exact Nat.le_succ_of_le (posIn_le f out x)
    · exact Nat.le_refl _
def putIn (f : Int → Bool) (v : Int) (out : List Int) : List Int := (out.take (posIn f out out.length) ++ [v]) ++ out.drop (posIn f out out.length)
theorem putIn_length (f : Int → Bool) (v : Int) (out : List Int) : (putIn f v out).length = out.length + 1 := by
  have := posIn_le f out out.length
  unfold putIn
  simp only [List.length_append, List.length_take, List.length_drop, List.length_cons, List.length_nil]
  omega
def over (v y : Int) : Bool := decide (v < y)
def sortedL (l : List Int) : List Int := l.foldl (fun out v => putIn (over v) v out) []
theorem sortedL_snoc (l : List Int) (v : Int) : sortedL (l ++ [v]) = putIn (over v) v (sortedL l) := by unfold sortedL; rw [List.foldl_append]; rfl
theorem sortedL_next (l : List Int) (i : Nat) (h : i < l.length) : sortedL (l.take (i + 1)) = putIn (over (rd l (i : Int))) (rd l (i : Int)) (sortedL (l.take i)) := by
  rw [List.take_succ_eq_append_getElem h, sortedL_snoc]
  have : rd l (i : Int) = l[i] := by simp [rd, List.getD_eq_getElem?_getD, List.getElem?_eq_getElem h]
  rw [this]
theorem sortedL_length (l : List Int) : ∀ i, i ≤ l.length → (sortedL (l.take i)).length = i
  | 0, _ => rfl
  | i + 1, h => by rw [sortedL_next l i (by omega), putIn_length, sortedL_length l i (by omega)]
def spec_l25Sorted.f (l0 : List Int) : Option (List Int) := if l0.length ≤ 1048576 then some (sortedL l0) else none
set_option maxHeartbeats 8000000 in
set_option maxRecDepth 100000 in
theorem spec_l25Sorted.calls (A0 : Option Addr) (c0 : Nat) (l0 : List Int) (r : List Int) (w : World) (hr0 : Kd.C (Kd.int .i64) w A0 l0.length l0) (hc0 : l0.length ≤ c0) (h : spec_l25Sorted.f l0 = some r) :
    Calls Try.prog 77 #[.slice A0 l0.length c0] w fun e w' => ∃ v0_ : Value, e = .returned v0_ ∧ Kd.R (Kd.int .i64) 3 w' w.heap.size (fun _ => True) v0_ r ∧ Below w.heap.size w w' := by
  have HR0 := Aside0.mk hr0
  have HC0 := Aside0.mk hc0
  clear hr0 hc0
  have HB := Aside0.mk (Below.refl w.heap.size w)
  unfold spec_l25Sorted.f at h
  split at h
  rotate_left
  · cases h
  rename_i hl_
  obtain rfl := Option.some.inj h
  have HL0 := Aside0.mk hl_
  clear h hl_
  go_enter Try.func77, Try.ntmps77
  go_wp2_with ((with_reducible refine gate_dst (N := 6) rfl ?_); refine Kd.R_lit (Kd.int .i64) _ 3 ?hg (N := 6) ?hd (xs := ([] : List Int)) (inner := []) (ok := fun _ => True) (okp := fun _ => True) ?hr ?hp (fun _ hk => hk) trivial HB.out (Nat.le_refl _) (by simp) ?_; (case hd => rfl); (case hg => rfl); (case hr => first | (go_simp; done) | (go_simp; rfl)); (case hp => exact (Reps.none _ _)); intro v6 w1 ho hb hg_ hnew_; have HO := Aside0.mk ho; clear HB; have HB := Aside0.mk hb; clear ho hb hg_ hnew_)
  repeat (go_quiet (fail); try go_wp2)
  go_loopg [3, 4] l0.length (fun gg v3 v4 w' => ∃ (i : Nat) (ii : Int), v4 = .int .i64 ii ∧ Aside0 (ii = (i : Int)) ∧ Aside0 (i ≤ l0.length ∧ l0.length ≤ i + gg) ∧ Aside0 (Kd.R (Kd.int .i64) 3 w' w.heap.size (fun _ => True) v3 (sortedL (l0.take i))) ∧ Aside0 (Below w.heap.size w w'))
  case atStart => exact ⟨0, 0, rfl, ⟨rfl⟩, ⟨by omega, by omega⟩, HO, HB⟩
  case round =>
    clear HO HB
    obtain ⟨i, ii, rfl, HII, HI, HO, HB⟩ := hrel
    by_cases c : i < l0.length
    · have cb0 : decide (ii < (l0.length : Int)) = true := decide_eq_true (by have := HII.out; omega)
      have HNX := Aside0.mk (show sortedL (l0.take (i + 1)) = putIn (over (rd l0 ii)) (rd l0 ii) (sortedL (l0.take i)) by rw [HII.out]; exact sortedL_next l0 i c)
      have HLN := Aside0.mk (sortedL_length l0 i (by omega))
      have HWI := Aside0.mk (show wrap64 (ii + 1) = ((i + 1 : Nat) : Int) by have := HL0.out; have := HII.out; unfold wrap64; omega)
      have HCI := Aside0.mk c
      clear c
      obtain ⟨Ao, co, e3_⟩ := Kd.R_slice HO.out
      subst e3_
      generalize sortedL (l0.take i) = out at HO HNX HLN ⊢
      have HLEN := Aside0.mk (show out.length ≤ 1048576 by have := HLN.out; have := HI.out; have := HL0.out; omega)
      obtain ⟨adl_, el_, hxl_⟩ := Kd.at_int HR0.out ii (by have := HII.out; omega) (by have := HCI.out; have := HII.out; omega)
      cases el_
      have HXL := Aside0.mk hxl_
      clear hxl_
      have pi_ : (0 ≤ ii) = True := eq_true (by have := HII.out; omega)
      have qi_ : (ii < (l0.length : Int)) = True := eq_true (by have := HCI.out; have := HII.out; omega)
      generalize rd l0 ii = v at HNX HXL
      go_wp2
      repeat (go_quiet (fail); try go_wp2)
      go_loopg [5] out.length (fun gg v5 w' => ∃ (x : Nat) (xi : Int), v5 = .int .i64 xi ∧ Aside0 (xi = (x : Int)) ∧ Aside0 (x ≤ out.length ∧ x ≤ gg) ∧ Aside0 (posIn (over v) out x = posIn (over v) out out.length) ∧ Aside0 (Kd.R (Kd.int .i64) 3 w' w.heap.size (fun _ => True) (.slice Ao out.length co) out) ∧ Aside0 (Below w.heap.size w w'))
      case atStart => exact ⟨out.length, _, rfl, ⟨rfl⟩, ⟨Nat.le_refl _, Nat.le_refl _⟩, ⟨rfl⟩, HO, HB⟩
      case round =>
        clear HO HB
        obtain ⟨x, xi, rfl, HXI, HX, HPOS, HO, HB⟩ := hrel
        by_cases hx0 : x = 0
        · have cz_ : decide (0 < xi) = false := decide_eq_false (by have := HXI.out; omega)
          have hp0_ : posIn (over v) out x = x := by rw [hx0]; rfl
          replace HPOS := Aside0.mk (hp0_.symm.trans HPOS.out)
          clear hp0_ hx0
          try go_wp2
          have m_ := Aside0.mk (below_drew1 HB.out)
          clear HB
          have HB := m_
          clear m_
          have m_ := Aside0.mk (Kd.R_drew HO.out)
          clear HO
          have HO := m_
          clear m_
          refine start_ (n := 14) (S := fun w' => True) (ds := []) #[false, false, false, false, false, false, false, false, false, false, false, false, false, false] (by kernel_rfl) rfl rfl trivial (fun hHeld => ?_)
          generalize wr.drew = w20 at HB HO  hHeld ⊢
          refine pure_ (i := 0) (N := some 15) (v := ?_) (a' := ?_) #[true, false, false, false, false, false, false, false, false, false, false, false, false, false] rfl rfl (by kernel_rfl) (fun _ _ _ h => h) (Or.inl ⟨by rfl, ?_⟩) ?_ ?_
          rotate_left
          · intro w'
            go_simp
            first | done | with_reducible rfl
          rotate_left
          · simp only [Act.put, List.setIfInBounds_toArray, List.set_cons_zero, List.set_cons_succ, i64_w, i32_w]
            rfl
          refine pure_ (i := 1) (N := some 16) (v := ?_) (a' := ?_) #[true, true, false, false, false, false, false, false, false, false, false, false, false, false] rfl rfl (by kernel_rfl) (fun _ _ _ h => h) (Or.inl ⟨by rfl, ?_⟩) ?_ ?_
          rotate_left
          · intro w'
            go_simp
            first | done | with_reducible rfl
          rotate_left
          · simp only [Act.put, List.setIfInBounds_toArray, List.set_cons_zero, List.set_cons_succ, i64_w, i32_w]
            rfl
          refine pure_ (i := 2) (N := some 17) (v := ?_) (a' := ?_) #[true, true, true, false, false, false, false, false, false, false, false, false, false, false] rfl rfl (by kernel_rfl) (fun _ _ _ h => h) (Or.inl ⟨by rfl, ?_⟩) ?_ ?_
          rotate_left
          · intro w'
            go_simp
            first | done | with_reducible rfl
          rotate_left
          · simp only [Act.put, List.setIfInBounds_toArray, List.set_cons_zero, List.set_cons_succ, i64_w, i32_w]
            rfl
          refine pure_ (i := 3) (N := some 18) (v := undef) (a' := ?_) #[true, true, true, true, false, false, false, false, false, false, false, false, false, false] rfl rfl (by kernel_rfl) (fun _ _ _ h => h) (Or.inr ⟨by rfl, rfl⟩) ?_ ?_
          rotate_left
          · simp only [Act.put, List.setIfInBounds_toArray, List.set_cons_zero, List.set_cons_succ, i64_w, i32_w]
            rfl
          refine pure_ (i := 4) (N := some 19) (v := undef) (a' := ?_) #[true, true, true, true, true, false, false, false, false, false, false, false, false, false] rfl rfl (by kernel_rfl) (fun _ _ _ h => h) (Or.inr ⟨by rfl, rfl⟩) ?_ ?_
          rotate_left
          · simp only [Act.put, List.setIfInBounds_toArray, List.set_cons_zero, List.set_cons_succ, i64_w, i32_w]
            rfl
          refine pure_ (i := 5) (N := some 20) (v := undef) (a' := ?_) #[true, true, true, true, true, true, false, false, false, false, false, false, false, false] rfl rfl (by kernel_rfl) (fun _ _ _ h => h) (Or.inr ⟨by rfl, rfl⟩) ?_ ?_
          rotate_left
          · simp only [Act.put, List.setIfInBounds_toArray, List.set_cons_zero, List.set_cons_succ, i64_w, i32_w]
            rfl
          refine pure_ (i := 6) (N := some 21) (v := undef) (a' := ?_) #[true, true, true, true, true, true, true, false, false, false, false, false, false, false] rfl rfl (by kernel_rfl) (fun _ _ _ h => h) (Or.inr ⟨by rfl, rfl⟩) ?_ ?_
          rotate_left
          · simp only [Act.put, List.setIfInBounds_toArray, List.set_cons_zero, List.set_cons_succ, i64_w, i32_w]
            rfl
          refine pure_ (i := 7) (N := some 22) (v := undef) (a' := ?_) #[true, true, true, true, true, true, true, true, false, false, false, false, false, false] rfl rfl (by kernel_rfl) (fun _ _ _ h => h) (Or.inr ⟨by rfl, rfl⟩) ?_ ?_
          rotate_left
          · simp only [Act.put, List.setIfInBounds_toArray, List.set_cons_zero, List.set_cons_succ, i64_w, i32_w]
            rfl
          refine pure_ (i := 8) (N := some 23) (v := undef) (a' := ?_) #[true, true, true, true, true, true, true, true, true, false, false, false, false, false] rfl rfl (by kernel_rfl) (fun _ _ _ h => h) (Or.inr ⟨by rfl, rfl⟩) ?_ ?_
          rotate_left
          · simp only [Act.put, List.setIfInBounds_toArray, List.set_cons_zero, List.set_cons_succ, i64_w, i32_w]
            rfl
          refine pure_ (i := 9) (N := some 24) (v := undef) (a' := ?_) #[true, true, true, true, true, true, true, true, true, true, false, false, false, false] rfl rfl (by kernel_rfl) (fun _ _ _ h => h) (Or.inr ⟨by rfl, rfl⟩) ?_ ?_
          rotate_left
          · simp only [Act.put, List.setIfInBounds_toArray, List.set_cons_zero, List.set_cons_succ, i64_w, i32_w]
            rfl
          refine pure_ (i := 10) (N := some 25) (v := undef) (a' := ?_) #[true, true, true, true, true, true, true, true, true, true, true, false, false, false] rfl rfl (by kernel_rfl) (fun _ _ _ h => h) (Or.inr ⟨by rfl, rfl⟩) ?_ ?_
          rotate_left
          · simp only [Act.put, List.setIfInBounds_toArray, List.set_cons_zero, List.set_cons_succ, i64_w, i32_w]
            rfl
          refine pure_ (i := 11) (N := some 26) (v := undef) (a' := ?_) #[true, true, true, true, true, true, true, true, true, true, true, true, false, false] rfl rfl (by kernel_rfl) (fun _ _ _ h => h) (Or.inr ⟨by rfl, rfl⟩) ?_ ?_
          rotate_left
          · simp only [Act.put, List.setIfInBounds_toArray, List.set_cons_zero, List.set_cons_succ, i64_w, i32_w]
            rfl
          refine pure_ (i := 12) (N := some 27) (v := undef) (a' := ?_) #[true, true, true, true, true, true, true, true, true, true, true, true, true, false] rfl rfl (by kernel_rfl) (fun _ _ _ h => h) (Or.inr ⟨by rfl, rfl⟩) ?_ ?_
          rotate_left
          · simp only [Act.put, List.setIfInBounds_toArray, List.set_cons_zero, List.set_cons_succ, i64_w, i32_w]
            rfl
          refine pure_ (i := 13) (N := some 28) (v := ?_) (a' := ?_) #[true, true, true, true, true, true, true, true, true, true, true, true, true, true] rfl rfl (by kernel_rfl) (fun _ _ _ h => h) (Or.inl ⟨by rfl, ?_⟩) ?_ ?_
          rotate_left
          · intro w'
            go_simp
            first | done | with_reducible rfl
          rotate_left
          · simp only [Act.put, List.setIfInBounds_toArray, List.set_cons_zero, List.set_cons_succ, i64_w, i32_w]
            rfl
          refine done_ (by kernel_rfl) ?_
          try clear hHeld
          have HP := Aside0.mk (show x ≤ out.length from HX.out.1)
          try go_wp2
          have m_ := Aside0.mk (below_drew1 HB.out)
          clear HB
          have HB := m_
          clear m_
          have m_ := Aside0.mk (Kd.R_drew HO.out)
          clear HO
          have HO := m_
          clear m_
          have hx1 := (HB.out.cell (World.block_lt_of_cell? w _ HXL.out)).trans HXL.out
          obtain ⟨i0_, hi0_, _, hsz0_, _⟩ := info_parts info3
          have HCo := Aside0.mk (Kd.R_reads' HO.out).2.1
          have hcut1 := cut_to (P := Try.prog) 53 3 .i64 Try.underlying53 hi0_ Ao out.length co xi (by have := HXI.out; omega) (by have := HP.out; have := HXI.out; omega) HCo.out
          have hcut2 := cut_from (P := Try.prog) 53 3 .i64 Try.underlying53 hi0_ 1 hsz0_ Ao out.length co xi (by have := HXI.out; omega) (by have := HP.out; have := HXI.out; omega)
          have hxt_ : xi.toNat = x := by rw [HXI.out]; rfl
          simp only [hxt_, Nat.mul_one] at hcut1 hcut2
          clear hxt_
          obtain ⟨Ac_, hAc_⟩ : ∃ A_ : Option Addr, (if co = x then Ao else Ao.map (·.add x)) = A_ := ⟨_, rfl⟩
          first | rw [hAc_] at hcut2 | simp only [hAc_, Option.map_some] at hcut2
          have HAc := Aside0.mk hAc_
          clear hAc_
          refine start_ (n := 16) (S := fun w' => w'.cell? (adl_.add ii.toNat) = some (.int .i64 v)) (ds := []) #[false, false, false, false, false, false, false, false, false, false, false, false, false, false, false, false] (by kernel_rfl) rfl rfl (hx1) (fun hHeld => ?_)
          generalize w20.drew = W0_ at HB HO hx1 hHeld ⊢
          have HRo := Aside0.mk (Kd.R_reads' HO.out).2.2
          have HB2 := Aside0.mk (Below.refl W0_.heap.size W0_)
          clear HO
          refine pure_ (i := 1) (N := some 32) (v := ?_) (a' := ?_) #[false, true, false, false, false, false, false, false, false, false, false, false, false, false, false, false] rfl rfl (by kernel_rfl) (fun _ _ _ h => h) (Or.inl ⟨by rfl, ?_⟩) ?_ ?_
          rotate_left
          · intro w'
            go_simp
            first | done | with_reducible rfl
          rotate_left
          · simp only [Act.put, List.setIfInBounds_toArray, List.set_cons_zero, List.set_cons_succ, i64_w, i32_w]
            rfl
          refine pure_ (i := 2) (N := some 33) (v := ?_) (a' := ?_) #[false, true, true, false, false, false, false, false, false, false, false, false, false, false, false, false] rfl rfl (by kernel_rfl) (fun _ _ _ h => h) (Or.inl ⟨by rfl, ?_⟩) ?_ ?_
          rotate_left
          · intro w'
            go_simp
            first | done | with_reducible rfl
          rotate_left
          · simp only [Act.put, List.setIfInBounds_toArray, List.set_cons_zero, List.set_cons_succ, i64_w, i32_w]
            rfl
          refine pure_ (i := 3) (N := some 34) (v := ?_) (a' := ?_) #[false, true, true, true, false, false, false, false, false, false, false, false, false, false, false, false] rfl rfl (by kernel_rfl) (fun _ _ _ h => h) (Or.inl ⟨by rfl, ?_⟩) ?_ ?_
          rotate_left
          · intro w'
            go_simp
            first | done | with_reducible rfl
          rotate_left
          · simp only [Act.put, List.setIfInBounds_toArray, List.set_cons_zero, List.set_cons_succ, i64_w, i32_w]
            rfl
          refine pure_ (i := 5) (N := some 36) (v := ?_) (a' := ?_) #[false, true, true, true, false, true, false, false, false, false, false, false, false, false, false, false] rfl rfl (by kernel_rfl) (fun _ _ _ h => h) (Or.inl ⟨by rfl, ?_⟩) ?_ ?_
          rotate_left
          · intro w'
            go_simp
            first | done | with_reducible rfl
          rotate_left
          · simp only [Act.put, List.setIfInBounds_toArray, List.set_cons_zero, List.set_cons_succ, i64_w, i32_w]
            rfl
          refine pure_ (i := 6) (N := some 37) (v := ?_) (a' := ?_) #[false, true, true, true, false, true, true, false, false, false, false, false, false, false, false, false] rfl rfl (by kernel_rfl) (fun _ _ _ h => h) (Or.inl ⟨by rfl, ?_⟩) ?_ ?_
          rotate_left
          · intro w'
            go_simp
            first | done | with_reducible rfl
          rotate_left
          · simp only [Act.put, List.setIfInBounds_toArray, List.set_cons_zero, List.set_cons_succ, i64_w, i32_w]
            rfl
          refine pure_ (i := 7) (N := some 38) (v := ?_) (a' := ?_) #[false, true, true, true, false, true, true, true, false, false, false, false, false, false, false, false] rfl rfl (by kernel_rfl) (fun _ _ _ h => h) (Or.inl ⟨by rfl, ?_⟩) ?_ ?_
          rotate_left
          · intro w'
            go_simp
            first | done | with_reducible rfl
          rotate_left
          · simp only [Act.put, List.setIfInBounds_toArray, List.set_cons_zero, List.set_cons_succ, i64_w, i32_w]
            rfl
          refine pure_ (i := 11) (N := some 42) (v := ?_) (a' := ?_) #[false, true, true, true, false, true, true, true, false, false, false, true, false, false, false, false] rfl rfl (by kernel_rfl) (fun _ _ _ h => h) (Or.inl ⟨by rfl, ?_⟩) ?_ ?_
          rotate_left
          · intro w'
            go_simp
            first | done | with_reducible rfl
          rotate_left
          · simp only [Act.put, List.setIfInBounds_toArray, List.set_cons_zero, List.set_cons_succ, i64_w, i32_w]
            rfl
          refine pure_ (i := 12) (N := some 43) (v := ?_) (a' := ?_) #[false, true, true, true, false, true, true, true, false, false, false, true, true, false, false, false] rfl rfl (by kernel_rfl) (fun _ _ _ h => h) (Or.inl ⟨by rfl, ?_⟩) ?_ ?_
          rotate_left
          · intro w'
            go_simp
            first | done | with_reducible rfl
          rotate_left
          · simp only [Act.put, List.setIfInBounds_toArray, List.set_cons_zero, List.set_cons_succ, i64_w, i32_w]
            rfl
          refine pure_ (i := 13) (N := some 44) (v := ?_) (a' := ?_) #[false, true, true, true, false, true, true, true, false, false, false, true, true, true, false, false] rfl rfl (by kernel_rfl) (fun _ _ _ h => h) (Or.inl ⟨by rfl, ?_⟩) ?_ ?_
          rotate_left
          · intro w'
            go_simp
            first | done | with_reducible rfl
          rotate_left
          · simp only [Act.put, List.setIfInBounds_toArray, List.set_cons_zero, List.set_cons_succ, i64_w, i32_w]
            rfl
          refine take_ (i := 8) (N := some 39) (v := ?_) (a' := ?_) #[false, true, true, true, false, true, true, true, true, false, false, true, true, true, false, false] rfl rfl (by kernel_rfl) (fun _ _ _ h => h) (Or.inl ⟨by rfl, ?_⟩) hHeld ?_ ?_
          rotate_left
          · intro w' s0
            go_simp
            first | done | with_reducible rfl
          rotate_left
          · simp only [Act.put, List.setIfInBounds_toArray, List.set_cons_zero, List.set_cons_succ, i64_w, i32_w]
            rfl
          refine join_ (σ := Value × Value × Option Addr × Nat) 3 #[true, true, true, true, true, true, true, true, true, true, false, true, true, true, false, false] (fun s => match s with | ⟨v31, v35, A40, c40⟩ => [(31, v31), (35, v35), (40, .slice A40 ([v] : List Int).length c40)]) (fun s w' => match s with | ⟨v31, v35, A40, c40⟩ => Aside0 (Kd.R (Kd.int .i64) 3 w' W0_.heap.size (fun _ => True) v35 (out.take x)) ∧ Aside0 (Kd.R (Kd.int .i64) 3 w' W0_.heap.size (fun _ => True) (.slice A40 ([v] : List Int).length c40) [v]) ∧ Aside0 (Below W0_.heap.size W0_ w')) ?_ ?_
          rotate_left
          · intro hCont
            refine two_ (i := 0) (j := 9) (Ni := some 31) (Nj := some 40) #[true, true, true, true, false, true, true, true, true, false, false, true, true, true, false, false] #[false, true, true, true, false, true, true, true, true, true, false, true, true, true, false, false] rfl rfl rfl rfl (by kernel_rfl) (by decide) (by decide) (fun K hK => ?_) (fun K hK => ?_)
            · skip
              refine Kd.R_lit_step (Kd.int .i64) W0_.heap.size 3 ?hg (N := 31) ?hd (xs := ([] : List Int)) (inner := []) (ok := fun _ => True) (okp := fun _ => True) ?hr ?hp (fun _ hk => hk) trivial HB2.out (below_size HB2.out) (by simp) ?_; (case hd => rfl); (case hg => rfl); (case hr => first | (go_simp; done) | (go_simp; rfl)); (case hp => exact (Reps.none _ _))
              intro v31 W1_ ho hb hg_ hnew_
              have HN := Aside0.mk ho
              clear HB2
              have HB2 := Aside0.mk hb
              clear hb hg_ hnew_ ho
              refine hK.out _ _ ((HB2.out.cell (World.block_lt_of_cell? _ _ hx1)).trans hx1) (fun hHeld => ?_)
              clear hK K
              refine norm_ (a' := ?_) ?_ ?_
              rotate_left
              · show Act.put _ (some 31) _ = _
                simp only [Act.put, List.setIfInBounds_toArray, List.set_cons_zero, List.set_cons_succ, i64_w, i32_w]
                rfl
              refine two_ (i := 4) (j := 9) (Ni := some 35) (Nj := some 40) #[true, true, true, true, true, true, true, true, true, false, false, true, true, true, false, false] #[true, true, true, true, false, true, true, true, true, true, false, true, true, true, false, false] rfl rfl rfl rfl (by kernel_rfl) (by decide) (by decide) (fun K hK => ?_) (fun K hK => ?_)
              · skip
                refine Kd.R_append_rows_step (Kd.int .i64) (w0 := W0_) W0_.heap.size (by rfl) (.tmp 31) (.tmp 34) 53 3 (.int .i64 0) 8 rfl Try.underlying53 info3 rfl (by decide) (by omega) v31 [] (out.take x) Ao x co (fun _ => True) (fun _ => False) rfl rfl HN.out (by have h_ := Kd.C_take (m := x) (Kd.C_below HRo.out HB2.out) HP.out; rw [List.length_take, Nat.min_eq_left HP.out] at h_; exact h_) (fun _ _ h => h) (fun _ h => h.elim) (fun _ _ => trivial) HB2.out (below_size HB2.out) (by have := HP.out; have := HLEN.out; simp only [List.length_append, List.length_take, List.length_drop, List.length_cons, List.length_nil]; omega) ?_
                intro v35 W2_ ho hb hg_ hat_
                rw [List.nil_append] at ho
                clear HN
                have HN := Aside0.mk ho
                clear HB2
                have HB2 := Aside0.mk hb
                clear hb hg_ hat_ ho
                refine hK.out _ _ ((HB2.out.cell (World.block_lt_of_cell? _ _ hx1)).trans hx1) (fun hHeld => ?_)
                clear hK K
                refine norm_ (a' := ?_) ?_ ?_
                rotate_left
                · show Act.put _ (some 35) _ = _
                  simp only [Act.put, List.setIfInBounds_toArray, List.set_cons_zero, List.set_cons_succ, i64_w, i32_w]
                  rfl
                refine one_ (i := 9) (N := some 40) #[true, true, true, true, true, true, true, true, true, true, false, true, true, true, false, false] rfl rfl (by kernel_rfl) (by decide) (fun K hK => ?_)
                refine Kd.R_lit_step (Kd.int .i64) W0_.heap.size 3 ?hg (N := 40) ?hd (xs := ([v] : List Int)) (inner := [.int .i64 v]) (ok := fun _ => True) (okp := fun _ => True) ?hr ?hp (fun _ hk => hk) trivial HB2.out (below_size HB2.out) (by simp) ?_; (case hd => rfl); (case hg => rfl); (case hr => first | (go_simp; done) | (go_simp; rfl)); (case hp => exact (Reps.one (show Kd.M (Kd.int .i64) _ _ _ v [.int .i64 v] from rfl) (Reps.none _ _)))
                intro v40_ W3_ ho hb hg_ hnew_
                obtain ⟨A40, c40, e40_⟩ := Kd.R_slice ho
                subst e40_
                have HL := Aside0.mk ho
                have m_ := Aside0.mk (Kd.R_grown HN.out hg_ (fun _ _ h_ => nomatch h_))
                clear HN
                have HN := m_
                clear m_
                clear HB2
                have HB2 := Aside0.mk hb
                clear hb hg_ hnew_ ho
                refine hK.out _ _ ((HB2.out.cell (World.block_lt_of_cell? _ _ hx1)).trans hx1) (fun hHeld => ?_)
                clear hK K
                refine norm_ (a' := ?_) ?_ ?_
                rotate_left
                · show Act.put _ (some 40) _ = _
                  simp only [Act.put, List.setIfInBounds_toArray, List.set_cons_zero, List.set_cons_succ, i64_w, i32_w]
                  rfl
                exact norm_ (by simp only [putAll, Act.put, List.setIfInBounds_toArray, List.set_cons_zero, List.set_cons_succ]) (hCont (v31, v35, A40, c40) _ ⟨HN, HL, HB2⟩)
              · skip
                refine Kd.R_lit_step (Kd.int .i64) W0_.heap.size 3 ?hg (N := 40) ?hd (xs := ([v] : List Int)) (inner := [.int .i64 v]) (ok := fun _ => True) (okp := fun _ => True) ?hr ?hp (fun _ hk => hk) trivial HB2.out (below_size HB2.out) (by simp) ?_; (case hd => rfl); (case hg => rfl); (case hr => first | (go_simp; done) | (go_simp; rfl)); (case hp => exact (Reps.one (show Kd.M (Kd.int .i64) _ _ _ v [.int .i64 v] from rfl) (Reps.none _ _)))
                intro v40_ W2_ ho hb hg_ hnew_
                obtain ⟨A40, c40, e40_⟩ := Kd.R_slice ho
                subst e40_
                have HL := Aside0.mk ho
                have NE_ := Aside0.mk (show v31.ownBlock ≠ (Value.slice A40 ([v] : List Int).length c40).ownBlock by obtain ⟨b_, hb1_, hb2_⟩ := hnew_; intro e_; rw [hb1_] at e_; have := Kd.R_lt HN.out b_ e_; omega)
                have m_ := Aside0.mk (Kd.R_grown HN.out hg_ (fun _ _ h_ => nomatch h_))
                clear HN
                have HN := m_
                clear m_
                clear HB2
                have HB2 := Aside0.mk hb
                clear hb hg_ hnew_ ho
                refine hK.out _ _ ((HB2.out.cell (World.block_lt_of_cell? _ _ hx1)).trans hx1) (fun hHeld => ?_)
                clear hK K
                refine norm_ (a' := ?_) ?_ ?_
                rotate_left
                · show Act.put _ (some 40) _ = _
                  simp only [Act.put, List.setIfInBounds_toArray, List.set_cons_zero, List.set_cons_succ, i64_w, i32_w]
                  rfl
                refine one_ (i := 4) (N := some 35) #[true, true, true, true, true, true, true, true, true, true, false, true, true, true, false, false] rfl rfl (by kernel_rfl) (by decide) (fun K hK => ?_)
                refine Kd.R_append_rows_step (Kd.int .i64) (w0 := W0_) W0_.heap.size (by rfl) (.tmp 31) (.tmp 34) 53 3 (.int .i64 0) 8 rfl Try.underlying53 info3 rfl (by decide) (by omega) v31 [] (out.take x) Ao x co (fun _ => True) (fun _ => False) rfl rfl HN.out (by have h_ := Kd.C_take (m := x) (Kd.C_below HRo.out HB2.out) HP.out; rw [List.length_take, Nat.min_eq_left HP.out] at h_; exact h_) (fun _ _ h => h) (fun _ h => h.elim) (fun _ _ => trivial) HB2.out (below_size HB2.out) (by have := HP.out; have := HLEN.out; simp only [List.length_append, List.length_take, List.length_drop, List.length_cons, List.length_nil]; omega) ?_
                intro v35 W3_ ho hb hg_ hat_
                rw [List.nil_append] at ho
                have m_ := Aside0.mk (Kd.R_grown1 HL.out rfl hg_ NE_.out)
                clear HL
                have HL := m_
                clear m_
                clear NE_
                clear HN
                have HN := Aside0.mk ho
                clear HB2
                have HB2 := Aside0.mk hb
                clear hb hg_ hat_ ho
                refine hK.out _ _ ((HB2.out.cell (World.block_lt_of_cell? _ _ hx1)).trans hx1) (fun hHeld => ?_)
                clear hK K
                refine norm_ (a' := ?_) ?_ ?_
                rotate_left
                · show Act.put _ (some 35) _ = _
                  simp only [Act.put, List.setIfInBounds_toArray, List.set_cons_zero, List.set_cons_succ, i64_w, i32_w]
                  rfl
                exact norm_ (by simp only [putAll, Act.put, List.setIfInBounds_toArray, List.set_cons_zero, List.set_cons_succ]) (hCont (v31, v35, A40, c40) _ ⟨HN, HL, HB2⟩)
            · skip
              refine Kd.R_lit_step (Kd.int .i64) W0_.heap.size 3 ?hg (N := 40) ?hd (xs := ([v] : List Int)) (inner := [.int .i64 v]) (ok := fun _ => True) (okp := fun _ => True) ?hr ?hp (fun _ hk => hk) trivial HB2.out (below_size HB2.out) (by simp) ?_; (case hd => rfl); (case hg => rfl); (case hr => first | (go_simp; done) | (go_simp; rfl)); (case hp => exact (Reps.one (show Kd.M (Kd.int .i64) _ _ _ v [.int .i64 v] from rfl) (Reps.none _ _)))
              intro v40_ W1_ ho hb hg_ hnew_
              obtain ⟨A40, c40, e40_⟩ := Kd.R_slice ho
              subst e40_
              have HL := Aside0.mk ho
              clear HB2
              have HB2 := Aside0.mk hb
              clear hb hg_ hnew_ ho
              refine hK.out _ _ ((HB2.out.cell (World.block_lt_of_cell? _ _ hx1)).trans hx1) (fun hHeld => ?_)
              clear hK K
              refine norm_ (a' := ?_) ?_ ?_
              rotate_left
              · show Act.put _ (some 40) _ = _
                simp only [Act.put, List.setIfInBounds_toArray, List.set_cons_zero, List.set_cons_succ, i64_w, i32_w]
                rfl
              refine one_ (i := 0) (N := some 31) #[true, true, true, true, false, true, true, true, true, true, false, true, true, true, false, false] rfl rfl (by kernel_rfl) (by decide) (fun K hK => ?_)
              refine Kd.R_lit_step (Kd.int .i64) W0_.heap.size 3 ?hg (N := 31) ?hd (xs := ([] : List Int)) (inner := []) (ok := fun _ => True) (okp := fun _ => True) ?hr ?hp (fun _ hk => hk) trivial HB2.out (below_size HB2.out) (by simp) ?_; (case hd => rfl); (case hg => rfl); (case hr => first | (go_simp; done) | (go_simp; rfl)); (case hp => exact (Reps.none _ _))
              intro v31 W2_ ho hb hg_ hnew_
              have HN := Aside0.mk ho
              have NE_ := Aside0.mk (show v31.ownBlock ≠ (Value.slice A40 ([v] : List Int).length c40).ownBlock by obtain ⟨b_, hb1_, hb2_⟩ := hnew_; intro e_; rw [hb1_] at e_; have := Kd.R_lt HL.out b_ e_.symm; omega)
              have m_ := Aside0.mk (Kd.R_grown HL.out hg_ (fun _ _ h_ => nomatch h_))
              clear HL
              have HL := m_
              clear m_
              clear HB2
              have HB2 := Aside0.mk hb
              clear hb hg_ hnew_ ho
              refine hK.out _ _ ((HB2.out.cell (World.block_lt_of_cell? _ _ hx1)).trans hx1) (fun hHeld => ?_)
              clear hK K
              refine norm_ (a' := ?_) ?_ ?_
              rotate_left
              · show Act.put _ (some 31) _ = _
                simp only [Act.put, List.setIfInBounds_toArray, List.set_cons_zero, List.set_cons_succ, i64_w, i32_w]
                rfl
              refine one_ (i := 4) (N := some 35) #[true, true, true, true, true, true, true, true, true, true, false, true, true, true, false, false] rfl rfl (by kernel_rfl) (by decide) (fun K hK => ?_)
              refine Kd.R_append_rows_step (Kd.int .i64) (w0 := W0_) W0_.heap.size (by rfl) (.tmp 31) (.tmp 34) 53 3 (.int .i64 0) 8 rfl Try.underlying53 info3 rfl (by decide) (by omega) v31 [] (out.take x) Ao x co (fun _ => True) (fun _ => False) rfl rfl HN.out (by have h_ := Kd.C_take (m := x) (Kd.C_below HRo.out HB2.out) HP.out; rw [List.length_take, Nat.min_eq_left HP.out] at h_; exact h_) (fun _ _ h => h) (fun _ h => h.elim) (fun _ _ => trivial) HB2.out (below_size HB2.out) (by have := HP.out; have := HLEN.out; simp only [List.length_append, List.length_take, List.length_drop, List.length_cons, List.length_nil]; omega) ?_
              intro v35 W3_ ho hb hg_ hat_
              rw [List.nil_append] at ho
              have m_ := Aside0.mk (Kd.R_grown1 HL.out rfl hg_ NE_.out)
              clear HL
              have HL := m_
              clear m_
              clear NE_
              clear HN
              have HN := Aside0.mk ho
              clear HB2
              have HB2 := Aside0.mk hb
              clear hb hg_ hat_ ho
              refine hK.out _ _ ((HB2.out.cell (World.block_lt_of_cell? _ _ hx1)).trans hx1) (fun hHeld => ?_)
              clear hK K
              refine norm_ (a' := ?_) ?_ ?_
              rotate_left
              · show Act.put _ (some 35) _ = _
                simp only [Act.put, List.setIfInBounds_toArray, List.set_cons_zero, List.set_cons_succ, i64_w, i32_w]
                rfl
              exact norm_ (by simp only [putAll, Act.put, List.setIfInBounds_toArray, List.set_cons_zero, List.set_cons_succ]) (hCont (v31, v35, A40, c40) _ ⟨HN, HL, HB2⟩)
          clear HB2
          rintro ⟨v31, v35, A40, c40⟩ W4_ ⟨HN, HL, HB2⟩
          have hHeld : (fun w' => w'.cell? (adl_.add ii.toNat) = some (.int .i64 v)) W4_ := (HB2.out.cell (World.block_lt_of_cell? _ _ hx1)).trans hx1
          refine norm_ (a' := ?_) ?_ ?_
          rotate_left
          · simp only [putAll, Act.put, List.setIfInBounds_toArray, List.set_cons_zero, List.set_cons_succ]
            rfl
          refine one_ (i := 10) (N := some 41) #[true, true, true, true, true, true, true, true, true, true, true, true, true, true, false, false] rfl rfl (by kernel_rfl) (by decide) (fun K hK => ?_)
          refine Kd.R_append_rows_step (Kd.int .i64) (w0 := W0_) W0_.heap.size (by rfl) (.tmp 35) (.tmp 40) 53 3 (.int .i64 0) 8 rfl Try.underlying53 info3 rfl (by decide) (by omega) v35 (out.take x) [v] A40 ([v] : List Int).length c40 (fun _ => True) (fun _ => False) rfl rfl HN.out ((Kd.R_reads' HL.out).2.2) (fun _ _ h => h) (fun _ h => h.elim) (fun _ _ => trivial) HB2.out (below_size HB2.out) (by have := HP.out; have := HLEN.out; simp only [List.length_append, List.length_take, List.length_drop, List.length_cons, List.length_nil]; omega) ?_
          intro v41 W5_ ho hb hg_ hat_
          clear HN HL
          have HN := Aside0.mk ho
          clear HB2
          have HB2 := Aside0.mk hb
          clear hb hg_ hat_ ho
          refine hK.out _ _ ((HB2.out.cell (World.block_lt_of_cell? _ _ hx1)).trans hx1) (fun hHeld => ?_)
          clear hK K
          refine norm_ (a' := ?_) ?_ ?_
          rotate_left
          · show Act.put _ (some 41) _ = _
            simp only [Act.put, List.setIfInBounds_toArray, List.set_cons_zero, List.set_cons_succ, i64_w, i32_w]
            rfl
          refine one_ (i := 14) (N := some 45) #[true, true, true, true, true, true, true, true, true, true, true, true, true, true, true, false] rfl rfl (by kernel_rfl) (by decide) (fun K hK => ?_)
          refine Kd.R_append_rows_step (Kd.int .i64) (w0 := W0_) W0_.heap.size (by rfl) (.tmp 41) (.tmp 44) 53 3 (.int .i64 0) 8 rfl Try.underlying53 info3 rfl (by decide) (by omega) v41 (out.take x ++ [v]) (out.drop x) Ac_ (out.length - x) (co - x) (fun _ => True) (fun _ => False) rfl rfl HN.out (by have h_ := Kd.C_drop (m := x) (Kd.C_below HRo.out HB2.out) HP.out HCo.out; rw [List.length_drop, show x * (Kd.int .i64).sz = x from Nat.mul_one _] at h_; rw [← HAc.out]; exact h_) (fun _ _ h => h) (fun _ h => h.elim) (fun _ _ => trivial) HB2.out (below_size HB2.out) (by have := HP.out; have := HLEN.out; simp only [List.length_append, List.length_take, List.length_drop, List.length_cons, List.length_nil]; omega) ?_
          intro v45 W6_ ho hb hg_ hat_
          clear HN
          have HN := Aside0.mk ho
          clear HB2
          have HB2 := Aside0.mk hb
          clear hb hg_ hat_ ho
          refine hK.out _ _ ((HB2.out.cell (World.block_lt_of_cell? _ _ hx1)).trans hx1) (fun hHeld => ?_)
          clear hK K
          refine norm_ (a' := ?_) ?_ ?_
          rotate_left
          · show Act.put _ (some 45) _ = _
            simp only [Act.put, List.setIfInBounds_toArray, List.set_cons_zero, List.set_cons_succ, i64_w, i32_w]
            rfl
          refine pure_ (i := 15) (N := some 3) (v := ?_) (a' := ?_) #[true, true, true, true, true, true, true, true, true, true, true, true, true, true, true, true] rfl rfl (by kernel_rfl) (fun _ _ _ h => h) (Or.inl ⟨by rfl, ?_⟩) ?_ ?_
          rotate_left
          · intro w'
            go_simp
            first | done | with_reducible rfl
          rotate_left
          · simp only [Act.put, List.setIfInBounds_toArray, List.set_cons_zero, List.set_cons_succ, i64_w, i32_w]
            rfl
          refine done_ (by kernel_rfl) ?_
          have HO := Aside0.mk (Kd.R_lower HN.out (below_size HB.out))
          have m_ := Aside0.mk (below_step HB.out HB2.out)
          clear HB HN HB2 HRo hcut1 hcut2 hi0_ hsz0_
          have HB := m_
          clear m_
          have HO2 := Aside0.mk (show Kd.R (Kd.int .i64) 3 W6_ w.heap.size (fun _ => True) v45 (sortedL (l0.take (i + 1))) from by rw [HNX.out]; unfold putIn; rw [← HPOS.out]; exact HO.out)
          try go_wp2
          repeat (go_quiet (fail); try go_wp2)
          go_roundg (l0.length - (i + 1))
          case measure => have := HI.out; have := HCI.out; omega
          case rel => exact ⟨i + 1, _, rfl, HWI, ⟨by have := HCI.out; omega, by have := HI.out; omega⟩, HO2, HB⟩
        · obtain ⟨y, hy⟩ : ∃ y, x = y + 1 := ⟨x - 1, by omega⟩
          obtain ⟨yi, hyi⟩ : ∃ yi : Int, yi = (y : Int) := ⟨_, rfl⟩
          have HYI := Aside0.mk hyi
          have hwx_ : wrap64 (xi - 1) = yi := by have := HX.out; have := HXI.out; have := HLEN.out; unfold wrap64; omega
          have hwxw_ : IntKind.i64.wrap (xi - 1) = yi := (i64_w _).trans hwx_
          have cz_ : decide (0 < xi) = true := decide_eq_true (by have := HXI.out; omega)
          have px_ : (0 ≤ yi) = True := eq_true (by omega)
          have qx_ : (yi < (out.length : Int)) = True := eq_true (by have := HX.out; omega)
          by_cases cq : v < rd out yi
          · have cl_ : decide (v < rd out yi) = true := decide_eq_true cq
            have hp_ : posIn (over v) out x = posIn (over v) out y := by
              rw [hy]
              rw [hyi] at cl_
              show (if over v (rd out (y : Int)) = true then posIn (over v) out y else y + 1) = _
              unfold over
              rw [cl_]
              rfl
            replace HPOS := Aside0.mk (hp_.symm.trans HPOS.out)
            have HY := Aside0.mk hy
            clear hp_ cq hx0 hy hyi
            try go_wp2
            have m_ := Aside0.mk (below_drew1 HB.out)
            clear HB
            have HB := m_
            clear m_
            have m_ := Aside0.mk (Kd.R_drew HO.out)
            clear HO
            have HO := m_
            clear m_
            obtain ⟨ado_, eo_, hx2⟩ := Kd.at_int (Kd.R_reads' HO.out).2.2 yi (by have := HYI.out; omega) (by have := HX.out; have := HY.out; have := HYI.out; omega)
            cases eo_
            have hx1 := (HB.out.cell (World.block_lt_of_cell? w _ HXL.out)).trans HXL.out
            refine start_ (n := 14) (S := fun w' => w'.cell? (ado_.add yi.toNat) = some (.int .i64 (rd out yi)) ∧ w'.cell? (adl_.add ii.toNat) = some (.int .i64 v)) (ds := []) #[false, false, false, false, false, false, false, false, false, false, false, false, false, false] (by kernel_rfl) rfl rfl ⟨hx2, hx1⟩ (fun hHeld => ?_)
            generalize wr.drew = w21 at HB HO hx2 hx1 hHeld ⊢
            refine pure_ (i := 0) (N := some 15) (v := ?_) (a' := ?_) #[true, false, false, false, false, false, false, false, false, false, false, false, false, false] rfl rfl (by kernel_rfl) (fun _ _ _ h => h) (Or.inl ⟨by rfl, ?_⟩) ?_ ?_
            rotate_left
            · intro w'
              go_simp
              first | done | with_reducible rfl
            rotate_left
            · simp only [Act.put, List.setIfInBounds_toArray, List.set_cons_zero, List.set_cons_succ, i64_w, i32_w]
              rfl
            refine pure_ (i := 1) (N := some 16) (v := ?_) (a' := ?_) #[true, true, false, false, false, false, false, false, false, false, false, false, false, false] rfl rfl (by kernel_rfl) (fun _ _ _ h => h) (Or.inl ⟨by rfl, ?_⟩) ?_ ?_
            rotate_left
            · intro w'
              go_simp
              first | done | with_reducible rfl
            rotate_left
            · simp only [Act.put, List.setIfInBounds_toArray, List.set_cons_zero, List.set_cons_succ, i64_w, i32_w]
              rfl
            refine pure_ (i := 2) (N := some 17) (v := ?_) (a' := ?_) #[true, true, true, false, false, false, false, false, false, false, false, false, false, false] rfl rfl (by kernel_rfl) (fun _ _ _ h => h) (Or.inl ⟨by rfl, ?_⟩) ?_ ?_
            rotate_left
            · intro w'
              go_simp
              first | done | with_reducible rfl
            rotate_left
            · simp only [Act.put, List.setIfInBounds_toArray, List.set_cons_zero, List.set_cons_succ, i64_w, i32_w]
              rfl
            refine pure_ (i := 3) (N := some 18) (v := ?_) (a' := ?_) #[true, true, true, true, false, false, false, false, false, false, false, false, false, false] rfl rfl (by kernel_rfl) (fun _ _ _ h => h) (Or.inl ⟨by rfl, ?_⟩) ?_ ?_
            rotate_left
            · intro w'
              go_simp
              first | done | with_reducible rfl
            rotate_left
            · simp only [Act.put, List.setIfInBounds_toArray, List.set_cons_zero, List.set_cons_succ, i64_w, i32_w]
              rfl
            refine pure_ (i := 4) (N := some 19) (v := ?_) (a' := ?_) #[true, true, true, true, true, false, false, false, false, false, false, false, false, false] rfl rfl (by kernel_rfl) (fun _ _ _ h => h) (Or.inl ⟨by rfl, ?_⟩) ?_ ?_
            rotate_left
            · intro w'
              go_simp
              first | done | with_reducible rfl
            rotate_left
            · simp only [Act.put, List.setIfInBounds_toArray, List.set_cons_zero, List.set_cons_succ, i64_w, i32_w]
              rfl
            refine pure_ (i := 5) (N := some 20) (v := ?_) (a' := ?_) #[true, true, true, true, true, true, false, false, false, false, false, false, false, false] rfl rfl (by kernel_rfl) (fun _ _ _ h => h) (Or.inl ⟨by rfl, ?_⟩) ?_ ?_
            rotate_left
            · intro w'
              go_simp
              first | done | with_reducible rfl
            rotate_left
            · simp only [Act.put, List.setIfInBounds_toArray, List.set_cons_zero, List.set_cons_succ, i64_w, i32_w]
              rfl
            refine pure_ (i := 6) (N := some 21) (v := ?_) (a' := ?_) #[true, true, true, true, true, true, true, false, false, false, false, false, false, false] rfl rfl (by kernel_rfl) (fun _ _ _ h => h) (Or.inl ⟨by rfl, ?_⟩) ?_ ?_
            rotate_left
            · intro w'
              go_simp
              first | done | with_reducible rfl
            rotate_left
            · simp only [Act.put, List.setIfInBounds_toArray, List.set_cons_zero, List.set_cons_succ, i64_w, i32_w]
              rfl
            refine pure_ (i := 8) (N := some 23) (v := ?_) (a' := ?_) #[true, true, true, true, true, true, true, false, true, false, false, false, false, false] rfl rfl (by kernel_rfl) (fun _ _ _ h => h) (Or.inl ⟨by rfl, ?_⟩) ?_ ?_
            rotate_left
            · intro w'
              go_simp
              first | done | with_reducible rfl
            rotate_left
            · simp only [Act.put, List.setIfInBounds_toArray, List.set_cons_zero, List.set_cons_succ, i64_w, i32_w]
              rfl
            refine pure_ (i := 9) (N := some 24) (v := ?_) (a' := ?_) #[true, true, true, true, true, true, true, false, true, true, false, false, false, false] rfl rfl (by kernel_rfl) (fun _ _ _ h => h) (Or.inl ⟨by rfl, ?_⟩) ?_ ?_
            rotate_left
            · intro w'
              go_simp
              first | done | with_reducible rfl
            rotate_left
            · simp only [Act.put, List.setIfInBounds_toArray, List.set_cons_zero, List.set_cons_succ, i64_w, i32_w]
              rfl
            refine pure_ (i := 10) (N := some 25) (v := ?_) (a' := ?_) #[true, true, true, true, true, true, true, false, true, true, true, false, false, false] rfl rfl (by kernel_rfl) (fun _ _ _ h => h) (Or.inl ⟨by rfl, ?_⟩) ?_ ?_
            rotate_left
            · intro w'
              go_simp
              first | done | with_reducible rfl
            rotate_left
            · simp only [Act.put, List.setIfInBounds_toArray, List.set_cons_zero, List.set_cons_succ, i64_w, i32_w]
              rfl
            refine take_ (i := 7) (N := some 22) (v := ?_) (a' := ?_) #[true, true, true, true, true, true, true, true, true, true, true, false, false, false] rfl rfl (by kernel_rfl) (fun _ _ _ h => h) (Or.inl ⟨by rfl, ?_⟩) hHeld ?_ ?_
            rotate_left
            · rintro w' ⟨s0, s1⟩
              go_simp
              first | done | with_reducible rfl
            rotate_left
            · simp only [Act.put, List.setIfInBounds_toArray, List.set_cons_zero, List.set_cons_succ, i64_w, i32_w]
              rfl
            refine take_ (i := 11) (N := some 26) (v := ?_) (a' := ?_) #[true, true, true, true, true, true, true, true, true, true, true, true, false, false] rfl rfl (by kernel_rfl) (fun _ _ _ h => h) (Or.inl ⟨by rfl, ?_⟩) hHeld ?_ ?_
            rotate_left
            · rintro w' ⟨s0, s1⟩
              go_simp
              first | done | with_reducible rfl
            rotate_left
            · simp only [Act.put, List.setIfInBounds_toArray, List.set_cons_zero, List.set_cons_succ, i64_w, i32_w]
              rfl
            refine pure_ (i := 12) (N := some 27) (v := ?_) (a' := ?_) #[true, true, true, true, true, true, true, true, true, true, true, true, true, false] rfl rfl (by kernel_rfl) (fun _ _ _ h => h) (Or.inl ⟨by rfl, ?_⟩) ?_ ?_
            rotate_left
            · intro w'
              go_simp
              first | done | with_reducible rfl
            rotate_left
            · simp only [Act.put, List.setIfInBounds_toArray, List.set_cons_zero, List.set_cons_succ, i64_w, i32_w]
              rfl
            refine pure_ (i := 13) (N := some 28) (v := ?_) (a' := ?_) #[true, true, true, true, true, true, true, true, true, true, true, true, true, true] rfl rfl (by kernel_rfl) (fun _ _ _ h => h) (Or.inl ⟨by rfl, ?_⟩) ?_ ?_
            rotate_left
            · intro w'
              go_simp
              first | done | with_reducible rfl
            rotate_left
            · simp only [Act.put, List.setIfInBounds_toArray, List.set_cons_zero, List.set_cons_succ, i64_w, i32_w]
              rfl
            refine done_ (by kernel_rfl) ?_
            try clear hHeld
            try go_wp2
            repeat (go_quiet (fail); try go_wp2)
            go_roundg y
            case measure => have := HX.out; have := HY.out; omega
            case rel => exact ⟨y, yi, by first | rfl | (rw [hwx_]; done) | (simp [hwx_]; done), HYI, ⟨by have := HX.out; have := HY.out; omega, Nat.le_refl _⟩, HPOS, HO, HB⟩
          · have cl_ : decide (v < rd out yi) = false := decide_eq_false cq
            have hp_ : posIn (over v) out x = x := by
              rw [hy]
              rw [hyi] at cl_
              show (if over v (rd out (y : Int)) = true then posIn (over v) out y else y + 1) = _
              unfold over
              rw [cl_]
              rfl
            replace HPOS := Aside0.mk (hp_.symm.trans HPOS.out)
            have HY := Aside0.mk hy
            clear hp_ cq hx0 hy hyi
            try go_wp2
            have m_ := Aside0.mk (below_drew1 HB.out)
            clear HB
            have HB := m_
            clear m_
            have m_ := Aside0.mk (Kd.R_drew HO.out)
            clear HO
            have HO := m_
            clear m_
            obtain ⟨ado_, eo_, hx2⟩ := Kd.at_int (Kd.R_reads' HO.out).2.2 yi (by have := HYI.out; omega) (by have := HX.out; have := HY.out; have := HYI.out; omega)
            cases eo_
            have hx1 := (HB.out.cell (World.block_lt_of_cell? w _ HXL.out)).trans HXL.out
            refine start_ (n := 14) (S := fun w' => w'.cell? (ado_.add yi.toNat) = some (.int .i64 (rd out yi)) ∧ w'.cell? (adl_.add ii.toNat) = some (.int .i64 v)) (ds := []) #[false, false, false, false, false, false, false, false, false, false, false, false, false, false] (by kernel_rfl) rfl rfl ⟨hx2, hx1⟩ (fun hHeld => ?_)
            generalize wr.drew = w22 at HB HO hx2 hx1 hHeld ⊢
            refine pure_ (i := 0) (N := some 15) (v := ?_) (a' := ?_) #[true, false, false, false, false, false, false, false, false, false, false, false, false, false] rfl rfl (by kernel_rfl) (fun _ _ _ h => h) (Or.inl ⟨by rfl, ?_⟩) ?_ ?_
            rotate_left
            · intro w'
              go_simp
              first | done | with_reducible rfl
            rotate_left
            · simp only [Act.put, List.setIfInBounds_toArray, List.set_cons_zero, List.set_cons_succ, i64_w, i32_w]
              rfl
            refine pure_ (i := 1) (N := some 16) (v := ?_) (a' := ?_) #[true, true, false, false, false, false, false, false, false, false, false, false, false, false] rfl rfl (by kernel_rfl) (fun _ _ _ h => h) (Or.inl ⟨by rfl, ?_⟩) ?_ ?_
            rotate_left
            · intro w'
              go_simp
              first | done | with_reducible rfl
            rotate_left
            · simp only [Act.put, List.setIfInBounds_toArray, List.set_cons_zero, List.set_cons_succ, i64_w, i32_w]
              rfl
            refine pure_ (i := 2) (N := some 17) (v := ?_) (a' := ?_) #[true, true, true, false, false, false, false, false, false, false, false, false, false, false] rfl rfl (by kernel_rfl) (fun _ _ _ h => h) (Or.inl ⟨by rfl, ?_⟩) ?_ ?_
            rotate_left
            · intro w'
              go_simp
              first | done | with_reducible rfl
            rotate_left
            · simp only [Act.put, List.setIfInBounds_toArray, List.set_cons_zero, List.set_cons_succ, i64_w, i32_w]
              rfl
            refine pure_ (i := 3) (N := some 18) (v := ?_) (a' := ?_) #[true, true, true, true, false, false, false, false, false, false, false, false, false, false] rfl rfl (by kernel_rfl) (fun _ _ _ h => h) (Or.inl ⟨by rfl, ?_⟩) ?_ ?_
            rotate_left
            · intro w'
              go_simp
              first | done | with_reducible rfl
            rotate_left
            · simp only [Act.put, List.setIfInBounds_toArray, List.set_cons_zero, List.set_cons_succ, i64_w, i32_w]
              rfl
            refine pure_ (i := 4) (N := some 19) (v := ?_) (a' := ?_) #[true, true, true, true, true, false, false, false, false, false, false, false, false, false] rfl rfl (by kernel_rfl) (fun _ _ _ h => h) (Or.inl ⟨by rfl, ?_⟩) ?_ ?_
            rotate_left
            · intro w'
              go_simp
              first | done | with_reducible rfl
            rotate_left
            · simp only [Act.put, List.setIfInBounds_toArray, List.set_cons_zero, List.set_cons_succ, i64_w, i32_w]
              rfl
            refine pure_ (i := 5) (N := some 20) (v := ?_) (a' := ?_) #[true, true, true, true, true, true, false, false, false, false, false, false, false, false] rfl rfl (by kernel_rfl) (fun _ _ _ h => h) (Or.inl ⟨by rfl, ?_⟩) ?_ ?_
            rotate_left
            · intro w'
              go_simp
              first | done | with_reducible rfl
            rotate_left
            · simp only [Act.put, List.setIfInBounds_toArray, List.set_cons_zero, List.set_cons_succ, i64_w, i32_w]
              rfl
            refine pure_ (i := 6) (N := some 21) (v := ?_) (a' := ?_) #[true, true, true, true, true, true, true, false, false, false, false, false, false, false] rfl rfl (by kernel_rfl) (fun _ _ _ h => h) (Or.inl ⟨by rfl, ?_⟩) ?_ ?_
            rotate_left
            · intro w'
              go_simp
              first | done | with_reducible rfl
            rotate_left
            · simp only [Act.put, List.setIfInBounds_toArray, List.set_cons_zero, List.set_cons_succ, i64_w, i32_w]
              rfl
            refine pure_ (i := 8) (N := some 23) (v := ?_) (a' := ?_) #[true, true, true, true, true, true, true, false, true, false, false, false, false, false] rfl rfl (by kernel_rfl) (fun _ _ _ h => h) (Or.inl ⟨by rfl, ?_⟩) ?_ ?_
            rotate_left
            · intro w'
              go_simp
              first | done | with_reducible rfl
            rotate_left
            · simp only [Act.put, List.setIfInBounds_toArray, List.set_cons_zero, List.set_cons_succ, i64_w, i32_w]
              rfl
            refine pure_ (i := 9) (N := some 24) (v := ?_) (a' := ?_) #[true, true, true, true, true, true, true, false, true, true, false, false, false, false] rfl rfl (by kernel_rfl) (fun _ _ _ h => h) (Or.inl ⟨by rfl, ?_⟩) ?_ ?_
            rotate_left
            · intro w'
              go_simp
              first | done | with_reducible rfl
            rotate_left
            · simp only [Act.put, List.setIfInBounds_toArray, List.set_cons_zero, List.set_cons_succ, i64_w, i32_w]
              rfl
            refine pure_ (i := 10) (N := some 25) (v := ?_) (a' := ?_) #[true, true, true, true, true, true, true, false, true, true, true, false, false, false] rfl rfl (by kernel_rfl) (fun _ _ _ h => h) (Or.inl ⟨by rfl, ?_⟩) ?_ ?_
            rotate_left
            · intro w'
              go_simp
              first | done | with_reducible rfl
            rotate_left
            · simp only [Act.put, List.setIfInBounds_toArray, List.set_cons_zero, List.set_cons_succ, i64_w, i32_w]
              rfl
            refine take_ (i := 7) (N := some 22) (v := ?_) (a' := ?_) #[true, true, true, true, true, true, true, true, true, true, true, false, false, false] rfl rfl (by kernel_rfl) (fun _ _ _ h => h) (Or.inl ⟨by rfl, ?_⟩) hHeld ?_ ?_
            rotate_left
            · rintro w' ⟨s0, s1⟩
              go_simp
              first | done | with_reducible rfl
            rotate_left
            · simp only [Act.put, List.setIfInBounds_toArray, List.set_cons_zero, List.set_cons_succ, i64_w, i32_w]
              rfl
            refine take_ (i := 11) (N := some 26) (v := ?_) (a' := ?_) #[true, true, true, true, true, true, true, true, true, true, true, true, false, false] rfl rfl (by kernel_rfl) (fun _ _ _ h => h) (Or.inl ⟨by rfl, ?_⟩) hHeld ?_ ?_
            rotate_left
            · rintro w' ⟨s0, s1⟩
              go_simp
              first | done | with_reducible rfl
            rotate_left
            · simp only [Act.put, List.setIfInBounds_toArray, List.set_cons_zero, List.set_cons_succ, i64_w, i32_w]
              rfl
            refine pure_ (i := 12) (N := some 27) (v := ?_) (a' := ?_) #[true, true, true, true, true, true, true, true, true, true, true, true, true, false] rfl rfl (by kernel_rfl) (fun _ _ _ h => h) (Or.inl ⟨by rfl, ?_⟩) ?_ ?_
            rotate_left
            · intro w'
              go_simp
              first | done | with_reducible rfl
            rotate_left
            · simp only [Act.put, List.setIfInBounds_toArray, List.set_cons_zero, List.set_cons_succ, i64_w, i32_w]
              rfl
            refine pure_ (i := 13) (N := some 28) (v := ?_) (a' := ?_) #[true, true, true, true, true, true, true, true, true, true, true, true, true, true] rfl rfl (by kernel_rfl) (fun _ _ _ h => h) (Or.inl ⟨by rfl, ?_⟩) ?_ ?_
            rotate_left
            · intro w'
              go_simp
              first | done | with_reducible rfl
            rotate_left
            · simp only [Act.put, List.setIfInBounds_toArray, List.set_cons_zero, List.set_cons_succ, i64_w, i32_w]
              rfl
            refine done_ (by kernel_rfl) ?_
            try clear hHeld
            have HP := Aside0.mk (show x ≤ out.length from HX.out.1)
            try go_wp2
            have m_ := Aside0.mk (below_drew1 HB.out)
            clear HB
            have HB := m_
            clear m_
            have m_ := Aside0.mk (Kd.R_drew HO.out)
            clear HO
            have HO := m_
            clear m_
            have hx1 := (HB.out.cell (World.block_lt_of_cell? w _ HXL.out)).trans HXL.out
            obtain ⟨i0_, hi0_, _, hsz0_, _⟩ := info_parts info3
            have HCo := Aside0.mk (Kd.R_reads' HO.out).2.1
            have hcut1 := cut_to (P := Try.prog) 53 3 .i64 Try.underlying53 hi0_ (some ado_) out.length co xi (by have := HXI.out; omega) (by have := HP.out; have := HXI.out; omega) HCo.out
            have hcut2 := cut_from (P := Try.prog) 53 3 .i64 Try.underlying53 hi0_ 1 hsz0_ (some ado_) out.length co xi (by have := HXI.out; omega) (by have := HP.out; have := HXI.out; omega)
            have hxt_ : xi.toNat = x := by rw [HXI.out]; rfl
            simp only [hxt_, Nat.mul_one] at hcut1 hcut2
            clear hxt_
            obtain ⟨Ac_, hAc_⟩ : ∃ A_ : Option Addr, (if co = x then some ado_ else some (ado_.add x)) = A_ := ⟨_, rfl⟩
            first | rw [hAc_] at hcut2 | simp only [hAc_, Option.map_some] at hcut2
            have HAc := Aside0.mk hAc_
            clear hAc_
            refine start_ (n := 16) (S := fun w' => w'.cell? (adl_.add ii.toNat) = some (.int .i64 v)) (ds := []) #[false, false, false, false, false, false, false, false, false, false, false, false, false, false, false, false] (by kernel_rfl) rfl rfl (hx1) (fun hHeld => ?_)
            generalize w22.drew = W0_ at HB HO hx1 hHeld ⊢
            have HRo := Aside0.mk (Kd.R_reads' HO.out).2.2
            have HB2 := Aside0.mk (Below.refl W0_.heap.size W0_)
            clear HO
            refine pure_ (i := 1) (N := some 32) (v := ?_) (a' := ?_) #[false, true, false, false, false, false, false, false, false, false, false, false, false, false, false, false] rfl rfl (by kernel_rfl) (fun _ _ _ h => h) (Or.inl ⟨by rfl, ?_⟩) ?_ ?_
            rotate_left
            · intro w'
              go_simp
              first | done | with_reducible rfl
            rotate_left
            · simp only [Act.put, List.setIfInBounds_toArray, List.set_cons_zero, List.set_cons_succ, i64_w, i32_w]
              rfl
            refine pure_ (i := 2) (N := some 33) (v := ?_) (a' := ?_) #[false, true, true, false, false, false, false, false, false, false, false, false, false, false, false, false] rfl rfl (by kernel_rfl) (fun _ _ _ h => h) (Or.inl ⟨by rfl, ?_⟩) ?_ ?_
            rotate_left
            · intro w'
              go_simp
              first | done | with_reducible rfl
            rotate_left
            · simp only [Act.put, List.setIfInBounds_toArray, List.set_cons_zero, List.set_cons_succ, i64_w, i32_w]
              rfl
            refine pure_ (i := 3) (N := some 34) (v := ?_) (a' := ?_) #[false, true, true, true, false, false, false, false, false, false, false, false, false, false, false, false] rfl rfl (by kernel_rfl) (fun _ _ _ h => h) (Or.inl ⟨by rfl, ?_⟩) ?_ ?_
            rotate_left
            · intro w'
              go_simp
              first | done | with_reducible rfl
            rotate_left
            · simp only [Act.put, List.setIfInBounds_toArray, List.set_cons_zero, List.set_cons_succ, i64_w, i32_w]
              rfl
            refine pure_ (i := 5) (N := some 36) (v := ?_) (a' := ?_) #[false, true, true, true, false, true, false, false, false, false, false, false, false, false, false, false] rfl rfl (by kernel_rfl) (fun _ _ _ h => h) (Or.inl ⟨by rfl, ?_⟩) ?_ ?_
            rotate_left
            · intro w'
              go_simp
              first | done | with_reducible rfl
            rotate_left
            · simp only [Act.put, List.setIfInBounds_toArray, List.set_cons_zero, List.set_cons_succ, i64_w, i32_w]
              rfl
            refine pure_ (i := 6) (N := some 37) (v := ?_) (a' := ?_) #[false, true, true, true, false, true, true, false, false, false, false, false, false, false, false, false] rfl rfl (by kernel_rfl) (fun _ _ _ h => h) (Or.inl ⟨by rfl, ?_⟩) ?_ ?_
            rotate_left
            · intro w'
              go_simp
              first | done | with_reducible rfl
            rotate_left
            · simp only [Act.put, List.setIfInBounds_toArray, List.set_cons_zero, List.set_cons_succ, i64_w, i32_w]
              rfl
            refine pure_ (i := 7) (N := some 38) (v := ?_) (a' := ?_) #[false, true, true, true, false, true, true, true, false, false, false, false, false, false, false, false] rfl rfl (by kernel_rfl) (fun _ _ _ h => h) (Or.inl ⟨by rfl, ?_⟩) ?_ ?_
            rotate_left
            · intro w'
              go_simp
              first | done | with_reducible rfl
            rotate_left
            · simp only [Act.put, List.setIfInBounds_toArray, List.set_cons_zero, List.set_cons_succ, i64_w, i32_w]
              rfl
            refine pure_ (i := 11) (N := some 42) (v := ?_) (a' := ?_) #[false, true, true, true, false, true, true, true, false, false, false, true, false, false, false, false] rfl rfl (by kernel_rfl) (fun _ _ _ h => h) (Or.inl ⟨by rfl, ?_⟩) ?_ ?_
            rotate_left
            · intro w'
              go_simp
              first | done | with_reducible rfl
            rotate_left
            · simp only [Act.put, List.setIfInBounds_toArray, List.set_cons_zero, List.set_cons_succ, i64_w, i32_w]
              rfl
            refine pure_ (i := 12) (N := some 43) (v := ?_) (a' := ?_) #[false, true, true, true, false, true, true, true, false, false, false, true, true, false, false, false] rfl rfl (by kernel_rfl) (fun _ _ _ h => h) (Or.inl ⟨by rfl, ?_⟩) ?_ ?_
            rotate_left
            · intro w'
              go_simp
              first | done | with_reducible rfl
            rotate_left
            · simp only [Act.put, List.setIfInBounds_toArray, List.set_cons_zero, List.set_cons_succ, i64_w, i32_w]
              rfl
            refine pure_ (i := 13) (N := some 44) (v := ?_) (a' := ?_) #[false, true, true, true, false, true, true, true, false, false, false, true, true, true, false, false] rfl rfl (by kernel_rfl) (fun _ _ _ h => h) (Or.inl ⟨by rfl, ?_⟩) ?_ ?_
            rotate_left
            · intro w'
              go_simp
              first | done | with_reducible rfl
            rotate_left
            · simp only [Act.put, List.setIfInBounds_toArray, List.set_cons_zero, List.set_cons_succ, i64_w, i32_w]
              rfl
            refine take_ (i := 8) (N := some 39) (v := ?_) (a' := ?_) #[false, true, true, true, false, true, true, true, true, false, false, true, true, true, false, false] rfl rfl (by kernel_rfl) (fun _ _ _ h => h) (Or.inl ⟨by rfl, ?_⟩) hHeld ?_ ?_
            rotate_left
            · intro w' s0
              go_simp
              first | done | with_reducible rfl
            rotate_left
            · simp only [Act.put, List.setIfInBounds_toArray, List.set_cons_zero, List.set_cons_succ, i64_w, i32_w]
              rfl
            refine join_ (σ := Value × Value × Option Addr × Nat) 3 #[true, true, true, true, true, true, true, true, true, true, false, true, true, true, false, false] (fun s => match s with | ⟨v31, v35, A40, c40⟩ => [(31, v31), (35, v35), (40, .slice A40 ([v] : List Int).length c40)]) (fun s w' => match s with | ⟨v31, v35, A40, c40⟩ => Aside0 (Kd.R (Kd.int .i64) 3 w' W0_.heap.size (fun _ => True) v35 (out.take x)) ∧ Aside0 (Kd.R (Kd.int .i64) 3 w' W0_.heap.size (fun _ => True) (.slice A40 ([v] : List Int).length c40) [v]) ∧ Aside0 (Below W0_.heap.size W0_ w')) ?_ ?_
            rotate_left
            · intro hCont
              refine two_ (i := 0) (j := 9) (Ni := some 31) (Nj := some 40) #[true, true, true, true, false, true, true, true, true, false, false, true, true, true, false, false] #[false, true, true, true, false, true, true, true, true, true, false, true, true, true, false, false] rfl rfl rfl rfl (by kernel_rfl) (by decide) (by decide) (fun K hK => ?_) (fun K hK => ?_)
              · skip
                refine Kd.R_lit_step (Kd.int .i64) W0_.heap.size 3 ?hg (N := 31) ?hd (xs := ([] : List Int)) (inner := []) (ok := fun _ => True) (okp := fun _ => True) ?hr ?hp (fun _ hk => hk) trivial HB2.out (below_size HB2.out) (by simp) ?_; (case hd => rfl); (case hg => rfl); (case hr => first | (go_simp; done) | (go_simp; rfl)); (case hp => exact (Reps.none _ _))
                intro v31 W1_ ho hb hg_ hnew_
                have HN := Aside0.mk ho
                clear HB2
                have HB2 := Aside0.mk hb
                clear hb hg_ hnew_ ho
                refine hK.out _ _ ((HB2.out.cell (World.block_lt_of_cell? _ _ hx1)).trans hx1) (fun hHeld => ?_)
                clear hK K
                refine norm_ (a' := ?_) ?_ ?_
                rotate_left
                · show Act.put _ (some 31) _ = _
                  simp only [Act.put, List.setIfInBounds_toArray, List.set_cons_zero, List.set_cons_succ, i64_w, i32_w]
                  rfl
                refine two_ (i := 4) (j := 9) (Ni := some 35) (Nj := some 40) #[true, true, true, true, true, true, true, true, true, false, false, true, true, true, false, false] #[true, true, true, true, false, true, true, true, true, true, false, true, true, true, false, false] rfl rfl rfl rfl (by kernel_rfl) (by decide) (by decide) (fun K hK => ?_) (fun K hK => ?_)
                · skip
                  refine Kd.R_append_rows_step (Kd.int .i64) (w0 := W0_) W0_.heap.size (by rfl) (.tmp 31) (.tmp 34) 53 3 (.int .i64 0) 8 rfl Try.underlying53 info3 rfl (by decide) (by omega) v31 [] (out.take x) (some ado_) x co (fun _ => True) (fun _ => False) rfl rfl HN.out (by have h_ := Kd.C_take (m := x) (Kd.C_below HRo.out HB2.out) HP.out; rw [List.length_take, Nat.min_eq_left HP.out] at h_; exact h_) (fun _ _ h => h) (fun _ h => h.elim) (fun _ _ => trivial) HB2.out (below_size HB2.out) (by have := HP.out; have := HLEN.out; simp only [List.length_append, List.length_take, List.length_drop, List.length_cons, List.length_nil]; omega) ?_
                  intro v35 W2_ ho hb hg_ hat_
                  rw [List.nil_append] at ho
                  clear HN
                  have HN := Aside0.mk ho
                  clear HB2
                  have HB2 := Aside0.mk hb
                  clear hb hg_ hat_ ho
                  refine hK.out _ _ ((HB2.out.cell (World.block_lt_of_cell? _ _ hx1)).trans hx1) (fun hHeld => ?_)
                  clear hK K
                  refine norm_ (a' := ?_) ?_ ?_
                  rotate_left
                  · show Act.put _ (some 35) _ = _
                    simp only [Act.put, List.setIfInBounds_toArray, List.set_cons_zero, List.set_cons_succ, i64_w, i32_w]
                    rfl
                  refine one_ (i := 9) (N := some 40) #[true, true, true, true, true, true, true, true, true, true, false, true, true, true, false, false] rfl rfl (by kernel_rfl) (by decide) (fun K hK => ?_)
                  refine Kd.R_lit_step (Kd.int .i64) W0_.heap.size 3 ?hg (N := 40) ?hd (xs := ([v] : List Int)) (inner := [.int .i64 v]) (ok := fun _ => True) (okp := fun _ => True) ?hr ?hp (fun _ hk => hk) trivial HB2.out (below_size HB2.out) (by simp) ?_; (case hd => rfl); (case hg => rfl); (case hr => first | (go_simp; done) | (go_simp; rfl)); (case hp => exact (Reps.one (show Kd.M (Kd.int .i64) _ _ _ v [.int .i64 v] from rfl) (Reps.none _ _)))
                  intro v40_ W3_ ho hb hg_ hnew_
                  obtain ⟨A40, c40, e40_⟩ := Kd.R_slice ho
                  subst e40_
                  have HL := Aside0.mk ho
                  have m_ := Aside0.mk (Kd.R_grown HN.out hg_ (fun _ _ h_ => nomatch h_))
                  clear HN
                  have HN := m_
                  clear m_
                  clear HB2
                  have HB2 := Aside0.mk hb
                  clear hb hg_ hnew_ ho
                  refine hK.out _ _ ((HB2.out.cell (World.block_lt_of_cell? _ _ hx1)).trans hx1) (fun hHeld => ?_)
                  clear hK K
                  refine norm_ (a' := ?_) ?_ ?_
                  rotate_left
                  · show Act.put _ (some 40) _ = _
                    simp only [Act.put, List.setIfInBounds_toArray, List.set_cons_zero, List.set_cons_succ, i64_w, i32_w]
                    rfl
                  exact norm_ (by simp only [putAll, Act.put, List.setIfInBounds_toArray, List.set_cons_zero, List.set_cons_succ]) (hCont (v31, v35, A40, c40) _ ⟨HN, HL, HB2⟩)
                · skip
                  refine Kd.R_lit_step (Kd.int .i64) W0_.heap.size 3 ?hg (N := 40) ?hd (xs := ([v] : List Int)) (inner := [.int .i64 v]) (ok := fun _ => True) (okp := fun _ => True) ?hr ?hp (fun _ hk => hk) trivial HB2.out (below_size HB2.out) (by simp) ?_; (case hd => rfl); (case hg => rfl); (case hr => first | (go_simp; done) | (go_simp; rfl)); (case hp => exact (Reps.one (show Kd.M (Kd.int .i64) _ _ _ v [.int .i64 v] from rfl) (Reps.none _ _)))
                  intro v40_ W2_ ho hb hg_ hnew_
                  obtain ⟨A40, c40, e40_⟩ := Kd.R_slice ho
                  subst e40_
                  have HL := Aside0.mk ho
                  have NE_ := Aside0.mk (show v31.ownBlock ≠ (Value.slice A40 ([v] : List Int).length c40).ownBlock by obtain ⟨b_, hb1_, hb2_⟩ := hnew_; intro e_; rw [hb1_] at e_; have := Kd.R_lt HN.out b_ e_; omega)
                  have m_ := Aside0.mk (Kd.R_grown HN.out hg_ (fun _ _ h_ => nomatch h_))
                  clear HN
                  have HN := m_
                  clear m_
                  clear HB2
                  have HB2 := Aside0.mk hb
                  clear hb hg_ hnew_ ho
                  refine hK.out _ _ ((HB2.out.cell (World.block_lt_of_cell? _ _ hx1)).trans hx1) (fun hHeld => ?_)
                  clear hK K
                  refine norm_ (a' := ?_) ?_ ?_
                  rotate_left
                  · show Act.put _ (some 40) _ = _
                    simp only [Act.put, List.setIfInBounds_toArray, List.set_cons_zero, List.set_cons_succ, i64_w, i32_w]
                    rfl
                  refine one_ (i := 4) (N := some 35) #[true, true, true, true, true, true, true, true, true, true, false, true, true, true, false, false] rfl rfl (by kernel_rfl) (by decide) (fun K hK => ?_)
                  refine Kd.R_append_rows_step (Kd.int .i64) (w0 := W0_) W0_.heap.size (by rfl) (.tmp 31) (.tmp 34) 53 3 (.int .i64 0) 8 rfl Try.underlying53 info3 rfl (by decide) (by omega) v31 [] (out.take x) (some ado_) x co (fun _ => True) (fun _ => False) rfl rfl HN.out (by have h_ := Kd.C_take (m := x) (Kd.C_below HRo.out HB2.out) HP.out; rw [List.length_take, Nat.min_eq_left HP.out] at h_; exact h_) (fun _ _ h => h) (fun _ h => h.elim) (fun _ _ => trivial) HB2.out (below_size HB2.out) (by have := HP.out; have := HLEN.out; simp only [List.length_append, List.length_take, List.length_drop, List.length_cons, List.length_nil]; omega) ?_
                  intro v35 W3_ ho hb hg_ hat_
                  rw [List.nil_append] at ho
                  have m_ := Aside0.mk (Kd.R_grown1 HL.out rfl hg_ NE_.out)
                  clear HL
                  have HL := m_
                  clear m_
                  clear NE_
                  clear HN
                  have HN := Aside0.mk ho
                  clear HB2
                  have HB2 := Aside0.mk hb
                  clear hb hg_ hat_ ho
                  refine hK.out _ _ ((HB2.out.cell (World.block_lt_of_cell? _ _ hx1)).trans hx1) (fun hHeld => ?_)
                  clear hK K
                  refine norm_ (a' := ?_) ?_ ?_
                  rotate_left
                  · show Act.put _ (some 35) _ = _
                    simp only [Act.put, List.setIfInBounds_toArray, List.set_cons_zero, List.set_cons_succ, i64_w, i32_w]
                    rfl
                  exact norm_ (by simp only [putAll, Act.put, List.setIfInBounds_toArray, List.set_cons_zero, List.set_cons_succ]) (hCont (v31, v35, A40, c40) _ ⟨HN, HL, HB2⟩)
              · skip
                refine Kd.R_lit_step (Kd.int .i64) W0_.heap.size 3 ?hg (N := 40) ?hd (xs := ([v] : List Int)) (inner := [.int .i64 v]) (ok := fun _ => True) (okp := fun _ => True) ?hr ?hp (fun _ hk => hk) trivial HB2.out (below_size HB2.out) (by simp) ?_; (case hd => rfl); (case hg => rfl); (case hr => first | (go_simp; done) | (go_simp; rfl)); (case hp => exact (Reps.one (show Kd.M (Kd.int .i64) _ _ _ v [.int .i64 v] from rfl) (Reps.none _ _)))
                intro v40_ W1_ ho hb hg_ hnew_
                obtain ⟨A40, c40, e40_⟩ := Kd.R_slice ho
                subst e40_
                have HL := Aside0.mk ho
                clear HB2
                have HB2 := Aside0.mk hb
                clear hb hg_ hnew_ ho
                refine hK.out _ _ ((HB2.out.cell (World.block_lt_of_cell? _ _ hx1)).trans hx1) (fun hHeld => ?_)
                clear hK K
                refine norm_ (a' := ?_) ?_ ?_
                rotate_left
                · show Act.put _ (some 40) _ = _
                  simp only [Act.put, List.setIfInBounds_toArray, List.set_cons_zero, List.set_cons_succ, i64_w, i32_w]
                  rfl
                refine one_ (i := 0) (N := some 31) #[true, true, true, true, false, true, true, true, true, true, false, true, true, true, false, false] rfl rfl (by kernel_rfl) (by decide) (fun K hK => ?_)
                refine Kd.R_lit_step (Kd.int .i64) W0_.heap.size 3 ?hg (N := 31) ?hd (xs := ([] : List Int)) (inner := []) (ok := fun _ => True) (okp := fun _ => True) ?hr ?hp (fun _ hk => hk) trivial HB2.out (below_size HB2.out) (by simp) ?_; (case hd => rfl); (case hg => rfl); (case hr => first | (go_simp; done) | (go_simp; rfl)); (case hp => exact (Reps.none _ _))
                intro v31 W2_ ho hb hg_ hnew_
                have HN := Aside0.mk ho
                have NE_ := Aside0.mk (show v31.ownBlock ≠ (Value.slice A40 ([v] : List Int).length c40).ownBlock by obtain ⟨b_, hb1_, hb2_⟩ := hnew_; intro e_; rw [hb1_] at e_; have := Kd.R_lt HL.out b_ e_.symm; omega)
                have m_ := Aside0.mk (Kd.R_grown HL.out hg_ (fun _ _ h_ => nomatch h_))
                clear HL
                have HL := m_
                clear m_
                clear HB2
                have HB2 := Aside0.mk hb
                clear hb hg_ hnew_ ho
                refine hK.out _ _ ((HB2.out.cell (World.block_lt_of_cell? _ _ hx1)).trans hx1) (fun hHeld => ?_)
                clear hK K
                refine norm_ (a' := ?_) ?_ ?_
                rotate_left
                · show Act.put _ (some 31) _ = _
                  simp only [Act.put, List.setIfInBounds_toArray, List.set_cons_zero, List.set_cons_succ, i64_w, i32_w]
                  rfl
                refine one_ (i := 4) (N := some 35) #[true, true, true, true, true, true, true, true, true, true, false, true, true, true, false, false] rfl rfl (by kernel_rfl) (by decide) (fun K hK => ?_)
                refine Kd.R_append_rows_step (Kd.int .i64) (w0 := W0_) W0_.heap.size (by rfl) (.tmp 31) (.tmp 34) 53 3 (.int .i64 0) 8 rfl Try.underlying53 info3 rfl (by decide) (by omega) v31 [] (out.take x) (some ado_) x co (fun _ => True) (fun _ => False) rfl rfl HN.out (by have h_ := Kd.C_take (m := x) (Kd.C_below HRo.out HB2.out) HP.out; rw [List.length_take, Nat.min_eq_left HP.out] at h_; exact h_) (fun _ _ h => h) (fun _ h => h.elim) (fun _ _ => trivial) HB2.out (below_size HB2.out) (by have := HP.out; have := HLEN.out; simp only [List.length_append, List.length_take, List.length_drop, List.length_cons, List.length_nil]; omega) ?_
                intro v35 W3_ ho hb hg_ hat_
                rw [List.nil_append] at ho
                have m_ := Aside0.mk (Kd.R_grown1 HL.out rfl hg_ NE_.out)
                clear HL
                have HL := m_
                clear m_
                clear NE_
                clear HN
                have HN := Aside0.mk ho
                clear HB2
                have HB2 := Aside0.mk hb
                clear hb hg_ hat_ ho
                refine hK.out _ _ ((HB2.out.cell (World.block_lt_of_cell? _ _ hx1)).trans hx1) (fun hHeld => ?_)
                clear hK K
                refine norm_ (a' := ?_) ?_ ?_
                rotate_left
                · show Act.put _ (some 35) _ = _
                  simp only [Act.put, List.setIfInBounds_toArray, List.set_cons_zero, List.set_cons_succ, i64_w, i32_w]
                  rfl
                exact norm_ (by simp only [putAll, Act.put, List.setIfInBounds_toArray, List.set_cons_zero, List.set_cons_succ]) (hCont (v31, v35, A40, c40) _ ⟨HN, HL, HB2⟩)
            clear HB2
            rintro ⟨v31, v35, A40, c40⟩ W4_ ⟨HN, HL, HB2⟩
            have hHeld : (fun w' => w'.cell? (adl_.add ii.toNat) = some (.int .i64 v)) W4_ := (HB2.out.cell (World.block_lt_of_cell? _ _ hx1)).trans hx1
            refine norm_ (a' := ?_) ?_ ?_
            rotate_left
            · simp only [putAll, Act.put, List.setIfInBounds_toArray, List.set_cons_zero, List.set_cons_succ]
              rfl
            refine one_ (i := 10) (N := some 41) #[true, true, true, true, true, true, true, true, true, true, true, true, true, true, false, false] rfl rfl (by kernel_rfl) (by decide) (fun K hK => ?_)
            refine Kd.R_append_rows_step (Kd.int .i64) (w0 := W0_) W0_.heap.size (by rfl) (.tmp 35) (.tmp 40) 53 3 (.int .i64 0) 8 rfl Try.underlying53 info3 rfl (by decide) (by omega) v35 (out.take x) [v] A40 ([v] : List Int).length c40 (fun _ => True) (fun _ => False) rfl rfl HN.out ((Kd.R_reads' HL.out).2.2) (fun _ _ h => h) (fun _ h => h.elim) (fun _ _ => trivial) HB2.out (below_size HB2.out) (by have := HP.out; have := HLEN.out; simp only [List.length_append, List.length_take, List.length_drop, List.length_cons, List.length_nil]; omega) ?_
            intro v41 W5_ ho hb hg_ hat_
            clear HN HL
            have HN := Aside0.mk ho
            clear HB2
            have HB2 := Aside0.mk hb
            clear hb hg_ hat_ ho
            refine hK.out _ _ ((HB2.out.cell (World.block_lt_of_cell? _ _ hx1)).trans hx1) (fun hHeld => ?_)
            clear hK K
            refine norm_ (a' := ?_) ?_ ?_
            rotate_left
            · show Act.put _ (some 41) _ = _
              simp only [Act.put, List.setIfInBounds_toArray, List.set_cons_zero, List.set_cons_succ, i64_w, i32_w]
              rfl
            refine one_ (i := 14) (N := some 45) #[true, true, true, true, true, true, true, true, true, true, true, true, true, true, true, false] rfl rfl (by kernel_rfl) (by decide) (fun K hK => ?_)
            refine Kd.R_append_rows_step (Kd.int .i64) (w0 := W0_) W0_.heap.size (by rfl) (.tmp 41) (.tmp 44) 53 3 (.int .i64 0) 8 rfl Try.underlying53 info3 rfl (by decide) (by omega) v41 (out.take x ++ [v]) (out.drop x) Ac_ (out.length - x) (co - x) (fun _ => True) (fun _ => False) rfl rfl HN.out (by have h_ := Kd.C_drop (m := x) (Kd.C_below HRo.out HB2.out) HP.out HCo.out; rw [List.length_drop, show x * (Kd.int .i64).sz = x from Nat.mul_one _] at h_; rw [← HAc.out]; exact h_) (fun _ _ h => h) (fun _ h => h.elim) (fun _ _ => trivial) HB2.out (below_size HB2.out) (by have := HP.out; have := HLEN.out; simp only [List.length_append, List.length_take, List.length_drop, List.length_cons, List.length_nil]; omega) ?_
            intro v45 W6_ ho hb hg_ hat_
            clear HN
            have HN := Aside0.mk ho
            clear HB2
            have HB2 := Aside0.mk hb
            clear hb hg_ hat_ ho
            refine hK.out _ _ ((HB2.out.cell (World.block_lt_of_cell? _ _ hx1)).trans hx1) (fun hHeld => ?_)
            clear hK K
            refine norm_ (a' := ?_) ?_ ?_
            rotate_left
            · show Act.put _ (some 45) _ = _
              simp only [Act.put, List.setIfInBounds_toArray, List.set_cons_zero, List.set_cons_succ, i64_w, i32_w]
              rfl
            refine pure_ (i := 15) (N := some 3) (v := ?_) (a' := ?_) #[true, true, true, true, true, true, true, true, true, true, true, true, true, true, true, true] rfl rfl (by kernel_rfl) (fun _ _ _ h => h) (Or.inl ⟨by rfl, ?_⟩) ?_ ?_
            rotate_left
            · intro w'
              go_simp
              first | done | with_reducible rfl
            rotate_left
            · simp only [Act.put, List.setIfInBounds_toArray, List.set_cons_zero, List.set_cons_succ, i64_w, i32_w]
              rfl
            refine done_ (by kernel_rfl) ?_
            have HO := Aside0.mk (Kd.R_lower HN.out (below_size HB.out))
            have m_ := Aside0.mk (below_step HB.out HB2.out)
            clear HB HN HB2 HRo hcut1 hcut2 hi0_ hsz0_
            have HB := m_
            clear m_
            have HO2 := Aside0.mk (show Kd.R (Kd.int .i64) 3 W6_ w.heap.size (fun _ => True) v45 (sortedL (l0.take (i + 1))) from by rw [HNX.out]; unfold putIn; rw [← HPOS.out]; exact HO.out)
            try go_wp2
            repeat (go_quiet (fail); try go_wp2)
            go_roundg (l0.length - (i + 1))
            case measure => have := HI.out; have := HCI.out; omega
            case rel => exact ⟨i + 1, _, rfl, HWI, ⟨by have := HCI.out; omega, by have := HI.out; omega⟩, HO2, HB⟩
    · have cb0 : decide (ii < (l0.length : Int)) = false := decide_eq_false (by have := HII.out; omega)
      have e_ : i = l0.length := by have := HI.out; omega
      go_wp2
      repeat (go_quiet (fail); try go_wp2)
      go_ret
      exact ⟨_, by first | rfl | (simp; done), by rw [e_, List.take_length] at HO; exact HO.out, HB.out⟩
end Go.Proofs.Ytolaplcjbmjlmaa.X


-- written by a program of this session (wip/ext.py) out of the translation. Not trusted: Lean checks it.
namespace Go.Proofs.Ytolaplcjbmjlmaa.X
open Go.RowKit Go.Proofs.YtolaplcjbmjlmaaW.PrintWords Go.Proofs.YtolaplcjbmjlmaaW.PrintLast Go.Proofs.YtolaplcjbmjlmaaW.PrintMore
attribute [local go_sem] max2_int min2_int max_two min_two max_three min_three max_four min_four   -- for this text's walks alone
set_option linter.unusedVariables false
set_option linter.unusedSimpArgs false

theorem putIn_mem {f : Int → Bool} {v j : Int} {out : List Int} (h : j ∈ putIn f v out) : j = v ∨ j ∈ out := by
  unfold putIn at h
  simp only [List.mem_append, List.mem_singleton] at h
  rcases h with (h | h) | h
  · exact .inr (List.mem_of_mem_take h)
  · exact .inl h
  · exact .inr (List.mem_of_mem_drop h)
def lessAt (all : List Int) (i j : Int) : Bool := decide (rd all j < rd all i)
def longL (all : List Int) (h : Int) : Nat → List Int
  | 0 => []
  | i + 1 => if rd all (i : Int) ≤ h then longL all h i else putIn (lessAt all (i : Int)) (i : Int) (longL all h i)
theorem longL_length (all : List Int) (h : Int) : ∀ i, (longL all h i).length ≤ i
  | 0 => Nat.le_refl _
  | i + 1 => by
    have := longL_length all h i
    unfold longL
    split
    · omega
    · rw [putIn_length]; omega
theorem longL_mem (all : List Int) (h : Int) : ∀ i : Nat, ∀ j ∈ longL all h i, 0 ≤ j ∧ j < (i : Int)
  | 0 => fun j hj => by cases hj
  | i + 1 => fun j hj => by
    have ih := longL_mem all h i
    unfold longL at hj
    split at hj
    · have := ih j hj; omega
    · rcases putIn_mem hj with rfl | hj
      · omega
      · have := ih j hj; omega
theorem rd_mem {l : List Int} {x : Nat} (h : x < l.length) : rd l (x : Int) ∈ l := by
  have : rd l (x : Int) = l[x] := by simp [rd, List.getD_eq_getElem?_getD, List.getElem?_eq_getElem h]
  rw [this]
  exact List.getElem_mem h
def spec_LongStays.f (k : Nat) (l0 : List S59) (a1 : Int) : Option (List Int × Bool) := (spec_l25Good.f k l0).bind fun g => if g = true then ((spec_l1In.f a1 0 240).bind fun z => if z = true then ((spec_l25Hours.f k l0).bind fun all => if all.length ≤ 1048576 then some (longL all a1 all.length, true) else none) else some ([], false)) else some ([], false)
theorem spec_LongStays.mono (l0 : List S59) (a1 : Int) (k : Nat) : LeO (spec_LongStays.f k l0 a1) (spec_LongStays.f (k + 1) l0 a1) := by
  unfold spec_LongStays.f
  refine LeO.bind (spec_l25Good.mono _ _) (fun _ => LeO.ite ?_ (LeO.refl _))
  refine LeO.bind (LeO.refl _) (fun _ => LeO.ite ?_ (LeO.refl _))
  exact LeO.bind (spec_l25Hours.mono _ _) (fun _ => LeO.refl _)
set_option maxHeartbeats 8000000 in
set_option maxRecDepth 100000 in
theorem spec_LongStays.calls (k : Nat) (A0 : Option Addr) (c0 : Nat) (l0 : List S59) (a1 : Int) (r1 : List Int) (r2 : Bool) (w : World) (hr0 : Kd.C k59 w A0 l0.length l0) (hc0 : l0.length ≤ c0) (h : spec_LongStays.f k l0 a1 = some (r1, r2)) :
    Calls Try.prog 40 #[.slice A0 l0.length c0, .int .i64 a1] w fun e w' => ∃ v0_ : Value, e = .returned (.tuple #[v0_, .bool r2]) ∧ Kd.R (Kd.int .i64) 3 w' w.heap.size (fun _ => True) v0_ r1 ∧ Below w.heap.size w w' := by
  have HR0 := Aside0.mk hr0
  have HC0 := Aside0.mk hc0
  clear hr0 hc0
  have HB := Aside0.mk (Below.refl w.heap.size w)
  unfold spec_LongStays.f at h
  replace h := Option.bind_eq_some_iff.mp h
  obtain ⟨g, a_, h⟩ := h
  have A1 := Aside0.mk a_
  clear a_
  cases g with
  | false =>
    rw [if_neg (by decide)] at h
    simp only [Option.some.injEq, Prod.mk.injEq] at h
    obtain ⟨rfl, rfl⟩ := h
    go_enter Try.func40, Try.ntmps40
    go_wp2_with (first | ((with_reducible refine gate_dst (N := 10) rfl ?_); refine Kd.R_lit (Kd.int .i64) _ 3 ?hg (N := 10) ?hd (xs := ([] : List Int)) (inner := []) (ok := fun _ => True) (okp := fun _ => True) ?hr ?hp (fun _ hk => hk) trivial HB.out (Nat.le_refl _) (by simp) ?_; (case hd => rfl); (case hg => rfl); (case hr => first | (go_simp; done) | (go_simp; rfl)); (case hp => exact (Reps.none _ _)); intro v6 w1 ho hb hg_ hnew_; have HO := Aside0.mk ho; clear HB; have HB := Aside0.mk hb; clear ho hb hg_ hnew_) | ((with_reducible refine gate_callee (f := 54) rfl ?_); (try (refine gate_guard (by rfl) ?_; dsimp only)); refine goesL_ (some 12) rfl rfl Try.func54 (by kernel_rfl) rfl #[.slice A0 l0.length c0] rfl (by (try simp only [List.map_toArray, List.map_cons, List.map_nil]); first | done | rfl | (simp only [List.length_drop, List.length_take]; rfl)) ?_; (with_reducible refine (spec_l25Good.calls k A0 c0 l0 false _ (Kd.C_below HR0.out HB.out) HC0.out A1.out).mono ?_); rintro e w2 ⟨rfl, hb⟩; refine ⟨_, rfl, ?_⟩; have m_ := Aside0.mk (Kd.R_below HO.out hb); clear HO; have HO := m_; clear m_; have m_ := Aside0.mk (below_step HB.out hb); clear HB; have HB := m_; clear m_; clear hb))
    repeat (go_quiet (fail); try go_wp2)
    go_ret2
    exact ⟨_, by first | rfl | (simp; done) | (simp [*]; done), HO.out, HB.out⟩
  | true =>
    rw [if_pos rfl] at h
    replace h := Option.bind_eq_some_iff.mp h
    obtain ⟨z, a_, h⟩ := h
    have A2 := Aside0.mk a_
    clear a_
    cases z with
    | false =>
      rw [if_neg (by decide)] at h
      simp only [Option.some.injEq, Prod.mk.injEq] at h
      obtain ⟨rfl, rfl⟩ := h
      go_enter Try.func40, Try.ntmps40
      go_wp2_with (first | ((with_reducible refine gate_dst (N := 10) rfl ?_); refine Kd.R_lit (Kd.int .i64) _ 3 ?hg (N := 10) ?hd (xs := ([] : List Int)) (inner := []) (ok := fun _ => True) (okp := fun _ => True) ?hr ?hp (fun _ hk => hk) trivial HB.out (Nat.le_refl _) (by simp) ?_; (case hd => rfl); (case hg => rfl); (case hr => first | (go_simp; done) | (go_simp; rfl)); (case hp => exact (Reps.none _ _)); intro v6 w1 ho hb hg_ hnew_; have HO := Aside0.mk ho; clear HB; have HB := Aside0.mk hb; clear ho hb hg_ hnew_) | ((with_reducible refine gate_callee (f := 54) rfl ?_); (try (refine gate_guard (by rfl) ?_; dsimp only)); refine goesL_ (some 12) rfl rfl Try.func54 (by kernel_rfl) rfl #[.slice A0 l0.length c0] rfl (by (try simp only [List.map_toArray, List.map_cons, List.map_nil]); first | done | rfl | (simp only [List.length_drop, List.length_take]; rfl)) ?_; (with_reducible refine (spec_l25Good.calls k A0 c0 l0 true _ (Kd.C_below HR0.out HB.out) HC0.out A1.out).mono ?_); rintro e w3 ⟨rfl, hb⟩; refine ⟨_, rfl, ?_⟩; have m_ := Aside0.mk (Kd.R_below HO.out hb); clear HO; have HO := m_; clear m_; have m_ := Aside0.mk (below_step HB.out hb); clear HB; have HB := m_; clear m_; clear hb) | ((with_reducible refine gate_callee (f := 52) rfl ?_); (try (refine gate_guard (by rfl) ?_; dsimp only)); refine goesL_ (some 16) rfl rfl Try.func52 (by kernel_rfl) rfl #[.int .i64 a1, .int .i64 0, .int .i64 240] rfl (by (try simp only [List.map_toArray, List.map_cons, List.map_nil]); first | done | rfl | (simp only [List.length_drop, List.length_take]; rfl)) ?_; (with_reducible refine (spec_l1In.calls a1 0 240 false _ A2.out).mono ?_); rintro e w4 ⟨rfl, hd_⟩; refine ⟨_, rfl, ?_⟩; have hb := Drawn0.below hd_; clear hd_; have m_ := Aside0.mk (Kd.R_below HO.out hb); clear HO; have HO := m_; clear m_; have m_ := Aside0.mk (below_step HB.out hb); clear HB; have HB := m_; clear m_; clear hb))
      repeat (go_quiet (fail); try go_wp2)
      go_ret2
      exact ⟨_, by first | rfl | (simp; done) | (simp [*]; done), HO.out, HB.out⟩
    | true =>
      rw [if_pos rfl] at h
      replace h := Option.bind_eq_some_iff.mp h
      obtain ⟨all, a_, h⟩ := h
      have A3 := Aside0.mk a_
      clear a_
      split at h
      rotate_left
      · cases h
      rename_i hl_
      have HL0 := Aside0.mk hl_
      clear hl_
      simp only [Option.some.injEq, Prod.mk.injEq] at h
      obtain ⟨rfl, rfl⟩ := h
      go_enter Try.func40, Try.ntmps40
      go_wp2_with (first | ((with_reducible refine gate_dst (N := 10) rfl ?_); refine Kd.R_lit (Kd.int .i64) _ 3 ?hg (N := 10) ?hd (xs := ([] : List Int)) (inner := []) (ok := fun _ => True) (okp := fun _ => True) ?hr ?hp (fun _ hk => hk) trivial HB.out (Nat.le_refl _) (by simp) ?_; (case hd => rfl); (case hg => rfl); (case hr => first | (go_simp; done) | (go_simp; rfl)); (case hp => exact (Reps.none _ _)); intro v6 w1 ho hb hg_ hnew_; have HO := Aside0.mk ho; clear HB; have HB := Aside0.mk hb; clear ho hb hg_ hnew_) | ((with_reducible refine gate_callee (f := 54) rfl ?_); (try (refine gate_guard (by rfl) ?_; dsimp only)); refine goesL_ (some 12) rfl rfl Try.func54 (by kernel_rfl) rfl #[.slice A0 l0.length c0] rfl (by (try simp only [List.map_toArray, List.map_cons, List.map_nil]); first | done | rfl | (simp only [List.length_drop, List.length_take]; rfl)) ?_; (with_reducible refine (spec_l25Good.calls k A0 c0 l0 true _ (Kd.C_below HR0.out HB.out) HC0.out A1.out).mono ?_); rintro e w5 ⟨rfl, hb⟩; refine ⟨_, rfl, ?_⟩; have m_ := Aside0.mk (Kd.R_below HO.out hb); clear HO; have HO := m_; clear m_; have m_ := Aside0.mk (below_step HB.out hb); clear HB; have HB := m_; clear m_; clear hb) | ((with_reducible refine gate_callee (f := 52) rfl ?_); (try (refine gate_guard (by rfl) ?_; dsimp only)); refine goesL_ (some 16) rfl rfl Try.func52 (by kernel_rfl) rfl #[.int .i64 a1, .int .i64 0, .int .i64 240] rfl (by (try simp only [List.map_toArray, List.map_cons, List.map_nil]); first | done | rfl | (simp only [List.length_drop, List.length_take]; rfl)) ?_; (with_reducible refine (spec_l1In.calls a1 0 240 true _ A2.out).mono ?_); rintro e w6 ⟨rfl, hd_⟩; refine ⟨_, rfl, ?_⟩; have hb := Drawn0.below hd_; clear hd_; have m_ := Aside0.mk (Kd.R_below HO.out hb); clear HO; have HO := m_; clear m_; have m_ := Aside0.mk (below_step HB.out hb); clear HB; have HB := m_; clear m_; clear hb) | ((with_reducible refine gate_callee (f := 63) rfl ?_); (try (refine gate_guard (by rfl) ?_; dsimp only)); refine goesL_ (some 21) rfl rfl Try.func63 (by kernel_rfl) rfl #[.slice A0 l0.length c0] rfl (by (try simp only [List.map_toArray, List.map_cons, List.map_nil]); first | done | rfl | (simp only [List.length_drop, List.length_take]; rfl)) ?_; (with_reducible refine (spec_l25Hours.calls k A0 c0 l0 all _ (Kd.C_below HR0.out HB.out) HC0.out A3.out).mono ?_); rintro e w1 ⟨v7, rfl, ho, hb⟩; refine ⟨_, rfl, ?_⟩; have HA := Aside0.mk (Kd.R_lower ho (below_size HB.out)); obtain ⟨Aa, ca, ea_⟩ := Kd.R_slice HA.out; subst ea_; clear ho; have m_ := Aside0.mk (Kd.R_below HO.out hb); clear HO; have HO := m_; clear m_; have m_ := Aside0.mk (below_step HB.out hb); clear HB; have HB := m_; clear m_; clear hb))
      repeat (go_quiet (fail); try go_wp2)
      go_loopg [6, 8] all.length (fun gg v6 v8 w' => ∃ (i : Nat) (ii : Int), v8 = .int .i64 ii ∧ Aside0 (ii = (i : Int)) ∧ Aside0 (i ≤ all.length ∧ all.length ≤ i + gg) ∧ Aside0 (Kd.R (Kd.int .i64) 3 w' w.heap.size (fun _ => True) v6 (longL all a1 i)) ∧ Aside0 (Kd.R (Kd.int .i64) 3 w' w.heap.size (fun _ => True) (.slice Aa all.length ca) all) ∧ Aside0 (Below w.heap.size w w'))
      case atStart => exact ⟨0, 0, rfl, ⟨rfl⟩, ⟨by omega, by omega⟩, HO, HA, HB⟩
      case round =>
        clear HO HA HB
        obtain ⟨i, ii, rfl, HII, HI, HO, HA, HB⟩ := hrel
        by_cases c : i < all.length
        · have cb0 : decide (ii < (all.length : Int)) = true := decide_eq_true (by have := HII.out; omega)
          have HNX := Aside0.mk (show longL all a1 (i + 1) = (if rd all ii ≤ a1 then longL all a1 i else putIn (lessAt all ii) ii (longL all a1 i)) by rw [HII.out]; rfl)
          have HLN := Aside0.mk (longL_length all a1 i)
          have HWI := Aside0.mk (show wrap64 (ii + 1) = ((i + 1 : Nat) : Int) by have := HL0.out; have := HII.out; unfold wrap64; omega)
          have HME := Aside0.mk (longL_mem all a1 i)
          have HCI := Aside0.mk c
          clear c
          obtain ⟨Ao, co, e3_⟩ := Kd.R_slice HO.out
          subst e3_
          generalize longL all a1 i = out at HO HNX HLN HME ⊢
          have HLEN := Aside0.mk (show out.length ≤ 1048576 by have := HLN.out; have := HI.out; have := HL0.out; omega)
          obtain ⟨ada_, el_, hx3⟩ := Kd.at_int (Kd.R_reads' HA.out).2.2 ii (by have := HII.out; omega) (by have := HCI.out; have := HII.out; omega)
          cases el_
          have pi_ : (0 ≤ ii) = True := eq_true (by have := HII.out; omega)
          have qi_ : (ii < (all.length : Int)) = True := eq_true (by have := HCI.out; have := HII.out; omega)
          by_cases cq0 : rd all ii ≤ a1
          · have cb1 : decide (rd all ii ≤ a1) = true := decide_eq_true cq0
            have HO2 := Aside0.mk (show Kd.R (Kd.int .i64) 3 wr w.heap.size (fun _ => True) (.slice Ao out.length co) (longL all a1 (i + 1)) from by rw [HNX.out, if_pos cq0]; exact HO.out)
            clear cq0
            go_wp2
            repeat (go_quiet (fail); try go_wp2)
            go_roundg (all.length - (i + 1))
            case measure => have := HI.out; have := HCI.out; omega
            case rel => exact ⟨i + 1, _, rfl, HWI, ⟨by have := HCI.out; omega, by have := HI.out; omega⟩, HO2, HA, HB⟩
          · have cb1 : decide (rd all ii ≤ a1) = false := decide_eq_false cq0
            rw [if_neg cq0] at HNX
            clear cq0
            go_wp2
            repeat (go_quiet (fail); try go_wp2)
            clear hx3
            go_loopg [9] out.length (fun gg v9 w' => ∃ (x : Nat) (xi : Int), v9 = .int .i64 xi ∧ Aside0 (xi = (x : Int)) ∧ Aside0 (x ≤ out.length ∧ x ≤ gg) ∧ Aside0 (posIn (lessAt all ii) out x = posIn (lessAt all ii) out out.length) ∧ Aside0 (Kd.R (Kd.int .i64) 3 w' w.heap.size (fun _ => True) (.slice Ao out.length co) out) ∧ Aside0 (Kd.R (Kd.int .i64) 3 w' w.heap.size (fun _ => True) (.slice (some ada_) all.length ca) all) ∧ Aside0 (Below w.heap.size w w'))
            case atStart => exact ⟨out.length, _, rfl, ⟨rfl⟩, ⟨Nat.le_refl _, Nat.le_refl _⟩, ⟨rfl⟩, HO, HA, HB⟩
            case round =>
              clear HO HA HB
              obtain ⟨x, xi, rfl, HXI, HX, HPOS, HO, HA, HB⟩ := hrel
              by_cases hx0 : x = 0
              · have cz_ : decide (0 < xi) = false := decide_eq_false (by have := HXI.out; omega)
                have hp0_ : posIn (lessAt all ii) out x = x := by rw [hx0]; rfl
                replace HPOS := Aside0.mk (hp0_.symm.trans HPOS.out)
                clear hp0_ hx0
                try go_wp2
                have m_ := Aside0.mk (below_drew1 HB.out)
                clear HB
                have HB := m_
                clear m_
                have m_ := Aside0.mk (Kd.R_drew HO.out)
                clear HO
                have HO := m_
                clear m_
                have m_ := Aside0.mk (Kd.R_drew HA.out)
                clear HA
                have HA := m_
                clear m_
                refine start_ (n := 17) (S := fun w' => True) (ds := []) #[false, false, false, false, false, false, false, false, false, false, false, false, false, false, false, false, false] (by kernel_rfl) rfl rfl trivial (fun hHeld => ?_)
                generalize wr.drew = w7 at HB HO HA  hHeld ⊢
                refine pure_ (i := 0) (N := some 36) (v := ?_) (a' := ?_) #[true, false, false, false, false, false, false, false, false, false, false, false, false, false, false, false, false] rfl rfl (by kernel_rfl) (fun _ _ _ h => h) (Or.inl ⟨by rfl, ?_⟩) ?_ ?_
                rotate_left
                · intro w'
                  go_simp
                  first | done | with_reducible rfl
                rotate_left
                · simp only [Act.put, List.setIfInBounds_toArray, List.set_cons_zero, List.set_cons_succ, i64_w, i32_w]
                  rfl
                refine pure_ (i := 1) (N := some 37) (v := ?_) (a' := ?_) #[true, true, false, false, false, false, false, false, false, false, false, false, false, false, false, false, false] rfl rfl (by kernel_rfl) (fun _ _ _ h => h) (Or.inl ⟨by rfl, ?_⟩) ?_ ?_
                rotate_left
                · intro w'
                  go_simp
                  first | done | with_reducible rfl
                rotate_left
                · simp only [Act.put, List.setIfInBounds_toArray, List.set_cons_zero, List.set_cons_succ, i64_w, i32_w]
                  rfl
                refine pure_ (i := 2) (N := some 38) (v := ?_) (a' := ?_) #[true, true, true, false, false, false, false, false, false, false, false, false, false, false, false, false, false] rfl rfl (by kernel_rfl) (fun _ _ _ h => h) (Or.inl ⟨by rfl, ?_⟩) ?_ ?_
                rotate_left
                · intro w'
                  go_simp
                  first | done | with_reducible rfl
                rotate_left
                · simp only [Act.put, List.setIfInBounds_toArray, List.set_cons_zero, List.set_cons_succ, i64_w, i32_w]
                  rfl
                refine pure_ (i := 3) (N := some 39) (v := undef) (a' := ?_) #[true, true, true, true, false, false, false, false, false, false, false, false, false, false, false, false, false] rfl rfl (by kernel_rfl) (fun _ _ _ h => h) (Or.inr ⟨by rfl, rfl⟩) ?_ ?_
                rotate_left
                · simp only [Act.put, List.setIfInBounds_toArray, List.set_cons_zero, List.set_cons_succ, i64_w, i32_w]
                  rfl
                refine pure_ (i := 4) (N := some 40) (v := undef) (a' := ?_) #[true, true, true, true, true, false, false, false, false, false, false, false, false, false, false, false, false] rfl rfl (by kernel_rfl) (fun _ _ _ h => h) (Or.inr ⟨by rfl, rfl⟩) ?_ ?_
                rotate_left
                · simp only [Act.put, List.setIfInBounds_toArray, List.set_cons_zero, List.set_cons_succ, i64_w, i32_w]
                  rfl
                refine pure_ (i := 5) (N := some 41) (v := undef) (a' := ?_) #[true, true, true, true, true, true, false, false, false, false, false, false, false, false, false, false, false] rfl rfl (by kernel_rfl) (fun _ _ _ h => h) (Or.inr ⟨by rfl, rfl⟩) ?_ ?_
                rotate_left
                · simp only [Act.put, List.setIfInBounds_toArray, List.set_cons_zero, List.set_cons_succ, i64_w, i32_w]
                  rfl
                refine pure_ (i := 6) (N := some 42) (v := undef) (a' := ?_) #[true, true, true, true, true, true, true, false, false, false, false, false, false, false, false, false, false] rfl rfl (by kernel_rfl) (fun _ _ _ h => h) (Or.inr ⟨by rfl, rfl⟩) ?_ ?_
                rotate_left
                · simp only [Act.put, List.setIfInBounds_toArray, List.set_cons_zero, List.set_cons_succ, i64_w, i32_w]
                  rfl
                refine pure_ (i := 7) (N := some 43) (v := undef) (a' := ?_) #[true, true, true, true, true, true, true, true, false, false, false, false, false, false, false, false, false] rfl rfl (by kernel_rfl) (fun _ _ _ h => h) (Or.inr ⟨by rfl, rfl⟩) ?_ ?_
                rotate_left
                · simp only [Act.put, List.setIfInBounds_toArray, List.set_cons_zero, List.set_cons_succ, i64_w, i32_w]
                  rfl
                refine pure_ (i := 8) (N := some 44) (v := undef) (a' := ?_) #[true, true, true, true, true, true, true, true, true, false, false, false, false, false, false, false, false] rfl rfl (by kernel_rfl) (fun _ _ _ h => h) (Or.inr ⟨by rfl, rfl⟩) ?_ ?_
                rotate_left
                · simp only [Act.put, List.setIfInBounds_toArray, List.set_cons_zero, List.set_cons_succ, i64_w, i32_w]
                  rfl
                refine pure_ (i := 9) (N := some 45) (v := undef) (a' := ?_) #[true, true, true, true, true, true, true, true, true, true, false, false, false, false, false, false, false] rfl rfl (by kernel_rfl) (fun _ _ _ h => h) (Or.inr ⟨by rfl, rfl⟩) ?_ ?_
                rotate_left
                · simp only [Act.put, List.setIfInBounds_toArray, List.set_cons_zero, List.set_cons_succ, i64_w, i32_w]
                  rfl
                refine pure_ (i := 10) (N := some 46) (v := undef) (a' := ?_) #[true, true, true, true, true, true, true, true, true, true, true, false, false, false, false, false, false] rfl rfl (by kernel_rfl) (fun _ _ _ h => h) (Or.inr ⟨by rfl, rfl⟩) ?_ ?_
                rotate_left
                · simp only [Act.put, List.setIfInBounds_toArray, List.set_cons_zero, List.set_cons_succ, i64_w, i32_w]
                  rfl
                refine pure_ (i := 11) (N := some 47) (v := undef) (a' := ?_) #[true, true, true, true, true, true, true, true, true, true, true, true, false, false, false, false, false] rfl rfl (by kernel_rfl) (fun _ _ _ h => h) (Or.inr ⟨by rfl, rfl⟩) ?_ ?_
                rotate_left
                · simp only [Act.put, List.setIfInBounds_toArray, List.set_cons_zero, List.set_cons_succ, i64_w, i32_w]
                  rfl
                refine pure_ (i := 12) (N := some 48) (v := undef) (a' := ?_) #[true, true, true, true, true, true, true, true, true, true, true, true, true, false, false, false, false] rfl rfl (by kernel_rfl) (fun _ _ _ h => h) (Or.inr ⟨by rfl, rfl⟩) ?_ ?_
                rotate_left
                · simp only [Act.put, List.setIfInBounds_toArray, List.set_cons_zero, List.set_cons_succ, i64_w, i32_w]
                  rfl
                refine pure_ (i := 13) (N := some 49) (v := undef) (a' := ?_) #[true, true, true, true, true, true, true, true, true, true, true, true, true, true, false, false, false] rfl rfl (by kernel_rfl) (fun _ _ _ h => h) (Or.inr ⟨by rfl, rfl⟩) ?_ ?_
                rotate_left
                · simp only [Act.put, List.setIfInBounds_toArray, List.set_cons_zero, List.set_cons_succ, i64_w, i32_w]
                  rfl
                refine pure_ (i := 14) (N := some 50) (v := undef) (a' := ?_) #[true, true, true, true, true, true, true, true, true, true, true, true, true, true, true, false, false] rfl rfl (by kernel_rfl) (fun _ _ _ h => h) (Or.inr ⟨by rfl, rfl⟩) ?_ ?_
                rotate_left
                · simp only [Act.put, List.setIfInBounds_toArray, List.set_cons_zero, List.set_cons_succ, i64_w, i32_w]
                  rfl
                refine pure_ (i := 15) (N := some 51) (v := undef) (a' := ?_) #[true, true, true, true, true, true, true, true, true, true, true, true, true, true, true, true, false] rfl rfl (by kernel_rfl) (fun _ _ _ h => h) (Or.inr ⟨by rfl, rfl⟩) ?_ ?_
                rotate_left
                · simp only [Act.put, List.setIfInBounds_toArray, List.set_cons_zero, List.set_cons_succ, i64_w, i32_w]
                  rfl
                refine pure_ (i := 16) (N := some 52) (v := ?_) (a' := ?_) #[true, true, true, true, true, true, true, true, true, true, true, true, true, true, true, true, true] rfl rfl (by kernel_rfl) (fun _ _ _ h => h) (Or.inl ⟨by rfl, ?_⟩) ?_ ?_
                rotate_left
                · intro w'
                  go_simp
                  first | done | with_reducible rfl
                rotate_left
                · simp only [Act.put, List.setIfInBounds_toArray, List.set_cons_zero, List.set_cons_succ, i64_w, i32_w]
                  rfl
                refine done_ (by kernel_rfl) ?_
                try clear hHeld
                have HP := Aside0.mk (show x ≤ out.length from HX.out.1)
                try go_wp2
                have m_ := Aside0.mk (below_drew1 HB.out)
                clear HB
                have HB := m_
                clear m_
                have m_ := Aside0.mk (Kd.R_drew HO.out)
                clear HO
                have HO := m_
                clear m_
                have m_ := Aside0.mk (Kd.R_drew HA.out)
                clear HA
                have HA := m_
                clear m_
                obtain ⟨i0_, hi0_, _, hsz0_, _⟩ := info_parts info3
                have HCo := Aside0.mk (Kd.R_reads' HO.out).2.1
                have hcut1 := cut_to (P := Try.prog) 53 3 .i64 Try.underlying53 hi0_ Ao out.length co xi (by have := HXI.out; omega) (by have := HP.out; have := HXI.out; omega) HCo.out
                have hcut2 := cut_from (P := Try.prog) 53 3 .i64 Try.underlying53 hi0_ 1 hsz0_ Ao out.length co xi (by have := HXI.out; omega) (by have := HP.out; have := HXI.out; omega)
                have hxt_ : xi.toNat = x := by rw [HXI.out]; rfl
                simp only [hxt_, Nat.mul_one] at hcut1 hcut2
                clear hxt_
                obtain ⟨Ac_, hAc_⟩ : ∃ A_ : Option Addr, (if co = x then Ao else Ao.map (·.add x)) = A_ := ⟨_, rfl⟩
                first | rw [hAc_] at hcut2 | simp only [hAc_, Option.map_some] at hcut2
                have HAc := Aside0.mk hAc_
                clear hAc_
                refine start_ (n := 13) (S := fun w' => True) (ds := []) #[false, false, false, false, false, false, false, false, false, false, false, false, false] (by kernel_rfl) rfl rfl trivial (fun hHeld => ?_)
                generalize w7.drew = W0_ at HB HO HA hHeld ⊢
                have HRo := Aside0.mk (Kd.R_reads' HO.out).2.2
                have HB2 := Aside0.mk (Below.refl W0_.heap.size W0_)
                clear HO
                refine pure_ (i := 1) (N := some 56) (v := ?_) (a' := ?_) #[false, true, false, false, false, false, false, false, false, false, false, false, false] rfl rfl (by kernel_rfl) (fun _ _ _ h => h) (Or.inl ⟨by rfl, ?_⟩) ?_ ?_
                rotate_left
                · intro w'
                  go_simp
                  first | done | with_reducible rfl
                rotate_left
                · simp only [Act.put, List.setIfInBounds_toArray, List.set_cons_zero, List.set_cons_succ, i64_w, i32_w]
                  rfl
                refine pure_ (i := 2) (N := some 57) (v := ?_) (a' := ?_) #[false, true, true, false, false, false, false, false, false, false, false, false, false] rfl rfl (by kernel_rfl) (fun _ _ _ h => h) (Or.inl ⟨by rfl, ?_⟩) ?_ ?_
                rotate_left
                · intro w'
                  go_simp
                  first | done | with_reducible rfl
                rotate_left
                · simp only [Act.put, List.setIfInBounds_toArray, List.set_cons_zero, List.set_cons_succ, i64_w, i32_w]
                  rfl
                refine pure_ (i := 3) (N := some 58) (v := ?_) (a' := ?_) #[false, true, true, true, false, false, false, false, false, false, false, false, false] rfl rfl (by kernel_rfl) (fun _ _ _ h => h) (Or.inl ⟨by rfl, ?_⟩) ?_ ?_
                rotate_left
                · intro w'
                  go_simp
                  first | done | with_reducible rfl
                rotate_left
                · simp only [Act.put, List.setIfInBounds_toArray, List.set_cons_zero, List.set_cons_succ, i64_w, i32_w]
                  rfl
                refine pure_ (i := 5) (N := some 60) (v := ?_) (a' := ?_) #[false, true, true, true, false, true, false, false, false, false, false, false, false] rfl rfl (by kernel_rfl) (fun _ _ _ h => h) (Or.inl ⟨by rfl, ?_⟩) ?_ ?_
                rotate_left
                · intro w'
                  go_simp
                  first | done | with_reducible rfl
                rotate_left
                · simp only [Act.put, List.setIfInBounds_toArray, List.set_cons_zero, List.set_cons_succ, i64_w, i32_w]
                  rfl
                refine pure_ (i := 8) (N := some 63) (v := ?_) (a' := ?_) #[false, true, true, true, false, true, false, false, true, false, false, false, false] rfl rfl (by kernel_rfl) (fun _ _ _ h => h) (Or.inl ⟨by rfl, ?_⟩) ?_ ?_
                rotate_left
                · intro w'
                  go_simp
                  first | done | with_reducible rfl
                rotate_left
                · simp only [Act.put, List.setIfInBounds_toArray, List.set_cons_zero, List.set_cons_succ, i64_w, i32_w]
                  rfl
                refine pure_ (i := 9) (N := some 64) (v := ?_) (a' := ?_) #[false, true, true, true, false, true, false, false, true, true, false, false, false] rfl rfl (by kernel_rfl) (fun _ _ _ h => h) (Or.inl ⟨by rfl, ?_⟩) ?_ ?_
                rotate_left
                · intro w'
                  go_simp
                  first | done | with_reducible rfl
                rotate_left
                · simp only [Act.put, List.setIfInBounds_toArray, List.set_cons_zero, List.set_cons_succ, i64_w, i32_w]
                  rfl
                refine pure_ (i := 10) (N := some 65) (v := ?_) (a' := ?_) #[false, true, true, true, false, true, false, false, true, true, true, false, false] rfl rfl (by kernel_rfl) (fun _ _ _ h => h) (Or.inl ⟨by rfl, ?_⟩) ?_ ?_
                rotate_left
                · intro w'
                  go_simp
                  first | done | with_reducible rfl
                rotate_left
                · simp only [Act.put, List.setIfInBounds_toArray, List.set_cons_zero, List.set_cons_succ, i64_w, i32_w]
                  rfl
                refine join_ (σ := Value × Value × Option Addr × Nat) 3 #[true, true, true, true, true, true, true, false, true, true, true, false, false] (fun s => match s with | ⟨v31, v35, A40, c40⟩ => [(55, v31), (59, v35), (61, .slice A40 ([ii] : List Int).length c40)]) (fun s w' => match s with | ⟨v31, v35, A40, c40⟩ => Aside0 (Kd.R (Kd.int .i64) 3 w' W0_.heap.size (fun _ => True) v35 (out.take x)) ∧ Aside0 (Kd.R (Kd.int .i64) 3 w' W0_.heap.size (fun _ => True) (.slice A40 ([ii] : List Int).length c40) [ii]) ∧ Aside0 (Below W0_.heap.size W0_ w')) ?_ ?_
                rotate_left
                · intro hCont
                  refine two_ (i := 0) (j := 6) (Ni := some 55) (Nj := some 61) #[true, true, true, true, false, true, false, false, true, true, true, false, false] #[false, true, true, true, false, true, true, false, true, true, true, false, false] rfl rfl rfl rfl (by kernel_rfl) (by decide) (by decide) (fun K hK => ?_) (fun K hK => ?_)
                  · skip
                    refine Kd.R_lit_step (Kd.int .i64) W0_.heap.size 3 ?hg (N := 55) ?hd (xs := ([] : List Int)) (inner := []) (ok := fun _ => True) (okp := fun _ => True) ?hr ?hp (fun _ hk => hk) trivial HB2.out (below_size HB2.out) (by simp) ?_; (case hd => rfl); (case hg => rfl); (case hr => first | (go_simp; done) | (go_simp; rfl)); (case hp => exact (Reps.none _ _))
                    intro v31 W1_ ho hb hg_ hnew_
                    have HN := Aside0.mk ho
                    clear HB2
                    have HB2 := Aside0.mk hb
                    clear hb hg_ hnew_ ho
                    refine hK.out _ _ trivial (fun hHeld => ?_)
                    clear hK K
                    refine norm_ (a' := ?_) ?_ ?_
                    rotate_left
                    · show Act.put _ (some 55) _ = _
                      simp only [Act.put, List.setIfInBounds_toArray, List.set_cons_zero, List.set_cons_succ, i64_w, i32_w]
                      rfl
                    refine two_ (i := 4) (j := 6) (Ni := some 59) (Nj := some 61) #[true, true, true, true, true, true, false, false, true, true, true, false, false] #[true, true, true, true, false, true, true, false, true, true, true, false, false] rfl rfl rfl rfl (by kernel_rfl) (by decide) (by decide) (fun K hK => ?_) (fun K hK => ?_)
                    · skip
                      refine Kd.R_append_rows_step (Kd.int .i64) (w0 := W0_) W0_.heap.size (by rfl) (.tmp 55) (.tmp 58) 53 3 (.int .i64 0) 8 rfl Try.underlying53 info3 rfl (by decide) (by omega) v31 [] (out.take x) Ao x co (fun _ => True) (fun _ => False) rfl rfl HN.out (by have h_ := Kd.C_take (m := x) (Kd.C_below HRo.out HB2.out) HP.out; rw [List.length_take, Nat.min_eq_left HP.out] at h_; exact h_) (fun _ _ h => h) (fun _ h => h.elim) (fun _ _ => trivial) HB2.out (below_size HB2.out) (by have := HP.out; have := HLEN.out; simp only [List.length_append, List.length_take, List.length_drop, List.length_cons, List.length_nil]; omega) ?_
                      intro v35 W2_ ho hb hg_ hat_
                      rw [List.nil_append] at ho
                      clear HN
                      have HN := Aside0.mk ho
                      clear HB2
                      have HB2 := Aside0.mk hb
                      clear hb hg_ hat_ ho
                      refine hK.out _ _ trivial (fun hHeld => ?_)
                      clear hK K
                      refine norm_ (a' := ?_) ?_ ?_
                      rotate_left
                      · show Act.put _ (some 59) _ = _
                        simp only [Act.put, List.setIfInBounds_toArray, List.set_cons_zero, List.set_cons_succ, i64_w, i32_w]
                        rfl
                      refine one_ (i := 6) (N := some 61) #[true, true, true, true, true, true, true, false, true, true, true, false, false] rfl rfl (by kernel_rfl) (by decide) (fun K hK => ?_)
                      refine Kd.R_lit_step (Kd.int .i64) W0_.heap.size 3 ?hg (N := 61) ?hd (xs := ([ii] : List Int)) (inner := [.int .i64 ii]) (ok := fun _ => True) (okp := fun _ => True) ?hr ?hp (fun _ hk => hk) trivial HB2.out (below_size HB2.out) (by simp) ?_; (case hd => rfl); (case hg => rfl); (case hr => first | (go_simp; done) | (go_simp; rfl)); (case hp => exact (Reps.one (show Kd.M (Kd.int .i64) _ _ _ ii [.int .i64 ii] from rfl) (Reps.none _ _)))
                      intro v40_ W3_ ho hb hg_ hnew_
                      obtain ⟨A40, c40, e40_⟩ := Kd.R_slice ho
                      subst e40_
                      have HL := Aside0.mk ho
                      have m_ := Aside0.mk (Kd.R_grown HN.out hg_ (fun _ _ h_ => nomatch h_))
                      clear HN
                      have HN := m_
                      clear m_
                      clear HB2
                      have HB2 := Aside0.mk hb
                      clear hb hg_ hnew_ ho
                      refine hK.out _ _ trivial (fun hHeld => ?_)
                      clear hK K
                      refine norm_ (a' := ?_) ?_ ?_
                      rotate_left
                      · show Act.put _ (some 61) _ = _
                        simp only [Act.put, List.setIfInBounds_toArray, List.set_cons_zero, List.set_cons_succ, i64_w, i32_w]
                        rfl
                      exact norm_ (by simp only [putAll, Act.put, List.setIfInBounds_toArray, List.set_cons_zero, List.set_cons_succ]) (hCont (v31, v35, A40, c40) _ ⟨HN, HL, HB2⟩)
                    · skip
                      refine Kd.R_lit_step (Kd.int .i64) W0_.heap.size 3 ?hg (N := 61) ?hd (xs := ([ii] : List Int)) (inner := [.int .i64 ii]) (ok := fun _ => True) (okp := fun _ => True) ?hr ?hp (fun _ hk => hk) trivial HB2.out (below_size HB2.out) (by simp) ?_; (case hd => rfl); (case hg => rfl); (case hr => first | (go_simp; done) | (go_simp; rfl)); (case hp => exact (Reps.one (show Kd.M (Kd.int .i64) _ _ _ ii [.int .i64 ii] from rfl) (Reps.none _ _)))
                      intro v40_ W2_ ho hb hg_ hnew_
                      obtain ⟨A40, c40, e40_⟩ := Kd.R_slice ho
                      subst e40_
                      have HL := Aside0.mk ho
                      have NE_ := Aside0.mk (show v31.ownBlock ≠ (Value.slice A40 ([ii] : List Int).length c40).ownBlock by obtain ⟨b_, hb1_, hb2_⟩ := hnew_; intro e_; rw [hb1_] at e_; have := Kd.R_lt HN.out b_ e_; omega)
                      have m_ := Aside0.mk (Kd.R_grown HN.out hg_ (fun _ _ h_ => nomatch h_))
                      clear HN
                      have HN := m_
                      clear m_
                      clear HB2
                      have HB2 := Aside0.mk hb
                      clear hb hg_ hnew_ ho
                      refine hK.out _ _ trivial (fun hHeld => ?_)
                      clear hK K
                      refine norm_ (a' := ?_) ?_ ?_
                      rotate_left
                      · show Act.put _ (some 61) _ = _
                        simp only [Act.put, List.setIfInBounds_toArray, List.set_cons_zero, List.set_cons_succ, i64_w, i32_w]
                        rfl
                      refine one_ (i := 4) (N := some 59) #[true, true, true, true, true, true, true, false, true, true, true, false, false] rfl rfl (by kernel_rfl) (by decide) (fun K hK => ?_)
                      refine Kd.R_append_rows_step (Kd.int .i64) (w0 := W0_) W0_.heap.size (by rfl) (.tmp 55) (.tmp 58) 53 3 (.int .i64 0) 8 rfl Try.underlying53 info3 rfl (by decide) (by omega) v31 [] (out.take x) Ao x co (fun _ => True) (fun _ => False) rfl rfl HN.out (by have h_ := Kd.C_take (m := x) (Kd.C_below HRo.out HB2.out) HP.out; rw [List.length_take, Nat.min_eq_left HP.out] at h_; exact h_) (fun _ _ h => h) (fun _ h => h.elim) (fun _ _ => trivial) HB2.out (below_size HB2.out) (by have := HP.out; have := HLEN.out; simp only [List.length_append, List.length_take, List.length_drop, List.length_cons, List.length_nil]; omega) ?_
                      intro v35 W3_ ho hb hg_ hat_
                      rw [List.nil_append] at ho
                      have m_ := Aside0.mk (Kd.R_grown1 HL.out rfl hg_ NE_.out)
                      clear HL
                      have HL := m_
                      clear m_
                      clear NE_
                      clear HN
                      have HN := Aside0.mk ho
                      clear HB2
                      have HB2 := Aside0.mk hb
                      clear hb hg_ hat_ ho
                      refine hK.out _ _ trivial (fun hHeld => ?_)
                      clear hK K
                      refine norm_ (a' := ?_) ?_ ?_
                      rotate_left
                      · show Act.put _ (some 59) _ = _
                        simp only [Act.put, List.setIfInBounds_toArray, List.set_cons_zero, List.set_cons_succ, i64_w, i32_w]
                        rfl
                      exact norm_ (by simp only [putAll, Act.put, List.setIfInBounds_toArray, List.set_cons_zero, List.set_cons_succ]) (hCont (v31, v35, A40, c40) _ ⟨HN, HL, HB2⟩)
                  · skip
                    refine Kd.R_lit_step (Kd.int .i64) W0_.heap.size 3 ?hg (N := 61) ?hd (xs := ([ii] : List Int)) (inner := [.int .i64 ii]) (ok := fun _ => True) (okp := fun _ => True) ?hr ?hp (fun _ hk => hk) trivial HB2.out (below_size HB2.out) (by simp) ?_; (case hd => rfl); (case hg => rfl); (case hr => first | (go_simp; done) | (go_simp; rfl)); (case hp => exact (Reps.one (show Kd.M (Kd.int .i64) _ _ _ ii [.int .i64 ii] from rfl) (Reps.none _ _)))
                    intro v40_ W1_ ho hb hg_ hnew_
                    obtain ⟨A40, c40, e40_⟩ := Kd.R_slice ho
                    subst e40_
                    have HL := Aside0.mk ho
                    clear HB2
                    have HB2 := Aside0.mk hb
                    clear hb hg_ hnew_ ho
                    refine hK.out _ _ trivial (fun hHeld => ?_)
                    clear hK K
                    refine norm_ (a' := ?_) ?_ ?_
                    rotate_left
                    · show Act.put _ (some 61) _ = _
                      simp only [Act.put, List.setIfInBounds_toArray, List.set_cons_zero, List.set_cons_succ, i64_w, i32_w]
                      rfl
                    refine one_ (i := 0) (N := some 55) #[true, true, true, true, false, true, true, false, true, true, true, false, false] rfl rfl (by kernel_rfl) (by decide) (fun K hK => ?_)
                    refine Kd.R_lit_step (Kd.int .i64) W0_.heap.size 3 ?hg (N := 55) ?hd (xs := ([] : List Int)) (inner := []) (ok := fun _ => True) (okp := fun _ => True) ?hr ?hp (fun _ hk => hk) trivial HB2.out (below_size HB2.out) (by simp) ?_; (case hd => rfl); (case hg => rfl); (case hr => first | (go_simp; done) | (go_simp; rfl)); (case hp => exact (Reps.none _ _))
                    intro v31 W2_ ho hb hg_ hnew_
                    have HN := Aside0.mk ho
                    have NE_ := Aside0.mk (show v31.ownBlock ≠ (Value.slice A40 ([ii] : List Int).length c40).ownBlock by obtain ⟨b_, hb1_, hb2_⟩ := hnew_; intro e_; rw [hb1_] at e_; have := Kd.R_lt HL.out b_ e_.symm; omega)
                    have m_ := Aside0.mk (Kd.R_grown HL.out hg_ (fun _ _ h_ => nomatch h_))
                    clear HL
                    have HL := m_
                    clear m_
                    clear HB2
                    have HB2 := Aside0.mk hb
                    clear hb hg_ hnew_ ho
                    refine hK.out _ _ trivial (fun hHeld => ?_)
                    clear hK K
                    refine norm_ (a' := ?_) ?_ ?_
                    rotate_left
                    · show Act.put _ (some 55) _ = _
                      simp only [Act.put, List.setIfInBounds_toArray, List.set_cons_zero, List.set_cons_succ, i64_w, i32_w]
                      rfl
                    refine one_ (i := 4) (N := some 59) #[true, true, true, true, true, true, true, false, true, true, true, false, false] rfl rfl (by kernel_rfl) (by decide) (fun K hK => ?_)
                    refine Kd.R_append_rows_step (Kd.int .i64) (w0 := W0_) W0_.heap.size (by rfl) (.tmp 55) (.tmp 58) 53 3 (.int .i64 0) 8 rfl Try.underlying53 info3 rfl (by decide) (by omega) v31 [] (out.take x) Ao x co (fun _ => True) (fun _ => False) rfl rfl HN.out (by have h_ := Kd.C_take (m := x) (Kd.C_below HRo.out HB2.out) HP.out; rw [List.length_take, Nat.min_eq_left HP.out] at h_; exact h_) (fun _ _ h => h) (fun _ h => h.elim) (fun _ _ => trivial) HB2.out (below_size HB2.out) (by have := HP.out; have := HLEN.out; simp only [List.length_append, List.length_take, List.length_drop, List.length_cons, List.length_nil]; omega) ?_
                    intro v35 W3_ ho hb hg_ hat_
                    rw [List.nil_append] at ho
                    have m_ := Aside0.mk (Kd.R_grown1 HL.out rfl hg_ NE_.out)
                    clear HL
                    have HL := m_
                    clear m_
                    clear NE_
                    clear HN
                    have HN := Aside0.mk ho
                    clear HB2
                    have HB2 := Aside0.mk hb
                    clear hb hg_ hat_ ho
                    refine hK.out _ _ trivial (fun hHeld => ?_)
                    clear hK K
                    refine norm_ (a' := ?_) ?_ ?_
                    rotate_left
                    · show Act.put _ (some 59) _ = _
                      simp only [Act.put, List.setIfInBounds_toArray, List.set_cons_zero, List.set_cons_succ, i64_w, i32_w]
                      rfl
                    exact norm_ (by simp only [putAll, Act.put, List.setIfInBounds_toArray, List.set_cons_zero, List.set_cons_succ]) (hCont (v31, v35, A40, c40) _ ⟨HN, HL, HB2⟩)
                clear HB2
                rintro ⟨v31, v35, A40, c40⟩ W4_ ⟨HN, HL, HB2⟩
                have hHeld : (fun w' => True) W4_ := trivial
                refine norm_ (a' := ?_) ?_ ?_
                rotate_left
                · simp only [putAll, Act.put, List.setIfInBounds_toArray, List.set_cons_zero, List.set_cons_succ]
                  rfl
                refine one_ (i := 7) (N := some 62) #[true, true, true, true, true, true, true, true, true, true, true, false, false] rfl rfl (by kernel_rfl) (by decide) (fun K hK => ?_)
                refine Kd.R_append_rows_step (Kd.int .i64) (w0 := W0_) W0_.heap.size (by rfl) (.tmp 59) (.tmp 61) 53 3 (.int .i64 0) 8 rfl Try.underlying53 info3 rfl (by decide) (by omega) v35 (out.take x) [ii] A40 ([ii] : List Int).length c40 (fun _ => True) (fun _ => False) rfl rfl HN.out ((Kd.R_reads' HL.out).2.2) (fun _ _ h => h) (fun _ h => h.elim) (fun _ _ => trivial) HB2.out (below_size HB2.out) (by have := HP.out; have := HLEN.out; simp only [List.length_append, List.length_take, List.length_drop, List.length_cons, List.length_nil]; omega) ?_
                intro v41 W5_ ho hb hg_ hat_
                clear HN HL
                have HN := Aside0.mk ho
                clear HB2
                have HB2 := Aside0.mk hb
                clear hb hg_ hat_ ho
                refine hK.out _ _ trivial (fun hHeld => ?_)
                clear hK K
                refine norm_ (a' := ?_) ?_ ?_
                rotate_left
                · show Act.put _ (some 62) _ = _
                  simp only [Act.put, List.setIfInBounds_toArray, List.set_cons_zero, List.set_cons_succ, i64_w, i32_w]
                  rfl
                refine one_ (i := 11) (N := some 66) #[true, true, true, true, true, true, true, true, true, true, true, true, false] rfl rfl (by kernel_rfl) (by decide) (fun K hK => ?_)
                refine Kd.R_append_rows_step (Kd.int .i64) (w0 := W0_) W0_.heap.size (by rfl) (.tmp 62) (.tmp 65) 53 3 (.int .i64 0) 8 rfl Try.underlying53 info3 rfl (by decide) (by omega) v41 (out.take x ++ [ii]) (out.drop x) Ac_ (out.length - x) (co - x) (fun _ => True) (fun _ => False) rfl rfl HN.out (by have h_ := Kd.C_drop (m := x) (Kd.C_below HRo.out HB2.out) HP.out HCo.out; rw [List.length_drop, show x * (Kd.int .i64).sz = x from Nat.mul_one _] at h_; rw [← HAc.out]; exact h_) (fun _ _ h => h) (fun _ h => h.elim) (fun _ _ => trivial) HB2.out (below_size HB2.out) (by have := HP.out; have := HLEN.out; simp only [List.length_append, List.length_take, List.length_drop, List.length_cons, List.length_nil]; omega) ?_
                intro v45 W6_ ho hb hg_ hat_
                clear HN
                have HN := Aside0.mk ho
                clear HB2
                have HB2 := Aside0.mk hb
                clear hb hg_ hat_ ho
                refine hK.out _ _ trivial (fun hHeld => ?_)
                clear hK K
                refine norm_ (a' := ?_) ?_ ?_
                rotate_left
                · show Act.put _ (some 66) _ = _
                  simp only [Act.put, List.setIfInBounds_toArray, List.set_cons_zero, List.set_cons_succ, i64_w, i32_w]
                  rfl
                refine pure_ (i := 12) (N := some 6) (v := ?_) (a' := ?_) #[true, true, true, true, true, true, true, true, true, true, true, true, true] rfl rfl (by kernel_rfl) (fun _ _ _ h => h) (Or.inl ⟨by rfl, ?_⟩) ?_ ?_
                rotate_left
                · intro w'
                  go_simp
                  first | done | with_reducible rfl
                rotate_left
                · simp only [Act.put, List.setIfInBounds_toArray, List.set_cons_zero, List.set_cons_succ, i64_w, i32_w]
                  rfl
                refine done_ (by kernel_rfl) ?_
                have m_ := Aside0.mk (Kd.R_below HA.out HB2.out)
                clear HA
                have HA := m_
                clear m_
                have HO := Aside0.mk (Kd.R_lower HN.out (below_size HB.out))
                have m_ := Aside0.mk (below_step HB.out HB2.out)
                clear HB HN HB2 HRo hcut1 hcut2 hi0_ hsz0_
                have HB := m_
                clear m_
                have HO2 := Aside0.mk (show Kd.R (Kd.int .i64) 3 W6_ w.heap.size (fun _ => True) v45 (longL all a1 (i + 1)) from by rw [HNX.out]; unfold putIn; rw [← HPOS.out]; exact HO.out)
                try go_wp2
                repeat (go_quiet (fail); try go_wp2)
                go_roundg (all.length - (i + 1))
                case measure => have := HI.out; have := HCI.out; omega
                case rel => exact ⟨i + 1, _, rfl, HWI, ⟨by have := HCI.out; omega, by have := HI.out; omega⟩, HO2, HA, HB⟩
              · obtain ⟨y, hy⟩ : ∃ y, x = y + 1 := ⟨x - 1, by omega⟩
                obtain ⟨yi, hyi⟩ : ∃ yi : Int, yi = (y : Int) := ⟨_, rfl⟩
                have HYI := Aside0.mk hyi
                have hwx_ : wrap64 (xi - 1) = yi := by have := HX.out; have := HXI.out; have := HLEN.out; unfold wrap64; omega
                have hwxw_ : IntKind.i64.wrap (xi - 1) = yi := (i64_w _).trans hwx_
                have cz_ : decide (0 < xi) = true := decide_eq_true (by have := HXI.out; omega)
                have px_ : (0 ≤ yi) = True := eq_true (by omega)
                have qx_ : (yi < (out.length : Int)) = True := eq_true (by have := HX.out; omega)
                have hm_ := HME.out _ (rd_mem (l := out) (x := y) (by have := HX.out; omega))
                rw [← hyi] at hm_
                have HJ := Aside0.mk (show 0 ≤ rd out yi ∧ rd out yi < (all.length : Int) by have := HCI.out; have := HII.out; omega)
                clear hm_
                have pj_ : (0 ≤ rd out yi) = True := eq_true HJ.out.1
                have qj_ : (rd out yi < (all.length : Int)) = True := eq_true HJ.out.2
                by_cases cq : rd all (rd out yi) < rd all ii
                · have cl_ : decide (rd all (rd out yi) < rd all ii) = true := decide_eq_true cq
                  have hp_ : posIn (lessAt all ii) out x = posIn (lessAt all ii) out y := by
                    rw [hy]
                    rw [hyi] at cl_
                    show (if lessAt all ii (rd out (y : Int)) = true then posIn (lessAt all ii) out y else y + 1) = _
                    unfold lessAt
                    rw [cl_]
                    rfl
                  replace HPOS := Aside0.mk (hp_.symm.trans HPOS.out)
                  have HY := Aside0.mk hy
                  clear hp_ cq hx0 hy hyi
                  try go_wp2
                  have m_ := Aside0.mk (below_drew1 HB.out)
                  clear HB
                  have HB := m_
                  clear m_
                  have m_ := Aside0.mk (Kd.R_drew HO.out)
                  clear HO
                  have HO := m_
                  clear m_
                  have m_ := Aside0.mk (Kd.R_drew HA.out)
                  clear HA
                  have HA := m_
                  clear m_
                  obtain ⟨ado_, eo_, hx2⟩ := Kd.at_int (Kd.R_reads' HO.out).2.2 yi (by have := HYI.out; omega) (by have := HX.out; have := HY.out; have := HYI.out; omega)
                  cases eo_
                  obtain ⟨ada2_, ea_, hx3⟩ := Kd.at_int (Kd.R_reads' HA.out).2.2 ii (by have := HII.out; omega) (by have := HCI.out; have := HII.out; omega)
                  obtain rfl : ada_ = ada2_ := (by injection ea_)
                  obtain ⟨ada3_, ea_, hx1⟩ := Kd.at_int (Kd.R_reads' HA.out).2.2 (rd out yi) HJ.out.1 HJ.out.2
                  obtain rfl : ada_ = ada3_ := (by injection ea_)
                  refine start_ (n := 17) (S := fun w' => w'.cell? (ado_.add yi.toNat) = some (.int .i64 (rd out yi)) ∧ w'.cell? (ada_.add (rd out yi).toNat) = some (.int .i64 (rd all (rd out yi))) ∧ w'.cell? (ada_.add ii.toNat) = some (.int .i64 (rd all ii))) (ds := []) #[false, false, false, false, false, false, false, false, false, false, false, false, false, false, false, false, false] (by kernel_rfl) rfl rfl ⟨hx2, hx1, hx3⟩ (fun hHeld => ?_)
                  generalize wr.drew = w8 at HB HO HA hx2 hx1 hx3 hHeld ⊢
                  refine pure_ (i := 0) (N := some 36) (v := ?_) (a' := ?_) #[true, false, false, false, false, false, false, false, false, false, false, false, false, false, false, false, false] rfl rfl (by kernel_rfl) (fun _ _ _ h => h) (Or.inl ⟨by rfl, ?_⟩) ?_ ?_
                  rotate_left
                  · intro w'
                    go_simp
                    first | done | with_reducible rfl
                  rotate_left
                  · simp only [Act.put, List.setIfInBounds_toArray, List.set_cons_zero, List.set_cons_succ, i64_w, i32_w]
                    rfl
                  refine pure_ (i := 1) (N := some 37) (v := ?_) (a' := ?_) #[true, true, false, false, false, false, false, false, false, false, false, false, false, false, false, false, false] rfl rfl (by kernel_rfl) (fun _ _ _ h => h) (Or.inl ⟨by rfl, ?_⟩) ?_ ?_
                  rotate_left
                  · intro w'
                    go_simp
                    first | done | with_reducible rfl
                  rotate_left
                  · simp only [Act.put, List.setIfInBounds_toArray, List.set_cons_zero, List.set_cons_succ, i64_w, i32_w]
                    rfl
                  refine pure_ (i := 2) (N := some 38) (v := ?_) (a' := ?_) #[true, true, true, false, false, false, false, false, false, false, false, false, false, false, false, false, false] rfl rfl (by kernel_rfl) (fun _ _ _ h => h) (Or.inl ⟨by rfl, ?_⟩) ?_ ?_
                  rotate_left
                  · intro w'
                    go_simp
                    first | done | with_reducible rfl
                  rotate_left
                  · simp only [Act.put, List.setIfInBounds_toArray, List.set_cons_zero, List.set_cons_succ, i64_w, i32_w]
                    rfl
                  refine pure_ (i := 3) (N := some 39) (v := ?_) (a' := ?_) #[true, true, true, true, false, false, false, false, false, false, false, false, false, false, false, false, false] rfl rfl (by kernel_rfl) (fun _ _ _ h => h) (Or.inl ⟨by rfl, ?_⟩) ?_ ?_
                  rotate_left
                  · intro w'
                    go_simp
                    first | done | with_reducible rfl
                  rotate_left
                  · simp only [Act.put, List.setIfInBounds_toArray, List.set_cons_zero, List.set_cons_succ, i64_w, i32_w]
                    rfl
                  refine pure_ (i := 4) (N := some 40) (v := ?_) (a' := ?_) #[true, true, true, true, true, false, false, false, false, false, false, false, false, false, false, false, false] rfl rfl (by kernel_rfl) (fun _ _ _ h => h) (Or.inl ⟨by rfl, ?_⟩) ?_ ?_
                  rotate_left
                  · intro w'
                    go_simp
                    first | done | with_reducible rfl
                  rotate_left
                  · simp only [Act.put, List.setIfInBounds_toArray, List.set_cons_zero, List.set_cons_succ, i64_w, i32_w]
                    rfl
                  refine pure_ (i := 5) (N := some 41) (v := ?_) (a' := ?_) #[true, true, true, true, true, true, false, false, false, false, false, false, false, false, false, false, false] rfl rfl (by kernel_rfl) (fun _ _ _ h => h) (Or.inl ⟨by rfl, ?_⟩) ?_ ?_
                  rotate_left
                  · intro w'
                    go_simp
                    first | done | with_reducible rfl
                  rotate_left
                  · simp only [Act.put, List.setIfInBounds_toArray, List.set_cons_zero, List.set_cons_succ, i64_w, i32_w]
                    rfl
                  refine pure_ (i := 6) (N := some 42) (v := ?_) (a' := ?_) #[true, true, true, true, true, true, true, false, false, false, false, false, false, false, false, false, false] rfl rfl (by kernel_rfl) (fun _ _ _ h => h) (Or.inl ⟨by rfl, ?_⟩) ?_ ?_
                  rotate_left
                  · intro w'
                    go_simp
                    first | done | with_reducible rfl
                  rotate_left
                  · simp only [Act.put, List.setIfInBounds_toArray, List.set_cons_zero, List.set_cons_succ, i64_w, i32_w]
                    rfl
                  refine pure_ (i := 7) (N := some 43) (v := ?_) (a' := ?_) #[true, true, true, true, true, true, true, true, false, false, false, false, false, false, false, false, false] rfl rfl (by kernel_rfl) (fun _ _ _ h => h) (Or.inl ⟨by rfl, ?_⟩) ?_ ?_
                  rotate_left
                  · intro w'
                    go_simp
                    first | done | with_reducible rfl
                  rotate_left
                  · simp only [Act.put, List.setIfInBounds_toArray, List.set_cons_zero, List.set_cons_succ, i64_w, i32_w]
                    rfl
                  refine pure_ (i := 11) (N := some 47) (v := ?_) (a' := ?_) #[true, true, true, true, true, true, true, true, false, false, false, true, false, false, false, false, false] rfl rfl (by kernel_rfl) (fun _ _ _ h => h) (Or.inl ⟨by rfl, ?_⟩) ?_ ?_
                  rotate_left
                  · intro w'
                    go_simp
                    first | done | with_reducible rfl
                  rotate_left
                  · simp only [Act.put, List.setIfInBounds_toArray, List.set_cons_zero, List.set_cons_succ, i64_w, i32_w]
                    rfl
                  refine pure_ (i := 12) (N := some 48) (v := ?_) (a' := ?_) #[true, true, true, true, true, true, true, true, false, false, false, true, true, false, false, false, false] rfl rfl (by kernel_rfl) (fun _ _ _ h => h) (Or.inl ⟨by rfl, ?_⟩) ?_ ?_
                  rotate_left
                  · intro w'
                    go_simp
                    first | done | with_reducible rfl
                  rotate_left
                  · simp only [Act.put, List.setIfInBounds_toArray, List.set_cons_zero, List.set_cons_succ, i64_w, i32_w]
                    rfl
                  refine pure_ (i := 13) (N := some 49) (v := ?_) (a' := ?_) #[true, true, true, true, true, true, true, true, false, false, false, true, true, true, false, false, false] rfl rfl (by kernel_rfl) (fun _ _ _ h => h) (Or.inl ⟨by rfl, ?_⟩) ?_ ?_
                  rotate_left
                  · intro w'
                    go_simp
                    first | done | with_reducible rfl
                  rotate_left
                  · simp only [Act.put, List.setIfInBounds_toArray, List.set_cons_zero, List.set_cons_succ, i64_w, i32_w]
                    rfl
                  refine take_ (i := 8) (N := some 44) (v := ?_) (a' := ?_) #[true, true, true, true, true, true, true, true, true, false, false, true, true, true, false, false, false] rfl rfl (by kernel_rfl) (fun _ _ _ h => h) (Or.inl ⟨by rfl, ?_⟩) hHeld ?_ ?_
                  rotate_left
                  · rintro w' ⟨s0, s1, s2⟩
                    go_simp
                    first | done | with_reducible rfl
                  rotate_left
                  · simp only [Act.put, List.setIfInBounds_toArray, List.set_cons_zero, List.set_cons_succ, i64_w, i32_w]
                    rfl
                  refine pure_ (i := 9) (N := some 45) (v := ?_) (a' := ?_) #[true, true, true, true, true, true, true, true, true, true, false, true, true, true, false, false, false] rfl rfl (by kernel_rfl) (fun _ _ _ h => h) (Or.inl ⟨by rfl, ?_⟩) ?_ ?_
                  rotate_left
                  · intro w'
                    go_simp
                    first | done | with_reducible rfl
                  rotate_left
                  · simp only [Act.put, List.setIfInBounds_toArray, List.set_cons_zero, List.set_cons_succ, i64_w, i32_w]
                    rfl
                  refine take_ (i := 10) (N := some 46) (v := ?_) (a' := ?_) #[true, true, true, true, true, true, true, true, true, true, true, true, true, true, false, false, false] rfl rfl (by kernel_rfl) (fun _ _ _ h => h) (Or.inl ⟨by rfl, ?_⟩) hHeld ?_ ?_
                  rotate_left
                  · rintro w' ⟨s0, s1, s2⟩
                    go_simp
                    first | done | with_reducible rfl
                  rotate_left
                  · simp only [Act.put, List.setIfInBounds_toArray, List.set_cons_zero, List.set_cons_succ, i64_w, i32_w]
                    rfl
                  refine take_ (i := 14) (N := some 50) (v := ?_) (a' := ?_) #[true, true, true, true, true, true, true, true, true, true, true, true, true, true, true, false, false] rfl rfl (by kernel_rfl) (fun _ _ _ h => h) (Or.inl ⟨by rfl, ?_⟩) hHeld ?_ ?_
                  rotate_left
                  · rintro w' ⟨s0, s1, s2⟩
                    go_simp
                    first | done | with_reducible rfl
                  rotate_left
                  · simp only [Act.put, List.setIfInBounds_toArray, List.set_cons_zero, List.set_cons_succ, i64_w, i32_w]
                    rfl
                  refine pure_ (i := 15) (N := some 51) (v := ?_) (a' := ?_) #[true, true, true, true, true, true, true, true, true, true, true, true, true, true, true, true, false] rfl rfl (by kernel_rfl) (fun _ _ _ h => h) (Or.inl ⟨by rfl, ?_⟩) ?_ ?_
                  rotate_left
                  · intro w'
                    go_simp
                    first | done | with_reducible rfl
                  rotate_left
                  · simp only [Act.put, List.setIfInBounds_toArray, List.set_cons_zero, List.set_cons_succ, i64_w, i32_w]
                    rfl
                  refine pure_ (i := 16) (N := some 52) (v := ?_) (a' := ?_) #[true, true, true, true, true, true, true, true, true, true, true, true, true, true, true, true, true] rfl rfl (by kernel_rfl) (fun _ _ _ h => h) (Or.inl ⟨by rfl, ?_⟩) ?_ ?_
                  rotate_left
                  · intro w'
                    go_simp
                    first | done | with_reducible rfl
                  rotate_left
                  · simp only [Act.put, List.setIfInBounds_toArray, List.set_cons_zero, List.set_cons_succ, i64_w, i32_w]
                    rfl
                  refine done_ (by kernel_rfl) ?_
                  try clear hHeld
                  try go_wp2
                  repeat (go_quiet (fail); try go_wp2)
                  go_roundg y
                  case measure => have := HX.out; have := HY.out; omega
                  case rel => exact ⟨y, yi, by first | rfl | (rw [hwx_]; done) | (simp [hwx_]; done), HYI, ⟨by have := HX.out; have := HY.out; omega, Nat.le_refl _⟩, HPOS, HO, HA, HB⟩
                · have cl_ : decide (rd all (rd out yi) < rd all ii) = false := decide_eq_false cq
                  have hp_ : posIn (lessAt all ii) out x = x := by
                    rw [hy]
                    rw [hyi] at cl_
                    show (if lessAt all ii (rd out (y : Int)) = true then posIn (lessAt all ii) out y else y + 1) = _
                    unfold lessAt
                    rw [cl_]
                    rfl
                  replace HPOS := Aside0.mk (hp_.symm.trans HPOS.out)
                  have HY := Aside0.mk hy
                  clear hp_ cq hx0 hy hyi
                  try go_wp2
                  have m_ := Aside0.mk (below_drew1 HB.out)
                  clear HB
                  have HB := m_
                  clear m_
                  have m_ := Aside0.mk (Kd.R_drew HO.out)
                  clear HO
                  have HO := m_
                  clear m_
                  have m_ := Aside0.mk (Kd.R_drew HA.out)
                  clear HA
                  have HA := m_
                  clear m_
                  obtain ⟨ado_, eo_, hx2⟩ := Kd.at_int (Kd.R_reads' HO.out).2.2 yi (by have := HYI.out; omega) (by have := HX.out; have := HY.out; have := HYI.out; omega)
                  cases eo_
                  obtain ⟨ada2_, ea_, hx3⟩ := Kd.at_int (Kd.R_reads' HA.out).2.2 ii (by have := HII.out; omega) (by have := HCI.out; have := HII.out; omega)
                  obtain rfl : ada_ = ada2_ := (by injection ea_)
                  obtain ⟨ada3_, ea_, hx1⟩ := Kd.at_int (Kd.R_reads' HA.out).2.2 (rd out yi) HJ.out.1 HJ.out.2
                  obtain rfl : ada_ = ada3_ := (by injection ea_)
                  refine start_ (n := 17) (S := fun w' => w'.cell? (ado_.add yi.toNat) = some (.int .i64 (rd out yi)) ∧ w'.cell? (ada_.add (rd out yi).toNat) = some (.int .i64 (rd all (rd out yi))) ∧ w'.cell? (ada_.add ii.toNat) = some (.int .i64 (rd all ii))) (ds := []) #[false, false, false, false, false, false, false, false, false, false, false, false, false, false, false, false, false] (by kernel_rfl) rfl rfl ⟨hx2, hx1, hx3⟩ (fun hHeld => ?_)
                  generalize wr.drew = w9 at HB HO HA hx2 hx1 hx3 hHeld ⊢
                  refine pure_ (i := 0) (N := some 36) (v := ?_) (a' := ?_) #[true, false, false, false, false, false, false, false, false, false, false, false, false, false, false, false, false] rfl rfl (by kernel_rfl) (fun _ _ _ h => h) (Or.inl ⟨by rfl, ?_⟩) ?_ ?_
                  rotate_left
                  · intro w'
                    go_simp
                    first | done | with_reducible rfl
                  rotate_left
                  · simp only [Act.put, List.setIfInBounds_toArray, List.set_cons_zero, List.set_cons_succ, i64_w, i32_w]
                    rfl
                  refine pure_ (i := 1) (N := some 37) (v := ?_) (a' := ?_) #[true, true, false, false, false, false, false, false, false, false, false, false, false, false, false, false, false] rfl rfl (by kernel_rfl) (fun _ _ _ h => h) (Or.inl ⟨by rfl, ?_⟩) ?_ ?_
                  rotate_left
                  · intro w'
                    go_simp
                    first | done | with_reducible rfl
                  rotate_left
                  · simp only [Act.put, List.setIfInBounds_toArray, List.set_cons_zero, List.set_cons_succ, i64_w, i32_w]
                    rfl
                  refine pure_ (i := 2) (N := some 38) (v := ?_) (a' := ?_) #[true, true, true, false, false, false, false, false, false, false, false, false, false, false, false, false, false] rfl rfl (by kernel_rfl) (fun _ _ _ h => h) (Or.inl ⟨by rfl, ?_⟩) ?_ ?_
                  rotate_left
                  · intro w'
                    go_simp
                    first | done | with_reducible rfl
                  rotate_left
                  · simp only [Act.put, List.setIfInBounds_toArray, List.set_cons_zero, List.set_cons_succ, i64_w, i32_w]
                    rfl
                  refine pure_ (i := 3) (N := some 39) (v := ?_) (a' := ?_) #[true, true, true, true, false, false, false, false, false, false, false, false, false, false, false, false, false] rfl rfl (by kernel_rfl) (fun _ _ _ h => h) (Or.inl ⟨by rfl, ?_⟩) ?_ ?_
                  rotate_left
                  · intro w'
                    go_simp
                    first | done | with_reducible rfl
                  rotate_left
                  · simp only [Act.put, List.setIfInBounds_toArray, List.set_cons_zero, List.set_cons_succ, i64_w, i32_w]
                    rfl
                  refine pure_ (i := 4) (N := some 40) (v := ?_) (a' := ?_) #[true, true, true, true, true, false, false, false, false, false, false, false, false, false, false, false, false] rfl rfl (by kernel_rfl) (fun _ _ _ h => h) (Or.inl ⟨by rfl, ?_⟩) ?_ ?_
                  rotate_left
                  · intro w'
                    go_simp
                    first | done | with_reducible rfl
                  rotate_left
                  · simp only [Act.put, List.setIfInBounds_toArray, List.set_cons_zero, List.set_cons_succ, i64_w, i32_w]
                    rfl
                  refine pure_ (i := 5) (N := some 41) (v := ?_) (a' := ?_) #[true, true, true, true, true, true, false, false, false, false, false, false, false, false, false, false, false] rfl rfl (by kernel_rfl) (fun _ _ _ h => h) (Or.inl ⟨by rfl, ?_⟩) ?_ ?_
                  rotate_left
                  · intro w'
                    go_simp
                    first | done | with_reducible rfl
                  rotate_left
                  · simp only [Act.put, List.setIfInBounds_toArray, List.set_cons_zero, List.set_cons_succ, i64_w, i32_w]
                    rfl
                  refine pure_ (i := 6) (N := some 42) (v := ?_) (a' := ?_) #[true, true, true, true, true, true, true, false, false, false, false, false, false, false, false, false, false] rfl rfl (by kernel_rfl) (fun _ _ _ h => h) (Or.inl ⟨by rfl, ?_⟩) ?_ ?_
                  rotate_left
                  · intro w'
                    go_simp
                    first | done | with_reducible rfl
                  rotate_left
                  · simp only [Act.put, List.setIfInBounds_toArray, List.set_cons_zero, List.set_cons_succ, i64_w, i32_w]
                    rfl
                  refine pure_ (i := 7) (N := some 43) (v := ?_) (a' := ?_) #[true, true, true, true, true, true, true, true, false, false, false, false, false, false, false, false, false] rfl rfl (by kernel_rfl) (fun _ _ _ h => h) (Or.inl ⟨by rfl, ?_⟩) ?_ ?_
                  rotate_left
                  · intro w'
                    go_simp
                    first | done | with_reducible rfl
                  rotate_left
                  · simp only [Act.put, List.setIfInBounds_toArray, List.set_cons_zero, List.set_cons_succ, i64_w, i32_w]
                    rfl
                  refine pure_ (i := 11) (N := some 47) (v := ?_) (a' := ?_) #[true, true, true, true, true, true, true, true, false, false, false, true, false, false, false, false, false] rfl rfl (by kernel_rfl) (fun _ _ _ h => h) (Or.inl ⟨by rfl, ?_⟩) ?_ ?_
                  rotate_left
                  · intro w'
                    go_simp
                    first | done | with_reducible rfl
                  rotate_left
                  · simp only [Act.put, List.setIfInBounds_toArray, List.set_cons_zero, List.set_cons_succ, i64_w, i32_w]
                    rfl
                  refine pure_ (i := 12) (N := some 48) (v := ?_) (a' := ?_) #[true, true, true, true, true, true, true, true, false, false, false, true, true, false, false, false, false] rfl rfl (by kernel_rfl) (fun _ _ _ h => h) (Or.inl ⟨by rfl, ?_⟩) ?_ ?_
                  rotate_left
                  · intro w'
                    go_simp
                    first | done | with_reducible rfl
                  rotate_left
                  · simp only [Act.put, List.setIfInBounds_toArray, List.set_cons_zero, List.set_cons_succ, i64_w, i32_w]
                    rfl
                  refine pure_ (i := 13) (N := some 49) (v := ?_) (a' := ?_) #[true, true, true, true, true, true, true, true, false, false, false, true, true, true, false, false, false] rfl rfl (by kernel_rfl) (fun _ _ _ h => h) (Or.inl ⟨by rfl, ?_⟩) ?_ ?_
                  rotate_left
                  · intro w'
                    go_simp
                    first | done | with_reducible rfl
                  rotate_left
                  · simp only [Act.put, List.setIfInBounds_toArray, List.set_cons_zero, List.set_cons_succ, i64_w, i32_w]
                    rfl
                  refine take_ (i := 8) (N := some 44) (v := ?_) (a' := ?_) #[true, true, true, true, true, true, true, true, true, false, false, true, true, true, false, false, false] rfl rfl (by kernel_rfl) (fun _ _ _ h => h) (Or.inl ⟨by rfl, ?_⟩) hHeld ?_ ?_
                  rotate_left
                  · rintro w' ⟨s0, s1, s2⟩
                    go_simp
                    first | done | with_reducible rfl
                  rotate_left
                  · simp only [Act.put, List.setIfInBounds_toArray, List.set_cons_zero, List.set_cons_succ, i64_w, i32_w]
                    rfl
                  refine pure_ (i := 9) (N := some 45) (v := ?_) (a' := ?_) #[true, true, true, true, true, true, true, true, true, true, false, true, true, true, false, false, false] rfl rfl (by kernel_rfl) (fun _ _ _ h => h) (Or.inl ⟨by rfl, ?_⟩) ?_ ?_
                  rotate_left
                  · intro w'
                    go_simp
                    first | done | with_reducible rfl
                  rotate_left
                  · simp only [Act.put, List.setIfInBounds_toArray, List.set_cons_zero, List.set_cons_succ, i64_w, i32_w]
                    rfl
                  refine take_ (i := 10) (N := some 46) (v := ?_) (a' := ?_) #[true, true, true, true, true, true, true, true, true, true, true, true, true, true, false, false, false] rfl rfl (by kernel_rfl) (fun _ _ _ h => h) (Or.inl ⟨by rfl, ?_⟩) hHeld ?_ ?_
                  rotate_left
                  · rintro w' ⟨s0, s1, s2⟩
                    go_simp
                    first | done | with_reducible rfl
                  rotate_left
                  · simp only [Act.put, List.setIfInBounds_toArray, List.set_cons_zero, List.set_cons_succ, i64_w, i32_w]
                    rfl
                  refine take_ (i := 14) (N := some 50) (v := ?_) (a' := ?_) #[true, true, true, true, true, true, true, true, true, true, true, true, true, true, true, false, false] rfl rfl (by kernel_rfl) (fun _ _ _ h => h) (Or.inl ⟨by rfl, ?_⟩) hHeld ?_ ?_
                  rotate_left
                  · rintro w' ⟨s0, s1, s2⟩
                    go_simp
                    first | done | with_reducible rfl
                  rotate_left
                  · simp only [Act.put, List.setIfInBounds_toArray, List.set_cons_zero, List.set_cons_succ, i64_w, i32_w]
                    rfl
                  refine pure_ (i := 15) (N := some 51) (v := ?_) (a' := ?_) #[true, true, true, true, true, true, true, true, true, true, true, true, true, true, true, true, false] rfl rfl (by kernel_rfl) (fun _ _ _ h => h) (Or.inl ⟨by rfl, ?_⟩) ?_ ?_
                  rotate_left
                  · intro w'
                    go_simp
                    first | done | with_reducible rfl
                  rotate_left
                  · simp only [Act.put, List.setIfInBounds_toArray, List.set_cons_zero, List.set_cons_succ, i64_w, i32_w]
                    rfl
                  refine pure_ (i := 16) (N := some 52) (v := ?_) (a' := ?_) #[true, true, true, true, true, true, true, true, true, true, true, true, true, true, true, true, true] rfl rfl (by kernel_rfl) (fun _ _ _ h => h) (Or.inl ⟨by rfl, ?_⟩) ?_ ?_
                  rotate_left
                  · intro w'
                    go_simp
                    first | done | with_reducible rfl
                  rotate_left
                  · simp only [Act.put, List.setIfInBounds_toArray, List.set_cons_zero, List.set_cons_succ, i64_w, i32_w]
                    rfl
                  refine done_ (by kernel_rfl) ?_
                  try clear hHeld
                  have HP := Aside0.mk (show x ≤ out.length from HX.out.1)
                  try go_wp2
                  have m_ := Aside0.mk (below_drew1 HB.out)
                  clear HB
                  have HB := m_
                  clear m_
                  have m_ := Aside0.mk (Kd.R_drew HO.out)
                  clear HO
                  have HO := m_
                  clear m_
                  have m_ := Aside0.mk (Kd.R_drew HA.out)
                  clear HA
                  have HA := m_
                  clear m_
                  obtain ⟨i0_, hi0_, _, hsz0_, _⟩ := info_parts info3
                  have HCo := Aside0.mk (Kd.R_reads' HO.out).2.1
                  have hcut1 := cut_to (P := Try.prog) 53 3 .i64 Try.underlying53 hi0_ (some ado_) out.length co xi (by have := HXI.out; omega) (by have := HP.out; have := HXI.out; omega) HCo.out
                  have hcut2 := cut_from (P := Try.prog) 53 3 .i64 Try.underlying53 hi0_ 1 hsz0_ (some ado_) out.length co xi (by have := HXI.out; omega) (by have := HP.out; have := HXI.out; omega)
                  have hxt_ : xi.toNat = x := by rw [HXI.out]; rfl
                  simp only [hxt_, Nat.mul_one] at hcut1 hcut2
                  clear hxt_
                  obtain ⟨Ac_, hAc_⟩ : ∃ A_ : Option Addr, (if co = x then some ado_ else some (ado_.add x)) = A_ := ⟨_, rfl⟩
                  first | rw [hAc_] at hcut2 | simp only [hAc_, Option.map_some] at hcut2
                  have HAc := Aside0.mk hAc_
                  clear hAc_
                  refine start_ (n := 13) (S := fun w' => True) (ds := []) #[false, false, false, false, false, false, false, false, false, false, false, false, false] (by kernel_rfl) rfl rfl trivial (fun hHeld => ?_)
                  generalize w9.drew = W0_ at HB HO HA hHeld ⊢
                  have HRo := Aside0.mk (Kd.R_reads' HO.out).2.2
                  have HB2 := Aside0.mk (Below.refl W0_.heap.size W0_)
                  clear HO
                  refine pure_ (i := 1) (N := some 56) (v := ?_) (a' := ?_) #[false, true, false, false, false, false, false, false, false, false, false, false, false] rfl rfl (by kernel_rfl) (fun _ _ _ h => h) (Or.inl ⟨by rfl, ?_⟩) ?_ ?_
                  rotate_left
                  · intro w'
                    go_simp
                    first | done | with_reducible rfl
                  rotate_left
                  · simp only [Act.put, List.setIfInBounds_toArray, List.set_cons_zero, List.set_cons_succ, i64_w, i32_w]
                    rfl
                  refine pure_ (i := 2) (N := some 57) (v := ?_) (a' := ?_) #[false, true, true, false, false, false, false, false, false, false, false, false, false] rfl rfl (by kernel_rfl) (fun _ _ _ h => h) (Or.inl ⟨by rfl, ?_⟩) ?_ ?_
                  rotate_left
                  · intro w'
                    go_simp
                    first | done | with_reducible rfl
                  rotate_left
                  · simp only [Act.put, List.setIfInBounds_toArray, List.set_cons_zero, List.set_cons_succ, i64_w, i32_w]
                    rfl
                  refine pure_ (i := 3) (N := some 58) (v := ?_) (a' := ?_) #[false, true, true, true, false, false, false, false, false, false, false, false, false] rfl rfl (by kernel_rfl) (fun _ _ _ h => h) (Or.inl ⟨by rfl, ?_⟩) ?_ ?_
                  rotate_left
                  · intro w'
                    go_simp
                    first | done | with_reducible rfl
                  rotate_left
                  · simp only [Act.put, List.setIfInBounds_toArray, List.set_cons_zero, List.set_cons_succ, i64_w, i32_w]
                    rfl
                  refine pure_ (i := 5) (N := some 60) (v := ?_) (a' := ?_) #[false, true, true, true, false, true, false, false, false, false, false, false, false] rfl rfl (by kernel_rfl) (fun _ _ _ h => h) (Or.inl ⟨by rfl, ?_⟩) ?_ ?_
                  rotate_left
                  · intro w'
                    go_simp
                    first | done | with_reducible rfl
                  rotate_left
                  · simp only [Act.put, List.setIfInBounds_toArray, List.set_cons_zero, List.set_cons_succ, i64_w, i32_w]
                    rfl
                  refine pure_ (i := 8) (N := some 63) (v := ?_) (a' := ?_) #[false, true, true, true, false, true, false, false, true, false, false, false, false] rfl rfl (by kernel_rfl) (fun _ _ _ h => h) (Or.inl ⟨by rfl, ?_⟩) ?_ ?_
                  rotate_left
                  · intro w'
                    go_simp
                    first | done | with_reducible rfl
                  rotate_left
                  · simp only [Act.put, List.setIfInBounds_toArray, List.set_cons_zero, List.set_cons_succ, i64_w, i32_w]
                    rfl
                  refine pure_ (i := 9) (N := some 64) (v := ?_) (a' := ?_) #[false, true, true, true, false, true, false, false, true, true, false, false, false] rfl rfl (by kernel_rfl) (fun _ _ _ h => h) (Or.inl ⟨by rfl, ?_⟩) ?_ ?_
                  rotate_left
                  · intro w'
                    go_simp
                    first | done | with_reducible rfl
                  rotate_left
                  · simp only [Act.put, List.setIfInBounds_toArray, List.set_cons_zero, List.set_cons_succ, i64_w, i32_w]
                    rfl
                  refine pure_ (i := 10) (N := some 65) (v := ?_) (a' := ?_) #[false, true, true, true, false, true, false, false, true, true, true, false, false] rfl rfl (by kernel_rfl) (fun _ _ _ h => h) (Or.inl ⟨by rfl, ?_⟩) ?_ ?_
                  rotate_left
                  · intro w'
                    go_simp
                    first | done | with_reducible rfl
                  rotate_left
                  · simp only [Act.put, List.setIfInBounds_toArray, List.set_cons_zero, List.set_cons_succ, i64_w, i32_w]
                    rfl
                  refine join_ (σ := Value × Value × Option Addr × Nat) 3 #[true, true, true, true, true, true, true, false, true, true, true, false, false] (fun s => match s with | ⟨v31, v35, A40, c40⟩ => [(55, v31), (59, v35), (61, .slice A40 ([ii] : List Int).length c40)]) (fun s w' => match s with | ⟨v31, v35, A40, c40⟩ => Aside0 (Kd.R (Kd.int .i64) 3 w' W0_.heap.size (fun _ => True) v35 (out.take x)) ∧ Aside0 (Kd.R (Kd.int .i64) 3 w' W0_.heap.size (fun _ => True) (.slice A40 ([ii] : List Int).length c40) [ii]) ∧ Aside0 (Below W0_.heap.size W0_ w')) ?_ ?_
                  rotate_left
                  · intro hCont
                    refine two_ (i := 0) (j := 6) (Ni := some 55) (Nj := some 61) #[true, true, true, true, false, true, false, false, true, true, true, false, false] #[false, true, true, true, false, true, true, false, true, true, true, false, false] rfl rfl rfl rfl (by kernel_rfl) (by decide) (by decide) (fun K hK => ?_) (fun K hK => ?_)
                    · skip
                      refine Kd.R_lit_step (Kd.int .i64) W0_.heap.size 3 ?hg (N := 55) ?hd (xs := ([] : List Int)) (inner := []) (ok := fun _ => True) (okp := fun _ => True) ?hr ?hp (fun _ hk => hk) trivial HB2.out (below_size HB2.out) (by simp) ?_; (case hd => rfl); (case hg => rfl); (case hr => first | (go_simp; done) | (go_simp; rfl)); (case hp => exact (Reps.none _ _))
                      intro v31 W1_ ho hb hg_ hnew_
                      have HN := Aside0.mk ho
                      clear HB2
                      have HB2 := Aside0.mk hb
                      clear hb hg_ hnew_ ho
                      refine hK.out _ _ trivial (fun hHeld => ?_)
                      clear hK K
                      refine norm_ (a' := ?_) ?_ ?_
                      rotate_left
                      · show Act.put _ (some 55) _ = _
                        simp only [Act.put, List.setIfInBounds_toArray, List.set_cons_zero, List.set_cons_succ, i64_w, i32_w]
                        rfl
                      refine two_ (i := 4) (j := 6) (Ni := some 59) (Nj := some 61) #[true, true, true, true, true, true, false, false, true, true, true, false, false] #[true, true, true, true, false, true, true, false, true, true, true, false, false] rfl rfl rfl rfl (by kernel_rfl) (by decide) (by decide) (fun K hK => ?_) (fun K hK => ?_)
                      · skip
                        refine Kd.R_append_rows_step (Kd.int .i64) (w0 := W0_) W0_.heap.size (by rfl) (.tmp 55) (.tmp 58) 53 3 (.int .i64 0) 8 rfl Try.underlying53 info3 rfl (by decide) (by omega) v31 [] (out.take x) (some ado_) x co (fun _ => True) (fun _ => False) rfl rfl HN.out (by have h_ := Kd.C_take (m := x) (Kd.C_below HRo.out HB2.out) HP.out; rw [List.length_take, Nat.min_eq_left HP.out] at h_; exact h_) (fun _ _ h => h) (fun _ h => h.elim) (fun _ _ => trivial) HB2.out (below_size HB2.out) (by have := HP.out; have := HLEN.out; simp only [List.length_append, List.length_take, List.length_drop, List.length_cons, List.length_nil]; omega) ?_
                        intro v35 W2_ ho hb hg_ hat_
                        rw [List.nil_append] at ho
                        clear HN
                        have HN := Aside0.mk ho
                        clear HB2
                        have HB2 := Aside0.mk hb
                        clear hb hg_ hat_ ho
                        refine hK.out _ _ trivial (fun hHeld => ?_)
                        clear hK K
                        refine norm_ (a' := ?_) ?_ ?_
                        rotate_left
                        · show Act.put _ (some 59) _ = _
                          simp only [Act.put, List.setIfInBounds_toArray, List.set_cons_zero, List.set_cons_succ, i64_w, i32_w]
                          rfl
                        refine one_ (i := 6) (N := some 61) #[true, true, true, true, true, true, true, false, true, true, true, false, false] rfl rfl (by kernel_rfl) (by decide) (fun K hK => ?_)
                        refine Kd.R_lit_step (Kd.int .i64) W0_.heap.size 3 ?hg (N := 61) ?hd (xs := ([ii] : List Int)) (inner := [.int .i64 ii]) (ok := fun _ => True) (okp := fun _ => True) ?hr ?hp (fun _ hk => hk) trivial HB2.out (below_size HB2.out) (by simp) ?_; (case hd => rfl); (case hg => rfl); (case hr => first | (go_simp; done) | (go_simp; rfl)); (case hp => exact (Reps.one (show Kd.M (Kd.int .i64) _ _ _ ii [.int .i64 ii] from rfl) (Reps.none _ _)))
                        intro v40_ W3_ ho hb hg_ hnew_
                        obtain ⟨A40, c40, e40_⟩ := Kd.R_slice ho
                        subst e40_
                        have HL := Aside0.mk ho
                        have m_ := Aside0.mk (Kd.R_grown HN.out hg_ (fun _ _ h_ => nomatch h_))
                        clear HN
                        have HN := m_
                        clear m_
                        clear HB2
                        have HB2 := Aside0.mk hb
                        clear hb hg_ hnew_ ho
                        refine hK.out _ _ trivial (fun hHeld => ?_)
                        clear hK K
                        refine norm_ (a' := ?_) ?_ ?_
                        rotate_left
                        · show Act.put _ (some 61) _ = _
                          simp only [Act.put, List.setIfInBounds_toArray, List.set_cons_zero, List.set_cons_succ, i64_w, i32_w]
                          rfl
                        exact norm_ (by simp only [putAll, Act.put, List.setIfInBounds_toArray, List.set_cons_zero, List.set_cons_succ]) (hCont (v31, v35, A40, c40) _ ⟨HN, HL, HB2⟩)
                      · skip
                        refine Kd.R_lit_step (Kd.int .i64) W0_.heap.size 3 ?hg (N := 61) ?hd (xs := ([ii] : List Int)) (inner := [.int .i64 ii]) (ok := fun _ => True) (okp := fun _ => True) ?hr ?hp (fun _ hk => hk) trivial HB2.out (below_size HB2.out) (by simp) ?_; (case hd => rfl); (case hg => rfl); (case hr => first | (go_simp; done) | (go_simp; rfl)); (case hp => exact (Reps.one (show Kd.M (Kd.int .i64) _ _ _ ii [.int .i64 ii] from rfl) (Reps.none _ _)))
                        intro v40_ W2_ ho hb hg_ hnew_
                        obtain ⟨A40, c40, e40_⟩ := Kd.R_slice ho
                        subst e40_
                        have HL := Aside0.mk ho
                        have NE_ := Aside0.mk (show v31.ownBlock ≠ (Value.slice A40 ([ii] : List Int).length c40).ownBlock by obtain ⟨b_, hb1_, hb2_⟩ := hnew_; intro e_; rw [hb1_] at e_; have := Kd.R_lt HN.out b_ e_; omega)
                        have m_ := Aside0.mk (Kd.R_grown HN.out hg_ (fun _ _ h_ => nomatch h_))
                        clear HN
                        have HN := m_
                        clear m_
                        clear HB2
                        have HB2 := Aside0.mk hb
                        clear hb hg_ hnew_ ho
                        refine hK.out _ _ trivial (fun hHeld => ?_)
                        clear hK K
                        refine norm_ (a' := ?_) ?_ ?_
                        rotate_left
                        · show Act.put _ (some 61) _ = _
                          simp only [Act.put, List.setIfInBounds_toArray, List.set_cons_zero, List.set_cons_succ, i64_w, i32_w]
                          rfl
                        refine one_ (i := 4) (N := some 59) #[true, true, true, true, true, true, true, false, true, true, true, false, false] rfl rfl (by kernel_rfl) (by decide) (fun K hK => ?_)
                        refine Kd.R_append_rows_step (Kd.int .i64) (w0 := W0_) W0_.heap.size (by rfl) (.tmp 55) (.tmp 58) 53 3 (.int .i64 0) 8 rfl Try.underlying53 info3 rfl (by decide) (by omega) v31 [] (out.take x) (some ado_) x co (fun _ => True) (fun _ => False) rfl rfl HN.out (by have h_ := Kd.C_take (m := x) (Kd.C_below HRo.out HB2.out) HP.out; rw [List.length_take, Nat.min_eq_left HP.out] at h_; exact h_) (fun _ _ h => h) (fun _ h => h.elim) (fun _ _ => trivial) HB2.out (below_size HB2.out) (by have := HP.out; have := HLEN.out; simp only [List.length_append, List.length_take, List.length_drop, List.length_cons, List.length_nil]; omega) ?_
                        intro v35 W3_ ho hb hg_ hat_
                        rw [List.nil_append] at ho
                        have m_ := Aside0.mk (Kd.R_grown1 HL.out rfl hg_ NE_.out)
                        clear HL
                        have HL := m_
                        clear m_
                        clear NE_
                        clear HN
                        have HN := Aside0.mk ho
                        clear HB2
                        have HB2 := Aside0.mk hb
                        clear hb hg_ hat_ ho
                        refine hK.out _ _ trivial (fun hHeld => ?_)
                        clear hK K
                        refine norm_ (a' := ?_) ?_ ?_
                        rotate_left
                        · show Act.put _ (some 59) _ = _
                          simp only [Act.put, List.setIfInBounds_toArray, List.set_cons_zero, List.set_cons_succ, i64_w, i32_w]
                          rfl
                        exact norm_ (by simp only [putAll, Act.put, List.setIfInBounds_toArray, List.set_cons_zero, List.set_cons_succ]) (hCont (v31, v35, A40, c40) _ ⟨HN, HL, HB2⟩)
                    · skip
                      refine Kd.R_lit_step (Kd.int .i64) W0_.heap.size 3 ?hg (N := 61) ?hd (xs := ([ii] : List Int)) (inner := [.int .i64 ii]) (ok := fun _ => True) (okp := fun _ => True) ?hr ?hp (fun _ hk => hk) trivial HB2.out (below_size HB2.out) (by simp) ?_; (case hd => rfl); (case hg => rfl); (case hr => first | (go_simp; done) | (go_simp; rfl)); (case hp => exact (Reps.one (show Kd.M (Kd.int .i64) _ _ _ ii [.int .i64 ii] from rfl) (Reps.none _ _)))
                      intro v40_ W1_ ho hb hg_ hnew_
                      obtain ⟨A40, c40, e40_⟩ := Kd.R_slice ho
                      subst e40_
                      have HL := Aside0.mk ho
                      clear HB2
                      have HB2 := Aside0.mk hb
                      clear hb hg_ hnew_ ho
                      refine hK.out _ _ trivial (fun hHeld => ?_)
                      clear hK K
                      refine norm_ (a' := ?_) ?_ ?_
                      rotate_left
                      · show Act.put _ (some 61) _ = _
                        simp only [Act.put, List.setIfInBounds_toArray, List.set_cons_zero, List.set_cons_succ, i64_w, i32_w]
                        rfl
                      refine one_ (i := 0) (N := some 55) #[true, true, true, true, false, true, true, false, true, true, true, false, false] rfl rfl (by kernel_rfl) (by decide) (fun K hK => ?_)
                      refine Kd.R_lit_step (Kd.int .i64) W0_.heap.size 3 ?hg (N := 55) ?hd (xs := ([] : List Int)) (inner := []) (ok := fun _ => True) (okp := fun _ => True) ?hr ?hp (fun _ hk => hk) trivial HB2.out (below_size HB2.out) (by simp) ?_; (case hd => rfl); (case hg => rfl); (case hr => first | (go_simp; done) | (go_simp; rfl)); (case hp => exact (Reps.none _ _))
                      intro v31 W2_ ho hb hg_ hnew_
                      have HN := Aside0.mk ho
                      have NE_ := Aside0.mk (show v31.ownBlock ≠ (Value.slice A40 ([ii] : List Int).length c40).ownBlock by obtain ⟨b_, hb1_, hb2_⟩ := hnew_; intro e_; rw [hb1_] at e_; have := Kd.R_lt HL.out b_ e_.symm; omega)
                      have m_ := Aside0.mk (Kd.R_grown HL.out hg_ (fun _ _ h_ => nomatch h_))
                      clear HL
                      have HL := m_
                      clear m_
                      clear HB2
                      have HB2 := Aside0.mk hb
                      clear hb hg_ hnew_ ho
                      refine hK.out _ _ trivial (fun hHeld => ?_)
                      clear hK K
                      refine norm_ (a' := ?_) ?_ ?_
                      rotate_left
                      · show Act.put _ (some 55) _ = _
                        simp only [Act.put, List.setIfInBounds_toArray, List.set_cons_zero, List.set_cons_succ, i64_w, i32_w]
                        rfl
                      refine one_ (i := 4) (N := some 59) #[true, true, true, true, true, true, true, false, true, true, true, false, false] rfl rfl (by kernel_rfl) (by decide) (fun K hK => ?_)
                      refine Kd.R_append_rows_step (Kd.int .i64) (w0 := W0_) W0_.heap.size (by rfl) (.tmp 55) (.tmp 58) 53 3 (.int .i64 0) 8 rfl Try.underlying53 info3 rfl (by decide) (by omega) v31 [] (out.take x) (some ado_) x co (fun _ => True) (fun _ => False) rfl rfl HN.out (by have h_ := Kd.C_take (m := x) (Kd.C_below HRo.out HB2.out) HP.out; rw [List.length_take, Nat.min_eq_left HP.out] at h_; exact h_) (fun _ _ h => h) (fun _ h => h.elim) (fun _ _ => trivial) HB2.out (below_size HB2.out) (by have := HP.out; have := HLEN.out; simp only [List.length_append, List.length_take, List.length_drop, List.length_cons, List.length_nil]; omega) ?_
                      intro v35 W3_ ho hb hg_ hat_
                      rw [List.nil_append] at ho
                      have m_ := Aside0.mk (Kd.R_grown1 HL.out rfl hg_ NE_.out)
                      clear HL
                      have HL := m_
                      clear m_
                      clear NE_
                      clear HN
                      have HN := Aside0.mk ho
                      clear HB2
                      have HB2 := Aside0.mk hb
                      clear hb hg_ hat_ ho
                      refine hK.out _ _ trivial (fun hHeld => ?_)
                      clear hK K
                      refine norm_ (a' := ?_) ?_ ?_
                      rotate_left
                      · show Act.put _ (some 59) _ = _
                        simp only [Act.put, List.setIfInBounds_toArray, List.set_cons_zero, List.set_cons_succ, i64_w, i32_w]
                        rfl
                      exact norm_ (by simp only [putAll, Act.put, List.setIfInBounds_toArray, List.set_cons_zero, List.set_cons_succ]) (hCont (v31, v35, A40, c40) _ ⟨HN, HL, HB2⟩)
                  clear HB2
                  rintro ⟨v31, v35, A40, c40⟩ W4_ ⟨HN, HL, HB2⟩
                  have hHeld : (fun w' => True) W4_ := trivial
                  refine norm_ (a' := ?_) ?_ ?_
                  rotate_left
                  · simp only [putAll, Act.put, List.setIfInBounds_toArray, List.set_cons_zero, List.set_cons_succ]
                    rfl
                  refine one_ (i := 7) (N := some 62) #[true, true, true, true, true, true, true, true, true, true, true, false, false] rfl rfl (by kernel_rfl) (by decide) (fun K hK => ?_)
                  refine Kd.R_append_rows_step (Kd.int .i64) (w0 := W0_) W0_.heap.size (by rfl) (.tmp 59) (.tmp 61) 53 3 (.int .i64 0) 8 rfl Try.underlying53 info3 rfl (by decide) (by omega) v35 (out.take x) [ii] A40 ([ii] : List Int).length c40 (fun _ => True) (fun _ => False) rfl rfl HN.out ((Kd.R_reads' HL.out).2.2) (fun _ _ h => h) (fun _ h => h.elim) (fun _ _ => trivial) HB2.out (below_size HB2.out) (by have := HP.out; have := HLEN.out; simp only [List.length_append, List.length_take, List.length_drop, List.length_cons, List.length_nil]; omega) ?_
                  intro v41 W5_ ho hb hg_ hat_
                  clear HN HL
                  have HN := Aside0.mk ho
                  clear HB2
                  have HB2 := Aside0.mk hb
                  clear hb hg_ hat_ ho
                  refine hK.out _ _ trivial (fun hHeld => ?_)
                  clear hK K
                  refine norm_ (a' := ?_) ?_ ?_
                  rotate_left
                  · show Act.put _ (some 62) _ = _
                    simp only [Act.put, List.setIfInBounds_toArray, List.set_cons_zero, List.set_cons_succ, i64_w, i32_w]
                    rfl
                  refine one_ (i := 11) (N := some 66) #[true, true, true, true, true, true, true, true, true, true, true, true, false] rfl rfl (by kernel_rfl) (by decide) (fun K hK => ?_)
                  refine Kd.R_append_rows_step (Kd.int .i64) (w0 := W0_) W0_.heap.size (by rfl) (.tmp 62) (.tmp 65) 53 3 (.int .i64 0) 8 rfl Try.underlying53 info3 rfl (by decide) (by omega) v41 (out.take x ++ [ii]) (out.drop x) Ac_ (out.length - x) (co - x) (fun _ => True) (fun _ => False) rfl rfl HN.out (by have h_ := Kd.C_drop (m := x) (Kd.C_below HRo.out HB2.out) HP.out HCo.out; rw [List.length_drop, show x * (Kd.int .i64).sz = x from Nat.mul_one _] at h_; rw [← HAc.out]; exact h_) (fun _ _ h => h) (fun _ h => h.elim) (fun _ _ => trivial) HB2.out (below_size HB2.out) (by have := HP.out; have := HLEN.out; simp only [List.length_append, List.length_take, List.length_drop, List.length_cons, List.length_nil]; omega) ?_
                  intro v45 W6_ ho hb hg_ hat_
                  clear HN
                  have HN := Aside0.mk ho
                  clear HB2
                  have HB2 := Aside0.mk hb
                  clear hb hg_ hat_ ho
                  refine hK.out _ _ trivial (fun hHeld => ?_)
                  clear hK K
                  refine norm_ (a' := ?_) ?_ ?_
                  rotate_left
                  · show Act.put _ (some 66) _ = _
                    simp only [Act.put, List.setIfInBounds_toArray, List.set_cons_zero, List.set_cons_succ, i64_w, i32_w]
                    rfl
                  refine pure_ (i := 12) (N := some 6) (v := ?_) (a' := ?_) #[true, true, true, true, true, true, true, true, true, true, true, true, true] rfl rfl (by kernel_rfl) (fun _ _ _ h => h) (Or.inl ⟨by rfl, ?_⟩) ?_ ?_
                  rotate_left
                  · intro w'
                    go_simp
                    first | done | with_reducible rfl
                  rotate_left
                  · simp only [Act.put, List.setIfInBounds_toArray, List.set_cons_zero, List.set_cons_succ, i64_w, i32_w]
                    rfl
                  refine done_ (by kernel_rfl) ?_
                  have m_ := Aside0.mk (Kd.R_below HA.out HB2.out)
                  clear HA
                  have HA := m_
                  clear m_
                  have HO := Aside0.mk (Kd.R_lower HN.out (below_size HB.out))
                  have m_ := Aside0.mk (below_step HB.out HB2.out)
                  clear HB HN HB2 HRo hcut1 hcut2 hi0_ hsz0_
                  have HB := m_
                  clear m_
                  have HO2 := Aside0.mk (show Kd.R (Kd.int .i64) 3 W6_ w.heap.size (fun _ => True) v45 (longL all a1 (i + 1)) from by rw [HNX.out]; unfold putIn; rw [← HPOS.out]; exact HO.out)
                  try go_wp2
                  repeat (go_quiet (fail); try go_wp2)
                  go_roundg (all.length - (i + 1))
                  case measure => have := HI.out; have := HCI.out; omega
                  case rel => exact ⟨i + 1, _, rfl, HWI, ⟨by have := HCI.out; omega, by have := HI.out; omega⟩, HO2, HA, HB⟩
        · have cb0 : decide (ii < (all.length : Int)) = false := decide_eq_false (by have := HII.out; omega)
          have e_ : i = all.length := by have := HI.out; omega
          go_wp2
          repeat (go_quiet (fail); try go_wp2)
          go_ret2
          exact ⟨_, by first | rfl | (simp; done) | (simp [*]; done), by rw [e_] at HO; exact HO.out, HB.out⟩
end Go.Proofs.Ytolaplcjbmjlmaa.X


-- written by a program of this session (wip/ext.py) out of the translation. Not trusted: Lean checks it.
namespace Go.Proofs.Ytolaplcjbmjlmaa.X
open Go.RowKit Go.Proofs.YtolaplcjbmjlmaaW.PrintWords Go.Proofs.YtolaplcjbmjlmaaW.PrintLast Go.Proofs.YtolaplcjbmjlmaaW.PrintMore
attribute [local go_sem] max2_int min2_int max_two min_two max_three min_three max_four min_four   -- for this text's walks alone
set_option linter.unusedVariables false
set_option linter.unusedSimpArgs false

def impl_within.f (a0 : Int) (a1 : Int) (a2 : Int) : Option (Bool) := if a0 ≥ a1 then (some (decide (a0 ≤ a2))) else (some false)
set_option maxHeartbeats 8000000 in
set_option maxRecDepth 100000 in
theorem impl_within.calls (a0 : Int) (a1 : Int) (a2 : Int) (r : Bool) (w : World) (h : impl_within.f a0 a1 a2 = some r) :
    Calls Try.prog 53 #[.int .i64 a0, .int .i64 a1, .int .i64 a2] w fun e w' => e = .returned (.bool r) ∧ Drawn0 w w' := by
  have H : (if a0 ≥ a1 then (some (decide (a0 ≤ a2))) else (some false)) = some r := h
  clear h
  by_cases c4 : a0 ≥ a1
  · rw [if_pos c4] at H
    have c4b0 : decide (a1 ≤ a0) = true := decide_eq_true c4
    clear c4
    obtain rfl := Option.some.inj H
    go_enter Try.func53, Try.ntmps53
    go_wp2
    go_ret
    exact ⟨by first | rfl | (simp; done) | (simp [*]; done), by repeat (first | exact Drawn0.refl _ | apply Drawn0.step)⟩
  · rw [if_neg c4] at H
    have c4b0 : decide (a1 ≤ a0) = false := decide_eq_false c4
    clear c4
    obtain rfl := Option.some.inj H
    go_enter Try.func53, Try.ntmps53
    go_wp2
    go_ret
    exact ⟨by first | rfl | (simp; done) | (simp [*]; done), by repeat (first | exact Drawn0.refl _ | apply Drawn0.step)⟩

end Go.Proofs.Ytolaplcjbmjlmaa.X


-- written by a program of this session (wip/ext.py) out of the translation. Not trusted: Lean checks it.
namespace Go.Proofs.Ytolaplcjbmjlmaa.X
open Go.RowKit Go.Proofs.YtolaplcjbmjlmaaW.PrintWords Go.Proofs.YtolaplcjbmjlmaaW.PrintLast Go.Proofs.YtolaplcjbmjlmaaW.PrintMore
attribute [local go_sem] max2_int min2_int max_two min_two max_three min_three max_four min_four   -- for this text's walks alone
set_option linter.unusedVariables false
set_option linter.unusedSimpArgs false

/-- Where the first element is of which p holds; -1. -/
def idxP_stay (p : S59 → Bool) (l : List S59) : Int := match l.findIdx? p with | some i => (i : Int) | none => -1
theorem idxP_stay_hit (p : S59 → Bool) (l : List S59) (x : Int) (h0 : 0 ≤ x) (h1 : x < (l.length : Int)) (hm : ∀ j : Nat, (j : Int) < x → p (rd_T59 l (j : Int)) = false) (hp : p (rd_T59 l x) = true) : idxP_stay p l = x := by
  obtain ⟨n, rfl⟩ := Int.eq_ofNat_of_zero_le h0
  have hn : n < l.length := by omega
  have e : l.findIdx? p = some n := by
    rw [List.findIdx?_eq_some_iff_getElem]
    refine ⟨hn, ?_, ?_⟩
    · simpa [rd_T59, List.getD_eq_getElem?_getD, List.getElem?_eq_getElem hn] using hp
    · intro j hj
      have := hm j (by omega)
      have hjl : j < l.length := by omega
      simpa [rd_T59, List.getD_eq_getElem?_getD, List.getElem?_eq_getElem hjl] using this
  simp [idxP_stay, e]
theorem idxP_stay_miss (p : S59 → Bool) (l : List S59) (x : Int) (h1 : ¬ x < (l.length : Int)) (hm : ∀ j : Nat, (j : Int) < x → p (rd_T59 l (j : Int)) = false) : idxP_stay p l = -1 := by
  have e : l.findIdx? p = none := by
    rw [List.findIdx?_eq_none_iff]
    intro y hy
    obtain ⟨j, hj, rfl⟩ := List.getElem_of_mem hy
    have := hm j (by omega)
    simpa [rd_T59, List.getD_eq_getElem?_getD, List.getElem?_eq_getElem hj] using this
  simp [idxP_stay, e]
theorem idxP_stay_any (p : S59 → Bool) (l : List S59) : decide (0 ≤ idxP_stay p l) = l.any p := by
  unfold idxP_stay
  cases h : l.findIdx? p with
  | none =>
    rw [List.findIdx?_eq_none_iff] at h
    symm
    simp only [show ¬ (0 : Int) ≤ -1 by omega, decide_false, List.any_eq_false]
    intro y hy; simp [h y hy]
  | some i =>
    rw [List.findIdx?_eq_some_iff_getElem] at h
    obtain ⟨hi, hp, _⟩ := h
    symm
    simp only [show (0 : Int) ≤ (i : Int) by omega, decide_true, List.any_eq_true]
    exact ⟨_, List.getElem_mem hi, hp⟩
set_option maxHeartbeats 2000000 in
theorem slices_IndexFunc_stay.calls {p : S59 → Bool} {g : Nat} {lb : Array Value} (eg : ∀ args w, (callFunc g args).run Try.prog w = .ok (.enter g args) w) (A0 : Option Addr) (c0 : Nat) (l0 : List S59) (w : World) (hr0 : Kd.C k59 w A0 l0.length l0)
    (hp : ∀ (W : World) (x : S59), Below w.heap.size w W → Calls Try.prog g (#[.agg #[.int .i64 x.f0, .int .i64 x.f1, .int .i64 x.f2]] ++ lb) W fun e w' => e = .returned (.bool (p x)) ∧ Below w.heap.size w w') :
    Calls Try.prog 79 #[.slice A0 l0.length c0, .func (.func g) #[] lb] w fun e w' => e = .returned (.int .i64 (idxP_stay p l0)) ∧ Below w.heap.size w w' := by
  have hu59 := Try.underlying59
  have HR0 := Aside0.mk hr0
  clear hr0
  have hL : l0.length ≤ 9223372036854775807 := HR0.out.2.1
  have HP := Aside0.mk hp
  clear hp
  have HB := Aside0.mk (Below.refl w.heap.size w)
  go_enter Try.func79, Try.ntmps79
  go_wp2
  go_loopg [5, 8] l0.length (fun gg _ s8 w' => ∃ x : Int, s8 = .int .i64 x ∧ Aside0 (0 ≤ x ∧ x ≤ (l0.length : Int) ∧ (l0.length : Int) - x ≤ (gg : Int)) ∧ Aside0 (Below w.heap.size w w') ∧ Aside0 (∀ j : Nat, (j : Int) < x → p (rd_T59 l0 (j : Int)) = false))
  case atStart => exact ⟨0, rfl, ⟨by omega, by omega, by omega⟩, HB, ⟨fun j hj => by omega⟩⟩
  case round =>
    clear HB
    obtain ⟨x, rfl, HX, HB, HM⟩ := hrel
    by_cases c4 : x < (l0.length : Int)
    · have c4b0 : decide (x < (l0.length : Int)) = true := decide_eq_true c4
      have c5b0 : decide (0 ≤ x) = true := decide_eq_true HX.out.1
      have p151 : 0 ≤ x := HX.out.1
      have q151 := c4
      have hw : wrap64 (x + 1) = x + 1 := by have := HX.out.1; unfold wrap64; omega
      have Hw := Aside0.mk hw
      clear hw
      obtain ⟨ad151, e151, hx151_0, hx151_1, hx151_2⟩ := at_T59 HR0.out x p151 q151
      cases e151
      replace hx151_0 := (HB.out.cell (World.block_lt_of_cell? w _ hx151_0)).trans hx151_0
      replace hx151_1 := (HB.out.cell (World.block_lt_of_cell? w _ hx151_1)).trans hx151_1
      replace hx151_2 := (HB.out.cell (World.block_lt_of_cell? w _ hx151_2)).trans hx151_2
      have C4 := Aside0.mk c4
      clear c4
      replace p151 := eq_true p151
      replace q151 := eq_true q151
      have HC := Aside0.mk (HP.out wr (rd_T59 l0 x) HB.out)
      cases hq : p (rd_T59 l0 x) with
      | true =>
        rw [hq] at HC
        have HQ := Aside0.mk hq
        clear hq
        go_wp2_with (go_at_fn g; refine HC.out.mono ?_; rintro e w' ⟨rfl, hb'⟩)
        go_ret
        exact ⟨by rw [idxP_stay_hit p l0 x HX.out.1 C4.out HM.out HQ.out]; rfl, hb'⟩
      | false =>
        rw [hq] at HC
        have HQ := Aside0.mk hq
        clear hq
        go_wp2_with (go_at_fn g; refine HC.out.mono ?_; rintro e w' ⟨rfl, hb'⟩)
        have HB' := Aside0.mk hb'
        clear hb'
        go_roundg (l0.length - (x + 1).toNat)
        case measure => have := HX.out; have := C4.out; omega
        case rel =>
          refine ⟨x + 1, by rw [Hw.out], ⟨by have := HX.out; omega, by have := C4.out; omega, by have := HX.out; have := C4.out; omega⟩, HB', ⟨fun j hj => ?_⟩⟩
          by_cases e : (j : Int) = x
          · rw [e]; exact HQ.out
          · exact HM.out j (by omega)
    · have c4b0 : decide (x < (l0.length : Int)) = false := decide_eq_false c4
      have C4 := Aside0.mk c4
      clear c4
      go_wp2
      go_ret
      exact ⟨by rw [idxP_stay_miss p l0 x (fun h_ => by have := C4.out; omega) HM.out]; rfl, HB.out⟩
set_option maxHeartbeats 2000000 in
theorem slices_ContainsFunc_stay.calls {p : S59 → Bool} {g : Nat} {lb : Array Value} (eg : ∀ args w, (callFunc g args).run Try.prog w = .ok (.enter g args) w) (A0 : Option Addr) (c0 : Nat) (l0 : List S59) (w : World) (hr0 : Kd.C k59 w A0 l0.length l0)
    (hp : ∀ (W : World) (x : S59), Below w.heap.size w W → Calls Try.prog g (#[.agg #[.int .i64 x.f0, .int .i64 x.f1, .int .i64 x.f2]] ++ lb) W fun e w' => e = .returned (.bool (p x)) ∧ Below w.heap.size w w') :
    Calls Try.prog 56 #[.slice A0 l0.length c0, .func (.func g) #[] lb] w fun e w' => e = .returned (.bool (l0.any p)) ∧ Below w.heap.size w w' := by
  have HI := Aside0.mk (slices_IndexFunc_stay.calls eg A0 c0 l0 w hr0 hp)
  rw [← idxP_stay_any]
  clear hr0 hp
  go_enter Try.func56, Try.ntmps56
  go_wp2_with (go_at_call 79; refine HI.out.mono ?_; rintro e w' ⟨rfl, hb'⟩)
  go_ret
  exact ⟨rfl, hb'⟩

end Go.Proofs.Ytolaplcjbmjlmaa.X


-- written by a program of this session (wip/ext.py) out of the translation. Not trusted: Lean checks it.
namespace Go.Proofs.Ytolaplcjbmjlmaa.X
open Go.RowKit Go.Proofs.YtolaplcjbmjlmaaW.PrintWords Go.Proofs.YtolaplcjbmjlmaaW.PrintLast Go.Proofs.YtolaplcjbmjlmaaW.PrintMore
attribute [local go_sem] max2_int min2_int max_two min_two max_three min_three max_four min_four   -- for this text's walks alone
set_option linter.unusedVariables false
set_option linter.unusedSimpArgs false

def impl_IsValidStays_1.f (a0_0 : Int) (a0_1 : Int) (a0_2 : Int) : Option (Bool) := if a0_0 < 0 then (some true) else (if a0_0 > a0_1 then (some true) else (if a0_1 > 240 then (some true) else ((impl_within.f a0_2 1 9).bind fun t133 => (some (!t133)))))
set_option maxHeartbeats 8000000 in
set_option maxRecDepth 100000 in
theorem impl_IsValidStays_1.calls (a0_0 : Int) (a0_1 : Int) (a0_2 : Int) (r : Bool) (w : World) (h : impl_IsValidStays_1.f a0_0 a0_1 a0_2 = some r) :
    Calls Try.prog 57 #[.agg #[.int .i64 a0_0, .int .i64 a0_1, .int .i64 a0_2]] w fun e w' => e = .returned (.bool r) ∧ Below w.heap.size w w' := by
  have hu59 := Try.underlying59
  have HB := Aside0.mk (Below.refl w.heap.size w)
  have H : (if a0_0 < 0 then (some true) else (if a0_0 > a0_1 then (some true) else (if a0_1 > 240 then (some true) else ((impl_within.f a0_2 1 9).bind fun t133 => (some (!t133)))))) = some r := h
  clear h
  by_cases c2 : a0_0 < 0
  · rw [if_pos c2] at H
    have c2b0 : decide (a0_0 < 0) = true := decide_eq_true c2
    clear c2
    obtain rfl := Option.some.inj H
    go_enter Try.func57, Try.ntmps57
    go_wp2_with (first | ((with_reducible refine gate_dst (N := 1) rfl ?_); refine box_event ?hg (N := 1) ?hd (cs := #[.int .i64 a0_0, .int .i64 a0_1, .int .i64 a0_2]) (t := 59) ?hr ?_; (case hd => rfl); (case hg => rfl); (case hr => first | (go_simp; done) | (go_simp; rfl)); intro gb132 hg w3 hbox hb; have n0_ := Aside0.mk (below_step (by repeat (first | (with_reducible first | exact HB.out | apply below_alloc | apply pw_below_drewN | apply below_drew1) | exact HB.out)) hb); have n1_ := Aside0.mk (hbox); have n2_ := Aside0.mk ((by rw [hg]; exact (below_size (by repeat (first | (with_reducible first | exact HB.out | apply below_alloc | apply pw_below_drewN | apply below_drew1) | exact HB.out))) : w.heap.size ≤ gb132)); have n3_ := Aside0.mk ((by rw [hg]; exact (below_size (by repeat (first | (with_reducible first | exact HB.out | apply below_alloc | apply pw_below_drewN | apply below_drew1) | exact HB.out))) : w.heap.size ≤ gb132)); clear HB; have HB := n0_; have BK132 := n1_; have GW132 := n2_; have GE132 := n3_; clear n0_ n1_ n2_ n3_; clear hb hbox hg; have hcz4_0 : w3.cell? ⟨gb132, 0, none⟩ = some (.int .i64 a0_0) := (blk_cell BK132.out 0).trans rfl; have hcz4_1 : w3.cell? ⟨gb132, 1, none⟩ = some (.int .i64 a0_1) := (blk_cell BK132.out 1).trans rfl; have hcz4_2 : w3.cell? ⟨gb132, 2, none⟩ = some (.int .i64 a0_2) := (blk_cell BK132.out 2).trans rfl; have hfz4_0 := blk_frozen BK132.out 0; have hfz4_1 := blk_frozen BK132.out 1; have hfz4_2 := blk_frozen BK132.out 2))
    go_ret
    exact ⟨by first | rfl | (simp [errW_none, errW_some] <;> rfl) | (simp [*, errW_none, errW_some] <;> rfl), by repeat (first | (with_reducible first | exact HB.out | apply below_alloc | apply pw_below_drewN | apply below_drew1 | refine below_set ?_ GE132.out) | exact HB.out)⟩
  · rw [if_neg c2] at H
    have c2b0 : decide (a0_0 < 0) = false := decide_eq_false c2
    clear c2
    by_cases c5 : a0_0 > a0_1
    · rw [if_pos c5] at H
      have c5b0 : decide (a0_1 < a0_0) = true := decide_eq_true c5
      clear c5
      obtain rfl := Option.some.inj H
      go_enter Try.func57, Try.ntmps57
      go_wp2_with (first | ((with_reducible refine gate_dst (N := 1) rfl ?_); refine box_event ?hg (N := 1) ?hd (cs := #[.int .i64 a0_0, .int .i64 a0_1, .int .i64 a0_2]) (t := 59) ?hr ?_; (case hd => rfl); (case hg => rfl); (case hr => first | (go_simp; done) | (go_simp; rfl)); intro gb132 hg w6 hbox hb; have n0_ := Aside0.mk (below_step (by repeat (first | (with_reducible first | exact HB.out | apply below_alloc | apply pw_below_drewN | apply below_drew1) | exact HB.out)) hb); have n1_ := Aside0.mk (hbox); have n2_ := Aside0.mk ((by rw [hg]; exact (below_size (by repeat (first | (with_reducible first | exact HB.out | apply below_alloc | apply pw_below_drewN | apply below_drew1) | exact HB.out))) : w.heap.size ≤ gb132)); have n3_ := Aside0.mk ((by rw [hg]; exact (below_size (by repeat (first | (with_reducible first | exact HB.out | apply below_alloc | apply pw_below_drewN | apply below_drew1) | exact HB.out))) : w.heap.size ≤ gb132)); clear HB; have HB := n0_; have BK132 := n1_; have GW132 := n2_; have GE132 := n3_; clear n0_ n1_ n2_ n3_; clear hb hbox hg; have hcz7_0 : w6.cell? ⟨gb132, 0, none⟩ = some (.int .i64 a0_0) := (blk_cell BK132.out 0).trans rfl; have hcz7_1 : w6.cell? ⟨gb132, 1, none⟩ = some (.int .i64 a0_1) := (blk_cell BK132.out 1).trans rfl; have hcz7_2 : w6.cell? ⟨gb132, 2, none⟩ = some (.int .i64 a0_2) := (blk_cell BK132.out 2).trans rfl; have hfz7_0 := blk_frozen BK132.out 0; have hfz7_1 := blk_frozen BK132.out 1; have hfz7_2 := blk_frozen BK132.out 2))
      go_ret
      exact ⟨by first | rfl | (simp [errW_none, errW_some] <;> rfl) | (simp [*, errW_none, errW_some] <;> rfl), by repeat (first | (with_reducible first | exact HB.out | apply below_alloc | apply pw_below_drewN | apply below_drew1 | refine below_set ?_ GE132.out) | exact HB.out)⟩
    · rw [if_neg c5] at H
      have c5b0 : decide (a0_1 < a0_0) = false := decide_eq_false c5
      clear c5
      by_cases c8 : a0_1 > 240
      · rw [if_pos c8] at H
        have c8b0 : decide (240 < a0_1) = true := decide_eq_true c8
        clear c8
        obtain rfl := Option.some.inj H
        go_enter Try.func57, Try.ntmps57
        go_wp2_with (first | ((with_reducible refine gate_dst (N := 1) rfl ?_); refine box_event ?hg (N := 1) ?hd (cs := #[.int .i64 a0_0, .int .i64 a0_1, .int .i64 a0_2]) (t := 59) ?hr ?_; (case hd => rfl); (case hg => rfl); (case hr => first | (go_simp; done) | (go_simp; rfl)); intro gb132 hg w9 hbox hb; have n0_ := Aside0.mk (below_step (by repeat (first | (with_reducible first | exact HB.out | apply below_alloc | apply pw_below_drewN | apply below_drew1) | exact HB.out)) hb); have n1_ := Aside0.mk (hbox); have n2_ := Aside0.mk ((by rw [hg]; exact (below_size (by repeat (first | (with_reducible first | exact HB.out | apply below_alloc | apply pw_below_drewN | apply below_drew1) | exact HB.out))) : w.heap.size ≤ gb132)); have n3_ := Aside0.mk ((by rw [hg]; exact (below_size (by repeat (first | (with_reducible first | exact HB.out | apply below_alloc | apply pw_below_drewN | apply below_drew1) | exact HB.out))) : w.heap.size ≤ gb132)); clear HB; have HB := n0_; have BK132 := n1_; have GW132 := n2_; have GE132 := n3_; clear n0_ n1_ n2_ n3_; clear hb hbox hg; have hcz10_0 : w9.cell? ⟨gb132, 0, none⟩ = some (.int .i64 a0_0) := (blk_cell BK132.out 0).trans rfl; have hcz10_1 : w9.cell? ⟨gb132, 1, none⟩ = some (.int .i64 a0_1) := (blk_cell BK132.out 1).trans rfl; have hcz10_2 : w9.cell? ⟨gb132, 2, none⟩ = some (.int .i64 a0_2) := (blk_cell BK132.out 2).trans rfl; have hfz10_0 := blk_frozen BK132.out 0; have hfz10_1 := blk_frozen BK132.out 1; have hfz10_2 := blk_frozen BK132.out 2))
        go_ret
        exact ⟨by first | rfl | (simp [errW_none, errW_some] <;> rfl) | (simp [*, errW_none, errW_some] <;> rfl), by repeat (first | (with_reducible first | exact HB.out | apply below_alloc | apply pw_below_drewN | apply below_drew1 | refine below_set ?_ GE132.out) | exact HB.out)⟩
      · rw [if_neg c8] at H
        have c8b0 : decide (240 < a0_1) = false := decide_eq_false c8
        clear c8
        replace H := Option.bind_eq_some_iff.mp H
        obtain ⟨t133, A110, H⟩ := H
        replace H : (some (!t133)) = some r := H
        have A11 := Aside0.mk A110
        clear A110
        obtain rfl := Option.some.inj H
        go_enter Try.func57, Try.ntmps57
        go_wp2_with (first | ((with_reducible refine gate_dst (N := 1) rfl ?_); refine box_event ?hg (N := 1) ?hd (cs := #[.int .i64 a0_0, .int .i64 a0_1, .int .i64 a0_2]) (t := 59) ?hr ?_; (case hd => rfl); (case hg => rfl); (case hr => first | (go_simp; done) | (go_simp; rfl)); intro gb132 hg w12 hbox hb; have n0_ := Aside0.mk (below_step (by repeat (first | (with_reducible first | exact HB.out | apply below_alloc | apply pw_below_drewN | apply below_drew1) | exact HB.out)) hb); have n1_ := Aside0.mk (hbox); have n2_ := Aside0.mk ((by rw [hg]; exact (below_size (by repeat (first | (with_reducible first | exact HB.out | apply below_alloc | apply pw_below_drewN | apply below_drew1) | exact HB.out))) : w.heap.size ≤ gb132)); have n3_ := Aside0.mk ((by rw [hg]; exact (below_size (by repeat (first | (with_reducible first | exact HB.out | apply below_alloc | apply pw_below_drewN | apply below_drew1) | exact HB.out))) : w.heap.size ≤ gb132)); clear HB; have HB := n0_; have BK132 := n1_; have GW132 := n2_; have GE132 := n3_; clear n0_ n1_ n2_ n3_; clear hb hbox hg; have hcz13_0 : w12.cell? ⟨gb132, 0, none⟩ = some (.int .i64 a0_0) := (blk_cell BK132.out 0).trans rfl; have hcz13_1 : w12.cell? ⟨gb132, 1, none⟩ = some (.int .i64 a0_1) := (blk_cell BK132.out 1).trans rfl; have hcz13_2 : w12.cell? ⟨gb132, 2, none⟩ = some (.int .i64 a0_2) := (blk_cell BK132.out 2).trans rfl; have hfz13_0 := blk_frozen BK132.out 0; have hfz13_1 := blk_frozen BK132.out 1; have hfz13_2 := blk_frozen BK132.out 2) | (go_at_call 53; (with_reducible refine (impl_within.calls a0_2 1 9 t133 _ A11.out).mono ?_); rintro e w' ⟨rfl, ⟨nd, rfl⟩⟩))
        go_ret
        exact ⟨by first | rfl | (simp [errW_none, errW_some] <;> rfl) | (simp [*, errW_none, errW_some] <;> rfl), by repeat (first | (with_reducible first | exact HB.out | apply below_alloc | apply pw_below_drewN | apply below_drew1 | refine below_set ?_ GE132.out) | exact HB.out)⟩

end Go.Proofs.Ytolaplcjbmjlmaa.X


-- written by a program of this session (wip/ext.py) out of the translation. Not trusted: Lean checks it.
namespace Go.Proofs.Ytolaplcjbmjlmaa.X
open Go.RowKit Go.Proofs.YtolaplcjbmjlmaaW.PrintWords Go.Proofs.YtolaplcjbmjlmaaW.PrintLast Go.Proofs.YtolaplcjbmjlmaaW.PrintMore
attribute [local go_sem] max2_int min2_int max_two min_two max_three min_three max_four min_four   -- for this text's walks alone
set_option linter.unusedVariables false
set_option linter.unusedSimpArgs false

def okStay (x : S59) : Bool := decide (0 ≤ x.f0) && decide (x.f0 ≤ x.f1) && decide (x.f1 ≤ 240) && decide (1 ≤ x.f2) && decide (x.f2 ≤ 9)
theorem okStay_f (x : S59) : impl_IsValidStays_1.f x.f0 x.f1 x.f2 = some (!okStay x) := by
  unfold impl_IsValidStays_1.f impl_within.f okStay
  by_cases h1 : x.f0 < 0
  · simp [h1]
  · by_cases h2 : x.f0 > x.f1
    · simp [h1, h2]
    · by_cases h3 : x.f1 > 240
      · simp [h1, h2, h3]
      · by_cases h4 : x.f2 ≥ 1
        · by_cases h5 : x.f2 ≤ 9
          · simp [h1, h2, h3, h4, h5]; omega
          · simp [h1, h2, h3, h4, h5]
        · simp [h1, h2, h3, h4]
def impl_IsValidStays.f (l0 : List S59) : Option Bool := some (l0.all okStay && decide (l0.length ≤ 20))
set_option maxHeartbeats 2000000 in
theorem impl_IsValidStays.calls (A0 : Option Addr) (c0 : Nat) (l0 : List (S59)) (r : Bool) (w : World) (hr0 : Kd.C k59 w A0 l0.length l0) (hc0 : l0.length ≤ c0) (h : impl_IsValidStays.f l0 = some r) :
    Calls Try.prog 19 #[.slice A0 l0.length c0] w fun e w' => e = .returned (.bool r) ∧ Below w.heap.size w w' := by
  have HI := Aside0.mk (slices_ContainsFunc_stay.calls (p := fun x => !okStay x) (g := 57) (lb := #[]) (enters_of Try.func57 (by kernel_rfl) rfl) A0 c0 l0 w hr0 (fun W x hb => (impl_IsValidStays_1.calls x.f0 x.f1 x.f2 (!okStay x) W (okStay_f x)).mono (fun e w' ⟨he, hb'⟩ => ⟨he, hb.trans (hb'.mono hb.size)⟩)))
  simp only [impl_IsValidStays.f, Option.some.injEq] at h
  have ha : l0.all okStay = !(l0.any fun x => !okStay x) := by rw [List.all_eq_not_any_not]
  rw [ha] at h
  clear ha hr0
  have H := Aside0.mk h
  clear h
  cases hq : l0.any (fun x => !okStay x) with
  | true =>
    rw [hq] at HI
    have HQ := Aside0.mk hq
    clear hq
    go_enter Try.func19, Try.ntmps19
    go_wp2_with (go_at_call 56; refine HI.out.mono ?_; rintro e w' ⟨rfl, hb'⟩)
    go_ret
    exact ⟨by rw [← H.out, HQ.out]; rfl, hb'⟩
  | false =>
    rw [hq] at HI
    have HQ := Aside0.mk hq
    clear hq
    go_enter Try.func19, Try.ntmps19
    go_wp2_with (go_at_call 56; refine HI.out.mono ?_; rintro e w' ⟨rfl, hb'⟩)
    go_ret
    exact ⟨by rw [← H.out, HQ.out]; simp <;> omega, hb'⟩

end Go.Proofs.Ytolaplcjbmjlmaa.X


-- written by a program of this session (wip/ext.py) out of the translation. Not trusted: Lean checks it.
namespace Go.Proofs.Ytolaplcjbmjlmaa.X
open Go.RowKit Go.Proofs.YtolaplcjbmjlmaaW.PrintWords Go.Proofs.YtolaplcjbmjlmaaW.PrintLast Go.Proofs.YtolaplcjbmjlmaaW.PrintMore
attribute [local go_sem] max2_int min2_int max_two min_two max_three min_three max_four min_four   -- for this text's walks alone
set_option linter.unusedVariables false
set_option linter.unusedSimpArgs false

def impl_lengthsOf.l0 : Nat → List Int → List (S59) → Int → Int → Option (List Int)
  | 0, _, _, _, _ => none
  | k + 1, x3, x7, x8, x9 => if x9 < x8 then (if 0 ≤ x9 then (if x9 < (x7.length : Int) then (if x3.length < 17592186044416 then (impl_lengthsOf.l0 k (x3 ++ [wrap64 (((rd_T59 x7 x9).f1) - ((rd_T59 x7 x9).f0))]) x7 x8 (wrap64 (x9 + 1))) else (none)) else (none)) else (none)) else (some x3)
def impl_lengthsOf.f (k : Nat) (l0 : List (S59)) : Option (List Int) := impl_lengthsOf.l0 k (([] : List Int)) l0 (l0.length : Int) 0
theorem impl_lengthsOf.mono_l : ∀ k, (∀ y0 y1 y2 y3, LeO (impl_lengthsOf.l0 k y0 y1 y2 y3) (impl_lengthsOf.l0 (k + 1) y0 y1 y2 y3))
  | 0 => fun _ _ _ _ r h => by simp [impl_lengthsOf.l0] at h
  | k + 1 => by
    have ih0 := impl_lengthsOf.mono_l k
    · intro y0 y1 y2 y3
      unfold impl_lengthsOf.l0
      repeat' first
      | (with_reducible exact ih0 _ _ _ _)
      | (with_reducible exact LeO.refl _)
      | (with_reducible exact LeO.none _)
      | (with_reducible refine LeO.ite ?_ ?_)
      | (with_reducible refine LeO.bind ?_ (fun _ => ?_))
      | exact ih0 _ _ _ _
      | exact LeO.none _
      | refine LeO.ite ?_ ?_
      | refine LeO.bind ?_ (fun _ => ?_)
theorem impl_lengthsOf.mono : ∀ a0 k, LeO (impl_lengthsOf.f k a0) (impl_lengthsOf.f (k + 1) a0) := by
  intro a0 k
  have ih0 := impl_lengthsOf.mono_l k
  unfold impl_lengthsOf.f
  repeat' first
      | (with_reducible exact ih0 _ _ _ _)
      | (with_reducible exact LeO.refl _)
      | (with_reducible exact LeO.none _)
      | (with_reducible refine LeO.ite ?_ ?_)
      | (with_reducible refine LeO.bind ?_ (fun _ => ?_))
      | exact ih0 _ _ _ _
      | exact LeO.none _
      | refine LeO.ite ?_ ?_
      | refine LeO.bind ?_ (fun _ => ?_)
set_option maxHeartbeats 8000000 in
set_option maxRecDepth 100000 in
theorem impl_lengthsOf.calls (k : Nat) (A0 : Option Addr) (c0 : Nat) (l0 : List (S59)) (r : List Int) (w : World) (hr0 : Kd.C k59 w A0 l0.length l0) (hc0 : l0.length ≤ c0) (h : impl_lengthsOf.f k l0 = some r) :
    Calls Try.prog 65 #[.slice A0 l0.length c0] w fun e w' => ∃ v0_ : Value, e = .returned (v0_) ∧ Kd.R (Kd.int .i64) 3 w' w.heap.size (fun _ => True) v0_ r ∧ Below w.heap.size w w' := by
  have hu59 := Try.underlying59
  have HR0 := Aside0.mk hr0
  have HC0 := Aside0.mk hc0
  clear hr0 hc0
  have HB := Aside0.mk (Below.refl w.heap.size w)
  have H : (impl_lengthsOf.l0 k (([] : List Int)) l0 (l0.length : Int) 0) = some r := h
  clear h
  obtain ⟨y246, hy246⟩ : ∃ y_ : List Int, y_ = (([] : List Int)) := ⟨_, rfl⟩
  replace H : (impl_lengthsOf.l0 k y246 l0 (l0.length : Int) 0) = some r := by first | (rw [hy246]; with_reducible exact H) | (have H2_ := (Option.bind_some _ _).symm.trans H; rw [hy246]; with_reducible exact H2_) | (have H2_ := (Option.bind_some _ _).symm.trans H; with_reducible exact H2_) | with_reducible exact H | (rw [hy246]; exact H) | exact H
  have Ny246 := Aside0.mk hy246
  clear hy246
  have H' := Aside0.mk H
  clear H
  go_enter Try.func65, Try.ntmps65
  go_wp2_with (first | ((with_reducible refine gate_dst (N := 6) rfl ?_); refine Kd.R_lit (Kd.int .i64) _ 3 ?hg (N := 6) ?hd (xs := ([] : List Int)) (inner := []) (ok := fun _ => True) (okp := fun _ => True) ?hr ?hp (fun _ hk => hk) trivial (Below.refl _ _) (Nat.le_refl _) (by simp) ?_; (case hd => rfl); (case hg => rfl); (case hr => first | (go_simp; done) | (go_simp; rfl)); (case hp => exact (Reps.none _ _)); intro v247 w2 ho3 hb hg_ hnew_; clear hg_ hnew_; (first | rw [← Ny246.out] at ho3 | (simp only [Int.reduceToNat] at ho3; rw [← Ny246.out] at ho3)); have n0_ := Aside0.mk (Kd.R_lower ho3 (below_size (by repeat (first | (with_reducible first | exact HB.out | apply below_alloc | apply pw_below_drewN | apply below_drew1) | exact HB.out)))); have n1_ := Aside0.mk (below_step (by repeat (first | (with_reducible first | exact HB.out | apply below_alloc | apply pw_below_drewN | apply below_drew1) | exact HB.out)) hb); clear HB; have HO248 := n0_; have HB := n1_; clear n0_ n1_; clear hb ho3))
  go_loopg [3, 9] k (fun kq v3 v9 w' => ∃ (x3_1 : List Int) (x9_1 : Int), v9 = .int .i64 x9_1 ∧ Aside0 (impl_lengthsOf.l0 kq x3_1 l0 (l0.length : Int) x9_1 = some r) ∧ Aside0 (kq ≤ k) ∧ Aside0 (Kd.R (Kd.int .i64) 3 w' w.heap.size (fun _ => True) v3 x3_1) ∧ Aside0 (Below w.heap.size w w'))
  case atStart => exact ⟨(y246), (0), (by first | rfl | (simp; done) | (simp [*]; done)), H', ⟨Nat.le_refl _⟩, ⟨by (with_reducible repeat (first | apply Kd.R_alloc | apply Kd.R_drewN | apply Kd.R_drew)); exact HO248.out⟩, ⟨by repeat (first | (with_reducible first | exact HB.out | apply below_alloc | apply pw_below_drewN | apply below_drew1) | exact HB.out)⟩⟩
  case round =>
    clear H'
    try clear p2
    obtain ⟨x3_1, x9_1, rfl, HA, HK1, HO_3, HB⟩ := hrel
    cases gk with
    | zero => exact absurd HA.out (by simp [impl_lengthsOf.l0])
    | succ k1 =>
      have H := HA.out
      clear HA
      simp only [impl_lengthsOf.l0] at H
      by_cases c4 : x9_1 < (l0.length : Int)
      · rw [if_pos c4] at H
        have c4b0 : decide (x9_1 < (l0.length : Int)) = true := decide_eq_true c4
        clear c4
        by_cases c5 : 0 ≤ x9_1
        · rw [if_pos c5] at H
          have c5b0 : decide (0 ≤ x9_1) = true := decide_eq_true c5
          clear c5
          by_cases c6 : x9_1 < (l0.length : Int)
          · rw [if_pos c6] at H
            have c6b0 : decide (x9_1 < (l0.length : Int)) = true := decide_eq_true c6
            clear c6
            by_cases c7 : x3_1.length < 17592186044416
            · rw [if_pos c7] at H
              have LMc7 := Aside0.mk c7
              clear c7
              obtain ⟨y251, hy251⟩ : ∃ y_ : List Int, y_ = (x3_1 ++ [wrap64 (((rd_T59 l0 x9_1).f1) - ((rd_T59 l0 x9_1).f0))]) := ⟨_, rfl⟩
              replace H : (impl_lengthsOf.l0 k1 y251 l0 (l0.length : Int) (wrap64 (x9_1 + 1))) = some r := by first | (rw [hy251]; with_reducible exact H) | (have H2_ := (Option.bind_some _ _).symm.trans H; rw [hy251]; with_reducible exact H2_) | (have H2_ := (Option.bind_some _ _).symm.trans H; with_reducible exact H2_) | with_reducible exact H | (rw [hy251]; exact H) | exact H
              have Ny251 := Aside0.mk hy251
              clear hy251
              have H' := Aside0.mk H
              clear H
              have p249 : 0 ≤ (x9_1 : Int) := of_decide_eq_true (by first | (with_reducible assumption) | assumption)
              have q249 : x9_1 < (l0.length : Int) := of_decide_eq_true (by first | (with_reducible assumption) | assumption)
              obtain ⟨ad249, e249, hx249_0, hx249_1, hx249_2⟩ := at_T59 HR0.out x9_1 p249 q249
              cases e249
              replace hx249_0 := (HB.out.cell (World.block_lt_of_cell? w _ hx249_0)).trans hx249_0
              replace hx249_1 := (HB.out.cell (World.block_lt_of_cell? w _ hx249_1)).trans hx249_1
              replace hx249_2 := (HB.out.cell (World.block_lt_of_cell? w _ hx249_2)).trans hx249_2
              replace p249 := eq_true p249
              replace q249 := eq_true q249
              go_wp2_with (first | ((with_reducible refine gate_dst (N := 5) rfl ?_); refine box_event ?hg (N := 5) ?hd (cs := #[.int .i64 0, .int .i64 0, .int .i64 0]) (t := 59) ?hr ?_; (case hd => rfl); (case hg => rfl); (case hr => first | (go_simp; done) | (go_simp; rfl)); intro gb250 hg w8 hbox hb; have n0_ := Aside0.mk (Kd.R_below (by (with_reducible repeat (first | apply Kd.R_alloc | apply Kd.R_drewN | apply Kd.R_drew)); exact HO_3.out) hb); have n1_ := Aside0.mk (below_step (by repeat (first | (with_reducible first | exact HB.out | apply below_alloc | apply pw_below_drewN | apply below_drew1) | exact HB.out)) hb); have n2_ := Aside0.mk (hbox); have n3_ := Aside0.mk ((by rw [hg]; exact (below_size (by repeat (first | (with_reducible first | exact HB.out | apply below_alloc | apply pw_below_drewN | apply below_drew1) | exact HB.out))) : w.heap.size ≤ gb250)); have n4_ := Aside0.mk ((by rw [hg]; exact (below_size (by repeat (first | (with_reducible first | exact HB.out | apply below_alloc | apply pw_below_drewN | apply below_drew1) | exact HB.out))) : w.heap.size ≤ gb250)); clear HO_3; clear HB; have HO_3 := n0_; have HB := n1_; have BK250 := n2_; have GW250 := n3_; have GE250 := n4_; clear n0_ n1_ n2_ n3_ n4_; clear hb hbox hg; have hcz9_0 : w8.cell? ⟨gb250, 0, none⟩ = some (.int .i64 0) := (blk_cell BK250.out 0).trans rfl; have hcz9_1 : w8.cell? ⟨gb250, 1, none⟩ = some (.int .i64 0) := (blk_cell BK250.out 1).trans rfl; have hcz9_2 : w8.cell? ⟨gb250, 2, none⟩ = some (.int .i64 0) := (blk_cell BK250.out 2).trans rfl; have hfz9_0 := blk_frozen BK250.out 0; have hfz9_1 := blk_frozen BK250.out 1; have hfz9_2 := blk_frozen BK250.out 2) | ((with_reducible refine gate_builtin (b := .append) (xs := #[.tmp 13, .tmp 19]) rfl ?_); at_builtin; refine Kd.R_append (Kd.int .i64) (w0 := w) w.heap.size rfl (.tmp 13) (.tmp 19) 53 3 (.int .i64 0) 8 rfl Try.underlying53 info3 rfl (by decide) (by omega) u3 x3_1 (wrap64 (((rd_T59 l0 x9_1).f1) - ((rd_T59 l0 x9_1).f0))) [.int .i64 (wrap64 (((rd_T59 l0 x9_1).f1) - ((rd_T59 l0 x9_1).f0)))] (fun _ => True) (fun _ => False) rfl (by first | (go_simp; done) | (go_simp; rfl)) ?aP (fun _ hk => hk.elim) ?aF ?aO ?aB ?aS ?aL ?_; (case aP => exact rfl); (case aB => exact (by repeat (first | (with_reducible first | exact HB.out | apply below_alloc | apply pw_below_drewN | apply below_drew1 | refine below_set ?_ GE250.out) | exact HB.out))); (case aF => exact (fun _ _ => trivial)); (case aO => exact (by (with_reducible repeat (first | apply Kd.R_alloc | apply Kd.R_drewN | apply Kd.R_drew)); exact Kd.R_mono (Kd.R_far (p := ⟨gb250, 2, none⟩) (Kd.R_far (p := ⟨gb250, 1, none⟩) (Kd.R_far (p := ⟨gb250, 0, none⟩) (Kd.R_types HO_3.out BK250.out (by decide)) (fun _ hk => hk.2) (.int .i64 ((rd_T59 l0 x9_1).f0))) (fun _ hk => hk.2) (.int .i64 ((rd_T59 l0 x9_1).f1))) (fun _ hk => hk.2) (.int .i64 ((rd_T59 l0 x9_1).f2))) (fun _ hk => trivial))); (case aS => exact (below_size (by repeat (first | (with_reducible first | exact HB.out | apply below_alloc | apply pw_below_drewN | apply below_drew1 | refine below_set ?_ GE250.out) | exact HB.out)))); (case aL => have := LMc7.out; omega); intro v252 w10 ho hb hg hat; rw [← Ny251.out] at ho; have n0_ := Aside0.mk (blk_grown (g := gb250) (o := .cells #[.int .i64 ((rd_T59 l0 x9_1).f0), .int .i64 ((rd_T59 l0 x9_1).f1), .int .i64 ((rd_T59 l0 x9_1).f2)] 59 (0, 0)) (by (with_reducible repeat (first | refine blk_drewN ?_ _ | refine blk_drew ?_ | refine blk_alloc ?_ _)); refine blk_put (cs := #[.int .i64 ((rd_T59 l0 x9_1).f0), .int .i64 ((rd_T59 l0 x9_1).f1), .int .i64 0]) ?_ 2 _ rfl; (with_reducible repeat (first | refine blk_drewN ?_ _ | refine blk_drew ?_ | refine blk_alloc ?_ _)); refine blk_put (cs := #[.int .i64 ((rd_T59 l0 x9_1).f0), .int .i64 0, .int .i64 0]) ?_ 1 _ rfl; (with_reducible repeat (first | refine blk_drewN ?_ _ | refine blk_drew ?_ | refine blk_alloc ?_ _)); refine blk_put (cs := #[.int .i64 0, .int .i64 0, .int .i64 0]) ?_ 0 _ rfl; (with_reducible repeat (first | refine blk_drewN ?_ _ | refine blk_drew ?_ | refine blk_alloc ?_ _)); exact BK250.out) hg (Kd.R_ne HO_3.out BK250.out (by decide))); have n1_ := Aside0.mk (hb); have n2_ := Aside0.mk (ho); clear BK250; clear HB; clear HO_3; have BK250 := n0_; have HB := n1_; have HO253 := n2_; clear n0_ n1_ n2_; clear ho hb hg hat))
              go_roundg k1
              case measure => have := HK1.out; omega
              case rel => exact ⟨(y251), (wrap64 (x9_1 + 1)), (by first | rfl | (simp; done) | (simp [*]; done)), H', ⟨by have := HK1.out; omega⟩, ⟨by (with_reducible repeat (first | apply Kd.R_alloc | apply Kd.R_drewN | apply Kd.R_drew)); exact HO253.out⟩, ⟨by repeat (first | (with_reducible first | exact HB.out | apply below_alloc | apply pw_below_drewN | apply below_drew1 | refine below_set ?_ GE250.out) | exact HB.out)⟩⟩
            · rw [if_neg c7] at H
              exact absurd H (by simp)
          · rw [if_neg c6] at H
            exact absurd H (by simp)
        · rw [if_neg c5] at H
          exact absurd H (by simp)
      · rw [if_neg c4] at H
        have c4b0 : decide (x9_1 < (l0.length : Int)) = false := decide_eq_false c4
        clear c4
        obtain rfl := Option.some.inj H
        go_wp2
        go_ret
        exact ⟨_, by first | rfl | (simp [errW_none, errW_some] <;> rfl) | (simp [*, errW_none, errW_some] <;> rfl), by (with_reducible repeat (first | apply Kd.R_alloc | apply Kd.R_drewN | apply Kd.R_drew)); exact HO_3.out, by repeat (first | (with_reducible first | exact HB.out | apply below_alloc | apply pw_below_drewN | apply below_drew1) | exact HB.out)⟩

end Go.Proofs.Ytolaplcjbmjlmaa.X


namespace Go.Proofs
open Go.Shelf
def Try.laysSlH6_f82_ren : Go.Shelf.Ren := ⟨fun | 6 => 82 | n => n, fun | 22 => 53 | 23 => 3 | 25 => 76 | 3 => 3 | 0 => 0 | 4 => 4 | n => n, fun | n => n⟩
theorem Try.laysSlH6_f82 : Go.Proofs.SlLaysH.n6 Try.prog Try.laysSlH6_f82_ren := {
  mixed := by kernel_rfl
  f6 := ⟨Try.f82.name, by decide, Try.func82.trans (congrArg some (by kernel_rfl))⟩
  t0 := Try.underlying0
  a0 := Try.isAgg0
  z0 := Try.sizeOf0
  v0 := Try.zeroValue0
  t3 := Try.underlying3
  a3 := Try.isAgg3
  z3 := Try.sizeOf3
  v3 := Try.zeroValue3
  t4 := Try.underlying4
  a4 := Try.isAgg4
  z4 := Try.sizeOf4
  v4 := Try.zeroValue4
  t22 := Try.underlying53
  a22 := Try.isAgg53
  z22 := Try.sizeOf53
  v22 := Try.zeroValue53
  a23 := Try.isAgg3
  z23 := Try.sizeOf3
  t25 := Try.underlying76
  a25 := Try.isAgg76
  z25 := Try.sizeOf76
  v25 := Try.zeroValue76 }
open Go.RowKit Go.Lib in
/-- The same at a slice of length 0, a nil one too: the predicate is not called: nothing is asked of it. (LAID AT THE INSTANCE 'slices.IndexFunc[[]int,int]': no walk: one application.) -/
theorem Try.slices_IndexFunc_empty {α : Type} [Inhabited α] (a : Option Addr) (c : Nat) (fv : Value) (w : World) :
    Calls Try.prog 82 #[.slice a 0 c, fv] w fun e w' => e = .returned (.int .i64 (-1)) ∧ w' = w := AnyE.slices_IndexFunc_empty Try.laysSlH6_f82 a c fv w
def Try.laysSlH10_f71_ren : Go.Shelf.Ren := ⟨fun | 10 => 71 | 6 => 82 | n => n, fun | 22 => 53 | 23 => 3 | 25 => 76 | 3 => 3 | 4 => 4 | 0 => 0 | n => n, fun | n => n⟩
theorem Try.laysSlH10_f71 : Go.Proofs.SlLaysH.n10 Try.prog Try.laysSlH10_f71_ren := {
  mixed := by kernel_rfl
  f6 := ⟨Try.f82.name, by decide, Try.func82.trans (congrArg some (by kernel_rfl))⟩
  f10 := ⟨Try.f71.name, by decide, Try.func71.trans (congrArg some (by kernel_rfl))⟩
  t0 := Try.underlying0
  a0 := Try.isAgg0
  z0 := Try.sizeOf0
  v0 := Try.zeroValue0
  t3 := Try.underlying3
  a3 := Try.isAgg3
  z3 := Try.sizeOf3
  v3 := Try.zeroValue3
  t4 := Try.underlying4
  a4 := Try.isAgg4
  z4 := Try.sizeOf4
  v4 := Try.zeroValue4
  t22 := Try.underlying53
  a22 := Try.isAgg53
  z22 := Try.sizeOf53
  v22 := Try.zeroValue53
  a23 := Try.isAgg3
  z23 := Try.sizeOf3
  t25 := Try.underlying76
  a25 := Try.isAgg76
  z25 := Try.sizeOf76
  v25 := Try.zeroValue76 }
open Go.RowKit Go.Lib Go.Sort in
theorem Try.slices_DeleteFunc {α : Type} [Inhabited α] (enc : α → Value) (hO : OneCell enc) (p : α → Bool) (g : Nat) (lb : Array Value) (eg : ∀ args w, (callFunc g args).run Try.prog w = .ok (.enter g args) w) (zr : α) (v23 : ∀ w, (zeroValue 3).run Try.prog w = .ok (enc zr) w) (blk off cap : Nat) (d : Array α) (w : World) (hp : PredAt Try.prog g lb enc p w) (hpo : PredOver Try.prog g lb enc p blk off d.size w) (hH : Holds enc w blk off d) (hsz : d.size ≤ 9223372036854775807) (hcap : d.size ≤ cap) :
    Calls Try.prog 71 #[.slice (some ⟨blk, off, none⟩) d.size cap, .func (.func g) #[] lb] w fun e w' => e = .returned (.slice (some ⟨blk, off, none⟩) (d.toList.filter fun x => !p x).length cap) ∧ ∃ q, w' = putRow enc (Sort.ahead w q) blk off ((d.toList.filter fun x => !p x) ++ List.replicate (d.size - (d.toList.filter fun x => !p x).length) zr).toArray := AnyE.slices_DeleteFunc Try.laysSlH10_f71 enc hO p g lb eg zr v23 blk off cap d w hp hpo hH hsz hcap
def Try.laysSlF20_f88_ren : Go.Shelf.Ren := ⟨fun | 20 => 88 | n => n, fun | 24 => 3 | 22 => 53 | 3 => 3 | 25 => 80 | 4 => 4 | 0 => 0 | n => n, fun | n => n⟩
theorem Try.laysSlF20_f88 : Go.Proofs.SlLaysF.n20 Try.prog Try.laysSlF20_f88_ren := {
  mixed := by kernel_rfl
  f20 := ⟨Try.f88.name, by decide, Try.func88.trans (congrArg some (by kernel_rfl))⟩
  t0 := Try.underlying0
  a0 := Try.isAgg0
  z0 := Try.sizeOf0
  v0 := Try.zeroValue0
  t3 := Try.underlying3
  a3 := Try.isAgg3
  z3 := Try.sizeOf3
  v3 := Try.zeroValue3
  t4 := Try.underlying4
  a4 := Try.isAgg4
  z4 := Try.sizeOf4
  v4 := Try.zeroValue4
  t22 := Try.underlying53
  a22 := Try.isAgg53
  z22 := Try.sizeOf53
  v22 := Try.zeroValue53
  a24 := Try.isAgg3
  z24 := Try.sizeOf3
  t25 := Try.underlying80
  a25 := Try.isAgg80
  z25 := Try.sizeOf80
  v25 := Try.zeroValue80 }
open Go.RowKit Go.Lib Go.Sort in
theorem Try.insertionSortCmpFunc_one {α : Type} [Inhabited α] (enc : α → Value) (hO : OneCell enc) (cf : α → α → Int) (g : Nat) (cb : Array Value) (blk off cap a b : Nat) (d : Array α) (w : World) (eg : ∀ args w, (callFunc g args).run Try.prog w = .ok (.enter g args) w) (hcmp : CmpReads Try.prog g cb enc cf blk off d.size w) (hH : Holds enc w blk off d) (hab : a ≤ b) (hb : b ≤ d.size) (hsz : d.size < 4611686018427387904) :
    Calls Try.prog 88 #[.slice (some ⟨blk, off, none⟩) d.size cap, .int .i64 a, .int .i64 b, .func (.func g) #[] cb] w fun e w' =>
      e = .returned (.tuple #[]) ∧ ∃ n, w' = (putRow enc w blk off (Sort.insertionSort (ltOf cf) d a b)).drewN n := Any.insertionSortCmpFunc_one Try.laysSlF20_f88 enc hO cf g cb blk off cap a b d w eg hcmp hH hab hb hsz
end Go.Proofs


-- written by a program of this session (wip/ext.py) out of the translation. Not trusted: Lean checks it.
namespace Go.Proofs.Ytolaplcjbmjlmaa.X
open Go.RowKit Go.Proofs.YtolaplcjbmjlmaaW.PrintWords Go.Proofs.YtolaplcjbmjlmaaW.PrintLast Go.Proofs.YtolaplcjbmjlmaaW.PrintMore
attribute [local go_sem] max2_int min2_int max_two min_two max_three min_three max_four min_four   -- for this text's walks alone
set_option linter.unusedVariables false
set_option linter.unusedSimpArgs false

/-- The members of a list, as values. -/
def memEnc (l : List Int) (x : {x : Int // x ∈ l}) : Value := .int .i64 x.1
theorem putRow_mem {l : List Int} [Inhabited {x : Int // x ∈ l}] (w : World) (blk : Nat) (d : Array {x : Int // x ∈ l}) : Go.Sort.putRow (memEnc l) w blk 0 d = Go.Sort.putRow (Value.int .i64) w blk 0 (d.map Subtype.val) := by
  unfold Go.Sort.putRow
  refine congrArg (Go.Sort.mapBlock w blk) (funext fun c => ?_)
  unfold Go.Sort.putCells
  have : (fun (k : Nat) (x : Value) => if 0 ≤ k ∧ k < 0 + d.size then memEnc l d[k - 0]! else x) = (fun k x => if 0 ≤ k ∧ k < 0 + (d.map Subtype.val).size then Value.int .i64 (d.map Subtype.val)[k - 0]! else x) := by
    funext k x
    by_cases hk : k < d.size
    · simp [hk, memEnc]
    · simp [hk]
  rw [this]
theorem below_sorted {w0 w : World} {blk n : Nat} {os : Array Obj} (d : Array Int) (hB : Below w0.heap.size w0 w) (hblk : w0.heap.size ≤ blk) : Below w0.heap.size w0 (Go.Sort.grow (Go.Sort.putRow (Value.int .i64) (Go.Sort.ahead w n) blk 0 d) os) := by
  have hg := grownBy_sortedI (w := w) (g := blk) (n := n) (os := os) d
  exact ⟨hg.os.trans hB.os, hg.tape.trans hB.tape, hg.output.trans hB.output, Nat.le_trans hB.size hg.size, fun i hi => (hg.block i (Nat.lt_of_lt_of_le hi hB.size) (fun e => by injection e with e; omega)).trans (hB.block i hi)⟩
set_option maxHeartbeats 2000000 in
set_option maxRecDepth 100000 in
theorem slices_DeleteFunc_ints.calls {g : Nat} {lb : Array Value} (eg : ∀ args w, (callFunc g args).run Try.prog w = .ok (.enter g args) w) (p : Int → Bool) (w0 w : World) (blk cap : Nat) (l : List Int) (h0 : 0 ∈ l) (base : Nat) (ok : Nat → Prop)
    (HO : Kd.R (Kd.int .i64) 3 w base ok (.slice (some ⟨blk, 0, none⟩) l.length cap) l) (hB : Below w0.heap.size w0 w) (hblk : w0.heap.size ≤ blk)
    (hp : ∀ (W : World) (x : Int), x ∈ l → Below w0.heap.size w0 W → Calls Try.prog g (#[.int .i64 x] ++ lb) W fun e w' => e = .returned (.bool (p x)) ∧ ∃ q, w' = W.drewN q) :
    Calls Try.prog 71 #[.slice (some ⟨blk, 0, none⟩) l.length cap, .func (.func g) #[] lb] w fun e w' => e = .returned (.slice (some ⟨blk, 0, none⟩) (l.filter fun x => !p x).length cap) ∧ Kd.R (Kd.int .i64) 3 w' base ok (.slice (some ⟨blk, 0, none⟩) (l.filter fun x => !p x).length cap) (l.filter fun x => !p x) ∧ Below w0.heap.size w0 w' := by
  have hown := Kd.own_of_R HO
  have hok := HO.1
  rcases hown.2 with ⟨h, _⟩ | ⟨g', cap', cur, hv, hbase, hb, hn, hcap, hsz, htake⟩
  · cases h
  cases hv
  haveI : Inhabited {x : Int // x ∈ l} := ⟨⟨0, h0⟩⟩
  have hd : (l.attach.toArray).size = l.length := by simp
  have hdm : (l.attach.toArray).map Subtype.val = l.toArray := by simp
  have hlen : l.length ≤ cur.size := by omega
  have htake' : cur.toList.take l.length = l.map (Value.int .i64) := by rw [Nat.mul_one] at htake; exact htake
  have hH0 := holds_of_blockI hb htake'
  have hH : Go.Sort.Holds (memEnc l) w blk 0 l.attach.toArray := fun j hj => by
    have hj' : j < l.length := by omega
    have := hH0 j (by simpa using hj')
    simpa [memEnc, hj'] using this
  have hmax : l.length ≤ 9223372036854775807 := by have : maxLen = 140737488355328 ∨ maxLen ≤ 9223372036854775807 := Or.inr (by decide); rcases this with e | e <;> omega
  have H := Go.Proofs.Try.slices_DeleteFunc (memEnc l) (fun _ => rfl) (fun x => p x.1) g lb eg ⟨0, h0⟩ (fun _ => rfl) blk 0 cap l.attach.toArray w
    (fun W x hW => hp W x.1 x.2 (hB.trans (hW.mono hB.size)))
    (fun n os dk x hdk => by
      unfold Go.Proofs.sortWorld
      rw [putRow_mem]
      exact hp _ x.1 x.2 (below_sorted _ hB hblk))
    hH (by rw [hd]; exact hmax) (by rw [hd]; exact hn)
  rw [hd] at H
  have hfil : ((l.attach).filter fun x => !p x.1).map Subtype.val = l.filter fun x => !p x := by
    have := List.filter_map (f := Subtype.val) (p := fun x => !p x) (l := l.attach)
    rw [List.attach_map_subtype_val] at this
    exact this.symm
  have hfl : ((l.attach).filter fun x => !p x.1).length = (l.filter fun x => !p x).length := by rw [← hfil, List.length_map]
  refine H.mono ?_
  rintro e w' ⟨rfl, q, rfl⟩
  have hle : (l.filter fun x => !p x).length ≤ l.length := List.length_filter_le _ _
  rw [putRow_mem]
  have hts : (((l.attach.toArray).toList.filter fun x => !p x.1) ++ List.replicate (l.length - ((l.attach.toArray).toList.filter fun x => !p x.1).length) (⟨0, h0⟩ : {x : Int // x ∈ l})).toArray.map Subtype.val = ((l.filter fun x => !p x) ++ List.replicate (l.length - (l.filter fun x => !p x).length) 0).toArray := by
    simp [hfil, hfl]
  rw [hts]
  have htl : ((l.filter fun x => !p x) ++ List.replicate (l.length - (l.filter fun x => !p x).length) (0 : Int)).length = l.length := by simp; omega
  refine ⟨by simp [hfl], ?_, ?_⟩
  · refine Kd.R_of_own ⟨by simp [encs], .inr ⟨blk, cap, _, rfl, hbase, heap_sortedI (n := q) (os := #[]) _ hb, by omega, hcap, by simp [Go.Sort.putCells, hsz], ?_⟩⟩ hok
    have := take_putCellsI cur ((l.filter fun x => !p x) ++ List.replicate (l.length - (l.filter fun x => !p x).length) (0 : Int)) (by omega)
    rw [Nat.mul_one]
    have e2 := congrArg (List.take (l.filter fun x => !p x).length) this
    rw [List.take_take, htl, Nat.min_eq_left hle, List.map_append, List.take_left' (by simp)] at e2
    exact e2
  · exact below_sorted (os := #[]) _ hB hblk
/-- Of an empty slice. -/
theorem slices_DeleteFunc_none.calls (a : Option Addr) (c : Nat) (fv : Value) (w : World) :
    Calls Try.prog 71 #[.slice a 0 c, fv] w fun e w' => e = .returned (.slice a 0 c) ∧ Drawn0 w w' := by
  go_enter Try.func71, Try.ntmps71
  go_wp2_with (go_at_call 82; refine (Go.Proofs.Try.slices_IndexFunc_empty (α := Int) a c fv _).mono ?_; rintro e w' ⟨rfl, rfl⟩)
  repeat (go_quiet (fail); try go_wp2)
  go_ret
  exact ⟨rfl, Drawn0.refl _⟩

end Go.Proofs.Ytolaplcjbmjlmaa.X


-- written by a program of this session (wip/ext.py) out of the translation. Not trusted: Lean checks it.
namespace Go.Proofs.Ytolaplcjbmjlmaa.X
open Go.RowKit Go.Proofs.YtolaplcjbmjlmaaW.PrintWords Go.Proofs.YtolaplcjbmjlmaaW.PrintLast Go.Proofs.YtolaplcjbmjlmaaW.PrintMore
attribute [local go_sem] max2_int min2_int max_two min_two max_three min_three max_four min_four   -- for this text's walks alone
set_option linter.unusedVariables false
set_option linter.unusedSimpArgs false

def impl_upTo.l0 : Nat → List Int → Int → Int → Option (List Int)
  | 0, _, _, _ => none
  | k + 1, x3, x6, x7 => if x7 < x6 then (if x3.length < 17592186044416 then (impl_upTo.l0 k (x3 ++ [x7]) x6 (wrap64 (x7 + 1))) else (none)) else (some x3)
def impl_upTo.f (k : Nat) (a0 : Int) : Option (List Int) := impl_upTo.l0 k (([] : List Int)) a0 0
theorem impl_upTo.mono_l : ∀ k, (∀ y0 y1 y2, LeO (impl_upTo.l0 k y0 y1 y2) (impl_upTo.l0 (k + 1) y0 y1 y2))
  | 0 => fun _ _ _ r h => by simp [impl_upTo.l0] at h
  | k + 1 => by
    have ih0 := impl_upTo.mono_l k
    · intro y0 y1 y2
      unfold impl_upTo.l0
      repeat' first
      | (with_reducible exact ih0 _ _ _)
      | (with_reducible exact LeO.refl _)
      | (with_reducible exact LeO.none _)
      | (with_reducible refine LeO.ite ?_ ?_)
      | (with_reducible refine LeO.bind ?_ (fun _ => ?_))
      | exact ih0 _ _ _
      | exact LeO.none _
      | refine LeO.ite ?_ ?_
      | refine LeO.bind ?_ (fun _ => ?_)
theorem impl_upTo.mono : ∀ a0 k, LeO (impl_upTo.f k a0) (impl_upTo.f (k + 1) a0) := by
  intro a0 k
  have ih0 := impl_upTo.mono_l k
  unfold impl_upTo.f
  repeat' first
      | (with_reducible exact ih0 _ _ _)
      | (with_reducible exact LeO.refl _)
      | (with_reducible exact LeO.none _)
      | (with_reducible refine LeO.ite ?_ ?_)
      | (with_reducible refine LeO.bind ?_ (fun _ => ?_))
      | exact ih0 _ _ _
      | exact LeO.none _
      | refine LeO.ite ?_ ?_
      | refine LeO.bind ?_ (fun _ => ?_)
set_option maxHeartbeats 8000000 in
set_option maxRecDepth 100000 in
theorem impl_upTo.calls (k : Nat) (a0 : Int) (r : List Int) (w : World) (h : impl_upTo.f k a0 = some r) :
    Calls Try.prog 72 #[.int .i64 a0] w fun e w' => ∃ v0_ : Value, e = .returned (v0_) ∧ Kd.R (Kd.int .i64) 3 w' w.heap.size (fun _ => True) v0_ r ∧ Below w.heap.size w w' := by
  have HB := Aside0.mk (Below.refl w.heap.size w)
  have H : (impl_upTo.l0 k (([] : List Int)) a0 0) = some r := h
  clear h
  obtain ⟨y551, hy551⟩ : ∃ y_ : List Int, y_ = (([] : List Int)) := ⟨_, rfl⟩
  replace H : (impl_upTo.l0 k y551 a0 0) = some r := by first | (rw [hy551]; with_reducible exact H) | (have H2_ := (Option.bind_some _ _).symm.trans H; rw [hy551]; with_reducible exact H2_) | (have H2_ := (Option.bind_some _ _).symm.trans H; with_reducible exact H2_) | with_reducible exact H | (rw [hy551]; exact H) | exact H
  have Ny551 := Aside0.mk hy551
  clear hy551
  have H' := Aside0.mk H
  clear H
  go_enter Try.func72, Try.ntmps72
  go_wp2_with (first | ((with_reducible refine gate_dst (N := 5) rfl ?_); refine Kd.R_lit (Kd.int .i64) _ 3 ?hg (N := 5) ?hd (xs := ([] : List Int)) (inner := []) (ok := fun _ => True) (okp := fun _ => True) ?hr ?hp (fun _ hk => hk) trivial (Below.refl _ _) (Nat.le_refl _) (by simp) ?_; (case hd => rfl); (case hg => rfl); (case hr => first | (go_simp; done) | (go_simp; rfl)); (case hp => exact (Reps.none _ _)); intro v552 w2 ho3 hb hg_ hnew_; clear hg_ hnew_; (first | rw [← Ny551.out] at ho3 | (simp only [Int.reduceToNat] at ho3; rw [← Ny551.out] at ho3)); have n0_ := Aside0.mk (Kd.R_lower ho3 (below_size (by repeat (first | (with_reducible first | exact HB.out | apply below_alloc | apply pw_below_drewN | apply below_drew1) | exact HB.out)))); have n1_ := Aside0.mk (below_step (by repeat (first | (with_reducible first | exact HB.out | apply below_alloc | apply pw_below_drewN | apply below_drew1) | exact HB.out)) hb); clear HB; have HO553 := n0_; have HB := n1_; clear n0_ n1_; clear hb ho3))
  go_loopg [3, 7] k (fun kq v3 v7 w' => ∃ (x3_1 : List Int) (x7_1 : Int), v7 = .int .i64 x7_1 ∧ Aside0 (impl_upTo.l0 kq x3_1 a0 x7_1 = some r) ∧ Aside0 (kq ≤ k) ∧ Aside0 (Kd.R (Kd.int .i64) 3 w' w.heap.size (fun _ => True) v3 x3_1) ∧ Aside0 (Below w.heap.size w w'))
  case atStart => exact ⟨(y551), (0), (by first | rfl | (simp; done) | (simp [*]; done)), H', ⟨Nat.le_refl _⟩, ⟨by (with_reducible repeat (first | apply Kd.R_alloc | apply Kd.R_drewN | apply Kd.R_drew)); exact HO553.out⟩, ⟨by repeat (first | (with_reducible first | exact HB.out | apply below_alloc | apply pw_below_drewN | apply below_drew1) | exact HB.out)⟩⟩
  case round =>
    clear H'
    try clear p2
    obtain ⟨x3_1, x7_1, rfl, HA, HK1, HO_3, HB⟩ := hrel
    cases gk with
    | zero => exact absurd HA.out (by simp [impl_upTo.l0])
    | succ k1 =>
      have H := HA.out
      clear HA
      simp only [impl_upTo.l0] at H
      by_cases c4 : x7_1 < a0
      · rw [if_pos c4] at H
        have c4b0 : decide (x7_1 < a0) = true := decide_eq_true c4
        clear c4
        by_cases c5 : x3_1.length < 17592186044416
        · rw [if_pos c5] at H
          have LMc5 := Aside0.mk c5
          clear c5
          obtain ⟨y554, hy554⟩ : ∃ y_ : List Int, y_ = (x3_1 ++ [x7_1]) := ⟨_, rfl⟩
          replace H : (impl_upTo.l0 k1 y554 a0 (wrap64 (x7_1 + 1))) = some r := by first | (rw [hy554]; with_reducible exact H) | (have H2_ := (Option.bind_some _ _).symm.trans H; rw [hy554]; with_reducible exact H2_) | (have H2_ := (Option.bind_some _ _).symm.trans H; with_reducible exact H2_) | with_reducible exact H | (rw [hy554]; exact H) | exact H
          have Ny554 := Aside0.mk hy554
          clear hy554
          have H' := Aside0.mk H
          clear H
          go_wp2_with (first | ((with_reducible refine gate_builtin (b := .append) (xs := #[.tmp 10, .tmp 12]) rfl ?_); at_builtin; refine Kd.R_append (Kd.int .i64) (w0 := w) w.heap.size rfl (.tmp 10) (.tmp 12) 53 3 (.int .i64 0) 8 rfl Try.underlying53 info3 rfl (by decide) (by omega) u3 x3_1 x7_1 [.int .i64 x7_1] (fun _ => True) (fun _ => False) rfl rfl ?aP (fun _ hk => hk.elim) ?aF ?aO ?aB ?aS ?aL ?_; (case aP => exact rfl); (case aB => exact (by repeat (first | (with_reducible first | exact HB.out | apply below_alloc | apply pw_below_drewN | apply below_drew1) | exact HB.out))); (case aF => exact (fun _ _ => trivial)); (case aO => exact (by (with_reducible repeat (first | apply Kd.R_alloc | apply Kd.R_drewN | apply Kd.R_drew)); exact HO_3.out)); (case aS => exact (below_size (by repeat (first | (with_reducible first | exact HB.out | apply below_alloc | apply pw_below_drewN | apply below_drew1) | exact HB.out)))); (case aL => have := LMc5.out; omega); intro v555 w6 ho hb hg hat; rw [← Ny554.out] at ho; have n0_ := Aside0.mk (hb); have n1_ := Aside0.mk (ho); clear HB; clear HO_3; have HB := n0_; have HO556 := n1_; clear n0_ n1_; clear ho hb hg hat))
          go_roundg k1
          case measure => have := HK1.out; omega
          case rel => exact ⟨(y554), (wrap64 (x7_1 + 1)), (by first | rfl | (simp; done) | (simp [*]; done)), H', ⟨by have := HK1.out; omega⟩, ⟨by (with_reducible repeat (first | apply Kd.R_alloc | apply Kd.R_drewN | apply Kd.R_drew)); exact HO556.out⟩, ⟨by repeat (first | (with_reducible first | exact HB.out | apply below_alloc | apply pw_below_drewN | apply below_drew1) | exact HB.out)⟩⟩
        · rw [if_neg c5] at H
          exact absurd H (by simp)
      · rw [if_neg c4] at H
        have c4b0 : decide (x7_1 < a0) = false := decide_eq_false c4
        clear c4
        obtain rfl := Option.some.inj H
        go_wp2
        go_ret
        exact ⟨_, by first | rfl | (simp [errW_none, errW_some] <;> rfl) | (simp [*, errW_none, errW_some] <;> rfl), by (with_reducible repeat (first | apply Kd.R_alloc | apply Kd.R_drewN | apply Kd.R_drew)); exact HO_3.out, by repeat (first | (with_reducible first | exact HB.out | apply below_alloc | apply pw_below_drewN | apply below_drew1) | exact HB.out)⟩

end Go.Proofs.Ytolaplcjbmjlmaa.X


-- written by a program of this session (wip/ext.py) out of the translation. Not trusted: Lean checks it.
namespace Go.Proofs.Ytolaplcjbmjlmaa.X
open Go.RowKit Go.Proofs.YtolaplcjbmjlmaaW.PrintWords Go.Proofs.YtolaplcjbmjlmaaW.PrintLast Go.Proofs.YtolaplcjbmjlmaaW.PrintMore
attribute [local go_sem] max2_int min2_int max_two min_two max_three min_three max_four min_four   -- for this text's walks alone
set_option linter.unusedVariables false
set_option linter.unusedSimpArgs false

/-- A stable sort, number by number. -/
def stabL (f : Int → Int → Bool) (l : List Int) : List Int := l.foldl (fun out v => putIn (f v) v out) []
section
variable {p : Int → Prop}
/-- The numbers of an array of members. -/
def vals_ (d : Array {x : Int // p x}) : List Int := d.toList.map Subtype.val
theorem vals_length (d : Array {x : Int // p x}) : (vals_ d).length = d.size := by simp [vals_]
theorem vals_get [Inhabited {x : Int // p x}] (d : Array {x : Int // p x}) (j : Nat) (h : j < d.size) : rd (vals_ d) (j : Int) = (d[j]!).val := by
  have h1 : j < (vals_ d).length := by rw [vals_length]; exact h
  simp only [rd, Int.toNat_natCast, List.getD_eq_getElem?_getD, List.getElem?_eq_getElem h1, Option.getD_some]
  simp [vals_, h]
theorem posIn_same (f : Int → Bool) (a b : List Int) : ∀ x : Nat, (∀ j : Nat, j < x → rd a (j : Int) = rd b (j : Int)) → posIn f a x = posIn f b x
  | 0, _ => rfl
  | x + 1, h => by
    unfold posIn
    rw [h x (by omega), posIn_same f a b x (fun j hj => h j (by omega))]
theorem split2 (D : List Int) (x : Nat) (h : x + 1 < D.length) : ∃ A B : List Int, A.length = x ∧ D = A ++ rd D (x : Int) :: rd D ((x + 1 : Nat) : Int) :: B := by
  refine ⟨D.take x, D.drop (x + 2), by rw [List.length_take]; omega, ?_⟩
  have e1 : D.drop x = D[x] :: D.drop (x + 1) := List.drop_eq_getElem_cons (by omega)
  have e2 : D.drop (x + 1) = D[x + 1] :: D.drop (x + 2) := List.drop_eq_getElem_cons h
  have r1 : rd D (x : Int) = D[x] := by simp [rd, List.getD_eq_getElem?_getD, List.getElem?_eq_getElem (show x < D.length by omega)]
  have r2 : rd D ((x + 1 : Nat) : Int) = D[x + 1] := by simp only [rd, Int.toNat_natCast, List.getD_eq_getElem?_getD, List.getElem?_eq_getElem h, Option.getD_some]
  rw [r1, r2]
  have := (List.take_append_drop x D).symm
  rw [e1, e2] at this
  exact this
theorem vals_swp [Inhabited {x : Int // p x}] (d : Array {x : Int // p x}) (x : Nat) (h : x + 1 < d.size) : vals_ (Go.Sort.swp d (x + 1) x) = ((vals_ d).set (x + 1) (rd (vals_ d) (x : Int))).set x (rd (vals_ d) ((x + 1 : Nat) : Int)) := by
  rw [vals_get d x (by omega), vals_get d (x + 1) h]
  unfold vals_ Go.Sort.swp
  simp [List.map_set]
theorem insInner_list [Inhabited {x : Int // p x}] (lt : {x : Int // p x} → {x : Int // p x} → Bool) (f : Int → Int → Bool) (hlt : ∀ a b, lt a b = f a.val b.val) : ∀ (x : Nat) (d : Array {x : Int // p x}), x < d.size →
    vals_ (Go.Sort.insInner lt 0 x d) = putIn (f (rd (vals_ d) (x : Int))) (rd (vals_ d) (x : Int)) ((vals_ d).take x) ++ (vals_ d).drop (x + 1)
  | 0, d, h => by
    have hl : 0 < (vals_ d).length := by rw [vals_length]; exact h
    unfold Go.Sort.insInner
    cases hD : vals_ d with
    | nil => rw [hD] at hl; cases hl
    | cons a r => simp [putIn, posIn, rd]
  | x + 1, d, h => by
    have hl : x + 1 < (vals_ d).length := by rw [vals_length]; exact h
    obtain ⟨A, B, hA, hD⟩ := split2 (vals_ d) x hl
    have hc : (decide (x + 1 > 0) && lt d[x + 1]! d[x]!) = f (rd (vals_ d) ((x + 1 : Nat) : Int)) (rd (vals_ d) (x : Int)) := by rw [hlt, vals_get d x (by omega), vals_get d (x + 1) h]; simp
    unfold Go.Sort.insInner
    have hsw := vals_swp d x h
    generalize hv : rd (vals_ d) ((x + 1 : Nat) : Int) = v at hc hD hsw ⊢
    generalize hy : rd (vals_ d) (x : Int) = y at hc hD hsw
    have ht1 : (vals_ d).take (x + 1) = A ++ [y] := by rw [hD, ← hA, List.take_append, List.take_of_length_le (by omega)]; simp
    have hd2 : (vals_ d).drop (x + 1 + 1) = B := by rw [hD, ← hA, List.drop_append, List.drop_of_length_le (by omega), show A.length + 1 + 1 - A.length = 2 by omega]; rfl
    have hry : rd (A ++ [y]) (x : Int) = y := by simp [rd, ← hA]
    rw [hc, ht1, hd2]
    unfold putIn
    have hlen : (A ++ [y]).length = x + 1 := by simp [hA]
    rw [hlen]
    have hpos : posIn (f v) (A ++ [y]) (x + 1) = if f v y = true then posIn (f v) (A ++ [y]) x else x + 1 := by
      show (if f v (rd (A ++ [y]) (x : Int)) = true then posIn (f v) (A ++ [y]) x else x + 1) = _
      rw [hry]
    rw [hpos]
    cases hf : f v y with
    | true =>
      simp only [if_true]
      have hs : (Go.Sort.swp d (x + 1) x).size = d.size := by unfold Go.Sort.swp; simp
      have ih := insInner_list lt f hlt x (Go.Sort.swp d (x + 1) x) (by omega)
      have hV : vals_ (Go.Sort.swp d (x + 1) x) = A ++ v :: y :: B := by
        rw [hsw, hD]
        subst hA
        simp [List.set_append]
      rw [hV] at ih
      have hrv : rd (A ++ v :: y :: B) (x : Int) = v := by simp [rd, ← hA]
      have hta : (A ++ v :: y :: B).take x = A := by simp [← hA]
      have hda : (A ++ v :: y :: B).drop (x + 1) = y :: B := by simp [List.drop_append, ← hA]
      rw [hrv, hta, hda] at ih
      rw [ih]
      unfold putIn
      rw [hA]
      have hps : posIn (f v) (A ++ [y]) x = posIn (f v) A x := posIn_same _ _ _ _ (fun j hj => by simp [rd, List.getD_eq_getElem?_getD, List.getElem?_append_left (show j < A.length by omega)])
      rw [hps]
      have hle := posIn_le (f v) A x
      generalize posIn (f v) A x = q at hle ⊢
      rw [List.take_append_of_le_length (by omega), List.drop_append_of_le_length (by omega)]
      simp
    | false =>
      simp only [Bool.false_eq_true, if_false]
      rw [← hlen, List.take_length, List.drop_length, hD]
      simp
theorem insOuter_list [Inhabited {x : Int // p x}] (lt : {x : Int // p x} → {x : Int // p x} → Bool) (f : Int → Int → Bool) (hlt : ∀ a b, lt a b = f a.val b.val) : ∀ (n i : Nat) (d : Array {x : Int // p x}), d.size - i = n → i ≤ d.size →
    vals_ (Go.Sort.insOuter lt 0 d.size i d) = ((vals_ d).drop i).foldl (fun out v => putIn (f v) v out) ((vals_ d).take i)
  | 0, i, d, hn, hi => by
    have hl := vals_length d
    rw [Go.Sort.insOuter, if_neg (by omega), List.drop_of_length_le (by omega), List.take_of_length_le (by omega)]
    rfl
  | n + 1, i, d, hn, hi => by
    have hl := vals_length d
    have hlt2 : i < d.size := by omega
    have key := insInner_list lt f hlt i d hlt2
    have hpl : (putIn (f (rd (vals_ d) (i : Int))) (rd (vals_ d) (i : Int)) ((vals_ d).take i)).length = i + 1 := by rw [putIn_length, List.length_take]; omega
    have hsz : (Go.Sort.insInner lt 0 i d).size = d.size := by
      have := congrArg List.length key
      rw [vals_length, List.length_append, hpl, List.length_drop] at this
      omega
    have ih := insOuter_list lt f hlt n (i + 1) (Go.Sort.insInner lt 0 i d) (by omega) (by omega)
    rw [hsz] at ih
    rw [Go.Sort.insOuter, if_pos hlt2, ih, key]
    have e1 : (putIn (f (rd (vals_ d) (i : Int))) (rd (vals_ d) (i : Int)) ((vals_ d).take i) ++ (vals_ d).drop (i + 1)).drop (i + 1) = (vals_ d).drop (i + 1) := by rw [← hpl]; simp [hpl]
    have e2 : (putIn (f (rd (vals_ d) (i : Int))) (rd (vals_ d) (i : Int)) ((vals_ d).take i) ++ (vals_ d).drop (i + 1)).take (i + 1) = putIn (f (rd (vals_ d) (i : Int))) (rd (vals_ d) (i : Int)) ((vals_ d).take i) := by rw [← hpl]; simp [hpl]
    rw [e1, e2]
    have e3 : (vals_ d).drop i = rd (vals_ d) (i : Int) :: (vals_ d).drop (i + 1) := by
      rw [List.drop_eq_getElem_cons (by omega : i < (vals_ d).length)]
      simp [rd, List.getD_eq_getElem?_getD, List.getElem?_eq_getElem (show i < (vals_ d).length by omega)]
    rw [e3, List.foldl_cons]
theorem insertionSort_list [Inhabited {x : Int // p x}] (lt : {x : Int // p x} → {x : Int // p x} → Bool) (f : Int → Int → Bool) (hlt : ∀ a b, lt a b = f a.val b.val) (d : Array {x : Int // p x}) : vals_ (Go.Sort.insertionSort lt d 0 d.size) = stabL f (vals_ d) := by
  unfold Go.Sort.insertionSort stabL
  have hl := vals_length d
  by_cases h : d.size = 0
  · have e : vals_ d = [] := List.eq_nil_of_length_eq_zero (by omega)
    rw [Go.Sort.insOuter, if_neg (by omega), e]
    rfl
  · rw [insOuter_list lt f hlt _ 1 d rfl (by omega)]
    cases hD : vals_ d with
    | nil => rw [hD] at hl; simp at hl; omega
    | cons a r => simp [putIn, posIn]
end
section
variable {p : Int → Prop}
/-- The members, as values. -/
def encP (x : {x : Int // p x}) : Value := .int .i64 x.1
theorem putRow_encP [Inhabited {x : Int // p x}] (w : World) (blk : Nat) (d : Array {x : Int // p x}) : Go.Sort.putRow encP w blk 0 d = Go.Sort.putRow (Value.int .i64) w blk 0 (d.map Subtype.val) := by
  unfold Go.Sort.putRow
  refine congrArg (Go.Sort.mapBlock w blk) (funext fun c => ?_)
  unfold Go.Sort.putCells
  have : (fun (k : Nat) (x : Value) => if 0 ≤ k ∧ k < 0 + d.size then encP d[k - 0]! else x) = (fun k x => if 0 ≤ k ∧ k < 0 + (d.map Subtype.val).size then Value.int .i64 (d.map Subtype.val)[k - 0]! else x) := by
    funext k x
    by_cases hk : k < d.size
    · simp [hk, encP]
    · simp [hk]
  rw [this]
theorem below_sorted_own {w0 w : World} {blk n : Nat} {os : Array Obj} (d : Array Int) (hB : Below w0.heap.size w0 w) (hblk : w0.heap.size ≤ blk) : Below w0.heap.size w0 (Go.Sort.grow (Go.Sort.putRow (Value.int .i64) (Go.Sort.ahead w n) blk 0 d) os) := by
  have hg := grownBy_sortedI (w := w) (g := blk) (n := n) (os := os) d
  exact ⟨hg.os.trans hB.os, hg.tape.trans hB.tape, hg.output.trans hB.output, Nat.le_trans hB.size hg.size, fun i hi => (hg.block i (Nat.lt_of_lt_of_le hi hB.size) (fun e => by injection e with e; omega)).trans (hB.block i hi)⟩
variable [Inhabited {x : Int // p x}]
theorem cmpReads_of {g : Nat} {lb : Array Value} {cf : Int → Int → Int} {w0 : World} {blk : Nat} (hblk : w0.heap.size ≤ blk)
    (hcmp : ∀ (W : World) (x y : Int), p x → p y → Below w0.heap.size w0 W → Calls Try.prog g (#[.int .i64 x, .int .i64 y] ++ lb) W fun e w' => e = .returned (.int .i64 (cf x y)) ∧ ∃ q, w' = W.drewN q)
    (W : World) (hW : Below w0.heap.size w0 W) (n : Nat) : Go.Proofs.CmpReads Try.prog g lb (encP (p := p)) (fun a b => cf a.1 b.1) blk 0 n W := by
  intro m os dk _ x y
  refine hcmp _ x.1 y.1 x.2 y.2 ?_
  unfold Go.Proofs.sortWorld
  rw [putRow_encP]
  exact below_sorted_own _ hW hblk
theorem below_put {w0 W : World} {blk n : Nat} (hblk : w0.heap.size ≤ blk) (hW : Below w0.heap.size w0 W) (d : Array {x : Int // p x}) : Below w0.heap.size w0 ((Go.Sort.putRow encP W blk 0 d).drewN n) := by
  rw [putRow_encP]
  have := below_sorted_own (n := n) (os := #[]) (d.map Subtype.val) hW hblk
  rw [Go.Sort.grow_empty] at this
  exact this
set_option maxHeartbeats 8000000 in
set_option maxRecDepth 100000 in
theorem slices_stableCmp.calls {g : Nat} {lb : Array Value} (eg : ∀ args w, (callFunc g args).run Try.prog w = .ok (.enter g args) w) (cf : Int → Int → Int) (w0 w : World) (blk cap : Nat) (d : Array {x : Int // p x}) (h20 : d.size ≤ 20) (hB : Below w0.heap.size w0 w) (hblk : w0.heap.size ≤ blk)
    (hcmp : ∀ (W : World) (x y : Int), p x → p y → Below w0.heap.size w0 W → Calls Try.prog g (#[.int .i64 x, .int .i64 y] ++ lb) W fun e w' => e = .returned (.int .i64 (cf x y)) ∧ ∃ q, w' = W.drewN q) (hH : Go.Sort.Holds encP w blk 0 d) :
    Calls Try.prog 83 #[.slice (some ⟨blk, 0, none⟩) d.size cap, .int .i64 d.size, .func (.func g) #[] lb] w fun e w' => e = .returned (.tuple #[]) ∧ ∃ n, w' = (Go.Sort.putRow encP w blk 0 (Go.Sort.insertionSort (Go.Proofs.ltOf fun a b => cf a.1 b.1) d 0 d.size)).drewN n := by
  have H1 := Aside0.mk (Go.Proofs.Try.insertionSortCmpFunc_one encP (fun _ => rfl) (fun a b => cf a.1 b.1) g lb blk 0 cap 0 d.size d w eg (cmpReads_of hblk hcmp w hB _) hH (Nat.zero_le _) (Nat.le_refl _) (by omega))
  obtain ⟨S, hS⟩ : ∃ S, S = Go.Sort.insertionSort (Go.Proofs.ltOf fun a b => cf a.1 b.1) d 0 d.size := ⟨_, rfl⟩
  rw [← hS] at H1 ⊢
  have hSz : S.size = d.size := by
    have h1 := insertionSort_list (Go.Proofs.ltOf fun (a b : {x : Int // p x}) => cf a.1 b.1) (fun v y => decide (cf v y < 0)) (fun _ _ => rfl) d
    rw [← hS] at h1
    have h2 : ∀ (l out : List Int), (l.foldl (fun out v => putIn (fun y => decide (cf v y < 0)) v out) out).length = out.length + l.length := by
      intro l
      induction l with
      | nil => intro out; simp
      | cons a r ih => intro out; rw [List.foldl_cons, ih, putIn_length, List.length_cons]; omega
    have h3 := congrArg List.length h1
    rw [vals_length] at h3
    unfold stabL at h3
    rw [h2, vals_length] at h3
    simpa using h3
  have H2 : Aside0 (∀ n, Calls Try.prog 88 #[.slice (some ⟨blk, 0, none⟩) d.size cap, .int .i64 d.size, .int .i64 d.size, .func (.func g) #[] lb] ((Go.Sort.putRow encP w blk 0 S).drewN n) fun e w' => e = .returned (.tuple #[]) ∧ ∃ m, w' = (Go.Sort.putRow encP w blk 0 S).drewN m) := ⟨fun n => by
    have hh : Go.Sort.Holds encP ((Go.Sort.putRow encP w blk 0 S).drewN n) blk 0 S := Go.Sort.holds_putRow encP w blk 0 d S hH hSz
    have h := Go.Proofs.Try.insertionSortCmpFunc_one encP (fun _ => rfl) (fun a b => cf a.1 b.1) g lb blk 0 cap d.size d.size S ((Go.Sort.putRow encP w blk 0 S).drewN n) eg (cmpReads_of hblk hcmp _ (below_put hblk hB S) _) hh (Nat.le_refl _) (by omega) (by omega)
    rw [hSz] at h
    refine h.mono ?_
    rintro e w' ⟨rfl, m, rfl⟩
    have hid : Go.Sort.insertionSort (Go.Proofs.ltOf fun (a b : {x : Int // p x}) => cf a.1 b.1) S d.size d.size = S := by unfold Go.Sort.insertionSort; rw [Go.Sort.insOuter, if_neg (by omega)]
    rw [hid, Go.Sort.putRow_self encP _ blk 0 S hh]
    exact ⟨rfl, n + m, World.drewN_drewN _ _ _⟩⟩
  clear hcmp hH hS
  have c40 : decide ((40 : Int) ≤ (d.size : Int)) = false := decide_eq_false (by omega)
  have cb : decide ((20 : Int) < (d.size : Int)) = false := decide_eq_false (by omega)
  have hw40 : IntKind.i64.wrap (20 + 20) = 40 := by decide
  go_enter Try.func83, Try.ntmps83
  go_wp2
  go_loopg [7, 8] 1 (fun gg v7 v8 w' => (v7 = .int .i64 0 ∧ v8 = .int .i64 20 ∧ Aside0 (w = w') ∧ Aside0 (gg = 1)) ∨ (v7 = .int .i64 20 ∧ v8 = .int .i64 40 ∧ Aside0 (d.size = 20) ∧ Aside0 (∃ n, w' = (Go.Sort.putRow encP w blk 0 S).drewN n)))
  case atStart => exact .inl ⟨rfl, rfl, ⟨rfl⟩, ⟨rfl⟩⟩
  case round =>
    rcases hrel with ⟨rfl, rfl, HW, HG⟩ | ⟨rfl, rfl, HD, HW⟩
    · obtain ⟨rfl⟩ := HW
      by_cases h : d.size = 20
      · have c20 : decide ((20 : Int) ≤ (d.size : Int)) = true := decide_eq_true (by omega)
        have H1' := H1.out
        rw [show ((d.size : Nat) : Int) = 20 by omega] at H1'
        have HD := Aside0.mk h
        clear h
        go_wp2_with (go_at_call 88; refine H1'.mono ?_; rintro e w' ⟨rfl, n, rfl⟩)
        go_roundg 0
        case measure => have := HG.out; omega
        case rel => exact .inr ⟨rfl, by first | rfl | (rw [hw40]), HD, ⟨_, rfl⟩⟩
      · have c20 : decide ((20 : Int) ≤ (d.size : Int)) = false := decide_eq_false (by omega)
        clear h
        go_wp2_with (go_at_call 88; refine H1.out.mono ?_; rintro e w' ⟨rfl, n, rfl⟩)
        go_loopg [6] 0 (fun gg v6 w' => v6 = .int .i64 20 ∧ Aside0 (w' = (Go.Sort.putRow encP w blk 0 S).drewN n))
        case atStart => exact ⟨rfl, ⟨rfl⟩⟩
        case round =>
          obtain ⟨rfl, HW⟩ := hrel
          obtain ⟨rfl⟩ := HW
          go_wp2
          go_end0
          exact ⟨rfl, _, rfl⟩
    · obtain ⟨n, rfl⟩ := HW.out
      have H2' := H2.out n
      rw [show ((d.size : Nat) : Int) = 20 from by have := HD.out; omega] at H2'
      have cd : ((d.size : Nat) : Int) = 20 := by have := HD.out; omega
      clear HW
      go_wp2_with (go_at_call 88; rw [cd]; refine H2'.mono ?_; rintro e w' ⟨rfl, m, rfl⟩)
      go_loopg [6] 0 (fun gg v6 w' => v6 = .int .i64 20 ∧ Aside0 (w' = (Go.Sort.putRow encP w blk 0 S).drewN m))
      case atStart => exact ⟨rfl, ⟨rfl⟩⟩
      case round =>
        obtain ⟨rfl, HW⟩ := hrel
        obtain ⟨rfl⟩ := HW
        go_wp2
        go_end0
        exact ⟨rfl, _, rfl⟩
end
theorem stabL_length (f : Int → Int → Bool) (l : List Int) : (stabL f l).length = l.length := by
  have h2 : ∀ (l out : List Int), (l.foldl (fun out v => putIn (f v) v out) out).length = out.length + l.length := by
    intro l
    induction l with
    | nil => intro out; simp
    | cons a r ih => intro out; rw [List.foldl_cons, ih, putIn_length, List.length_cons]; omega
  unfold stabL
  rw [h2]
  simp
set_option maxHeartbeats 8000000 in
set_option maxRecDepth 100000 in
/-- slices.SortStableFunc of a row of the call's own, of at most 20 numbers. -/
theorem slices_SortStableFunc_own.calls {g : Nat} {lb : Array Value} (eg : ∀ args w, (callFunc g args).run Try.prog w = .ok (.enter g args) w) (p : Int → Prop) (p0 : p 0) (cf : Int → Int → Int) (w0 w : World) (blk cap : Nat) (l : List Int) (hpl : ∀ x ∈ l, p x) (h20 : l.length ≤ 20) (base : Nat) (ok : Nat → Prop)
    (HO : Kd.R (Kd.int .i64) 3 w base ok (.slice (some ⟨blk, 0, none⟩) l.length cap) l) (hB : Below w0.heap.size w0 w) (hblk : w0.heap.size ≤ blk)
    (hcmp : ∀ (W : World) (x y : Int), p x → p y → Below w0.heap.size w0 W → Calls Try.prog g (#[.int .i64 x, .int .i64 y] ++ lb) W fun e w' => e = .returned (.int .i64 (cf x y)) ∧ ∃ q, w' = W.drewN q) :
    Calls Try.prog 74 #[.slice (some ⟨blk, 0, none⟩) l.length cap, .func (.func g) #[] lb] w fun e w' => e = .returned (.tuple #[]) ∧ Kd.R (Kd.int .i64) 3 w' base ok (.slice (some ⟨blk, 0, none⟩) (stabL (fun v y => decide (cf v y < 0)) l).length cap) (stabL (fun v y => decide (cf v y < 0)) l) ∧ Below w0.heap.size w0 w' := by
  have hown := Kd.own_of_R HO
  have hok := HO.1
  rcases hown.2 with ⟨h, _⟩ | ⟨g', cap', cur, hv, hbase, hb, hn, hcap, hsz, htake⟩
  · cases h
  cases hv
  haveI : Inhabited {x : Int // p x} := ⟨⟨0, p0⟩⟩
  obtain ⟨d, hd⟩ : ∃ d : Array {x : Int // p x}, d = (l.attach.map fun x => (⟨x.1, hpl x.1 x.2⟩ : {x : Int // p x})).toArray := ⟨_, rfl⟩
  have hds : d.size = l.length := by rw [hd]; simp
  have hdv : vals_ d = l := by rw [hd]; unfold vals_; simp [List.map_map, Function.comp_def]
  have hlen : l.length ≤ cur.size := by omega
  have htake' : cur.toList.take l.length = l.map (Value.int .i64) := by rw [Nat.mul_one] at htake; exact htake
  have hH0 := holds_of_blockI hb htake'
  have hH : Go.Sort.Holds encP w blk 0 d := fun j hj => by
    have hj' : j < l.length := by omega
    have h1 := hH0 j (by simpa using hj')
    have h2 : (d[j]!).val = l.toArray[j]! := by
      have := vals_get d j hj
      rw [hdv] at this
      rw [← this]
      simp [rd, hj', List.getD_eq_getElem?_getD]
    rw [show encP d[j]! = Value.int .i64 l.toArray[j]! from congrArg (Value.int .i64) h2]
    exact h1
  have H := Aside0.mk (slices_stableCmp.calls eg cf w0 w blk cap d (by omega) hB hblk hcmp hH)
  have hins := insertionSort_list (Go.Proofs.ltOf fun (a b : {x : Int // p x}) => cf a.1 b.1) (fun v y => decide (cf v y < 0)) (fun _ _ => rfl) d
  rw [hdv] at hins
  rw [hds] at H hins
  have hsl := stabL_length (fun v y => decide (cf v y < 0)) l
  clear hcmp hH hH0 hd
  go_enter Try.func74, Try.ntmps74
  go_wp2_with (go_at_call 83; refine H.out.mono ?_; rintro e w' ⟨rfl, n, rfl⟩)
  go_end0
  rw [putRow_encP]
  have e1 : (Go.Sort.insertionSort (Go.Proofs.ltOf fun (a b : {x : Int // p x}) => cf a.1 b.1) d 0 l.length).map Subtype.val = (stabL (fun v y => decide (cf v y < 0)) l).toArray := by
    apply Array.ext'
    rw [Array.toList_map]
    exact hins
  rw [e1]
  generalize stabL (fun v y => decide (cf v y < 0)) l = ts at hsl ⊢
  have hw : (Go.Sort.putRow (Value.int .i64) w blk 0 ts.toArray).drewN n = Go.Sort.grow (Go.Sort.putRow (Value.int .i64) (Go.Sort.ahead w n) blk 0 ts.toArray) #[] := by rw [Go.Sort.grow_empty]; rfl
  rw [hw]
  refine ⟨rfl, ?_, below_sorted_own _ hB hblk⟩
  have htk := take_putCellsI cur ts (by omega)
  refine Kd.R_of_own ⟨by simp [encs], .inr ⟨blk, cap, _, rfl, hbase, heap_sortedI (n := n) (os := #[]) _ hb, by omega, hcap, by simp [Go.Sort.putCells, hsz], ?_⟩⟩ hok
  rw [Nat.mul_one]
  exact htk
set_option maxHeartbeats 8000000 in
/-- Of an empty slice. -/
theorem slices_insertion_none.calls (a : Option Addr) (c : Nat) (fv : Value) (w : World) :
    Calls Try.prog 88 #[.slice a 0 c, .int .i64 0, .int .i64 0, fv] w fun e w' => e = .returned (.tuple #[]) ∧ Drawn0 w w' := by
  go_enter Try.func88, Try.ntmps88
  go_wp2
  go_loopg [8] 0 (fun gg v8 w' => v8 = .int .i64 1 ∧ Aside0 (w = w'))
  case atStart => exact ⟨by first | rfl | decide, ⟨rfl⟩⟩
  case round =>
    obtain ⟨rfl, HW⟩ := hrel
    obtain ⟨rfl⟩ := HW
    go_wp2
    go_end0
    exact ⟨rfl, Drawn0.refl _⟩
set_option maxHeartbeats 8000000 in
theorem slices_stableCmp_none.calls (a : Option Addr) (c : Nat) (fv : Value) (w : World) :
    Calls Try.prog 83 #[.slice a 0 c, .int .i64 0, fv] w fun e w' => e = .returned (.tuple #[]) ∧ Drawn0 w w' := by
  go_enter Try.func83, Try.ntmps83
  go_wp2
  go_loopg [7, 8] 0 (fun gg v7 v8 w' => v7 = .int .i64 0 ∧ v8 = .int .i64 20 ∧ Aside0 (w = w'))
  case atStart => exact ⟨rfl, rfl, ⟨rfl⟩⟩
  case round =>
    obtain ⟨rfl, rfl, HW⟩ := hrel
    obtain ⟨rfl⟩ := HW
    go_wp2_with (go_at_call 88; refine (slices_insertion_none.calls a c fv _).mono ?_; rintro e w' ⟨rfl, ⟨nd, rfl⟩⟩)
    go_loopg [6] 0 (fun gg v6 w' => v6 = .int .i64 20 ∧ Aside0 (w' = w.drewN nd))
    case atStart => exact ⟨rfl, ⟨rfl⟩⟩
    case round =>
      obtain ⟨rfl, HW⟩ := hrel
      obtain ⟨rfl⟩ := HW
      go_wp2
      go_end0
      exact ⟨rfl, ⟨_, rfl⟩⟩
set_option maxHeartbeats 8000000 in
theorem slices_SortStableFunc_none.calls (a : Option Addr) (c : Nat) (f : Fn) (t lb : Array Value) (w : World) :
    Calls Try.prog 74 #[.slice a 0 c, .func f t lb] w fun e w' => e = .returned (.tuple #[]) ∧ Drawn0 w w' := by
  go_enter Try.func74, Try.ntmps74
  go_wp2_with (go_at_call 83; refine (slices_stableCmp_none.calls a c _ _).mono ?_; rintro e w' ⟨rfl, ⟨nd, rfl⟩⟩)
  go_end0
  exact ⟨rfl, ⟨_, rfl⟩⟩
def slices_SortStableFunc_ints.f (l0 : List Int) : Option (List Int) := some l0

end Go.Proofs.Ytolaplcjbmjlmaa.X


-- written by a program of this session (wip/ext.py) out of the translation. Not trusted: Lean checks it.
namespace Go.Proofs.Ytolaplcjbmjlmaa.X
open Go.RowKit Go.Proofs.YtolaplcjbmjlmaaW.PrintWords Go.Proofs.YtolaplcjbmjlmaaW.PrintLast Go.Proofs.YtolaplcjbmjlmaaW.PrintMore
attribute [local go_sem] max2_int min2_int max_two min_two max_three min_three max_four min_four   -- for this text's walks alone
set_option linter.unusedVariables false
set_option linter.unusedSimpArgs false

def cmp_isNaN_int.f (a0 : Int) : Option (Bool) := some (a0 != a0)
set_option maxHeartbeats 8000000 in
set_option maxRecDepth 100000 in
theorem cmp_isNaN_int.calls (a0 : Int) (r : Bool) (w : World) (h : cmp_isNaN_int.f a0 = some r) :
    Calls Try.prog 84 #[.int .i64 a0] w fun e w' => e = .returned (.bool r) ∧ Drawn0 w w' := by
  have H : (some (a0 != a0)) = some r := h
  clear h
  obtain rfl := Option.some.inj H
  go_enter Try.func84, Try.ntmps84
  go_wp2
  go_ret
  exact ⟨by first | rfl | (simp; done) | (simp [*]; done), by repeat (first | exact Drawn0.refl _ | apply Drawn0.step)⟩

end Go.Proofs.Ytolaplcjbmjlmaa.X


-- written by a program of this session (wip/ext.py) out of the translation. Not trusted: Lean checks it.
namespace Go.Proofs.Ytolaplcjbmjlmaa.X
open Go.RowKit Go.Proofs.YtolaplcjbmjlmaaW.PrintWords Go.Proofs.YtolaplcjbmjlmaaW.PrintLast Go.Proofs.YtolaplcjbmjlmaaW.PrintMore
attribute [local go_sem] max2_int min2_int max_two min_two max_three min_three max_four min_four   -- for this text's walks alone
set_option linter.unusedVariables false
set_option linter.unusedSimpArgs false

def cmp_Compare_int.f (a0 : Int) (a1 : Int) : Option (Int) := (cmp_isNaN_int.f a0).bind fun t557 => ((cmp_isNaN_int.f a1).bind fun t558 => (if t557 = true then (if t558 = true then (some 0) else (some (-1))) else (if t558 = true then (some 1) else (if a0 < a1 then (some (-1)) else (if a0 > a1 then (some 1) else (some 0))))))
set_option maxHeartbeats 8000000 in
set_option maxRecDepth 100000 in
theorem cmp_Compare_int.calls (a0 : Int) (a1 : Int) (r : Int) (w : World) (h : cmp_Compare_int.f a0 a1 = some r) :
    Calls Try.prog 76 #[.int .i64 a0, .int .i64 a1] w fun e w' => e = .returned (.int .i64 r) ∧ Drawn0 w w' := by
  have H : ((cmp_isNaN_int.f a0).bind fun t557 => ((cmp_isNaN_int.f a1).bind fun t558 => (if t557 = true then (if t558 = true then (some 0) else (some (-1))) else (if t558 = true then (some 1) else (if a0 < a1 then (some (-1)) else (if a0 > a1 then (some 1) else (some 0))))))) = some r := h
  clear h
  replace H := Option.bind_eq_some_iff.mp H
  obtain ⟨t557, A30, H⟩ := H
  replace H : ((cmp_isNaN_int.f a1).bind fun t558 => (if t557 = true then (if t558 = true then (some 0) else (some (-1))) else (if t558 = true then (some 1) else (if a0 < a1 then (some (-1)) else (if a0 > a1 then (some 1) else (some 0)))))) = some r := H
  have A3 := Aside0.mk A30
  clear A30
  replace H := Option.bind_eq_some_iff.mp H
  obtain ⟨t558, A40, H⟩ := H
  replace H : (if t557 = true then (if t558 = true then (some 0) else (some (-1))) else (if t558 = true then (some 1) else (if a0 < a1 then (some (-1)) else (if a0 > a1 then (some 1) else (some 0))))) = some r := H
  have A4 := Aside0.mk A40
  clear A40
  by_cases c5 : t557 = true
  · subst c5
    have H1 : (if t558 = true then (some 0) else (some (-1))) = some r := by rw [if_pos rfl] at H; exact H
    clear H
    have H := H1
    clear H1
    by_cases c6 : t558 = true
    · subst c6
      have H1 : (some 0) = some r := by rw [if_pos rfl] at H; exact H
      clear H
      have H := H1
      clear H1
      obtain rfl := Option.some.inj H
      go_enter Try.func76, Try.ntmps76
      go_wp2_with (first | ((with_reducible refine gate_callee (f := 84) rfl ?_); refine goesL_ (some 8) rfl rfl Try.func84 (by kernel_rfl) rfl #[.int .i64 a0] rfl (by (try simp only [List.map_toArray, List.map_cons, List.map_nil]); first | done | rfl | (simp only [List.length_drop, List.length_take]; rfl)) ?_; (with_reducible refine (cmp_isNaN_int.calls a0 true _ A3.out).mono ?_); rintro e w' ⟨rfl, ⟨nd, rfl⟩⟩; refine ⟨_, rfl, ?_⟩) | ((with_reducible refine gate_callee (f := 84) rfl ?_); refine goesL_ (some 10) rfl rfl Try.func84 (by kernel_rfl) rfl #[.int .i64 a1] rfl (by (try simp only [List.map_toArray, List.map_cons, List.map_nil]); first | done | rfl | (simp only [List.length_drop, List.length_take]; rfl)) ?_; (with_reducible refine (cmp_isNaN_int.calls a1 true _ A4.out).mono ?_); rintro e w' ⟨rfl, ⟨nd, rfl⟩⟩; refine ⟨_, rfl, ?_⟩))
      go_ret
      exact ⟨by first | rfl | (simp; done) | (simp [*]; done), by repeat (first | exact Drawn0.refl _ | apply Drawn0.step)⟩
    · replace c6 := Bool.eq_false_iff.mpr c6
      subst c6
      have H1 : (some (-1)) = some r := by rw [if_neg (show ¬ (false = true) by decide)] at H; exact H
      clear H
      have H := H1
      clear H1
      obtain rfl := Option.some.inj H
      go_enter Try.func76, Try.ntmps76
      go_wp2_with (first | ((with_reducible refine gate_callee (f := 84) rfl ?_); refine goesL_ (some 8) rfl rfl Try.func84 (by kernel_rfl) rfl #[.int .i64 a0] rfl (by (try simp only [List.map_toArray, List.map_cons, List.map_nil]); first | done | rfl | (simp only [List.length_drop, List.length_take]; rfl)) ?_; (with_reducible refine (cmp_isNaN_int.calls a0 true _ A3.out).mono ?_); rintro e w' ⟨rfl, ⟨nd, rfl⟩⟩; refine ⟨_, rfl, ?_⟩) | ((with_reducible refine gate_callee (f := 84) rfl ?_); refine goesL_ (some 10) rfl rfl Try.func84 (by kernel_rfl) rfl #[.int .i64 a1] rfl (by (try simp only [List.map_toArray, List.map_cons, List.map_nil]); first | done | rfl | (simp only [List.length_drop, List.length_take]; rfl)) ?_; (with_reducible refine (cmp_isNaN_int.calls a1 false _ A4.out).mono ?_); rintro e w' ⟨rfl, ⟨nd, rfl⟩⟩; refine ⟨_, rfl, ?_⟩))
      go_ret
      exact ⟨by first | rfl | (simp; done) | (simp [*]; done), by repeat (first | exact Drawn0.refl _ | apply Drawn0.step)⟩
  · replace c5 := Bool.eq_false_iff.mpr c5
    subst c5
    have H1 : (if t558 = true then (some 1) else (if a0 < a1 then (some (-1)) else (if a0 > a1 then (some 1) else (some 0)))) = some r := by rw [if_neg (show ¬ (false = true) by decide)] at H; exact H
    clear H
    have H := H1
    clear H1
    by_cases c7 : t558 = true
    · subst c7
      have H1 : (some 1) = some r := by rw [if_pos rfl] at H; exact H
      clear H
      have H := H1
      clear H1
      obtain rfl := Option.some.inj H
      go_enter Try.func76, Try.ntmps76
      go_wp2_with (first | ((with_reducible refine gate_callee (f := 84) rfl ?_); refine goesL_ (some 8) rfl rfl Try.func84 (by kernel_rfl) rfl #[.int .i64 a0] rfl (by (try simp only [List.map_toArray, List.map_cons, List.map_nil]); first | done | rfl | (simp only [List.length_drop, List.length_take]; rfl)) ?_; (with_reducible refine (cmp_isNaN_int.calls a0 false _ A3.out).mono ?_); rintro e w' ⟨rfl, ⟨nd, rfl⟩⟩; refine ⟨_, rfl, ?_⟩) | ((with_reducible refine gate_callee (f := 84) rfl ?_); refine goesL_ (some 10) rfl rfl Try.func84 (by kernel_rfl) rfl #[.int .i64 a1] rfl (by (try simp only [List.map_toArray, List.map_cons, List.map_nil]); first | done | rfl | (simp only [List.length_drop, List.length_take]; rfl)) ?_; (with_reducible refine (cmp_isNaN_int.calls a1 true _ A4.out).mono ?_); rintro e w' ⟨rfl, ⟨nd, rfl⟩⟩; refine ⟨_, rfl, ?_⟩))
      go_ret
      exact ⟨by first | rfl | (simp; done) | (simp [*]; done), by repeat (first | exact Drawn0.refl _ | apply Drawn0.step)⟩
    · replace c7 := Bool.eq_false_iff.mpr c7
      subst c7
      have H1 : (if a0 < a1 then (some (-1)) else (if a0 > a1 then (some 1) else (some 0))) = some r := by rw [if_neg (show ¬ (false = true) by decide)] at H; exact H
      clear H
      have H := H1
      clear H1
      by_cases c8 : a0 < a1
      · rw [if_pos c8] at H
        have c8b0 : decide (a0 < a1) = true := decide_eq_true c8
        clear c8
        obtain rfl := Option.some.inj H
        go_enter Try.func76, Try.ntmps76
        go_wp2_with (first | ((with_reducible refine gate_callee (f := 84) rfl ?_); refine goesL_ (some 8) rfl rfl Try.func84 (by kernel_rfl) rfl #[.int .i64 a0] rfl (by (try simp only [List.map_toArray, List.map_cons, List.map_nil]); first | done | rfl | (simp only [List.length_drop, List.length_take]; rfl)) ?_; (with_reducible refine (cmp_isNaN_int.calls a0 false _ A3.out).mono ?_); rintro e w' ⟨rfl, ⟨nd, rfl⟩⟩; refine ⟨_, rfl, ?_⟩) | ((with_reducible refine gate_callee (f := 84) rfl ?_); refine goesL_ (some 10) rfl rfl Try.func84 (by kernel_rfl) rfl #[.int .i64 a1] rfl (by (try simp only [List.map_toArray, List.map_cons, List.map_nil]); first | done | rfl | (simp only [List.length_drop, List.length_take]; rfl)) ?_; (with_reducible refine (cmp_isNaN_int.calls a1 false _ A4.out).mono ?_); rintro e w' ⟨rfl, ⟨nd, rfl⟩⟩; refine ⟨_, rfl, ?_⟩))
        go_ret
        exact ⟨by first | rfl | (simp; done) | (simp [*]; done), by repeat (first | exact Drawn0.refl _ | apply Drawn0.step)⟩
      · rw [if_neg c8] at H
        have c8b0 : decide (a0 < a1) = false := decide_eq_false c8
        clear c8
        by_cases c9 : a0 > a1
        · rw [if_pos c9] at H
          have c9b0 : decide (a1 < a0) = true := decide_eq_true c9
          clear c9
          obtain rfl := Option.some.inj H
          go_enter Try.func76, Try.ntmps76
          go_wp2_with (first | ((with_reducible refine gate_callee (f := 84) rfl ?_); refine goesL_ (some 8) rfl rfl Try.func84 (by kernel_rfl) rfl #[.int .i64 a0] rfl (by (try simp only [List.map_toArray, List.map_cons, List.map_nil]); first | done | rfl | (simp only [List.length_drop, List.length_take]; rfl)) ?_; (with_reducible refine (cmp_isNaN_int.calls a0 false _ A3.out).mono ?_); rintro e w' ⟨rfl, ⟨nd, rfl⟩⟩; refine ⟨_, rfl, ?_⟩) | ((with_reducible refine gate_callee (f := 84) rfl ?_); refine goesL_ (some 10) rfl rfl Try.func84 (by kernel_rfl) rfl #[.int .i64 a1] rfl (by (try simp only [List.map_toArray, List.map_cons, List.map_nil]); first | done | rfl | (simp only [List.length_drop, List.length_take]; rfl)) ?_; (with_reducible refine (cmp_isNaN_int.calls a1 false _ A4.out).mono ?_); rintro e w' ⟨rfl, ⟨nd, rfl⟩⟩; refine ⟨_, rfl, ?_⟩))
          go_ret
          exact ⟨by first | rfl | (simp; done) | (simp [*]; done), by repeat (first | exact Drawn0.refl _ | apply Drawn0.step)⟩
        · rw [if_neg c9] at H
          have c9b0 : decide (a1 < a0) = false := decide_eq_false c9
          clear c9
          obtain rfl := Option.some.inj H
          go_enter Try.func76, Try.ntmps76
          go_wp2_with (first | ((with_reducible refine gate_callee (f := 84) rfl ?_); refine goesL_ (some 8) rfl rfl Try.func84 (by kernel_rfl) rfl #[.int .i64 a0] rfl (by (try simp only [List.map_toArray, List.map_cons, List.map_nil]); first | done | rfl | (simp only [List.length_drop, List.length_take]; rfl)) ?_; (with_reducible refine (cmp_isNaN_int.calls a0 false _ A3.out).mono ?_); rintro e w' ⟨rfl, ⟨nd, rfl⟩⟩; refine ⟨_, rfl, ?_⟩) | ((with_reducible refine gate_callee (f := 84) rfl ?_); refine goesL_ (some 10) rfl rfl Try.func84 (by kernel_rfl) rfl #[.int .i64 a1] rfl (by (try simp only [List.map_toArray, List.map_cons, List.map_nil]); first | done | rfl | (simp only [List.length_drop, List.length_take]; rfl)) ?_; (with_reducible refine (cmp_isNaN_int.calls a1 false _ A4.out).mono ?_); rintro e w' ⟨rfl, ⟨nd, rfl⟩⟩; refine ⟨_, rfl, ?_⟩))
          go_ret
          exact ⟨by first | rfl | (simp; done) | (simp [*]; done), by repeat (first | exact Drawn0.refl _ | apply Drawn0.step)⟩

end Go.Proofs.Ytolaplcjbmjlmaa.X


-- written by a program of this session (wip/ext.py) out of the translation. Not trusted: Lean checks it.
namespace Go.Proofs.Ytolaplcjbmjlmaa.X
open Go.RowKit Go.Proofs.YtolaplcjbmjlmaaW.PrintWords Go.Proofs.YtolaplcjbmjlmaaW.PrintLast Go.Proofs.YtolaplcjbmjlmaaW.PrintMore
attribute [local go_sem] max2_int min2_int max_two min_two max_three min_three max_four min_four   -- for this text's walks alone
set_option linter.unusedVariables false
set_option linter.unusedSimpArgs false

def clo_long (ls : List Int) (h : Int) (x : Int) : Bool := decide (rd ls x ≤ h)
set_option maxHeartbeats 2000000 in
theorem clo_long.ok {gl gh : Nat} {A : Option Addr} {c : Nat} {ls : List Int} {h x : Int} (W : World) (h0 : 0 ≤ x) (h1 : x < (ls.length : Int)) (hcl : W.cell? ⟨gl, 0, none⟩ = some (.slice A ls.length c)) (hch : W.cell? ⟨gh, 0, none⟩ = some (.int .i64 h)) (hC : Kd.C (Kd.int .i64) W A ls.length ls) :
    Calls Try.prog 73 #[.int .i64 x, .pointer (some ⟨gl, 0, none⟩), .pointer (some ⟨gh, 0, none⟩)] W fun e w' => e = .returned (.bool (clo_long ls h x)) ∧ ∃ q, w' = W.drewN q := by
  obtain ⟨ad, e, k0⟩ := Kd.at_int hC x h0 h1
  cases e
  have p1 := eq_true h0
  have q1 := eq_true h1
  clear hC
  unfold clo_long
  generalize rd ls x = y at *
  go_enter Try.func73, Try.ntmps73
  go_wp2
  repeat (go_quiet (fail); try go_wp2)
  go_ret
  exact ⟨rfl, ⟨_, rfl⟩⟩
/-- How two stays compare: the longer one first. -/
def cmpLong (ls : List Int) (i k : Int) : Int := if rd ls k < rd ls i then -1 else if rd ls k > rd ls i then 1 else 0
theorem cmpLong_f (ls : List Int) (i k : Int) : cmp_Compare_int.f (rd ls k) (rd ls i) = some (cmpLong ls i k) := by
  unfold cmp_Compare_int.f cmp_isNaN_int.f cmpLong
  simp
  split
  · rfl
  · split <;> rfl
set_option maxHeartbeats 2000000 in
theorem cmpLong.ok {gl : Nat} {A : Option Addr} {c : Nat} {ls : List Int} {i j : Int} (W : World) (h0 : 0 ≤ i) (h1 : i < (ls.length : Int)) (h2 : 0 ≤ j) (h3 : j < (ls.length : Int)) (hcl : W.cell? ⟨gl, 0, none⟩ = some (.slice A ls.length c)) (hC : Kd.C (Kd.int .i64) W A ls.length ls) :
    Calls Try.prog 75 #[.int .i64 i, .int .i64 j, .pointer (some ⟨gl, 0, none⟩)] W fun e w' => e = .returned (.int .i64 (cmpLong ls i j)) ∧ ∃ q, w' = W.drewN q := by
  obtain ⟨ad, e, k0⟩ := Kd.at_int hC i h0 h1
  cases e
  obtain ⟨ad2, e, k1⟩ := Kd.at_int hC j h2 h3
  cases e
  have p1 := eq_true h0
  have q1 := eq_true h1
  have p2 := eq_true h2
  have q2 := eq_true h3
  have HF := Aside0.mk (cmpLong_f ls i j)
  clear hC
  generalize cmpLong ls i j = r at HF ⊢
  generalize rd ls i = y at *
  generalize rd ls j = z at *
  go_enter Try.func75, Try.ntmps75
  go_wp2_with (go_at_call 76; (with_reducible refine (cmp_Compare_int.calls z y r _ HF.out).mono ?_); rintro e w' ⟨rfl, ⟨nd, rfl⟩⟩; (try first | exact ⟨rfl, _, World.drewN_drewN _ _ _⟩ | exact ⟨rfl, _, Eq.trans (World.drewN_drewN _ _ _) (congrArg (World.drewN _) (Nat.add_assoc _ _ _))⟩))
  repeat (go_quiet (first | (go_at_call 76; (with_reducible refine (cmp_Compare_int.calls z y r _ HF.out).mono ?_); rintro e w' ⟨rfl, ⟨nd, rfl⟩⟩; (try first | exact ⟨rfl, _, World.drewN_drewN _ _ _⟩ | exact ⟨rfl, _, Eq.trans (World.drewN_drewN _ _ _) (congrArg (World.drewN _) (Nat.add_assoc _ _ _))⟩))); try go_wp2)
  go_ret
  exact ⟨rfl, ⟨_, rfl⟩⟩

end Go.Proofs.Ytolaplcjbmjlmaa.X


namespace Go.Proofs.YtolaplcjbmjlmaaOwn
open Go.RowKit Go.Proofs.YtolaplcjbmjlmaaW.PrintWords
set_option linter.unusedVariables false
set_option linter.unusedSimpArgs false
theorem ite_some {α : Type} {p : Prop} [Decidable p] {a : Option α} {r : α} (h : (if p then a else none) = some r) : p ∧ a = some r := by
  by_cases c : p
  · rw [if_pos c] at h; exact ⟨c, h⟩
  · rw [if_neg c] at h; cases h
theorem lend {e : Nat} {W : World} {base : Nat} {ok : Nat → Prop} {g n cap : Nat} {xs : List (List Int)} (h : Kd.S (Kd.slice 3 (Kd.int .i64)) e W base ok (.slice (some ⟨g, 0, none⟩) n cap) xs) (i : Int) (h0 : 0 ≤ i) (h1 : i < n) :
    ∃ (oki : Nat → Prop) (v : Value), W.cell? ⟨g, i.toNat, none⟩ = some v ∧ Kd.R (Kd.int .i64) 3 W base oki v (xs.getD i.toNat []) ∧ (∀ k, oki k → ok k ∧ k ≠ g) ∧
      ∀ (w1 : World) (okp : Nat → Prop) (x' : List Int), Kept W w1 oki → Kd.R (Kd.int .i64) 3 w1 base okp v x' → Kd.S (Kd.slice 3 (Kd.int .i64)) e w1 base ok (.slice (some ⟨g, 0, none⟩) n cap) (xs.set i.toNat x') := by
  obtain ⟨oki, c, hcl, hM, hcc, hoki, hH⟩ := Kd.S_lend h [] i h0 h1
  obtain ⟨v, rfl, hR⟩ := hM
  refine ⟨oki, v, ?_, hR, hoki, fun w1 okp x' hk hR' => ?_⟩
  · have := hcc 0 v rfl
    rw [show (Kd.slice 3 (Kd.int .i64)).sz = 1 from rfl, Nat.mul_one, Nat.add_zero] at this
    exact this
  · exact Kd.H_back (okp := fun k => some k = v.ownBlock) (Kd.H_kept hH hk (fun k _ hn => hn)) ⟨v, rfl, Kd.R_tight rfl hR'⟩ (fun k hk2 => hR.1 k hk2.symm)
/-- Block g alone is written. -/
structure Only (w w' : World) (g : Nat) : Prop where
  os : w'.os = w.os
  tape : w'.tape = w.tape
  output : w'.output = w.output
  size : w'.heap.size = w.heap.size
  others : ∀ k, k ≠ g → w'.heap[k]? = w.heap[k]?
theorem Only.refl (w : World) (g : Nat) : Only w w g := ⟨rfl, rfl, rfl, rfl, fun _ _ => rfl⟩
theorem Only.set {w w' : World} {g : Nat} (h : Only w w' g) (j : Nat) (v : Value) : Only w (w'.setCell ⟨g, j, none⟩ v) g :=
  ⟨h.os, h.tape, h.output, by simp [World.setCell, h.size], fun k hk => (Below.heap_setCell w' ⟨g, j, none⟩ v k hk).trans (h.others k hk)⟩
theorem Only.below {w0 w w' : World} {g : Nat} (h : Only w w' g) (hB : Below w0.heap.size w0 w) (hg : w0.heap.size ≤ g) : Below w0.heap.size w0 w' :=
  ⟨h.os.trans hB.os, h.tape.trans hB.tape, h.output.trans hB.output, by rw [h.size]; exact hB.size, fun i hi => (h.others i (by omega)).trans (hB.block i hi)⟩
section
variable {α : Type} {d : Kd α} {e base g t : Nat} {ok : Nat → Prop} {w w' : World} {v : Value} {xs : List α} {cells : Array Value}
theorem onlyR (h : d.R e w base ok v xs) (hb : w.heap[g]? = some (.cells cells t (0, 0))) (ht : ∀ q, q ∈ e :: d.E → q ≠ t) (ho : Only w w' g) : d.R e w' base ok v xs :=
  Kd.R_mono (Kd.R_step (Kd.R_types h hb ht) (fun k hk _ => ho.others k hk.2)) (fun _ hk => hk.1)
end
end Go.Proofs.YtolaplcjbmjlmaaOwn


