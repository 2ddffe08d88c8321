/- Texts that the proof of the law FnExactCrashLog leans on, part 4 of 6. -/
import Derived.Deep.Slices
import Derived.ChangeSame
import Derived.ChangeArms
import Derived.DataReads
import Derived.SizedLaws
import Derived.ProofKit
import Derived.Lib.SmallJoins
import Derived.ChangeOld
import Derived.Below
import Derived.Lib.IndexAny
import Derived.Lib.ItoaNum
import Derived.Lib.ItoaLen
import Derived.Test.YtkpieljmhgfofaaDoorKFnExactCrashLog0
import Derived.Test.YtkpieljmhgfofaaDoorKFnExactCrashLog1
import Derived.Test.YtkpieljmhgfofaaDoorKFnExactCrashLog2
-- written by a program of this session (wip/ext.py) out of the translation. Not trusted: Lean checks it.
namespace Go.Proofs.YtkpieljmhgfofaaDoor.X
open Go.RowKit Go.Proofs.YtkpieljmhgfofaaDoorW.PrintWords Go.Proofs.YtkpieljmhgfofaaDoorW.PrintLast Go.Proofs.YtkpieljmhgfofaaDoorW.PrintMore
attribute [local go_sem] max2_int min2_int max_two min_two max_three min_three max_four min_four   -- for this text's walks alone
open Go.Proofs.YtkpieljmhgfofaaDoorG
set_option linter.unusedVariables false
set_option linter.unusedSimpArgs false

def impl_readRecords.l0 : Nat → ByteArray → List S27 → List Int → ByteArray → Option (List S27 × List Int × Int)
  | 0, _, _, _, _ => none
  | k + 1, s, xs, S, rest => if (xs.length : Int) < 60 then ((impl_readRecord.f k (xs.length : Int) rest).bind fun b => if b.2.2.2 = true then impl_readRecords.l0 k s (xs ++ [(⟨b.1, b.2.1⟩ : S27)]) (S ++ [wrap64 ((s.size : Int) - (b.2.2.1.size : Int))]) b.2.2.1 else some (xs, S, wrap64 ((s.size : Int) - (rest.size : Int)))) else some (xs, S, wrap64 ((s.size : Int) - (rest.size : Int)))
def impl_readRecords.f (k : Nat) (a0 : ByteArray) : Option (List S27 × List Int × Int) := impl_readRecords.l0 k a0 [] [0] a0
theorem impl_readRecords.mono_l : ∀ k s xs S rest, LeO (impl_readRecords.l0 k s xs S rest) (impl_readRecords.l0 (k + 1) s xs S rest)
  | 0 => fun _ _ _ _ r h => by simp [impl_readRecords.l0] at h
  | k + 1 => by
    intro s xs S rest
    have ih := impl_readRecords.mono_l k
    unfold impl_readRecords.l0
    refine LeO.ite ?_ (LeO.refl _)
    refine LeO.bind (impl_readRecord.mono _ _ _) (fun _ => ?_)
    exact LeO.ite (ih _ _ _ _) (LeO.refl _)
theorem impl_readRecords.mono (a0 : ByteArray) (k : Nat) : LeO (impl_readRecords.f k a0) (impl_readRecords.f (k + 1) a0) := impl_readRecords.mono_l k _ _ _ _
theorem wrap64_wf_ (x : Int) : (Lit.int .i64 (wrap64 x)).wf = true := Go.Proofs.YtkpieljmhgfofaaDoorMp.wf_i64 (by unfold wrap64; omega) (by unfold wrap64; omega)
theorem zeroB (w : World) : (zeroValue 4).run Tryd.prog w = .ok (.bool false) w := by kernel_rfl
set_option maxHeartbeats 8000000 in
set_option maxRecDepth 100000 in
theorem impl_readRecords.calls (k : Nat) (a0 : ByteArray) (r1 : List S27) (r2 : List Int) (r3 : Int) (w : World) (hG : Glob w) (h : impl_readRecords.f k a0 = some (r1, r2, r3)) :
    Calls Tryd.prog 48 #[.string a0] w fun e w' => ∃ (v0_ : Value) (m : Nat), e = .returned (.tuple #[v0_, .map (some m), .int .i64 r3]) ∧ Kd.R k27 27 w' w.heap.size (fun _ => True) v0_ r1 ∧ Go.Proofs.YtkpieljmhgfofaaDoorMp.SetAt Tryd.prog 3 4 w' m r2 ∧ Below w.heap.size w w' := by
  have hu := Tryd.underlying27
  have HGL := Aside0.mk hG
  clear hG
  have HB := Aside0.mk (Below.refl w.heap.size w)
  have H' := Aside0.mk (show impl_readRecords.l0 k a0 [] [0] a0 = some (r1, r2, r3) from h)
  clear h
  have hmm := @run_makeMap Tryd.prog
  go_enter Tryd.func48, Tryd.ntmps48
  go_wp2_with (first | ((with_reducible refine gate_dst (N := 11) rfl ?_); refine Kd.R_lit k27 _ 27 ?hg (N := 11) ?hd (xs := ([] : List (S27))) (inner := []) (ok := fun _ => True) (okp := fun _ => True) ?hr ?hp (fun _ hk => hk) trivial (Below.refl _ _) (Nat.le_refl _) (by simp) ?_; (case hd => rfl); (case hg => rfl); (case hr => first | (go_simp; done) | (go_simp; rfl)); (case hp => exact (Reps.none _ _)); intro v5_ w2 ho3 hb hg_ hnew_; clear hg_ hnew_; have n0_ := Aside0.mk (Kd.R_lower ho3 (below_size (by repeat (first | (with_reducible first | exact HB.out | apply below_alloc | apply pw_below_drewN | apply below_drew1) | exact HB.out)))); have n1_ := Aside0.mk (below_step (by repeat (first | (with_reducible first | exact HB.out | apply below_alloc | apply pw_below_drewN | apply below_drew1) | exact HB.out)) hb); have HGW := Aside0.mk (Nat.le_trans (below_size (by repeat (first | (with_reducible first | exact HB.out | apply below_alloc | apply pw_below_drewN | apply below_drew1) | exact HB.out))) hb.size); clear HB; have HO := n0_; have HB := n1_; clear n0_ n1_ hb ho3) | (refine Go.Proofs.YtkpieljmhgfofaaDoorMp.wpList_put_set _ rfl _ _ _ 66 (.inr rfl) 3 4 Tryd.underlying3 Tryd.underlying66 Tryd.underlying4 w2.heap.size [] (by unfold maxLen; simp) rfl (Go.Proofs.YtkpieljmhgfofaaDoorMp.SetAt.made _ _ _ _) 0 rfl rfl (Go.Proofs.YtkpieljmhgfofaaDoorMp.wf_i64 (by omega) (by omega)) ?_; intro w3 hs3 hg3; have n0_ := Aside0.mk hs3; have n1_ := Aside0.mk (Kd.R_grown (Kd.R_elderB HO.out w2.heap.size (Nat.le_refl _)) ((World.grownBy_alloc _ _ _).trans hg3) (fun k_ hk => by simpa using hk.2)); have n2_ := Aside0.mk (Below.grown (below_alloc (by repeat (first | (with_reducible first | exact HB.out | apply below_alloc | apply pw_below_drewN | apply below_drew1) | exact HB.out)) _) hg3 (below_size (below_alloc (by repeat (first | (with_reducible first | exact HB.out | apply below_alloc | apply pw_below_drewN | apply below_drew1) | exact HB.out)) _)) (fun j hj => by cases hj; exact below_size (by repeat (first | (with_reducible first | exact HB.out | apply below_alloc | apply pw_below_drewN | apply below_drew1) | exact HB.out)))); clear HO HB; have HM := n0_; have HO := n1_; have HB := n2_; clear n0_ n1_ n2_ hs3 hg3))
  have GW := Aside0.mk (show w.heap.size ≤ w2.heap.size by exact HGW.out)
  clear HGW hmm
  go_loopg [5, 7] k (fun kq v5 v7 w' => ∃ (xs : List S27) (S : List Int) (rest : ByteArray), v7 = .string rest ∧ Aside0 (impl_readRecords.l0 kq a0 xs S rest = some (r1, r2, r3)) ∧ Aside0 (kq ≤ k) ∧ Aside0 (S.length = xs.length + 1) ∧ Aside0 (Kd.R k27 27 w' w.heap.size (fun k_ => True ∧ k_ ≠ w2.heap.size) v5 xs) ∧ Aside0 (Go.Proofs.YtkpieljmhgfofaaDoorMp.SetAt Tryd.prog 3 4 w' w2.heap.size S) ∧ Aside0 (Below w.heap.size w w'))
  case atStart => exact ⟨[], [0], a0, rfl, H', ⟨Nat.le_refl _⟩, ⟨rfl⟩, HO, HM, HB⟩
  case round =>
    clear H' HO HM HB
    obtain ⟨xs, S, rest, rfl, HA, HK1, HS, HO, HM, HB⟩ := hrel
    cases gk with
    | zero => exact absurd HA.out (by simp [impl_readRecords.l0])
    | succ k1 =>
      have H := HA.out
      clear HA
      simp only [impl_readRecords.l0] at H
      obtain ⟨Ao, co, eo⟩ := Kd.R_slice HO.out
      subst eo
      by_cases c6 : (xs.length : Int) < 60
      · rw [if_pos c6] at H
        have c6b0 : decide ((xs.length : Int) < 60) = true := decide_eq_true c6
        have c6b1 : decide (xs.length < 60) = true := decide_eq_true (by omega)
        have C6 := Aside0.mk c6
        clear c6
        replace H := Option.bind_eq_some_iff.mp H
        obtain ⟨⟨c_, d_, t_, ok_⟩, A80, H⟩ := H
        have A8 := Aside0.mk A80
        clear A80
        by_cases c9 : ok_ = true
        · subst c9
          replace H : impl_readRecords.l0 k1 a0 (xs ++ [(⟨c_, d_⟩ : S27)]) (S ++ [wrap64 ((a0.size : Int) - (t_.size : Int))]) t_ = some (r1, r2, r3) := H
          obtain ⟨y, hy⟩ : ∃ y_ : List (S27), y_ = (xs ++ [(⟨c_, d_⟩ : S27)]) := ⟨_, rfl⟩
          rw [← hy] at H
          have Ny := Aside0.mk hy
          have H' := Aside0.mk H
          have LM := Aside0.mk (show xs.length < 4398046511104 by have := C6.out; omega)
          clear hy H
          go_wp2_with (first | ((with_reducible refine gate_callee (f := 70) rfl ?_); (try (refine gate_guard (by rfl) ?_; dsimp only)); refine goesL_ (some 22) rfl rfl Tryd.func70 (by kernel_rfl) rfl #[.int .i64 (xs.length : Int), .string rest] rfl (by (try simp only [List.map_toArray, List.map_cons, List.map_nil]); first | done | rfl | (simp only [List.length_drop, List.length_take]; rfl)) ?_; (with_reducible refine (impl_readRecord.calls k1 (xs.length : Int) rest c_ d_ t_ true _ (Glob.below HGL.out (by repeat (first | (with_reducible first | exact HB.out | apply below_alloc | apply pw_below_drewN | apply below_drew1) | exact HB.out))) A8.out).mono ?_); rintro e w5 ⟨rfl, hb⟩; refine ⟨_, rfl, ?_⟩; have n0_ := Aside0.mk (Kd.R_below (by (with_reducible repeat (first | apply Kd.R_alloc | apply Kd.R_drewN | apply Kd.R_drew)); exact HO.out) hb); have n1_ := Aside0.mk (below_step (by repeat (first | (with_reducible first | exact HB.out | apply below_alloc | apply pw_below_drewN | apply below_drew1) | exact HB.out)) hb); have n2_ := Aside0.mk (Go.Proofs.YtkpieljmhgfofaaDoorMp.SetAt.below (by (with_reducible repeat (first | apply Go.Proofs.YtkpieljmhgfofaaDoorMp.SetAt.alloc | apply Go.Proofs.YtkpieljmhgfofaaDoorMp.SetAt.drewN | apply Go.Proofs.YtkpieljmhgfofaaDoorMp.SetAt.drew)); exact HM.out) hb); clear HO HB HM; have HO := n0_; have HB := n1_; have HM := n2_; clear n0_ n1_ n2_; (try clear hb)) | ((with_reducible refine gate_dst (N := 8) rfl ?_); (try (refine gate_guard (by rfl) ?_; dsimp only)); refine box_event ?hg (N := 8) ?hd (cs := #[.string (⟨#[]⟩ : ByteArray), .string (⟨#[]⟩ : ByteArray)]) (t := 27) ?hr ?_; (case hd => rfl); (case hg => rfl); (case hr => first | (go_simp; done) | (go_simp; rfl)); intro gb hg w6 hbox hb; have HGM := Aside0.mk (show w2.heap.size < gb by rw [hg]; exact Go.Proofs.YtkpieljmhgfofaaDoorMp.SetAt.lt (by (with_reducible repeat (first | apply Go.Proofs.YtkpieljmhgfofaaDoorMp.SetAt.alloc | apply Go.Proofs.YtkpieljmhgfofaaDoorMp.SetAt.drewN | apply Go.Proofs.YtkpieljmhgfofaaDoorMp.SetAt.drew)); exact HM.out)); have n0_ := Aside0.mk (Kd.R_below (Kd.R_elderB (by (with_reducible repeat (first | apply Kd.R_alloc | apply Kd.R_drewN | apply Kd.R_drew)); exact HO.out) gb (Nat.le_of_eq hg.symm)) hb); have n1_ := Aside0.mk (below_step (by repeat (first | (with_reducible first | exact HB.out | apply below_alloc | apply pw_below_drewN | apply below_drew1) | exact HB.out)) hb); have n2_ := Aside0.mk (Go.Proofs.YtkpieljmhgfofaaDoorMp.SetAt.below (by (with_reducible repeat (first | apply Go.Proofs.YtkpieljmhgfofaaDoorMp.SetAt.alloc | apply Go.Proofs.YtkpieljmhgfofaaDoorMp.SetAt.drewN | apply Go.Proofs.YtkpieljmhgfofaaDoorMp.SetAt.drew)); exact HM.out) hb); have n3_ := Aside0.mk hbox; have n4_ := Aside0.mk ((by rw [hg]; exact below_size (by repeat (first | (with_reducible first | exact HB.out | apply below_alloc | apply pw_below_drewN | apply below_drew1) | exact HB.out)) : w.heap.size ≤ gb)); clear HO HB HM; have HO := n0_; have HB := n1_; have HM := n2_; have BK := n3_; have GE := n4_; clear n0_ n1_ n2_ n3_ n4_ hb hbox hg; have hcz0 : w6.cell? ⟨gb, 0, none⟩ = some (.string (⟨#[]⟩ : ByteArray)) := (blk_cell BK.out 0).trans rfl; have hcz1 : w6.cell? ⟨gb, 1, none⟩ = some (.string (⟨#[]⟩ : ByteArray)) := (blk_cell BK.out 1).trans rfl; have hfz0 := blk_frozen BK.out 0; have hfz1 := blk_frozen BK.out 1) | ((with_reducible refine gate_builtin (b := .append) (xs := #[.tmp 28, .tmp 30]) rfl ?_); at_builtin; refine Kd.R_append k27 (w0 := w) w.heap.size rfl (.tmp 28) (.tmp 30) 48 27 (.agg #[(.string ⟨#[]⟩), (.string ⟨#[]⟩)]) 32 rfl Tryd.underlying48 info27 rfl (by decide) (by omega) (.slice Ao xs.length co) xs (⟨c_, d_⟩ : S27) [.string c_, .string d_] (fun k_ => k_ ≠ w2.heap.size ∧ k_ ≠ gb) (fun _ => False) rfl (by first | (go_simp; done) | (go_simp; rfl)) ?aP (fun _ hk => hk.elim) ?aF ?aO ?aB ?aS ?aL ?_; (case aP => exact k27_mkM _ _ _ (⟨c_, d_⟩ : S27)); (case aB => exact (by repeat (first | (with_reducible first | exact HB.out | apply below_alloc | apply pw_below_drewN | apply below_drew1 | refine below_set ?_ GE.out) | exact HB.out))); (case aF => exact (fun k_ hk => by have h1 := Kd.freshB (g := gb) (o := .cells #[.string c_, .string d_] 27 (0, 0)) (by (with_reducible repeat (first | refine blk_drewN ?_ _ | refine blk_drew ?_ | refine blk_alloc ?_ _)); refine blk_put (cs := #[.string c_, .string (⟨#[]⟩ : ByteArray)]) ?_ 1 _ rfl; (with_reducible repeat (first | refine blk_drewN ?_ _ | refine blk_drew ?_ | refine blk_alloc ?_ _)); refine blk_put (cs := #[.string (⟨#[]⟩ : ByteArray), .string (⟨#[]⟩ : ByteArray)]) ?_ 0 _ rfl; (with_reducible repeat (first | refine blk_drewN ?_ _ | refine blk_drew ?_ | refine blk_alloc ?_ _)); exact BK.out) k_ hk; exact ⟨Nat.ne_of_gt (Nat.lt_of_lt_of_le (Go.Proofs.YtkpieljmhgfofaaDoorMp.SetAt.lt (P := Tryd.prog) (k := 3) (e := 4) (S := S) (by (with_reducible repeat (first | apply Go.Proofs.YtkpieljmhgfofaaDoorMp.SetAt.alloc | apply Go.Proofs.YtkpieljmhgfofaaDoorMp.SetAt.drewN | apply Go.Proofs.YtkpieljmhgfofaaDoorMp.SetAt.drew)); refine Go.Proofs.YtkpieljmhgfofaaDoorMp.SetAt.setCell ?_ _ (by have := HGM.out; show w2.heap.size ≠ gb; omega); refine Go.Proofs.YtkpieljmhgfofaaDoorMp.SetAt.setCell ?_ _ (by have := HGM.out; show w2.heap.size ≠ gb; omega); (with_reducible repeat (first | apply Go.Proofs.YtkpieljmhgfofaaDoorMp.SetAt.alloc | apply Go.Proofs.YtkpieljmhgfofaaDoorMp.SetAt.drewN | apply Go.Proofs.YtkpieljmhgfofaaDoorMp.SetAt.drew)); exact HM.out)) hk), h1⟩)); (case aO => exact (by (with_reducible repeat (first | apply Kd.R_alloc | apply Kd.R_drewN | apply Kd.R_drew)); exact Kd.R_mono (Kd.R_far (p := ⟨gb, 1, none⟩) (Kd.R_far (p := ⟨gb, 0, none⟩) (Kd.R_mono HO.out (fun k_ hk => (⟨hk.1.2, hk.2⟩ : k_ ≠ w2.heap.size ∧ k_ ≠ gb))) (fun _ hk => hk.2) (.string c_)) (fun _ hk => hk.2) (.string d_)) (fun _ hk => hk))); (case aS => exact (below_size (by repeat (first | (with_reducible first | exact HB.out | apply below_alloc | apply pw_below_drewN | apply below_drew1 | refine below_set ?_ GE.out) | exact HB.out)))); (case aL => have := LM.out; omega); intro v7_ w7_ ho hb hg hat; rw [← Ny.out] at ho; have n0_ : Aside0 (Go.Proofs.YtkpieljmhgfofaaDoorMp.SetAt Tryd.prog 3 4 w7_ w2.heap.size S) := Aside0.mk (Go.Proofs.YtkpieljmhgfofaaDoorMp.SetAt.grown (by (with_reducible repeat (first | apply Go.Proofs.YtkpieljmhgfofaaDoorMp.SetAt.alloc | apply Go.Proofs.YtkpieljmhgfofaaDoorMp.SetAt.drewN | apply Go.Proofs.YtkpieljmhgfofaaDoorMp.SetAt.drew)); refine Go.Proofs.YtkpieljmhgfofaaDoorMp.SetAt.setCell ?_ _ (by have := HGM.out; show w2.heap.size ≠ gb; omega); refine Go.Proofs.YtkpieljmhgfofaaDoorMp.SetAt.setCell ?_ _ (by have := HGM.out; show w2.heap.size ≠ gb; omega); (with_reducible repeat (first | apply Go.Proofs.YtkpieljmhgfofaaDoorMp.SetAt.alloc | apply Go.Proofs.YtkpieljmhgfofaaDoorMp.SetAt.drewN | apply Go.Proofs.YtkpieljmhgfofaaDoorMp.SetAt.drew)); exact HM.out) hg (Kd.R_away HO.out (fun _ hk => hk.1.2))); have n1_ := Aside0.mk hb; have n2_ := Aside0.mk ho; clear HM HB HO; have HM := n0_; have HB := n1_; have HO := n2_; clear n0_ n1_ n2_ ho hb hg hat) | (at_mapUpdate; refine Go.Proofs.YtkpieljmhgfofaaDoorMp.wpList_put_set _ rfl _ _ _ 66 (.inl rfl) 3 4 Tryd.underlying3 Tryd.underlying66 Tryd.underlying4 w2.heap.size S (by have := HS.out; have := C6.out; unfold maxLen; omega) rfl (by (with_reducible repeat (first | apply Go.Proofs.YtkpieljmhgfofaaDoorMp.SetAt.alloc | apply Go.Proofs.YtkpieljmhgfofaaDoorMp.SetAt.drewN | apply Go.Proofs.YtkpieljmhgfofaaDoorMp.SetAt.drew)); exact HM.out) (wrap64 ((a0.size : Int) - (t_.size : Int))) rfl rfl (wrap64_wf_ _) ?_; intro w8 hs8 hg8; have n0_ := Aside0.mk hs8; have n1_ := Aside0.mk (Kd.R_grown (by (with_reducible repeat (first | apply Kd.R_alloc | apply Kd.R_drewN | apply Kd.R_drew)); exact HO.out) hg8 (fun k_ hk => by simpa using hk.1)); have n2_ := Aside0.mk (Below.grown (by repeat (first | (with_reducible first | exact HB.out | apply below_alloc | apply pw_below_drewN | apply below_drew1) | exact HB.out)) hg8 (below_size (by repeat (first | (with_reducible first | exact HB.out | apply below_alloc | apply pw_below_drewN | apply below_drew1) | exact HB.out))) (fun j hj => by cases hj; exact GW.out)); clear HM HO HB; have HM := n0_; have HO := n1_; have HB := n2_; clear n0_ n1_ n2_ hs8 hg8))
          go_roundg k1
          case measure => have := HK1.out; omega
          case rel => exact ⟨y, S ++ [wrap64 ((a0.size : Int) - (t_.size : Int))], t_, by first | rfl | (simp; done) | (simp [*]; done), H', ⟨by have := HK1.out; omega⟩, ⟨by rw [Ny.out]; have := HS.out; simp; omega⟩, ⟨by (with_reducible repeat (first | apply Kd.R_alloc | apply Kd.R_drewN | apply Kd.R_drew)); exact Kd.R_mono HO.out (fun _ hk => ⟨trivial, hk.1⟩)⟩, ⟨by (with_reducible repeat (first | apply Go.Proofs.YtkpieljmhgfofaaDoorMp.SetAt.alloc | apply Go.Proofs.YtkpieljmhgfofaaDoorMp.SetAt.drewN | apply Go.Proofs.YtkpieljmhgfofaaDoorMp.SetAt.drew)); exact HM.out⟩, ⟨by repeat (first | (with_reducible first | exact HB.out | apply below_alloc | apply pw_below_drewN | apply below_drew1) | exact HB.out)⟩⟩
        · replace c9 := Bool.eq_false_iff.mpr c9
          subst c9
          replace H : some (xs, S, wrap64 ((a0.size : Int) - (rest.size : Int))) = some (r1, r2, r3) := H
          simp only [Option.some.injEq, Prod.mk.injEq] at H
          obtain ⟨rfl, rfl, rfl⟩ := H
          go_wp2_with (first | ((with_reducible refine gate_callee (f := 70) rfl ?_); (try (refine gate_guard (by rfl) ?_; dsimp only)); refine goesL_ (some 22) rfl rfl Tryd.func70 (by kernel_rfl) rfl #[.int .i64 (xs.length : Int), .string rest] rfl (by (try simp only [List.map_toArray, List.map_cons, List.map_nil]); first | done | rfl | (simp only [List.length_drop, List.length_take]; rfl)) ?_; (with_reducible refine (impl_readRecord.calls k1 (xs.length : Int) rest c_ d_ t_ false _ (Glob.below HGL.out (by repeat (first | (with_reducible first | exact HB.out | apply below_alloc | apply pw_below_drewN | apply below_drew1) | exact HB.out))) A8.out).mono ?_); rintro e w5 ⟨rfl, hb⟩; refine ⟨_, rfl, ?_⟩; have n0_ := Aside0.mk (Kd.R_below (by (with_reducible repeat (first | apply Kd.R_alloc | apply Kd.R_drewN | apply Kd.R_drew)); exact HO.out) hb); have n1_ := Aside0.mk (below_step (by repeat (first | (with_reducible first | exact HB.out | apply below_alloc | apply pw_below_drewN | apply below_drew1) | exact HB.out)) hb); have n2_ := Aside0.mk (Go.Proofs.YtkpieljmhgfofaaDoorMp.SetAt.below (by (with_reducible repeat (first | apply Go.Proofs.YtkpieljmhgfofaaDoorMp.SetAt.alloc | apply Go.Proofs.YtkpieljmhgfofaaDoorMp.SetAt.drewN | apply Go.Proofs.YtkpieljmhgfofaaDoorMp.SetAt.drew)); exact HM.out) hb); clear HO HB HM; have HO := n0_; have HB := n1_; have HM := n2_; clear n0_ n1_ n2_; (try clear hb)) | ((with_reducible refine gate_dst (N := 8) rfl ?_); (try (refine gate_guard (by rfl) ?_; dsimp only)); refine box_event ?hg (N := 8) ?hd (cs := #[.string (⟨#[]⟩ : ByteArray), .string (⟨#[]⟩ : ByteArray)]) (t := 27) ?hr ?_; (case hd => rfl); (case hg => rfl); (case hr => first | (go_simp; done) | (go_simp; rfl)); intro gb hg w6 hbox hb; have HGM := Aside0.mk (show w2.heap.size < gb by rw [hg]; exact Go.Proofs.YtkpieljmhgfofaaDoorMp.SetAt.lt (by (with_reducible repeat (first | apply Go.Proofs.YtkpieljmhgfofaaDoorMp.SetAt.alloc | apply Go.Proofs.YtkpieljmhgfofaaDoorMp.SetAt.drewN | apply Go.Proofs.YtkpieljmhgfofaaDoorMp.SetAt.drew)); exact HM.out)); have n0_ := Aside0.mk (Kd.R_below (Kd.R_elderB (by (with_reducible repeat (first | apply Kd.R_alloc | apply Kd.R_drewN | apply Kd.R_drew)); exact HO.out) gb (Nat.le_of_eq hg.symm)) hb); have n1_ := Aside0.mk (below_step (by repeat (first | (with_reducible first | exact HB.out | apply below_alloc | apply pw_below_drewN | apply below_drew1) | exact HB.out)) hb); have n2_ := Aside0.mk (Go.Proofs.YtkpieljmhgfofaaDoorMp.SetAt.below (by (with_reducible repeat (first | apply Go.Proofs.YtkpieljmhgfofaaDoorMp.SetAt.alloc | apply Go.Proofs.YtkpieljmhgfofaaDoorMp.SetAt.drewN | apply Go.Proofs.YtkpieljmhgfofaaDoorMp.SetAt.drew)); exact HM.out) hb); have n3_ := Aside0.mk hbox; have n4_ := Aside0.mk ((by rw [hg]; exact below_size (by repeat (first | (with_reducible first | exact HB.out | apply below_alloc | apply pw_below_drewN | apply below_drew1) | exact HB.out)) : w.heap.size ≤ gb)); clear HO HB HM; have HO := n0_; have HB := n1_; have HM := n2_; have BK := n3_; have GE := n4_; clear n0_ n1_ n2_ n3_ n4_ hb hbox hg; have hcz0 : w6.cell? ⟨gb, 0, none⟩ = some (.string (⟨#[]⟩ : ByteArray)) := (blk_cell BK.out 0).trans rfl; have hcz1 : w6.cell? ⟨gb, 1, none⟩ = some (.string (⟨#[]⟩ : ByteArray)) := (blk_cell BK.out 1).trans rfl; have hfz0 := blk_frozen BK.out 0; have hfz1 := blk_frozen BK.out 1))
          go_ret3
          exact ⟨_, w2.heap.size, rfl, by (with_reducible repeat (first | apply Kd.R_alloc | apply Kd.R_drewN | apply Kd.R_drew)); exact Kd.R_mono (Kd.R_far (p := ⟨gb, 1, none⟩) (Kd.R_far (p := ⟨gb, 0, none⟩) (Kd.R_mono HO.out (fun k_ hk => (⟨trivial, hk.2⟩ : True ∧ k_ ≠ gb))) (fun _ hk => hk.2) (.string c_)) (fun _ hk => hk.2) (.string d_)) (fun _ hk => trivial), by (with_reducible repeat (first | apply Go.Proofs.YtkpieljmhgfofaaDoorMp.SetAt.alloc | apply Go.Proofs.YtkpieljmhgfofaaDoorMp.SetAt.drewN | apply Go.Proofs.YtkpieljmhgfofaaDoorMp.SetAt.drew)); refine Go.Proofs.YtkpieljmhgfofaaDoorMp.SetAt.setCell ?_ _ (by have := HGM.out; show w2.heap.size ≠ gb; omega); refine Go.Proofs.YtkpieljmhgfofaaDoorMp.SetAt.setCell ?_ _ (by have := HGM.out; show w2.heap.size ≠ gb; omega); (with_reducible repeat (first | apply Go.Proofs.YtkpieljmhgfofaaDoorMp.SetAt.alloc | apply Go.Proofs.YtkpieljmhgfofaaDoorMp.SetAt.drewN | apply Go.Proofs.YtkpieljmhgfofaaDoorMp.SetAt.drew)); exact HM.out, by repeat (first | (with_reducible first | exact HB.out | apply below_alloc | apply pw_below_drewN | apply below_drew1 | refine below_set ?_ GE.out) | exact HB.out)⟩
      · rw [if_neg c6] at H
        have c6b0 : decide ((xs.length : Int) < 60) = false := decide_eq_false c6
        have c6b1 : decide (xs.length < 60) = false := decide_eq_false (by omega)
        clear c6
        simp only [Option.some.injEq, Prod.mk.injEq] at H
        obtain ⟨rfl, rfl, rfl⟩ := H
        go_wp2
        go_ret3
        exact ⟨_, w2.heap.size, rfl, by (with_reducible repeat (first | apply Kd.R_alloc | apply Kd.R_drewN | apply Kd.R_drew)); exact Kd.R_mono HO.out (fun _ _ => trivial), by (with_reducible repeat (first | apply Go.Proofs.YtkpieljmhgfofaaDoorMp.SetAt.alloc | apply Go.Proofs.YtkpieljmhgfofaaDoorMp.SetAt.drewN | apply Go.Proofs.YtkpieljmhgfofaaDoorMp.SetAt.drew)); exact HM.out, by repeat (first | (with_reducible first | exact HB.out | apply below_alloc | apply pw_below_drewN | apply below_drew1) | exact HB.out)⟩

end Go.Proofs.YtkpieljmhgfofaaDoor.X


-- written by a program of this session (wip/ext.py) out of the translation. Not trusted: Lean checks it.
namespace Go.Proofs.YtkpieljmhgfofaaDoor.X
open Go.RowKit Go.Proofs.YtkpieljmhgfofaaDoorW.PrintWords Go.Proofs.YtkpieljmhgfofaaDoorW.PrintLast Go.Proofs.YtkpieljmhgfofaaDoorW.PrintMore
attribute [local go_sem] max2_int min2_int max_two min_two max_three min_three max_four min_four   -- for this text's walks alone
open Go.Proofs.YtkpieljmhgfofaaDoorG
set_option linter.unusedVariables false
set_option linter.unusedSimpArgs false

def impl_recordsOf.f (k : Nat) (a0_0 a0_1 : ByteArray) (a0_2 : Int) : Option (List S27 × Bool) := if a0_0.size + a0_1.size ≤ 9223372036854775807 then ((impl_readRecords.f k (a0_0 ++ a0_1)).bind fun b => some (b.1, (b.2.2 == (a0_0.size : Int) + (a0_1.size : Int)) && decide ((a0_0.size : Int) ∈ b.2.1) && (a0_2 == (b.1.length : Int)))) else none
theorem impl_recordsOf.mono (a0_0 a0_1 : ByteArray) (a0_2 : Int) (k : Nat) : LeO (impl_recordsOf.f k a0_0 a0_1 a0_2) (impl_recordsOf.f (k + 1) a0_0 a0_1 a0_2) := by
  unfold impl_recordsOf.f
  exact LeO.ite (LeO.bind (impl_readRecords.mono _ _) (fun _ => LeO.refl _)) (LeO.refl _)
set_option maxHeartbeats 8000000 in
set_option maxRecDepth 100000 in
theorem impl_recordsOf.calls (k : Nat) (a0_0 a0_1 : ByteArray) (a0_2 : Int) (r1 : List S27) (r2 : Bool) (w : World) (hG : Glob w) (h : impl_recordsOf.f k a0_0 a0_1 a0_2 = some (r1, r2)) :
    Calls Tryd.prog 50 #[.agg #[.string a0_0, .string a0_1, .int .i64 a0_2]] w fun e w' => ∃ v0_ : Value, e = .returned (.tuple #[v0_, .bool r2]) ∧ Kd.R k27 27 w' w.heap.size (fun _ => True) v0_ r1 ∧ Below w.heap.size w w' := by
  have hu31 := Tryd.underlying31
  have HGL := Aside0.mk hG
  clear hG
  have HB := Aside0.mk (Below.refl w.heap.size w)
  have H : (if a0_0.size + a0_1.size ≤ 9223372036854775807 then ((impl_readRecords.f k (a0_0 ++ a0_1)).bind fun b => some (b.1, (b.2.2 == (a0_0.size : Int) + (a0_1.size : Int)) && decide ((a0_0.size : Int) ∈ b.2.1) && (a0_2 == (b.1.length : Int)))) else none) = some (r1, r2) := h
  clear h
  by_cases c1 : a0_0.size + a0_1.size ≤ 9223372036854775807
  · rw [if_pos c1] at H
    replace H := Option.bind_eq_some_iff.mp H
    obtain ⟨⟨t1, t2, t3⟩, A0, H⟩ := H
    have A2 := Aside0.mk A0
    clear A0
    simp only [Option.some.injEq, Prod.mk.injEq] at H
    obtain ⟨rfl, hr⟩ := H
    have HR := Aside0.mk hr
    clear hr
    have c1b0 := eq_true c1
    have c1b1 := eq_false (Nat.not_lt.2 c1)
    have c1b2 : ¬ 9223372036854775807 < (a0_0 ++ a0_1).size := by rw [ByteArray.size_append]; omega
    have C1 := Aside0.mk c1
    clear c1
    have hs : (a0_0 ++ a0_1).size = a0_0.size + a0_1.size := ByteArray.size_append ..
    by_cases e1 : (t3 == (a0_0.size : Int) + (a0_1.size : Int)) = true
    · by_cases e2 : decide ((a0_0.size : Int) ∈ t2) = true
      · by_cases e3 : (a0_2 == (t1.length : Int)) = true
        · have HV := Aside0.mk (HR.out.symm.trans (by rw [e1, e2, e3]; first | rfl | simp : _ = true))
          obtain rfl := HV.out
          go_enter Tryd.func50, Tryd.ntmps50
          go_wp2_with (first | ((with_reducible refine gate_dst (N := 1) rfl ?_); refine box_event ?hg (N := 1) ?hd (cs := #[.string a0_0, .string a0_1, .int .i64 a0_2]) (t := 31) ?hr ?_; (case hd => rfl); (case hg => rfl); (case hr => first | (go_simp; done) | (go_simp; rfl)); intro gb hg w1 hbox hb; have n1_ := Aside0.mk (below_step (by repeat (first | (with_reducible first | exact HB.out | apply below_alloc | apply pw_below_drewN | apply below_drew1) | exact HB.out)) hb); have n3_ := Aside0.mk hbox; have n4_ := Aside0.mk ((by rw [hg]; exact below_size (by repeat (first | (with_reducible first | exact HB.out | apply below_alloc | apply pw_below_drewN | apply below_drew1) | exact HB.out)) : w.heap.size ≤ gb)); clear HB; have HB := n1_; have BK := n3_; have GE := n4_; clear n1_ n3_ n4_ hb hbox hg; have hcz0 : w1.cell? ⟨gb, 0, none⟩ = some (.string a0_0) := (blk_cell BK.out 0).trans rfl; have hcz1 : w1.cell? ⟨gb, 1, none⟩ = some (.string a0_1) := (blk_cell BK.out 1).trans rfl; have hcz2 : w1.cell? ⟨gb, 2, none⟩ = some (.int .i64 a0_2) := (blk_cell BK.out 2).trans rfl) | ((with_reducible refine gate_callee (f := 48) rfl ?_); (try (refine gate_guard (by rfl) ?_; dsimp only)); refine goesL_ (some 15) rfl rfl Tryd.func48 (by kernel_rfl) rfl #[.string (a0_0 ++ a0_1)] rfl (by (try simp only [List.map_toArray, List.map_cons, List.map_nil]); first | done | rfl | (simp only [List.length_drop, List.length_take]; rfl)) ?_; (with_reducible refine (impl_readRecords.calls k (a0_0 ++ a0_1) t1 t2 t3 _ (Glob.below HGL.out (by repeat (first | (with_reducible first | exact HB.out | apply below_alloc | apply pw_below_drewN | apply below_drew1) | exact HB.out))) A2.out).mono ?_); rintro e w2 ⟨v0_, m, rfl, ho, hm, hb⟩; refine ⟨_, rfl, ?_⟩; have hl := fun n => (Go.Proofs.YtkpieljmhgfofaaDoorMp.SetAt.drewN hm n).look (t := 66) Tryd.underlying3 Tryd.underlying66 Tryd.underlying4 (zeroB _) (x := (a0_0.size : Int)) (Go.Proofs.YtkpieljmhgfofaaDoorMp.wf_i64 (by omega) (by have := C1.out; omega)); have hl0 := hm.look (t := 66) Tryd.underlying3 Tryd.underlying66 Tryd.underlying4 (zeroB _) (x := (a0_0.size : Int)) (Go.Proofs.YtkpieljmhgfofaaDoorMp.wf_i64 (by omega) (by have := C1.out; omega)); have BK2 := blk_below (by (with_reducible repeat (first | refine blk_drewN ?_ _ | refine blk_drew ?_ | refine blk_alloc ?_ _)); exact BK.out) hb; have n0_ := Aside0.mk (Kd.R_lower ho (below_size (by repeat (first | (with_reducible first | exact HB.out | apply below_alloc | apply pw_below_drewN | apply below_drew1) | exact HB.out)))); have n1_ := Aside0.mk (below_step (by repeat (first | (with_reducible first | exact HB.out | apply below_alloc | apply pw_below_drewN | apply below_drew1) | exact HB.out)) hb); clear HB; have HO := n0_; have HB := n1_; clear n0_ n1_ hb ho hm; have hcy0 : w2.cell? ⟨gb, 0, none⟩ = some (.string a0_0) := (blk_cell BK2 0).trans rfl; have hcy1 : w2.cell? ⟨gb, 1, none⟩ = some (.string a0_1) := (blk_cell BK2 1).trans rfl; have hcy2 : w2.cell? ⟨gb, 2, none⟩ = some (.int .i64 a0_2) := (blk_cell BK2 2).trans rfl; clear BK2; obtain ⟨Ao, co, eo⟩ := Kd.R_slice HO.out; subst eo))
          repeat (go_quiet (fail); try go_wp2)
          go_ret2
          exact ⟨_, by first | rfl | (simp; done) | (simp [*]; done), by (with_reducible repeat (first | apply Kd.R_alloc | apply Kd.R_drewN | apply Kd.R_drew)); exact HO.out, by repeat (first | (with_reducible first | exact HB.out | apply below_alloc | apply pw_below_drewN | apply below_drew1) | exact HB.out)⟩
        · replace e3 : (a0_2 == (t1.length : Int)) = false := Bool.eq_false_iff.mpr e3
          have HV := Aside0.mk (HR.out.symm.trans (by rw [e1, e2, e3]; first | rfl | simp : _ = false))
          obtain rfl := HV.out
          go_enter Tryd.func50, Tryd.ntmps50
          go_wp2_with (first | ((with_reducible refine gate_dst (N := 1) rfl ?_); refine box_event ?hg (N := 1) ?hd (cs := #[.string a0_0, .string a0_1, .int .i64 a0_2]) (t := 31) ?hr ?_; (case hd => rfl); (case hg => rfl); (case hr => first | (go_simp; done) | (go_simp; rfl)); intro gb hg w1 hbox hb; have n1_ := Aside0.mk (below_step (by repeat (first | (with_reducible first | exact HB.out | apply below_alloc | apply pw_below_drewN | apply below_drew1) | exact HB.out)) hb); have n3_ := Aside0.mk hbox; have n4_ := Aside0.mk ((by rw [hg]; exact below_size (by repeat (first | (with_reducible first | exact HB.out | apply below_alloc | apply pw_below_drewN | apply below_drew1) | exact HB.out)) : w.heap.size ≤ gb)); clear HB; have HB := n1_; have BK := n3_; have GE := n4_; clear n1_ n3_ n4_ hb hbox hg; have hcz0 : w1.cell? ⟨gb, 0, none⟩ = some (.string a0_0) := (blk_cell BK.out 0).trans rfl; have hcz1 : w1.cell? ⟨gb, 1, none⟩ = some (.string a0_1) := (blk_cell BK.out 1).trans rfl; have hcz2 : w1.cell? ⟨gb, 2, none⟩ = some (.int .i64 a0_2) := (blk_cell BK.out 2).trans rfl) | ((with_reducible refine gate_callee (f := 48) rfl ?_); (try (refine gate_guard (by rfl) ?_; dsimp only)); refine goesL_ (some 15) rfl rfl Tryd.func48 (by kernel_rfl) rfl #[.string (a0_0 ++ a0_1)] rfl (by (try simp only [List.map_toArray, List.map_cons, List.map_nil]); first | done | rfl | (simp only [List.length_drop, List.length_take]; rfl)) ?_; (with_reducible refine (impl_readRecords.calls k (a0_0 ++ a0_1) t1 t2 t3 _ (Glob.below HGL.out (by repeat (first | (with_reducible first | exact HB.out | apply below_alloc | apply pw_below_drewN | apply below_drew1) | exact HB.out))) A2.out).mono ?_); rintro e w2 ⟨v0_, m, rfl, ho, hm, hb⟩; refine ⟨_, rfl, ?_⟩; have hl := fun n => (Go.Proofs.YtkpieljmhgfofaaDoorMp.SetAt.drewN hm n).look (t := 66) Tryd.underlying3 Tryd.underlying66 Tryd.underlying4 (zeroB _) (x := (a0_0.size : Int)) (Go.Proofs.YtkpieljmhgfofaaDoorMp.wf_i64 (by omega) (by have := C1.out; omega)); have hl0 := hm.look (t := 66) Tryd.underlying3 Tryd.underlying66 Tryd.underlying4 (zeroB _) (x := (a0_0.size : Int)) (Go.Proofs.YtkpieljmhgfofaaDoorMp.wf_i64 (by omega) (by have := C1.out; omega)); have BK2 := blk_below (by (with_reducible repeat (first | refine blk_drewN ?_ _ | refine blk_drew ?_ | refine blk_alloc ?_ _)); exact BK.out) hb; have n0_ := Aside0.mk (Kd.R_lower ho (below_size (by repeat (first | (with_reducible first | exact HB.out | apply below_alloc | apply pw_below_drewN | apply below_drew1) | exact HB.out)))); have n1_ := Aside0.mk (below_step (by repeat (first | (with_reducible first | exact HB.out | apply below_alloc | apply pw_below_drewN | apply below_drew1) | exact HB.out)) hb); clear HB; have HO := n0_; have HB := n1_; clear n0_ n1_ hb ho hm; have hcy0 : w2.cell? ⟨gb, 0, none⟩ = some (.string a0_0) := (blk_cell BK2 0).trans rfl; have hcy1 : w2.cell? ⟨gb, 1, none⟩ = some (.string a0_1) := (blk_cell BK2 1).trans rfl; have hcy2 : w2.cell? ⟨gb, 2, none⟩ = some (.int .i64 a0_2) := (blk_cell BK2 2).trans rfl; clear BK2; obtain ⟨Ao, co, eo⟩ := Kd.R_slice HO.out; subst eo))
          repeat (go_quiet (fail); try go_wp2)
          go_ret2
          exact ⟨_, by first | rfl | (simp; done) | (simp [*]; done), by (with_reducible repeat (first | apply Kd.R_alloc | apply Kd.R_drewN | apply Kd.R_drew)); exact HO.out, by repeat (first | (with_reducible first | exact HB.out | apply below_alloc | apply pw_below_drewN | apply below_drew1) | exact HB.out)⟩
      · replace e2 : decide ((a0_0.size : Int) ∈ t2) = false := Bool.eq_false_iff.mpr e2
        have HV := Aside0.mk (HR.out.symm.trans (by rw [e1, e2]; first | rfl | simp : _ = false))
        obtain rfl := HV.out
        go_enter Tryd.func50, Tryd.ntmps50
        go_wp2_with (first | ((with_reducible refine gate_dst (N := 1) rfl ?_); refine box_event ?hg (N := 1) ?hd (cs := #[.string a0_0, .string a0_1, .int .i64 a0_2]) (t := 31) ?hr ?_; (case hd => rfl); (case hg => rfl); (case hr => first | (go_simp; done) | (go_simp; rfl)); intro gb hg w1 hbox hb; have n1_ := Aside0.mk (below_step (by repeat (first | (with_reducible first | exact HB.out | apply below_alloc | apply pw_below_drewN | apply below_drew1) | exact HB.out)) hb); have n3_ := Aside0.mk hbox; have n4_ := Aside0.mk ((by rw [hg]; exact below_size (by repeat (first | (with_reducible first | exact HB.out | apply below_alloc | apply pw_below_drewN | apply below_drew1) | exact HB.out)) : w.heap.size ≤ gb)); clear HB; have HB := n1_; have BK := n3_; have GE := n4_; clear n1_ n3_ n4_ hb hbox hg; have hcz0 : w1.cell? ⟨gb, 0, none⟩ = some (.string a0_0) := (blk_cell BK.out 0).trans rfl; have hcz1 : w1.cell? ⟨gb, 1, none⟩ = some (.string a0_1) := (blk_cell BK.out 1).trans rfl; have hcz2 : w1.cell? ⟨gb, 2, none⟩ = some (.int .i64 a0_2) := (blk_cell BK.out 2).trans rfl) | ((with_reducible refine gate_callee (f := 48) rfl ?_); (try (refine gate_guard (by rfl) ?_; dsimp only)); refine goesL_ (some 15) rfl rfl Tryd.func48 (by kernel_rfl) rfl #[.string (a0_0 ++ a0_1)] rfl (by (try simp only [List.map_toArray, List.map_cons, List.map_nil]); first | done | rfl | (simp only [List.length_drop, List.length_take]; rfl)) ?_; (with_reducible refine (impl_readRecords.calls k (a0_0 ++ a0_1) t1 t2 t3 _ (Glob.below HGL.out (by repeat (first | (with_reducible first | exact HB.out | apply below_alloc | apply pw_below_drewN | apply below_drew1) | exact HB.out))) A2.out).mono ?_); rintro e w2 ⟨v0_, m, rfl, ho, hm, hb⟩; refine ⟨_, rfl, ?_⟩; have hl := fun n => (Go.Proofs.YtkpieljmhgfofaaDoorMp.SetAt.drewN hm n).look (t := 66) Tryd.underlying3 Tryd.underlying66 Tryd.underlying4 (zeroB _) (x := (a0_0.size : Int)) (Go.Proofs.YtkpieljmhgfofaaDoorMp.wf_i64 (by omega) (by have := C1.out; omega)); have hl0 := hm.look (t := 66) Tryd.underlying3 Tryd.underlying66 Tryd.underlying4 (zeroB _) (x := (a0_0.size : Int)) (Go.Proofs.YtkpieljmhgfofaaDoorMp.wf_i64 (by omega) (by have := C1.out; omega)); have BK2 := blk_below (by (with_reducible repeat (first | refine blk_drewN ?_ _ | refine blk_drew ?_ | refine blk_alloc ?_ _)); exact BK.out) hb; have n0_ := Aside0.mk (Kd.R_lower ho (below_size (by repeat (first | (with_reducible first | exact HB.out | apply below_alloc | apply pw_below_drewN | apply below_drew1) | exact HB.out)))); have n1_ := Aside0.mk (below_step (by repeat (first | (with_reducible first | exact HB.out | apply below_alloc | apply pw_below_drewN | apply below_drew1) | exact HB.out)) hb); clear HB; have HO := n0_; have HB := n1_; clear n0_ n1_ hb ho hm; have hcy0 : w2.cell? ⟨gb, 0, none⟩ = some (.string a0_0) := (blk_cell BK2 0).trans rfl; have hcy1 : w2.cell? ⟨gb, 1, none⟩ = some (.string a0_1) := (blk_cell BK2 1).trans rfl; have hcy2 : w2.cell? ⟨gb, 2, none⟩ = some (.int .i64 a0_2) := (blk_cell BK2 2).trans rfl; clear BK2; obtain ⟨Ao, co, eo⟩ := Kd.R_slice HO.out; subst eo))
        repeat (go_quiet (fail); try go_wp2)
        go_ret2
        exact ⟨_, by first | rfl | (simp; done) | (simp [*]; done), by (with_reducible repeat (first | apply Kd.R_alloc | apply Kd.R_drewN | apply Kd.R_drew)); exact HO.out, by repeat (first | (with_reducible first | exact HB.out | apply below_alloc | apply pw_below_drewN | apply below_drew1) | exact HB.out)⟩
    · replace e1 : (t3 == (a0_0.size : Int) + (a0_1.size : Int)) = false := Bool.eq_false_iff.mpr e1
      have HV := Aside0.mk (HR.out.symm.trans (by rw [e1]; first | rfl | simp : _ = false))
      obtain rfl := HV.out
      go_enter Tryd.func50, Tryd.ntmps50
      go_wp2_with (first | ((with_reducible refine gate_dst (N := 1) rfl ?_); refine box_event ?hg (N := 1) ?hd (cs := #[.string a0_0, .string a0_1, .int .i64 a0_2]) (t := 31) ?hr ?_; (case hd => rfl); (case hg => rfl); (case hr => first | (go_simp; done) | (go_simp; rfl)); intro gb hg w1 hbox hb; have n1_ := Aside0.mk (below_step (by repeat (first | (with_reducible first | exact HB.out | apply below_alloc | apply pw_below_drewN | apply below_drew1) | exact HB.out)) hb); have n3_ := Aside0.mk hbox; have n4_ := Aside0.mk ((by rw [hg]; exact below_size (by repeat (first | (with_reducible first | exact HB.out | apply below_alloc | apply pw_below_drewN | apply below_drew1) | exact HB.out)) : w.heap.size ≤ gb)); clear HB; have HB := n1_; have BK := n3_; have GE := n4_; clear n1_ n3_ n4_ hb hbox hg; have hcz0 : w1.cell? ⟨gb, 0, none⟩ = some (.string a0_0) := (blk_cell BK.out 0).trans rfl; have hcz1 : w1.cell? ⟨gb, 1, none⟩ = some (.string a0_1) := (blk_cell BK.out 1).trans rfl; have hcz2 : w1.cell? ⟨gb, 2, none⟩ = some (.int .i64 a0_2) := (blk_cell BK.out 2).trans rfl) | ((with_reducible refine gate_callee (f := 48) rfl ?_); (try (refine gate_guard (by rfl) ?_; dsimp only)); refine goesL_ (some 15) rfl rfl Tryd.func48 (by kernel_rfl) rfl #[.string (a0_0 ++ a0_1)] rfl (by (try simp only [List.map_toArray, List.map_cons, List.map_nil]); first | done | rfl | (simp only [List.length_drop, List.length_take]; rfl)) ?_; (with_reducible refine (impl_readRecords.calls k (a0_0 ++ a0_1) t1 t2 t3 _ (Glob.below HGL.out (by repeat (first | (with_reducible first | exact HB.out | apply below_alloc | apply pw_below_drewN | apply below_drew1) | exact HB.out))) A2.out).mono ?_); rintro e w2 ⟨v0_, m, rfl, ho, hm, hb⟩; refine ⟨_, rfl, ?_⟩; have hl := fun n => (Go.Proofs.YtkpieljmhgfofaaDoorMp.SetAt.drewN hm n).look (t := 66) Tryd.underlying3 Tryd.underlying66 Tryd.underlying4 (zeroB _) (x := (a0_0.size : Int)) (Go.Proofs.YtkpieljmhgfofaaDoorMp.wf_i64 (by omega) (by have := C1.out; omega)); have hl0 := hm.look (t := 66) Tryd.underlying3 Tryd.underlying66 Tryd.underlying4 (zeroB _) (x := (a0_0.size : Int)) (Go.Proofs.YtkpieljmhgfofaaDoorMp.wf_i64 (by omega) (by have := C1.out; omega)); have BK2 := blk_below (by (with_reducible repeat (first | refine blk_drewN ?_ _ | refine blk_drew ?_ | refine blk_alloc ?_ _)); exact BK.out) hb; have n0_ := Aside0.mk (Kd.R_lower ho (below_size (by repeat (first | (with_reducible first | exact HB.out | apply below_alloc | apply pw_below_drewN | apply below_drew1) | exact HB.out)))); have n1_ := Aside0.mk (below_step (by repeat (first | (with_reducible first | exact HB.out | apply below_alloc | apply pw_below_drewN | apply below_drew1) | exact HB.out)) hb); clear HB; have HO := n0_; have HB := n1_; clear n0_ n1_ hb ho hm; have hcy0 : w2.cell? ⟨gb, 0, none⟩ = some (.string a0_0) := (blk_cell BK2 0).trans rfl; have hcy1 : w2.cell? ⟨gb, 1, none⟩ = some (.string a0_1) := (blk_cell BK2 1).trans rfl; have hcy2 : w2.cell? ⟨gb, 2, none⟩ = some (.int .i64 a0_2) := (blk_cell BK2 2).trans rfl; clear BK2; obtain ⟨Ao, co, eo⟩ := Kd.R_slice HO.out; subst eo))
      repeat (go_quiet (fail); try go_wp2)
      go_ret2
      exact ⟨_, by first | rfl | (simp; done) | (simp [*]; done), by (with_reducible repeat (first | apply Kd.R_alloc | apply Kd.R_drewN | apply Kd.R_drew)); exact HO.out, by repeat (first | (with_reducible first | exact HB.out | apply below_alloc | apply pw_below_drewN | apply below_drew1) | exact HB.out)⟩
  · rw [if_neg c1] at H
    exact absurd H (by simp)

end Go.Proofs.YtkpieljmhgfofaaDoor.X


-- written by a program of this session (wip/ext.py) out of the translation. Not trusted: Lean checks it.
namespace Go.Proofs.YtkpieljmhgfofaaDoor.X
open Go.RowKit Go.Proofs.YtkpieljmhgfofaaDoorW.PrintWords Go.Proofs.YtkpieljmhgfofaaDoorW.PrintLast Go.Proofs.YtkpieljmhgfofaaDoorW.PrintMore
attribute [local go_sem] max2_int min2_int max_two min_two max_three min_three max_four min_four   -- for this text's walks alone
open Go.Proofs.YtkpieljmhgfofaaDoorG
set_option linter.unusedVariables false
set_option linter.unusedSimpArgs false

def impl_IsValidLog.f (k : Nat) (a0_0 : ByteArray) (a0_1 : ByteArray) (a0_2 : Int) : Option (Bool) := (impl_recordsOf.f k a0_0 a0_1 a0_2).bind fun bt279 => (some bt279.2)
theorem impl_IsValidLog.mono : ∀ a0 a1 a2 k, LeO (impl_IsValidLog.f k a0 a1 a2) (impl_IsValidLog.f (k + 1) a0 a1 a2) := by
  intro a0 a1 a2 k
  unfold impl_IsValidLog.f
  repeat' first
      | (with_reducible exact impl_recordsOf.mono _ _ _ _)
      | (with_reducible exact LeO.refl _)
      | (with_reducible exact LeO.none _)
      | (with_reducible refine LeO.ite ?_ ?_)
      | (with_reducible refine LeO.bind ?_ (fun _ => ?_))
      | exact impl_recordsOf.mono _ _ _ _
      | exact LeO.none _
      | refine LeO.ite ?_ ?_
      | refine LeO.bind ?_ (fun _ => ?_)
set_option maxHeartbeats 8000000 in
set_option maxRecDepth 100000 in
theorem impl_IsValidLog.calls (k : Nat) (a0_0 : ByteArray) (a0_1 : ByteArray) (a0_2 : Int) (r : Bool) (w : World) (hG : Glob w) (h : impl_IsValidLog.f k a0_0 a0_1 a0_2 = some r) :
    Calls Tryd.prog 23 #[.agg #[.string a0_0, .string a0_1, .int .i64 a0_2]] w fun e w' => e = .returned (.bool r) ∧ Below w.heap.size w w' := by
  have hu31 := Tryd.underlying31
  have HGL := Aside0.mk hG
  clear hG
  have HB := Aside0.mk (Below.refl w.heap.size w)
  have H : ((impl_recordsOf.f k a0_0 a0_1 a0_2).bind fun bt279 => (some bt279.2)) = some r := h
  clear h
  replace H := Option.bind_eq_some_iff.mp H
  obtain ⟨⟨t279, t282⟩, A20, H⟩ := H
  replace H : (some t282) = some r := H
  have A2 := Aside0.mk A20
  clear A20
  obtain rfl := Option.some.inj H
  go_enter Tryd.func23, Tryd.ntmps23
  go_wp2_with (first | ((with_reducible refine gate_dst (N := 1) rfl ?_); refine box_event ?hg (N := 1) ?hd (cs := #[.string a0_0, .string a0_1, .int .i64 a0_2]) (t := 31) ?hr ?_; (case hd => rfl); (case hg => rfl); (case hr => first | (go_simp; done) | (go_simp; rfl)); intro gb278 hg w3 hbox hb; have n0_ := Aside0.mk (below_step (by repeat (first | (with_reducible first | exact HB.out | apply below_alloc | apply pw_below_drewN | apply below_drew1) | exact HB.out)) hb); have n1_ := Aside0.mk (hbox); have n2_ := Aside0.mk ((by rw [hg]; exact (below_size (by repeat (first | (with_reducible first | exact HB.out | apply below_alloc | apply pw_below_drewN | apply below_drew1) | exact HB.out))) : w.heap.size ≤ gb278)); have n3_ := Aside0.mk ((by rw [hg]; exact (below_size (by repeat (first | (with_reducible first | exact HB.out | apply below_alloc | apply pw_below_drewN | apply below_drew1) | exact HB.out))) : w.heap.size ≤ gb278)); clear HB; have HB := n0_; have BK278 := n1_; have GW278 := n2_; have GE278 := n3_; clear n0_ n1_ n2_ n3_; clear hb hbox hg; have hcz4_0 : w3.cell? ⟨gb278, 0, none⟩ = some (.string a0_0) := (blk_cell BK278.out 0).trans rfl; have hcz4_1 : w3.cell? ⟨gb278, 1, none⟩ = some (.string a0_1) := (blk_cell BK278.out 1).trans rfl; have hcz4_2 : w3.cell? ⟨gb278, 2, none⟩ = some (.int .i64 a0_2) := (blk_cell BK278.out 2).trans rfl; have hfz4_0 := blk_frozen BK278.out 0; have hfz4_1 := blk_frozen BK278.out 1; have hfz4_2 := blk_frozen BK278.out 2) | ((with_reducible refine gate_callee (f := 50) rfl ?_); refine goesL_ (some 7) rfl rfl Tryd.func50 (by kernel_rfl) rfl #[.agg #[.string a0_0, .string a0_1, .int .i64 a0_2]] rfl (by (try simp only [List.map_toArray, List.map_cons, List.map_nil]); first | done | rfl | (simp only [List.length_drop, List.length_take]; rfl)) ?_; (with_reducible refine (impl_recordsOf.calls k a0_0 a0_1 a0_2 t279 t282 _ ?side1 A2.out).mono ?_); (case side1 => exact Glob.below HGL.out (by repeat (first | (with_reducible first | exact HB.out | apply below_alloc | apply pw_below_drewN | apply below_drew1 | refine below_set ?_ GE278.out) | exact HB.out))); rintro e w5 ⟨v280, rfl, ho0, hb⟩; refine ⟨_, rfl, ?_⟩; have n0_ := Aside0.mk (Kd.R_lower ho0 (below_size (by repeat (first | (with_reducible first | exact HB.out | apply below_alloc | apply pw_below_drewN | apply below_drew1 | refine below_set ?_ GE278.out) | exact HB.out)))); have n1_ := Aside0.mk (blk_below (g := gb278) (o := .cells #[.string a0_0, .string a0_1, .int .i64 a0_2] 31 (0, 0)) (by (with_reducible repeat (first | refine blk_drewN ?_ _ | refine blk_drew ?_ | refine blk_alloc ?_ _)); exact BK278.out) hb); have n2_ := Aside0.mk (below_step (by repeat (first | (with_reducible first | exact HB.out | apply below_alloc | apply pw_below_drewN | apply below_drew1 | refine below_set ?_ GE278.out) | exact HB.out)) hb); clear BK278; clear HB; have HO281 := n0_; have BK278 := n1_; have HB := n2_; clear n0_ n1_ n2_; (try clear hb); (try clear hb2); (try clear hk); (try clear hi); (try clear ho0)))
  go_ret
  exact ⟨by first | rfl | (simp [errW_none, errW_some] <;> rfl) | (simp [*, errW_none, errW_some] <;> rfl), by repeat (first | (with_reducible first | exact HB.out | apply below_alloc | apply pw_below_drewN | apply below_drew1 | refine below_set ?_ GE278.out) | exact HB.out)⟩

end Go.Proofs.YtkpieljmhgfofaaDoor.X


-- written by a program of this session (wip/ext.py) out of the translation. Not trusted: Lean checks it.
namespace Go.Proofs.YtkpieljmhgfofaaDoor.X
open Go.RowKit Go.Proofs.YtkpieljmhgfofaaDoorW.PrintWords Go.Proofs.YtkpieljmhgfofaaDoorW.PrintLast Go.Proofs.YtkpieljmhgfofaaDoorW.PrintMore
attribute [local go_sem] max2_int min2_int max_two min_two max_three min_three max_four min_four   -- for this text's walks alone
open Go.Proofs.YtkpieljmhgfofaaDoorG
set_option linter.unusedVariables false
set_option linter.unusedSimpArgs false

def impl_CrashLog.f (k : Nat) (a0_0 a0_1 : ByteArray) (a0_2 : Int) (a1 : Int) (a2 : Bool) : Option (ByteArray × Bool) := (impl_IsValidLog.f k a0_0 a0_1 a0_2).bind fun t => if t = true then ((impl_within.f a1 0 (a0_1.size : Int)).bind fun u => if u = true then (if (0 ≤ a1 ∧ a1 ≤ (a0_1.size : Int)) ∧ a0_0.size + a0_1.size ≤ 4611686018427387904 then some (Go.Proofs.YtkpieljmhgfofaaDoorCb.crash ((a0_0 ++ a0_1.extract 0 a1.toNat)) (a2 && decide (a1 > 0)), true) else none) else some ((⟨#[]⟩ : ByteArray), false)) else some ((⟨#[]⟩ : ByteArray), false)
theorem impl_CrashLog.mono (a0_0 a0_1 : ByteArray) (a0_2 : Int) (a1 : Int) (a2 : Bool) (k : Nat) : LeO (impl_CrashLog.f k a0_0 a0_1 a0_2 a1 a2) (impl_CrashLog.f (k + 1) a0_0 a0_1 a0_2 a1 a2) := by
  unfold impl_CrashLog.f
  exact LeO.bind (impl_IsValidLog.mono _ _ _ _) (fun _ => LeO.refl _)
set_option maxHeartbeats 8000000 in
set_option maxRecDepth 100000 in
theorem impl_CrashLog.calls (k : Nat) (a0_0 a0_1 : ByteArray) (a0_2 : Int) (a1 : Int) (a2 : Bool) (r1 : ByteArray) (r2 : Bool) (w : World) (hG : Glob w) (h : impl_CrashLog.f k a0_0 a0_1 a0_2 a1 a2 = some (r1, r2)) :
    Calls Tryd.prog 25 #[.agg #[.string a0_0, .string a0_1, .int .i64 a0_2], .int .i64 a1, .bool a2] w fun e w' => e = .returned (.tuple #[.string r1, .bool r2]) ∧ Below w.heap.size w w' := by
  have hu31 := Tryd.underlying31
  have HGL := Aside0.mk hG
  clear hG
  have HB := Aside0.mk (Below.refl w.heap.size w)
  unfold impl_CrashLog.f at h
  replace h := Option.bind_eq_some_iff.mp h
  obtain ⟨t, A0, h⟩ := h
  have A1 := Aside0.mk A0
  clear A0
  by_cases c1 : t = true
  · subst c1
    rw [if_pos rfl] at h
    replace h := Option.bind_eq_some_iff.mp h
    obtain ⟨u, A0, h⟩ := h
    have A2 := Aside0.mk A0
    clear A0
    by_cases c2 : u = true
    · subst c2
      rw [if_pos rfl] at h
      by_cases c3 : (0 ≤ a1 ∧ a1 ≤ (a0_1.size : Int)) ∧ a0_0.size + a0_1.size ≤ 4611686018427387904
      · rw [if_pos c3] at h
        simp only [Option.some.injEq, Prod.mk.injEq] at h
        obtain ⟨rfl, rfl⟩ := h
        obtain ⟨kn, rfl⟩ := Int.eq_ofNat_of_zero_le c3.1.1
        have C3 := Aside0.mk c3
        have x1 : kn ≤ a0_1.size := by omega
        clear c3
        rw [Int.toNat_natCast]
        have x2 : ((kn : Int) ≤ (a0_1.size : Int)) = True := eq_true (by omega)
        have x3 : (kn ≤ a0_1.size) = True := eq_true x1
        have x4 : (9223372036854775807 < a0_0.size + kn) = False := eq_false (by have := C3.out; omega)
        clear x1
        by_cases c4 : (a2 && decide ((kn : Int) > 0)) = true
        · simp only [Bool.and_eq_true, decide_eq_true_eq] at c4
          obtain ⟨rfl, c5⟩ := c4
          simp only [show (true && decide ((kn : Int) > 0)) = true by simp; omega, Go.Proofs.YtkpieljmhgfofaaDoorCb.crash, if_true]
          have y1 : (0 < (kn : Int)) = True := eq_true (by omega)
          have y2 : (0 < kn) = True := eq_true (by omega)
          go_enter Tryd.func25, Tryd.ntmps25
          go_wp2_with (first | ((with_reducible refine gate_dst (N := 3) rfl ?_); refine box_event ?hg (N := 3) ?hd (cs := #[.string a0_0, .string a0_1, .int .i64 a0_2]) (t := 31) ?hr ?_; (case hd => rfl); (case hg => rfl); (case hr => first | (go_simp; done) | (go_simp; rfl)); intro gb hg w1 hbox hb; have n1_ := Aside0.mk (below_step (by repeat (first | (with_reducible first | exact HB.out | apply below_alloc | apply pw_below_drewN | apply below_drew1) | exact HB.out)) hb); have n3_ := Aside0.mk hbox; have n4_ := Aside0.mk ((by rw [hg]; exact below_size (by repeat (first | (with_reducible first | exact HB.out | apply below_alloc | apply pw_below_drewN | apply below_drew1) | exact HB.out)) : w.heap.size ≤ gb)); clear HB; have HB := n1_; have BK := n3_; have GE := n4_; clear n1_ n3_ n4_ hb hbox hg; have hcz0 : w1.cell? ⟨gb, 0, none⟩ = some (.string a0_0) := (blk_cell BK.out 0).trans rfl; have hcz1 : w1.cell? ⟨gb, 1, none⟩ = some (.string a0_1) := (blk_cell BK.out 1).trans rfl; have hcz2 : w1.cell? ⟨gb, 2, none⟩ = some (.int .i64 a0_2) := (blk_cell BK.out 2).trans rfl) | ((with_reducible refine gate_callee (f := 23) rfl ?_); (try (refine gate_guard (by rfl) ?_; dsimp only)); refine goesL_ (some 10) rfl rfl Tryd.func23 (by kernel_rfl) rfl #[.agg #[.string a0_0, .string a0_1, .int .i64 a0_2]] rfl (by (try simp only [List.map_toArray, List.map_cons, List.map_nil]); first | done | rfl | (simp only [List.length_drop, List.length_take]; rfl)) ?_; (with_reducible refine (impl_IsValidLog.calls k a0_0 a0_1 a0_2 true _ (Glob.below HGL.out (by repeat (first | (with_reducible first | exact HB.out | apply below_alloc | apply pw_below_drewN | apply below_drew1) | exact HB.out))) A1.out).mono ?_); rintro e w2 ⟨rfl, hb⟩; refine ⟨_, rfl, ?_⟩; have BK2 := Aside0.mk (blk_below (by (with_reducible repeat (first | refine blk_drewN ?_ _ | refine blk_drew ?_ | refine blk_alloc ?_ _)); exact BK.out) hb); have n1_ := Aside0.mk (below_step (by repeat (first | (with_reducible first | exact HB.out | apply below_alloc | apply pw_below_drewN | apply below_drew1) | exact HB.out)) hb); clear HB; have HB := n1_; clear n1_ hb; have hcy0 : w2.cell? ⟨gb, 0, none⟩ = some (.string a0_0) := (blk_cell BK2.out 0).trans rfl; have hcy1 : w2.cell? ⟨gb, 1, none⟩ = some (.string a0_1) := (blk_cell BK2.out 1).trans rfl; have hcy2 : w2.cell? ⟨gb, 2, none⟩ = some (.int .i64 a0_2) := (blk_cell BK2.out 2).trans rfl) | (go_at_call 45; (with_reducible refine (impl_within.calls (kn : Int) 0 (a0_1.size : Int) true _ A2.out).mono ?_); rintro e w' ⟨rfl, ⟨nd, rfl⟩⟩))
          repeat (go_quiet (fail); try go_wp2)
          refine start_ (n := 9) (S := fun w' => w'.cell? ⟨gb, 0, none⟩ = some (.string a0_0) ∧ w'.cell? ⟨gb, 1, none⟩ = some (.string a0_1)) (ds := []) #[false, false, false, false, false, false, false, false, false] (by kernel_rfl) rfl rfl ⟨(blk_cell (by (with_reducible repeat (first | refine blk_drewN ?_ _ | refine blk_drew ?_ | refine blk_alloc ?_ _)); exact BK2.out) 0).trans rfl, (blk_cell (by (with_reducible repeat (first | refine blk_drewN ?_ _ | refine blk_drew ?_ | refine blk_alloc ?_ _)); exact BK2.out) 1).trans rfl⟩ (fun hHeld => ?_)
          refine take_ (i := 0) (N := some 20) (v := ?_) (a' := ?_) #[true, false, false, false, false, false, false, false, false] rfl rfl (by kernel_rfl) (fun _ _ _ h => h) (Or.inl ⟨by rfl, ?_⟩) hHeld ?_ ?_
          rotate_left
          · rintro w' ⟨s0, s1⟩
            go_simp
            first | done | with_reducible rfl | (rw [if_neg (by omega)]; try with_reducible rfl)
          rotate_left
          · simp only [Act.put, List.setIfInBounds_toArray, List.set_cons_zero, List.set_cons_succ, i64_w, i32_w]
            rfl
          refine take_ (i := 1) (N := some 21) (v := ?_) (a' := ?_) #[true, true, false, false, false, false, false, false, false] rfl rfl (by kernel_rfl) (fun _ _ _ h => h) (Or.inl ⟨by rfl, ?_⟩) hHeld ?_ ?_
          rotate_left
          · rintro w' ⟨s0, s1⟩
            go_simp
            first | done | with_reducible rfl | (rw [if_neg (by omega)]; try with_reducible rfl)
          rotate_left
          · simp only [Act.put, List.setIfInBounds_toArray, List.set_cons_zero, List.set_cons_succ, i64_w, i32_w]
            rfl
          refine take_ (i := 2) (N := some 22) (v := ?_) (a' := ?_) #[true, true, true, false, false, false, false, false, false] rfl rfl (by kernel_rfl) (fun _ _ _ h => h) (Or.inl ⟨by rfl, ?_⟩) hHeld ?_ ?_
          rotate_left
          · rintro w' ⟨s0, s1⟩
            go_simp
            first | done | with_reducible rfl | (rw [if_neg (by omega)]; try with_reducible rfl)
          rotate_left
          · simp only [Act.put, List.setIfInBounds_toArray, List.set_cons_zero, List.set_cons_succ, i64_w, i32_w]
            rfl
          refine take_ (i := 3) (N := some 23) (v := ?_) (a' := ?_) #[true, true, true, true, false, false, false, false, false] rfl rfl (by kernel_rfl) (fun _ _ _ h => h) (Or.inl ⟨by rfl, ?_⟩) hHeld ?_ ?_
          rotate_left
          · rintro w' ⟨s0, s1⟩
            go_simp
            first | done | with_reducible rfl | (rw [if_neg (by omega)]; try with_reducible rfl)
          rotate_left
          · simp only [Act.put, List.setIfInBounds_toArray, List.set_cons_zero, List.set_cons_succ, i64_w, i32_w]
            rfl
          refine pure_ (i := 4) (N := some 24) (v := ?_) (a' := ?_) #[true, true, true, true, true, false, false, false, false] rfl rfl (by kernel_rfl) (fun _ _ _ h => h) (Or.inl ⟨by rfl, ?_⟩) ?_ ?_
          rotate_left
          · intro w'
            go_simp
            first | done | with_reducible rfl | (rw [if_neg (by omega)]; try with_reducible rfl)
          rotate_left
          · simp only [Act.put, List.setIfInBounds_toArray, List.set_cons_zero, List.set_cons_succ, i64_w, i32_w]
            rfl
          refine pure_ (i := 5) (N := some 25) (v := ?_) (a' := ?_) #[true, true, true, true, true, true, false, false, false] rfl rfl (by kernel_rfl) (fun _ _ _ h => h) (Or.inl ⟨by rfl, ?_⟩) ?_ ?_
          rotate_left
          · intro w'
            go_simp
            first | done | with_reducible rfl | (rw [if_neg (by omega)]; try with_reducible rfl)
          rotate_left
          · simp only [Act.put, List.setIfInBounds_toArray, List.set_cons_zero, List.set_cons_succ, i64_w, i32_w]
            rfl
          refine pure_ (i := 6) (N := some 26) (v := ?_) (a' := ?_) #[true, true, true, true, true, true, true, false, false] rfl rfl (by kernel_rfl) (fun _ _ _ h => h) (Or.inl ⟨by rfl, ?_⟩) ?_ ?_
          rotate_left
          · intro w'
            go_simp
            first | done | with_reducible rfl | (rw [if_neg (by omega)]; try with_reducible rfl)
          rotate_left
          · simp only [Act.put, List.setIfInBounds_toArray, List.set_cons_zero, List.set_cons_succ, i64_w, i32_w]
            rfl
          refine one_ (i := 7) (N := some 27) #[true, true, true, true, true, true, true, true, false] rfl rfl (by kernel_rfl) (by decide) (fun K hK => ?_)
          refine Go.Proofs.YtkpieljmhgfofaaDoorCb.conv_step _ 9 53 5 _ rfl rfl rfl ((a0_0 ++ a0_1.extract 0 kn)) rfl Tryd.underlying9 Tryd.underlying53 Tryd.underlying5 ?_
          intro g cap w3 hg hby hb
          have BK3 := Aside0.mk (blk_below (by (with_reducible repeat (first | refine blk_drewN ?_ _ | refine blk_drew ?_ | refine blk_alloc ?_ _)); exact BK2.out) hb)
          have n1_ := Aside0.mk (below_step (by repeat (first | (with_reducible first | exact HB.out | apply below_alloc | apply pw_below_drewN | apply below_drew1) | exact HB.out)) hb)
          have BY := Aside0.mk hby
          have NBx : gb ≠ g := by rw [hg]; exact Nat.ne_of_lt (blk_lt (by (with_reducible repeat (first | refine blk_drewN ?_ _ | refine blk_drew ?_ | refine blk_alloc ?_ _)); exact BK2.out))
          have GG := Aside0.mk ((by rw [hg]; exact below_size (by repeat (first | (with_reducible first | exact HB.out | apply below_alloc | apply pw_below_drewN | apply below_drew1) | exact HB.out)) : w.heap.size ≤ g))
          clear HB
          have HB := n1_
          clear n1_ hb hby hg BK2 hHeld
          refine hK.out _ _ ⟨(blk_cell BK3.out 0).trans rfl, (blk_cell BK3.out 1).trans rfl⟩ (fun hHeld => ?_)
          clear hK K
          refine norm_ (a' := ?_) ?_ ?_
          rotate_left
          · show Act.put _ (some 27) _ = _
            simp only [Act.put, List.setIfInBounds_toArray, List.set_cons_zero, List.set_cons_succ, i64_w, i32_w]
            rfl
          refine pure_ (i := 8) (N := some 8) (v := ?_) (a' := ?_) #[true, true, true, true, true, true, true, true, true] rfl rfl (by kernel_rfl) (fun _ _ _ h => h) (Or.inl ⟨by rfl, ?_⟩) ?_ ?_
          rotate_left
          · intro w'
            go_simp
            first | done | with_reducible rfl | (rw [if_neg (by omega)]; try with_reducible rfl)
          rotate_left
          · simp only [Act.put, List.setIfInBounds_toArray, List.set_cons_zero, List.set_cons_succ, i64_w, i32_w]
            rfl
          refine done_ (by kernel_rfl) ?_
          have hS : ((a0_0 ++ a0_1.extract 0 kn)).data.toList.length = a0_0.size + kn := by
            have := C3.out
            have e : ((a0_0 ++ a0_1.extract 0 kn)).data.toList.length = ((a0_0 ++ a0_1.extract 0 kn)).size := by rw [Array.length_toList]; rfl
            rw [e]; simp only [ByteArray.size_append, ByteArray.size_extract]; omega
          obtain ⟨L, hL⟩ : ∃ L, L = ((a0_0 ++ a0_1.extract 0 kn)).data.toList := ⟨_, rfl⟩
          have BYL := Aside0.mk (by rw [hL]; exact BY.out : Go.Proofs.YtkpieljmhgfofaaDoorCb.BytesAt w3 g L)
          have HE := Aside0.mk (by rw [hL] : (⟨L.toArray⟩ : ByteArray) = (a0_0 ++ a0_1.extract 0 kn))
          rw [← hL] at hS
          have HL := Aside0.mk hL
          clear hL BY
          obtain ⟨M, hM⟩ : ∃ M, M + 1 = a0_0.size + kn := ⟨a0_0.size + kn - 1, by omega⟩
          have hml : M < L.length := by omega
          have hl := BYL.out.cell M hml
          have hfz := BYL.out.frozen M hml
          have ht : Go.Proofs.YtkpieljmhgfofaaDoorCb.torn ((a0_0 ++ a0_1.extract 0 kn)).data.toList = L.set M (255 - L[M]) := by
            rw [← HL.out]
            have e : L.length - 1 = M := by omega
            unfold Go.Proofs.YtkpieljmhgfofaaDoorCb.torn
            rw [e, List.getD_eq_getElem?_getD, List.getElem?_eq_getElem hml]; rfl
          generalize hbb : L[M] = b at hl ht
          have HT := Aside0.mk ht
          have hS2 : (L.set M (255 - b)).length = a0_0.size + kn := by rw [List.length_set]; exact hS
          have hwr : wrap64 ((a0_0.size : Int) + (kn : Int) - 1) = (M : Int) := by have := C3.out; unfold wrap64; omega
          have hi0 : ((M : Int) < (a0_0.size : Int) + (kn : Int)) = True := eq_true (by omega)
          have hi1 : (M < a0_0.size + kn) = True := eq_true (by omega)
          have hsb : IntKind.u8.wrap (255 - (b.toNat : Int)) = ((255 - b : UInt8).toNat : Int) := Go.Proofs.YtkpieljmhgfofaaDoorCb.sub_wrap b
          have hmn : min kn a0_1.size = kn := Nat.min_eq_left (by have := C3.out; omega)
          have NB := Aside0.mk NBx
          clear C3 ht hbb
          go_wp2_with (first | ((with_reducible refine gate_store (t := 5) (p := 44) rfl ?_); refine store_event (t := 5) (p := 44) (v := ?vo_) (w1 := (w3.setCell ⟨g, M, none⟩ (.int .u8 ((255 - b : UInt8).toNat : Int)))) ?hg ?ho ?hn ?hr ?_; (case ho => rfl); (case hg => rfl); (case hn => rfl); (case hr => first | (go_simp; done) | (go_simp; rfl)); intro w4 hw; have BY2 := Aside0.mk (by rw [hw]; exact BYL.out.put M (255 - b) : Go.Proofs.YtkpieljmhgfofaaDoorCb.BytesAt w4 g _); have hcv := BY2.out.back (P := Tryd.prog) 53 9 5 cap Tryd.underlying53 Tryd.underlying5 Tryd.underlying9 (a0_0.size + kn) hS2.symm; have hcvN := fun n => (BY2.out.drewN n).back (P := Tryd.prog) 53 9 5 cap Tryd.underlying53 Tryd.underlying5 Tryd.underlying9 (a0_0.size + kn) hS2.symm; have BK4 := Aside0.mk (by rw [hw]; exact blk_far BK3.out NB.out _ : w4.heap[gb]? = some (.cells #[.string a0_0, .string a0_1, .int .i64 a0_2] 31 (0, 0))); have hcw0 : w4.cell? ⟨gb, 0, none⟩ = some (.string a0_0) := (blk_cell BK4.out 0).trans rfl; have n1_ := Aside0.mk ((by rw [hw]; exact below_set (HB.out) GG.out : Below w.heap.size w w4)); clear HB hl hfz hw; have HB := n1_; clear n1_))
          repeat (go_quiet (fail); try go_wp2)
          go_ret2
          exact ⟨by rw [HT.out]; rfl, by repeat (first | (with_reducible first | exact HB.out | apply below_alloc | apply pw_below_drewN | apply below_drew1 | refine below_set ?_ (Aside0.out (by assumption))) | exact HB.out)⟩
        · replace c4 := Bool.eq_false_iff.mpr c4
          simp only [c4, Go.Proofs.YtkpieljmhgfofaaDoorCb.crash, Bool.false_eq_true, if_false]
          by_cases c5 : a2 = true
          · subst c5
            have y3 : kn = 0 := by simp at c4; omega
            have y1 : (0 < (kn : Int)) = False := eq_false (by omega)
            have y2 : (0 < kn) = False := eq_false (by omega)
            clear c4 y3
            go_enter Tryd.func25, Tryd.ntmps25
            go_wp2_with (first | ((with_reducible refine gate_dst (N := 3) rfl ?_); refine box_event ?hg (N := 3) ?hd (cs := #[.string a0_0, .string a0_1, .int .i64 a0_2]) (t := 31) ?hr ?_; (case hd => rfl); (case hg => rfl); (case hr => first | (go_simp; done) | (go_simp; rfl)); intro gb hg w1 hbox hb; have n1_ := Aside0.mk (below_step (by repeat (first | (with_reducible first | exact HB.out | apply below_alloc | apply pw_below_drewN | apply below_drew1) | exact HB.out)) hb); have n3_ := Aside0.mk hbox; have n4_ := Aside0.mk ((by rw [hg]; exact below_size (by repeat (first | (with_reducible first | exact HB.out | apply below_alloc | apply pw_below_drewN | apply below_drew1) | exact HB.out)) : w.heap.size ≤ gb)); clear HB; have HB := n1_; have BK := n3_; have GE := n4_; clear n1_ n3_ n4_ hb hbox hg; have hcz0 : w1.cell? ⟨gb, 0, none⟩ = some (.string a0_0) := (blk_cell BK.out 0).trans rfl; have hcz1 : w1.cell? ⟨gb, 1, none⟩ = some (.string a0_1) := (blk_cell BK.out 1).trans rfl; have hcz2 : w1.cell? ⟨gb, 2, none⟩ = some (.int .i64 a0_2) := (blk_cell BK.out 2).trans rfl) | ((with_reducible refine gate_callee (f := 23) rfl ?_); (try (refine gate_guard (by rfl) ?_; dsimp only)); refine goesL_ (some 10) rfl rfl Tryd.func23 (by kernel_rfl) rfl #[.agg #[.string a0_0, .string a0_1, .int .i64 a0_2]] rfl (by (try simp only [List.map_toArray, List.map_cons, List.map_nil]); first | done | rfl | (simp only [List.length_drop, List.length_take]; rfl)) ?_; (with_reducible refine (impl_IsValidLog.calls k a0_0 a0_1 a0_2 true _ (Glob.below HGL.out (by repeat (first | (with_reducible first | exact HB.out | apply below_alloc | apply pw_below_drewN | apply below_drew1) | exact HB.out))) A1.out).mono ?_); rintro e w2 ⟨rfl, hb⟩; refine ⟨_, rfl, ?_⟩; have BK2 := Aside0.mk (blk_below (by (with_reducible repeat (first | refine blk_drewN ?_ _ | refine blk_drew ?_ | refine blk_alloc ?_ _)); exact BK.out) hb); have n1_ := Aside0.mk (below_step (by repeat (first | (with_reducible first | exact HB.out | apply below_alloc | apply pw_below_drewN | apply below_drew1) | exact HB.out)) hb); clear HB; have HB := n1_; clear n1_ hb; have hcy0 : w2.cell? ⟨gb, 0, none⟩ = some (.string a0_0) := (blk_cell BK2.out 0).trans rfl; have hcy1 : w2.cell? ⟨gb, 1, none⟩ = some (.string a0_1) := (blk_cell BK2.out 1).trans rfl; have hcy2 : w2.cell? ⟨gb, 2, none⟩ = some (.int .i64 a0_2) := (blk_cell BK2.out 2).trans rfl) | (go_at_call 45; (with_reducible refine (impl_within.calls (kn : Int) 0 (a0_1.size : Int) true _ A2.out).mono ?_); rintro e w' ⟨rfl, ⟨nd, rfl⟩⟩))
            repeat (go_quiet (fail); try go_wp2)
            refine start_ (n := 9) (S := fun w' => w'.cell? ⟨gb, 0, none⟩ = some (.string a0_0) ∧ w'.cell? ⟨gb, 1, none⟩ = some (.string a0_1)) (ds := []) #[false, false, false, false, false, false, false, false, false] (by kernel_rfl) rfl rfl ⟨(blk_cell (by (with_reducible repeat (first | refine blk_drewN ?_ _ | refine blk_drew ?_ | refine blk_alloc ?_ _)); exact BK2.out) 0).trans rfl, (blk_cell (by (with_reducible repeat (first | refine blk_drewN ?_ _ | refine blk_drew ?_ | refine blk_alloc ?_ _)); exact BK2.out) 1).trans rfl⟩ (fun hHeld => ?_)
            refine take_ (i := 0) (N := some 20) (v := ?_) (a' := ?_) #[true, false, false, false, false, false, false, false, false] rfl rfl (by kernel_rfl) (fun _ _ _ h => h) (Or.inl ⟨by rfl, ?_⟩) hHeld ?_ ?_
            rotate_left
            · rintro w' ⟨s0, s1⟩
              go_simp
              first | done | with_reducible rfl | (rw [if_neg (by omega)]; try with_reducible rfl)
            rotate_left
            · simp only [Act.put, List.setIfInBounds_toArray, List.set_cons_zero, List.set_cons_succ, i64_w, i32_w]
              rfl
            refine take_ (i := 1) (N := some 21) (v := ?_) (a' := ?_) #[true, true, false, false, false, false, false, false, false] rfl rfl (by kernel_rfl) (fun _ _ _ h => h) (Or.inl ⟨by rfl, ?_⟩) hHeld ?_ ?_
            rotate_left
            · rintro w' ⟨s0, s1⟩
              go_simp
              first | done | with_reducible rfl | (rw [if_neg (by omega)]; try with_reducible rfl)
            rotate_left
            · simp only [Act.put, List.setIfInBounds_toArray, List.set_cons_zero, List.set_cons_succ, i64_w, i32_w]
              rfl
            refine take_ (i := 2) (N := some 22) (v := ?_) (a' := ?_) #[true, true, true, false, false, false, false, false, false] rfl rfl (by kernel_rfl) (fun _ _ _ h => h) (Or.inl ⟨by rfl, ?_⟩) hHeld ?_ ?_
            rotate_left
            · rintro w' ⟨s0, s1⟩
              go_simp
              first | done | with_reducible rfl | (rw [if_neg (by omega)]; try with_reducible rfl)
            rotate_left
            · simp only [Act.put, List.setIfInBounds_toArray, List.set_cons_zero, List.set_cons_succ, i64_w, i32_w]
              rfl
            refine take_ (i := 3) (N := some 23) (v := ?_) (a' := ?_) #[true, true, true, true, false, false, false, false, false] rfl rfl (by kernel_rfl) (fun _ _ _ h => h) (Or.inl ⟨by rfl, ?_⟩) hHeld ?_ ?_
            rotate_left
            · rintro w' ⟨s0, s1⟩
              go_simp
              first | done | with_reducible rfl | (rw [if_neg (by omega)]; try with_reducible rfl)
            rotate_left
            · simp only [Act.put, List.setIfInBounds_toArray, List.set_cons_zero, List.set_cons_succ, i64_w, i32_w]
              rfl
            refine pure_ (i := 4) (N := some 24) (v := ?_) (a' := ?_) #[true, true, true, true, true, false, false, false, false] rfl rfl (by kernel_rfl) (fun _ _ _ h => h) (Or.inl ⟨by rfl, ?_⟩) ?_ ?_
            rotate_left
            · intro w'
              go_simp
              first | done | with_reducible rfl | (rw [if_neg (by omega)]; try with_reducible rfl)
            rotate_left
            · simp only [Act.put, List.setIfInBounds_toArray, List.set_cons_zero, List.set_cons_succ, i64_w, i32_w]
              rfl
            refine pure_ (i := 5) (N := some 25) (v := ?_) (a' := ?_) #[true, true, true, true, true, true, false, false, false] rfl rfl (by kernel_rfl) (fun _ _ _ h => h) (Or.inl ⟨by rfl, ?_⟩) ?_ ?_
            rotate_left
            · intro w'
              go_simp
              first | done | with_reducible rfl | (rw [if_neg (by omega)]; try with_reducible rfl)
            rotate_left
            · simp only [Act.put, List.setIfInBounds_toArray, List.set_cons_zero, List.set_cons_succ, i64_w, i32_w]
              rfl
            refine pure_ (i := 6) (N := some 26) (v := ?_) (a' := ?_) #[true, true, true, true, true, true, true, false, false] rfl rfl (by kernel_rfl) (fun _ _ _ h => h) (Or.inl ⟨by rfl, ?_⟩) ?_ ?_
            rotate_left
            · intro w'
              go_simp
              first | done | with_reducible rfl | (rw [if_neg (by omega)]; try with_reducible rfl)
            rotate_left
            · simp only [Act.put, List.setIfInBounds_toArray, List.set_cons_zero, List.set_cons_succ, i64_w, i32_w]
              rfl
            refine one_ (i := 7) (N := some 27) #[true, true, true, true, true, true, true, true, false] rfl rfl (by kernel_rfl) (by decide) (fun K hK => ?_)
            refine Go.Proofs.YtkpieljmhgfofaaDoorCb.conv_step _ 9 53 5 _ rfl rfl rfl ((a0_0 ++ a0_1.extract 0 kn)) rfl Tryd.underlying9 Tryd.underlying53 Tryd.underlying5 ?_
            intro g cap w3 hg hby hb
            have BK3 := Aside0.mk (blk_below (by (with_reducible repeat (first | refine blk_drewN ?_ _ | refine blk_drew ?_ | refine blk_alloc ?_ _)); exact BK2.out) hb)
            have n1_ := Aside0.mk (below_step (by repeat (first | (with_reducible first | exact HB.out | apply below_alloc | apply pw_below_drewN | apply below_drew1) | exact HB.out)) hb)
            have BY := Aside0.mk hby
            have NBx : gb ≠ g := by rw [hg]; exact Nat.ne_of_lt (blk_lt (by (with_reducible repeat (first | refine blk_drewN ?_ _ | refine blk_drew ?_ | refine blk_alloc ?_ _)); exact BK2.out))
            have GG := Aside0.mk ((by rw [hg]; exact below_size (by repeat (first | (with_reducible first | exact HB.out | apply below_alloc | apply pw_below_drewN | apply below_drew1) | exact HB.out)) : w.heap.size ≤ g))
            clear HB
            have HB := n1_
            clear n1_ hb hby hg BK2 hHeld
            refine hK.out _ _ ⟨(blk_cell BK3.out 0).trans rfl, (blk_cell BK3.out 1).trans rfl⟩ (fun hHeld => ?_)
            clear hK K
            refine norm_ (a' := ?_) ?_ ?_
            rotate_left
            · show Act.put _ (some 27) _ = _
              simp only [Act.put, List.setIfInBounds_toArray, List.set_cons_zero, List.set_cons_succ, i64_w, i32_w]
              rfl
            refine pure_ (i := 8) (N := some 8) (v := ?_) (a' := ?_) #[true, true, true, true, true, true, true, true, true] rfl rfl (by kernel_rfl) (fun _ _ _ h => h) (Or.inl ⟨by rfl, ?_⟩) ?_ ?_
            rotate_left
            · intro w'
              go_simp
              first | done | with_reducible rfl | (rw [if_neg (by omega)]; try with_reducible rfl)
            rotate_left
            · simp only [Act.put, List.setIfInBounds_toArray, List.set_cons_zero, List.set_cons_succ, i64_w, i32_w]
              rfl
            refine done_ (by kernel_rfl) ?_
            have hS : ((a0_0 ++ a0_1.extract 0 kn)).data.toList.length = a0_0.size + kn := by
              have := C3.out
              have e : ((a0_0 ++ a0_1.extract 0 kn)).data.toList.length = ((a0_0 ++ a0_1.extract 0 kn)).size := by rw [Array.length_toList]; rfl
              rw [e]; simp only [ByteArray.size_append, ByteArray.size_extract]; omega
            obtain ⟨L, hL⟩ : ∃ L, L = ((a0_0 ++ a0_1.extract 0 kn)).data.toList := ⟨_, rfl⟩
            have BYL := Aside0.mk (by rw [hL]; exact BY.out : Go.Proofs.YtkpieljmhgfofaaDoorCb.BytesAt w3 g L)
            have HE := Aside0.mk (by rw [hL] : (⟨L.toArray⟩ : ByteArray) = (a0_0 ++ a0_1.extract 0 kn))
            rw [← hL] at hS
            have HL := Aside0.mk hL
            clear hL BY
            have hcv := BYL.out.back (P := Tryd.prog) 53 9 5 cap Tryd.underlying53 Tryd.underlying5 Tryd.underlying9 (a0_0.size + kn) hS.symm
            have hcvN := fun n => (BYL.out.drewN n).back (P := Tryd.prog) 53 9 5 cap Tryd.underlying53 Tryd.underlying5 Tryd.underlying9 (a0_0.size + kn) hS.symm
            have hmn : min kn a0_1.size = kn := Nat.min_eq_left (by have := C3.out; omega)
            clear C3
            try go_wp2
            repeat (go_quiet (fail); try go_wp2)
            go_ret2
            exact ⟨by rw [← HE.out]; rfl, by repeat (first | (with_reducible first | exact HB.out | apply below_alloc | apply pw_below_drewN | apply below_drew1 | refine below_set ?_ (Aside0.out (by assumption))) | exact HB.out)⟩
          · replace c5 := Bool.eq_false_iff.mpr c5
            subst c5
            clear c4
            go_enter Tryd.func25, Tryd.ntmps25
            go_wp2_with (first | ((with_reducible refine gate_dst (N := 3) rfl ?_); refine box_event ?hg (N := 3) ?hd (cs := #[.string a0_0, .string a0_1, .int .i64 a0_2]) (t := 31) ?hr ?_; (case hd => rfl); (case hg => rfl); (case hr => first | (go_simp; done) | (go_simp; rfl)); intro gb hg w1 hbox hb; have n1_ := Aside0.mk (below_step (by repeat (first | (with_reducible first | exact HB.out | apply below_alloc | apply pw_below_drewN | apply below_drew1) | exact HB.out)) hb); have n3_ := Aside0.mk hbox; have n4_ := Aside0.mk ((by rw [hg]; exact below_size (by repeat (first | (with_reducible first | exact HB.out | apply below_alloc | apply pw_below_drewN | apply below_drew1) | exact HB.out)) : w.heap.size ≤ gb)); clear HB; have HB := n1_; have BK := n3_; have GE := n4_; clear n1_ n3_ n4_ hb hbox hg; have hcz0 : w1.cell? ⟨gb, 0, none⟩ = some (.string a0_0) := (blk_cell BK.out 0).trans rfl; have hcz1 : w1.cell? ⟨gb, 1, none⟩ = some (.string a0_1) := (blk_cell BK.out 1).trans rfl; have hcz2 : w1.cell? ⟨gb, 2, none⟩ = some (.int .i64 a0_2) := (blk_cell BK.out 2).trans rfl) | ((with_reducible refine gate_callee (f := 23) rfl ?_); (try (refine gate_guard (by rfl) ?_; dsimp only)); refine goesL_ (some 10) rfl rfl Tryd.func23 (by kernel_rfl) rfl #[.agg #[.string a0_0, .string a0_1, .int .i64 a0_2]] rfl (by (try simp only [List.map_toArray, List.map_cons, List.map_nil]); first | done | rfl | (simp only [List.length_drop, List.length_take]; rfl)) ?_; (with_reducible refine (impl_IsValidLog.calls k a0_0 a0_1 a0_2 true _ (Glob.below HGL.out (by repeat (first | (with_reducible first | exact HB.out | apply below_alloc | apply pw_below_drewN | apply below_drew1) | exact HB.out))) A1.out).mono ?_); rintro e w2 ⟨rfl, hb⟩; refine ⟨_, rfl, ?_⟩; have BK2 := Aside0.mk (blk_below (by (with_reducible repeat (first | refine blk_drewN ?_ _ | refine blk_drew ?_ | refine blk_alloc ?_ _)); exact BK.out) hb); have n1_ := Aside0.mk (below_step (by repeat (first | (with_reducible first | exact HB.out | apply below_alloc | apply pw_below_drewN | apply below_drew1) | exact HB.out)) hb); clear HB; have HB := n1_; clear n1_ hb; have hcy0 : w2.cell? ⟨gb, 0, none⟩ = some (.string a0_0) := (blk_cell BK2.out 0).trans rfl; have hcy1 : w2.cell? ⟨gb, 1, none⟩ = some (.string a0_1) := (blk_cell BK2.out 1).trans rfl; have hcy2 : w2.cell? ⟨gb, 2, none⟩ = some (.int .i64 a0_2) := (blk_cell BK2.out 2).trans rfl) | (go_at_call 45; (with_reducible refine (impl_within.calls (kn : Int) 0 (a0_1.size : Int) true _ A2.out).mono ?_); rintro e w' ⟨rfl, ⟨nd, rfl⟩⟩))
            repeat (go_quiet (fail); try go_wp2)
            refine start_ (n := 9) (S := fun w' => w'.cell? ⟨gb, 0, none⟩ = some (.string a0_0) ∧ w'.cell? ⟨gb, 1, none⟩ = some (.string a0_1)) (ds := []) #[false, false, false, false, false, false, false, false, false] (by kernel_rfl) rfl rfl ⟨(blk_cell (by (with_reducible repeat (first | refine blk_drewN ?_ _ | refine blk_drew ?_ | refine blk_alloc ?_ _)); exact BK2.out) 0).trans rfl, (blk_cell (by (with_reducible repeat (first | refine blk_drewN ?_ _ | refine blk_drew ?_ | refine blk_alloc ?_ _)); exact BK2.out) 1).trans rfl⟩ (fun hHeld => ?_)
            refine take_ (i := 0) (N := some 20) (v := ?_) (a' := ?_) #[true, false, false, false, false, false, false, false, false] rfl rfl (by kernel_rfl) (fun _ _ _ h => h) (Or.inl ⟨by rfl, ?_⟩) hHeld ?_ ?_
            rotate_left
            · rintro w' ⟨s0, s1⟩
              go_simp
              first | done | with_reducible rfl | (rw [if_neg (by omega)]; try with_reducible rfl)
            rotate_left
            · simp only [Act.put, List.setIfInBounds_toArray, List.set_cons_zero, List.set_cons_succ, i64_w, i32_w]
              rfl
            refine take_ (i := 1) (N := some 21) (v := ?_) (a' := ?_) #[true, true, false, false, false, false, false, false, false] rfl rfl (by kernel_rfl) (fun _ _ _ h => h) (Or.inl ⟨by rfl, ?_⟩) hHeld ?_ ?_
            rotate_left
            · rintro w' ⟨s0, s1⟩
              go_simp
              first | done | with_reducible rfl | (rw [if_neg (by omega)]; try with_reducible rfl)
            rotate_left
            · simp only [Act.put, List.setIfInBounds_toArray, List.set_cons_zero, List.set_cons_succ, i64_w, i32_w]
              rfl
            refine take_ (i := 2) (N := some 22) (v := ?_) (a' := ?_) #[true, true, true, false, false, false, false, false, false] rfl rfl (by kernel_rfl) (fun _ _ _ h => h) (Or.inl ⟨by rfl, ?_⟩) hHeld ?_ ?_
            rotate_left
            · rintro w' ⟨s0, s1⟩
              go_simp
              first | done | with_reducible rfl | (rw [if_neg (by omega)]; try with_reducible rfl)
            rotate_left
            · simp only [Act.put, List.setIfInBounds_toArray, List.set_cons_zero, List.set_cons_succ, i64_w, i32_w]
              rfl
            refine take_ (i := 3) (N := some 23) (v := ?_) (a' := ?_) #[true, true, true, true, false, false, false, false, false] rfl rfl (by kernel_rfl) (fun _ _ _ h => h) (Or.inl ⟨by rfl, ?_⟩) hHeld ?_ ?_
            rotate_left
            · rintro w' ⟨s0, s1⟩
              go_simp
              first | done | with_reducible rfl | (rw [if_neg (by omega)]; try with_reducible rfl)
            rotate_left
            · simp only [Act.put, List.setIfInBounds_toArray, List.set_cons_zero, List.set_cons_succ, i64_w, i32_w]
              rfl
            refine pure_ (i := 4) (N := some 24) (v := ?_) (a' := ?_) #[true, true, true, true, true, false, false, false, false] rfl rfl (by kernel_rfl) (fun _ _ _ h => h) (Or.inl ⟨by rfl, ?_⟩) ?_ ?_
            rotate_left
            · intro w'
              go_simp
              first | done | with_reducible rfl | (rw [if_neg (by omega)]; try with_reducible rfl)
            rotate_left
            · simp only [Act.put, List.setIfInBounds_toArray, List.set_cons_zero, List.set_cons_succ, i64_w, i32_w]
              rfl
            refine pure_ (i := 5) (N := some 25) (v := ?_) (a' := ?_) #[true, true, true, true, true, true, false, false, false] rfl rfl (by kernel_rfl) (fun _ _ _ h => h) (Or.inl ⟨by rfl, ?_⟩) ?_ ?_
            rotate_left
            · intro w'
              go_simp
              first | done | with_reducible rfl | (rw [if_neg (by omega)]; try with_reducible rfl)
            rotate_left
            · simp only [Act.put, List.setIfInBounds_toArray, List.set_cons_zero, List.set_cons_succ, i64_w, i32_w]
              rfl
            refine pure_ (i := 6) (N := some 26) (v := ?_) (a' := ?_) #[true, true, true, true, true, true, true, false, false] rfl rfl (by kernel_rfl) (fun _ _ _ h => h) (Or.inl ⟨by rfl, ?_⟩) ?_ ?_
            rotate_left
            · intro w'
              go_simp
              first | done | with_reducible rfl | (rw [if_neg (by omega)]; try with_reducible rfl)
            rotate_left
            · simp only [Act.put, List.setIfInBounds_toArray, List.set_cons_zero, List.set_cons_succ, i64_w, i32_w]
              rfl
            refine one_ (i := 7) (N := some 27) #[true, true, true, true, true, true, true, true, false] rfl rfl (by kernel_rfl) (by decide) (fun K hK => ?_)
            refine Go.Proofs.YtkpieljmhgfofaaDoorCb.conv_step _ 9 53 5 _ rfl rfl rfl ((a0_0 ++ a0_1.extract 0 kn)) rfl Tryd.underlying9 Tryd.underlying53 Tryd.underlying5 ?_
            intro g cap w3 hg hby hb
            have BK3 := Aside0.mk (blk_below (by (with_reducible repeat (first | refine blk_drewN ?_ _ | refine blk_drew ?_ | refine blk_alloc ?_ _)); exact BK2.out) hb)
            have n1_ := Aside0.mk (below_step (by repeat (first | (with_reducible first | exact HB.out | apply below_alloc | apply pw_below_drewN | apply below_drew1) | exact HB.out)) hb)
            have BY := Aside0.mk hby
            have NBx : gb ≠ g := by rw [hg]; exact Nat.ne_of_lt (blk_lt (by (with_reducible repeat (first | refine blk_drewN ?_ _ | refine blk_drew ?_ | refine blk_alloc ?_ _)); exact BK2.out))
            have GG := Aside0.mk ((by rw [hg]; exact below_size (by repeat (first | (with_reducible first | exact HB.out | apply below_alloc | apply pw_below_drewN | apply below_drew1) | exact HB.out)) : w.heap.size ≤ g))
            clear HB
            have HB := n1_
            clear n1_ hb hby hg BK2 hHeld
            refine hK.out _ _ ⟨(blk_cell BK3.out 0).trans rfl, (blk_cell BK3.out 1).trans rfl⟩ (fun hHeld => ?_)
            clear hK K
            refine norm_ (a' := ?_) ?_ ?_
            rotate_left
            · show Act.put _ (some 27) _ = _
              simp only [Act.put, List.setIfInBounds_toArray, List.set_cons_zero, List.set_cons_succ, i64_w, i32_w]
              rfl
            refine pure_ (i := 8) (N := some 8) (v := ?_) (a' := ?_) #[true, true, true, true, true, true, true, true, true] rfl rfl (by kernel_rfl) (fun _ _ _ h => h) (Or.inl ⟨by rfl, ?_⟩) ?_ ?_
            rotate_left
            · intro w'
              go_simp
              first | done | with_reducible rfl | (rw [if_neg (by omega)]; try with_reducible rfl)
            rotate_left
            · simp only [Act.put, List.setIfInBounds_toArray, List.set_cons_zero, List.set_cons_succ, i64_w, i32_w]
              rfl
            refine done_ (by kernel_rfl) ?_
            have hS : ((a0_0 ++ a0_1.extract 0 kn)).data.toList.length = a0_0.size + kn := by
              have := C3.out
              have e : ((a0_0 ++ a0_1.extract 0 kn)).data.toList.length = ((a0_0 ++ a0_1.extract 0 kn)).size := by rw [Array.length_toList]; rfl
              rw [e]; simp only [ByteArray.size_append, ByteArray.size_extract]; omega
            obtain ⟨L, hL⟩ : ∃ L, L = ((a0_0 ++ a0_1.extract 0 kn)).data.toList := ⟨_, rfl⟩
            have BYL := Aside0.mk (by rw [hL]; exact BY.out : Go.Proofs.YtkpieljmhgfofaaDoorCb.BytesAt w3 g L)
            have HE := Aside0.mk (by rw [hL] : (⟨L.toArray⟩ : ByteArray) = (a0_0 ++ a0_1.extract 0 kn))
            rw [← hL] at hS
            have HL := Aside0.mk hL
            clear hL BY
            have hcv := BYL.out.back (P := Tryd.prog) 53 9 5 cap Tryd.underlying53 Tryd.underlying5 Tryd.underlying9 (a0_0.size + kn) hS.symm
            have hcvN := fun n => (BYL.out.drewN n).back (P := Tryd.prog) 53 9 5 cap Tryd.underlying53 Tryd.underlying5 Tryd.underlying9 (a0_0.size + kn) hS.symm
            have hmn : min kn a0_1.size = kn := Nat.min_eq_left (by have := C3.out; omega)
            clear C3
            try go_wp2
            repeat (go_quiet (fail); try go_wp2)
            go_ret2
            exact ⟨by rw [← HE.out]; rfl, by repeat (first | (with_reducible first | exact HB.out | apply below_alloc | apply pw_below_drewN | apply below_drew1 | refine below_set ?_ (Aside0.out (by assumption))) | exact HB.out)⟩
      · rw [if_neg c3] at h; cases h
    · replace c2 := Bool.eq_false_iff.mpr c2
      subst c2
      rw [if_neg (by decide)] at h
      simp only [Option.some.injEq, Prod.mk.injEq] at h
      obtain ⟨rfl, rfl⟩ := h
      go_enter Tryd.func25, Tryd.ntmps25
      go_wp2_with (first | ((with_reducible refine gate_dst (N := 3) rfl ?_); refine box_event ?hg (N := 3) ?hd (cs := #[.string a0_0, .string a0_1, .int .i64 a0_2]) (t := 31) ?hr ?_; (case hd => rfl); (case hg => rfl); (case hr => first | (go_simp; done) | (go_simp; rfl)); intro gb hg w1 hbox hb; have n1_ := Aside0.mk (below_step (by repeat (first | (with_reducible first | exact HB.out | apply below_alloc | apply pw_below_drewN | apply below_drew1) | exact HB.out)) hb); have n3_ := Aside0.mk hbox; have n4_ := Aside0.mk ((by rw [hg]; exact below_size (by repeat (first | (with_reducible first | exact HB.out | apply below_alloc | apply pw_below_drewN | apply below_drew1) | exact HB.out)) : w.heap.size ≤ gb)); clear HB; have HB := n1_; have BK := n3_; have GE := n4_; clear n1_ n3_ n4_ hb hbox hg; have hcz0 : w1.cell? ⟨gb, 0, none⟩ = some (.string a0_0) := (blk_cell BK.out 0).trans rfl; have hcz1 : w1.cell? ⟨gb, 1, none⟩ = some (.string a0_1) := (blk_cell BK.out 1).trans rfl; have hcz2 : w1.cell? ⟨gb, 2, none⟩ = some (.int .i64 a0_2) := (blk_cell BK.out 2).trans rfl) | ((with_reducible refine gate_callee (f := 23) rfl ?_); (try (refine gate_guard (by rfl) ?_; dsimp only)); refine goesL_ (some 10) rfl rfl Tryd.func23 (by kernel_rfl) rfl #[.agg #[.string a0_0, .string a0_1, .int .i64 a0_2]] rfl (by (try simp only [List.map_toArray, List.map_cons, List.map_nil]); first | done | rfl | (simp only [List.length_drop, List.length_take]; rfl)) ?_; (with_reducible refine (impl_IsValidLog.calls k a0_0 a0_1 a0_2 true _ (Glob.below HGL.out (by repeat (first | (with_reducible first | exact HB.out | apply below_alloc | apply pw_below_drewN | apply below_drew1) | exact HB.out))) A1.out).mono ?_); rintro e w2 ⟨rfl, hb⟩; refine ⟨_, rfl, ?_⟩; have BK2 := Aside0.mk (blk_below (by (with_reducible repeat (first | refine blk_drewN ?_ _ | refine blk_drew ?_ | refine blk_alloc ?_ _)); exact BK.out) hb); have n1_ := Aside0.mk (below_step (by repeat (first | (with_reducible first | exact HB.out | apply below_alloc | apply pw_below_drewN | apply below_drew1) | exact HB.out)) hb); clear HB; have HB := n1_; clear n1_ hb; have hcy0 : w2.cell? ⟨gb, 0, none⟩ = some (.string a0_0) := (blk_cell BK2.out 0).trans rfl; have hcy1 : w2.cell? ⟨gb, 1, none⟩ = some (.string a0_1) := (blk_cell BK2.out 1).trans rfl; have hcy2 : w2.cell? ⟨gb, 2, none⟩ = some (.int .i64 a0_2) := (blk_cell BK2.out 2).trans rfl) | (go_at_call 45; (with_reducible refine (impl_within.calls a1 0 (a0_1.size : Int) false _ A2.out).mono ?_); rintro e w' ⟨rfl, ⟨nd, rfl⟩⟩))
      repeat (go_quiet (fail); try go_wp2)
      go_ret2
      exact ⟨by first | rfl | (simp; done) | (simp [*]; done), by repeat (first | (with_reducible first | exact HB.out | apply below_alloc | apply pw_below_drewN | apply below_drew1 | refine below_set ?_ (Aside0.out (by assumption))) | exact HB.out)⟩
  · replace c1 := Bool.eq_false_iff.mpr c1
    subst c1
    rw [if_neg (by decide)] at h
    simp only [Option.some.injEq, Prod.mk.injEq] at h
    obtain ⟨rfl, rfl⟩ := h
    go_enter Tryd.func25, Tryd.ntmps25
    go_wp2_with (first | ((with_reducible refine gate_dst (N := 3) rfl ?_); refine box_event ?hg (N := 3) ?hd (cs := #[.string a0_0, .string a0_1, .int .i64 a0_2]) (t := 31) ?hr ?_; (case hd => rfl); (case hg => rfl); (case hr => first | (go_simp; done) | (go_simp; rfl)); intro gb hg w1 hbox hb; have n1_ := Aside0.mk (below_step (by repeat (first | (with_reducible first | exact HB.out | apply below_alloc | apply pw_below_drewN | apply below_drew1) | exact HB.out)) hb); have n3_ := Aside0.mk hbox; have n4_ := Aside0.mk ((by rw [hg]; exact below_size (by repeat (first | (with_reducible first | exact HB.out | apply below_alloc | apply pw_below_drewN | apply below_drew1) | exact HB.out)) : w.heap.size ≤ gb)); clear HB; have HB := n1_; have BK := n3_; have GE := n4_; clear n1_ n3_ n4_ hb hbox hg; have hcz0 : w1.cell? ⟨gb, 0, none⟩ = some (.string a0_0) := (blk_cell BK.out 0).trans rfl; have hcz1 : w1.cell? ⟨gb, 1, none⟩ = some (.string a0_1) := (blk_cell BK.out 1).trans rfl; have hcz2 : w1.cell? ⟨gb, 2, none⟩ = some (.int .i64 a0_2) := (blk_cell BK.out 2).trans rfl) | ((with_reducible refine gate_callee (f := 23) rfl ?_); (try (refine gate_guard (by rfl) ?_; dsimp only)); refine goesL_ (some 10) rfl rfl Tryd.func23 (by kernel_rfl) rfl #[.agg #[.string a0_0, .string a0_1, .int .i64 a0_2]] rfl (by (try simp only [List.map_toArray, List.map_cons, List.map_nil]); first | done | rfl | (simp only [List.length_drop, List.length_take]; rfl)) ?_; (with_reducible refine (impl_IsValidLog.calls k a0_0 a0_1 a0_2 false _ (Glob.below HGL.out (by repeat (first | (with_reducible first | exact HB.out | apply below_alloc | apply pw_below_drewN | apply below_drew1) | exact HB.out))) A1.out).mono ?_); rintro e w2 ⟨rfl, hb⟩; refine ⟨_, rfl, ?_⟩; have BK2 := Aside0.mk (blk_below (by (with_reducible repeat (first | refine blk_drewN ?_ _ | refine blk_drew ?_ | refine blk_alloc ?_ _)); exact BK.out) hb); have n1_ := Aside0.mk (below_step (by repeat (first | (with_reducible first | exact HB.out | apply below_alloc | apply pw_below_drewN | apply below_drew1) | exact HB.out)) hb); clear HB; have HB := n1_; clear n1_ hb; have hcy0 : w2.cell? ⟨gb, 0, none⟩ = some (.string a0_0) := (blk_cell BK2.out 0).trans rfl; have hcy1 : w2.cell? ⟨gb, 1, none⟩ = some (.string a0_1) := (blk_cell BK2.out 1).trans rfl; have hcy2 : w2.cell? ⟨gb, 2, none⟩ = some (.int .i64 a0_2) := (blk_cell BK2.out 2).trans rfl))
    repeat (go_quiet (fail); try go_wp2)
    go_ret2
    exact ⟨by first | rfl | (simp; done) | (simp [*]; done), by repeat (first | (with_reducible first | exact HB.out | apply below_alloc | apply pw_below_drewN | apply below_drew1 | refine below_set ?_ (Aside0.out (by assumption))) | exact HB.out)⟩

end Go.Proofs.YtkpieljmhgfofaaDoor.X


-- written by a program of this session (wip/ext.py) out of the translation. Not trusted: Lean checks it.
namespace Go.Proofs.YtkpieljmhgfofaaDoor.X
open Go.RowKit Go.Proofs.YtkpieljmhgfofaaDoorW.PrintWords Go.Proofs.YtkpieljmhgfofaaDoorW.PrintLast Go.Proofs.YtkpieljmhgfofaaDoorW.PrintMore
attribute [local go_sem] max2_int min2_int max_two min_two max_three min_three max_four min_four   -- for this text's walks alone
open Go.Proofs.YtkpieljmhgfofaaDoorG
set_option linter.unusedVariables false
set_option linter.unusedSimpArgs false

def laws_FnExactCrashLog.f (k : Nat) (a0_0 : ByteArray) (a0_1 : ByteArray) (a0_2 : Int) (a1 : Int) (a2 : Bool) : Option (Bool) := (laws_szLog.f a0_0 a0_1 a0_2 1048576).bind fun t294 => (if t294 < 0 then (some true) else ((laws_toLog.f a0_0 a0_1 a0_2).bind fun bt295 => ((spec_CrashLog.f k bt295.1 bt295.2.1 bt295.2.2 a1 a2).bind fun bt298 => ((laws_toLog.f a0_0 a0_1 a0_2).bind fun bt300 => ((impl_CrashLog.f k bt300.1 bt300.2.1 bt300.2.2 a1 a2).bind fun bt303 => (if bt303.1.toList = bt298.1.toList then (if (bt303.2 != bt298.2) = true then (some false) else (some true)) else (some false)))))))
theorem laws_FnExactCrashLog.mono : ∀ a0 a1 a2 a3 a4 k, LeO (laws_FnExactCrashLog.f k a0 a1 a2 a3 a4) (laws_FnExactCrashLog.f (k + 1) a0 a1 a2 a3 a4) := by
  intro a0 a1 a2 a3 a4 k
  unfold laws_FnExactCrashLog.f
  repeat' first
      | (with_reducible exact impl_CrashLog.mono _ _ _ _ _ _)
      | (with_reducible exact spec_CrashLog.mono _ _ _ _ _ _)
      | (with_reducible exact LeO.refl _)
      | (with_reducible exact LeO.none _)
      | (with_reducible refine LeO.ite ?_ ?_)
      | (with_reducible refine LeO.bind ?_ (fun _ => ?_))
      | exact impl_CrashLog.mono _ _ _ _ _ _
      | exact spec_CrashLog.mono _ _ _ _ _ _
      | exact LeO.none _
      | refine LeO.ite ?_ ?_
      | refine LeO.bind ?_ (fun _ => ?_)
set_option maxHeartbeats 8000000 in
set_option maxRecDepth 100000 in
theorem laws_FnExactCrashLog.calls (k : Nat) (a0_0 : ByteArray) (a0_1 : ByteArray) (a0_2 : Int) (a1 : Int) (a2 : Bool) (r : Bool) (w : World) (hG : Glob w) (h : laws_FnExactCrashLog.f k a0_0 a0_1 a0_2 a1 a2 = some r) (hr_ : r = true) :
    Calls Tryd.prog 6 #[.agg #[.string a0_0, .string a0_1, .int .i64 a0_2], .int .i64 a1, .bool a2] w fun e w' => e = .returned (.bool r) ∧ Below w.heap.size w w' := by
  have HR_ := Aside0.mk hr_
  clear hr_
  have hu36 := Tryd.underlying36
  have HGL := Aside0.mk hG
  clear hG
  have HB := Aside0.mk (Below.refl w.heap.size w)
  have H : ((laws_szLog.f a0_0 a0_1 a0_2 1048576).bind fun t294 => (if t294 < 0 then (some true) else ((laws_toLog.f a0_0 a0_1 a0_2).bind fun bt295 => ((spec_CrashLog.f k bt295.1 bt295.2.1 bt295.2.2 a1 a2).bind fun bt298 => ((laws_toLog.f a0_0 a0_1 a0_2).bind fun bt300 => ((impl_CrashLog.f k bt300.1 bt300.2.1 bt300.2.2 a1 a2).bind fun bt303 => (if bt303.1.toList = bt298.1.toList then (if (bt303.2 != bt298.2) = true then (some false) else (some true)) else (some false)))))))) = some r := h
  clear h
  replace H := Option.bind_eq_some_iff.mp H
  obtain ⟨t294, A40, H⟩ := H
  replace H : (if t294 < 0 then (some true) else ((laws_toLog.f a0_0 a0_1 a0_2).bind fun bt295 => ((spec_CrashLog.f k bt295.1 bt295.2.1 bt295.2.2 a1 a2).bind fun bt298 => ((laws_toLog.f a0_0 a0_1 a0_2).bind fun bt300 => ((impl_CrashLog.f k bt300.1 bt300.2.1 bt300.2.2 a1 a2).bind fun bt303 => (if bt303.1.toList = bt298.1.toList then (if (bt303.2 != bt298.2) = true then (some false) else (some true)) else (some false))))))) = some r := H
  have A4 := Aside0.mk A40
  clear A40
  by_cases c5 : t294 < 0
  · rw [if_pos c5] at H
    have c5b0 : decide (t294 < 0) = true := decide_eq_true c5
    clear c5
    obtain rfl := Option.some.inj H
    go_enter Tryd.func6, Tryd.ntmps6
    go_wp2_with (first | ((with_reducible refine gate_dst (N := 3) rfl ?_); refine box_event ?hg (N := 3) ?hd (cs := #[.string a0_0, .string a0_1, .int .i64 a0_2]) (t := 36) ?hr ?_; (case hd => rfl); (case hg => rfl); (case hr => first | (go_simp; done) | (go_simp; rfl)); intro gb293 hg w6 hbox hb; have n0_ := Aside0.mk (below_step (by repeat (first | (with_reducible first | exact HB.out | apply below_alloc | apply pw_below_drewN | apply below_drew1) | exact HB.out)) hb); have n1_ := Aside0.mk (hbox); have n2_ := Aside0.mk ((by rw [hg]; exact (below_size (by repeat (first | (with_reducible first | exact HB.out | apply below_alloc | apply pw_below_drewN | apply below_drew1) | exact HB.out))) : w.heap.size ≤ gb293)); have n3_ := Aside0.mk ((by rw [hg]; exact (below_size (by repeat (first | (with_reducible first | exact HB.out | apply below_alloc | apply pw_below_drewN | apply below_drew1) | exact HB.out))) : w.heap.size ≤ gb293)); clear HB; have HB := n0_; have BK293 := n1_; have GW293 := n2_; have GE293 := n3_; clear n0_ n1_ n2_ n3_; clear hb hbox hg; have hcz7_0 : w6.cell? ⟨gb293, 0, none⟩ = some (.string a0_0) := (blk_cell BK293.out 0).trans rfl; have hcz7_1 : w6.cell? ⟨gb293, 1, none⟩ = some (.string a0_1) := (blk_cell BK293.out 1).trans rfl; have hcz7_2 : w6.cell? ⟨gb293, 2, none⟩ = some (.int .i64 a0_2) := (blk_cell BK293.out 2).trans rfl; have hfz7_0 := blk_frozen BK293.out 0; have hfz7_1 := blk_frozen BK293.out 1; have hfz7_2 := blk_frozen BK293.out 2) | ((with_reducible refine gate_callee (f := 20) rfl ?_); refine goesL_ (some 14) rfl rfl Tryd.func20 (by kernel_rfl) rfl #[.agg #[.string a0_0, .string a0_1, .int .i64 a0_2], .int .i64 1048576] rfl (by (try simp only [List.map_toArray, List.map_cons, List.map_nil]); first | done | rfl | (simp only [List.length_drop, List.length_take]; rfl)) ?_; (with_reducible refine (laws_szLog.calls a0_0 a0_1 a0_2 1048576 t294 _ A4.out).mono ?_); rintro e w8 ⟨rfl, hb⟩; refine ⟨_, rfl, ?_⟩; have n0_ := Aside0.mk (blk_below (g := gb293) (o := .cells #[.string a0_0, .string a0_1, .int .i64 a0_2] 36 (0, 0)) (by (with_reducible repeat (first | refine blk_drewN ?_ _ | refine blk_drew ?_ | refine blk_alloc ?_ _)); exact BK293.out) hb); have n1_ := Aside0.mk (below_step (by repeat (first | (with_reducible first | exact HB.out | apply below_alloc | apply pw_below_drewN | apply below_drew1 | refine below_set ?_ GE293.out) | exact HB.out)) hb); clear BK293; clear HB; have BK293 := n0_; have HB := n1_; clear n0_ n1_; (try clear hb); (try clear hb2); (try clear hk); (try clear hi)))
    go_ret
    exact ⟨by first | rfl | (simp [errW_none, errW_some] <;> rfl) | (simp [*, errW_none, errW_some] <;> rfl), by repeat (first | (with_reducible first | exact HB.out | apply below_alloc | apply pw_below_drewN | apply below_drew1 | refine below_set ?_ GE293.out) | exact HB.out)⟩
  · rw [if_neg c5] at H
    have c5b0 : decide (t294 < 0) = false := decide_eq_false c5
    clear c5
    replace H := Option.bind_eq_some_iff.mp H
    obtain ⟨⟨t295, t296, t297⟩, A90, H⟩ := H
    replace H : ((spec_CrashLog.f k t295 t296 t297 a1 a2).bind fun bt298 => ((laws_toLog.f a0_0 a0_1 a0_2).bind fun bt300 => ((impl_CrashLog.f k bt300.1 bt300.2.1 bt300.2.2 a1 a2).bind fun bt303 => (if bt303.1.toList = bt298.1.toList then (if (bt303.2 != bt298.2) = true then (some false) else (some true)) else (some false))))) = some r := H
    have A9 := Aside0.mk A90
    clear A90
    replace H := Option.bind_eq_some_iff.mp H
    obtain ⟨⟨t298, t299⟩, A100, H⟩ := H
    replace H : ((laws_toLog.f a0_0 a0_1 a0_2).bind fun bt300 => ((impl_CrashLog.f k bt300.1 bt300.2.1 bt300.2.2 a1 a2).bind fun bt303 => (if bt303.1.toList = t298.toList then (if (bt303.2 != t299) = true then (some false) else (some true)) else (some false)))) = some r := H
    have A10 := Aside0.mk A100
    clear A100
    replace H := Option.bind_eq_some_iff.mp H
    obtain ⟨⟨t300, t301, t302⟩, A110, H⟩ := H
    replace H : ((impl_CrashLog.f k t300 t301 t302 a1 a2).bind fun bt303 => (if bt303.1.toList = t298.toList then (if (bt303.2 != t299) = true then (some false) else (some true)) else (some false))) = some r := H
    have A11 := Aside0.mk A110
    clear A110
    replace H := Option.bind_eq_some_iff.mp H
    obtain ⟨⟨t303, t304⟩, A120, H⟩ := H
    replace H : (if t303.toList = t298.toList then (if (t304 != t299) = true then (some false) else (some true)) else (some false)) = some r := H
    have A12 := Aside0.mk A120
    clear A120
    by_cases c13 : t303.toList = t298.toList
    · rw [if_pos c13] at H
      have c13b0 : (t303.toList == t298.toList) = true := beq_iff_eq.mpr c13
      have c13b1 : (t303.toList != t298.toList) = false := bne_eq_false_iff_eq.mpr c13
      clear c13
      by_cases c14 : (t304 != t299) = true
      · rw [if_pos c14] at H
        have c14b0 : (t304 != t299) = true := c14
        (try (have c14b1 : decide (t304 = t299) = false := by simpa using c14))
        (try (have c14b2 : (t304 == t299) = false := by simpa using c14))
        (try (have c14b3 : ¬ (t304 = t299) := by simpa using c14))
        clear c14
        exact absurd (Option.some.inj H) (by rw [HR_.out]; decide)
      · rw [if_neg c14] at H
        have c14b0 : (t304 != t299) = false := by simpa using c14
        (try (have c14b1 : decide (t304 = t299) = true := by simpa using c14))
        (try (have c14b2 : (t304 == t299) = true := by simpa using c14))
        clear c14
        obtain rfl := Option.some.inj H
        go_enter Tryd.func6, Tryd.ntmps6
        go_wp2_with (first | ((with_reducible refine gate_dst (N := 3) rfl ?_); refine box_event ?hg (N := 3) ?hd (cs := #[.string a0_0, .string a0_1, .int .i64 a0_2]) (t := 36) ?hr ?_; (case hd => rfl); (case hg => rfl); (case hr => first | (go_simp; done) | (go_simp; rfl)); intro gb293 hg w24 hbox hb; have n0_ := Aside0.mk (below_step (by repeat (first | (with_reducible first | exact HB.out | apply below_alloc | apply pw_below_drewN | apply below_drew1) | exact HB.out)) hb); have n1_ := Aside0.mk (hbox); have n2_ := Aside0.mk ((by rw [hg]; exact (below_size (by repeat (first | (with_reducible first | exact HB.out | apply below_alloc | apply pw_below_drewN | apply below_drew1) | exact HB.out))) : w.heap.size ≤ gb293)); have n3_ := Aside0.mk ((by rw [hg]; exact (below_size (by repeat (first | (with_reducible first | exact HB.out | apply below_alloc | apply pw_below_drewN | apply below_drew1) | exact HB.out))) : w.heap.size ≤ gb293)); clear HB; have HB := n0_; have BK293 := n1_; have GW293 := n2_; have GE293 := n3_; clear n0_ n1_ n2_ n3_; clear hb hbox hg; have hcz25_0 : w24.cell? ⟨gb293, 0, none⟩ = some (.string a0_0) := (blk_cell BK293.out 0).trans rfl; have hcz25_1 : w24.cell? ⟨gb293, 1, none⟩ = some (.string a0_1) := (blk_cell BK293.out 1).trans rfl; have hcz25_2 : w24.cell? ⟨gb293, 2, none⟩ = some (.int .i64 a0_2) := (blk_cell BK293.out 2).trans rfl; have hfz25_0 := blk_frozen BK293.out 0; have hfz25_1 := blk_frozen BK293.out 1; have hfz25_2 := blk_frozen BK293.out 2) | ((with_reducible refine gate_callee (f := 20) rfl ?_); refine goesL_ (some 14) rfl rfl Tryd.func20 (by kernel_rfl) rfl #[.agg #[.string a0_0, .string a0_1, .int .i64 a0_2], .int .i64 1048576] rfl (by (try simp only [List.map_toArray, List.map_cons, List.map_nil]); first | done | rfl | (simp only [List.length_drop, List.length_take]; rfl)) ?_; (with_reducible refine (laws_szLog.calls a0_0 a0_1 a0_2 1048576 t294 _ A4.out).mono ?_); rintro e w26 ⟨rfl, hb⟩; refine ⟨_, rfl, ?_⟩; have n0_ := Aside0.mk (blk_below (g := gb293) (o := .cells #[.string a0_0, .string a0_1, .int .i64 a0_2] 36 (0, 0)) (by (with_reducible repeat (first | refine blk_drewN ?_ _ | refine blk_drew ?_ | refine blk_alloc ?_ _)); exact BK293.out) hb); have n1_ := Aside0.mk (below_step (by repeat (first | (with_reducible first | exact HB.out | apply below_alloc | apply pw_below_drewN | apply below_drew1 | refine below_set ?_ GE293.out) | exact HB.out)) hb); clear BK293; clear HB; have BK293 := n0_; have HB := n1_; clear n0_ n1_; (try clear hb); (try clear hb2); (try clear hk); (try clear hi); have hcz27_0 : w26.cell? ⟨gb293, 0, none⟩ = some (.string a0_0) := (blk_cell BK293.out 0).trans rfl; have hcz27_1 : w26.cell? ⟨gb293, 1, none⟩ = some (.string a0_1) := (blk_cell BK293.out 1).trans rfl; have hcz27_2 : w26.cell? ⟨gb293, 2, none⟩ = some (.int .i64 a0_2) := (blk_cell BK293.out 2).trans rfl; have hfz27_0 := blk_frozen BK293.out 0; have hfz27_1 := blk_frozen BK293.out 1; have hfz27_2 := blk_frozen BK293.out 2) | ((with_reducible refine gate_callee (f := 22) rfl ?_); refine goesL_ (some 19) rfl rfl Tryd.func22 (by kernel_rfl) rfl #[.agg #[.string a0_0, .string a0_1, .int .i64 a0_2]] rfl (by (try simp only [List.map_toArray, List.map_cons, List.map_nil]); first | done | rfl | (simp only [List.length_drop, List.length_take]; rfl)) ?_; (with_reducible refine (laws_toLog.calls a0_0 a0_1 a0_2 t295 t296 t297 _ A9.out).mono ?_); rintro e w28 ⟨rfl, hb⟩; refine ⟨_, rfl, ?_⟩; have n0_ := Aside0.mk (blk_below (g := gb293) (o := .cells #[.string a0_0, .string a0_1, .int .i64 a0_2] 36 (0, 0)) (by (with_reducible repeat (first | refine blk_drewN ?_ _ | refine blk_drew ?_ | refine blk_alloc ?_ _)); exact BK293.out) hb); have n1_ := Aside0.mk (below_step (by repeat (first | (with_reducible first | exact HB.out | apply below_alloc | apply pw_below_drewN | apply below_drew1 | refine below_set ?_ GE293.out) | exact HB.out)) hb); clear BK293; clear HB; have BK293 := n0_; have HB := n1_; clear n0_ n1_; (try clear hb); (try clear hb2); (try clear hk); (try clear hi)) | ((with_reducible refine gate_callee (f := 24) rfl ?_); refine goesL_ (some 22) rfl rfl Tryd.func24 (by kernel_rfl) rfl #[.agg #[.string t295, .string t296, .int .i64 t297], .int .i64 a1, .bool a2] rfl (by (try simp only [List.map_toArray, List.map_cons, List.map_nil]); first | done | rfl | (simp only [List.length_drop, List.length_take]; rfl)) ?_; (with_reducible refine (spec_CrashLog.calls k t295 t296 t297 a1 a2 t298 t299 _ A10.out).mono ?_); rintro e w29 ⟨rfl, hb⟩; refine ⟨_, rfl, ?_⟩; have n0_ := Aside0.mk (blk_below (g := gb293) (o := .cells #[.string a0_0, .string a0_1, .int .i64 a0_2] 36 (0, 0)) (by (with_reducible repeat (first | refine blk_drewN ?_ _ | refine blk_drew ?_ | refine blk_alloc ?_ _)); exact BK293.out) hb); have n1_ := Aside0.mk (below_step (by repeat (first | (with_reducible first | exact HB.out | apply below_alloc | apply pw_below_drewN | apply below_drew1 | refine below_set ?_ GE293.out) | exact HB.out)) hb); clear BK293; clear HB; have BK293 := n0_; have HB := n1_; clear n0_ n1_; (try clear hb); (try clear hb2); (try clear hk); (try clear hi); have hcz30_0 : w29.cell? ⟨gb293, 0, none⟩ = some (.string a0_0) := (blk_cell BK293.out 0).trans rfl; have hcz30_1 : w29.cell? ⟨gb293, 1, none⟩ = some (.string a0_1) := (blk_cell BK293.out 1).trans rfl; have hcz30_2 : w29.cell? ⟨gb293, 2, none⟩ = some (.int .i64 a0_2) := (blk_cell BK293.out 2).trans rfl; have hfz30_0 := blk_frozen BK293.out 0; have hfz30_1 := blk_frozen BK293.out 1; have hfz30_2 := blk_frozen BK293.out 2) | ((with_reducible refine gate_callee (f := 22) rfl ?_); refine goesL_ (some 27) rfl rfl Tryd.func22 (by kernel_rfl) rfl #[.agg #[.string a0_0, .string a0_1, .int .i64 a0_2]] rfl (by (try simp only [List.map_toArray, List.map_cons, List.map_nil]); first | done | rfl | (simp only [List.length_drop, List.length_take]; rfl)) ?_; (with_reducible refine (laws_toLog.calls a0_0 a0_1 a0_2 t300 t301 t302 _ A11.out).mono ?_); rintro e w31 ⟨rfl, hb⟩; refine ⟨_, rfl, ?_⟩; have n0_ := Aside0.mk (blk_below (g := gb293) (o := .cells #[.string a0_0, .string a0_1, .int .i64 a0_2] 36 (0, 0)) (by (with_reducible repeat (first | refine blk_drewN ?_ _ | refine blk_drew ?_ | refine blk_alloc ?_ _)); exact BK293.out) hb); have n1_ := Aside0.mk (below_step (by repeat (first | (with_reducible first | exact HB.out | apply below_alloc | apply pw_below_drewN | apply below_drew1 | refine below_set ?_ GE293.out) | exact HB.out)) hb); clear BK293; clear HB; have BK293 := n0_; have HB := n1_; clear n0_ n1_; (try clear hb); (try clear hb2); (try clear hk); (try clear hi)) | ((with_reducible refine gate_callee (f := 25) rfl ?_); refine goesL_ (some 30) rfl rfl Tryd.func25 (by kernel_rfl) rfl #[.agg #[.string t300, .string t301, .int .i64 t302], .int .i64 a1, .bool a2] rfl (by (try simp only [List.map_toArray, List.map_cons, List.map_nil]); first | done | rfl | (simp only [List.length_drop, List.length_take]; rfl)) ?_; (with_reducible refine (impl_CrashLog.calls k t300 t301 t302 a1 a2 t303 t304 _ ?side1 A12.out).mono ?_); (case side1 => exact Glob.below HGL.out (by repeat (first | (with_reducible first | exact HB.out | apply below_alloc | apply pw_below_drewN | apply below_drew1 | refine below_set ?_ GE293.out) | exact HB.out))); rintro e w32 ⟨rfl, hb⟩; refine ⟨_, rfl, ?_⟩; have n0_ := Aside0.mk (blk_below (g := gb293) (o := .cells #[.string a0_0, .string a0_1, .int .i64 a0_2] 36 (0, 0)) (by (with_reducible repeat (first | refine blk_drewN ?_ _ | refine blk_drew ?_ | refine blk_alloc ?_ _)); exact BK293.out) hb); have n1_ := Aside0.mk (below_step (by repeat (first | (with_reducible first | exact HB.out | apply below_alloc | apply pw_below_drewN | apply below_drew1 | refine below_set ?_ GE293.out) | exact HB.out)) hb); clear BK293; clear HB; have BK293 := n0_; have HB := n1_; clear n0_ n1_; (try clear hb); (try clear hb2); (try clear hk); (try clear hi)))
        go_ret
        exact ⟨by first | rfl | (simp [errW_none, errW_some] <;> rfl) | (simp [*, errW_none, errW_some] <;> rfl), by repeat (first | (with_reducible first | exact HB.out | apply below_alloc | apply pw_below_drewN | apply below_drew1 | refine below_set ?_ GE293.out) | exact HB.out)⟩
    · rw [if_neg c13] at H
      have c13b0 : (t303.toList == t298.toList) = false := beq_eq_false_iff_ne.mpr c13
      have c13b1 : (t303.toList != t298.toList) = true := bne_iff_ne.mpr c13
      exact absurd (Option.some.inj H) (by rw [HR_.out]; decide)
end Go.Proofs.YtkpieljmhgfofaaDoor.X


namespace Go.Proofs.YtkpieljmhgfofaaDoorZ
open Go.ChangeShapes Go.WideShapes Go.ChangeAt Go.RowKit
open Go.Proofs.YtkpieljmhgfofaaDoorW.PrintWords
set_option linter.unusedVariables false
set_option linter.unusedSimpArgs false
section
variable {P : Program}

/-- A reading of type t is a value of kind d, and the value fits. -/
def Opens (P : Program) {α : Type} (d : Kd α) (t : TypeId) (fits : α → Prop) : Prop :=
  ∀ {H : Type} {enc : TypeId × Value → H} {w : World} {base : Nat} {spare : Nat → Bool} {held : Bool} {fuel : Nat} {cs : List Value} {x : DataW H × List MemPlace},
    DataW.trod enc P w base spare held fuel t cs = some x → (∀ n ∈ x.1.weights P t, n ≤ reachBytes) → ∃ v, d.K w v cs ∧ fits v

theorem opens_int {k : IntKind} {t : TypeId} (ht : P.underlying t = some (.int k)) : Opens P (Kd.int k) t (fun n => (Lit.int k n).wf = true) := by
  intro H enc w base spare held fuel cs x h _
  obtain ⟨n, rfl, _, hw⟩ := DataW.trod_int ht h
  exact ⟨n, rfl, hw⟩
theorem opens_string {t : TypeId} (ht : P.underlying t = some .string) : Opens P Kd.string t (fun s => s.size ≤ 140737488351232) := by
  intro H enc w base spare held fuel cs x h hw
  obtain ⟨s, rfl, rfl, _⟩ := DataW.trod_string ht h
  refine ⟨s, rfl, ?_⟩
  have := hw s.data.toList.length (by simp [DataW.weights])
  rw [Array.length_toList] at this
  exact this
theorem weightsEach_mem {H : Type} {n : Nat} : ∀ {ts : List TypeId} {l : List (DataW H)} {i : Nat} {t : TypeId} {d : DataW H}, ts[i]? = some t → l[i]? = some d → n ∈ d.weights P t → n ∈ DataW.weightsEach P ts l
  | [], l, i, t, d, h, _, _ => by simp at h
  | t :: ts, [], i, _, _, _, h, _ => by simp at h
  | t :: ts, d :: l, 0, _, _, h, k, hn => by
    simp at h k; subst h k
    simp only [DataW.weightsEach, List.mem_append]; exact .inl hn
  | t :: ts, d :: l, i + 1, _, _, h, k, hn => by
    simp at h k
    simp only [DataW.weightsEach, List.mem_append]; exact .inr (weightsEach_mem h k hn)
/-- Fields from offset o on to the struct's end L, as a value of kind d. -/
def OpensF (P : Program) {α : Type} (d : Kd α) (fs : List Field) (o L : Nat) (fits : α → Prop) : Prop :=
  ∀ {H : Type} {enc : TypeId × Value → H} {w : World} {base : Nat} {spare : Nat → Bool} {held : Bool} {fuel : Nat} {cs : List Value} {xs : List (DataW H × List MemPlace)},
    cs.length = L → xs.length = fs.length → (∀ (i : Nat) (f : Field), fs[i]? = some f → DataW.trod enc P w base spare held fuel f.type ((cs.drop f.offset).take (P.cellsOf f.type)) = xs[i]?) →
    (∀ n ∈ DataW.weightsEach P (fs.map (·.type)) (xs.map (·.1)), n ≤ reachBytes) → ∃ v, d.K w v (cs.drop o) ∧ fits v
theorem opensF_one {α : Type} {d : Kd α} {f : Field} {o L : Nat} {fits : α → Prop} (t : TypeId) (hft : f.type = t) (ho : f.offset = o) (hL : o + P.cellsOf t = L) (h : Opens P d t fits) : OpensF P d [f] o L fits := by
  intro H enc w base spare held fuel cs xs hlen hxs hf hw
  match xs, hxs with
  | [x], _ =>
    have h0 := hf 0 f rfl
    rw [hft, ho, List.take_of_length_le (by rw [List.length_drop]; omega)] at h0
    exact h h0 (fun n hn => hw n (by rw [hft.symm] at hn; simp [DataW.weightsEach]; exact hn))
theorem opensF_cons {α β : Type} {d : Kd α} {d' : Kd β} {f : Field} {rest : List Field} {o o' L : Nat} {fits : α → Prop} {fits' : β → Prop} (t : TypeId) (hft : f.type = t) (ho : f.offset = o) (hn : o + P.cellsOf t = o') (h : Opens P d t fits) (hr : OpensF P d' rest o' L fits') :
    OpensF P (Kd.pair d d') (f :: rest) o L (fun p => fits p.1 ∧ fits' p.2) := by
  intro H enc w base spare held fuel cs xs hlen hxs hf hw
  match xs, hxs with
  | x :: xs, hxs =>
    have h0 := hf 0 f rfl
    rw [hft, ho] at h0
    obtain ⟨v, hv, fv⟩ := h h0 (fun n hn => hw n (by rw [hft.symm] at hn; simp [DataW.weightsEach]; exact .inl hn))
    obtain ⟨v', hv', fv'⟩ := hr (cs := cs) (xs := xs) hlen (by simpa using hxs) (fun i g hg => by simpa using hf (i + 1) g (by simpa using hg)) (fun n hn => hw n (by simp only [List.map_cons, DataW.weightsEach, List.mem_append]; exact .inr hn))
    exact ⟨(v, v'), ⟨(cs.drop o).take (P.cellsOf t), cs.drop o', by rw [← hn, ← List.drop_drop]; exact (List.take_append_drop _ _).symm, hv, hv'⟩, fv, fv'⟩
theorem opens_struct {α β : Type} {d : Kd α} {t : TypeId} {fs : Array Field} {L : Nat} {fits : α → Prop} {fits' : β → Prop} (ht : P.underlying t = some (.struct fs)) (hL : P.cellsOf t = L) (h : OpensF P d fs.toList 0 L fits) (g : β → α) (inv : α → β) (hinv : ∀ a, g (inv a) = a) (hf : ∀ a, fits a → fits' (inv a)) :
    Opens P (Kd.iso d g) t fits' := by
  intro H enc w base spare held fuel cs x hx hw
  obtain ⟨xs, n, rfl, rfl, hl, hlen, hff⟩ := DataW.trod_struct ht hx
  obtain ⟨v, hv, fv⟩ := h (cs := cs) (xs := xs) (by rw [hl, hL]) (by simpa using hlen) (fun i f hi => hff i f (by simpa using hi)) (fun k hk => hw k (by simp only [DataW.weights, ht]; exact hk))
  refine ⟨inv v, ?_, hf v fv⟩
  show d.K w (g (inv v)) cs
  rw [hinv]
  simpa using hv
/-- A parameter's weights are among all. -/
theorem weights_param {H : Type} {ts : List TypeId} {ds : List (DataW H)} {j : Nat} {t : TypeId} {d : DataW H} (hsz : (DataW.weightsEach P ts ds).all (· ≤ reachBytes) = true) (ht : ts[j]? = some t) (hd : ds[j]? = some d) : ∀ n ∈ d.weights P t, n ≤ reachBytes := fun n hn => by
  have := List.all_eq_true.1 hsz n (weightsEach_mem ht hd hn)
  simpa using this
end
end Go.Proofs.YtkpieljmhgfofaaDoorZ


-- written by a program of this session (wip/ext.py): what the law says, without Go and memory.
namespace Go.Proofs.YtkpieljmhgfofaaDoor.X
open Go.RowKit Go.Proofs.YtkpieljmhgfofaaDoorW.PrintWords Go.Proofs.YtkpieljmhgfofaaDoorW.PrintLast Go.Proofs.YtkpieljmhgfofaaDoorW.PrintMore
open Go.Proofs.YtkpieljmhgfofaaDoorZ
namespace OFnExactCrashLog
def fitsT36 (x : S36) : Prop := x.f0.size ≤ 140737488351232 ∧ x.f1.size ≤ 140737488351232 ∧ (Lit.int .i64 x.f2).wf = true
theorem opensT36 : Opens Tryd.prog k36 36 fitsT36 :=
  opens_struct (L := 3) Tryd.underlying36 (by kernel_rfl) (opensF_cons (o' := 1) 9 rfl rfl (by kernel_rfl) (opens_string Tryd.underlying9) (opensF_cons (o' := 2) 9 rfl rfl (by kernel_rfl) (opens_string Tryd.underlying9) (opensF_one 3 rfl rfl (by kernel_rfl) (opens_int Tryd.underlying3)))) (fun x : S36 => (x.f0, x.f1, x.f2)) (fun p => ⟨p.1, p.2.1, p.2.2⟩) (fun _ => rfl) (fun _ h => h)
def Pure : Prop := ∀ (x0 : S36) (a1 : Int) (a2 : Bool), fitsT36 x0 → (Lit.int .i64 a1).wf = true → True → ∃ k, laws_FnExactCrashLog.f k x0.f0 x0.f1 x0.f2 a1 a2 = some true
end OFnExactCrashLog
end Go.Proofs.YtkpieljmhgfofaaDoor.X


namespace Go.Proofs.YtkpieljmhgfofaaDoorL
open Go.RowKit Go.Proofs.YtkpieljmhgfofaaDoorW.PrintWords
set_option linter.unusedVariables false
set_option linter.unusedSimpArgs false

theorem ev_eq {α : Type} {g : Nat → Option α} {r : α} (h : ∀ k, g k = some r) : Ev g r := ⟨0, fun k _ => h k⟩
theorem ev_rounds {α : Type} {g : Nat → Option α} {r : α} (h : Ev g r) : ∃ k, g k = some r := h.rounds
theorem wrap_id {x : Int} (h0 : -9223372036854775808 ≤ x) (h1 : x ≤ 9223372036854775807) : wrap64 x = x := by unfold wrap64; omega
theorem wrap_succ {n : Nat} (h : n < 9223372036854775807) : wrap64 ((n : Int) + 1) = ((n + 1 : Nat) : Int) := by rw [wrap_id (by omega) (by omega)]; rfl
end Go.Proofs.YtkpieljmhgfofaaDoorL


namespace Go.Proofs.YtkpieljmhgfofaaDoorL
open Go.RowKit Go.Proofs.YtkpieljmhgfofaaDoorW.PrintWords
set_option linter.unusedVariables false
set_option linter.unusedSimpArgs false
/-- A text's bytes. -/
def B (s : ByteArray) : List UInt8 := s.data.toList
theorem B_length (s : ByteArray) : (B s).length = s.size := by simp [B]
theorem bt_B (s : ByteArray) (n : Nat) (h : n < (B s).length) : bt s n = ((B s)[n].toNat : Int) := by
  have h2 : n < s.size := by rw [B_length] at h; exact h
  unfold bt
  rw [Int.toNat_natCast, dif_pos h2]
  rfl
theorem B_toList (s : ByteArray) : s.toList = B s := by
  unfold B
  have key : ∀ (d i : Nat) (r : List UInt8), i + d = s.size → ByteArray.toList.loop s i r = r.reverse ++ (s.data.toList.drop i) := by
    intro d
    induction d with
    | zero =>
      intro i r h
      unfold ByteArray.toList.loop
      rw [if_neg (by omega), List.drop_of_length_le (by simp; omega)]; simp
    | succ d ih =>
      intro i r h
      unfold ByteArray.toList.loop
      have hi : i < s.size := by omega
      rw [if_pos hi, ih (i + 1) _ (by omega), List.drop_eq_getElem_cons (show i < s.data.toList.length by simp; omega)]
      have e : s.get! i = s.data.toList[i]'(by simp; omega) := by
        show s.data[i]! = _
        rw [getElem!_pos s.data i hi]; simp
      rw [e, List.reverse_cons]
      simp
  have := key s.size 0 [] (by omega)
  simpa [ByteArray.toList] using this
theorem B_inj {s t : ByteArray} (h : B s = B t) : s = t := by
  have : s.data = t.data := Array.toList_inj.1 h
  cases s; cases t; simp_all
theorem containsAny_any (c : List UInt8) : ∀ l : List UInt8, Lib.containsAny l c = l.any fun b => c.contains b
  | [] => by simp [Lib.containsAny, Lib.indexAny]
  | b :: l => by
    have ih := containsAny_any c l
    have hg := Lib.indexAny_ge c l
    unfold Lib.containsAny at ih ⊢
    rw [List.any_cons, ← ih]
    have hu : Lib.indexAny (b :: l) c = if c.contains b then 0 else if Lib.indexAny l c == -1 then -1 else Lib.indexAny l c + 1 := by rw [Lib.indexAny]
    rw [hu]
    by_cases h : c.contains b = true
    · rw [if_pos h, h]; simp
    · have h2 : c.contains b = false := by simpa using h
      rw [if_neg h, h2, Bool.false_or]
      by_cases e : Lib.indexAny l c = -1
      · rw [e]; simp
      · rw [if_neg (by simpa using e)]
        by_cases z : 0 ≤ Lib.indexAny l c
        · rw [decide_eq_true z, decide_eq_true (by omega)]
        · omega
end Go.Proofs.YtkpieljmhgfofaaDoorL


namespace Go.Proofs.YtkpieljmhgfofaaDoor.X
open Go.RowKit Go.Proofs.YtkpieljmhgfofaaDoorW.PrintWords Go.Proofs.YtkpieljmhgfofaaDoorL
set_option linter.unusedVariables false
set_option linter.unusedSimpArgs false
theorem within_eq' (a b c : Int) : impl_within.f a b c = some (decide (b ≤ a) && decide (a ≤ c)) := by
  unfold impl_within.f
  by_cases h : a ≥ b
  · rw [if_pos h]; simp [show b ≤ a from h]
  · rw [if_neg h]; simp [show ¬ b ≤ a from h]
theorem l1In_eq' (a b c : Int) : spec_l1In.f a b c = some (decide (b ≤ a) && decide (a ≤ c)) := by
  unfold spec_l1In.f
  by_cases h : a ≥ b
  · rw [if_pos h]; simp [show b ≤ a from h]
  · rw [if_neg h]; simp [show ¬ b ≤ a from h]
/-- Bytes that can be printed, none of some. -/
def okP (bad : List UInt8) (b : UInt8) : Bool := decide (32 ≤ b.toNat) && decide (b.toNat ≤ 126) && !bad.contains b
def rngP (b : UInt8) : Bool := decide (32 ≤ b.toNat) && decide (b.toNat ≤ 126)
theorem implPrint_ev (s c : ByteArray) (hs : s.size < 4294967281) (hc : asciiB c = true) : Ev (fun k => impl_isPrintable.f k s c) ((B s).all (okP (B c))) := by
  have hlen := B_length s
  have hB : ∀ x : ByteArray, x.data.toList = B x := fun _ => rfl
  have key : ∀ (d n : Nat), n + d = s.size → ((B s).take n).all rngP = true → Ev (fun k => impl_isPrintable.l0 k s c (s.size : Int) n) ((B s).all rngP && !Lib.containsAny (B s) (B c)) := by
    intro d
    induction d with
    | zero =>
      intro n hn hr
      obtain rfl : n = s.size := by omega
      rw [List.take_of_length_le (by omega)] at hr
      refine Ev.step (f := fun _ => some _) (fun k => ?_) (Ev.now _)
      simp only [impl_isPrintable.l0]
      have ha : asciiB s = true := by
        unfold asciiB
        simp only [Bool.and_eq_true, decide_eq_true_eq, List.all_eq_true]
        refine ⟨hs, fun b hb => ?_⟩
        have := List.all_eq_true.1 hr b hb
        simp [rngP] at this; omega
      rw [if_neg (by omega)]
      unfold strings_ContainsAny.f
      rw [if_pos ⟨ha, hc⟩, hr, hB, hB]
      simp
    | succ d ih =>
      intro n hn hr
      have hl : n < (B s).length := by omega
      have hb := bt_B s n hl
      by_cases e : rngP (B s)[n] = true
      · refine Ev.step (f := fun k => impl_isPrintable.l0 k s c (s.size : Int) ((n + 1 : Nat) : Int)) (fun k => ?_) (ih (n + 1) (by omega) (by rw [List.take_succ_eq_append_getElem hl, List.all_append, hr]; simp [e]))
        simp only [impl_isPrintable.l0]
        simp [rngP] at e
        rw [if_pos (by omega), if_pos (by omega), if_pos (by omega), hb, if_neg (by omega), if_neg (by omega), wrap_succ (by omega)]
      · have hf : (B s).all rngP = false := by
          rw [List.all_eq_false]; exact ⟨_, List.getElem_mem hl, by simpa using e⟩
        rw [hf, Bool.false_and]
        refine Ev.step (f := fun _ => some false) (fun k => ?_) (Ev.now _)
        simp only [impl_isPrintable.l0]
        simp [rngP] at e
        rw [if_pos (by omega), if_pos (by omega), if_pos (by omega), hb]
        by_cases z : ((B s)[n].toNat : Int) < 32
        · rw [if_pos z]
        · rw [if_neg z, if_pos (by have := e (by omega); omega)]
  have e : (B s).all (okP (B c)) = ((B s).all rngP && !Lib.containsAny (B s) (B c)) := by
    rw [containsAny_any]
    generalize B s = l
    induction l with
    | nil => rfl
    | cons b l ih =>
      simp only [List.all_cons, List.any_cons, ih, okP, rngP]
      cases decide (32 ≤ b.toNat) <;> cases decide (b.toNat ≤ 126) <;> cases (B c).contains b <;> cases l.all rngP <;> simp
  rw [e]
  exact Ev.congr (fun k => rfl) (key s.size 0 (by omega) (by simp))
theorem specPlain_ev (s : ByteArray) (m : Int) (hs : s.size < 4294967281) : Ev (fun k => spec_l27Plain.f k s m) ((B s).all (okP [35]) && decide ((s.size : Int) ≤ m)) := by
  have hlen := B_length s
  have key : ∀ (d n : Nat), n + d = s.size → Ev (fun k => spec_l27Plain.l0 k s m n) (((B s).drop n).all (okP [35]) && decide ((s.size : Int) ≤ m)) := by
    intro d
    induction d with
    | zero =>
      intro n hn
      obtain rfl : n = s.size := by omega
      refine Ev.step (f := fun _ => some _) (fun k => ?_) (Ev.now _)
      simp only [spec_l27Plain.l0]
      rw [if_neg (by omega), List.drop_of_length_le (by omega)]
      simp
    | succ d ih =>
      intro n hn
      have hl : n < (B s).length := by omega
      have hb := bt_B s n hl
      rw [List.drop_eq_getElem_cons hl, List.all_cons]
      have h255 := bt_range s n
      have e35 : (([35] : List UInt8).contains (B s)[n]) = decide ((B s)[n].toNat = 35) := by
        by_cases z : (B s)[n] = 35
        · simp [z]
        · have : ¬ (B s)[n].toNat = 35 := fun y => z (UInt8.toNat_inj.1 (by simpa using y))
          simp [z, this]
      by_cases e : okP [35] (B s)[n] = true
      · rw [e, Bool.true_and]
        refine Ev.step (f := fun k => spec_l27Plain.l0 k s m ((n + 1 : Nat) : Int)) (fun k => ?_) (ih (n + 1) (by omega))
        simp only [spec_l27Plain.l0, l1In_eq']
        unfold okP at e
        rw [e35] at e
        simp only [Bool.and_eq_true, decide_eq_true_eq, Bool.not_eq_true', decide_eq_false_iff_not] at e
        rw [if_pos (by omega), if_pos (by omega), wrap_id (x := bt s n) (by omega) (by omega), hb, decide_eq_true (show (32 : Int) ≤ ((B s)[n].toNat : Int) by omega), decide_eq_true (show ((B s)[n].toNat : Int) ≤ 126 by omega)]
        simp only [Option.bind_some, Bool.and_self, if_true]
        rw [if_neg (by omega), wrap_succ (by omega)]
      · have e2 : okP [35] (B s)[n] = false := by simpa using e
        rw [e2, Bool.false_and, Bool.false_and]
        refine Ev.step (f := fun _ => some false) (fun k => ?_) (Ev.now _)
        simp only [spec_l27Plain.l0, l1In_eq']
        unfold okP at e2
        rw [e35] at e2
        rw [if_pos (by omega), if_pos (by omega), wrap_id (x := bt s n) (by omega) (by omega), hb]
        by_cases c1 : 32 ≤ (B s)[n].toNat
        · by_cases c2 : (B s)[n].toNat ≤ 126
          · have c3 : (B s)[n].toNat = 35 := by simpa [c1, c2] using e2
            rw [decide_eq_true (show (32 : Int) ≤ ((B s)[n].toNat : Int) by omega), decide_eq_true (show ((B s)[n].toNat : Int) ≤ 126 by omega)]
            simp only [Option.bind_some, Bool.and_self, if_true]
            rw [if_pos (by omega)]
          · rw [decide_eq_false (show ¬ ((B s)[n].toNat : Int) ≤ 126 by omega)]; simp
        · rw [decide_eq_false (show ¬ (32 : Int) ≤ ((B s)[n].toNat : Int) by omega)]; simp
  exact Ev.congr (f := fun k => spec_l27Plain.l0 k s m ((0 : Nat) : Int)) (fun k => rfl) (by simpa using key s.size 0 (by omega))
theorem specStands_ev (s : ByteArray) (c : UInt8) (hs : s.size < 4294967281) : Ev (fun k => spec_l1Stands.f k s (c.toNat : Int)) ((B s).any fun b => b == c) := by
  have hlen := B_length s
  have key : ∀ (d n : Nat), n + d = s.size → Ev (fun k => spec_l1Stands.l0 k s (c.toNat : Int) n) (((B s).drop n).any fun b => b == c) := by
    intro d
    induction d with
    | zero =>
      intro n hn
      obtain rfl : n = s.size := by omega
      refine Ev.step (f := fun _ => some _) (fun k => ?_) (Ev.now _)
      simp only [spec_l1Stands.l0]
      rw [if_neg (by omega), List.drop_of_length_le (by omega)]
      simp
    | succ d ih =>
      intro n hn
      have hl : n < (B s).length := by omega
      have hb := bt_B s n hl
      rw [List.drop_eq_getElem_cons hl, List.any_cons]
      by_cases e : (B s)[n] = c
      · have : ((B s)[n] == c) = true := by simpa using e
        rw [this, Bool.true_or]
        refine Ev.step (f := fun _ => some true) (fun k => ?_) (Ev.now _)
        simp only [spec_l1Stands.l0]
        rw [if_pos (by omega), if_pos (by omega), hb, if_pos (by rw [e])]
      · have : ((B s)[n] == c) = false := by simpa using e
        rw [this, Bool.false_or]
        refine Ev.step (f := fun k => spec_l1Stands.l0 k s (c.toNat : Int) ((n + 1 : Nat) : Int)) (fun k => ?_) (ih (n + 1) (by omega))
        simp only [spec_l1Stands.l0]
        rw [if_pos (by omega), if_pos (by omega), hb, if_neg (fun z => e (UInt8.toNat_inj.1 (by omega))), wrap_succ (by omega)]
  exact Ev.congr (f := fun k => spec_l1Stands.l0 k s (c.toNat : Int) ((0 : Nat) : Int)) (fun k => rfl) (by simpa using key s.size 0 (by omega))
/-- Is it a record? -/
def recOk (c r : ByteArray) : Bool := decide (1 ≤ c.size) && decide (c.size ≤ 160) && (B c).all (okP [35, 64]) && decide (r.size ≤ 200) && (B r).all (okP [35])
def cmdOk (c : ByteArray) : Bool := decide (1 ≤ c.size) && decide (c.size ≤ 160) && (B c).all (okP [35, 64])
theorem implCmd_ev (c : ByteArray) : Ev (fun k => impl_isCommand.f k c) (cmdOk c) := by
  unfold impl_isCommand.f cmdOk
  simp only [within_eq', Option.bind_some]
  by_cases h : 1 ≤ c.size ∧ c.size ≤ 160
  · have h1 : (decide ((1 : Int) ≤ (c.size : Int)) && decide ((c.size : Int) ≤ 160)) = true := by simp; omega
    simp only [h1, if_true, h.1, h.2, decide_true, Bool.true_and]
    exact Ev.bind (implPrint_ev c _ (by omega) (by decide)) (Ev.now _)
  · have h1 : (decide ((1 : Int) ≤ (c.size : Int)) && decide ((c.size : Int) ≤ 160)) = false := by
      rw [Bool.and_eq_false_iff]; simp only [decide_eq_false_iff_not]; omega
    have h2 : (decide (1 ≤ c.size) && decide (c.size ≤ 160)) = false := by
      rw [Bool.and_eq_false_iff]; simp only [decide_eq_false_iff_not]; omega
    simp only [h1, h2, Bool.false_and, Bool.false_eq_true, if_false]
    exact Ev.now _
theorem implRec_ev (c r : ByteArray) : Ev (fun k => impl_IsValidRecord.f k c r) (recOk c r) := by
  unfold impl_IsValidRecord.f
  have e : recOk c r = (cmdOk c && (decide (r.size ≤ 200) && (B r).all (okP [35]))) := by simp [recOk, cmdOk, Bool.and_assoc]
  rw [e]
  refine Ev.bind (implCmd_ev c) ?_
  cases hc : cmdOk c with
  | false => simp only [Bool.false_and, Bool.false_eq_true, if_false]; exact Ev.now _
  | true =>
    simp only [Bool.true_and, if_true]
    by_cases h : r.size ≤ 200
    · simp only [if_pos (show (r.size : Int) ≤ 200 by omega), h, decide_true, Bool.true_and]
      exact Ev.bind (implPrint_ev r _ (by omega) (by decide)) (Ev.now _)
    · simp only [if_neg (show ¬ (r.size : Int) ≤ 200 by omega), h, decide_false, Bool.false_and]; exact Ev.now _
theorem okP_both (l : List UInt8) : l.all (okP [35, 64]) = (l.all (okP [35]) && !(l.any fun b => b == 64)) := by
  induction l with
  | nil => rfl
  | cons b l ih =>
    simp only [List.all_cons, List.any_cons, ih, okP, List.contains_cons, List.contains_nil]
    cases decide (32 ≤ b.toNat) <;> cases decide (b.toNat ≤ 126) <;> cases (b == 35) <;> cases (b == 64) <;> simp
theorem specRec_ev (c r : ByteArray) (hc : c.size < 4294967281) (hr : r.size < 4294967281) : Ev (fun k => spec_l27Good.f k c r) (recOk c r) := by
  unfold spec_l27Good.f
  rw [B_toList]
  by_cases h : B c = []
  · have h0 : c.size = 0 := by rw [← B_length, h]; rfl
    simp only [if_pos h]
    have e : recOk c r = false := by simp [recOk, h0]
    rw [e]; exact Ev.now _
  · have h1 : 1 ≤ c.size := by
      rw [← B_length]; exact Nat.one_le_iff_ne_zero.2 (fun z => h (List.length_eq_zero_iff.1 z))
    simp only [if_neg h]
    refine Ev.bind (specPlain_ev c 160 hc) ?_
    have e : recOk c r = (((B c).all (okP [35]) && decide ((c.size : Int) ≤ 160)) && (!((B c).any fun b => b == 64) && ((B r).all (okP [35]) && decide ((r.size : Int) ≤ 200)))) := by
      unfold recOk
      rw [okP_both, show decide (1 ≤ c.size) = true from decide_eq_true h1, show decide (c.size ≤ 160) = decide ((c.size : Int) ≤ 160) from by simp <;> omega, show decide (r.size ≤ 200) = decide ((r.size : Int) ≤ 200) from by simp <;> omega]
      cases decide ((c.size : Int) ≤ 160) <;> cases decide ((r.size : Int) ≤ 200) <;> cases (B c).all (okP [35]) <;> cases ((B c).any fun b => b == 64) <;> simp
    rw [e]
    cases hz : ((B c).all (okP [35]) && decide ((c.size : Int) ≤ 160)) with
    | false => simp only [Bool.false_and, Bool.false_eq_true, if_false]; exact Ev.now _
    | true =>
      simp only [Bool.true_and, if_true]
      refine Ev.bind (specStands_ev c 64 hc) ?_
      cases hy : ((B c).any fun b => b == 64) with
      | true => simp only [if_true, Bool.not_true, Bool.false_and]; exact Ev.now _
      | false =>
        simp only [Bool.false_eq_true, if_false, Bool.not_false, Bool.true_and]
        exact Ev.bind (specPlain_ev r 200 hr) (Ev.now _)
end Go.Proofs.YtkpieljmhgfofaaDoor.X


namespace Go.Proofs.YtkpieljmhgfofaaDoor.X
open Go.RowKit Go.Proofs.YtkpieljmhgfofaaDoorW.PrintWords Go.Proofs.YtkpieljmhgfofaaDoorL
set_option linter.unusedVariables false
set_option linter.unusedSimpArgs false
theorem B_append (s t : ByteArray) : B (s ++ t) = B s ++ B t := by unfold B; simp
theorem B_mk (l : List UInt8) : B ⟨l.toArray⟩ = l := by simp [B]
theorem size_B (s : ByteArray) : s.size = (B s).length := (B_length s).symm
theorem mk_append (a b : List UInt8) : (⟨a.toArray⟩ : ByteArray) ++ ⟨b.toArray⟩ = ⟨(a ++ b).toArray⟩ := B_inj (by rw [B_append, B_mk, B_mk, B_mk])
def dec (n : Int) : ByteArray := ⟨(Lib.itoa n).toArray⟩
theorem B_dec (n : Int) : B (dec n) = Lib.itoa n := B_mk _
theorem dec_size (n : Int) (h0 : -9223372036854775808 ≤ n) (h1 : n ≤ 9223372036854775807) : (dec n).size ≤ 21 := by
  rw [size_B, B_dec]; exact Lib.itoa_length_le n h0 h1
theorem implDec (n : Int) (h0 : -9223372036854775808 ≤ n) (h1 : n ≤ 9223372036854775807) : impl_decimal.f n = some (dec n) := by
  unfold impl_decimal.f strconv_Itoa_77.f
  rw [if_pos ⟨h0, h1⟩]
  rfl
theorem digit_cut (d : Nat) (h : d < 10) : (⟨#[48, 49, 50, 51, 52, 53, 54, 55, 56, 57]⟩ : ByteArray).extract d (d + 1) = ⟨[UInt8.ofNat (48 + d)].toArray⟩ := by
  have : d = 0 ∨ d = 1 ∨ d = 2 ∨ d = 3 ∨ d = 4 ∨ d = 5 ∨ d = 6 ∨ d = 7 ∨ d = 8 ∨ d = 9 := by omega
  rcases this with rfl | rfl | rfl | rfl | rfl | rfl | rfl | rfl | rfl | rfl <;> rfl
theorem decDigits_le (u : Nat) (h : u ≤ 9223372036854775807) : (Lib.decDigits u).length ≤ 21 := by
  have := Lib.itoa_length_le (u : Int) (by omega) (by omega)
  unfold Lib.itoa at this
  rw [if_neg (by omega), Int.toNat_natCast] at this
  exact this
theorem specNum_nat : ∀ (m u : Nat), u ≤ m → u ≤ 9223372036854775807 → Ev (fun k => spec_l1Num.f k (u : Int)) ⟨(Lib.decDigits u).toArray⟩ := by
  intro m
  induction m with
  | zero =>
    intro u hu hb
    obtain rfl : u = 0 := by omega
    refine Ev.step (f := fun _ => some _) (fun k => ?_) (Ev.now _)
    simp only [spec_l1Num.f]
    rw [if_neg (by omega), if_pos (by omega), if_pos (by omega), wrap_id (by omega) (by omega), if_pos (by omega), if_pos (by omega), Lib.decDigits, dif_pos (by omega)]
    rfl
  | succ m ih =>
    intro u hu hb
    by_cases h : u < 10
    · refine Ev.step (f := fun _ => some _) (fun k => ?_) (Ev.now _)
      simp only [spec_l1Num.f]
      rw [if_neg (by omega), if_pos (by omega), if_pos (by omega), wrap_id (by omega) (by omega), if_pos (by omega), if_pos (by omega), Lib.decDigits, dif_pos h, ← digit_cut u h]
      rfl
    · have hd : wrap64 (Int.tdiv (u : Int) 10) = ((u / 10 : Nat) : Int) := by
        rw [Int.tdiv_eq_ediv_of_nonneg (by omega), wrap_id (by omega) (by omega)]; omega
      have hm : Int.tmod (u : Int) 10 = ((u % 10 : Nat) : Int) := by rw [Int.tmod_eq_emod_of_nonneg (by omega)]; omega
      refine Ev.step (f := fun k => (spec_l1Num.f k ((u / 10 : Nat) : Int)).bind fun t => if t.size + (⟨[UInt8.ofNat (48 + u % 10)].toArray⟩ : ByteArray).size ≤ 9223372036854775807 then some (t ++ ⟨[UInt8.ofNat (48 + u % 10)].toArray⟩) else none) (fun k => ?_) ?_
      · simp only [spec_l1Num.f]
        rw [if_neg (by omega), if_neg (by omega), hd, hm]
        congr 1
        funext t
        rw [if_pos (by omega), wrap_id (x := ((u % 10 : Nat) : Int) + 1) (by omega) (by omega), if_pos (by omega), if_pos (by omega)]
        have e : (((u % 10 : Nat) : Int) + 1).toNat = u % 10 + 1 := by omega
        rw [Int.toNat_natCast, e, digit_cut (u % 10) (by omega)]
      · have i1 := ih (u / 10) (by omega) (by omega)
        have hs := decDigits_le (u / 10) (by omega)
        refine Ev.bind i1 (Ev.congr (fun k => if_pos ?_) ?_)
        · rw [size_B, size_B, B_mk, B_mk]; simp only [List.length_cons, List.length_nil]; omega
        · rw [mk_append, Lib.decDigits.eq_1 u, dif_neg h]; exact Ev.now _
theorem specNum_ev (n : Int) (h0 : -9223372036854775807 ≤ n) (h1 : n ≤ 9223372036854775807) : Ev (fun k => spec_l1Num.f k n) (dec n) := by
  by_cases h : n < 0
  · have e : wrap64 (-n) = ((n.natAbs : Nat) : Int) := by rw [wrap_id (by omega) (by omega)]; omega
    have hs := decDigits_le n.natAbs (by omega)
    refine Ev.step (f := fun k => (spec_l1Num.f k ((n.natAbs : Nat) : Int)).bind fun t => if 1 + t.size ≤ 9223372036854775807 then some ((⟨#[45]⟩ : ByteArray) ++ t) else none) (fun k => ?_) (Ev.bind (specNum_nat n.natAbs n.natAbs (Nat.le_refl _) (by omega)) (Ev.congr (fun k => if_pos ?_) ?_))
    · simp only [spec_l1Num.f]
      rw [if_pos h, e]
    · rw [size_B, B_mk]; omega
    · have : dec n = (⟨#[45]⟩ : ByteArray) ++ ⟨(Lib.decDigits n.natAbs).toArray⟩ := B_inj (by rw [B_append, B_dec, B_mk]; unfold Lib.itoa; rw [if_pos h]; rfl)
      rw [this]; exact Ev.now _
  · obtain ⟨u, rfl⟩ : ∃ u : Nat, n = (u : Int) := ⟨n.toNat, by omega⟩
    have : dec (u : Int) = ⟨(Lib.decDigits u).toArray⟩ := by unfold dec Lib.itoa; rw [if_neg h, Int.toNat_natCast]
    rw [this]
    exact specNum_nat u u (Nat.le_refl _) (by omega)
end Go.Proofs.YtkpieljmhgfofaaDoor.X


namespace Go.Proofs.YtkpieljmhgfofaaDoor.X
open Go.RowKit Go.Proofs.YtkpieljmhgfofaaDoorW.PrintWords Go.Proofs.YtkpieljmhgfofaaDoorL
set_option linter.unusedVariables false
set_option linter.unusedSimpArgs false
def sumStep (h : Int) (b : UInt8) : Int := Int.tmod (41 * h + (b.toNat : Int) + 1) 999979
def sumB (l : List UInt8) : Int := l.foldl sumStep 7
theorem sumStep_bound (h : Int) (b : UInt8) (h0 : 0 ≤ h) : 0 ≤ sumStep h b ∧ sumStep h b < 999979 := by
  have := b.toNat_lt
  exact ⟨Int.tmod_nonneg _ (by omega), Int.tmod_lt_of_pos _ (by omega)⟩
theorem sumB_take_succ (l : List UInt8) (n : Nat) (h : n < l.length) : sumB (l.take (n + 1)) = sumStep (sumB (l.take n)) l[n] := by
  unfold sumB; rw [List.take_succ_eq_append_getElem h, List.foldl_append]; rfl
theorem sumB_bound (l : List UInt8) : ∀ n, n ≤ l.length → 0 ≤ sumB (l.take n) ∧ sumB (l.take n) < 999979 := by
  intro n
  induction n with
  | zero => intro _; simp [sumB]
  | succ n ih => intro h; rw [sumB_take_succ l n (by omega)]; exact sumStep_bound _ _ (ih (by omega)).1
theorem sumB_ok (l : List UInt8) : 0 ≤ sumB l ∧ sumB l < 999979 := by have := sumB_bound l l.length (Nat.le_refl _); rwa [List.take_length] at this
theorem sum_expr (h : Int) (b : UInt8) (h0 : 0 ≤ h) (h1 : h < 999979) : Int.tmod (wrap64 ((wrap64 ((wrap64 (41 * h)) + (wrap64 (b.toNat : Int)))) + 1)) 999979 = sumStep h b := by
  have := b.toNat_lt
  unfold sumStep
  rw [wrap_id (x := 41 * h) (by omega) (by omega), wrap_id (x := (b.toNat : Int)) (by omega) (by omega), wrap_id (x := 41 * h + (b.toNat : Int)) (by omega) (by omega), wrap_id (x := 41 * h + (b.toNat : Int) + 1) (by omega) (by omega)]
theorem specSum_ev (s : ByteArray) (hs : s.size ≤ 1000000000) : Ev (fun k => spec_l1Sum.f k s) (sumB (B s)) := by
  have key : ∀ (d n : Nat), n + d = (B s).length → Ev (fun k => spec_l1Sum.l0 k s (sumB ((B s).take n)) n) (sumB (B s)) := by
    intro d
    induction d with
    | zero =>
      intro n hn
      obtain rfl : n = (B s).length := by omega
      rw [List.take_length]
      exact Ev.step (f := fun _ => some _) (fun k => by simp only [spec_l1Sum.l0]; rw [if_neg (by rw [size_B]; omega)]) (Ev.now _)
    | succ d ih =>
      intro n hn
      have hb := sumB_bound (B s) n (by omega)
      have i1 := ih (n + 1) (by omega)
      rw [sumB_take_succ _ n (by omega)] at i1
      rw [size_B] at hs
      refine Ev.step (fun k => ?_) i1
      simp only [spec_l1Sum.l0]
      rw [if_pos (by rw [size_B]; omega), if_pos (by omega), bt_B s n (by omega), sum_expr _ _ hb.1 hb.2, wrap_succ (by omega)]
  exact key (B s).length 0 (by omega)
theorem implSum_ev (s : ByteArray) (hs : s.size ≤ 4000) : Ev (fun k => impl_Checksum.f k s) (sumB (B s), true) := by
  have key : ∀ (d n : Nat), n + d = (B s).length → Ev (fun k => impl_Checksum.l0 k s (sumB ((B s).take n)) (s.size : Int) n) (sumB (B s), true) := by
    intro d
    induction d with
    | zero =>
      intro n hn
      obtain rfl : n = (B s).length := by omega
      rw [List.take_length]
      exact Ev.step (f := fun _ => some _) (fun k => by simp only [impl_Checksum.l0]; rw [if_neg (by rw [size_B]; omega)]) (Ev.now _)
    | succ d ih =>
      intro n hn
      have hb := sumB_bound (B s) n (by omega)
      have i1 := ih (n + 1) (by omega)
      rw [sumB_take_succ _ n (by omega)] at i1
      have hs2 := hs
      rw [size_B] at hs2
      refine Ev.step (fun k => ?_) i1
      simp only [impl_Checksum.l0]
      rw [if_pos (by rw [size_B]; omega), if_pos (by omega), if_pos (by rw [size_B]; omega), bt_B s n (by omega), sum_expr _ _ hb.1 hb.2, wrap_succ (by omega)]
  refine Ev.congr (fun k => ?_) (key (B s).length 0 (by omega))
  unfold impl_Checksum.f
  rw [if_neg (by omega)]
  rfl
/-- A text with its checksum. -/
def sealed (s : ByteArray) : ByteArray := (s ++ ⟨#[35]⟩) ++ dec (sumB (B s))
theorem sealed_size (s : ByteArray) : s.size + 2 ≤ (sealed s).size + 1 ∧ (sealed s).size ≤ s.size + 22 := by
  have h := sumB_ok (B s)
  have hd := dec_size (sumB (B s)) (by omega) (by omega)
  have : (sealed s).size = s.size + 1 + (dec (sumB (B s))).size := by unfold sealed; rw [ByteArray.size_append, ByteArray.size_append]; rfl
  omega
theorem specSeal_ev (s : ByteArray) (hs : s.size ≤ 1000000000) : Ev (fun k => spec_l1Seal.f k s) (sealed s) := by
  have h := sumB_ok (B s)
  have hd := dec_size (sumB (B s)) (by omega) (by omega)
  unfold spec_l1Seal.f
  simp only [if_pos (show s.size + 1 ≤ 9223372036854775807 by omega)]
  refine Ev.bind (specSum_ev s hs) (Ev.bind (specNum_ev _ (by omega) (by omega)) (Ev.congr (fun k => if_pos ?_) (Ev.now _)))
  rw [ByteArray.size_append]
  show s.size + 1 + _ ≤ _
  omega
theorem contains35 (s : ByteArray) (c : UInt8) : strings_Contains.f s ⟨#[c]⟩ = some ((B s).contains c) := by
  have e : stringslite_Index.f s ⟨#[c]⟩ = some (Lib.indexByte (B s) c) := rfl
  unfold strings_Contains.f strings_Index.f
  rw [e]
  simp only [Option.bind_some]
  rw [Lib.contains_iff_indexByte]
theorem implSeal_ev (s : ByteArray) (hs : s.size ≤ 3900) (hn : (B s).contains 35 = false) : Ev (fun k => impl_AppendChecksum.f k s) (sealed s, true) := by
  have h := sumB_ok (B s)
  have hd := dec_size (sumB (B s)) (by omega) (by omega)
  have hz := (sealed_size s).2
  unfold impl_AppendChecksum.f
  refine Ev.bind (implSum_ev s (by omega)) ?_
  simp only [if_pos (show s.size + 1 ≤ 9223372036854775807 by omega), implDec _ (show -9223372036854775808 ≤ sumB (B s) by omega) (show sumB (B s) ≤ 9223372036854775807 by omega), Option.bind_some, if_true]
  refine Ev.congr (fun k => ?_) (Ev.now _)
  rw [if_pos (by rw [ByteArray.size_append]; show s.size + 1 + _ ≤ _; omega), contains35, hn]
  simp only [Option.bind_some, Bool.false_eq_true, if_false]
  rw [if_neg]
  · rfl
  · show ¬ (((sealed s).size : Nat) : Int) > 4000
    omega
end Go.Proofs.YtkpieljmhgfofaaDoor.X


-- written by a program of this session (wip/ext.py) out of the translation. Not trusted: Lean checks it.
namespace Go.Proofs.YtkpieljmhgfofaaDoor.X
open Go.RowKit Go.Proofs.YtkpieljmhgfofaaDoorW.PrintWords Go.Proofs.YtkpieljmhgfofaaDoorW.PrintLast Go.Proofs.YtkpieljmhgfofaaDoorW.PrintMore
attribute [local go_sem] max2_int min2_int max_two min_two max_three min_three max_four min_four   -- for this text's walks alone
open Go.Proofs.YtkpieljmhgfofaaDoorG
set_option linter.unusedVariables false
set_option linter.unusedSimpArgs false

def spec_EncodeRecord.f (k : Nat) (a0 : Int) (a1_0 : ByteArray) (a1_1 : ByteArray) : Option (ByteArray × Bool) := (spec_l1In.f a0 0 59).bind fun t115 => (if t115 = true then ((spec_l27Good.f k a1_0 a1_1).bind fun t116 => (if t116 = true then ((spec_l27Line.f k a0 a1_0 a1_1).bind fun t117 => (some (t117, true))) else (some ((⟨#[]⟩ : ByteArray), false)))) else (some ((⟨#[]⟩ : ByteArray), false)))
theorem spec_EncodeRecord.mono : ∀ a0 a1 a2 k, LeO (spec_EncodeRecord.f k a0 a1 a2) (spec_EncodeRecord.f (k + 1) a0 a1 a2) := by
  intro a0 a1 a2 k
  unfold spec_EncodeRecord.f
  repeat' first
      | (with_reducible exact spec_l27Good.mono _ _ _)
      | (with_reducible exact spec_l27Line.mono _ _ _ _)
      | (with_reducible exact LeO.refl _)
      | (with_reducible exact LeO.none _)
      | (with_reducible refine LeO.ite ?_ ?_)
      | (with_reducible refine LeO.bind ?_ (fun _ => ?_))
      | exact spec_l27Good.mono _ _ _
      | exact spec_l27Line.mono _ _ _ _
      | exact LeO.none _
      | refine LeO.ite ?_ ?_
      | refine LeO.bind ?_ (fun _ => ?_)
set_option maxHeartbeats 8000000 in
set_option maxRecDepth 100000 in
theorem spec_EncodeRecord.calls (k : Nat) (a0 : Int) (a1_0 : ByteArray) (a1_1 : ByteArray) (r1 : ByteArray) (r2 : Bool) (w : World) (h : spec_EncodeRecord.f k a0 a1_0 a1_1 = some (r1, r2)) :
    Calls Tryd.prog 14 #[.int .i64 a0, .agg #[.string a1_0, .string a1_1]] w fun e w' => e = .returned (.tuple #[.string r1, .bool r2]) ∧ Below w.heap.size w w' := by
  have hu27 := Tryd.underlying27
  have HB := Aside0.mk (Below.refl w.heap.size w)
  have H : ((spec_l1In.f a0 0 59).bind fun t115 => (if t115 = true then ((spec_l27Good.f k a1_0 a1_1).bind fun t116 => (if t116 = true then ((spec_l27Line.f k a0 a1_0 a1_1).bind fun t117 => (some (t117, true))) else (some ((⟨#[]⟩ : ByteArray), false)))) else (some ((⟨#[]⟩ : ByteArray), false)))) = some (r1, r2) := h
  clear h
  replace H := Option.bind_eq_some_iff.mp H
  obtain ⟨t115, A30, H⟩ := H
  replace H : (if t115 = true then ((spec_l27Good.f k a1_0 a1_1).bind fun t116 => (if t116 = true then ((spec_l27Line.f k a0 a1_0 a1_1).bind fun t117 => (some (t117, true))) else (some ((⟨#[]⟩ : ByteArray), false)))) else (some ((⟨#[]⟩ : ByteArray), false))) = some (r1, r2) := H
  have A3 := Aside0.mk A30
  clear A30
  by_cases c4 : t115 = true
  · subst c4
    have H1 : ((spec_l27Good.f k a1_0 a1_1).bind fun t116 => (if t116 = true then ((spec_l27Line.f k a0 a1_0 a1_1).bind fun t117 => (some (t117, true))) else (some ((⟨#[]⟩ : ByteArray), false)))) = some (r1, r2) := by rw [if_pos rfl] at H; exact H
    clear H
    have H := H1
    clear H1
    replace H := Option.bind_eq_some_iff.mp H
    obtain ⟨t116, A50, H⟩ := H
    replace H : (if t116 = true then ((spec_l27Line.f k a0 a1_0 a1_1).bind fun t117 => (some (t117, true))) else (some ((⟨#[]⟩ : ByteArray), false))) = some (r1, r2) := H
    have A5 := Aside0.mk A50
    clear A50
    by_cases c6 : t116 = true
    · subst c6
      have H1 : ((spec_l27Line.f k a0 a1_0 a1_1).bind fun t117 => (some (t117, true))) = some (r1, r2) := by rw [if_pos rfl] at H; exact H
      clear H
      have H := H1
      clear H1
      replace H := Option.bind_eq_some_iff.mp H
      obtain ⟨t117, A70, H⟩ := H
      replace H : (some (t117, true)) = some (r1, r2) := H
      have A7 := Aside0.mk A70
      clear A70
      simp only [Option.some.injEq, Prod.mk.injEq] at H
      obtain ⟨rfl, rfl⟩ := H
      go_enter Tryd.func14, Tryd.ntmps14
      go_wp2_with (first | ((with_reducible refine gate_dst (N := 3) rfl ?_); refine box_event ?hg (N := 3) ?hd (cs := #[.string a1_0, .string a1_1]) (t := 27) ?hr ?_; (case hd => rfl); (case hg => rfl); (case hr => first | (go_simp; done) | (go_simp; rfl)); intro gb114 hg w8 hbox hb; have n0_ := Aside0.mk (below_step (by repeat (first | (with_reducible first | exact HB.out | apply below_alloc | apply pw_below_drewN | apply below_drew1) | exact HB.out)) hb); have n1_ := Aside0.mk (hbox); have n2_ := Aside0.mk ((by rw [hg]; exact (below_size (by repeat (first | (with_reducible first | exact HB.out | apply below_alloc | apply pw_below_drewN | apply below_drew1) | exact HB.out))) : w.heap.size ≤ gb114)); have n3_ := Aside0.mk ((by rw [hg]; exact (below_size (by repeat (first | (with_reducible first | exact HB.out | apply below_alloc | apply pw_below_drewN | apply below_drew1) | exact HB.out))) : w.heap.size ≤ gb114)); clear HB; have HB := n0_; have BK114 := n1_; have GW114 := n2_; have GE114 := n3_; clear n0_ n1_ n2_ n3_; clear hb hbox hg) | ((with_reducible refine gate_callee (f := 42) rfl ?_); refine goesL_ (some 7) rfl rfl Tryd.func42 (by kernel_rfl) rfl #[.int .i64 a0, .int .i64 0, .int .i64 59] rfl (by (try simp only [List.map_toArray, List.map_cons, List.map_nil]); first | done | rfl | (simp only [List.length_drop, List.length_take]; rfl)) ?_; (with_reducible refine (spec_l1In.calls a0 0 59 true _ A3.out).mono ?_); rintro e w' ⟨rfl, ⟨nd, rfl⟩⟩; refine ⟨_, rfl, ?_⟩; have hcz9_0 : w8.cell? ⟨gb114, 0, none⟩ = some (.string a1_0) := (blk_cell BK114.out 0).trans rfl; have hcz9_1 : w8.cell? ⟨gb114, 1, none⟩ = some (.string a1_1) := (blk_cell BK114.out 1).trans rfl; have hfz9_0 := blk_frozen BK114.out 0; have hfz9_1 := blk_frozen BK114.out 1) | (go_at_call 43; (with_reducible refine (spec_l27Good.calls k a1_0 a1_1 true _ A5.out).mono ?_); rintro e w10 ⟨rfl, hb⟩; have n0_ := Aside0.mk (blk_below (g := gb114) (o := .cells #[.string a1_0, .string a1_1] 27 (0, 0)) (by (with_reducible repeat (first | refine blk_drewN ?_ _ | refine blk_drew ?_ | refine blk_alloc ?_ _)); exact BK114.out) hb); have n1_ := Aside0.mk (below_step (by repeat (first | (with_reducible first | exact HB.out | apply below_alloc | apply pw_below_drewN | apply below_drew1 | refine below_set ?_ GE114.out) | exact HB.out)) hb); clear BK114; clear HB; have BK114 := n0_; have HB := n1_; clear n0_ n1_; (try clear hb); (try clear hb2); (try clear hk); (try clear hi); have hcz11_0 : w10.cell? ⟨gb114, 0, none⟩ = some (.string a1_0) := (blk_cell BK114.out 0).trans rfl; have hcz11_1 : w10.cell? ⟨gb114, 1, none⟩ = some (.string a1_1) := (blk_cell BK114.out 1).trans rfl; have hfz11_0 := blk_frozen BK114.out 0; have hfz11_1 := blk_frozen BK114.out 1) | ((with_reducible refine gate_callee (f := 44) rfl ?_); refine goesL_ (some 16) rfl rfl Tryd.func44 (by kernel_rfl) rfl #[.int .i64 a0, .agg #[.string a1_0, .string a1_1]] rfl (by (try simp only [List.map_toArray, List.map_cons, List.map_nil]); first | done | rfl | (simp only [List.length_drop, List.length_take]; rfl)) ?_; (with_reducible refine (spec_l27Line.calls k a0 a1_0 a1_1 t117 _ A7.out).mono ?_); rintro e w12 ⟨rfl, hb⟩; refine ⟨_, rfl, ?_⟩; have n0_ := Aside0.mk (blk_below (g := gb114) (o := .cells #[.string a1_0, .string a1_1] 27 (0, 0)) (by (with_reducible repeat (first | refine blk_drewN ?_ _ | refine blk_drew ?_ | refine blk_alloc ?_ _)); exact BK114.out) hb); have n1_ := Aside0.mk (below_step (by repeat (first | (with_reducible first | exact HB.out | apply below_alloc | apply pw_below_drewN | apply below_drew1 | refine below_set ?_ GE114.out) | exact HB.out)) hb); clear BK114; clear HB; have BK114 := n0_; have HB := n1_; clear n0_ n1_; (try clear hb); (try clear hb2); (try clear hk); (try clear hi)))
      go_ret2
      exact ⟨by first | rfl | (simp [errW_none, errW_some] <;> rfl) | (simp [*, errW_none, errW_some] <;> rfl), by repeat (first | (with_reducible first | exact HB.out | apply below_alloc | apply pw_below_drewN | apply below_drew1 | refine below_set ?_ GE114.out) | exact HB.out)⟩
    · replace c6 := Bool.eq_false_iff.mpr c6
      subst c6
      have H1 : (some ((⟨#[]⟩ : ByteArray), false)) = some (r1, r2) := by rw [if_neg (show ¬ (false = true) by decide)] at H; exact H
      clear H
      have H := H1
      clear H1
      simp only [Option.some.injEq, Prod.mk.injEq] at H
      obtain ⟨rfl, rfl⟩ := H
      go_enter Tryd.func14, Tryd.ntmps14
      go_wp2_with (first | ((with_reducible refine gate_dst (N := 3) rfl ?_); refine box_event ?hg (N := 3) ?hd (cs := #[.string a1_0, .string a1_1]) (t := 27) ?hr ?_; (case hd => rfl); (case hg => rfl); (case hr => first | (go_simp; done) | (go_simp; rfl)); intro gb114 hg w13 hbox hb; have n0_ := Aside0.mk (below_step (by repeat (first | (with_reducible first | exact HB.out | apply below_alloc | apply pw_below_drewN | apply below_drew1) | exact HB.out)) hb); have n1_ := Aside0.mk (hbox); have n2_ := Aside0.mk ((by rw [hg]; exact (below_size (by repeat (first | (with_reducible first | exact HB.out | apply below_alloc | apply pw_below_drewN | apply below_drew1) | exact HB.out))) : w.heap.size ≤ gb114)); have n3_ := Aside0.mk ((by rw [hg]; exact (below_size (by repeat (first | (with_reducible first | exact HB.out | apply below_alloc | apply pw_below_drewN | apply below_drew1) | exact HB.out))) : w.heap.size ≤ gb114)); clear HB; have HB := n0_; have BK114 := n1_; have GW114 := n2_; have GE114 := n3_; clear n0_ n1_ n2_ n3_; clear hb hbox hg) | ((with_reducible refine gate_callee (f := 42) rfl ?_); refine goesL_ (some 7) rfl rfl Tryd.func42 (by kernel_rfl) rfl #[.int .i64 a0, .int .i64 0, .int .i64 59] rfl (by (try simp only [List.map_toArray, List.map_cons, List.map_nil]); first | done | rfl | (simp only [List.length_drop, List.length_take]; rfl)) ?_; (with_reducible refine (spec_l1In.calls a0 0 59 true _ A3.out).mono ?_); rintro e w' ⟨rfl, ⟨nd, rfl⟩⟩; refine ⟨_, rfl, ?_⟩; have hcz14_0 : w13.cell? ⟨gb114, 0, none⟩ = some (.string a1_0) := (blk_cell BK114.out 0).trans rfl; have hcz14_1 : w13.cell? ⟨gb114, 1, none⟩ = some (.string a1_1) := (blk_cell BK114.out 1).trans rfl; have hfz14_0 := blk_frozen BK114.out 0; have hfz14_1 := blk_frozen BK114.out 1) | (go_at_call 43; (with_reducible refine (spec_l27Good.calls k a1_0 a1_1 false _ A5.out).mono ?_); rintro e w15 ⟨rfl, hb⟩; have n0_ := Aside0.mk (blk_below (g := gb114) (o := .cells #[.string a1_0, .string a1_1] 27 (0, 0)) (by (with_reducible repeat (first | refine blk_drewN ?_ _ | refine blk_drew ?_ | refine blk_alloc ?_ _)); exact BK114.out) hb); have n1_ := Aside0.mk (below_step (by repeat (first | (with_reducible first | exact HB.out | apply below_alloc | apply pw_below_drewN | apply below_drew1 | refine below_set ?_ GE114.out) | exact HB.out)) hb); clear BK114; clear HB; have BK114 := n0_; have HB := n1_; clear n0_ n1_; (try clear hb); (try clear hb2); (try clear hk); (try clear hi)))
      go_ret2
      exact ⟨by first | rfl | (simp [errW_none, errW_some] <;> rfl) | (simp [*, errW_none, errW_some] <;> rfl), by repeat (first | (with_reducible first | exact HB.out | apply below_alloc | apply pw_below_drewN | apply below_drew1 | refine below_set ?_ GE114.out) | exact HB.out)⟩
  · replace c4 := Bool.eq_false_iff.mpr c4
    subst c4
    have H1 : (some ((⟨#[]⟩ : ByteArray), false)) = some (r1, r2) := by rw [if_neg (show ¬ (false = true) by decide)] at H; exact H
    clear H
    have H := H1
    clear H1
    simp only [Option.some.injEq, Prod.mk.injEq] at H
    obtain ⟨rfl, rfl⟩ := H
    go_enter Tryd.func14, Tryd.ntmps14
    go_wp2_with (first | ((with_reducible refine gate_dst (N := 3) rfl ?_); refine box_event ?hg (N := 3) ?hd (cs := #[.string a1_0, .string a1_1]) (t := 27) ?hr ?_; (case hd => rfl); (case hg => rfl); (case hr => first | (go_simp; done) | (go_simp; rfl)); intro gb114 hg w16 hbox hb; have n0_ := Aside0.mk (below_step (by repeat (first | (with_reducible first | exact HB.out | apply below_alloc | apply pw_below_drewN | apply below_drew1) | exact HB.out)) hb); have n1_ := Aside0.mk (hbox); have n2_ := Aside0.mk ((by rw [hg]; exact (below_size (by repeat (first | (with_reducible first | exact HB.out | apply below_alloc | apply pw_below_drewN | apply below_drew1) | exact HB.out))) : w.heap.size ≤ gb114)); have n3_ := Aside0.mk ((by rw [hg]; exact (below_size (by repeat (first | (with_reducible first | exact HB.out | apply below_alloc | apply pw_below_drewN | apply below_drew1) | exact HB.out))) : w.heap.size ≤ gb114)); clear HB; have HB := n0_; have BK114 := n1_; have GW114 := n2_; have GE114 := n3_; clear n0_ n1_ n2_ n3_; clear hb hbox hg) | ((with_reducible refine gate_callee (f := 42) rfl ?_); refine goesL_ (some 7) rfl rfl Tryd.func42 (by kernel_rfl) rfl #[.int .i64 a0, .int .i64 0, .int .i64 59] rfl (by (try simp only [List.map_toArray, List.map_cons, List.map_nil]); first | done | rfl | (simp only [List.length_drop, List.length_take]; rfl)) ?_; (with_reducible refine (spec_l1In.calls a0 0 59 false _ A3.out).mono ?_); rintro e w' ⟨rfl, ⟨nd, rfl⟩⟩; refine ⟨_, rfl, ?_⟩))
    go_ret2
    exact ⟨by first | rfl | (simp [errW_none, errW_some] <;> rfl) | (simp [*, errW_none, errW_some] <;> rfl), by repeat (first | (with_reducible first | exact HB.out | apply below_alloc | apply pw_below_drewN | apply below_drew1 | refine below_set ?_ GE114.out) | exact HB.out)⟩

end Go.Proofs.YtkpieljmhgfofaaDoor.X


-- written by a program of this session (wip/ext.py) out of the translation. Not trusted: Lean checks it.
namespace Go.Proofs.YtkpieljmhgfofaaDoor.X
open Go.RowKit Go.Proofs.YtkpieljmhgfofaaDoorW.PrintWords Go.Proofs.YtkpieljmhgfofaaDoorW.PrintLast Go.Proofs.YtkpieljmhgfofaaDoorW.PrintMore
attribute [local go_sem] max2_int min2_int max_two min_two max_three min_three max_four min_four   -- for this text's walks alone
open Go.Proofs.YtkpieljmhgfofaaDoorG
set_option linter.unusedVariables false
set_option linter.unusedSimpArgs false

def impl_EncodeRecord.f (k : Nat) (a0 : Int) (a1_0 : ByteArray) (a1_1 : ByteArray) : Option (ByteArray × Bool) := (impl_within.f a0 0 59).bind fun t160 => (if t160 = true then ((impl_IsValidRecord.f k a1_0 a1_1).bind fun t161 => (if t161 = true then ((impl_encodeRecord.f k a0 a1_0 a1_1).bind fun t162 => (some (t162, true))) else (some ((⟨#[]⟩ : ByteArray), false)))) else (some ((⟨#[]⟩ : ByteArray), false)))
theorem impl_EncodeRecord.mono : ∀ a0 a1 a2 k, LeO (impl_EncodeRecord.f k a0 a1 a2) (impl_EncodeRecord.f (k + 1) a0 a1 a2) := by
  intro a0 a1 a2 k
  unfold impl_EncodeRecord.f
  repeat' first
      | (with_reducible exact impl_IsValidRecord.mono _ _ _)
      | (with_reducible exact impl_encodeRecord.mono _ _ _ _)
      | (with_reducible exact LeO.refl _)
      | (with_reducible exact LeO.none _)
      | (with_reducible refine LeO.ite ?_ ?_)
      | (with_reducible refine LeO.bind ?_ (fun _ => ?_))
      | exact impl_IsValidRecord.mono _ _ _
      | exact impl_encodeRecord.mono _ _ _ _
      | exact LeO.none _
      | refine LeO.ite ?_ ?_
      | refine LeO.bind ?_ (fun _ => ?_)
set_option maxHeartbeats 8000000 in
set_option maxRecDepth 100000 in
theorem impl_EncodeRecord.calls (k : Nat) (a0 : Int) (a1_0 : ByteArray) (a1_1 : ByteArray) (r1 : ByteArray) (r2 : Bool) (w : World) (hG : Glob w) (h : impl_EncodeRecord.f k a0 a1_0 a1_1 = some (r1, r2)) :
    Calls Tryd.prog 16 #[.int .i64 a0, .agg #[.string a1_0, .string a1_1]] w fun e w' => e = .returned (.tuple #[.string r1, .bool r2]) ∧ Below w.heap.size w w' := by
  have hu27 := Tryd.underlying27
  have HGL := Aside0.mk hG
  clear hG
  have HB := Aside0.mk (Below.refl w.heap.size w)
  have H : ((impl_within.f a0 0 59).bind fun t160 => (if t160 = true then ((impl_IsValidRecord.f k a1_0 a1_1).bind fun t161 => (if t161 = true then ((impl_encodeRecord.f k a0 a1_0 a1_1).bind fun t162 => (some (t162, true))) else (some ((⟨#[]⟩ : ByteArray), false)))) else (some ((⟨#[]⟩ : ByteArray), false)))) = some (r1, r2) := h
  clear h
  replace H := Option.bind_eq_some_iff.mp H
  obtain ⟨t160, A30, H⟩ := H
  replace H : (if t160 = true then ((impl_IsValidRecord.f k a1_0 a1_1).bind fun t161 => (if t161 = true then ((impl_encodeRecord.f k a0 a1_0 a1_1).bind fun t162 => (some (t162, true))) else (some ((⟨#[]⟩ : ByteArray), false)))) else (some ((⟨#[]⟩ : ByteArray), false))) = some (r1, r2) := H
  have A3 := Aside0.mk A30
  clear A30
  by_cases c4 : t160 = true
  · subst c4
    have H1 : ((impl_IsValidRecord.f k a1_0 a1_1).bind fun t161 => (if t161 = true then ((impl_encodeRecord.f k a0 a1_0 a1_1).bind fun t162 => (some (t162, true))) else (some ((⟨#[]⟩ : ByteArray), false)))) = some (r1, r2) := by rw [if_pos rfl] at H; exact H
    clear H
    have H := H1
    clear H1
    replace H := Option.bind_eq_some_iff.mp H
    obtain ⟨t161, A50, H⟩ := H
    replace H : (if t161 = true then ((impl_encodeRecord.f k a0 a1_0 a1_1).bind fun t162 => (some (t162, true))) else (some ((⟨#[]⟩ : ByteArray), false))) = some (r1, r2) := H
    have A5 := Aside0.mk A50
    clear A50
    by_cases c6 : t161 = true
    · subst c6
      have H1 : ((impl_encodeRecord.f k a0 a1_0 a1_1).bind fun t162 => (some (t162, true))) = some (r1, r2) := by rw [if_pos rfl] at H; exact H
      clear H
      have H := H1
      clear H1
      replace H := Option.bind_eq_some_iff.mp H
      obtain ⟨t162, A70, H⟩ := H
      replace H : (some (t162, true)) = some (r1, r2) := H
      have A7 := Aside0.mk A70
      clear A70
      simp only [Option.some.injEq, Prod.mk.injEq] at H
      obtain ⟨rfl, rfl⟩ := H
      go_enter Tryd.func16, Tryd.ntmps16
      go_wp2_with (first | ((with_reducible refine gate_dst (N := 3) rfl ?_); refine box_event ?hg (N := 3) ?hd (cs := #[.string a1_0, .string a1_1]) (t := 27) ?hr ?_; (case hd => rfl); (case hg => rfl); (case hr => first | (go_simp; done) | (go_simp; rfl)); intro gb159 hg w8 hbox hb; have n0_ := Aside0.mk (below_step (by repeat (first | (with_reducible first | exact HB.out | apply below_alloc | apply pw_below_drewN | apply below_drew1) | exact HB.out)) hb); have n1_ := Aside0.mk (hbox); have n2_ := Aside0.mk ((by rw [hg]; exact (below_size (by repeat (first | (with_reducible first | exact HB.out | apply below_alloc | apply pw_below_drewN | apply below_drew1) | exact HB.out))) : w.heap.size ≤ gb159)); have n3_ := Aside0.mk ((by rw [hg]; exact (below_size (by repeat (first | (with_reducible first | exact HB.out | apply below_alloc | apply pw_below_drewN | apply below_drew1) | exact HB.out))) : w.heap.size ≤ gb159)); clear HB; have HB := n0_; have BK159 := n1_; have GW159 := n2_; have GE159 := n3_; clear n0_ n1_ n2_ n3_; clear hb hbox hg) | ((with_reducible refine gate_callee (f := 45) rfl ?_); refine goesL_ (some 7) rfl rfl Tryd.func45 (by kernel_rfl) rfl #[.int .i64 a0, .int .i64 0, .int .i64 59] rfl (by (try simp only [List.map_toArray, List.map_cons, List.map_nil]); first | done | rfl | (simp only [List.length_drop, List.length_take]; rfl)) ?_; (with_reducible refine (impl_within.calls a0 0 59 true _ A3.out).mono ?_); rintro e w' ⟨rfl, ⟨nd, rfl⟩⟩; refine ⟨_, rfl, ?_⟩; have hcz9_0 : w8.cell? ⟨gb159, 0, none⟩ = some (.string a1_0) := (blk_cell BK159.out 0).trans rfl; have hcz9_1 : w8.cell? ⟨gb159, 1, none⟩ = some (.string a1_1) := (blk_cell BK159.out 1).trans rfl; have hfz9_0 := blk_frozen BK159.out 0; have hfz9_1 := blk_frozen BK159.out 1) | (go_at_call 37; (with_reducible refine (impl_IsValidRecord.calls k a1_0 a1_1 true _ A5.out).mono ?_); rintro e w10 ⟨rfl, hb⟩; have n0_ := Aside0.mk (blk_below (g := gb159) (o := .cells #[.string a1_0, .string a1_1] 27 (0, 0)) (by (with_reducible repeat (first | refine blk_drewN ?_ _ | refine blk_drew ?_ | refine blk_alloc ?_ _)); exact BK159.out) hb); have n1_ := Aside0.mk (below_step (by repeat (first | (with_reducible first | exact HB.out | apply below_alloc | apply pw_below_drewN | apply below_drew1 | refine below_set ?_ GE159.out) | exact HB.out)) hb); clear BK159; clear HB; have BK159 := n0_; have HB := n1_; clear n0_ n1_; (try clear hb); (try clear hb2); (try clear hk); (try clear hi); have hcz11_0 : w10.cell? ⟨gb159, 0, none⟩ = some (.string a1_0) := (blk_cell BK159.out 0).trans rfl; have hcz11_1 : w10.cell? ⟨gb159, 1, none⟩ = some (.string a1_1) := (blk_cell BK159.out 1).trans rfl; have hfz11_0 := blk_frozen BK159.out 0; have hfz11_1 := blk_frozen BK159.out 1) | ((with_reducible refine gate_callee (f := 46) rfl ?_); refine goesL_ (some 16) rfl rfl Tryd.func46 (by kernel_rfl) rfl #[.int .i64 a0, .agg #[.string a1_0, .string a1_1]] rfl (by (try simp only [List.map_toArray, List.map_cons, List.map_nil]); first | done | rfl | (simp only [List.length_drop, List.length_take]; rfl)) ?_; (with_reducible refine (impl_encodeRecord.calls k a0 a1_0 a1_1 t162 _ ?side1 A7.out).mono ?_); (case side1 => exact Glob.below HGL.out (by repeat (first | (with_reducible first | exact HB.out | apply below_alloc | apply pw_below_drewN | apply below_drew1 | refine below_set ?_ GE159.out) | exact HB.out))); rintro e w12 ⟨rfl, hb⟩; refine ⟨_, rfl, ?_⟩; have n0_ := Aside0.mk (blk_below (g := gb159) (o := .cells #[.string a1_0, .string a1_1] 27 (0, 0)) (by (with_reducible repeat (first | refine blk_drewN ?_ _ | refine blk_drew ?_ | refine blk_alloc ?_ _)); exact BK159.out) hb); have n1_ := Aside0.mk (below_step (by repeat (first | (with_reducible first | exact HB.out | apply below_alloc | apply pw_below_drewN | apply below_drew1 | refine below_set ?_ GE159.out) | exact HB.out)) hb); clear BK159; clear HB; have BK159 := n0_; have HB := n1_; clear n0_ n1_; (try clear hb); (try clear hb2); (try clear hk); (try clear hi)))
      go_ret2
      exact ⟨by first | rfl | (simp [errW_none, errW_some] <;> rfl) | (simp [*, errW_none, errW_some] <;> rfl), by repeat (first | (with_reducible first | exact HB.out | apply below_alloc | apply pw_below_drewN | apply below_drew1 | refine below_set ?_ GE159.out) | exact HB.out)⟩
    · replace c6 := Bool.eq_false_iff.mpr c6
      subst c6
      have H1 : (some ((⟨#[]⟩ : ByteArray), false)) = some (r1, r2) := by rw [if_neg (show ¬ (false = true) by decide)] at H; exact H
      clear H
      have H := H1
      clear H1
      simp only [Option.some.injEq, Prod.mk.injEq] at H
      obtain ⟨rfl, rfl⟩ := H
      go_enter Tryd.func16, Tryd.ntmps16
      go_wp2_with (first | ((with_reducible refine gate_dst (N := 3) rfl ?_); refine box_event ?hg (N := 3) ?hd (cs := #[.string a1_0, .string a1_1]) (t := 27) ?hr ?_; (case hd => rfl); (case hg => rfl); (case hr => first | (go_simp; done) | (go_simp; rfl)); intro gb159 hg w13 hbox hb; have n0_ := Aside0.mk (below_step (by repeat (first | (with_reducible first | exact HB.out | apply below_alloc | apply pw_below_drewN | apply below_drew1) | exact HB.out)) hb); have n1_ := Aside0.mk (hbox); have n2_ := Aside0.mk ((by rw [hg]; exact (below_size (by repeat (first | (with_reducible first | exact HB.out | apply below_alloc | apply pw_below_drewN | apply below_drew1) | exact HB.out))) : w.heap.size ≤ gb159)); have n3_ := Aside0.mk ((by rw [hg]; exact (below_size (by repeat (first | (with_reducible first | exact HB.out | apply below_alloc | apply pw_below_drewN | apply below_drew1) | exact HB.out))) : w.heap.size ≤ gb159)); clear HB; have HB := n0_; have BK159 := n1_; have GW159 := n2_; have GE159 := n3_; clear n0_ n1_ n2_ n3_; clear hb hbox hg) | ((with_reducible refine gate_callee (f := 45) rfl ?_); refine goesL_ (some 7) rfl rfl Tryd.func45 (by kernel_rfl) rfl #[.int .i64 a0, .int .i64 0, .int .i64 59] rfl (by (try simp only [List.map_toArray, List.map_cons, List.map_nil]); first | done | rfl | (simp only [List.length_drop, List.length_take]; rfl)) ?_; (with_reducible refine (impl_within.calls a0 0 59 true _ A3.out).mono ?_); rintro e w' ⟨rfl, ⟨nd, rfl⟩⟩; refine ⟨_, rfl, ?_⟩; have hcz14_0 : w13.cell? ⟨gb159, 0, none⟩ = some (.string a1_0) := (blk_cell BK159.out 0).trans rfl; have hcz14_1 : w13.cell? ⟨gb159, 1, none⟩ = some (.string a1_1) := (blk_cell BK159.out 1).trans rfl; have hfz14_0 := blk_frozen BK159.out 0; have hfz14_1 := blk_frozen BK159.out 1) | (go_at_call 37; (with_reducible refine (impl_IsValidRecord.calls k a1_0 a1_1 false _ A5.out).mono ?_); rintro e w15 ⟨rfl, hb⟩; have n0_ := Aside0.mk (blk_below (g := gb159) (o := .cells #[.string a1_0, .string a1_1] 27 (0, 0)) (by (with_reducible repeat (first | refine blk_drewN ?_ _ | refine blk_drew ?_ | refine blk_alloc ?_ _)); exact BK159.out) hb); have n1_ := Aside0.mk (below_step (by repeat (first | (with_reducible first | exact HB.out | apply below_alloc | apply pw_below_drewN | apply below_drew1 | refine below_set ?_ GE159.out) | exact HB.out)) hb); clear BK159; clear HB; have BK159 := n0_; have HB := n1_; clear n0_ n1_; (try clear hb); (try clear hb2); (try clear hk); (try clear hi)))
      go_ret2
      exact ⟨by first | rfl | (simp [errW_none, errW_some] <;> rfl) | (simp [*, errW_none, errW_some] <;> rfl), by repeat (first | (with_reducible first | exact HB.out | apply below_alloc | apply pw_below_drewN | apply below_drew1 | refine below_set ?_ GE159.out) | exact HB.out)⟩
  · replace c4 := Bool.eq_false_iff.mpr c4
    subst c4
    have H1 : (some ((⟨#[]⟩ : ByteArray), false)) = some (r1, r2) := by rw [if_neg (show ¬ (false = true) by decide)] at H; exact H
    clear H
    have H := H1
    clear H1
    simp only [Option.some.injEq, Prod.mk.injEq] at H
    obtain ⟨rfl, rfl⟩ := H
    go_enter Tryd.func16, Tryd.ntmps16
    go_wp2_with (first | ((with_reducible refine gate_dst (N := 3) rfl ?_); refine box_event ?hg (N := 3) ?hd (cs := #[.string a1_0, .string a1_1]) (t := 27) ?hr ?_; (case hd => rfl); (case hg => rfl); (case hr => first | (go_simp; done) | (go_simp; rfl)); intro gb159 hg w16 hbox hb; have n0_ := Aside0.mk (below_step (by repeat (first | (with_reducible first | exact HB.out | apply below_alloc | apply pw_below_drewN | apply below_drew1) | exact HB.out)) hb); have n1_ := Aside0.mk (hbox); have n2_ := Aside0.mk ((by rw [hg]; exact (below_size (by repeat (first | (with_reducible first | exact HB.out | apply below_alloc | apply pw_below_drewN | apply below_drew1) | exact HB.out))) : w.heap.size ≤ gb159)); have n3_ := Aside0.mk ((by rw [hg]; exact (below_size (by repeat (first | (with_reducible first | exact HB.out | apply below_alloc | apply pw_below_drewN | apply below_drew1) | exact HB.out))) : w.heap.size ≤ gb159)); clear HB; have HB := n0_; have BK159 := n1_; have GW159 := n2_; have GE159 := n3_; clear n0_ n1_ n2_ n3_; clear hb hbox hg) | ((with_reducible refine gate_callee (f := 45) rfl ?_); refine goesL_ (some 7) rfl rfl Tryd.func45 (by kernel_rfl) rfl #[.int .i64 a0, .int .i64 0, .int .i64 59] rfl (by (try simp only [List.map_toArray, List.map_cons, List.map_nil]); first | done | rfl | (simp only [List.length_drop, List.length_take]; rfl)) ?_; (with_reducible refine (impl_within.calls a0 0 59 false _ A3.out).mono ?_); rintro e w' ⟨rfl, ⟨nd, rfl⟩⟩; refine ⟨_, rfl, ?_⟩))
    go_ret2
    exact ⟨by first | rfl | (simp [errW_none, errW_some] <;> rfl) | (simp [*, errW_none, errW_some] <;> rfl), by repeat (first | (with_reducible first | exact HB.out | apply below_alloc | apply pw_below_drewN | apply below_drew1 | refine below_set ?_ GE159.out) | exact HB.out)⟩

end Go.Proofs.YtkpieljmhgfofaaDoor.X


namespace Go.Proofs.YtkpieljmhgfofaaDoor.X
open Go.RowKit Go.Proofs.YtkpieljmhgfofaaDoorW.PrintWords Go.Proofs.YtkpieljmhgfofaaDoorL
set_option linter.unusedVariables false
set_option linter.unusedSimpArgs false
def bodyOf (n : Int) (c r : ByteArray) : ByteArray := (((dec n ++ ⟨#[32]⟩) ++ c) ++ ⟨#[64]⟩) ++ r
def lineOf (n : Int) (c r : ByteArray) : ByteArray := sealed (bodyOf n c r) ++ ⟨#[10]⟩
theorem bodyOf_size (n : Int) (c r : ByteArray) : (bodyOf n c r).size = (dec n).size + 1 + c.size + 1 + r.size := by
  unfold bodyOf; simp only [ByteArray.size_append]; rfl
theorem rec_sizes {c r : ByteArray} (h : recOk c r = true) : 1 ≤ c.size ∧ c.size ≤ 160 ∧ r.size ≤ 200 := by
  unfold recOk at h; simp only [Bool.and_eq_true, decide_eq_true_eq] at h; omega
theorem ok35 {l c : List UInt8} (hc : c.contains 35 = true) (h : l.all (okP c) = true) : l.contains 35 = false := by
  rw [List.contains_eq_any_beq]
  rw [List.all_eq_true] at h
  rw [List.any_eq_false]
  intro x hx
  have := h x hx
  unfold okP at this
  simp only [Bool.and_eq_true, Bool.not_eq_true'] at this
  intro e
  have e2 : 35 = x := by simpa using e
  subst e2
  rw [hc] at this
  simp at this
theorem dec_no35 (n : Int) (h0 : 0 ≤ n) (h1 : n ≤ 59) : (B (dec n)).contains 35 = false := by
  obtain ⟨u, rfl⟩ : ∃ u : Nat, n = (u : Int) := ⟨n.toNat, by omega⟩
  rw [B_dec]
  have : u < 60 := by omega
  clear h0 h1
  unfold Lib.itoa
  rw [if_neg (by omega), Int.toNat_natCast]
  rw [Lib.decDigits]
  by_cases h : u < 10
  · rw [dif_pos h]
    have : ∀ v : Fin 10, ([UInt8.ofNat (48 + v.val)] : List UInt8).contains 35 = false := by decide
    exact this ⟨u, h⟩
  · rw [dif_neg h, Lib.decDigits, dif_pos (by omega)]
    have : ∀ v w : Fin 10, ([UInt8.ofNat (48 + v.val)] ++ [UInt8.ofNat (48 + w.val)] : List UInt8).contains 35 = false := by decide
    exact this ⟨u / 10, by omega⟩ ⟨u % 10, by omega⟩
theorem body_no35 {n : Int} {c r : ByteArray} (h0 : 0 ≤ n) (h1 : n ≤ 59) (h : recOk c r = true) : (B (bodyOf n c r)).contains 35 = false := by
  unfold recOk at h
  simp only [Bool.and_eq_true] at h
  have hc := ok35 (c := [35, 64]) (by decide) (show (B c).all (okP [35, 64]) = true by simp [h])
  have hr := ok35 (c := [35]) (by decide) (show (B r).all (okP [35]) = true by simp [h])
  have hd := dec_no35 n h0 h1
  unfold bodyOf
  simp only [B_append, List.contains_eq_any_beq, List.any_append] at hc hr hd ⊢
  rw [hc, hr, hd]
  rfl
theorem implLine_ev (n : Int) (c r : ByteArray) (h0 : 0 ≤ n) (h1 : n ≤ 59) (h : recOk c r = true) : Ev (fun k => impl_encodeRecord.f k n c r) (lineOf n c r) := by
  obtain ⟨s1, s2, s3⟩ := rec_sizes h
  have hd := dec_size n (by omega) (by omega)
  have hb := bodyOf_size n c r
  have hz := (sealed_size (bodyOf n c r)).2
  unfold impl_encodeRecord.f
  rw [implDec n (by omega) (by omega)]
  simp only [Option.bind_some]
  refine Ev.congr (f := fun k => (impl_AppendChecksum.f k (bodyOf n c r)).bind fun bt157 => (if bt157.1.size + 1 ≤ 9223372036854775807 then (some (bt157.1 ++ (⟨#[10]⟩ : ByteArray))) else (none))) (fun k => ?_) (Ev.bind (implSeal_ev _ (by omega) (body_no35 h0 h1 h)) (Ev.congr (fun k => if_pos (by show (sealed (bodyOf n c r)).size + 1 ≤ _; omega)) (Ev.now _)))
  have z1 : (dec n ++ (⟨#[32]⟩ : ByteArray)).size = (dec n).size + 1 := by rw [ByteArray.size_append]; rfl
  have z2 : ((dec n ++ (⟨#[32]⟩ : ByteArray)) ++ c).size = (dec n).size + 1 + c.size := by rw [ByteArray.size_append, z1]
  have z3 : (((dec n ++ (⟨#[32]⟩ : ByteArray)) ++ c) ++ (⟨#[64]⟩ : ByteArray)).size = (dec n).size + 1 + c.size + 1 := by rw [ByteArray.size_append, z2]; rfl
  rw [if_pos (by omega), if_pos (by omega), if_pos (by omega), if_pos (by omega)]
  rfl
theorem specLine_ev (n : Int) (c r : ByteArray) (h0 : 0 ≤ n) (h1 : n ≤ 59) (h : recOk c r = true) : Ev (fun k => spec_l27Line.f k n c r) (lineOf n c r) := by
  obtain ⟨s1, s2, s3⟩ := rec_sizes h
  have hd := dec_size n (by omega) (by omega)
  have hb := bodyOf_size n c r
  have hz := (sealed_size (bodyOf n c r)).2
  unfold spec_l27Line.f
  refine Ev.bind (specNum_ev n (by omega) (by omega)) ?_
  refine Ev.congr (f := fun k => (spec_l1Seal.f k (bodyOf n c r)).bind fun t113 => (if t113.size + 1 ≤ 9223372036854775807 then (some (t113 ++ (⟨#[10]⟩ : ByteArray))) else (none))) (fun k => ?_) (Ev.bind (specSeal_ev _ (by omega)) (Ev.congr (fun k => if_pos (by omega)) (Ev.now _)))
  have z1 : (dec n ++ (⟨#[32]⟩ : ByteArray)).size = (dec n).size + 1 := by rw [ByteArray.size_append]; rfl
  have z2 : ((dec n ++ (⟨#[32]⟩ : ByteArray)) ++ c).size = (dec n).size + 1 + c.size := by rw [ByteArray.size_append, z1]
  have z3 : (((dec n ++ (⟨#[32]⟩ : ByteArray)) ++ c) ++ (⟨#[64]⟩ : ByteArray)).size = (dec n).size + 1 + c.size + 1 := by rw [ByteArray.size_append, z2]; rfl
  rw [if_pos (by omega), if_pos (by omega), if_pos (by omega), if_pos (by omega)]
  rfl
def enc (n : Int) (c r : ByteArray) : ByteArray × Bool := if 0 ≤ n ∧ n ≤ 59 ∧ recOk c r = true then (lineOf n c r, true) else (⟨#[]⟩, false)
end Go.Proofs.YtkpieljmhgfofaaDoor.X


namespace Go.Proofs.YtkpieljmhgfofaaDoor.X
open Go.RowKit Go.Proofs.YtkpieljmhgfofaaDoorW.PrintWords Go.Proofs.YtkpieljmhgfofaaDoorL
set_option linter.unusedVariables false
set_option linter.unusedSimpArgs false
def mk (l : List UInt8) : ByteArray := ⟨l.toArray⟩
theorem B_of_mk (l : List UInt8) : B (mk l) = l := B_mk l
theorem mk_of_B (s : ByteArray) : mk (B s) = s := B_inj (B_mk _)
theorem mk_size (l : List UInt8) : (mk l).size = l.length := by rw [size_B, B_of_mk]
theorem B_extract (s : ByteArray) (i j : Nat) : B (s.extract i j) = ((B s).drop i).take (j - i) := by
  unfold B; simp [List.extract_eq_take_drop]
def cutL (c : UInt8) : List UInt8 → List UInt8 × List UInt8 × Bool
  | [] => ([], [], false)
  | b :: l => if b = c then ([], l, true) else (b :: (cutL c l).1, (cutL c l).2.1, (cutL c l).2.2)
theorem cutL_hit (c : UInt8) : ∀ (a b : List UInt8), c ∉ a → cutL c (a ++ c :: b) = (a, b, true)
  | [], b, _ => by simp [cutL]
  | x :: a, b, h => by
    have hx : x ≠ c := fun e => h (by simp [e])
    have ih := cutL_hit c a b (fun e => h (by simp [e]))
    simp only [List.cons_append, cutL, if_neg hx, ih]
theorem cutL_found (c : UInt8) : ∀ l : List UInt8, (cutL c l).2.2 = true → l = (cutL c l).1 ++ c :: (cutL c l).2.1
  | [], h => by simp [cutL] at h
  | x :: l, h => by
    by_cases hx : x = c
    · subst hx; simp [cutL]
    · simp only [cutL, if_neg hx] at h ⊢
      have := cutL_found c l h
      rw [List.cons_append, ← this]
theorem cutL_notin (c : UInt8) : ∀ l : List UInt8, c ∉ (cutL c l).1
  | [] => by simp [cutL]
  | x :: l => by
    by_cases hx : x = c
    · subst hx; simp [cutL]
    · simp only [cutL, if_neg hx, List.mem_cons, not_or]
      exact ⟨fun e => hx e.symm, cutL_notin c l⟩
theorem cutL_lost (c : UInt8) : ∀ l : List UInt8, (cutL c l).2.2 = false → cutL c l = (l, [], false)
  | [], h => rfl
  | x :: l, h => by
    by_cases hx : x = c
    · subst hx; simp [cutL] at h
    · simp only [cutL, if_neg hx] at h ⊢
      rw [cutL_lost c l h]
theorem cutL_index (c : UInt8) : ∀ l : List UInt8, Lib.indexByte l c = if (cutL c l).2.2 = true then ((cutL c l).1.length : Int) else -1
  | [] => by simp [cutL, Lib.indexByte]
  | x :: l => by
    by_cases hx : x = c
    · subst hx; simp [cutL, Lib.indexByte]
    · have hb : (x == c) = false := by simpa using hx
      have ih := cutL_index c l
      simp only [cutL, if_neg hx, Lib.indexByte, hb, Bool.false_eq_true, if_false, ih]
      by_cases h : (cutL c l).2.2 = true
      · rw [if_pos h, if_pos h, if_neg (by simp <;> omega)]; simp
      · rw [if_neg h, if_neg h]; simp
theorem stringsCut_eq (s : ByteArray) (c : UInt8) (hs : s.size ≤ 9223372036854775807) : strings_Cut.f s ⟨#[c]⟩ = some (mk (cutL c (B s)).1, mk (cutL c (B s)).2.1, (cutL c (B s)).2.2) := by
  have e : stringslite_Index.f s ⟨#[c]⟩ = some (Lib.indexByte (B s) c) := rfl
  have h1 : (⟨#[c]⟩ : ByteArray).size = 1 := rfl
  unfold strings_Cut.f stringslite_Cut.f
  rw [e, cutL_index]
  simp only [Option.bind_some]
  by_cases h : (cutL c (B s)).2.2 = true
  · have hf := cutL_found c (B s) h
    have hl : (B s).length = (cutL c (B s)).1.length + 1 + (cutL c (B s)).2.1.length := by
      conv => lhs; rw [hf]
      simp; omega
    rw [B_length] at hl
    simp only [if_pos h]
    rw [if_pos (by omega), if_pos (by omega), if_pos (by omega), h1, wrap_id (by omega) (by omega), if_pos (by omega), if_pos (by omega)]
    simp only [Option.bind_some, Option.some.injEq, Prod.mk.injEq]
    generalize (cutL c (B s)).1 = a at *
    generalize (cutL c (B s)).2.1 = b at *
    refine ⟨B_inj ?_, B_inj ?_, h.symm⟩
    · rw [B_extract, B_of_mk, hf]
      simp
    · rw [B_extract, B_of_mk, hf]
      rw [show ((a.length : Int) + ((1 : Nat) : Int)).toNat = a.length + 1 by omega]
      rw [List.take_of_length_le (by simp; omega)]
      rw [List.drop_append, List.drop_of_length_le (by omega)]
      simp
  · have hl := cutL_lost c (B s) (by simpa using h)
    simp only [if_neg h]
    rw [if_neg (by omega), hl]
    simp only [Option.bind_some, mk_of_B]
    rfl
/-- A text's pieces between all of a byte. -/
def addHead (p : List UInt8) : List (List UInt8) → List (List UInt8)
  | [] => [p]
  | q :: r => (p ++ q) :: r
def pieces (c : UInt8) : List UInt8 → List (List UInt8)
  | [] => [[]]
  | b :: l => if b = c then [] :: pieces c l else addHead [b] (pieces c l)
theorem pieces_ne (c : UInt8) : ∀ l, pieces c l ≠ []
  | [] => by simp [pieces]
  | b :: l => by
    unfold pieces
    by_cases h : b = c
    · rw [if_pos h]; simp
    · rw [if_neg h]; cases pieces c l <;> simp [addHead]
theorem addHead_two (p q : List UInt8) (r : List (List UInt8)) : addHead p (addHead q r) = addHead (p ++ q) r := by cases r <;> simp [addHead]
theorem addHead_nil (c : UInt8) (l : List UInt8) : addHead [] (pieces c l) = pieces c l := by
  cases h : pieces c l with
  | nil => exact absurd h (pieces_ne c l)
  | cons a b => simp [addHead]
theorem addHead_length (p : List UInt8) (c : UInt8) (l : List UInt8) : (addHead p (pieces c l)).length = (pieces c l).length := by
  cases h : pieces c l with
  | nil => exact absurd h (pieces_ne c l)
  | cons a b => simp [addHead]
theorem pieces_head (c : UInt8) : ∀ l : List UInt8, (pieces c l)[0]? = some (cutL c l).1
  | [] => rfl
  | b :: l => by
    have ih := pieces_head c l
    unfold pieces cutL
    by_cases h : b = c
    · rw [if_pos h, if_pos h]; rfl
    · rw [if_neg h, if_neg h]
      cases hp : pieces c l with
      | nil => exact absurd hp (pieces_ne c l)
      | cons a r => rw [hp] at ih; simp at ih; simp [addHead, ih]
theorem pieces_two (c : UInt8) : ∀ l : List UInt8, (2 ≤ (pieces c l).length) = ((cutL c l).2.2 = true)
  | [] => by simp [pieces, cutL]
  | b :: l => by
    have ih := pieces_two c l
    unfold pieces cutL
    by_cases h : b = c
    · rw [if_pos h, if_pos h]
      have := List.length_pos_iff.2 (pieces_ne c l)
      simp; omega
    · rw [if_neg h, if_neg h, addHead_length]; exact ih
theorem pieces_length (c : UInt8) : ∀ l : List UInt8, 1 ≤ (pieces c l).length ∧ (pieces c l).length ≤ l.length + 1
  | [] => by simp [pieces]
  | b :: l => by
    have ih := pieces_length c l
    unfold pieces
    by_cases h : b = c
    · rw [if_pos h]; simp; omega
    · rw [if_neg h, addHead_length]; simp; omega
def seg (s : ByteArray) (i j : Nat) : List UInt8 := ((B s).drop i).take (j - i)
theorem seg_succ (s : ByteArray) (i j : Nat) (h : i ≤ j) (hj : j < (B s).length) : seg s i (j + 1) = seg s i j ++ [(B s)[j]] := by
  unfold seg
  rw [show j + 1 - i = (j - i) + 1 by omega, List.take_succ_eq_append_getElem (by simp; omega)]
  simp [show i + (j - i) = j by omega]
theorem specSplit_ev (s : ByteArray) (c : UInt8) (hs : s.size ≤ 1000000000) : Ev (fun k => spec_l1Split.f k s (c.toNat : Int)) ((pieces c (B s)).map mk) := by
  have hlen := B_length s
  have key : ∀ (d i st : Nat) (xs : List ByteArray), i + d = (B s).length → st ≤ i → xs.length ≤ i →
      Ev (fun k => spec_l1Split.l0 k s (c.toNat : Int) xs st i) (xs ++ (addHead (seg s st i) (pieces c ((B s).drop i))).map mk) := by
    intro d
    induction d with
    | zero =>
      intro i st xs hi hst hx
      obtain rfl : i = (B s).length := by omega
      refine Ev.step (f := fun _ => some _) (fun k => ?_) (Ev.now _)
      simp only [spec_l1Split.l0]
      rw [if_neg (by omega), if_pos (by omega), if_pos (by omega), if_pos (by omega), List.drop_length]
      have e : s.extract (st : Int).toNat s.size = mk (seg s st (B s).length) := B_inj (by rw [B_extract, B_of_mk, hlen]; rfl)
      rw [e]
      simp [pieces, addHead]
    | succ d ih =>
      intro i st xs hi hst hx
      have hl : i < (B s).length := by omega
      have hb := bt_B s i hl
      rw [List.drop_eq_getElem_cons hl]
      unfold pieces
      by_cases e : (B s)[i] = c
      · rw [if_pos e]
        have i1 := ih (i + 1) (i + 1) (xs ++ [mk (seg s st i)]) (by omega) (by omega) (by simp; omega)
        have e0 : seg s (i + 1) (i + 1) = [] := by simp [seg]
        rw [e0, addHead_nil] at i1
        have e1 : addHead (seg s st i) ([] :: pieces c ((B s).drop (i + 1))) = seg s st i :: pieces c ((B s).drop (i + 1)) := by simp [addHead]
        rw [e1, List.map_cons]
        rw [List.append_assoc] at i1
        refine Ev.step (fun k => ?_) i1
        simp only [spec_l1Split.l0]
        have e2 : s.extract (st : Int).toNat (i : Int).toNat = mk (seg s st i) := B_inj (by rw [B_extract, B_of_mk]; rfl)
        rw [if_pos (by omega), if_pos (by omega), hb, e, if_pos rfl, if_pos (by omega), if_pos (by omega), if_pos (by omega), if_pos (by omega), e2, wrap_succ (by omega)]
      · rw [if_neg e]
        have i1 := ih (i + 1) st xs (by omega) (by omega) (by omega)
        rw [seg_succ s st i hst hl, ← addHead_two] at i1
        refine Ev.step (fun k => ?_) i1
        simp only [spec_l1Split.l0]
        rw [if_pos (by omega), if_pos (by omega), hb, if_neg (fun z => e (UInt8.toNat_inj.1 (by omega))), wrap_succ (by omega)]
  have := key (B s).length 0 0 [] (by omega) (by omega) (by simp)
  have e0 : seg s 0 0 = [] := by simp [seg]
  rw [e0, List.drop_zero, addHead_nil, List.nil_append] at this
  exact this
end Go.Proofs.YtkpieljmhgfofaaDoor.X


namespace Go.Proofs.YtkpieljmhgfofaaDoor.X
open Go.RowKit Go.Proofs.YtkpieljmhgfofaaDoorW.PrintWords Go.Proofs.YtkpieljmhgfofaaDoorL
set_option linter.unusedVariables false
set_option linter.unusedSimpArgs false
theorem digit_range (d : Nat) (h : d < 10) : 48 ≤ (UInt8.ofNat (48 + d)).toNat ∧ (UInt8.ofNat (48 + d)).toNat ≤ 57 := by
  have : (UInt8.ofNat (48 + d)).toNat = 48 + d := by simp; omega
  omega
theorem decDigits_range : ∀ (m u : Nat), u ≤ m → ∀ b ∈ Lib.decDigits u, 48 ≤ b.toNat ∧ b.toNat ≤ 57 := by
  intro m
  induction m with
  | zero =>
    intro u hu b hb
    rw [Lib.decDigits, dif_pos (by omega)] at hb
    simp only [List.mem_singleton] at hb
    subst hb; exact digit_range u (by omega)
  | succ m ih =>
    intro u hu b hb
    by_cases h : u < 10
    · rw [Lib.decDigits, dif_pos h] at hb
      simp only [List.mem_singleton] at hb
      subst hb; exact digit_range u h
    · rw [Lib.decDigits.eq_1 u, dif_neg h] at hb
      rcases List.mem_append.1 hb with hb | hb
      · exact ih (u / 10) (by omega) b hb
      · simp only [List.mem_singleton] at hb
        subst hb; exact digit_range (u % 10) (by omega)
theorem itoa_range (n : Int) (h : 0 ≤ n) : ∀ b ∈ Lib.itoa n, 48 ≤ b.toNat ∧ b.toNat ≤ 57 := by
  unfold Lib.itoa
  rw [if_neg (by omega)]
  exact decDigits_range _ _ (Nat.le_refl _)
theorem B_sealed (s : ByteArray) : B (sealed s) = B s ++ 35 :: Lib.itoa (sumB (B s)) := by
  unfold sealed
  rw [B_append, B_append, B_dec, List.append_assoc]; rfl
theorem B_body (n : Int) (c r : ByteArray) : B (bodyOf n c r) = Lib.itoa n ++ 32 :: (B c ++ 64 :: B r) := by
  unfold bodyOf
  simp only [B_append, B_dec, List.append_assoc]; rfl
theorem B_line (n : Int) (c r : ByteArray) : B (lineOf n c r) = B (sealed (bodyOf n c r)) ++ [10] := by
  unfold lineOf; rw [B_append]; rfl
theorem all_range {l bad : List UInt8} (h : l.all (okP bad) = true) : ∀ b ∈ l, 32 ≤ b.toNat ∧ b.toNat ≤ 126 := by
  intro b hb
  have := List.all_eq_true.1 h b hb
  unfold okP at this
  simp only [Bool.and_eq_true, decide_eq_true_eq] at this
  exact this.1
theorem rec_parts {c r : ByteArray} (h : recOk c r = true) : (∀ b ∈ B c, 32 ≤ b.toNat ∧ b.toNat ≤ 126) ∧ (∀ b ∈ B r, 32 ≤ b.toNat ∧ b.toNat ≤ 126) ∧ (64 : UInt8) ∉ B c := by
  unfold recOk at h
  simp only [Bool.and_eq_true] at h
  refine ⟨all_range h.1.1.2, all_range h.2, fun hm => ?_⟩
  have := List.all_eq_true.1 h.1.1.2 _ hm
  simp [okP] at this
theorem sealed_range {n : Int} {c r : ByteArray} (h0 : 0 ≤ n) (h : recOk c r = true) : ∀ b ∈ B (sealed (bodyOf n c r)), 32 ≤ b.toNat ∧ b.toNat ≤ 126 := by
  intro b hb
  rw [B_sealed, B_body] at hb
  obtain ⟨hc, hr, _⟩ := rec_parts h
  have hn := itoa_range n h0
  have hs := itoa_range (sumB (Lib.itoa n ++ 32 :: (B c ++ 64 :: B r))) (sumB_ok _).1
  simp only [List.mem_append, List.mem_cons] at hb
  rcases hb with ((hb | rfl | hb | rfl | hb) | rfl | hb)
  · have := hn b hb; omega
  · decide
  · exact hc b hb
  · decide
  · exact hr b hb
  · decide
  · have := hs b hb; omega
theorem sealed_no10 {n : Int} {c r : ByteArray} (h0 : 0 ≤ n) (h : recOk c r = true) : (10 : UInt8) ∉ B (sealed (bodyOf n c r)) := fun hm => by
  have := (sealed_range h0 h _ hm).1
  revert this; decide
theorem body_not35 {n : Int} {c r : ByteArray} (h0 : 0 ≤ n) (h1 : n ≤ 59) (h : recOk c r = true) : (35 : UInt8) ∉ B (bodyOf n c r) := fun hm => by
  have := body_no35 h0 h1 h
  rw [List.contains_eq_any_beq, List.any_eq_false] at this
  exact this _ hm (by simp)
/-- A text begins with the n-th record, and t follows. -/
def IsRec (n : Int) (s : List UInt8) (c r : ByteArray) (t : List UInt8) : Prop := recOk c r = true ∧ s = B (lineOf n c r) ++ t
theorem IsRec.line {n : Int} {s : List UInt8} {c r : ByteArray} {t : List UInt8} (h0 : 0 ≤ n) (h : IsRec n s c r t) : cutL 10 s = (B (sealed (bodyOf n c r)), t, true) := by
  rw [h.2, B_line, List.append_assoc]
  exact cutL_hit 10 _ _ (sealed_no10 h0 h.1)
theorem body_cut {n : Int} {c r : ByteArray} (h0 : 0 ≤ n) (h1 : n ≤ 59) (h : recOk c r = true) : cutL 35 (B (sealed (bodyOf n c r))) = (B (bodyOf n c r), Lib.itoa (sumB (B (bodyOf n c r))), true) := by
  rw [B_sealed]
  exact cutL_hit 35 _ _ (body_not35 h0 h1 h)
theorem ask_cut {c r : ByteArray} (h : recOk c r = true) : cutL 64 (B c ++ 64 :: B r) = (B c, B r, true) := cutL_hit 64 _ _ (rec_parts h).2.2
theorem line_inj {n : Int} {c r c' r' : ByteArray} (h0 : 0 ≤ n) (h1 : n ≤ 59) (h : recOk c r = true) (h' : recOk c' r' = true) (e : B (sealed (bodyOf n c r)) = B (sealed (bodyOf n c' r'))) : c = c' ∧ r = r' := by
  have e1 := body_cut h0 h1 h
  have e2 := body_cut h0 h1 h'
  rw [e, e2] at e1
  simp only [Prod.mk.injEq] at e1
  have e3 := e1.1
  rw [B_body, B_body] at e3
  have e4 := List.append_cancel_left e3
  simp only [List.cons.injEq, true_and] at e4
  have e5 := ask_cut h
  rw [← e4, ask_cut h'] at e5
  simp only [Prod.mk.injEq] at e5
  exact ⟨(B_inj e5.1).symm, (B_inj e5.2.1).symm⟩
theorem IsRec.inj {n : Int} {s : List UInt8} {c r c' r' : ByteArray} {t t' : List UInt8} (h0 : 0 ≤ n) (h1 : n ≤ 59) (h : IsRec n s c r t) (h' : IsRec n s c' r' t') : c = c' ∧ r = r' ∧ t = t' := by
  have e1 := h.line h0
  rw [h'.line h0] at e1
  simp only [Prod.mk.injEq] at e1
  obtain ⟨a, b⟩ := line_inj h0 h1 h.1 h'.1 e1.1.symm
  exact ⟨a, b, e1.2.1.symm⟩
-- the checksum of whatever text
def apC (s : ByteArray) : ByteArray × Bool := if s.size ≤ 4000 ∧ (sealed s).size ≤ 4000 then (sealed s, true) else (⟨#[]⟩, false)
theorem implSeal_any (s : ByteArray) (hs : s.size ≤ 1000000000) (hn : (35 : UInt8) ∉ B s) : Ev (fun k => impl_AppendChecksum.f k s) (apC s) := by
  have hb := sumB_ok (B s)
  have hd := dec_size (sumB (B s)) (by omega) (by omega)
  have hn2 : (B s).contains 35 = false := by
    rw [List.contains_eq_any_beq, List.any_eq_false]
    intro x hx e
    have : (35 : UInt8) = x := by simpa using e
    exact hn (this ▸ hx)
  unfold impl_AppendChecksum.f apC
  by_cases h : s.size ≤ 4000
  · refine Ev.bind (implSum_ev s h) ?_
    simp only [if_pos (show s.size + 1 ≤ 9223372036854775807 by omega), implDec _ (show -9223372036854775808 ≤ sumB (B s) by omega) (show sumB (B s) ≤ 9223372036854775807 by omega), Option.bind_some, if_true]
    refine Ev.congr (fun k => ?_) (Ev.now _)
    rw [if_pos (by rw [ByteArray.size_append]; show s.size + 1 + _ ≤ _; omega), contains35, hn2]
    simp only [Option.bind_some, Bool.false_eq_true, if_false]
    rw [show (s ++ (⟨#[35]⟩ : ByteArray)) ++ dec (sumB (B s)) = sealed s from rfl]
    by_cases h2 : (sealed s).size ≤ 4000
    · rw [if_neg (by omega), if_pos ⟨h, h2⟩]
    · rw [if_pos (by omega), if_neg (fun z => h2 z.2)]
  · rw [if_neg (fun z => h z.1)]
    refine Ev.bind (Ev.congr (f := fun _ => some (0, false)) (fun k => by unfold impl_Checksum.f; rw [if_pos (by omega)]) (Ev.now _)) ?_
    have z0 := dec_size 0 (by omega) (by omega)
    simp only [if_pos (show s.size + 1 ≤ 9223372036854775807 by omega), implDec 0 (by omega) (by omega), Option.bind_some]
    refine Ev.congr (fun k => ?_) (Ev.now _)
    rw [if_pos (by rw [ByteArray.size_append]; show s.size + 1 + _ ≤ _; omega)]
    simp
theorem toList_eq (s t : ByteArray) : (s.toList = t.toList) = (s = t) := by
  rw [B_toList, B_toList]; exact propext ⟨B_inj, fun h => by rw [h]⟩
def veri (s : ByteArray) : ByteArray × Bool := if (apC (mk (cutL 35 (B s)).1)).2 = true ∧ (apC (mk (cutL 35 (B s)).1)).1 = s then (mk (cutL 35 (B s)).1, true) else (⟨#[]⟩, false)
theorem cut_size (c : UInt8) (l : List UInt8) : (cutL c l).1.length ≤ l.length ∧ (cutL c l).2.1.length ≤ l.length := by
  by_cases h : (cutL c l).2.2 = true
  · have := congrArg List.length (cutL_found c l h)
    simp at this; omega
  · rw [cutL_lost c l (by simpa using h)]; simp
theorem implVeri_ev (s : ByteArray) (hs : s.size ≤ 1000000000) : Ev (fun k => impl_VerifyChecksum.f k s) (veri s) := by
  have hc := (cut_size 35 (B s)).1
  rw [B_length] at hc
  unfold impl_VerifyChecksum.f veri
  rw [stringsCut_eq s 35 (by omega)]
  simp only [Option.bind_some]
  refine Ev.bind (implSeal_any _ (by rw [mk_size]; omega) (by rw [B_of_mk]; exact cutL_notin 35 _)) ?_
  generalize apC (mk (cutL 35 (B s)).1) = p
  simp only [toList_eq]
  by_cases h : p.2 = true
  · simp only [if_pos h, h, true_and]
    by_cases h2 : p.1 = s
    · simp only [if_pos h2]; exact Ev.now _
    · simp only [if_neg h2]; exact Ev.now _
  · simp only [if_neg h, h, false_and, if_false]; exact Ev.now _
theorem veri_rec {n : Int} {c r : ByteArray} (h0 : 0 ≤ n) (h1 : n ≤ 59) (h : recOk c r = true) : veri (sealed (bodyOf n c r)) = (bodyOf n c r, true) := by
  obtain ⟨s1, s2, s3⟩ := rec_sizes h
  have hd := dec_size n (by omega) (by omega)
  have hb := bodyOf_size n c r
  have hz := (sealed_size (bodyOf n c r)).2
  have ha : apC (bodyOf n c r) = (sealed (bodyOf n c r), true) := by unfold apC; rw [if_pos ⟨by omega, by omega⟩]
  unfold veri
  rw [body_cut h0 h1 h, mk_of_B, ha]
  simp
theorem stringsCutPrefix_eq (s p : ByteArray) (hs : s.size ≤ 9223372036854775807) (hp : p.size ≤ 9223372036854775807) : strings_CutPrefix.f s p = some (if (B p).isPrefixOf (B s) = true then (mk ((B s).drop (B p).length), true) else (s, false)) := by
  have hsl := B_length s
  have hpl := B_length p
  unfold strings_CutPrefix.f stringslite_CutPrefix.f
  have e : stringslite_HasPrefix.f s p = some ((B p).isPrefixOf (B s)) := by
    unfold stringslite_HasPrefix.f
    by_cases h : (s.size : Int) ≥ (p.size : Int)
    · have hx : s.extract 0 (p.size : Int).toNat = mk ((B s).take (B p).length) := B_inj (by rw [B_extract, B_of_mk, hpl]; rfl)
      simp only [if_pos h]
      repeat' (first | rw [if_pos (by omega)])
      rw [hx, B_toList, B_toList, B_of_mk]
      simp only [Option.some.injEq]
      rw [Bool.eq_iff_iff]
      simp only [beq_iff_eq, List.isPrefixOf_iff_prefix]
      constructor
      · intro z; rw [← z]; exact List.take_prefix _ _
      · intro z; exact (List.prefix_iff_eq_take.1 z).symm
    · simp only [if_neg h]
      congr 1
      symm
      rw [Bool.eq_false_iff]
      intro z
      have := (List.isPrefixOf_iff_prefix.1 z).length_le
      omega
  rw [e]
  simp only [Option.bind_some]
  by_cases h : (B p).isPrefixOf (B s) = true
  · have := (List.isPrefixOf_iff_prefix.1 h).length_le
    rw [if_pos h, if_pos h, if_pos (by omega), if_pos (by omega)]
    simp only [Option.bind_some, Option.some.injEq, Prod.mk.injEq, and_true]
    refine B_inj ?_
    rw [B_extract, B_of_mk, hpl, Int.toNat_natCast, List.take_of_length_le (by simp; omega)]
  · rw [if_neg h, if_neg h]; rfl
end Go.Proofs.YtkpieljmhgfofaaDoor.X


namespace Go.Proofs.YtkpieljmhgfofaaDoor.X
open Go.RowKit Go.Proofs.YtkpieljmhgfofaaDoorW.PrintWords Go.Proofs.YtkpieljmhgfofaaDoorL
set_option linter.unusedVariables false
set_option linter.unusedSimpArgs false
theorem exB {α β : Type} {f : Nat → Option α} {g : Nat → α → Option β} {Q : β → Prop} {a : α} (hf : Ev f a) (h : ∃ v, Ev (fun k => g k a) v ∧ Q v) : ∃ v, Ev (fun k => (f k).bind (g k)) v ∧ Q v := by
  obtain ⟨v, hv, q⟩ := h
  exact ⟨v, Ev.bind hf hv, q⟩
theorem exC {β : Type} {f g : Nat → Option β} {Q : β → Prop} (e : ∀ k, g k = f k) (h : ∃ v, Ev f v ∧ Q v) : ∃ v, Ev g v ∧ Q v := by
  obtain ⟨v, hv, q⟩ := h
  exact ⟨v, Ev.congr e hv, q⟩
def ahead (n : Int) : ByteArray := dec n ++ ⟨#[32]⟩
theorem B_ahead (n : Int) : B (ahead n) = Lib.itoa n ++ [32] := by unfold ahead; rw [B_append, B_dec]; rfl
theorem ahead_size (n : Int) : (ahead n).size = (dec n).size + 1 := by unfold ahead; rw [ByteArray.size_append]; rfl
def pre (n : Int) (x : ByteArray) : ByteArray × Bool := if (B (ahead n)).isPrefixOf (B x) = true then (mk ((B x).drop (B (ahead n)).length), true) else (x, false)
theorem body_pre (n : Int) (c r : ByteArray) : (B (ahead n)) <+: B (bodyOf n c r) ∧ (B (bodyOf n c r)).drop (B (ahead n)).length = B c ++ 64 :: B r := by
  have e : B (bodyOf n c r) = B (ahead n) ++ (B c ++ 64 :: B r) := by rw [B_body, B_ahead]; simp
  rw [e]
  exact ⟨List.prefix_append _ _, by simp⟩
theorem pre_rec (n : Int) (c r : ByteArray) : pre n (bodyOf n c r) = (mk (B c ++ 64 :: B r), true) := by
  obtain ⟨h1, h2⟩ := body_pre n c r
  unfold pre
  rw [if_pos (List.isPrefixOf_iff_prefix.2 h1), h2]
theorem pre_size (n : Int) (x : ByteArray) : (pre n x).1.size ≤ x.size := by
  unfold pre
  by_cases h : (B (ahead n)).isPrefixOf (B x) = true
  · rw [if_pos h, mk_size, List.length_drop, B_length]; omega
  · rw [if_neg h]; exact Nat.le_refl _
theorem veri_size (x : ByteArray) : (veri x).1.size ≤ x.size := by
  have := (cut_size 35 (B x)).1
  rw [B_length] at this
  unfold veri
  split
  · rw [mk_size]; exact this
  · exact Nat.zero_le _
/-- What reading a record gives where there is none. -/
def noRec (s : ByteArray) : ByteArray × ByteArray × ByteArray × Bool := (⟨#[]⟩, ⟨#[]⟩, s, false)
theorem implRead_ev (n : Int) (s : ByteArray) (h0 : 0 ≤ n) (h1 : n ≤ 59) (hs : s.size ≤ 1000000000) :
    ∃ v, Ev (fun k => impl_readRecord.f k n s) v ∧ ((v.2.2.2 = true ∧ IsRec n (B s) v.1 v.2.1 (B v.2.2.1)) ∨ (v = noRec s ∧ ∀ c r t, ¬ IsRec n (B s) c r t)) := by
  have hL := cut_size 10 (B s)
  rw [B_length] at hL
  have hd := dec_size n (by omega) (by omega)
  have flags : ∀ c r t, IsRec n (B s) c r t → cutL 10 (B s) = (B (sealed (bodyOf n c r)), t, true) ∧ veri (mk (cutL 10 (B s)).1) = (bodyOf n c r, true) ∧ pre n (veri (mk (cutL 10 (B s)).1)).1 = (mk (B c ++ 64 :: B r), true) ∧
      cutL 64 (B (pre n (veri (mk (cutL 10 (B s)).1)).1).1) = (B c, B r, true) := by
    intro c r t h
    have e1 := h.line h0
    have e2 : veri (mk (cutL 10 (B s)).1) = (bodyOf n c r, true) := by rw [e1, mk_of_B, veri_rec h0 h1 h.1]
    have e3 : pre n (veri (mk (cutL 10 (B s)).1)).1 = (mk (B c ++ 64 :: B r), true) := by rw [e2, pre_rec]
    exact ⟨e1, e2, e3, by rw [e3, B_of_mk, ask_cut h.1]⟩
  unfold impl_readRecord.f
  rw [stringsCut_eq s 10 (by omega)]
  simp only [Option.bind_some]
  have hv := implVeri_ev (mk (cutL 10 (B s)).1) (by rw [mk_size]; omega)
  have hvs := veri_size (mk (cutL 10 (B s)).1)
  rw [mk_size] at hvs
  refine exB hv ?_
  have hps := pre_size n (veri (mk (cutL 10 (B s)).1)).1
  simp only [implDec n (by omega) (by omega), Option.bind_some, if_pos (show (dec n).size + 1 ≤ 9223372036854775807 by omega)]
  rw [show (dec n ++ (⟨#[32]⟩ : ByteArray)) = ahead n from rfl, stringsCutPrefix_eq _ _ (by omega) (by rw [ahead_size]; omega)]
  rw [show (if (B (ahead n)).isPrefixOf (B (veri (mk (cutL 10 (B s)).1)).1) = true then (mk ((B (veri (mk (cutL 10 (B s)).1)).1).drop (B (ahead n)).length), true) else ((veri (mk (cutL 10 (B s)).1)).1, false)) = pre n (veri (mk (cutL 10 (B s)).1)).1 from rfl]
  simp only [Option.bind_some]
  rw [stringsCut_eq _ 64 (by omega)]
  simp only [Option.bind_some]
  have fail : ∀ {g : Nat → Option (ByteArray × ByteArray × ByteArray × Bool)}, (∀ k, g k = some ((⟨#[]⟩ : ByteArray), (⟨#[]⟩ : ByteArray), s, false)) → (∀ c r t, IsRec n (B s) c r t → False) →
      ∃ v, Ev g v ∧ ((v.2.2.2 = true ∧ IsRec n (B s) v.1 v.2.1 (B v.2.2.1)) ∨ (v = noRec s ∧ ∀ c r t, ¬ IsRec n (B s) c r t)) :=
    fun hg hn => ⟨_, ev_eq hg, .inr ⟨rfl, hn⟩⟩
  by_cases f1 : (cutL 10 (B s)).2.2 = true
  · by_cases f2 : (veri (mk (cutL 10 (B s)).1)).2 = true
    · by_cases f3 : (pre n (veri (mk (cutL 10 (B s)).1)).1).2 = true
      · by_cases f4 : (cutL 64 (B (pre n (veri (mk (cutL 10 (B s)).1)).1).1)).2.2 = true
        · simp only [if_pos f1, if_pos f2, if_pos f3, if_pos f4]
          refine exB (implRec_ev _ _) ?_
          by_cases f5 : recOk (mk (cutL 64 (B (pre n (veri (mk (cutL 10 (B s)).1)).1).1)).1) (mk (cutL 64 (B (pre n (veri (mk (cutL 10 (B s)).1)).1).1)).2.1) = true
          · simp only [if_pos f5]
            refine exB (implLine_ev n _ _ h0 h1 f5) ?_
            simp only [toList_eq, if_pos (show (mk (cutL 10 (B s)).1).size + 1 ≤ 9223372036854775807 by rw [mk_size]; omega)]
            by_cases f6 : lineOf n (mk (cutL 64 (B (pre n (veri (mk (cutL 10 (B s)).1)).1).1)).1) (mk (cutL 64 (B (pre n (veri (mk (cutL 10 (B s)).1)).1).1)).2.1) = mk (cutL 10 (B s)).1 ++ ⟨#[10]⟩
            · refine ⟨_, ev_eq (fun k => if_pos f6), .inl ⟨rfl, f5, ?_⟩⟩
              show B s = B (lineOf n _ _) ++ B (mk (cutL 10 (B s)).2.1)
              rw [f6, B_append, B_of_mk, B_of_mk, List.append_assoc]
              exact cutL_found 10 (B s) f1
            · refine fail (fun k => if_neg f6) (fun c r t h => f6 ?_)
              obtain ⟨e1, e2, e3, e4⟩ := flags c r t h
              rw [e4, e1, mk_of_B, mk_of_B, mk_of_B]
              rfl
          · refine fail (fun k => if_neg f5) (fun c r t h => f5 ?_)
            obtain ⟨e1, e2, e3, e4⟩ := flags c r t h
            rw [e4, mk_of_B, mk_of_B]
            exact h.1
        · refine fail (fun k => by rw [if_pos f1, if_pos f2, if_pos f3, if_neg f4]) (fun c r t h => f4 ?_)
          rw [(flags c r t h).2.2.2]
      · refine fail (fun k => by rw [if_pos f1, if_pos f2, if_neg f3]) (fun c r t h => f3 ?_)
        rw [(flags c r t h).2.2.1]
    · refine fail (fun k => by rw [if_pos f1, if_neg f2]) (fun c r t h => f2 ?_)
      rw [(flags c r t h).2.1]
  · refine fail (fun k => by rw [if_neg f1]) (fun c r t h => f1 ?_)
    rw [(flags c r t h).1]
theorem line_of_eq {n : Int} {c r x : ByteArray} (e : lineOf n c r = x ++ ⟨#[10]⟩) : x = sealed (bodyOf n c r) := by
  have := congrArg B e
  rw [B_line, B_append] at this
  exact (B_inj (List.append_cancel_right this)).symm
theorem first_piece (c : UInt8) (s : ByteArray) : 0 < ((pieces c (B s)).map mk).length ∧ rdOf ByteArray.empty ((pieces c (B s)).map mk) 0 = mk (cutL c (B s)).1 := by
  have h := pieces_head c (B s)
  refine ⟨by have := (pieces_length c (B s)).1; simp; omega, ?_⟩
  simp [rdOf, List.getD_eq_getElem?_getD, h]
theorem specRest_ev (n : Int) (x R : ByteArray) (h0 : 0 ≤ n) (h1 : n ≤ 59) (hs : x.size ≤ 1000000000) (hRs : R.size ≤ x.size) (body2 : ∀ c r, recOk c r = true → lineOf n c r = x ++ ⟨#[10]⟩ → R = mk (B c ++ 64 :: B r)) :
    ∃ v, Ev (fun k => (spec_l1Split.f k R 64).bind fun t188 => (if 0 < (t188.length : Int) then (if ((rdOf ByteArray.empty t188 0).size : Int) = (R.size : Int) then (some ((⟨#[]⟩ : ByteArray), (⟨#[]⟩ : ByteArray), false)) else (if 0 ≤ (wrap64 (((rdOf ByteArray.empty t188 0).size : Int) + 1)) then (if (wrap64 (((rdOf ByteArray.empty t188 0).size : Int) + 1)) ≤ (R.size : Int) then ((spec_l27Good.f k (rdOf ByteArray.empty t188 0) (R.extract ((wrap64 (((rdOf ByteArray.empty t188 0).size : Int) + 1)) : Int).toNat R.size)).bind fun t193 => (if t193 = true then ((spec_l27Line.f k n (rdOf ByteArray.empty t188 0) (R.extract ((wrap64 (((rdOf ByteArray.empty t188 0).size : Int) + 1)) : Int).toNat R.size)).bind fun t194 => (if x.size + 1 ≤ 9223372036854775807 then (some (rdOf ByteArray.empty t188 0, R.extract ((wrap64 (((rdOf ByteArray.empty t188 0).size : Int) + 1)) : Int).toNat R.size, (t194.toList == (x ++ (⟨#[10]⟩ : ByteArray)).toList))) else (none))) else (some (rdOf ByteArray.empty t188 0, R.extract ((wrap64 (((rdOf ByteArray.empty t188 0).size : Int) + 1)) : Int).toNat R.size, false)))) else (none)) else (none))) else (none))) v ∧ ((v.2.2 = true ∧ recOk v.1 v.2.1 = true ∧ lineOf n v.1 v.2.1 = x ++ ⟨#[10]⟩) ∨ (v.2.2 = false ∧ ∀ c r, recOk c r = true → lineOf n c r ≠ x ++ ⟨#[10]⟩)) := by
  refine exB (specSplit_ev R 64 (by omega)) ?_
  obtain ⟨q1, q2⟩ := first_piece 64 R
  simp only [q2, if_pos (show (0 : Int) < (((pieces 64 (B R)).map mk).length : Int) by omega)]
  clear q1 q2
  have hRl := B_length R
  have hfd := cutL_found 64 (B R)
  have hlo := cutL_lost 64 (B R)
  have hask : ∀ c r, recOk c r = true → lineOf n c r = x ++ ⟨#[10]⟩ → cutL 64 (B R) = (B c, B r, true) := by
    intro c r h e; rw [body2 c r h e, B_of_mk, ask_cut h]
  clear body2
  obtain ⟨a, b, f, hK⟩ : ∃ a b f, cutL 64 (B R) = (a, b, f) := ⟨_, _, _, rfl⟩
  rw [hK] at hfd hlo hask ⊢
  clear hK
  dsimp only at hfd hlo hask ⊢
  cases f with
  | true =>
    have hf : B R = a ++ 64 :: b := hfd rfl
    clear hfd hlo
    have hl := congrArg List.length hf
    simp only [List.length_append, List.length_cons] at hl
    have w1 : wrap64 ((a.length : Int) + 1) = (a.length : Int) + 1 := wrap_id (by omega) (by omega)
    have hz : R.extract ((a.length : Int) + 1).toNat R.size = mk b := by
      refine B_inj ?_
      rw [B_extract, B_of_mk, List.take_of_length_le (by simp; omega), show ((a.length : Int) + 1).toNat = a.length + 1 by omega]
      rw [hf, List.drop_append, List.drop_of_length_le (by omega)]
      simp
    refine exC (f := fun k => ((spec_l27Good.f k (mk a) (mk b)).bind fun t193 => (if t193 = true then ((spec_l27Line.f k n (mk a) (mk b)).bind fun t194 => (if x.size + 1 ≤ 9223372036854775807 then some (mk a, mk b, (t194.toList == (x ++ (⟨#[10]⟩ : ByteArray)).toList)) else none)) else some (mk a, mk b, false)))) (fun k => by rw [mk_size, if_neg (by omega), w1, if_pos (by omega), if_pos (by omega), hz]) ?_
    refine exB (specRec_ev _ _ (by rw [mk_size]; omega) (by rw [mk_size]; omega)) ?_
    by_cases f4 : recOk (mk a) (mk b) = true
    · simp only [if_pos f4]
      refine exB (specLine_ev n _ _ h0 h1 f4) ?_
      simp only [if_pos (show x.size + 1 ≤ 9223372036854775807 by omega)]
      refine ⟨_, Ev.now _, ?_⟩
      by_cases f5 : lineOf n (mk a) (mk b) = x ++ ⟨#[10]⟩
      · exact .inl ⟨by rw [f5]; simp, f4, f5⟩
      · refine .inr ⟨?_, fun c r h e => f5 ?_⟩
        · rw [← toList_eq] at f5
          exact beq_eq_false_iff_ne.2 f5
        · have := hask c r h e
          simp only [Prod.mk.injEq] at this
          rw [this.1, this.2.1, mk_of_B, mk_of_B, e]
    · refine ⟨_, ev_eq (fun k => if_neg f4), .inr ⟨rfl, fun c r h e => f4 ?_⟩⟩
      have := hask c r h e
      simp only [Prod.mk.injEq] at this
      rw [this.1, this.2.1, mk_of_B, mk_of_B]; exact h
  | false =>
    have hl : a = B R := by have := hlo rfl; simp only [Prod.mk.injEq] at this; exact this.1
    have hm : (mk a).size = R.size := by rw [hl]; exact (mk_size _).trans hRl
    refine ⟨_, ev_eq (fun k => if_pos (by omega)), .inr ⟨rfl, fun c r h e => ?_⟩⟩
    have := hask c r h e
    simp at this
theorem specRead_ev (n : Int) (x : ByteArray) (h0 : 0 ≤ n) (h1 : n ≤ 59) (hs : x.size ≤ 1000000000) :
    ∃ v, Ev (fun k => spec_l27Read.f k x n) v ∧ ((v.2.2 = true ∧ recOk v.1 v.2.1 = true ∧ lineOf n v.1 v.2.1 = x ++ ⟨#[10]⟩) ∨ (v.2.2 = false ∧ ∀ c r, recOk c r = true → lineOf n c r ≠ x ++ ⟨#[10]⟩)) := by
  have hd := dec_size n (by omega) (by omega)
  have hT := (cut_size 35 (B x)).1
  rw [B_length] at hT
  have fail : ∀ {g : Nat → Option (ByteArray × ByteArray × Bool)} {a b : ByteArray}, (∀ k, g k = some (a, b, false)) → (∀ c r, recOk c r = true → lineOf n c r = x ++ ⟨#[10]⟩ → False) →
      ∃ v, Ev g v ∧ ((v.2.2 = true ∧ recOk v.1 v.2.1 = true ∧ lineOf n v.1 v.2.1 = x ++ ⟨#[10]⟩) ∨ (v.2.2 = false ∧ ∀ c r, recOk c r = true → lineOf n c r ≠ x ++ ⟨#[10]⟩)) :=
    fun hg hn => ⟨_, ev_eq hg, .inr ⟨rfl, hn⟩⟩
  have body : ∀ c r, recOk c r = true → lineOf n c r = x ++ ⟨#[10]⟩ → mk (cutL 35 (B x)).1 = bodyOf n c r := by
    intro c r h e
    rw [line_of_eq e, body_cut h0 h1 h, mk_of_B]
  unfold spec_l27Read.f
  refine exB (specNum_ev n (by omega) (by omega)) ?_
  simp only [if_pos (show (dec n).size + 1 ≤ 9223372036854775807 by omega)]
  refine exB (specSplit_ev x 35 hs) ?_
  obtain ⟨p1, p2⟩ := first_piece 35 x
  simp only [p2, if_pos (show (0 : Int) < (((pieces 35 (B x)).map mk).length : Int) by omega)]
  rw [show (dec n ++ (⟨#[32]⟩ : ByteArray)) = ahead n from rfl]
  have hTs : (mk (cutL 35 (B x)).1).size ≤ x.size := by rw [mk_size]; exact hT
  have hTb : (B (mk (cutL 35 (B x)).1)).length = (mk (cutL 35 (B x)).1).size := B_length _
  generalize mk (cutL 35 (B x)).1 = T at hTs hTb body ⊢
  have has := B_length (ahead n)
  have tf : ∀ {g : Nat → Option (ByteArray × ByteArray × Bool)}, (∀ k, g k = spec_l27Read.j0 k x n (ahead n) T true) → ∃ k0, ∀ k, k0 ≤ k → g k = some ((⟨#[]⟩ : ByteArray), (⟨#[]⟩ : ByteArray), false) := by
    intro g hg
    refine ⟨1, fun k hk => ?_⟩
    obtain ⟨k, rfl⟩ : ∃ m, k = m + 1 := ⟨k - 1, by omega⟩
    rw [hg]; simp only [spec_l27Read.j0]; exact if_pos trivial
  by_cases f1 : (T.size : Int) < ((ahead n).size : Int)
  · simp only [if_pos f1]
    refine ⟨_, tf (fun k => rfl), .inr ⟨rfl, fun c r h e => ?_⟩⟩
    have := (body_pre n c r).1.length_le
    rw [body c r h e] at f1
    rw [B_length, B_length] at this
    omega
  · simp only [if_neg f1, if_pos (show (0 : Int) ≤ ((ahead n).size : Int) by omega), if_pos (show ((ahead n).size : Int) ≤ (T.size : Int) by omega)]
    have hx : T.extract 0 (((ahead n).size : Int) : Int).toNat = mk ((B T).take (B (ahead n)).length) := B_inj (by rw [B_extract, B_of_mk, has]; rfl)
    have hy : T.extract (((ahead n).size : Int) : Int).toNat T.size = mk ((B T).drop (B (ahead n)).length) := B_inj (by rw [B_extract, B_of_mk, has, Int.toNat_natCast, List.take_of_length_le (by simp; omega)])
    rw [hx]
    have ht : ((mk ((B T).take (B (ahead n)).length)).toList != (ahead n).toList) = !(B (ahead n)).isPrefixOf (B T) := by
      rw [B_toList, B_toList, B_of_mk]
      simp only [bne, Bool.not_inj_iff]
      rw [Bool.eq_iff_iff]
      simp only [beq_iff_eq, List.isPrefixOf_iff_prefix]
      constructor
      · intro z; rw [← z]; exact List.take_prefix _ _
      · intro z; exact (List.prefix_iff_eq_take.1 z).symm
    rw [ht]
    by_cases f2 : (B (ahead n)).isPrefixOf (B T) = true
    · simp only [f2, Bool.not_true]
      have hRs : (mk ((B T).drop (B (ahead n)).length)).size ≤ x.size := by rw [mk_size, List.length_drop]; omega
      have body2 : ∀ c r, recOk c r = true → lineOf n c r = x ++ ⟨#[10]⟩ → mk ((B T).drop (B (ahead n)).length) = mk (B c ++ 64 :: B r) := by
        intro c r h e; rw [body c r h e, (body_pre n c r).2]
      suffices h : ∃ v, Ev (fun k => (spec_l1Split.f k (mk ((B T).drop (B (ahead n)).length)) 64).bind fun t188 => (if 0 < (t188.length : Int) then (if ((rdOf ByteArray.empty t188 0).size : Int) = ((mk ((B T).drop (B (ahead n)).length)).size : Int) then (some ((⟨#[]⟩ : ByteArray), (⟨#[]⟩ : ByteArray), false)) else (if 0 ≤ (wrap64 (((rdOf ByteArray.empty t188 0).size : Int) + 1)) then (if (wrap64 (((rdOf ByteArray.empty t188 0).size : Int) + 1)) ≤ ((mk ((B T).drop (B (ahead n)).length)).size : Int) then ((spec_l27Good.f k (rdOf ByteArray.empty t188 0) ((mk ((B T).drop (B (ahead n)).length)).extract ((wrap64 (((rdOf ByteArray.empty t188 0).size : Int) + 1)) : Int).toNat (mk ((B T).drop (B (ahead n)).length)).size)).bind fun t193 => (if t193 = true then ((spec_l27Line.f k n (rdOf ByteArray.empty t188 0) ((mk ((B T).drop (B (ahead n)).length)).extract ((wrap64 (((rdOf ByteArray.empty t188 0).size : Int) + 1)) : Int).toNat (mk ((B T).drop (B (ahead n)).length)).size)).bind fun t194 => (if x.size + 1 ≤ 9223372036854775807 then (some (rdOf ByteArray.empty t188 0, (mk ((B T).drop (B (ahead n)).length)).extract ((wrap64 (((rdOf ByteArray.empty t188 0).size : Int) + 1)) : Int).toNat (mk ((B T).drop (B (ahead n)).length)).size, (t194.toList == (x ++ (⟨#[10]⟩ : ByteArray)).toList))) else (none))) else (some (rdOf ByteArray.empty t188 0, (mk ((B T).drop (B (ahead n)).length)).extract ((wrap64 (((rdOf ByteArray.empty t188 0).size : Int) + 1)) : Int).toNat (mk ((B T).drop (B (ahead n)).length)).size, false)))) else (none)) else (none))) else (none))) v ∧ ((v.2.2 = true ∧ recOk v.1 v.2.1 = true ∧ lineOf n v.1 v.2.1 = x ++ ⟨#[10]⟩) ∨ (v.2.2 = false ∧ ∀ c r, recOk c r = true → lineOf n c r ≠ x ++ ⟨#[10]⟩)) by
        obtain ⟨v, hv, hq⟩ := h
        refine ⟨v, Ev.step (fun k => ?_) hv, hq⟩
        simp only [spec_l27Read.j0]
        rw [if_neg (by decide), if_pos (by omega), if_pos (by omega), hy]
      exact specRest_ev n x (mk ((B T).drop (B (ahead n)).length)) h0 h1 hs hRs body2
    · simp only [f2, Bool.not_false]
      refine ⟨_, tf (fun k => rfl), .inr ⟨rfl, fun c r h e => f2 ?_⟩⟩
      rw [body c r h e]
      exact List.isPrefixOf_iff_prefix.2 (body_pre n c r).1
end Go.Proofs.YtkpieljmhgfofaaDoor.X


namespace Go.Proofs.YtkpieljmhgfofaaDoor.X
open Go.RowKit Go.Proofs.YtkpieljmhgfofaaDoorW.PrintWords Go.Proofs.YtkpieljmhgfofaaDoorL
set_option linter.unusedVariables false
set_option linter.unusedSimpArgs false
abbrev RecT := S27
open Classical in
noncomputable def recAt (n : Int) (s : List UInt8) : Option (ByteArray × ByteArray × List UInt8) :=
  if h : ∃ p : ByteArray × ByteArray × List UInt8, IsRec n s p.1 p.2.1 p.2.2 then some h.choose else none
theorem recAt_some {n : Int} {s : List UInt8} {c r : ByteArray} {t : List UInt8} (h0 : 0 ≤ n) (h1 : n ≤ 59) (h : IsRec n s c r t) : recAt n s = some (c, r, t) := by
  have hx : ∃ p : ByteArray × ByteArray × List UInt8, IsRec n s p.1 p.2.1 p.2.2 := ⟨(c, r, t), h⟩
  unfold recAt
  rw [dif_pos hx]
  obtain ⟨a, b, d⟩ := IsRec.inj h0 h1 hx.choose_spec h
  rw [← a, ← b, ← d]
theorem recAt_none {n : Int} {s : List UInt8} (h : ∀ c r t, ¬ IsRec n s c r t) : recAt n s = none := by
  unfold recAt
  rw [dif_neg (fun z => by obtain ⟨p, hp⟩ := z; exact h _ _ _ hp)]
theorem recAt_is {n : Int} {s : List UInt8} {p : ByteArray × ByteArray × List UInt8} (h : recAt n s = some p) : IsRec n s p.1 p.2.1 p.2.2 := by
  unfold recAt at h
  split at h
  · rename_i hx
    simp only [Option.some.injEq] at h
    rw [← h]; exact hx.choose_spec
  · cases h
theorem line_pos (n : Int) (c r : ByteArray) : 1 ≤ (B (lineOf n c r)).length := by rw [B_line]; simp
theorem IsRec.lt {n : Int} {s : List UInt8} {c r : ByteArray} {t : List UInt8} (h : IsRec n s c r t) : t.length < s.length := by
  have := line_pos n c r
  rw [h.2, List.length_append]; omega
theorem recAt_nil (n : Int) : recAt n [] = none := recAt_none (fun c r t h => by have := h.lt; simp at this)
/-- The records from the n-th on, d at most, and what is left. -/
noncomputable def reads : Nat → Nat → List UInt8 → List RecT × List UInt8
  | 0, _, s => ([], s)
  | d + 1, n, s => match recAt (n : Int) s with
    | none => ([], s)
    | some p => ((⟨p.1, p.2.1⟩ : RecT) :: (reads d (n + 1) p.2.2).1, (reads d (n + 1) p.2.2).2)
noncomputable def endsOf (L : Nat) : Nat → Nat → List UInt8 → List Int
  | 0, _, _ => []
  | d + 1, n, s => match recAt (n : Int) s with
    | none => []
    | some p => ((L : Int) - (p.2.2.length : Int)) :: endsOf L d (n + 1) p.2.2
theorem reads_none {d n : Nat} {s : List UInt8} (h : recAt (n : Int) s = none) : reads d n s = ([], s) := by
  cases d with
  | zero => rfl
  | succ d => unfold reads; rw [h]
theorem reads_some {d n : Nat} {s : List UInt8} {p : ByteArray × ByteArray × List UInt8} (h : recAt (n : Int) s = some p) : reads (d + 1) n s = ((⟨p.1, p.2.1⟩ : RecT) :: (reads d (n + 1) p.2.2).1, (reads d (n + 1) p.2.2).2) := by
  conv => lhs; unfold reads
  rw [h]
theorem endsOf_none {L d n : Nat} {s : List UInt8} (h : recAt (n : Int) s = none) : endsOf L d n s = [] := by
  cases d with
  | zero => rfl
  | succ d => unfold endsOf; rw [h]
theorem endsOf_some {L d n : Nat} {s : List UInt8} {p : ByteArray × ByteArray × List UInt8} (h : recAt (n : Int) s = some p) : endsOf L (d + 1) n s = ((L : Int) - (p.2.2.length : Int)) :: endsOf L d (n + 1) p.2.2 := by
  conv => lhs; unfold endsOf
  rw [h]
theorem reads_bound : ∀ (d n : Nat) (s : List UInt8), (reads d n s).1.length ≤ d ∧ (reads d n s).2.length ≤ s.length
  | 0, n, s => by simp [reads]
  | d + 1, n, s => by
    cases h : recAt (n : Int) s with
    | none => rw [reads_none h]; simp
    | some p =>
      have ih := reads_bound d (n + 1) p.2.2
      have := (recAt_is h).lt
      rw [reads_some h]; simp; omega
theorem implReads_ev (s : ByteArray) (hs : s.size ≤ 1000000000) : Ev (fun k => impl_readRecords.f k s) ((reads 60 0 (B s)).1, 0 :: endsOf s.size 60 0 (B s), (s.size : Int) - ((reads 60 0 (B s)).2.length : Int)) := by
  have key : ∀ (d n : Nat) (xs : List RecT) (S : List Int) (t : ByteArray), n + d = 60 → xs.length = n → t.size ≤ s.size →
      Ev (fun k => impl_readRecords.l0 k s xs S t) (xs ++ (reads d n (B t)).1, S ++ endsOf s.size d n (B t), (s.size : Int) - ((reads d n (B t)).2.length : Int)) := by
    intro d
    induction d with
    | zero =>
      intro n xs S t hn hx ht
      refine Ev.step (f := fun _ => some _) (fun k => ?_) (Ev.now _)
      simp only [impl_readRecords.l0]
      rw [if_neg (by omega), wrap_id (by omega) (by omega)]
      simp [reads, endsOf, B_length]
    | succ d ih =>
      intro n xs S t hn hx ht
      obtain ⟨v, hv, hq⟩ := implRead_ev (n : Int) t (by omega) (by omega) (by omega)
      refine Ev.step (f := fun k => (impl_readRecord.f k (n : Int) t).bind fun b => if b.2.2.2 = true then impl_readRecords.l0 k s (xs ++ [(⟨b.1, b.2.1⟩ : RecT)]) (S ++ [wrap64 ((s.size : Int) - (b.2.2.1.size : Int))]) b.2.2.1 else some (xs, S, wrap64 ((s.size : Int) - (t.size : Int)))) (fun k => ?_) (Ev.bind hv ?_)
      · simp only [impl_readRecords.l0]
        rw [if_pos (by omega), hx]
      · rcases hq with ⟨f, hr⟩ | ⟨rfl, hno⟩
        · have hsz : v.2.2.1.size ≤ s.size := by have := hr.lt; rw [B_length, B_length] at this; omega
          rw [reads_some (recAt_some (by omega) (by omega) hr), endsOf_some (recAt_some (by omega) (by omega) hr)]
          simp only [if_pos f, wrap_id (x := (s.size : Int) - (v.2.2.1.size : Int)) (by omega) (by omega)]
          have i1 := ih (n + 1) (xs ++ [(⟨v.1, v.2.1⟩ : RecT)]) (S ++ [(s.size : Int) - (v.2.2.1.size : Int)]) v.2.2.1 (by omega) (by simp; omega) hsz
          rw [List.append_assoc, List.append_assoc] at i1
          rw [B_length]
          exact i1
        · rw [reads_none (recAt_none hno), endsOf_none (recAt_none hno), B_length]
          refine ev_eq (fun k => ?_)
          show (if false = true then _ else some (xs, S, wrap64 ((s.size : Int) - (t.size : Int)))) = _
          rw [if_neg (by decide), wrap_id (by omega) (by omega)]
          simp
  have := key 60 0 [] [0] s (by omega) rfl (Nat.le_refl _)
  exact Ev.congr (f := fun k => impl_readRecords.l0 k s [] [0] s) (fun k => rfl) (by simpa using this)
theorem specOpen_ev (s : ByteArray) (hs : s.size ≤ 1000000000) : Ev (fun k => spec_l27Open.f k s) ((reads 60 0 (B s)).1, (s.size : Int) - ((reads 60 0 (B s)).2.length : Int)) := by
  have hBs := B_length s
  have key : ∀ (d n at_ : Nat) (xs : List RecT), n + d = 60 → xs.length = n → at_ ≤ s.size →
      Ev (fun k => spec_l27Open.l0 k s xs (at_ : Int)) (xs ++ (reads d n ((B s).drop at_)).1, (s.size : Int) - ((reads d n ((B s).drop at_)).2.length : Int)) := by
    intro d
    induction d with
    | zero =>
      intro n at_ xs hn hx ha
      have fin : ∀ b, b = false → Ev (fun k => spec_l27Open.j1 k s xs (at_ : Int) b) (xs ++ (reads 0 n ((B s).drop at_)).1, (s.size : Int) - ((reads 0 n ((B s).drop at_)).2.length : Int)) := by
        rintro b rfl
        refine Ev.step (f := fun _ => some _) (fun k => ?_) (Ev.now _)
        simp only [spec_l27Open.j1]
        rw [if_neg (by decide)]
        simp [reads]; omega
      by_cases h : (at_ : Int) < (s.size : Int)
      · refine Ev.step (f := fun k => spec_l27Open.j1 k s xs (at_ : Int) (decide ((xs.length : Int) < 60))) (fun k => ?_) (fin _ (decide_eq_false (by omega)))
        simp only [spec_l27Open.l0]; rw [if_pos h]
      · refine Ev.step (f := fun k => spec_l27Open.j1 k s xs (at_ : Int) false) (fun k => ?_) (fin _ rfl)
        simp only [spec_l27Open.l0]; rw [if_neg h]
    | succ d ih =>
      intro n at_ xs hn hx ha
      by_cases h : (at_ : Int) < (s.size : Int)
      · have hrest : s.extract (at_ : Int).toNat s.size = mk ((B s).drop at_) := B_inj (by rw [B_extract, B_of_mk, Int.toNat_natCast, List.take_of_length_le (by simp; omega)])
        have hrl : ((B s).drop at_).length = s.size - at_ := by rw [List.length_drop, hBs]
        have hrs : (mk ((B s).drop at_)).size = s.size - at_ := by rw [mk_size, hrl]
        refine Ev.step (f := fun k => spec_l27Open.j1 k s xs (at_ : Int) true) (fun k => ?_) ?_
        · simp only [spec_l27Open.l0]; rw [if_pos h, decide_eq_true (by omega)]
        obtain ⟨q1, q2⟩ := first_piece 10 (mk ((B s).drop at_))
        have q3 := pieces_two 10 ((B s).drop at_)
        have hcs := (cut_size 10 ((B s).drop at_)).1
        rw [B_of_mk] at q2
        obtain ⟨v, hv, hq⟩ := specRead_ev (n : Int) (mk (cutL 10 ((B s).drop at_)).1) (by omega) (by omega) (by rw [mk_size]; omega)
        refine Ev.step (f := fun k => (spec_l1Split.f k (mk ((B s).drop at_)) 10).bind fun t198 => if 0 < (t198.length : Int) then ((spec_l27Read.f k (rdOf ByteArray.empty t198 0) (xs.length : Int)).bind fun bt202 => (if (t198.length : Int) < 2 then (some (xs, (at_ : Int))) else (if bt202.2.2 = true then (if xs.length < 4398046511104 then (spec_l27Open.l0 k s (xs ++ [(⟨bt202.1, bt202.2.1⟩ : RecT)]) (wrap64 ((wrap64 ((at_ : Int) + ((rdOf ByteArray.empty t198 0).size : Int))) + 1))) else none) else (some (xs, (at_ : Int)))))) else none) (fun k => ?_) (Ev.bind (specSplit_ev (mk ((B s).drop at_)) 10 (by omega)) ?_)
        · simp only [spec_l27Open.j1]
          rw [if_pos trivial, if_pos (by omega), if_pos (by omega), hrest]
        · simp only [B_of_mk, q2, List.length_map, hx]
          refine Ev.congr (f := fun k => (spec_l27Read.f k (mk (cutL 10 ((B s).drop at_)).1) (n : Int)).bind fun bt202 => (if ((pieces 10 ((B s).drop at_)).length : Int) < 2 then (some (xs, (at_ : Int))) else (if bt202.2.2 = true then (if xs.length < 4398046511104 then (spec_l27Open.l0 k s (xs ++ [(⟨bt202.1, bt202.2.1⟩ : RecT)]) (wrap64 ((wrap64 ((at_ : Int) + ((mk (cutL 10 ((B s).drop at_)).1).size : Int))) + 1))) else none) else (some (xs, (at_ : Int)))))) (fun k => by rw [if_pos (by have := (pieces_length 10 ((B s).drop at_)).1; omega)]; try simp only [hx]) (Ev.bind hv ?_)
          rw [mk_size]
          have hfd := cutL_found 10 ((B s).drop at_)
          have hln : ∀ c r t, 0 ≤ (n : Int) → IsRec (n : Int) ((B s).drop at_) c r t → cutL 10 ((B s).drop at_) = (B (sealed (bodyOf n c r)), t, true) := fun c r t h0 h => h.line h0
          have stop : (∀ c r t, ¬ IsRec (n : Int) ((B s).drop at_) c r t) → ((xs ++ (reads (d + 1) n ((B s).drop at_)).1, (s.size : Int) - ((reads (d + 1) n ((B s).drop at_)).2.length : Int)) : List RecT × Int) = (xs, (at_ : Int)) := by
            intro hno
            rw [reads_none (recAt_none hno)]
            simp only [List.append_nil, Prod.mk.injEq, true_and]; omega
          have hdd : ∀ m, ((B s).drop at_).drop m = (B s).drop (at_ + m) := fun m => by rw [List.drop_drop]
          have step := fun (v1 v2 : ByteArray) (t : List UInt8) (hr : IsRec (n : Int) ((B s).drop at_) v1 v2 t) => reads_some (d := d) (recAt_some (n := (n : Int)) (by omega) (by omega) hr)
          generalize (B s).drop at_ = R at *
          obtain ⟨a, b, f, hK⟩ : ∃ a b f, cutL 10 R = (a, b, f) := ⟨_, _, _, rfl⟩
          rw [hK] at hfd hcs q3 hq hln ⊢
          dsimp only at hfd hcs q3 hq hln ⊢
          clear hK hv
          cases f with
          | true =>
            have hR : R = a ++ 10 :: b := hfd rfl
            have hl := congrArg List.length hR
            simp only [List.length_append, List.length_cons] at hl
            have h2 : 2 ≤ (pieces 10 R).length := q3 ▸ rfl
            rcases hq with ⟨f, hg, hr⟩ | ⟨f, hno⟩
            · have hrec : IsRec (n : Int) R v.1 v.2.1 b := ⟨hg, by rw [hr, B_append, B_of_mk, hR, List.append_assoc]; rfl⟩
              rw [step _ _ _ hrec]
              have hb : b = (B s).drop (at_ + a.length + 1) := by
                have := hdd (a.length + 1)
                rw [← Nat.add_assoc] at this
                rw [← this, hR, List.drop_append, List.drop_of_length_le (by omega)]
                simp
              have i1 := ih (n + 1) (at_ + a.length + 1) (xs ++ [(⟨v.1, v.2.1⟩ : RecT)]) (by omega) (by simp; omega) (by omega)
              rw [← hb, List.append_assoc] at i1
              refine Ev.congr (fun k => ?_) i1
              rw [if_neg (by omega), if_pos f, if_pos (by omega), wrap_id (x := (at_ : Int) + (a.length : Int)) (by omega) (by omega), wrap_id (x := (at_ : Int) + (a.length : Int) + 1) (by omega) (by omega)]
              rfl
            · rw [stop (fun c r t h => hno c r h.1 (by
                have e := hln c r t (by omega) h
                simp only [Prod.mk.injEq] at e
                refine B_inj ?_
                rw [B_line, B_append, B_of_mk, e.1]; rfl))]
              exact ev_eq (fun k => by rw [if_neg (by omega), if_neg (by rw [f]; decide)])
          | false =>
            have h2 : ¬ 2 ≤ (pieces 10 R).length := fun z => by rw [q3] at z; cases z
            rw [stop (fun c r t h => by have e := hln c r t (by omega) h; simp at e)]
            exact ev_eq (fun k => by rw [if_pos (by omega)])
      · obtain rfl : at_ = s.size := by omega
        have e : (B s).drop s.size = [] := List.drop_of_length_le (by omega)
        rw [e, reads_none (recAt_nil _)]
        refine Ev.step (f := fun k => spec_l27Open.j1 k s xs (s.size : Int) false) (fun k => ?_) (Ev.step (f := fun _ => some _) (fun k => ?_) (Ev.now _))
        · simp only [spec_l27Open.l0]; rw [if_neg h]
        · simp only [spec_l27Open.j1]; rw [if_neg (by decide)]; simp
  have := key 60 0 0 [] (by omega) rfl (Nat.zero_le _)
  exact Ev.congr (f := fun k => spec_l27Open.l0 k s [] 0) (fun k => rfl) (by simpa using this)
end Go.Proofs.YtkpieljmhgfofaaDoor.X


namespace Go.Proofs.YtkpieljmhgfofaaDoor.X
open Go.RowKit Go.Proofs.YtkpieljmhgfofaaDoorW.PrintWords Go.Proofs.YtkpieljmhgfofaaDoorL
set_option linter.unusedVariables false
set_option linter.unusedSimpArgs false
theorem line_size {n : Int} {c r : ByteArray} (h0 : 0 ≤ n) (h1 : n ≤ 59) (h : recOk c r = true) : (B (lineOf n c r)).length ≤ 406 := by
  obtain ⟨s1, s2, s3⟩ := rec_sizes h
  have hd := dec_size n (by omega) (by omega)
  have hb := bodyOf_size n c r
  have hz := (sealed_size (bodyOf n c r)).2
  rw [B_line, List.length_append, B_length]
  simp; omega
theorem reads_size : ∀ (d n : Nat) (s : List UInt8), n + d ≤ 60 → s.length ≤ (reads d n s).2.length + 406 * d
  | 0, n, s, _ => by simp [reads]
  | d + 1, n, s, hn => by
    cases h : recAt (n : Int) s with
    | none => rw [reads_none h]; simp
    | some p =>
      have ih := reads_size d (n + 1) p.2.2 (by omega)
      have hr := recAt_is h
      have := line_size (n := (n : Int)) (by omega) (by omega) hr.1
      have e := congrArg List.length hr.2
      rw [List.length_append] at e
      rw [reads_some h]; simp only; omega
theorem endsOf_ge : ∀ (d n L : Nat) (s : List UInt8), s.length ≤ L → ∀ e ∈ endsOf L d n s, (L : Int) - (s.length : Int) + 1 ≤ e
  | 0, n, L, s, _ => by simp [endsOf]
  | d + 1, n, L, s, hL => by
    intro e he
    cases h : recAt (n : Int) s with
    | none => rw [endsOf_none h] at he; cases he
    | some p =>
      have hlt := (recAt_is h).lt
      rw [endsOf_some h] at he
      rcases List.mem_cons.1 he with rfl | he
      · omega
      · have := endsOf_ge d (n + 1) L p.2.2 (by omega) e he
        omega
/-- That what was read came by the place behind D says that D alone can be read to its end. -/
theorem mem_ends : ∀ (d n L : Nat) (D P : List UInt8), n + d ≤ 60 → (D ++ P).length ≤ L → ((((L : Int) - ((D ++ P).length : Int) + (D.length : Int)) ∈ endsOf L d n (D ++ P) ∨ D = []) ↔ (reads d n D).2 = [])
  | 0, n, L, D, P, _, _ => by simp [endsOf, reads]
  | d + 1, n, L, D, P, hn, hL => by
    by_cases hD : D = []
    · subst hD
      rw [reads_none (recAt_nil _)]
      simp
    cases h : recAt (n : Int) (D ++ P) with
    | none =>
      have hno : recAt (n : Int) D = none := by
        cases h2 : recAt (n : Int) D with
        | none => rfl
        | some q =>
          have hq := recAt_is h2
          have : IsRec (n : Int) (D ++ P) q.1 q.2.1 (q.2.2 ++ P) := ⟨hq.1, by rw [← List.append_assoc, ← hq.2]⟩
          rw [recAt_some (by omega) (by omega) this] at h
          cases h
      rw [endsOf_none h, reads_none hno]
      simp [hD]
    | some p =>
      have hp := recAt_is h
      have hlen := congrArg List.length hp.2
      rw [List.length_append, List.length_append] at hlen
      rw [endsOf_some h]
      by_cases hc : (B (lineOf (n : Int) p.1 p.2.1)).length ≤ D.length
      · obtain ⟨D', hD'⟩ : ∃ D', D = B (lineOf (n : Int) p.1 p.2.1) ++ D' := by
          have : B (lineOf (n : Int) p.1 p.2.1) <+: D ++ P := ⟨p.2.2, hp.2.symm⟩
          obtain ⟨t, ht⟩ := List.prefix_of_prefix_length_le this (List.prefix_append D P) hc
          exact ⟨t, ht.symm⟩
        have ht : p.2.2 = D' ++ P := by
          have := hp.2
          rw [hD', List.append_assoc] at this
          exact (List.append_cancel_left this).symm
        have hr : IsRec (n : Int) D p.1 p.2.1 D' := ⟨hp.1, hD'⟩
        rw [reads_some (recAt_some (by omega) (by omega) hr)]
        have hdl := congrArg List.length hD'
        rw [List.length_append] at hdl
        rw [List.length_append] at hL
        have ih := mem_ends d (n + 1) L D' P (by omega) (by rw [List.length_append]; omega)
        simp only
        rw [← ih, ht, List.mem_cons]
        simp only [List.length_append, hD, or_false]
        have e1 : (L : Int) - ((D.length + P.length : Nat) : Int) + (D.length : Int) = (L : Int) - ((D'.length + P.length : Nat) : Int) + (D'.length : Int) := by omega
        rw [e1]
        constructor
        · rintro (a | a)
          · exact .inr (List.length_eq_zero_iff.1 (by omega))
          · exact .inl a
        · rintro (a | a)
          · exact .inr a
          · left; rw [a]; simp
      · have hno : recAt (n : Int) D = none := by
          cases h2 : recAt (n : Int) D with
          | none => rfl
          | some q =>
            exfalso
            have hq := recAt_is h2
            have hl := hq.2
            rw [B_line, List.append_assoc] at hl
            have h10 : (10 : UInt8) ∈ D := by rw [hl]; simp
            have hpre : D <+: B (sealed (bodyOf (n : Int) p.1 p.2.1)) := by
              have a1 : D <+: D ++ P := List.prefix_append D P
              have a2 : B (sealed (bodyOf (n : Int) p.1 p.2.1)) <+: D ++ P := by rw [hp.2, B_line, List.append_assoc]; exact List.prefix_append _ _
              refine List.prefix_of_prefix_length_le a1 a2 ?_
              rw [B_line, List.length_append] at hc
              simp at hc; omega
            exact sealed_no10 (by omega) hp.1 (hpre.subset h10)
        rw [reads_none hno]
        simp only [hD, or_false, iff_false]
        intro hm
        rw [List.length_append] at hm
        rw [List.length_append] at hL
        rcases List.mem_cons.1 hm with e | e
        · omega
        · have := endsOf_ge d (n + 1) L p.2.2 (by omega) _ e
          omega
noncomputable def allOf (D P : ByteArray) : List RecT := (reads 60 0 (B D ++ B P)).1
noncomputable def logOk (D P : ByteArray) (c : Int) : Bool := decide ((reads 60 0 (B D ++ B P)).2 = []) && decide ((reads 60 0 (B D)).2 = []) && decide (((allOf D P).length : Int) = c)
theorem logOk_size {D P : ByteArray} {c : Int} (h : logOk D P c = true) : D.size + P.size ≤ 24360 := by
  unfold logOk at h
  simp only [Bool.and_eq_true, decide_eq_true_eq] at h
  have := reads_size 60 0 (B D ++ B P) (by omega)
  rw [h.1.1, List.length_append, B_length, B_length] at this
  simp at this; omega
theorem left_nil (l : List UInt8) (n : Nat) (hl : l.length ≤ n) : (((n : Int) - (l.length : Int)) = (n : Int)) = (l = []) := by
  apply propext
  constructor
  · intro h; exact List.length_eq_zero_iff.1 (by omega)
  · rintro rfl; simp
theorem specLog_ev (D P : ByteArray) (c : Int) (hD : D.size ≤ 1048576) (hP : P.size ≤ 1048576) : Ev (fun k => spec_l27Log.f k D P c) (logOk D P c) := by
  unfold spec_l27Log.f
  rw [wrap_id (x := (D.size : Int) + (P.size : Int)) (by omega) (by omega)]
  by_cases h : (D.size : Int) + (P.size : Int) > 30000
  · have : logOk D P c = false := by
      rw [Bool.eq_false_iff]; intro z; have := logOk_size z; omega
    rw [this]; exact ev_eq (fun k => if_pos h)
  · simp only [if_neg h, if_pos (show D.size + P.size ≤ 9223372036854775807 by omega)]
    have hs : (D ++ P).size = D.size + P.size := ByteArray.size_append
    refine Ev.bind (specOpen_ev (D ++ P) (by omega)) (Ev.bind (specOpen_ev D (by omega)) (ev_eq (fun k => ?_)))
    rw [B_append, hs]
    have b1 := (reads_bound 60 0 (B D ++ B P)).2
    rw [List.length_append, B_length, B_length] at b1
    have b2 := (reads_bound 60 0 (B D)).2
    rw [B_length] at b2
    have e1 := left_nil (reads 60 0 (B D ++ B P)).2 (D.size + P.size) b1
    rw [Int.natCast_add] at e1
    have e2 := left_nil (reads 60 0 (B D)).2 D.size b2
    simp only [Int.natCast_add, e1, e2]
    unfold logOk allOf
    by_cases g1 : (reads 60 0 (B D ++ B P)).2 = []
    · by_cases g2 : (reads 60 0 (B D)).2 = []
      · rw [if_pos g1, if_pos g2, decide_eq_true g1, decide_eq_true g2]
        simp only [Bool.true_and, Option.some.injEq]
        rw [Bool.eq_iff_iff]; simp
      · rw [if_pos g1, if_neg g2, decide_eq_true g1, decide_eq_false g2]; rfl
    · rw [if_neg g1, decide_eq_false g1]; rfl
theorem implRecs_ev (D P : ByteArray) (c : Int) (hD : D.size ≤ 1048576) (hP : P.size ≤ 1048576) : Ev (fun k => impl_recordsOf.f k D P c) (allOf D P, logOk D P c) := by
  unfold impl_recordsOf.f
  have hs : (D ++ P).size = D.size + P.size := ByteArray.size_append
  simp only [if_pos (show D.size + P.size ≤ 9223372036854775807 by omega)]
  refine Ev.bind (implReads_ev (D ++ P) (by omega)) (ev_eq (fun k => ?_))
  rw [B_append, hs]
  have b1 := (reads_bound 60 0 (B D ++ B P)).2
  rw [List.length_append, B_length, B_length] at b1
  have e1 := left_nil (reads 60 0 (B D ++ B P)).2 (D.size + P.size) b1
  simp only [Option.some.injEq, Prod.mk.injEq]
  refine ⟨rfl, ?_⟩
  have hm := mem_ends 60 0 (D.size + P.size) (B D) (B P) (by omega) (by rw [List.length_append, B_length, B_length]; exact Nat.le_refl _)
  rw [List.length_append, B_length, B_length, show ((D.size + P.size : Nat) : Int) - ((D.size + P.size : Nat) : Int) + (D.size : Int) = (D.size : Int) by omega] at hm
  have hm2 : (decide ((D.size : Int) ∈ 0 :: endsOf (D.size + P.size) 60 0 (B D ++ B P))) = decide ((reads 60 0 (B D)).2 = []) := by
    rw [decide_eq_decide, ← hm, List.mem_cons]
    constructor
    · rintro (a | a)
      · exact .inr (List.length_eq_zero_iff.1 (by rw [B_length]; omega))
      · exact .inl a
    · rintro (a | a)
      · exact .inr a
      · have : D.size = 0 := by rw [← B_length, a]; rfl
        left; omega
  rw [hm2]
  unfold logOk allOf
  have e3 : ((((D.size + P.size : Nat) : Int) - ((reads 60 0 (B D ++ B P)).2.length : Int)) == ((D.size : Int) + (P.size : Int))) = decide ((reads 60 0 (B D ++ B P)).2 = []) := by
    rw [← Int.natCast_add, Bool.eq_iff_iff]
    simp only [beq_iff_eq, decide_eq_true_eq, e1]
  rw [e3]
  congr 1
  rw [Bool.eq_iff_iff]
  simp only [beq_iff_eq, decide_eq_true_eq]
  exact ⟨fun h => h.symm, fun h => h.symm⟩
theorem szLog_eq (D P : ByteArray) (c : Int) (hD : D.size ≤ 140737488351232) (hP : P.size ≤ 140737488351232) : ∃ r, laws_szLog.f D P c 1048576 = some r ∧ (¬ r < 0 → D.size + P.size ≤ 1048576) := by
  unfold laws_szLog.f
  rw [wrap_id (x := 1048576 - (D.size : Int)) (by omega) (by omega), wrap_id (x := 1048576 - (D.size : Int) - (P.size : Int)) (by omega) (by omega)]
  by_cases c1 : (1048576 : Int) - (D.size : Int) < 0
  · exact ⟨-1, if_pos c1, fun h => absurd (by decide) h⟩
  · rw [if_neg c1]
    by_cases c2 : (1048576 : Int) - (D.size : Int) - (P.size : Int) < 0
    · exact ⟨-1, if_pos c2, fun h => absurd (by decide) h⟩
    · exact ⟨_, if_neg c2, fun h => by omega⟩
end Go.Proofs.YtkpieljmhgfofaaDoor.X


-- written by a program of this session (wip/ext.py) out of the translation. Not trusted: Lean checks it.
namespace Go.Proofs.YtkpieljmhgfofaaDoor.X
open Go.RowKit Go.Proofs.YtkpieljmhgfofaaDoorW.PrintWords Go.Proofs.YtkpieljmhgfofaaDoorW.PrintLast Go.Proofs.YtkpieljmhgfofaaDoorW.PrintMore
attribute [local go_sem] max2_int min2_int max_two min_two max_three min_three max_four min_four   -- for this text's walks alone
open Go.Proofs.YtkpieljmhgfofaaDoorG
set_option linter.unusedVariables false
set_option linter.unusedSimpArgs false

def impl_AppendRecord.j0 : Nat → Bool → ByteArray → ByteArray → Int → ByteArray → ByteArray → Option (ByteArray × ByteArray × Int × Int)
  | 0, _, _, _, _, _, _ => none
  | k + 1, x6, x337000, x337001, x337002, x338000, x338001 => if x6 = true then (some (x337000, x337001, x337002, 1)) else (if x337002 = 60 then (some (x337000, x337001, x337002, 2)) else ((impl_encodeRecord.f k x337002 x338000 x338001).bind fun t341 => (if x337001.size + t341.size ≤ 9223372036854775807 then (some (x337000, x337001 ++ t341, wrap64 (x337002 + 1), 0)) else (none))))
def impl_AppendRecord.f (k : Nat) (a0_0 : ByteArray) (a0_1 : ByteArray) (a0_2 : Int) (a1_0 : ByteArray) (a1_1 : ByteArray) : Option (ByteArray × ByteArray × Int × Int) := (impl_IsValidLog.f k a0_0 a0_1 a0_2).bind fun t339 => (if t339 = true then ((impl_IsValidRecord.f k a1_0 a1_1).bind fun t340 => (impl_AppendRecord.j0 k (!t340) a0_0 a0_1 a0_2 a1_0 a1_1)) else (impl_AppendRecord.j0 k true a0_0 a0_1 a0_2 a1_0 a1_1))
theorem impl_AppendRecord.mono_l : ∀ k, (∀ y0 y1 y2 y3 y4 y5, LeO (impl_AppendRecord.j0 k y0 y1 y2 y3 y4 y5) (impl_AppendRecord.j0 (k + 1) y0 y1 y2 y3 y4 y5))
  | 0 => fun _ _ _ _ _ _ r h => by simp [impl_AppendRecord.j0] at h
  | k + 1 => by
    have ih0 := impl_AppendRecord.mono_l k
    · intro y0 y1 y2 y3 y4 y5
      unfold impl_AppendRecord.j0
      repeat' first
      | (with_reducible exact ih0 _ _ _ _ _ _)
      | (with_reducible exact impl_IsValidLog.mono _ _ _ _)
      | (with_reducible exact impl_IsValidRecord.mono _ _ _)
      | (with_reducible exact impl_encodeRecord.mono _ _ _ _)
      | (with_reducible exact LeO.refl _)
      | (with_reducible exact LeO.none _)
      | (with_reducible refine LeO.ite ?_ ?_)
      | (with_reducible refine LeO.bind ?_ (fun _ => ?_))
      | exact ih0 _ _ _ _ _ _
      | exact impl_IsValidLog.mono _ _ _ _
      | exact impl_IsValidRecord.mono _ _ _
      | exact impl_encodeRecord.mono _ _ _ _
      | exact LeO.none _
      | refine LeO.ite ?_ ?_
      | refine LeO.bind ?_ (fun _ => ?_)
theorem impl_AppendRecord.mono : ∀ a0 a1 a2 a3 a4 k, LeO (impl_AppendRecord.f k a0 a1 a2 a3 a4) (impl_AppendRecord.f (k + 1) a0 a1 a2 a3 a4) := by
  intro a0 a1 a2 a3 a4 k
  have ih0 := impl_AppendRecord.mono_l k
  unfold impl_AppendRecord.f
  repeat' first
      | (with_reducible exact ih0 _ _ _ _ _ _)
      | (with_reducible exact impl_IsValidLog.mono _ _ _ _)
      | (with_reducible exact impl_IsValidRecord.mono _ _ _)
      | (with_reducible exact impl_encodeRecord.mono _ _ _ _)
      | (with_reducible exact LeO.refl _)
      | (with_reducible exact LeO.none _)
      | (with_reducible refine LeO.ite ?_ ?_)
      | (with_reducible refine LeO.bind ?_ (fun _ => ?_))
      | exact ih0 _ _ _ _ _ _
      | exact impl_IsValidLog.mono _ _ _ _
      | exact impl_IsValidRecord.mono _ _ _
      | exact impl_encodeRecord.mono _ _ _ _
      | exact LeO.none _
      | refine LeO.ite ?_ ?_
      | refine LeO.bind ?_ (fun _ => ?_)
def impl_AppendRecord.T5 : Bool × List (List Nat × List Nat) := (true, [([], []), ([0], [0]), ([], []), ([2], [2]), ([], []), ([4], [4]), ([], []), ([5, 6], [5, 6]), ([3, 7], [3, 7]), ([], []), ([9], [9]), ([10], [10]), ([1, 8, 11], [1, 8, 11]), ([12, 7, 0, 1, 2, 3, 4, 5, 6, 7, 8, 9, 10, 11, 12], [12]), ([13, 0, 1, 2, 3, 4, 5, 6, 7, 8, 9, 10, 11, 12, 13], [])])
def impl_AppendRecord.B5 : List Nat := [0, 1, 0, 4, 0, 16, 0, 112, 252, 0, 512, 1536, 4095, 8191, 16383]
theorem impl_AppendRecord.tab5 : rtab .any (opsOf Tryd.f29 5) = impl_AppendRecord.T5 := by kernel_rfl
theorem impl_AppendRecord.bits5 : waitsOk impl_AppendRecord.T5.2 impl_AppendRecord.B5 = true := by kernel_rfl
set_option maxHeartbeats 8000000 in
set_option maxRecDepth 100000 in
theorem impl_AppendRecord.calls (k : Nat) (a0_0 : ByteArray) (a0_1 : ByteArray) (a0_2 : Int) (a1_0 : ByteArray) (a1_1 : ByteArray) (r1 : ByteArray) (r2 : ByteArray) (r3 : Int) (r4 : Int) (w : World) (hG : Glob w) (h : impl_AppendRecord.f k a0_0 a0_1 a0_2 a1_0 a1_1 = some (r1, r2, r3, r4)) :
    Calls Tryd.prog 29 #[.agg #[.string a0_0, .string a0_1, .int .i64 a0_2], .agg #[.string a1_0, .string a1_1]] w fun e w' => e = .returned (.tuple #[.agg #[.string r1, .string r2, .int .i64 r3], .int .i64 r4]) ∧ Below w.heap.size w w' := by
  have hu31 := Tryd.underlying31
  have hu27 := Tryd.underlying27
  have HGL := Aside0.mk hG
  clear hG
  have HB := Aside0.mk (Below.refl w.heap.size w)
  have H : ((impl_IsValidLog.f k a0_0 a0_1 a0_2).bind fun t339 => (if t339 = true then ((impl_IsValidRecord.f k a1_0 a1_1).bind fun t340 => (impl_AppendRecord.j0 k (!t340) a0_0 a0_1 a0_2 a1_0 a1_1)) else (impl_AppendRecord.j0 k true a0_0 a0_1 a0_2 a1_0 a1_1))) = some (r1, r2, r3, r4) := h
  clear h
  have HC3 := Aside0.mk H
  clear H
  go_enter Tryd.func29, Tryd.ntmps29
  go_upto_region 1 with (first | ((with_reducible refine gate_dst (N := 2) rfl ?_); refine box_event ?hg (N := 2) ?hd (cs := #[.string a0_0, .string a0_1, .int .i64 a0_2]) (t := 31) ?hr ?_; (case hd => rfl); (case hg => rfl); (case hr => first | (go_simp; done) | (go_simp; rfl)); intro gb336 hg w4 hbox hb; have n0_ := Aside0.mk (below_step (by repeat (first | (with_reducible first | exact HB.out | apply below_alloc | apply pw_below_drewN | apply below_drew1) | exact HB.out)) hb); have n1_ := Aside0.mk (hbox); have n2_ := Aside0.mk ((by rw [hg]; exact (below_size (by repeat (first | (with_reducible first | exact HB.out | apply below_alloc | apply pw_below_drewN | apply below_drew1) | exact HB.out))) : w.heap.size ≤ gb336)); have n3_ := Aside0.mk ((by rw [hg]; exact (below_size (by repeat (first | (with_reducible first | exact HB.out | apply below_alloc | apply pw_below_drewN | apply below_drew1) | exact HB.out))) : w.heap.size ≤ gb336)); clear HB; have HB := n0_; have BK336 := n1_; have GW336 := n2_; have GE336 := n3_; clear n0_ n1_ n2_ n3_; clear hb hbox hg) | ((with_reducible refine gate_dst (N := 3) rfl ?_); refine box_event ?hg (N := 3) ?hd (cs := #[.string a1_0, .string a1_1]) (t := 27) ?hr ?_; (case hd => rfl); (case hg => rfl); (case hr => first | (go_simp; done) | (go_simp; rfl)); intro gb337 hg w5 hbox hb; have n0_ := Aside0.mk (blk_below (g := gb336) (o := .cells #[.string a0_0, .string a0_1, .int .i64 a0_2] 31 (0, 0)) (by (with_reducible repeat (first | refine blk_drewN ?_ _ | refine blk_drew ?_ | refine blk_alloc ?_ _)); exact BK336.out) hb); have n1_ := Aside0.mk (below_step (by repeat (first | (with_reducible first | exact HB.out | apply below_alloc | apply pw_below_drewN | apply below_drew1 | refine below_set ?_ GE336.out) | exact HB.out)) hb); have n2_ := Aside0.mk (hbox); have n3_ := Aside0.mk ((by rw [hg]; exact (below_size (by repeat (first | (with_reducible first | exact HB.out | apply below_alloc | apply pw_below_drewN | apply below_drew1 | refine below_set ?_ GE336.out) | exact HB.out))) : w.heap.size ≤ gb337)); have n4_ := Aside0.mk ((by rw [hg]; exact (below_size (by repeat (first | (with_reducible first | exact HB.out | apply below_alloc | apply pw_below_drewN | apply below_drew1 | refine below_set ?_ GE336.out) | exact HB.out))) : w.heap.size ≤ gb337)); have n5_ := Aside0.mk ((by rw [hg]; exact Nat.ne_of_lt (blk_lt (g := gb336) (o := .cells #[.string a0_0, .string a0_1, .int .i64 a0_2] 31 (0, 0)) (by (with_reducible repeat (first | refine blk_drewN ?_ _ | refine blk_drew ?_ | refine blk_alloc ?_ _)); exact BK336.out)) : gb336 ≠ gb337)); have n6_ := Aside0.mk ((by rw [hg]; exact Nat.ne_of_gt (blk_lt (g := gb336) (o := .cells #[.string a0_0, .string a0_1, .int .i64 a0_2] 31 (0, 0)) (by (with_reducible repeat (first | refine blk_drewN ?_ _ | refine blk_drew ?_ | refine blk_alloc ?_ _)); exact BK336.out)) : gb337 ≠ gb336)); clear BK336; clear HB; have BK336 := n0_; have HB := n1_; have BK337 := n2_; have GW337 := n3_; have GE337 := n4_; have NB336_337 := n5_; have NB337_336 := n6_; clear n0_ n1_ n2_ n3_ n4_ n5_ n6_; clear hb hbox hg) | ((with_reducible refine gate_dst (N := 4) rfl ?_); refine box_event ?hg (N := 4) ?hd (cs := #[.string (⟨#[]⟩ : ByteArray), .string (⟨#[]⟩ : ByteArray), .int .i64 0]) (t := 31) ?hr ?_; (case hd => rfl); (case hg => rfl); (case hr => first | (go_simp; done) | (go_simp; rfl)); intro gb338 hg w6 hbox hb; have n0_ := Aside0.mk (blk_below (g := gb336) (o := .cells #[.string a0_0, .string a0_1, .int .i64 a0_2] 31 (0, 0)) (by (with_reducible repeat (first | refine blk_drewN ?_ _ | refine blk_drew ?_ | refine blk_alloc ?_ _)); exact BK336.out) hb); have n1_ := Aside0.mk (blk_below (g := gb337) (o := .cells #[.string a1_0, .string a1_1] 27 (0, 0)) (by (with_reducible repeat (first | refine blk_drewN ?_ _ | refine blk_drew ?_ | refine blk_alloc ?_ _)); exact BK337.out) hb); have n2_ := Aside0.mk (below_step (by repeat (first | (with_reducible first | exact HB.out | apply below_alloc | apply pw_below_drewN | apply below_drew1 | refine below_set ?_ GE336.out | refine below_set ?_ GE337.out) | exact HB.out)) hb); have n3_ := Aside0.mk (hbox); have n4_ := Aside0.mk ((by rw [hg]; exact (below_size (by repeat (first | (with_reducible first | exact HB.out | apply below_alloc | apply pw_below_drewN | apply below_drew1 | refine below_set ?_ GE336.out | refine below_set ?_ GE337.out) | exact HB.out))) : w.heap.size ≤ gb338)); have n5_ := Aside0.mk ((by rw [hg]; exact (below_size (by repeat (first | (with_reducible first | exact HB.out | apply below_alloc | apply pw_below_drewN | apply below_drew1 | refine below_set ?_ GE336.out | refine below_set ?_ GE337.out) | exact HB.out))) : w.heap.size ≤ gb338)); have n6_ := Aside0.mk ((by rw [hg]; exact Nat.ne_of_lt (blk_lt (g := gb336) (o := .cells #[.string a0_0, .string a0_1, .int .i64 a0_2] 31 (0, 0)) (by (with_reducible repeat (first | refine blk_drewN ?_ _ | refine blk_drew ?_ | refine blk_alloc ?_ _)); exact BK336.out)) : gb336 ≠ gb338)); have n7_ := Aside0.mk ((by rw [hg]; exact Nat.ne_of_gt (blk_lt (g := gb336) (o := .cells #[.string a0_0, .string a0_1, .int .i64 a0_2] 31 (0, 0)) (by (with_reducible repeat (first | refine blk_drewN ?_ _ | refine blk_drew ?_ | refine blk_alloc ?_ _)); exact BK336.out)) : gb338 ≠ gb336)); have n8_ := Aside0.mk ((by rw [hg]; exact Nat.ne_of_lt (blk_lt (g := gb337) (o := .cells #[.string a1_0, .string a1_1] 27 (0, 0)) (by (with_reducible repeat (first | refine blk_drewN ?_ _ | refine blk_drew ?_ | refine blk_alloc ?_ _)); exact BK337.out)) : gb337 ≠ gb338)); have n9_ := Aside0.mk ((by rw [hg]; exact Nat.ne_of_gt (blk_lt (g := gb337) (o := .cells #[.string a1_0, .string a1_1] 27 (0, 0)) (by (with_reducible repeat (first | refine blk_drewN ?_ _ | refine blk_drew ?_ | refine blk_alloc ?_ _)); exact BK337.out)) : gb338 ≠ gb337)); clear BK336; clear BK337; clear HB; have BK336 := n0_; have BK337 := n1_; have HB := n2_; have BK338 := n3_; have GW338 := n4_; have GE338 := n5_; have NB336_338 := n6_; have NB338_336 := n7_; have NB337_338 := n8_; have NB338_337 := n9_; clear n0_ n1_ n2_ n3_ n4_ n5_ n6_ n7_ n8_ n9_; clear hb hbox hg))
  (try simp only [Act.put, List.setIfInBounds_toArray, List.set_cons_zero, List.set_cons_succ])
  go_cut [6] (fun v6 wc => ∃ (kq : Nat) (x6_2 : Bool), v6 = .bool x6_2 ∧ Aside0 (impl_AppendRecord.j0 kq x6_2 a0_0 a0_1 a0_2 a1_0 a1_1 = some (r1, r2, r3, r4)) ∧ Aside0 (kq ≤ k) ∧ Aside0 (wc.heap[gb336]? = some (.cells #[.string a0_0, .string a0_1, .int .i64 a0_2] 31 (0, 0))) ∧ Aside0 (wc.heap[gb337]? = some (.cells #[.string a1_0, .string a1_1] 27 (0, 0))) ∧ Aside0 (wc.heap[gb338]? = some (.cells #[.string (⟨#[]⟩ : ByteArray), .string (⟨#[]⟩ : ByteArray), .int .i64 0] 31 (0, 0))) ∧ Aside0 (Below w.heap.size w wc))
  case first =>
    have H := HC3.out
    clear HC3
    replace H := Option.bind_eq_some_iff.mp H
    obtain ⟨t339, A70, H⟩ := H
    replace H : (if t339 = true then ((impl_IsValidRecord.f k a1_0 a1_1).bind fun t340 => (impl_AppendRecord.j0 k (!t340) a0_0 a0_1 a0_2 a1_0 a1_1)) else (impl_AppendRecord.j0 k true a0_0 a0_1 a0_2 a1_0 a1_1)) = some (r1, r2, r3, r4) := H
    have A7 := Aside0.mk A70
    clear A70
    by_cases c8 : t339 = true
    · subst c8
      have H1 : ((impl_IsValidRecord.f k a1_0 a1_1).bind fun t340 => (impl_AppendRecord.j0 k (!t340) a0_0 a0_1 a0_2 a1_0 a1_1)) = some (r1, r2, r3, r4) := by rw [if_pos rfl] at H; exact H
      clear H
      have H := H1
      clear H1
      replace H := Option.bind_eq_some_iff.mp H
      obtain ⟨t340, A90, H⟩ := H
      replace H : (impl_AppendRecord.j0 k (!t340) a0_0 a0_1 a0_2 a1_0 a1_1) = some (r1, r2, r3, r4) := H
      have A9 := Aside0.mk A90
      clear A90
      have H' := Aside0.mk H
      clear H
      have hnb10 := NB336_337.out
      have hnc10 := NB337_336.out
      have hnb11 := NB336_338.out
      have hnc11 := NB338_336.out
      have hcz12_0 : w6.cell? ⟨gb336, 0, none⟩ = some (.string a0_0) := (blk_cell BK336.out 0).trans rfl
      have hcz12_1 : w6.cell? ⟨gb336, 1, none⟩ = some (.string a0_1) := (blk_cell BK336.out 1).trans rfl
      have hcz12_2 : w6.cell? ⟨gb336, 2, none⟩ = some (.int .i64 a0_2) := (blk_cell BK336.out 2).trans rfl
      have hfz12_0 := blk_frozen BK336.out 0
      have hfz12_1 := blk_frozen BK336.out 1
      have hfz12_2 := blk_frozen BK336.out 2
      go_wp2_with (first | ((with_reducible refine gate_callee (f := 23) rfl ?_); refine goesL_ (some 8) rfl rfl Tryd.func23 (by kernel_rfl) rfl #[.agg #[.string a0_0, .string a0_1, .int .i64 a0_2]] rfl (by (try simp only [List.map_toArray, List.map_cons, List.map_nil]); first | done | rfl | (simp only [List.length_drop, List.length_take]; rfl)) ?_; (with_reducible refine (impl_IsValidLog.calls k a0_0 a0_1 a0_2 true _ ?side1 A7.out).mono ?_); (case side1 => exact Glob.below HGL.out (by repeat (first | (with_reducible first | exact HB.out | apply below_alloc | apply pw_below_drewN | apply below_drew1 | refine below_set ?_ GE336.out | refine below_set ?_ GE337.out | refine below_set ?_ GE338.out) | exact HB.out))); rintro e w13 ⟨rfl, hb⟩; refine ⟨_, rfl, ?_⟩; have n0_ := Aside0.mk (blk_below (g := gb336) (o := .cells #[.string a0_0, .string a0_1, .int .i64 a0_2] 31 (0, 0)) (by (with_reducible repeat (first | refine blk_drewN ?_ _ | refine blk_drew ?_ | refine blk_alloc ?_ _)); exact BK336.out) hb); have n1_ := Aside0.mk (blk_below (g := gb337) (o := .cells #[.string a1_0, .string a1_1] 27 (0, 0)) (by (with_reducible repeat (first | refine blk_drewN ?_ _ | refine blk_drew ?_ | refine blk_alloc ?_ _)); exact BK337.out) hb); have n2_ := Aside0.mk (blk_below (g := gb338) (o := .cells #[.string (⟨#[]⟩ : ByteArray), .string (⟨#[]⟩ : ByteArray), .int .i64 0] 31 (0, 0)) (by (with_reducible repeat (first | refine blk_drewN ?_ _ | refine blk_drew ?_ | refine blk_alloc ?_ _)); exact BK338.out) hb); have n3_ := Aside0.mk (below_step (by repeat (first | (with_reducible first | exact HB.out | apply below_alloc | apply pw_below_drewN | apply below_drew1 | refine below_set ?_ GE336.out | refine below_set ?_ GE337.out | refine below_set ?_ GE338.out) | exact HB.out)) hb); clear BK336; clear BK337; clear BK338; clear HB; have BK336 := n0_; have BK337 := n1_; have BK338 := n2_; have HB := n3_; clear n0_ n1_ n2_ n3_; (try clear hb); (try clear hb2); (try clear hk); (try clear hi); have hnb14 := NB337_338.out; have hnc14 := NB338_337.out; have hcz15_0 : w13.cell? ⟨gb337, 0, none⟩ = some (.string a1_0) := (blk_cell BK337.out 0).trans rfl; have hcz15_1 : w13.cell? ⟨gb337, 1, none⟩ = some (.string a1_1) := (blk_cell BK337.out 1).trans rfl; have hfz15_0 := blk_frozen BK337.out 0; have hfz15_1 := blk_frozen BK337.out 1) | (go_at_call 37; (with_reducible refine (impl_IsValidRecord.calls k a1_0 a1_1 t340 _ A9.out).mono ?_); rintro e w16 ⟨rfl, hb⟩; have n0_ := Aside0.mk (blk_below (g := gb336) (o := .cells #[.string a0_0, .string a0_1, .int .i64 a0_2] 31 (0, 0)) (by (with_reducible repeat (first | refine blk_drewN ?_ _ | refine blk_drew ?_ | refine blk_alloc ?_ _)); exact BK336.out) hb); have n1_ := Aside0.mk (blk_below (g := gb337) (o := .cells #[.string a1_0, .string a1_1] 27 (0, 0)) (by (with_reducible repeat (first | refine blk_drewN ?_ _ | refine blk_drew ?_ | refine blk_alloc ?_ _)); exact BK337.out) hb); have n2_ := Aside0.mk (blk_below (g := gb338) (o := .cells #[.string (⟨#[]⟩ : ByteArray), .string (⟨#[]⟩ : ByteArray), .int .i64 0] 31 (0, 0)) (by (with_reducible repeat (first | refine blk_drewN ?_ _ | refine blk_drew ?_ | refine blk_alloc ?_ _)); exact BK338.out) hb); have n3_ := Aside0.mk (below_step (by repeat (first | (with_reducible first | exact HB.out | apply below_alloc | apply pw_below_drewN | apply below_drew1 | refine below_set ?_ GE336.out | refine below_set ?_ GE337.out | refine below_set ?_ GE338.out) | exact HB.out)) hb); clear BK336; clear BK337; clear BK338; clear HB; have BK336 := n0_; have BK337 := n1_; have BK338 := n2_; have HB := n3_; clear n0_ n1_ n2_ n3_; (try clear hb); (try clear hb2); (try clear hk); (try clear hi)))
      go_meet
      case rel => exact ⟨_, (!t340), (by first | rfl | (simp; done) | (simp [*]; done)), H', ⟨by first | omega | exact Nat.le_refl _⟩, ⟨by (with_reducible repeat (first | refine blk_drewN ?_ _ | refine blk_drew ?_ | refine blk_alloc ?_ _)); exact BK336.out⟩, ⟨by (with_reducible repeat (first | refine blk_drewN ?_ _ | refine blk_drew ?_ | refine blk_alloc ?_ _)); exact BK337.out⟩, ⟨by (with_reducible repeat (first | refine blk_drewN ?_ _ | refine blk_drew ?_ | refine blk_alloc ?_ _)); exact BK338.out⟩, ⟨by repeat (first | (with_reducible first | exact HB.out | apply below_alloc | apply pw_below_drewN | apply below_drew1 | refine below_set ?_ GE336.out | refine below_set ?_ GE337.out | refine below_set ?_ GE338.out) | exact HB.out)⟩⟩
    · replace c8 := Bool.eq_false_iff.mpr c8
      subst c8
      have H1 : (impl_AppendRecord.j0 k true a0_0 a0_1 a0_2 a1_0 a1_1) = some (r1, r2, r3, r4) := by rw [if_neg (show ¬ (false = true) by decide)] at H; exact H
      clear H
      have H := H1
      clear H1
      have H' := Aside0.mk H
      clear H
      have hnb17 := NB336_337.out
      have hnc17 := NB337_336.out
      have hnb18 := NB336_338.out
      have hnc18 := NB338_336.out
      have hcz19_0 : w6.cell? ⟨gb336, 0, none⟩ = some (.string a0_0) := (blk_cell BK336.out 0).trans rfl
      have hcz19_1 : w6.cell? ⟨gb336, 1, none⟩ = some (.string a0_1) := (blk_cell BK336.out 1).trans rfl
      have hcz19_2 : w6.cell? ⟨gb336, 2, none⟩ = some (.int .i64 a0_2) := (blk_cell BK336.out 2).trans rfl
      have hfz19_0 := blk_frozen BK336.out 0
      have hfz19_1 := blk_frozen BK336.out 1
      have hfz19_2 := blk_frozen BK336.out 2
      go_wp2_with (first | ((with_reducible refine gate_callee (f := 23) rfl ?_); refine goesL_ (some 8) rfl rfl Tryd.func23 (by kernel_rfl) rfl #[.agg #[.string a0_0, .string a0_1, .int .i64 a0_2]] rfl (by (try simp only [List.map_toArray, List.map_cons, List.map_nil]); first | done | rfl | (simp only [List.length_drop, List.length_take]; rfl)) ?_; (with_reducible refine (impl_IsValidLog.calls k a0_0 a0_1 a0_2 false _ ?side1 A7.out).mono ?_); (case side1 => exact Glob.below HGL.out (by repeat (first | (with_reducible first | exact HB.out | apply below_alloc | apply pw_below_drewN | apply below_drew1 | refine below_set ?_ GE336.out | refine below_set ?_ GE337.out | refine below_set ?_ GE338.out) | exact HB.out))); rintro e w20 ⟨rfl, hb⟩; refine ⟨_, rfl, ?_⟩; have n0_ := Aside0.mk (blk_below (g := gb336) (o := .cells #[.string a0_0, .string a0_1, .int .i64 a0_2] 31 (0, 0)) (by (with_reducible repeat (first | refine blk_drewN ?_ _ | refine blk_drew ?_ | refine blk_alloc ?_ _)); exact BK336.out) hb); have n1_ := Aside0.mk (blk_below (g := gb337) (o := .cells #[.string a1_0, .string a1_1] 27 (0, 0)) (by (with_reducible repeat (first | refine blk_drewN ?_ _ | refine blk_drew ?_ | refine blk_alloc ?_ _)); exact BK337.out) hb); have n2_ := Aside0.mk (blk_below (g := gb338) (o := .cells #[.string (⟨#[]⟩ : ByteArray), .string (⟨#[]⟩ : ByteArray), .int .i64 0] 31 (0, 0)) (by (with_reducible repeat (first | refine blk_drewN ?_ _ | refine blk_drew ?_ | refine blk_alloc ?_ _)); exact BK338.out) hb); have n3_ := Aside0.mk (below_step (by repeat (first | (with_reducible first | exact HB.out | apply below_alloc | apply pw_below_drewN | apply below_drew1 | refine below_set ?_ GE336.out | refine below_set ?_ GE337.out | refine below_set ?_ GE338.out) | exact HB.out)) hb); clear BK336; clear BK337; clear BK338; clear HB; have BK336 := n0_; have BK337 := n1_; have BK338 := n2_; have HB := n3_; clear n0_ n1_ n2_ n3_; (try clear hb); (try clear hb2); (try clear hk); (try clear hi)))
      go_meet
      case rel => exact ⟨_, (true), (by first | rfl | (simp; done) | (simp [*]; done)), H', ⟨by first | omega | exact Nat.le_refl _⟩, ⟨by (with_reducible repeat (first | refine blk_drewN ?_ _ | refine blk_drew ?_ | refine blk_alloc ?_ _)); exact BK336.out⟩, ⟨by (with_reducible repeat (first | refine blk_drewN ?_ _ | refine blk_drew ?_ | refine blk_alloc ?_ _)); exact BK337.out⟩, ⟨by (with_reducible repeat (first | refine blk_drewN ?_ _ | refine blk_drew ?_ | refine blk_alloc ?_ _)); exact BK338.out⟩, ⟨by repeat (first | (with_reducible first | exact HB.out | apply below_alloc | apply pw_below_drewN | apply below_drew1 | refine below_set ?_ GE336.out | refine below_set ?_ GE337.out | refine below_set ?_ GE338.out) | exact HB.out)⟩⟩
  case rest =>
    clear HC3
    try clear c1
    try clear c2
    try clear p2
    try clear c8
    try clear c10
    try clear c11
    try clear c14
    try clear c17
    try clear c18
    try clear hcz12_0
    try clear hcz12_1
    try clear hcz12_2
    try clear hcz15_0
    try clear hcz15_1
    try clear hcz19_0
    try clear hcz19_1
    try clear hcz19_2
    try clear hfz12_0
    try clear hfz12_1
    try clear hfz12_2
    try clear hfz15_0
    try clear hfz15_1
    try clear hfz19_0
    try clear hfz19_1
    try clear hfz19_2
    obtain ⟨kq, x6_2, rfl, HA, HJ2, BK336, BK337, BK338, HB⟩ := hcut
    cases kq with
    | zero => exact absurd HA.out (by simp [impl_AppendRecord.j0])
    | succ kj2 =>
      have H := HA.out
      clear HA
      simp only [impl_AppendRecord.j0] at H
      by_cases c21 : x6_2 = true
      · subst c21
        have H1 : (some (a0_0, a0_1, a0_2, 1)) = some (r1, r2, r3, r4) := by rw [if_pos rfl] at H; exact H
        clear H
        have H := H1
        clear H1
        simp only [Option.some.injEq, Prod.mk.injEq] at H
        obtain ⟨rfl, rfl, rfl, rfl⟩ := H
        have hnb22 := NB336_337.out
        have hnc22 := NB337_336.out
        have hnb23 := NB336_338.out
        have hnc23 := NB338_336.out
        have hcz24_0 : wc.cell? ⟨gb336, 0, none⟩ = some (.string a0_0) := (blk_cell BK336.out 0).trans rfl
        have hcz24_1 : wc.cell? ⟨gb336, 1, none⟩ = some (.string a0_1) := (blk_cell BK336.out 1).trans rfl
        have hcz24_2 : wc.cell? ⟨gb336, 2, none⟩ = some (.int .i64 a0_2) := (blk_cell BK336.out 2).trans rfl
        have hfz24_0 := blk_frozen BK336.out 0
        have hfz24_1 := blk_frozen BK336.out 1
        have hfz24_2 := blk_frozen BK336.out 2
        have hnb25 := NB338_337.out
        have hnc25 := NB337_338.out
        have hcz26_0 : wc.cell? ⟨gb338, 0, none⟩ = some (.string (⟨#[]⟩ : ByteArray)) := (blk_cell BK338.out 0).trans rfl
        have hcz26_1 : wc.cell? ⟨gb338, 1, none⟩ = some (.string (⟨#[]⟩ : ByteArray)) := (blk_cell BK338.out 1).trans rfl
        have hcz26_2 : wc.cell? ⟨gb338, 2, none⟩ = some (.int .i64 0) := (blk_cell BK338.out 2).trans rfl
        have hfz26_0 := blk_frozen BK338.out 0
        have hfz26_1 := blk_frozen BK338.out 1
        have hfz26_2 := blk_frozen BK338.out 2
        go_wp2
        refine bodyPost_ret (results_ct rfl _ _ gb338 31 #[.string a0_0, .string a0_1, .int .i64 a0_2] (0, 0) _ rfl (by (with_reducible repeat (first | refine blk_drewN ?_ _ | refine blk_drew ?_ | refine blk_alloc ?_ _)); refine blk_put (cs := #[.string a0_0, .string a0_1, .int .i64 0]) ?_ 2 _ rfl; (with_reducible repeat (first | refine blk_drewN ?_ _ | refine blk_drew ?_ | refine blk_alloc ?_ _)); refine blk_put (cs := #[.string a0_0, .string (⟨#[]⟩ : ByteArray), .int .i64 0]) ?_ 1 _ rfl; (with_reducible repeat (first | refine blk_drewN ?_ _ | refine blk_drew ?_ | refine blk_alloc ?_ _)); refine blk_put (cs := #[.string (⟨#[]⟩ : ByteArray), .string (⟨#[]⟩ : ByteArray), .int .i64 0]) ?_ 0 _ rfl; (with_reducible repeat (first | refine blk_drewN ?_ _ | refine blk_drew ?_ | refine blk_alloc ?_ _)); exact BK338.out) Tryd.underlying31 rfl (by kernel_rfl)) rfl ?_
        exact ⟨by first | rfl | (simp [errW_none, errW_some] <;> rfl) | (simp [*, errW_none, errW_some] <;> rfl), by repeat (first | (with_reducible first | exact HB.out | apply below_alloc | apply pw_below_drewN | apply below_drew1 | refine below_set ?_ GE336.out | refine below_set ?_ GE337.out | refine below_set ?_ GE338.out) | exact HB.out)⟩
      · replace c21 := Bool.eq_false_iff.mpr c21
        subst c21
        have H1 : (if a0_2 = 60 then (some (a0_0, a0_1, a0_2, 2)) else ((impl_encodeRecord.f kj2 a0_2 a1_0 a1_1).bind fun t341 => (if a0_1.size + t341.size ≤ 9223372036854775807 then (some (a0_0, a0_1 ++ t341, wrap64 (a0_2 + 1), 0)) else (none)))) = some (r1, r2, r3, r4) := by rw [if_neg (show ¬ (false = true) by decide)] at H; exact H
        clear H
        have H := H1
        clear H1
        by_cases c27 : a0_2 = 60
        · rw [if_pos c27] at H
          have c27b0 : (a0_2 == 60) = true := beq_iff_eq.mpr c27
          have c27b1 : (a0_2 != 60) = false := bne_eq_false_iff_eq.mpr c27
          clear c27
          simp only [Option.some.injEq, Prod.mk.injEq] at H
          obtain ⟨rfl, rfl, rfl, rfl⟩ := H
          have hnb28 := NB336_337.out
          have hnc28 := NB337_336.out
          have hnb29 := NB336_338.out
          have hnc29 := NB338_336.out
          have hcz30_0 : wc.cell? ⟨gb336, 0, none⟩ = some (.string a0_0) := (blk_cell BK336.out 0).trans rfl
          have hcz30_1 : wc.cell? ⟨gb336, 1, none⟩ = some (.string a0_1) := (blk_cell BK336.out 1).trans rfl
          have hcz30_2 : wc.cell? ⟨gb336, 2, none⟩ = some (.int .i64 a0_2) := (blk_cell BK336.out 2).trans rfl
          have hfz30_0 := blk_frozen BK336.out 0
          have hfz30_1 := blk_frozen BK336.out 1
          have hfz30_2 := blk_frozen BK336.out 2
          have hnb31 := NB338_337.out
          have hnc31 := NB337_338.out
          have hcz32_0 : wc.cell? ⟨gb338, 0, none⟩ = some (.string (⟨#[]⟩ : ByteArray)) := (blk_cell BK338.out 0).trans rfl
          have hcz32_1 : wc.cell? ⟨gb338, 1, none⟩ = some (.string (⟨#[]⟩ : ByteArray)) := (blk_cell BK338.out 1).trans rfl
          have hcz32_2 : wc.cell? ⟨gb338, 2, none⟩ = some (.int .i64 0) := (blk_cell BK338.out 2).trans rfl
          have hfz32_0 := blk_frozen BK338.out 0
          have hfz32_1 := blk_frozen BK338.out 1
          have hfz32_2 := blk_frozen BK338.out 2
          go_wp2
          refine bodyPost_ret (results_ct rfl _ _ gb338 31 #[.string a0_0, .string a0_1, .int .i64 a0_2] (0, 0) _ rfl (by (with_reducible repeat (first | refine blk_drewN ?_ _ | refine blk_drew ?_ | refine blk_alloc ?_ _)); refine blk_put (cs := #[.string a0_0, .string a0_1, .int .i64 0]) ?_ 2 _ rfl; (with_reducible repeat (first | refine blk_drewN ?_ _ | refine blk_drew ?_ | refine blk_alloc ?_ _)); refine blk_put (cs := #[.string a0_0, .string (⟨#[]⟩ : ByteArray), .int .i64 0]) ?_ 1 _ rfl; (with_reducible repeat (first | refine blk_drewN ?_ _ | refine blk_drew ?_ | refine blk_alloc ?_ _)); refine blk_put (cs := #[.string (⟨#[]⟩ : ByteArray), .string (⟨#[]⟩ : ByteArray), .int .i64 0]) ?_ 0 _ rfl; (with_reducible repeat (first | refine blk_drewN ?_ _ | refine blk_drew ?_ | refine blk_alloc ?_ _)); exact BK338.out) Tryd.underlying31 rfl (by kernel_rfl)) rfl ?_
          exact ⟨by first | rfl | (simp [errW_none, errW_some] <;> rfl) | (simp [*, errW_none, errW_some] <;> rfl), by repeat (first | (with_reducible first | exact HB.out | apply below_alloc | apply pw_below_drewN | apply below_drew1 | refine below_set ?_ GE336.out | refine below_set ?_ GE337.out | refine below_set ?_ GE338.out) | exact HB.out)⟩
        · rw [if_neg c27] at H
          have c27b0 : (a0_2 == 60) = false := beq_eq_false_iff_ne.mpr c27
          have c27b1 : (a0_2 != 60) = true := bne_iff_ne.mpr c27
          replace H := Option.bind_eq_some_iff.mp H
          obtain ⟨t341, A330, H⟩ := H
          replace H : (if a0_1.size + t341.size ≤ 9223372036854775807 then (some (a0_0, a0_1 ++ t341, wrap64 (a0_2 + 1), 0)) else (none)) = some (r1, r2, r3, r4) := H
          have A33 := Aside0.mk A330
          clear A330
          by_cases c34 : a0_1.size + t341.size ≤ 9223372036854775807
          · rw [if_pos c34] at H
            have c34b0 := eq_true c34
            have c34b1 : decide (a0_1.size + t341.size ≤ 9223372036854775807) = true := decide_eq_true c34
            try have c34b2 : (9223372036854775807 < a0_1.size + t341.size) = False := eq_false (Nat.not_lt.2 c34)
            simp only [Option.some.injEq, Prod.mk.injEq] at H
            obtain ⟨rfl, rfl, rfl, rfl⟩ := H
            have hnb35 := NB336_337.out
            have hnc35 := NB337_336.out
            have hnb36 := NB336_338.out
            have hnc36 := NB338_336.out
            have hcz37_0 : wc.cell? ⟨gb336, 0, none⟩ = some (.string a0_0) := (blk_cell BK336.out 0).trans rfl
            have hcz37_1 : wc.cell? ⟨gb336, 1, none⟩ = some (.string a0_1) := (blk_cell BK336.out 1).trans rfl
            have hcz37_2 : wc.cell? ⟨gb336, 2, none⟩ = some (.int .i64 a0_2) := (blk_cell BK336.out 2).trans rfl
            have hfz37_0 := blk_frozen BK336.out 0
            have hfz37_1 := blk_frozen BK336.out 1
            have hfz37_2 := blk_frozen BK336.out 2
            try go_wp2
            have n0_ := Aside0.mk (blk_drew BK336.out)
            have n1_ := Aside0.mk (blk_drew BK337.out)
            have n2_ := Aside0.mk (blk_drew BK338.out)
            have n3_ := Aside0.mk (below_drew1 HB.out)
            clear BK336
            clear BK337
            clear BK338
            clear HB
            have BK336 := n0_
            have BK337 := n1_
            have BK338 := n2_
            have HB := n3_
            clear n0_ n1_ n2_ n3_
            refine start_ (n := 15) (S := fun w' => w'.cell? ⟨gb336, 0, none⟩ = some (.string a0_0) ∧ w'.cell? ⟨gb336, 1, none⟩ = some (.string a0_1) ∧ w'.cell? ⟨gb336, 2, none⟩ = some (.int .i64 a0_2) ∧ w'.cell? ⟨gb337, 0, none⟩ = some (.string a1_0) ∧ w'.cell? ⟨gb337, 1, none⟩ = some (.string a1_1)) (ds := []) #[false, false, false, false, false, false, false, false, false, false, false, false, false, false, false] (by kernel_rfl) rfl rfl ⟨(blk_cell BK336.out 0).trans rfl, (blk_cell BK336.out 1).trans rfl, (blk_cell BK336.out 2).trans rfl, (blk_cell BK337.out 0).trans rfl, (blk_cell BK337.out 1).trans rfl⟩ (fun hHeld => ?_); refine with_tabW impl_AppendRecord.tab5 impl_AppendRecord.bits5 (fun HT_ HW_ => ?_)
            generalize wc.drew = w38 at BK336 BK337 BK338 HB hHeld ⊢
            refine pure_ (i := 0) (N := some 21) (v := ?_) (a' := ?_) #[true, false, false, false, false, false, false, false, false, false, false, false, false, false, false] rfl rfl (any_of HT_.out (by kernel_rfl)) (fun _ _ _ h => h) (Or.inl ⟨by rfl, ?_⟩) ?_ ?_
            rotate_left
            · intro w'
              go_simp
              with_reducible rfl
            rotate_left
            · simp only [Act.put, List.setIfInBounds_toArray, List.set_cons_zero, List.set_cons_succ, i64_w, i32_w]
              rfl
            refine pure_ (i := 2) (N := some 23) (v := ?_) (a' := ?_) #[true, false, true, false, false, false, false, false, false, false, false, false, false, false, false] rfl rfl (any_of HT_.out (by kernel_rfl)) (fun _ _ _ h => h) (Or.inl ⟨by rfl, ?_⟩) ?_ ?_
            rotate_left
            · intro w'
              go_simp
              with_reducible rfl
            rotate_left
            · simp only [Act.put, List.setIfInBounds_toArray, List.set_cons_zero, List.set_cons_succ, i64_w, i32_w]
              rfl
            refine pure_ (i := 4) (N := some 25) (v := ?_) (a' := ?_) #[true, false, true, false, true, false, false, false, false, false, false, false, false, false, false] rfl rfl (any_of HT_.out (by kernel_rfl)) (fun _ _ _ h => h) (Or.inl ⟨by rfl, ?_⟩) ?_ ?_
            rotate_left
            · intro w'
              go_simp
              with_reducible rfl
            rotate_left
            · simp only [Act.put, List.setIfInBounds_toArray, List.set_cons_zero, List.set_cons_succ, i64_w, i32_w]
              rfl
            refine pure_ (i := 9) (N := some 30) (v := ?_) (a' := ?_) #[true, false, true, false, true, false, false, false, false, true, false, false, false, false, false] rfl rfl (any_of HT_.out (by kernel_rfl)) (fun _ _ _ h => h) (Or.inl ⟨by rfl, ?_⟩) ?_ ?_
            rotate_left
            · intro w'
              go_simp
              with_reducible rfl
            rotate_left
            · simp only [Act.put, List.setIfInBounds_toArray, List.set_cons_zero, List.set_cons_succ, i64_w, i32_w]
              rfl
            refine take_ (i := 1) (N := some 22) (v := ?_) (a' := ?_) #[true, true, true, false, true, false, false, false, false, true, false, false, false, false, false] rfl rfl (take_ofW HT_.out HW_.out (by kernel_rfl)) (fun _ _ _ h => h) (Or.inl ⟨by rfl, ?_⟩) hHeld ?_ ?_
            rotate_left
            · rintro w' ⟨s0, s1, s2, s3, s4⟩
              go_simp
              with_reducible rfl
            rotate_left
            · simp only [Act.put, List.setIfInBounds_toArray, List.set_cons_zero, List.set_cons_succ, i64_w, i32_w]
              rfl
            refine take_ (i := 3) (N := some 24) (v := ?_) (a' := ?_) #[true, true, true, true, true, false, false, false, false, true, false, false, false, false, false] rfl rfl (take_ofW HT_.out HW_.out (by kernel_rfl)) (fun _ _ _ h => h) (Or.inl ⟨by rfl, ?_⟩) hHeld ?_ ?_
            rotate_left
            · rintro w' ⟨s0, s1, s2, s3, s4⟩
              go_simp
              with_reducible rfl
            rotate_left
            · simp only [Act.put, List.setIfInBounds_toArray, List.set_cons_zero, List.set_cons_succ, i64_w, i32_w]
              rfl
            refine take_ (i := 5) (N := some 26) (v := ?_) (a' := ?_) #[true, true, true, true, true, true, false, false, false, true, false, false, false, false, false] rfl rfl (take_ofW HT_.out HW_.out (by kernel_rfl)) (fun _ _ _ h => h) (Or.inl ⟨by rfl, ?_⟩) hHeld ?_ ?_
            rotate_left
            · rintro w' ⟨s0, s1, s2, s3, s4⟩
              go_simp
              with_reducible rfl
            rotate_left
            · simp only [Act.put, List.setIfInBounds_toArray, List.set_cons_zero, List.set_cons_succ, i64_w, i32_w]
              rfl
            refine take_ (i := 6) (N := some 27) (v := ?_) (a' := ?_) #[true, true, true, true, true, true, true, false, false, true, false, false, false, false, false] rfl rfl (take_ofW HT_.out HW_.out (by kernel_rfl)) (fun _ _ _ h => h) (Or.inl ⟨by rfl, ?_⟩) hHeld ?_ ?_
            rotate_left
            · rintro w' ⟨s0, s1, s2, s3, s4⟩
              go_simp
              with_reducible rfl
            rotate_left
            · simp only [Act.put, List.setIfInBounds_toArray, List.set_cons_zero, List.set_cons_succ, i64_w, i32_w]
              rfl
            refine take_ (i := 10) (N := some 31) (v := ?_) (a' := ?_) #[true, true, true, true, true, true, true, false, false, true, true, false, false, false, false] rfl rfl (take_ofW HT_.out HW_.out (by kernel_rfl)) (fun _ _ _ h => h) (Or.inl ⟨by rfl, ?_⟩) hHeld ?_ ?_
            rotate_left
            · rintro w' ⟨s0, s1, s2, s3, s4⟩
              go_simp
              with_reducible rfl
            rotate_left
            · simp only [Act.put, List.setIfInBounds_toArray, List.set_cons_zero, List.set_cons_succ, i64_w, i32_w]
              rfl
            refine pure_ (i := 11) (N := some 32) (v := ?_) (a' := ?_) #[true, true, true, true, true, true, true, false, false, true, true, true, false, false, false] rfl rfl (any_of HT_.out (by kernel_rfl)) (fun _ _ _ h => h) (Or.inl ⟨by rfl, ?_⟩) ?_ ?_
            rotate_left
            · intro w'
              go_simp
              with_reducible rfl
            rotate_left
            · simp only [Act.put, List.setIfInBounds_toArray, List.set_cons_zero, List.set_cons_succ, i64_w, i32_w]
              rfl
            refine one_ (i := 7) (N := some 28) #[true, true, true, true, true, true, true, true, false, true, true, true, false, false, false] rfl rfl (one_of HT_.out (by kernel_rfl)) (by decide) (fun K hK => ?_)
            refine goes_ Tryd.func46 (by kernel_rfl) rfl #[.int .i64 a0_2, .agg #[.string a1_0, .string a1_1]] (by rfl) rfl rfl (by (try simp only [List.map_toArray, List.map_cons, List.map_nil]); first | done | rfl | (simp only [List.length_drop, List.length_take]; rfl)) ?_
            with_reducible refine (impl_encodeRecord.calls kj2 a0_2 a1_0 a1_1 t341 _ ?side1 A33.out).mono ?_
            (case side1 => exact Glob.below HGL.out (by repeat (first | (with_reducible first | exact HB.out | apply below_alloc | apply pw_below_drewN | apply below_drew1 | refine below_set ?_ GE336.out | refine below_set ?_ GE337.out | refine below_set ?_ GE338.out) | exact HB.out)))
            rintro e w39 ⟨rfl, hb⟩
            refine ⟨_, rfl, ?_⟩
            have n0_ := Aside0.mk (blk_below (g := gb336) (o := .cells #[.string a0_0, .string a0_1, .int .i64 a0_2] 31 (0, 0)) (by (with_reducible repeat (first | refine blk_drewN ?_ _ | refine blk_drew ?_ | refine blk_alloc ?_ _)); exact BK336.out) hb)
            have n1_ := Aside0.mk (blk_below (g := gb337) (o := .cells #[.string a1_0, .string a1_1] 27 (0, 0)) (by (with_reducible repeat (first | refine blk_drewN ?_ _ | refine blk_drew ?_ | refine blk_alloc ?_ _)); exact BK337.out) hb)
            have n2_ := Aside0.mk (blk_below (g := gb338) (o := .cells #[.string (⟨#[]⟩ : ByteArray), .string (⟨#[]⟩ : ByteArray), .int .i64 0] 31 (0, 0)) (by (with_reducible repeat (first | refine blk_drewN ?_ _ | refine blk_drew ?_ | refine blk_alloc ?_ _)); exact BK338.out) hb)
            have n3_ := Aside0.mk (below_step (by repeat (first | (with_reducible first | exact HB.out | apply below_alloc | apply pw_below_drewN | apply below_drew1 | refine below_set ?_ GE336.out | refine below_set ?_ GE337.out | refine below_set ?_ GE338.out) | exact HB.out)) hb)
            clear BK336
            clear BK337
            clear BK338
            clear HB
            have BK336 := n0_
            have BK337 := n1_
            have BK338 := n2_
            have HB := n3_
            clear n0_ n1_ n2_ n3_
            (try clear hb)
            (try clear hb2)
            (try clear hk)
            (try clear hi)
            refine hK.out _ _ ⟨(blk_cell BK336.out 0).trans rfl, (blk_cell BK336.out 1).trans rfl, (blk_cell BK336.out 2).trans rfl, (blk_cell BK337.out 0).trans rfl, (blk_cell BK337.out 1).trans rfl⟩ (fun hHeld => ?_)
            clear hK K
            refine norm_ (a' := ?_) ?_ ?_
            rotate_left
            · show Act.put _ (some 28) _ = _
              simp only [Act.put, List.setIfInBounds_toArray, List.set_cons_zero, List.set_cons_succ, i64_w, i32_w]
              rfl
            refine pure_ (i := 8) (N := some 29) (v := ?_) (a' := ?_) #[true, true, true, true, true, true, true, true, true, true, true, true, false, false, false] rfl rfl (any_of HT_.out (by kernel_rfl)) (fun _ _ _ h => h) (Or.inl ⟨by rfl, ?_⟩) ?_ ?_
            rotate_left
            · intro w'
              go_simp
              with_reducible rfl
            rotate_left
            · simp only [Act.put, List.setIfInBounds_toArray, List.set_cons_zero, List.set_cons_succ, i64_w, i32_w]
              rfl
            refine pure_ (i := 12) (N := some 33) (v := ?_) (a' := ?_) #[true, true, true, true, true, true, true, true, true, true, true, true, true, false, false] rfl rfl (any_of HT_.out (by kernel_rfl)) (fun _ _ _ h => h) (Or.inl ⟨by rfl, ?_⟩) ?_ ?_
            rotate_left
            · intro w'
              go_simp
              with_reducible rfl
            rotate_left
            · simp only [Act.put, List.setIfInBounds_toArray, List.set_cons_zero, List.set_cons_succ, i64_w, i32_w]
              rfl
            refine one_ (i := 13) (N := none) #[true, true, true, true, true, true, true, true, true, true, true, true, true, true, false] rfl rfl (one_of HT_.out (by kernel_rfl)) (by decide) (fun K hK => ?_)
            have hs40 : w39.cell? ⟨gb338, 0, none⟩ = some (.string (⟨#[]⟩ : ByteArray)) := (blk_cell BK338.out 0).trans rfl
            have hfs40 := blk_frozen BK338.out 0
            have hns40_0 := NB336_338.out
            have hns40_1 := NB337_338.out
            have hms40_0 := NB338_336.out
            have hms40_1 := NB338_337.out
            have hs41 : w39.cell? ⟨gb338, 1, none⟩ = some (.string (⟨#[]⟩ : ByteArray)) := (blk_cell BK338.out 1).trans rfl
            have hfs41 := blk_frozen BK338.out 1
            have hns41_0 := NB336_338.out
            have hns41_1 := NB337_338.out
            have hms41_0 := NB338_336.out
            have hms41_1 := NB338_337.out
            have hs42 : w39.cell? ⟨gb338, 2, none⟩ = some (.int .i64 0) := (blk_cell BK338.out 2).trans rfl
            have hfs42 := blk_frozen BK338.out 2
            have hns42_0 := NB336_338.out
            have hns42_1 := NB337_338.out
            have hms42_0 := NB338_336.out
            have hms42_1 := NB338_337.out
            refine skip_ (w1 := ?_) (by rfl) rfl ?_ ?_
            rotate_left
            · go_simp
              rfl
            refine hK.out _ _ ⟨((cell_far (p := ⟨gb338, _, none⟩) NB336_338.out _).trans (((cell_far (p := ⟨gb338, _, none⟩) NB336_338.out _).trans (((cell_far (p := ⟨gb338, _, none⟩) NB336_338.out _).trans (hHeld.1)))))), ((cell_far (p := ⟨gb338, _, none⟩) NB336_338.out _).trans (((cell_far (p := ⟨gb338, _, none⟩) NB336_338.out _).trans (((cell_far (p := ⟨gb338, _, none⟩) NB336_338.out _).trans (hHeld.2.1)))))), ((cell_far (p := ⟨gb338, _, none⟩) NB336_338.out _).trans (((cell_far (p := ⟨gb338, _, none⟩) NB336_338.out _).trans (((cell_far (p := ⟨gb338, _, none⟩) NB336_338.out _).trans (hHeld.2.2.1)))))), ((cell_far (p := ⟨gb338, _, none⟩) NB337_338.out _).trans (((cell_far (p := ⟨gb338, _, none⟩) NB337_338.out _).trans (((cell_far (p := ⟨gb338, _, none⟩) NB337_338.out _).trans (hHeld.2.2.2.1)))))), ((cell_far (p := ⟨gb338, _, none⟩) NB337_338.out _).trans (((cell_far (p := ⟨gb338, _, none⟩) NB337_338.out _).trans (((cell_far (p := ⟨gb338, _, none⟩) NB337_338.out _).trans (hHeld.2.2.2.2))))))⟩ (fun hHeld => ?_)
            clear hK K
            refine pure_ (i := 14) (N := some 5) (v := ?_) (a' := ?_) #[true, true, true, true, true, true, true, true, true, true, true, true, true, true, true] rfl rfl (any_of HT_.out (by kernel_rfl)) (fun _ _ _ h => h) (Or.inl ⟨by rfl, ?_⟩) ?_ ?_
            rotate_left
            · intro w'
              go_simp
              with_reducible rfl
            rotate_left
            · simp only [Act.put, List.setIfInBounds_toArray, List.set_cons_zero, List.set_cons_succ, i64_w, i32_w]
              rfl
            refine done_ (done_of HT_.out (by kernel_rfl)) ?_
            try go_wp2
            refine bodyPost_ret (results_ct rfl _ _ gb338 31 #[.string a0_0, .string (a0_1 ++ t341), .int .i64 (wrap64 (a0_2 + 1))] (0, 0) _ rfl (by (with_reducible repeat (first | refine blk_drewN ?_ _ | refine blk_drew ?_ | refine blk_alloc ?_ _)); refine blk_put (cs := #[.string a0_0, .string (a0_1 ++ t341), .int .i64 0]) ?_ 2 _ rfl; (with_reducible repeat (first | refine blk_drewN ?_ _ | refine blk_drew ?_ | refine blk_alloc ?_ _)); refine blk_put (cs := #[.string a0_0, .string (⟨#[]⟩ : ByteArray), .int .i64 0]) ?_ 1 _ rfl; (with_reducible repeat (first | refine blk_drewN ?_ _ | refine blk_drew ?_ | refine blk_alloc ?_ _)); refine blk_put (cs := #[.string (⟨#[]⟩ : ByteArray), .string (⟨#[]⟩ : ByteArray), .int .i64 0]) ?_ 0 _ rfl; (with_reducible repeat (first | refine blk_drewN ?_ _ | refine blk_drew ?_ | refine blk_alloc ?_ _)); exact BK338.out) Tryd.underlying31 rfl (by kernel_rfl)) rfl ?_
            exact ⟨by first | rfl | (simp [errW_none, errW_some] <;> rfl) | (simp [*, errW_none, errW_some] <;> rfl), by repeat (first | (with_reducible first | exact HB.out | apply below_alloc | apply pw_below_drewN | apply below_drew1 | refine below_set ?_ GE336.out | refine below_set ?_ GE337.out | refine below_set ?_ GE338.out) | exact HB.out)⟩
          · rw [if_neg c34] at H
            exact absurd H (by simp)

end Go.Proofs.YtkpieljmhgfofaaDoor.X


