/- Texts that the proof of the law FnExactPossibleOrders leans on, part 5 of 7. -/
import Derived.Test.YtnggfglmjdiaaaaKFnExactPossibleOrders1
import Derived.Test.YtnggfglmjdiaaaaKFnExactPossibleOrders2
import Derived.Test.YtnggfglmjdiaaaaKFnExactPossibleOrders3
set_option linter.unusedVariables false
set_option linter.unusedSimpArgs false
namespace Go.Proofs.Ytnggfglmjdiaaaa.X
open Go.RowKit Go.Proofs.YtnggfglmjdiaaaaW.PrintWords Go.Proofs.YtnggfglmjdiaaaaW.PrintLast Go.Proofs.YtnggfglmjdiaaaaW.PrintMore
attribute [local go_sem] max2_int min2_int max_two min_two max_three min_three max_four min_four
def cutAt (F : List (List Int)) (i m : Int) : List (List Int) := F.set i.toNat ((rd_L1 F i).take m.toNat)
def Ff (v : Bool) (Y : List (List Int)) (h : Int) (B : List (List Int)) : Option (List (List Int) × Int × List (List Int) × Bool) := if v = true then some (Y, h, B, true) else some ([], 0, [], false)
def lmPutY (k : Nat) (Y : List (List Int)) (h : Int) (B : List (List Int)) (b d_ : Int) : Option (List (List Int) × Int × List (List Int) × Bool) := if inRows Y d_ = true then (if (Df.f (rd_L1 Y d_)).isSome = true then (Df.f (rd_L1 Y d_)).bind fun c => if c.length < 17592186044415 then (Ac.f k (Y.set d_.toNat (c ++ [b])) h B).bind fun v => Ff v (Y.set d_.toNat (c ++ [b])) h B else none else none) else some ([], 0, [], false)
def lmPutB (k : Nat) (Y : List (List Int)) (h : Int) (B : List (List Int)) (b d_ : Int) : Option (List (List Int) × Int × List (List Int) × Bool) := if inRows B d_ = true then (if (Df.f (rd_L1 B d_)).isSome = true then (Df.f (rd_L1 B d_)).bind fun c => if c.length < 17592186044415 then (Ac.f k Y h (B.set d_.toNat (c ++ [b]))).bind fun v => Ff v Y h (B.set d_.toNat (c ++ [b])) else none else none) else some ([], 0, [], false)
def lmCut (F T : List (List Int)) (q1 q2 : Int) (ok : Bool) (go : List (List Int) → Option (List (List Int) × Int × List (List Int) × Bool)) : Option (List (List Int) × Int × List (List Int) × Bool) := if q1 < 0 then some ([], 0, [], false) else if q1 < (F.length : Int) then (if q2 = ((rd_L1 F q1).length : Int) - 1 then (if ok = true then (if 0 ≤ q2 ∧ q1 < (T.length : Int) ∧ q2 ≤ ((rd_L1 T q1).length : Int) then go (cutAt T q1 q2) else none) else some ([], 0, [], false)) else some ([], 0, [], false)) else none
def spec_l24Make.f (k : Nat) (l0_0 : List (List Int)) (a0_1 : Int) (l0_2 : List (List Int)) (a1_0 a1_1 a1_2 : Int) : Option (List (List Int) × Int × List (List Int) × Bool) :=
 (spec_l24Own.f k l0_0 a0_1 l0_2).bind fun t =>
 if a1_0 = 3 then (Ah.f k a0_1 l0_2 a1_1).bind fun q => lmCut l0_2 t.2.2 q.1 q.2 true fun F => lmPutY k t.1 t.2.1 F a1_1 a1_2
 else (Ae.f k l0_0 a1_1).bind fun q => if a1_0 = 1 then lmCut l0_0 t.1 q.1 q.2 (!decide (a1_2 = q.1)) fun F => lmPutY k F t.2.1 t.2.2 a1_1 a1_2 else if a1_0 = 2 then lmCut l0_0 t.1 q.1 q.2 true fun F => lmPutB k F t.2.1 t.2.2 a1_1 a1_2 else lmCut l0_0 t.1 q.1 q.2 true fun F => some ([], 0, [], false)
theorem lmPutY_mono (Y : List (List Int)) (h : Int) (B : List (List Int)) (b d_ : Int) (k : Nat) : LeO (lmPutY k Y h B b d_) (lmPutY (k + 1) Y h B b d_) := by
 unfold lmPutY
 refine LeO.ite (LeO.ite (LeO.bind (LeO.refl _) (fun c => LeO.ite (LeO.bind (Ac.mono _ _ _ _) (fun _ => LeO.refl _)) (LeO.refl _))) (LeO.refl _)) (LeO.refl _)
theorem lmPutB_mono (Y : List (List Int)) (h : Int) (B : List (List Int)) (b d_ : Int) (k : Nat) : LeO (lmPutB k Y h B b d_) (lmPutB (k + 1) Y h B b d_) := by
 unfold lmPutB
 refine LeO.ite (LeO.ite (LeO.bind (LeO.refl _) (fun c => LeO.ite (LeO.bind (Ac.mono _ _ _ _) (fun _ => LeO.refl _)) (LeO.refl _))) (LeO.refl _)) (LeO.refl _)
theorem lmCut_mono (F T : List (List Int)) (q1 q2 : Int) (ok : Bool) {g g' : List (List Int) → Option (List (List Int) × Int × List (List Int) × Bool)} (h : ∀ x, LeO (g x) (g' x)) : LeO (lmCut F T q1 q2 ok g) (lmCut F T q1 q2 ok g') := by
 unfold lmCut
 repeat' first | exact LeO.refl _ | exact h _ | refine LeO.ite ?_ ?_
theorem spec_l24Make.mono (l0_0 : List (List Int)) (a0_1 : Int) (l0_2 : List (List Int)) (a1_0 a1_1 a1_2 : Int) (k : Nat) : LeO (spec_l24Make.f k l0_0 a0_1 l0_2 a1_0 a1_1 a1_2) (spec_l24Make.f (k + 1) l0_0 a0_1 l0_2 a1_0 a1_1 a1_2) := by
 unfold spec_l24Make.f
 refine LeO.bind (spec_l24Own.mono _ _ _ _) (fun t => ?_)
 refine LeO.ite (LeO.bind (Ah.mono _ _ _ _) (fun q => lmCut_mono _ _ _ _ _ (fun x => lmPutY_mono _ _ _ _ _ _))) (LeO.bind (Ae.mono _ _ _) (fun q => LeO.ite (lmCut_mono _ _ _ _ _ (fun x => lmPutY_mono _ _ _ _ _ _)) (LeO.ite (lmCut_mono _ _ _ _ _ (fun x => lmPutB_mono _ _ _ _ _ _)) (LeO.refl _))))
theorem l1In_f2 (a b c : Int) : Bj.f a b c = some (decide (b ≤ a) && decide (a ≤ c)) := by
 unfold Bj.f
 by_cases h : a ≥ b
 ·rw [if_pos h]; simp [show b ≤ a from h]
 ·rw [if_neg h]; simp [show ¬ b ≤ a from h]
set_option maxHeartbeats 16000000 in
set_option maxRecDepth 100000 in
theorem spec_l24Make.callsT (k : Nat) (A0_0 : Option Addr) (c0_0 : Nat) (l0_0 : List (List Int)) (a0_1 : Int) (A0_2 : Option Addr) (c0_2 : Nat) (l0_2 : List (List Int)) (a1_0 a1_1 a1_2 : Int) (r1 : List (List Int)) (r2 : Int) (r3 : List (List Int)) (r4 : Bool) (w : World) (hr0_0 : Kd.C (Kd.slice 3 (Kd.int .i64)) w A0_0 l0_0.length l0_0) (hc0_0 : l0_0.length ≤ c0_0) (hr0_2 : Kd.C (Kd.slice 3 (Kd.int .i64)) w A0_2 l0_2.length l0_2) (hc0_2 : l0_2.length ≤ c0_2) (h : spec_l24Make.f k l0_0 a0_1 l0_2 a1_0 a1_1 a1_2 = some (r1, r2, r3, r4)) :
  Calls Try.prog 51 #[.agg #[.slice A0_0 l0_0.length c0_0, .int .i64 a0_1, .slice A0_2 l0_2.length c0_2], .agg #[.int .i64 a1_0, .int .i64 a1_1, .int .i64 a1_2]] w fun e w' => ∃ v0_ v2_ : Value, e = .returned (.tuple #[.agg #[v0_, .int .i64 r2, v2_], .bool r4]) ∧ Go.Proofs.YtnggfglmjdiaaaaOwn.TT 73 w' w.heap.size v0_ r1 v2_ r3 ∧ Below w.heap.size w w' := by
 have hu34 := Try.underlying34
 have hu43 := Try.underlying43
 have hu31 := Try.underlying31
 have hu32 := Try.underlying32
 have HR0_0 := Aside0.mk hr0_0
 have HC0_0 := Aside0.mk hc0_0
 clear hr0_0 hc0_0
 have HR0_2 := Aside0.mk hr0_2
 have HC0_2 := Aside0.mk hc0_2
 clear hr0_2 hc0_2
 have HB := Aside0.mk (Below.refl w.heap.size w)
 unfold spec_l24Make.f at h
 replace h := Option.bind_eq_some_iff.mp h
 obtain ⟨⟨Y, hh, B⟩, a_, h⟩ := h
 have A1 := Aside0.mk a_
 clear a_
 dsimp only at h
 go_enter Try.func51, Try.ntmps51
 go_upto_region 3 with (first | ((with_reducible refine gate_dst (N := 2) rfl ?_); refine box_event ?hg (N := 2) ?hd (cs := #[.slice A0_0 l0_0.length c0_0, .int .i64 a0_1, .slice A0_2 l0_2.length c0_2]) (t := 34) ?hr ?_; (case hd => rfl); (case hg => rfl); (case hr => first | (go_simp; done) | (go_simp; rfl)); intro gt hg w1 hbox hb; have GEgt := Aside0.mk (show w.heap.size ≤ gt by rw [hg]; exact below_size HB.out); have BKt := Aside0.mk hbox; replace HB := Aside0.mk (below_step HB.out hb); clear hb hbox hg; have hzgt_0 : w1.cell? ⟨gt, 0, none⟩ = some (.slice A0_0 l0_0.length c0_0) := (blk_cell BKt.out 0).trans rfl; have hzgt_1 : w1.cell? ⟨gt, 1, none⟩ = some (.int .i64 a0_1) := (blk_cell BKt.out 1).trans rfl; have hzgt_2 : w1.cell? ⟨gt, 2, none⟩ = some (.slice A0_2 l0_2.length c0_2) := (blk_cell BKt.out 2).trans rfl) | ((with_reducible refine gate_dst (N := 3) rfl ?_); refine box_event ?hg (N := 3) ?hd (cs := #[.int .i64 a1_0, .int .i64 a1_1, .int .i64 a1_2]) (t := 43) ?hr ?_; (case hd => rfl); (case hg => rfl); (case hr => first | (go_simp; done) | (go_simp; rfl)); intro gx hg w2 hbox hb; (try clear hzgt_0); (try clear hzgt_1); (try clear hzgt_2); have NBgt_gx := Aside0.mk (show gt ≠ gx by rw [hg]; exact Nat.ne_of_lt (blk_lt BKt.out)); have GEgx := Aside0.mk (show w.heap.size ≤ gx by rw [hg]; exact below_size HB.out); have BKx := Aside0.mk hbox; replace BKt := Aside0.mk (blk_below BKt.out hb); replace HB := Aside0.mk (below_step HB.out hb); clear hb hbox hg; have hzgt_0 : w2.cell? ⟨gt, 0, none⟩ = some (.slice A0_0 l0_0.length c0_0) := (blk_cell BKt.out 0).trans rfl; have hzgt_1 : w2.cell? ⟨gt, 1, none⟩ = some (.int .i64 a0_1) := (blk_cell BKt.out 1).trans rfl; have hzgt_2 : w2.cell? ⟨gt, 2, none⟩ = some (.slice A0_2 l0_2.length c0_2) := (blk_cell BKt.out 2).trans rfl) | ((with_reducible refine gate_dst (N := 4) rfl ?_); refine box_event ?hg (N := 4) ?hd (cs := #[.slice none 0 0, .int .i64 0, .slice none 0 0]) (t := 34) ?hr ?_; (case hd => rfl); (case hg => rfl); (case hr => first | (go_simp; done) | (go_simp; rfl)); intro gr hg w3 hbox hb; (try clear hzgt_0); (try clear hzgt_1); (try clear hzgt_2); have NBgt_gr := Aside0.mk (show gt ≠ gr by rw [hg]; exact Nat.ne_of_lt (blk_lt BKt.out)); have NBgx_gr := Aside0.mk (show gx ≠ gr by rw [hg]; exact Nat.ne_of_lt (blk_lt BKx.out)); have GEgr := Aside0.mk (show w.heap.size ≤ gr by rw [hg]; exact below_size HB.out); have BKr := Aside0.mk hbox; replace BKt := Aside0.mk (blk_below BKt.out hb); replace BKx := Aside0.mk (blk_below BKx.out hb); replace HB := Aside0.mk (below_step HB.out hb); clear hb hbox hg; have hzgt_0 : w3.cell? ⟨gt, 0, none⟩ = some (.slice A0_0 l0_0.length c0_0) := (blk_cell BKt.out 0).trans rfl; have hzgt_1 : w3.cell? ⟨gt, 1, none⟩ = some (.int .i64 a0_1) := (blk_cell BKt.out 1).trans rfl; have hzgt_2 : w3.cell? ⟨gt, 2, none⟩ = some (.slice A0_2 l0_2.length c0_2) := (blk_cell BKt.out 2).trans rfl) | ((with_reducible refine gate_dst (N := 6) rfl ?_); refine box_event ?hg (N := 6) ?hd (cs := #[.slice none 0 0, .int .i64 0, .slice none 0 0]) (t := 34) ?hr ?_; (case hd => rfl); (case hg => rfl); (case hr => first | (go_simp; done) | (go_simp; rfl)); intro gn hg w4 hbox hb; (try clear hzgt_0); (try clear hzgt_1); (try clear hzgt_2); have NBgt_gn := Aside0.mk (show gt ≠ gn by rw [hg]; exact Nat.ne_of_lt (blk_lt BKt.out)); have NBgx_gn := Aside0.mk (show gx ≠ gn by rw [hg]; exact Nat.ne_of_lt (blk_lt BKx.out)); have NBgr_gn := Aside0.mk (show gr ≠ gn by rw [hg]; exact Nat.ne_of_lt (blk_lt BKr.out)); have GEgn := Aside0.mk (show w.heap.size ≤ gn by rw [hg]; exact below_size HB.out); have BKn := Aside0.mk hbox; replace BKt := Aside0.mk (blk_below BKt.out hb); replace BKx := Aside0.mk (blk_below BKx.out hb); replace BKr := Aside0.mk (blk_below BKr.out hb); replace HB := Aside0.mk (below_step HB.out hb); clear hb hbox hg; have hzgt_0 : w4.cell? ⟨gt, 0, none⟩ = some (.slice A0_0 l0_0.length c0_0) := (blk_cell BKt.out 0).trans rfl; have hzgt_1 : w4.cell? ⟨gt, 1, none⟩ = some (.int .i64 a0_1) := (blk_cell BKt.out 1).trans rfl; have hzgt_2 : w4.cell? ⟨gt, 2, none⟩ = some (.slice A0_2 l0_2.length c0_2) := (blk_cell BKt.out 2).trans rfl) | ((with_reducible refine gate_store (t := 34) (p := 6) rfl ?_); refine Go.Proofs.YtnggfglmjdiaaaaOwn.sto3 (t := 34) (p := 6) (g := gn) (w0 := w) Yba_ rfl rfl rfl rfl (by rfl) BKn.out HB.out GEgn.out ?_; intro w5 hbx_ hB_ hO_; (try clear hzgt_0); (try clear hzgt_1); (try clear hzgt_2); replace BKt := Aside0.mk ((hO_.others _ NBgt_gn.out).trans BKt.out); replace BKx := Aside0.mk ((hO_.others _ NBgx_gn.out).trans BKx.out); replace BKr := Aside0.mk ((hO_.others _ NBgr_gn.out).trans BKr.out); clear BKn HB hO_; have BKn := Aside0.mk hbx_; have HB := Aside0.mk hB_; clear hbx_ hB_; have hzgt_0 : w5.cell? ⟨gt, 0, none⟩ = some (.slice A0_0 l0_0.length c0_0) := (blk_cell BKt.out 0).trans rfl; have hzgt_1 : w5.cell? ⟨gt, 1, none⟩ = some (.int .i64 a0_1) := (blk_cell BKt.out 1).trans rfl; have hzgt_2 : w5.cell? ⟨gt, 2, none⟩ = some (.slice A0_2 l0_2.length c0_2) := (blk_cell BKt.out 2).trans rfl) | ((with_reducible refine gate_callee (f := 59) rfl ?_); (try (refine gate_guard (by rfl) ?_; dsimp only)); refine goesL_ (some 14) rfl rfl Try.func59 Yba_ rfl #[.agg #[.slice A0_0 l0_0.length c0_0, .int .i64 a0_1, .slice A0_2 l0_2.length c0_2]] rfl Ye_ ?_; (with_reducible refine (spec_l24Own.calls2 k _ _ l0_0 a0_1 _ _ l0_2 Y hh B _ (Kd.C_below HR0_0.out HB.out) HC0_0.out (Kd.C_below HR0_2.out HB.out) HC0_2.out A1.out).mono ?_); rintro e w6 ⟨P_, v0_, v2_, rfl, ho0, ho1, hb⟩; (try clear hzgt_0); (try clear hzgt_1); (try clear hzgt_2); refine ⟨_, rfl, ?_⟩; have ht_ := (Go.Proofs.YtnggfglmjdiaaaaOwn.TT.of2 ho0 ho1).lower (below_size HB.out); clear ho0 ho1; obtain ⟨nY, AY, cY, ey_, hn_⟩ := ht_.open_; subst ey_; clear hn_; obtain ⟨nB, AB, cB, eb_, hn_⟩ := ht_.swap.open_; subst eb_; clear hn_; replace BKt := Aside0.mk (blk_below BKt.out hb); replace BKx := Aside0.mk (blk_below BKx.out hb); replace BKr := Aside0.mk (blk_below BKr.out hb); replace BKn := Aside0.mk (blk_below BKn.out hb); replace HB := Aside0.mk (below_step HB.out hb); have HT := Aside0.mk ht_; clear ht_ hb; have hzgt_0 : w6.cell? ⟨gt, 0, none⟩ = some (.slice A0_0 l0_0.length c0_0) := (blk_cell BKt.out 0).trans rfl; have hzgt_1 : w6.cell? ⟨gt, 1, none⟩ = some (.int .i64 a0_1) := (blk_cell BKt.out 1).trans rfl; have hzgt_2 : w6.cell? ⟨gt, 2, none⟩ = some (.slice A0_2 l0_2.length c0_2) := (blk_cell BKt.out 2).trans rfl) | ((with_reducible refine gate_dst (N := 7) rfl ?_); refine box_event ?hg (N := 7) ?hd (cs := #[.slice none 0 0, .int .i64 0, .slice none 0 0]) (t := 34) ?hr ?_; (case hd => rfl); (case hg => rfl); (case hr => first | (go_simp; done) | (go_simp; rfl)); intro go hg w7 hbox hb; (try clear hzgt_0); (try clear hzgt_1); (try clear hzgt_2); have NBgt_go := Aside0.mk (show gt ≠ go by rw [hg]; exact Nat.ne_of_lt (blk_lt BKt.out)); have NBgx_go := Aside0.mk (show gx ≠ go by rw [hg]; exact Nat.ne_of_lt (blk_lt BKx.out)); have NBgr_go := Aside0.mk (show gr ≠ go by rw [hg]; exact Nat.ne_of_lt (blk_lt BKr.out)); have NBgn_go := Aside0.mk (show gn ≠ go by rw [hg]; exact Nat.ne_of_lt (blk_lt BKn.out)); have GEgo := Aside0.mk (show w.heap.size ≤ go by rw [hg]; exact below_size HB.out); have BKo := Aside0.mk hbox; replace HT := Aside0.mk (HT.out.below hb); replace BKt := Aside0.mk (blk_below BKt.out hb); replace BKx := Aside0.mk (blk_below BKx.out hb); replace BKr := Aside0.mk (blk_below BKr.out hb); replace BKn := Aside0.mk (blk_below BKn.out hb); replace HB := Aside0.mk (below_step HB.out hb); clear hb hbox hg; have hzgt_0 : w7.cell? ⟨gt, 0, none⟩ = some (.slice A0_0 l0_0.length c0_0) := (blk_cell BKt.out 0).trans rfl; have hzgt_1 : w7.cell? ⟨gt, 1, none⟩ = some (.int .i64 a0_1) := (blk_cell BKt.out 1).trans rfl; have hzgt_2 : w7.cell? ⟨gt, 2, none⟩ = some (.slice A0_2 l0_2.length c0_2) := (blk_cell BKt.out 2).trans rfl) | ((with_reducible refine gate_store (t := 34) (p := 7) rfl ?_); refine Go.Proofs.YtnggfglmjdiaaaaOwn.sto3 (t := 34) (p := 7) (g := go) (w0 := w) Yba_ rfl rfl rfl rfl (by rfl) BKo.out HB.out GEgo.out ?_; intro w8 hbx_ hB_ hO_; (try clear hzgt_0); (try clear hzgt_1); (try clear hzgt_2); replace HT := Aside0.mk (HT.out.only BKo.out (by decide) hO_); replace BKt := Aside0.mk ((hO_.others _ NBgt_go.out).trans BKt.out); replace BKx := Aside0.mk ((hO_.others _ NBgx_go.out).trans BKx.out); replace BKr := Aside0.mk ((hO_.others _ NBgr_go.out).trans BKr.out); replace BKn := Aside0.mk ((hO_.others _ NBgn_go.out).trans BKn.out); clear BKo HB hO_; have BKo := Aside0.mk hbx_; have HB := Aside0.mk hB_; clear hbx_ hB_; have hzgt_0 : w8.cell? ⟨gt, 0, none⟩ = some (.slice A0_0 l0_0.length c0_0) := (blk_cell BKt.out 0).trans rfl; have hzgt_1 : w8.cell? ⟨gt, 1, none⟩ = some (.int .i64 a0_1) := (blk_cell BKt.out 1).trans rfl; have hzgt_2 : w8.cell? ⟨gt, 2, none⟩ = some (.slice A0_2 l0_2.length c0_2) := (blk_cell BKt.out 2).trans rfl))
 (try clear hzgt_0)
 (try clear hzgt_1)
 (try clear hzgt_2)
 have hzgt_0 : w8.cell? ⟨gt, 0, none⟩ = some (.slice A0_0 l0_0.length c0_0) := (blk_cell BKt.out 0).trans rfl
 have hzgt_1 : w8.cell? ⟨gt, 1, none⟩ = some (.int .i64 a0_1) := (blk_cell BKt.out 1).trans rfl
 have hzgt_2 : w8.cell? ⟨gt, 2, none⟩ = some (.slice A0_2 l0_2.length c0_2) := (blk_cell BKt.out 2).trans rfl
 have hzgx_0 : w8.cell? ⟨gx, 0, none⟩ = some (.int .i64 a1_0) := (blk_cell BKx.out 0).trans rfl
 have hzgx_1 : w8.cell? ⟨gx, 1, none⟩ = some (.int .i64 a1_1) := (blk_cell BKx.out 1).trans rfl
 have hzgx_2 : w8.cell? ⟨gx, 2, none⟩ = some (.int .i64 a1_2) := (blk_cell BKx.out 2).trans rfl
 have hzgn_0 : w8.cell? ⟨gn, 0, none⟩ = some (.slice none 0 0) := (blk_cell BKn.out 0).trans rfl
 have hzgn_1 : w8.cell? ⟨gn, 1, none⟩ = some (.int .i64 0) := (blk_cell BKn.out 1).trans rfl
 have hzgn_2 : w8.cell? ⟨gn, 2, none⟩ = some (.slice none 0 0) := (blk_cell BKn.out 2).trans rfl
 by_cases k3 : a1_0 = 3
 ·rw [if_pos k3] at h
  subst k3
  replace h := Option.bind_eq_some_iff.mp h
  obtain ⟨⟨q1, q2⟩, a_, h⟩ := h
  have A2 := Aside0.mk a_
  clear a_
  dsimp only at h
  unfold lmCut at h
  by_cases c1 : q1 < 0
  ·rw [if_pos c1] at h
   simp only [Option.some.injEq, Prod.mk.injEq] at h
   obtain ⟨rfl, rfl, rfl, rfl⟩ := h
   have cb1 : decide (q1 < 0) = true := decide_eq_true c1
   clear c1
   clear BKx
   clear BKo
   clear HT
   go_wp2_with (first | (go_at_call 48; (with_reducible refine (Ah.calls k a0_1 _ _ l0_2 a1_1 q1 q2 _ (Kd.C_below HR0_2.out HB.out) HC0_2.out A2.out).mono ?_); rintro e w9 ⟨rfl, hb⟩; (try clear hzgn_0); (try clear hzgn_1); (try clear hzgn_2); (try clear hzgt_0); (try clear hzgt_1); (try clear hzgt_2); (try clear hzgx_0); (try clear hzgx_1); (try clear hzgx_2); replace BKt := Aside0.mk (blk_below BKt.out hb); replace BKr := Aside0.mk (blk_below BKr.out hb); replace BKn := Aside0.mk (blk_below BKn.out hb); replace HB := Aside0.mk (below_step HB.out hb); clear hb; have hzgn_0 : w9.cell? ⟨gn, 0, none⟩ = some (.slice none 0 0) := (blk_cell BKn.out 0).trans rfl; have hzgn_1 : w9.cell? ⟨gn, 1, none⟩ = some (.int .i64 0) := (blk_cell BKn.out 1).trans rfl; have hzgn_2 : w9.cell? ⟨gn, 2, none⟩ = some (.slice none 0 0) := (blk_cell BKn.out 2).trans rfl) | ((with_reducible refine gate_store (t := 34) (p := 4) rfl ?_); refine Go.Proofs.YtnggfglmjdiaaaaOwn.sto3 (t := 34) (p := 4) (g := gr) (w0 := w) Yba_ rfl rfl rfl rfl (by rfl) BKr.out HB.out GEgr.out ?_; intro w10 hbx_ hB_ hO_; (try clear hzgn_0); (try clear hzgn_1); (try clear hzgn_2); clear BKr HB hO_; have BKr := Aside0.mk hbx_; have HB := Aside0.mk hB_; clear hbx_ hB_))
   refine bodyPost_ret (Dh rfl _ _ gr 34 #[.slice none 0 0, .int .i64 0, .slice none 0 0] (0, 0) _ rfl BKr.out Try.underlying34 rfl Yba_) rfl ?_
   exact ⟨_, _, rfl, Go.Proofs.YtnggfglmjdiaaaaOwn.TT.nil _ _ _, HB.out⟩
  ·rw [if_neg c1] at h
   by_cases c2 : q1 < (l0_2.length : Int)
   ·rw [if_pos c2] at h
    have cb1 : decide (q1 < 0) = false := decide_eq_false c1
    have p_ : 0 ≤ q1 := by omega
    obtain ⟨adT, AT, cT, eT, hx_, hl_, hi_⟩ := C9 HR0_2.out q1 p_ c2
    subst eT
    have hlw_ := hi_.2.1
    obtain ⟨sT, hsT⟩ : ∃ z, z = rd_L1 l0_2 q1 := ⟨_, rfl⟩
    rw [← hsT] at h hx_ hlw_
    clear hl_ hi_ hsT
    have HXT := Aside0.mk hx_
    clear hx_
    have hwt_ : wrap64 ((sT.length : Int) - 1) = (sT.length : Int) - 1 := by unfold wrap64; omega
    clear hlw_
    have C1 := Aside0.mk p_
    have C2 := Aside0.mk c2
    have p1_ := eq_true p_
    have q1_ := eq_true c2
    clear p_ c1 c2
    by_cases c3 : q2 = (sT.length : Int) - 1
    ·rw [if_pos c3] at h
     have d1_ : (q2 == (sT.length : Int) - 1) = true := by simp [c3]
     have d2_ : decide (q2 = (sT.length : Int) - 1) = true := decide_eq_true c3
     have d3_ : (q2 != (sT.length : Int) - 1) = false := by simp [c3]
     clear c3
     rw [if_pos rfl] at h
     by_cases c5 : 0 ≤ q2 ∧ q1 < (B.length : Int) ∧ q2 ≤ ((rd_L1 B q1).length : Int)
     ·rw [if_pos c5] at h
      obtain ⟨sF, hsF⟩ : ∃ z, z = rd_L1 B q1 := ⟨_, rfl⟩
      rw [← hsF] at c5
      have HSsF := Aside0.mk hsF
      obtain ⟨c5, c6, c7⟩ := c5
      have Pq1 := Aside0.mk (show 0 ≤ q1 ∧ q1 < (nB : Int) from ⟨C1.out, by have := HT.out.swap.reads.1; omega⟩)
      have HMq2 := Aside0.mk (show (q2).toNat ≤ sF.length from by omega)
      have HQ0 := Aside0.mk c5
      have HQ1 := Aside0.mk c7
      clear c5 c6 c7
      obtain ⟨lF, hlF⟩ : ∃ z, z = cutAt B q1 q2 := ⟨_, rfl⟩
      have HLlF := Aside0.mk (show lF = B.set (q1).toNat ((B.getD (q1).toNat []).take (q2).toNat) from hlF)
      rw [← hlF] at h
      (try dsimp only at h)
      clear hlF hsF
      go_upto_region 7 with (first | (go_at_call 48; (with_reducible refine (Ah.calls k a0_1 _ _ l0_2 a1_1 q1 q2 _ (Kd.C_below HR0_2.out HB.out) HC0_2.out A2.out).mono ?_); rintro e w11 ⟨rfl, hb⟩; (try clear hzgn_0); (try clear hzgn_1); (try clear hzgn_2); (try clear hzgt_0); (try clear hzgt_1); (try clear hzgt_2); (try clear hzgx_0); (try clear hzgx_1); (try clear hzgx_2); replace HT := Aside0.mk (HT.out.below hb); replace BKt := Aside0.mk (blk_below BKt.out hb); replace BKx := Aside0.mk (blk_below BKx.out hb); replace BKr := Aside0.mk (blk_below BKr.out hb); replace BKn := Aside0.mk (blk_below BKn.out hb); replace BKo := Aside0.mk (blk_below BKo.out hb); replace HB := Aside0.mk (below_step HB.out hb); have hxt_ : w11.cell? (adT.add q1.toNat) = some (.slice AT sT.length cT) := (HB.out.cell (World.block_lt_of_cell? w _ HXT.out)).trans HXT.out; clear hb; have hzgt_0 : w11.cell? ⟨gt, 0, none⟩ = some (.slice A0_0 l0_0.length c0_0) := (blk_cell BKt.out 0).trans rfl; have hzgt_1 : w11.cell? ⟨gt, 1, none⟩ = some (.int .i64 a0_1) := (blk_cell BKt.out 1).trans rfl; have hzgt_2 : w11.cell? ⟨gt, 2, none⟩ = some (.slice (some adT) l0_2.length c0_2) := (blk_cell BKt.out 2).trans rfl; have hzgx_0 : w11.cell? ⟨gx, 0, none⟩ = some (.int .i64 3) := (blk_cell BKx.out 0).trans rfl; have hzgx_1 : w11.cell? ⟨gx, 1, none⟩ = some (.int .i64 a1_1) := (blk_cell BKx.out 1).trans rfl; have hzgx_2 : w11.cell? ⟨gx, 2, none⟩ = some (.int .i64 a1_2) := (blk_cell BKx.out 2).trans rfl))
      clear hwt_ d1_ d2_ d3_ p1_ q1_
      (try clear hxt_)
      (try clear hzgt_0)
      (try clear hzgt_1)
      (try clear hzgt_2)
      (try clear hzgx_0)
      (try clear hzgx_1)
      (try clear hzgx_2)
      clear BKt
      obtain ⟨gB_, eg_, gb_, gl_⟩ := HT.out.swap.form Yfa_
      have GEB := Aside0.mk gb_
      clear gb_ gl_
      subst eg_
      obtain ⟨AsF, csF, hv_, hc_, hC_, hf_⟩ := Go.Proofs.YtnggfglmjdiaaaaOwn.TT.elem HT.out.swap (i := q1) Pq1.out.1 Yfa_
      have e_ : (B.getD (q1).toNat []) = sF := HSsF.out.symm
      rw [e_] at hv_ hc_ hC_
      clear e_
      have HVsF := Aside0.mk hv_
      have HCsF := Aside0.mk hc_
      have HRsF := Aside0.mk hC_
      have HFsF := Aside0.mk hf_
      clear hv_ hc_ hC_ hf_
      have NXB_gx := Aside0.mk (Go.Proofs.YtnggfglmjdiaaaaOwn.TT.ne HT.out.swap BKx.out (by decide))
      have NXB_gr := Aside0.mk (Go.Proofs.YtnggfglmjdiaaaaOwn.TT.ne HT.out.swap BKr.out (by decide))
      have NXB_gn := Aside0.mk (Go.Proofs.YtnggfglmjdiaaaaOwn.TT.ne HT.out.swap BKn.out (by decide))
      have NXB_go := Aside0.mk (Go.Proofs.YtnggfglmjdiaaaaOwn.TT.ne HT.out.swap BKo.out (by decide))
      have p_q1 : 0 ≤ q1 := Pq1.out.1
      have q_q1 : q1 < (nB : Int) := Pq1.out.2
      replace p_q1 := eq_true p_q1
      replace q_q1 := eq_true q_q1
      obtain ⟨i0_, hi0_, _, hsz0_, _⟩ := info_parts info3
      have hcut_ := cut_to (P := Try.prog) 73 3 .i64 Try.underlying73 hi0_ AsF sF.length csF q2 HQ0.out HQ1.out HCsF.out
      replace HT := Aside0.mk (HT.out.drew)
      replace BKx := Aside0.mk (blk_drew BKx.out)
      replace BKr := Aside0.mk (blk_drew BKr.out)
      replace BKn := Aside0.mk (blk_drew BKn.out)
      replace BKo := Aside0.mk (blk_drew BKo.out)
      replace HB := Aside0.mk (below_drew1 HB.out)
      replace HVsF := Aside0.mk ((show (w11.drew).cell? ⟨gB_, (q1).toNat, none⟩ = some (.slice AsF sF.length csF) from HVsF.out))
      replace HFsF := Aside0.mk ((show (w11.drew).frozen? ⟨gB_, (q1).toNat, none⟩ = false from HFsF.out))
      refine start_ (n := 14) (S := fun w' => w'.cell? ⟨gB_, (q1).toNat, none⟩ = some (.slice AsF sF.length csF) ∧ w'.cell? ⟨go, 2, none⟩ = some (.slice (some ⟨gB_, 0, none⟩) nB cB)) (ds := [13]) #[false, false, false, false, false, false, false, false, false, false, false, false, false, false] Yba_ rfl rfl ⟨HVsF.out, (blk_cell BKo.out 2).trans rfl⟩ (fun hHeld => ?_)
      generalize w11.drew = w12 at HT BKx BKr BKn BKo HB HVsF HFsF hHeld ⊢
      refine pure_ (i := 0) (N := some 41) #[true, false, false, false, false, false, false, false, false, false, false, false, false, false] rfl rfl Yba_ (fun _ _ _ h => h) (Or.inl ⟨by rfl, Yj_⟩) Ya_ ?_
      refine pure_ (i := 1) (N := some 42) #[true, true, false, false, false, false, false, false, false, false, false, false, false, false] rfl rfl Yba_ (fun _ _ _ h => h) (Or.inl ⟨by rfl, Yj_⟩) Ya_ ?_
      refine pure_ (i := 3) (N := some 44) #[true, true, false, true, false, false, false, false, false, false, false, false, false, false] rfl rfl Yba_ (fun _ _ _ h => h) (Or.inl ⟨by rfl, Yj_⟩) Ya_ ?_
      refine pure_ (i := 4) (N := some 45) #[true, true, false, true, true, false, false, false, false, false, false, false, false, false] rfl rfl Yba_ (fun _ _ _ h => h) (Or.inl ⟨by rfl, Yj_⟩) Ya_ ?_
      refine pure_ (i := 5) (N := some 46) #[true, true, false, true, true, true, false, false, false, false, false, false, false, false] rfl rfl Yba_ (fun _ _ _ h => h) (Or.inl ⟨by rfl, Yj_⟩) Ya_ ?_
      refine pure_ (i := 7) (N := some 48) #[true, true, false, true, true, true, false, true, false, false, false, false, false, false] rfl rfl Yba_ (fun _ _ _ h => h) (Or.inl ⟨by rfl, Yj_⟩) Ya_ ?_
      refine pure_ (i := 10) (N := some 51) #[true, true, false, true, true, true, false, true, false, false, true, false, false, false] rfl rfl Yba_ (fun _ _ _ h => h) (Or.inl ⟨by rfl, Yj_⟩) Ya_ ?_
      refine take_ (i := 2) (N := some 43) #[true, true, true, true, true, true, false, true, false, false, true, false, false, false] rfl rfl Yba_ (fun _ _ _ h => h) (Or.inl ⟨by rfl, Ycb_⟩) hHeld Ya_ ?_
      refine take_ (i := 6) (N := some 47) #[true, true, true, true, true, true, true, true, false, false, true, false, false, false] rfl rfl Yba_ (fun _ _ _ h => h) (Or.inl ⟨by rfl, Ycb_⟩) hHeld Ya_ ?_
      refine pure_ (i := 8) (N := some 49) #[true, true, true, true, true, true, true, true, true, false, true, false, false, false] rfl rfl Yba_ (fun _ _ _ h => h) (Or.inl ⟨by rfl, Yj_⟩) Ya_ ?_
      refine take_ (i := 9) (N := some 50) #[true, true, true, true, true, true, true, true, true, true, true, false, false, false] rfl rfl Yba_ (fun _ _ _ h => h) (Or.inl ⟨by rfl, Ycb_⟩) hHeld Ya_ ?_
      refine pure_ (i := 11) (N := some 52) #[true, true, true, true, true, true, true, true, true, true, true, true, false, false] rfl rfl Yba_ (fun _ _ _ h => h) (Or.inl ⟨by rfl, Yj_⟩) Ya_ ?_
      refine pure_ (i := 12) (N := some 53) #[true, true, true, true, true, true, true, true, true, true, true, true, true, false] rfl rfl Yba_ (fun _ _ _ h => h) (Or.inl ⟨by rfl, Yj_⟩) Ya_ ?_
      refine last_ (i := 13) (N := none) #[true, true, true, true, true, true, true, true, true, true, true, true, true, true] rfl rfl Yba_ (by decide) (fun K hK => ?_)
      have hv_ := HVsF.out
      have hf_ := HFsF.out
      refine Go.Proofs.YtnggfglmjdiaaaaOwn.Fh (w1 := (w12.setCell ⟨gB_, (q1).toNat, none⟩ (.slice AsF (q2).toNat csF))) (by rfl) rfl ?_ ?_
      ·first | (go_simp; done) | (go_simp; rfl)
      intro w13 hw
      clear hv_ hf_
      have hO_ : Go.Proofs.YtnggfglmjdiaaaaOwn.Only w12 w13 gB_ := Yca_
      have ht_ := (Go.Proofs.YtnggfglmjdiaaaaOwn.TT.cut HT.out.swap Pq1.out.1 Yfa_ HVsF.out (by rw [show (B.getD (q1).toNat []) = sF from HSsF.out.symm]; exact HMq2.out)).1.swap
      rw [← hw] at ht_
      clear HT
      have HT := Aside0.mk ht_
      clear ht_ hw
      replace BKx := Aside0.mk ((hO_.others _ NXB_gx.out).trans BKx.out)
      replace BKr := Aside0.mk ((hO_.others _ NXB_gr.out).trans BKr.out)
      replace BKn := Aside0.mk ((hO_.others _ NXB_gn.out).trans BKn.out)
      replace BKo := Aside0.mk ((hO_.others _ NXB_go.out).trans BKo.out)
      replace HB := Aside0.mk (hO_.below HB.out GEB.out)
      clear hO_
      clear NXB_gx
      clear NXB_gr
      clear NXB_gn
      clear NXB_go
      rw [show B.set (q1).toNat ((B.getD (q1).toNat []).take (q2).toNat) = lF from HLlF.out.symm] at HT
      refine hK.out _ _ ?_
      clear hK K
      refine done_ Yba_ ?_
      clear p_q1 q_q1 HVsF HFsF HCsF HRsF
      clear hcut_ hi0_ hsz0_ HQ0 HQ1 HMq2
      have hzgx_0 : w13.cell? ⟨gx, 0, none⟩ = some (.int .i64 3) := (blk_cell BKx.out 0).trans rfl
      have hzgx_1 : w13.cell? ⟨gx, 1, none⟩ = some (.int .i64 a1_1) := (blk_cell BKx.out 1).trans rfl
      have hzgx_2 : w13.cell? ⟨gx, 2, none⟩ = some (.int .i64 a1_2) := (blk_cell BKx.out 2).trans rfl
      have hzgn_0 : w13.cell? ⟨gn, 0, none⟩ = some (.slice none 0 0) := (blk_cell BKn.out 0).trans rfl
      have hzgn_1 : w13.cell? ⟨gn, 1, none⟩ = some (.int .i64 0) := (blk_cell BKn.out 1).trans rfl
      have hzgn_2 : w13.cell? ⟨gn, 2, none⟩ = some (.slice none 0 0) := (blk_cell BKn.out 2).trans rfl
      have hzgo_0 : w13.cell? ⟨go, 0, none⟩ = some (.slice AY nY cY) := (blk_cell BKo.out 0).trans rfl
      have hzgo_1 : w13.cell? ⟨go, 1, none⟩ = some (.int .i64 hh) := (blk_cell BKo.out 1).trans rfl
      have hzgo_2 : w13.cell? ⟨go, 2, none⟩ = some (.slice (some ⟨gB_, 0, none⟩) nB cB) := (blk_cell BKo.out 2).trans rfl
      unfold lmPutY at h
      have hwn_ : wrap64 ((nY : Int) - 1) = (nY : Int) - 1 := by have h1_ := HT.out.reads; have h2_ := h1_.2.2.2.1; have h3_ := h1_.1; unfold wrap64; omega
      have HWI := Aside0.mk (show Bj.f a1_2 0 ((nY : Int) - 1) = some (inRows Y a1_2) from by rw [HT.out.reads.1]; exact l1In_f2 _ _ _)
      cases cW : inRows Y a1_2 with
      | false =>
       rw [cW] at HWI
       rw [cW, if_neg (by decide)] at h
       simp only [Option.some.injEq, Prod.mk.injEq] at h
       obtain ⟨rfl, rfl, rfl, rfl⟩ := h
       clear BKx
       clear BKo
       clear HT
       go_wp2_with (first | (go_at_call 71; (with_reducible refine (Bj.calls a1_2 0 ((nY : Int) - 1) false _ HWI.out).mono ?_); rintro e w14 ⟨rfl, hd_⟩; (try clear hzgn_0); (try clear hzgn_1); (try clear hzgn_2); (try clear hzgo_0); (try clear hzgo_1); (try clear hzgo_2); (try clear hzgx_0); (try clear hzgx_1); (try clear hzgx_2); have hb := Drawn0.below hd_; clear hd_; replace BKr := Aside0.mk (blk_below BKr.out hb); replace BKn := Aside0.mk (blk_below BKn.out hb); replace HB := Aside0.mk (below_step HB.out hb); clear hb; have hzgn_0 : w14.cell? ⟨gn, 0, none⟩ = some (.slice none 0 0) := (blk_cell BKn.out 0).trans rfl; have hzgn_1 : w14.cell? ⟨gn, 1, none⟩ = some (.int .i64 0) := (blk_cell BKn.out 1).trans rfl; have hzgn_2 : w14.cell? ⟨gn, 2, none⟩ = some (.slice none 0 0) := (blk_cell BKn.out 2).trans rfl) | ((with_reducible refine gate_store (t := 34) (p := 4) rfl ?_); refine Go.Proofs.YtnggfglmjdiaaaaOwn.sto3 (t := 34) (p := 4) (g := gr) (w0 := w) Yba_ rfl rfl rfl rfl (by rfl) BKr.out HB.out GEgr.out ?_; intro w15 hbx_ hB_ hO_; (try clear hzgn_0); (try clear hzgn_1); (try clear hzgn_2); clear BKr HB hO_; have BKr := Aside0.mk hbx_; have HB := Aside0.mk hB_; clear hbx_ hB_))
       refine bodyPost_ret (Dh rfl _ _ gr 34 #[.slice none 0 0, .int .i64 0, .slice none 0 0] (0, 0) _ rfl BKr.out Try.underlying34 rfl Yba_) rfl ?_
       exact ⟨_, _, rfl, Go.Proofs.YtnggfglmjdiaaaaOwn.TT.nil _ _ _, HB.out⟩
      | true =>
       rw [cW] at HWI
       rw [cW, if_pos rfl] at h
       have Pa1_2 := Aside0.mk (show 0 ≤ a1_2 ∧ a1_2 < (nY : Int) from by have h1_ := inRows_lt cW; have h2_ := HT.out.reads.1; omega)
       clear cW
       obtain ⟨sG, hsG⟩ : ∃ z, z = rd_L1 Y a1_2 := ⟨_, rfl⟩
       rw [← hsG] at h
       have HSsG := Aside0.mk hsG
       clear hsG
       by_cases cS : (Df.f sG).isSome = true
       ·rw [if_pos cS] at h
        clear cS
        replace h := Option.bind_eq_some_iff.mp h
        obtain ⟨sC, a_, h⟩ := h
        have A3 := Aside0.mk a_
        clear a_
        by_cases cL : sC.length < 17592186044415
        ·rw [if_pos cL] at h
         have HLsC := Aside0.mk cL
         clear cL
         obtain ⟨sH, hsH⟩ : ∃ z, z = sC ++ [a1_1] := ⟨_, rfl⟩
         have HSsH := Aside0.mk hsH
         obtain ⟨lG, hlG⟩ : ∃ z, z = Y.set (a1_2).toNat (sC ++ [a1_1]) := ⟨_, rfl⟩
         have HLlG := Aside0.mk (show lG = Y.set (a1_2).toNat sH from by rw [hlG, hsH])
         rw [← hlG] at h
         clear hlG hsH
         replace h := Option.bind_eq_some_iff.mp h
         obtain ⟨vv, a_, h⟩ := h
         have A4 := Aside0.mk a_
         clear a_
         go_upto_region 18 with (first | (go_at_call 71; (with_reducible refine (Bj.calls a1_2 0 ((nY : Int) - 1) true _ HWI.out).mono ?_); rintro e w16 ⟨rfl, hd_⟩; (try clear hzgn_0); (try clear hzgn_1); (try clear hzgn_2); (try clear hzgo_0); (try clear hzgo_1); (try clear hzgo_2); (try clear hzgx_0); (try clear hzgx_1); (try clear hzgx_2); have hb := Drawn0.below hd_; clear hd_; replace HT := Aside0.mk (HT.out.below hb); replace BKx := Aside0.mk (blk_below BKx.out hb); replace BKr := Aside0.mk (blk_below BKr.out hb); replace BKn := Aside0.mk (blk_below BKn.out hb); replace BKo := Aside0.mk (blk_below BKo.out hb); replace HB := Aside0.mk (below_step HB.out hb); clear hb))
         clear hwn_ HWI
         obtain ⟨gY_, eg_, gb_, gl_⟩ := HT.out.form Yce_
         have GEY := Aside0.mk gb_
         clear gb_ gl_
         subst eg_
         obtain ⟨AsG, csG, hv_, hc_, hC_, hf_⟩ := Go.Proofs.YtnggfglmjdiaaaaOwn.TT.elem HT.out (i := a1_2) Pa1_2.out.1 Yce_
         have e_ : (Y.getD (a1_2).toNat []) = sG := HSsG.out.symm
         rw [e_] at hv_ hc_ hC_
         clear e_
         have HVsG := Aside0.mk hv_
         have HCsG := Aside0.mk hc_
         have HRsG := Aside0.mk hC_
         have HFsG := Aside0.mk hf_
         clear hv_ hc_ hC_ hf_
         have NXY_gx := Aside0.mk (Go.Proofs.YtnggfglmjdiaaaaOwn.TT.ne HT.out BKx.out (by decide))
         have NXY_gr := Aside0.mk (Go.Proofs.YtnggfglmjdiaaaaOwn.TT.ne HT.out BKr.out (by decide))
         have NXY_gn := Aside0.mk (Go.Proofs.YtnggfglmjdiaaaaOwn.TT.ne HT.out BKn.out (by decide))
         have NXY_go := Aside0.mk (Go.Proofs.YtnggfglmjdiaaaaOwn.TT.ne HT.out BKo.out (by decide))
         have p_a1_2 : 0 ≤ a1_2 := Pa1_2.out.1
         have q_a1_2 : a1_2 < (nY : Int) := Pa1_2.out.2
         replace p_a1_2 := eq_true p_a1_2
         replace q_a1_2 := eq_true q_a1_2
         replace HT := Aside0.mk (HT.out.drew)
         replace BKx := Aside0.mk (blk_drew BKx.out)
         replace BKr := Aside0.mk (blk_drew BKr.out)
         replace BKn := Aside0.mk (blk_drew BKn.out)
         replace BKo := Aside0.mk (blk_drew BKo.out)
         replace HB := Aside0.mk (below_drew1 HB.out)
         replace HVsG := Aside0.mk ((show (w16.drew).cell? ⟨gY_, (a1_2).toNat, none⟩ = some (.slice AsG sG.length csG) from HVsG.out))
         replace HFsG := Aside0.mk ((show (w16.drew).frozen? ⟨gY_, (a1_2).toNat, none⟩ = false from HFsG.out))
         replace HRsG := Aside0.mk ((show Kd.C (Kd.int .i64) (w16.drew) AsG sG.length sG from HRsG.out))
         refine start_ (n := 19) (S := fun w' => w'.cell? ⟨gY_, (a1_2).toNat, none⟩ = some (.slice AsG sG.length csG) ∧ w'.cell? ⟨go, 0, none⟩ = some (.slice (some ⟨gY_, 0, none⟩) nY cY) ∧ w'.cell? ⟨gx, 1, none⟩ = some (.int .i64 a1_1) ∧ w'.cell? ⟨gx, 2, none⟩ = some (.int .i64 a1_2)) (ds := [18]) #[false, false, false, false, false, false, false, false, false, false, false, false, false, false, false, false, false, false, false] Yba_ rfl rfl ⟨HVsG.out, (blk_cell BKo.out 0).trans rfl, (blk_cell BKx.out 1).trans rfl, (blk_cell BKx.out 2).trans rfl⟩ (fun hHeld => ?_)
         generalize w16.drew = w17 at HT BKx BKr BKn BKo HB HVsG HFsG HRsG hHeld ⊢
         refine pure_ (i := 0) (N := some 117) #[true, false, false, false, false, false, false, false, false, false, false, false, false, false, false, false, false, false, false] rfl rfl Yba_ (fun _ _ _ h => h) (Or.inl ⟨by rfl, Yj_⟩) Ya_ ?_
         refine pure_ (i := 1) (N := some 118) #[true, true, false, false, false, false, false, false, false, false, false, false, false, false, false, false, false, false, false] rfl rfl Yba_ (fun _ _ _ h => h) (Or.inl ⟨by rfl, Yj_⟩) Ya_ ?_
         refine pure_ (i := 3) (N := some 120) #[true, true, false, true, false, false, false, false, false, false, false, false, false, false, false, false, false, false, false] rfl rfl Yba_ (fun _ _ _ h => h) (Or.inl ⟨by rfl, Yj_⟩) Ya_ ?_
         refine pure_ (i := 5) (N := some 122) #[true, true, false, true, false, true, false, false, false, false, false, false, false, false, false, false, false, false, false] rfl rfl Yba_ (fun _ _ _ h => h) (Or.inl ⟨by rfl, Yj_⟩) Ya_ ?_
         refine pure_ (i := 6) (N := some 123) #[true, true, false, true, false, true, true, false, false, false, false, false, false, false, false, false, false, false, false] rfl rfl Yba_ (fun _ _ _ h => h) (Or.inl ⟨by rfl, Yj_⟩) Ya_ ?_
         refine pure_ (i := 8) (N := some 125) #[true, true, false, true, false, true, true, false, true, false, false, false, false, false, false, false, false, false, false] rfl rfl Yba_ (fun _ _ _ h => h) (Or.inl ⟨by rfl, Yj_⟩) Ya_ ?_
         refine pure_ (i := 13) (N := some 130) #[true, true, false, true, false, true, true, false, true, false, false, false, false, true, false, false, false, false, false] rfl rfl Yba_ (fun _ _ _ h => h) (Or.inl ⟨by rfl, Yj_⟩) Ya_ ?_
         refine take_ (i := 2) (N := some 119) #[true, true, true, true, false, true, true, false, true, false, false, false, false, true, false, false, false, false, false] rfl rfl Yba_ (fun _ _ _ h => h) (Or.inl ⟨by rfl, Ybh_⟩) hHeld Ya_ ?_
         refine take_ (i := 4) (N := some 121) #[true, true, true, true, true, true, true, false, true, false, false, false, false, true, false, false, false, false, false] rfl rfl Yba_ (fun _ _ _ h => h) (Or.inl ⟨by rfl, Ybh_⟩) hHeld Ya_ ?_
         refine take_ (i := 7) (N := some 124) #[true, true, true, true, true, true, true, true, true, false, false, false, false, true, false, false, false, false, false] rfl rfl Yba_ (fun _ _ _ h => h) (Or.inl ⟨by rfl, Ybh_⟩) hHeld Ya_ ?_
         refine take_ (i := 9) (N := some 126) #[true, true, true, true, true, true, true, true, true, true, false, false, false, true, false, false, false, false, false] rfl rfl Yba_ (fun _ _ _ h => h) (Or.inl ⟨by rfl, Ybh_⟩) hHeld Ya_ ?_
         refine pure_ (i := 10) (N := some 127) #[true, true, true, true, true, true, true, true, true, true, true, false, false, true, false, false, false, false, false] rfl rfl Yba_ (fun _ _ _ h => h) (Or.inl ⟨by rfl, Yj_⟩) Ya_ ?_
         refine take_ (i := 11) (N := some 128) #[true, true, true, true, true, true, true, true, true, true, true, true, false, true, false, false, false, false, false] rfl rfl Yba_ (fun _ _ _ h => h) (Or.inl ⟨by rfl, Ybh_⟩) hHeld Ya_ ?_
         refine take_ (i := 14) (N := some 131) #[true, true, true, true, true, true, true, true, true, true, true, true, false, true, true, false, false, false, false] rfl rfl Yba_ (fun _ _ _ h => h) (Or.inl ⟨by rfl, Ybh_⟩) hHeld Ya_ ?_
         refine join_ (σ := Value × Option Addr × Nat) 3 #[true, true, true, true, true, true, true, true, true, true, true, true, true, true, true, true, false, false, false] (fun s => match s with | ⟨vC, A40, c40⟩ => [(129, vC), (132, .slice A40 ([a1_1] : List Int).length c40)]) (fun s w' => match s with | ⟨vC, A40, c40⟩ => Aside0 (Kd.R (Kd.int .i64) 3 w' w17.heap.size (fun _ => True) vC sC) ∧ Aside0 (Kd.R (Kd.int .i64) 3 w' w17.heap.size (fun _ => True) (.slice A40 ([a1_1] : List Int).length c40) [a1_1]) ∧ Aside0 (Below w17.heap.size w17 w')) ?_ ?_
         rotate_left
         ·intro hCont
          refine two_ (i := 12) (j := 15) (Ni := some 129) (Nj := some 132) #[true, true, true, true, true, true, true, true, true, true, true, true, true, true, true, false, false, false, false] #[true, true, true, true, true, true, true, true, true, true, true, true, false, true, true, true, false, false, false] rfl rfl rfl rfl Yba_ (by decide) (by decide) (fun K hK => ?_) (fun K hK => ?_)
          ·skip
           have HB2 := Aside0.mk (Below.refl w17.heap.size w17)
           refine goes_ Try.func72 Yba_ rfl #[.slice AsG sG.length csG] (by rfl) rfl rfl Yde_ ?_
           with_reducible refine (Df.calls _ _ sG sC _ (Kd.C_below HRsG.out HB2.out) HCsG.out A3.out).mono ?_
           rintro e W1_ ⟨vC, rfl, ho_, hb_⟩
           refine ⟨_, rfl, ?_⟩
           have HN := Aside0.mk (Kd.R_lower ho_ (below_size HB2.out))
           have m_ := Aside0.mk (below_step HB2.out hb_)
           clear HB2 ho_ hb_
           have HB2 := m_
           clear m_
           refine hK.out _ _ ⟨(HB2.out.cell (World.block_lt_of_cell? _ _ HVsG.out)).trans HVsG.out, (blk_cell (blk_below BKo.out HB2.out) 0).trans rfl, (blk_cell (blk_below BKx.out HB2.out) 1).trans rfl, (blk_cell (blk_below BKx.out HB2.out) 2).trans rfl⟩ (fun hHeld => ?_)
           clear hK K
           refine norm_ (show Act.put _ (some 129) _ = _ from Ya_) ?_
           refine one_ (i := 15) (N := some 132) #[true, true, true, true, true, true, true, true, true, true, true, true, true, true, true, true, false, false, false] rfl rfl Yba_ (by decide) (fun K hK => ?_)
           refine Kd.F6 (Kd.int .i64) w17.heap.size 3 ?hg (N := 132) ?hd (xs := ([a1_1] : List Int)) (inner := [.int .i64 a1_1]) (ok := fun _ => True) (okp := fun _ => True) ?hr ?hp (fun _ hk => hk) trivial HB2.out (below_size HB2.out) (by simp) ?_; (case hd => rfl); (case hg => rfl); (case hr => first | (go_simp; done) | (go_simp; rfl)); (case hp => exact (Reps.one (show Kd.M (Kd.int .i64) _ _ _ a1_1 [.int .i64 a1_1] from rfl) (Reps.none _ _)))
           intro vL_ W2_ ho hb hg_ hnew_
           obtain ⟨A40, c40, e40_⟩ := Kd.Di ho
           subst e40_
           have HL := Aside0.mk ho
           replace HN := Aside0.mk (Kd.R_grown HN.out hg_ (fun _ _ h_ => nomatch h_))
           clear HB2
           have HB2 := Aside0.mk hb
           clear hb hg_ hnew_ ho
           refine hK.out _ _ ⟨(HB2.out.cell (World.block_lt_of_cell? _ _ HVsG.out)).trans HVsG.out, (blk_cell (blk_below BKo.out HB2.out) 0).trans rfl, (blk_cell (blk_below BKx.out HB2.out) 1).trans rfl, (blk_cell (blk_below BKx.out HB2.out) 2).trans rfl⟩ (fun hHeld => ?_)
           clear hK K
           refine norm_ (show Act.put _ (some 132) _ = _ from Ya_) ?_
           exact norm_ Ycg_ (hCont (vC, A40, c40) _ ⟨HN, HL, HB2⟩)
          ·skip
           have HB2 := Aside0.mk (Below.refl w17.heap.size w17)
           refine Kd.F6 (Kd.int .i64) w17.heap.size 3 ?hg (N := 132) ?hd (xs := ([a1_1] : List Int)) (inner := [.int .i64 a1_1]) (ok := fun _ => True) (okp := fun _ => True) ?hr ?hp (fun _ hk => hk) trivial HB2.out (below_size HB2.out) (by simp) ?_; (case hd => rfl); (case hg => rfl); (case hr => first | (go_simp; done) | (go_simp; rfl)); (case hp => exact (Reps.one (show Kd.M (Kd.int .i64) _ _ _ a1_1 [.int .i64 a1_1] from rfl) (Reps.none _ _)))
           intro vL_ W1_ ho hb hg_ hnew_
           obtain ⟨A40, c40, e40_⟩ := Kd.Di ho
           subst e40_
           have HL := Aside0.mk ho
           clear HB2
           have HB2 := Aside0.mk hb
           clear hb hg_ hnew_ ho
           refine hK.out _ _ ⟨(HB2.out.cell (World.block_lt_of_cell? _ _ HVsG.out)).trans HVsG.out, (blk_cell (blk_below BKo.out HB2.out) 0).trans rfl, (blk_cell (blk_below BKx.out HB2.out) 1).trans rfl, (blk_cell (blk_below BKx.out HB2.out) 2).trans rfl⟩ (fun hHeld => ?_)
           clear hK K
           refine norm_ (show Act.put _ (some 132) _ = _ from Ya_) ?_
           refine one_ (i := 12) (N := some 129) #[true, true, true, true, true, true, true, true, true, true, true, true, true, true, true, true, false, false, false] rfl rfl Yba_ (by decide) (fun K hK => ?_)
           refine goes_ Try.func72 Yba_ rfl #[.slice AsG sG.length csG] (by rfl) rfl rfl Yde_ ?_
           with_reducible refine (Df.calls _ _ sG sC _ (Kd.C_below HRsG.out HB2.out) HCsG.out A3.out).mono ?_
           rintro e W2_ ⟨vC, rfl, ho_, hb_⟩
           refine ⟨_, rfl, ?_⟩
           have HN := Aside0.mk (Kd.R_lower ho_ (below_size HB2.out))
           replace HL := Aside0.mk (Kd.Cf HL.out hb_)
           have m_ := Aside0.mk (below_step HB2.out hb_)
           clear HB2 ho_ hb_
           have HB2 := m_
           clear m_
           refine hK.out _ _ ⟨(HB2.out.cell (World.block_lt_of_cell? _ _ HVsG.out)).trans HVsG.out, (blk_cell (blk_below BKo.out HB2.out) 0).trans rfl, (blk_cell (blk_below BKx.out HB2.out) 1).trans rfl, (blk_cell (blk_below BKx.out HB2.out) 2).trans rfl⟩ (fun hHeld => ?_)
           clear hK K
           refine norm_ (show Act.put _ (some 129) _ = _ from Ya_) ?_
           exact norm_ Ycg_ (hCont (vC, A40, c40) _ ⟨HN, HL, HB2⟩)
         rintro ⟨vC, A40, c40⟩ W4_ ⟨HN, HL, HB2⟩
         have hHeld : (fun w' => w'.cell? ⟨gY_, (a1_2).toNat, none⟩ = some (.slice AsG sG.length csG) ∧ w'.cell? ⟨go, 0, none⟩ = some (.slice (some ⟨gY_, 0, none⟩) nY cY) ∧ w'.cell? ⟨gx, 1, none⟩ = some (.int .i64 a1_1) ∧ w'.cell? ⟨gx, 2, none⟩ = some (.int .i64 a1_2)) W4_ := ⟨(HB2.out.cell (World.block_lt_of_cell? _ _ HVsG.out)).trans HVsG.out, (blk_cell (blk_below BKo.out HB2.out) 0).trans rfl, (blk_cell (blk_below BKx.out HB2.out) 1).trans rfl, (blk_cell (blk_below BKx.out HB2.out) 2).trans rfl⟩
         refine norm_ (a' := ?_) ?_ ?_
         rotate_left
         ·simp only [putAll, Act.put, List.setIfInBounds_toArray, List.set_cons_zero, List.set_cons_succ]
          rfl
         refine one_ (i := 16) (N := some 133) #[true, true, true, true, true, true, true, true, true, true, true, true, true, true, true, true, true, false, false] rfl rfl Yba_ (by decide) (fun K hK => ?_)
         refine Kd.Fz (Kd.int .i64) (w0 := w17) w17.heap.size (by rfl) (.tmp 129) (.tmp 132) 73 3 (.int .i64 0) 8 rfl Try.underlying73 info3 rfl (by decide) (by omega) vC sC [a1_1] A40 ([a1_1] : List Int).length c40 (fun _ => True) (fun _ => False) rfl rfl HN.out ((Kd.Bh HL.out).2.2) (fun _ _ h => h) (fun _ h => h.elim) (fun _ _ => trivial) HB2.out (below_size HB2.out) Yei_ ?_
         intro v_ w18 ho hb hg hat
         clear hg hat HN HL HB2
         rw [← HSsH.out] at ho
         obtain ⟨AsH, csH, ev_⟩ := Kd.Di ho
         subst ev_
         have hk_ := (Go.Proofs.YtnggfglmjdiaaaaOwn.TT.put HT.out (below_size HB.out) hb Pa1_2.out.1 Yce_ ho).1
         have HT2 := Aside0.mk hk_
         clear hk_ ho HT
         have hv_ := (hb.cell (World.block_lt_of_cell? _ _ HVsG.out)).trans HVsG.out
         have hf_ := (World.frozen?_of_block (hb.block _ (World.block_lt_of_cell? _ _ HVsG.out))).trans HFsG.out
         clear HVsG HFsG
         have HVsG := Aside0.mk hv_
         have HFsG := Aside0.mk hf_
         clear hv_ hf_
         replace BKx := Aside0.mk (blk_below BKx.out hb)
         replace BKr := Aside0.mk (blk_below BKr.out hb)
         replace BKn := Aside0.mk (blk_below BKn.out hb)
         replace BKo := Aside0.mk (blk_below BKo.out hb)
         replace HB := Aside0.mk (below_step HB.out hb)
         clear hb
         refine hK.out _ _ ⟨HVsG.out, (blk_cell BKo.out 0).trans rfl, (blk_cell BKx.out 1).trans rfl, (blk_cell BKx.out 2).trans rfl⟩ (fun hHeld => ?_)
         clear hK K
         refine norm_ (show Act.put _ (some 133) _ = _ from Ya_) ?_
         refine pure_ (i := 17) (N := some 134) #[true, true, true, true, true, true, true, true, true, true, true, true, true, true, true, true, true, true, false] rfl rfl Yba_ (fun _ _ _ h => h) (Or.inl ⟨by rfl, Yj_⟩) Ya_ ?_
         refine last_ (i := 18) (N := none) #[true, true, true, true, true, true, true, true, true, true, true, true, true, true, true, true, true, true, true] rfl rfl Yba_ (by decide) (fun K hK => ?_)
         have hv_ := HVsG.out
         have hf_ := HFsG.out
         refine Go.Proofs.YtnggfglmjdiaaaaOwn.Fh (w1 := (w18.setCell ⟨gY_, (a1_2).toNat, none⟩ (.slice AsH sH.length csH))) (by rfl) rfl ?_ ?_
         ·first | (go_simp; done) | (go_simp; rfl)
         intro w19 hw
         clear hv_ hf_
         have HT := HT2
         clear HT2
         have hO_ : Go.Proofs.YtnggfglmjdiaaaaOwn.Only w18 w19 gY_ := Yca_
         have ht_ := HT.out
         rw [← hw] at ht_
         clear HT
         have HT := Aside0.mk ht_
         clear ht_ hw
         replace BKx := Aside0.mk ((hO_.others _ NXY_gx.out).trans BKx.out)
         replace BKr := Aside0.mk ((hO_.others _ NXY_gr.out).trans BKr.out)
         replace BKn := Aside0.mk ((hO_.others _ NXY_gn.out).trans BKn.out)
         replace BKo := Aside0.mk ((hO_.others _ NXY_go.out).trans BKo.out)
         replace HB := Aside0.mk (hO_.below HB.out GEY.out)
         clear hO_
         clear NXY_gx
         clear NXY_gr
         clear NXY_gn
         clear NXY_go
         rw [show Y.set (a1_2).toNat sH = lG from HLlG.out.symm] at HT
         refine hK.out _ _ ?_
         clear hK K
         refine done_ Yba_ ?_
         clear p_a1_2 q_a1_2 HVsG HFsG HCsG HRsG
         have hy_ := HT.out.reads
         have hb_ := HT.out.swap.reads
         have call_ := Ac.calls k (some ⟨gY_, 0, none⟩) cY lG hh (some ⟨gB_, 0, none⟩) cB lF vv _ hy_.2.2 (hy_.1 ▸ hy_.2.1) hb_.2.2 (hb_.1 ▸ hb_.2.1) A4.out
         rw [← hy_.1, ← hb_.1] at call_
         have CALLV := Aside0.mk call_
         clear call_ hy_ hb_
         clear BKx
         have hzgn_0 : w19.cell? ⟨gn, 0, none⟩ = some (.slice none 0 0) := (blk_cell BKn.out 0).trans rfl
         have hzgn_1 : w19.cell? ⟨gn, 1, none⟩ = some (.int .i64 0) := (blk_cell BKn.out 1).trans rfl
         have hzgn_2 : w19.cell? ⟨gn, 2, none⟩ = some (.slice none 0 0) := (blk_cell BKn.out 2).trans rfl
         have hzgo_0 : w19.cell? ⟨go, 0, none⟩ = some (.slice (some ⟨gY_, 0, none⟩) nY cY) := (blk_cell BKo.out 0).trans rfl
         have hzgo_1 : w19.cell? ⟨go, 1, none⟩ = some (.int .i64 hh) := (blk_cell BKo.out 1).trans rfl
         have hzgo_2 : w19.cell? ⟨go, 2, none⟩ = some (.slice (some ⟨gB_, 0, none⟩) nB cB) := (blk_cell BKo.out 2).trans rfl
         cases vv with
         | false =>
          simp only [Ff, Bool.false_eq_true, if_false] at h
          simp only [Option.some.injEq, Prod.mk.injEq] at h
          obtain ⟨rfl, rfl, rfl, rfl⟩ := h
          clear BKo
          clear HT
          go_wp2_with (first | (go_at_call 39; (with_reducible refine (CALLV.out).mono ?_); rintro e w20 ⟨rfl, hb⟩; (try clear hzgn_0); (try clear hzgn_1); (try clear hzgn_2); (try clear hzgo_0); (try clear hzgo_1); (try clear hzgo_2); replace BKr := Aside0.mk (blk_below BKr.out hb); replace BKn := Aside0.mk (blk_below BKn.out hb); replace HB := Aside0.mk (below_step HB.out hb); clear hb; have hzgn_0 : w20.cell? ⟨gn, 0, none⟩ = some (.slice none 0 0) := (blk_cell BKn.out 0).trans rfl; have hzgn_1 : w20.cell? ⟨gn, 1, none⟩ = some (.int .i64 0) := (blk_cell BKn.out 1).trans rfl; have hzgn_2 : w20.cell? ⟨gn, 2, none⟩ = some (.slice none 0 0) := (blk_cell BKn.out 2).trans rfl) | ((with_reducible refine gate_store (t := 34) (p := 4) rfl ?_); refine Go.Proofs.YtnggfglmjdiaaaaOwn.sto3 (t := 34) (p := 4) (g := gr) (w0 := w) Yba_ rfl rfl rfl rfl (by rfl) BKr.out HB.out GEgr.out ?_; intro w21 hbx_ hB_ hO_; (try clear hzgn_0); (try clear hzgn_1); (try clear hzgn_2); clear BKr HB hO_; have BKr := Aside0.mk hbx_; have HB := Aside0.mk hB_; clear hbx_ hB_))
          refine bodyPost_ret (Dh rfl _ _ gr 34 #[.slice none 0 0, .int .i64 0, .slice none 0 0] (0, 0) _ rfl BKr.out Try.underlying34 rfl Yba_) rfl ?_
          exact ⟨_, _, rfl, Go.Proofs.YtnggfglmjdiaaaaOwn.TT.nil _ _ _, HB.out⟩
         | true =>
          simp only [Ff, if_true] at h
          simp only [Option.some.injEq, Prod.mk.injEq] at h
          obtain ⟨rfl, rfl, rfl, rfl⟩ := h
          clear BKn
          go_wp2_with (first | (go_at_call 39; (with_reducible refine (CALLV.out).mono ?_); rintro e w22 ⟨rfl, hb⟩; (try clear hzgn_0); (try clear hzgn_1); (try clear hzgn_2); (try clear hzgo_0); (try clear hzgo_1); (try clear hzgo_2); replace HT := Aside0.mk (HT.out.below hb); replace BKr := Aside0.mk (blk_below BKr.out hb); replace BKo := Aside0.mk (blk_below BKo.out hb); replace HB := Aside0.mk (below_step HB.out hb); clear hb; have hzgo_0 : w22.cell? ⟨go, 0, none⟩ = some (.slice (some ⟨gY_, 0, none⟩) nY cY) := (blk_cell BKo.out 0).trans rfl; have hzgo_1 : w22.cell? ⟨go, 1, none⟩ = some (.int .i64 hh) := (blk_cell BKo.out 1).trans rfl; have hzgo_2 : w22.cell? ⟨go, 2, none⟩ = some (.slice (some ⟨gB_, 0, none⟩) nB cB) := (blk_cell BKo.out 2).trans rfl) | ((with_reducible refine gate_store (t := 34) (p := 4) rfl ?_); refine Go.Proofs.YtnggfglmjdiaaaaOwn.sto3 (t := 34) (p := 4) (g := gr) (w0 := w) Yba_ rfl rfl rfl rfl (by rfl) BKr.out HB.out GEgr.out ?_; intro w23 hbx_ hB_ hO_; (try clear hzgo_0); (try clear hzgo_1); (try clear hzgo_2); replace HT := Aside0.mk (HT.out.only BKr.out (by decide) hO_); clear BKr HB hO_; have BKr := Aside0.mk hbx_; have HB := Aside0.mk hB_; clear hbx_ hB_))
          refine bodyPost_ret (Dh rfl _ _ gr 34 #[.slice (some ⟨gY_, 0, none⟩) nY cY, .int .i64 hh, .slice (some ⟨gB_, 0, none⟩) nB cB] (0, 0) _ rfl BKr.out Try.underlying34 rfl Yba_) rfl ?_
          exact ⟨_, _, rfl, HT.out, HB.out⟩
        ·rw [if_neg cL] at h
         cases h
       ·rw [if_neg cS] at h
        cases h
     ·rw [if_neg c5] at h
      cases h
    ·rw [if_neg c3] at h
     simp only [Option.some.injEq, Prod.mk.injEq] at h
     obtain ⟨rfl, rfl, rfl, rfl⟩ := h
     have d1_ : (q2 == (sT.length : Int) - 1) = false := by simp [c3]
     have d2_ : decide (q2 = (sT.length : Int) - 1) = false := decide_eq_false c3
     have d3_ : (q2 != (sT.length : Int) - 1) = true := by simp [c3]
     clear c3
     clear BKx
     clear BKo
     clear HT
     go_wp2_with (first | (go_at_call 48; (with_reducible refine (Ah.calls k a0_1 _ _ l0_2 a1_1 q1 q2 _ (Kd.C_below HR0_2.out HB.out) HC0_2.out A2.out).mono ?_); rintro e w24 ⟨rfl, hb⟩; (try clear hzgn_0); (try clear hzgn_1); (try clear hzgn_2); (try clear hzgt_0); (try clear hzgt_1); (try clear hzgt_2); (try clear hzgx_0); (try clear hzgx_1); (try clear hzgx_2); replace BKt := Aside0.mk (blk_below BKt.out hb); replace BKr := Aside0.mk (blk_below BKr.out hb); replace BKn := Aside0.mk (blk_below BKn.out hb); replace HB := Aside0.mk (below_step HB.out hb); have hxt_ : w24.cell? (adT.add q1.toNat) = some (.slice AT sT.length cT) := (HB.out.cell (World.block_lt_of_cell? w _ HXT.out)).trans HXT.out; clear hb; have hzgt_0 : w24.cell? ⟨gt, 0, none⟩ = some (.slice A0_0 l0_0.length c0_0) := (blk_cell BKt.out 0).trans rfl; have hzgt_1 : w24.cell? ⟨gt, 1, none⟩ = some (.int .i64 a0_1) := (blk_cell BKt.out 1).trans rfl; have hzgt_2 : w24.cell? ⟨gt, 2, none⟩ = some (.slice (some adT) l0_2.length c0_2) := (blk_cell BKt.out 2).trans rfl; have hzgn_0 : w24.cell? ⟨gn, 0, none⟩ = some (.slice none 0 0) := (blk_cell BKn.out 0).trans rfl; have hzgn_1 : w24.cell? ⟨gn, 1, none⟩ = some (.int .i64 0) := (blk_cell BKn.out 1).trans rfl; have hzgn_2 : w24.cell? ⟨gn, 2, none⟩ = some (.slice none 0 0) := (blk_cell BKn.out 2).trans rfl) | ((with_reducible refine gate_store (t := 34) (p := 4) rfl ?_); refine Go.Proofs.YtnggfglmjdiaaaaOwn.sto3 (t := 34) (p := 4) (g := gr) (w0 := w) Yba_ rfl rfl rfl rfl (by rfl) BKr.out HB.out GEgr.out ?_; intro w25 hbx_ hB_ hO_; (try clear hzgn_0); (try clear hzgn_1); (try clear hzgn_2); (try clear hzgt_0); (try clear hzgt_1); (try clear hzgt_2); clear BKr HB hO_; have BKr := Aside0.mk hbx_; have HB := Aside0.mk hB_; clear hbx_ hB_))
     refine bodyPost_ret (Dh rfl _ _ gr 34 #[.slice none 0 0, .int .i64 0, .slice none 0 0] (0, 0) _ rfl BKr.out Try.underlying34 rfl Yba_) rfl ?_
     exact ⟨_, _, rfl, Go.Proofs.YtnggfglmjdiaaaaOwn.TT.nil _ _ _, HB.out⟩
   ·rw [if_neg c2] at h
    cases h
 ·rw [if_neg k3] at h
  by_cases k1 : a1_0 = 1
  ·simp only [if_pos k1] at h
   subst k1
   clear k3
   replace h := Option.bind_eq_some_iff.mp h
   obtain ⟨⟨q1, q2⟩, a_, h⟩ := h
   have A2 := Aside0.mk a_
   clear a_
   dsimp only at h
   unfold lmCut at h
   by_cases c1 : q1 < 0
   ·rw [if_pos c1] at h
    simp only [Option.some.injEq, Prod.mk.injEq] at h
    obtain ⟨rfl, rfl, rfl, rfl⟩ := h
    have cb1 : decide (q1 < 0) = true := decide_eq_true c1
    clear c1
    clear BKx
    clear BKo
    clear HT
    go_wp2_with (first | (go_at_call 47; (with_reducible refine (Ae.calls k _ _ l0_0 a1_1 q1 q2 _ (Kd.C_below HR0_0.out HB.out) HC0_0.out A2.out).mono ?_); rintro e w26 ⟨rfl, hb⟩; (try clear hzgn_0); (try clear hzgn_1); (try clear hzgn_2); (try clear hzgt_0); (try clear hzgt_1); (try clear hzgt_2); (try clear hzgx_0); (try clear hzgx_1); (try clear hzgx_2); replace BKt := Aside0.mk (blk_below BKt.out hb); replace BKr := Aside0.mk (blk_below BKr.out hb); replace BKn := Aside0.mk (blk_below BKn.out hb); replace HB := Aside0.mk (below_step HB.out hb); clear hb; have hzgn_0 : w26.cell? ⟨gn, 0, none⟩ = some (.slice none 0 0) := (blk_cell BKn.out 0).trans rfl; have hzgn_1 : w26.cell? ⟨gn, 1, none⟩ = some (.int .i64 0) := (blk_cell BKn.out 1).trans rfl; have hzgn_2 : w26.cell? ⟨gn, 2, none⟩ = some (.slice none 0 0) := (blk_cell BKn.out 2).trans rfl) | ((with_reducible refine gate_store (t := 34) (p := 4) rfl ?_); refine Go.Proofs.YtnggfglmjdiaaaaOwn.sto3 (t := 34) (p := 4) (g := gr) (w0 := w) Yba_ rfl rfl rfl rfl (by rfl) BKr.out HB.out GEgr.out ?_; intro w27 hbx_ hB_ hO_; (try clear hzgn_0); (try clear hzgn_1); (try clear hzgn_2); clear BKr HB hO_; have BKr := Aside0.mk hbx_; have HB := Aside0.mk hB_; clear hbx_ hB_))
    refine bodyPost_ret (Dh rfl _ _ gr 34 #[.slice none 0 0, .int .i64 0, .slice none 0 0] (0, 0) _ rfl BKr.out Try.underlying34 rfl Yba_) rfl ?_
    exact ⟨_, _, rfl, Go.Proofs.YtnggfglmjdiaaaaOwn.TT.nil _ _ _, HB.out⟩
   ·rw [if_neg c1] at h
    by_cases c2 : q1 < (l0_0.length : Int)
    ·rw [if_pos c2] at h
     have cb1 : decide (q1 < 0) = false := decide_eq_false c1
     have p_ : 0 ≤ q1 := by omega
     obtain ⟨adT, AT, cT, eT, hx_, hl_, hi_⟩ := C9 HR0_0.out q1 p_ c2
     subst eT
     have hlw_ := hi_.2.1
     obtain ⟨sT, hsT⟩ : ∃ z, z = rd_L1 l0_0 q1 := ⟨_, rfl⟩
     rw [← hsT] at h hx_ hlw_
     clear hl_ hi_ hsT
     have HXT := Aside0.mk hx_
     clear hx_
     have hwt_ : wrap64 ((sT.length : Int) - 1) = (sT.length : Int) - 1 := by unfold wrap64; omega
     clear hlw_
     have C1 := Aside0.mk p_
     have C2 := Aside0.mk c2
     have p1_ := eq_true p_
     have q1_ := eq_true c2
     clear p_ c1 c2
     by_cases c3 : q2 = (sT.length : Int) - 1
     ·rw [if_pos c3] at h
      have d1_ : (q2 == (sT.length : Int) - 1) = true := by simp [c3]
      have d2_ : decide (q2 = (sT.length : Int) - 1) = true := decide_eq_true c3
      have d3_ : (q2 != (sT.length : Int) - 1) = false := by simp [c3]
      clear c3
      by_cases c4 : a1_2 = q1
      ·simp only [c4, decide_true, Bool.not_true, Bool.false_eq_true, if_false] at h
       simp only [Option.some.injEq, Prod.mk.injEq] at h
       obtain ⟨rfl, rfl, rfl, rfl⟩ := h
       have e1_ : (a1_2 == q1) = true := by simp [c4]
       have e2_ : decide (a1_2 = q1) = true := decide_eq_true c4
       clear c4
       clear BKo
       clear HT
       go_wp2_with (first | (go_at_call 47; (with_reducible refine (Ae.calls k _ _ l0_0 a1_1 q1 q2 _ (Kd.C_below HR0_0.out HB.out) HC0_0.out A2.out).mono ?_); rintro e w28 ⟨rfl, hb⟩; (try clear hzgn_0); (try clear hzgn_1); (try clear hzgn_2); (try clear hzgt_0); (try clear hzgt_1); (try clear hzgt_2); (try clear hzgx_0); (try clear hzgx_1); (try clear hzgx_2); replace BKt := Aside0.mk (blk_below BKt.out hb); replace BKx := Aside0.mk (blk_below BKx.out hb); replace BKr := Aside0.mk (blk_below BKr.out hb); replace BKn := Aside0.mk (blk_below BKn.out hb); replace HB := Aside0.mk (below_step HB.out hb); have hxt_ : w28.cell? (adT.add q1.toNat) = some (.slice AT sT.length cT) := (HB.out.cell (World.block_lt_of_cell? w _ HXT.out)).trans HXT.out; clear hb; have hzgt_0 : w28.cell? ⟨gt, 0, none⟩ = some (.slice (some adT) l0_0.length c0_0) := (blk_cell BKt.out 0).trans rfl; have hzgt_1 : w28.cell? ⟨gt, 1, none⟩ = some (.int .i64 a0_1) := (blk_cell BKt.out 1).trans rfl; have hzgt_2 : w28.cell? ⟨gt, 2, none⟩ = some (.slice A0_2 l0_2.length c0_2) := (blk_cell BKt.out 2).trans rfl; have hzgx_0 : w28.cell? ⟨gx, 0, none⟩ = some (.int .i64 1) := (blk_cell BKx.out 0).trans rfl; have hzgx_1 : w28.cell? ⟨gx, 1, none⟩ = some (.int .i64 a1_1) := (blk_cell BKx.out 1).trans rfl; have hzgx_2 : w28.cell? ⟨gx, 2, none⟩ = some (.int .i64 a1_2) := (blk_cell BKx.out 2).trans rfl; have hzgn_0 : w28.cell? ⟨gn, 0, none⟩ = some (.slice none 0 0) := (blk_cell BKn.out 0).trans rfl; have hzgn_1 : w28.cell? ⟨gn, 1, none⟩ = some (.int .i64 0) := (blk_cell BKn.out 1).trans rfl; have hzgn_2 : w28.cell? ⟨gn, 2, none⟩ = some (.slice none 0 0) := (blk_cell BKn.out 2).trans rfl) | ((with_reducible refine gate_store (t := 34) (p := 4) rfl ?_); refine Go.Proofs.YtnggfglmjdiaaaaOwn.sto3 (t := 34) (p := 4) (g := gr) (w0 := w) Yba_ rfl rfl rfl rfl (by rfl) BKr.out HB.out GEgr.out ?_; intro w29 hbx_ hB_ hO_; (try clear hzgn_0); (try clear hzgn_1); (try clear hzgn_2); (try clear hzgt_0); (try clear hzgt_1); (try clear hzgt_2); (try clear hzgx_0); (try clear hzgx_1); (try clear hzgx_2); clear BKr HB hO_; have BKr := Aside0.mk hbx_; have HB := Aside0.mk hB_; clear hbx_ hB_))
       refine bodyPost_ret (Dh rfl _ _ gr 34 #[.slice none 0 0, .int .i64 0, .slice none 0 0] (0, 0) _ rfl BKr.out Try.underlying34 rfl Yba_) rfl ?_
       exact ⟨_, _, rfl, Go.Proofs.YtnggfglmjdiaaaaOwn.TT.nil _ _ _, HB.out⟩
      ·rw [show (!decide (a1_2 = q1)) = true from by simp [c4], if_pos rfl] at h
       have e1_ : (a1_2 == q1) = false := by simp [c4]
       have e2_ : decide (a1_2 = q1) = false := decide_eq_false c4
       clear c4
       by_cases c5 : 0 ≤ q2 ∧ q1 < (Y.length : Int) ∧ q2 ≤ ((rd_L1 Y q1).length : Int)
       ·rw [if_pos c5] at h
        obtain ⟨sF, hsF⟩ : ∃ z, z = rd_L1 Y q1 := ⟨_, rfl⟩
        rw [← hsF] at c5
        have HSsF := Aside0.mk hsF
        obtain ⟨c5, c6, c7⟩ := c5
        have Pq1 := Aside0.mk (show 0 ≤ q1 ∧ q1 < (nY : Int) from ⟨C1.out, by have := HT.out.reads.1; omega⟩)
        have HMq2 := Aside0.mk (show (q2).toNat ≤ sF.length from by omega)
        have HQ0 := Aside0.mk c5
        have HQ1 := Aside0.mk c7
        clear c5 c6 c7
        obtain ⟨lF, hlF⟩ : ∃ z, z = cutAt Y q1 q2 := ⟨_, rfl⟩
        have HLlF := Aside0.mk (show lF = Y.set (q1).toNat ((Y.getD (q1).toNat []).take (q2).toNat) from hlF)
        rw [← hlF] at h
        (try dsimp only at h)
        clear hlF hsF
        go_upto_region 11 with (first | (go_at_call 47; (with_reducible refine (Ae.calls k _ _ l0_0 a1_1 q1 q2 _ (Kd.C_below HR0_0.out HB.out) HC0_0.out A2.out).mono ?_); rintro e w30 ⟨rfl, hb⟩; (try clear hzgn_0); (try clear hzgn_1); (try clear hzgn_2); (try clear hzgt_0); (try clear hzgt_1); (try clear hzgt_2); (try clear hzgx_0); (try clear hzgx_1); (try clear hzgx_2); replace HT := Aside0.mk (HT.out.below hb); replace BKt := Aside0.mk (blk_below BKt.out hb); replace BKx := Aside0.mk (blk_below BKx.out hb); replace BKr := Aside0.mk (blk_below BKr.out hb); replace BKn := Aside0.mk (blk_below BKn.out hb); replace BKo := Aside0.mk (blk_below BKo.out hb); replace HB := Aside0.mk (below_step HB.out hb); have hxt_ : w30.cell? (adT.add q1.toNat) = some (.slice AT sT.length cT) := (HB.out.cell (World.block_lt_of_cell? w _ HXT.out)).trans HXT.out; clear hb; have hzgt_0 : w30.cell? ⟨gt, 0, none⟩ = some (.slice (some adT) l0_0.length c0_0) := (blk_cell BKt.out 0).trans rfl; have hzgt_1 : w30.cell? ⟨gt, 1, none⟩ = some (.int .i64 a0_1) := (blk_cell BKt.out 1).trans rfl; have hzgt_2 : w30.cell? ⟨gt, 2, none⟩ = some (.slice A0_2 l0_2.length c0_2) := (blk_cell BKt.out 2).trans rfl; have hzgx_0 : w30.cell? ⟨gx, 0, none⟩ = some (.int .i64 1) := (blk_cell BKx.out 0).trans rfl; have hzgx_1 : w30.cell? ⟨gx, 1, none⟩ = some (.int .i64 a1_1) := (blk_cell BKx.out 1).trans rfl; have hzgx_2 : w30.cell? ⟨gx, 2, none⟩ = some (.int .i64 a1_2) := (blk_cell BKx.out 2).trans rfl))
        clear hwt_ d1_ d2_ d3_ p1_ q1_
        (try clear hxt_)
        (try clear hzgt_0)
        (try clear hzgt_1)
        (try clear hzgt_2)
        (try clear hzgx_0)
        (try clear hzgx_1)
        (try clear hzgx_2)
        clear BKt
        obtain ⟨gY_, eg_, gb_, gl_⟩ := HT.out.form Yci_
        have GEY := Aside0.mk gb_
        clear gb_ gl_
        subst eg_
        obtain ⟨AsF, csF, hv_, hc_, hC_, hf_⟩ := Go.Proofs.YtnggfglmjdiaaaaOwn.TT.elem HT.out (i := q1) Pq1.out.1 Yci_
        have e_ : (Y.getD (q1).toNat []) = sF := HSsF.out.symm
        rw [e_] at hv_ hc_ hC_
        clear e_
        have HVsF := Aside0.mk hv_
        have HCsF := Aside0.mk hc_
        have HRsF := Aside0.mk hC_
        have HFsF := Aside0.mk hf_
        clear hv_ hc_ hC_ hf_
        have NXY_gx := Aside0.mk (Go.Proofs.YtnggfglmjdiaaaaOwn.TT.ne HT.out BKx.out (by decide))
        have NXY_gr := Aside0.mk (Go.Proofs.YtnggfglmjdiaaaaOwn.TT.ne HT.out BKr.out (by decide))
        have NXY_gn := Aside0.mk (Go.Proofs.YtnggfglmjdiaaaaOwn.TT.ne HT.out BKn.out (by decide))
        have NXY_go := Aside0.mk (Go.Proofs.YtnggfglmjdiaaaaOwn.TT.ne HT.out BKo.out (by decide))
        have p_q1 : 0 ≤ q1 := Pq1.out.1
        have q_q1 : q1 < (nY : Int) := Pq1.out.2
        replace p_q1 := eq_true p_q1
        replace q_q1 := eq_true q_q1
        obtain ⟨i0_, hi0_, _, hsz0_, _⟩ := info_parts info3
        have hcut_ := cut_to (P := Try.prog) 73 3 .i64 Try.underlying73 hi0_ AsF sF.length csF q2 HQ0.out HQ1.out HCsF.out
        replace HT := Aside0.mk (HT.out.drew)
        replace BKx := Aside0.mk (blk_drew BKx.out)
        replace BKr := Aside0.mk (blk_drew BKr.out)
        replace BKn := Aside0.mk (blk_drew BKn.out)
        replace BKo := Aside0.mk (blk_drew BKo.out)
        replace HB := Aside0.mk (below_drew1 HB.out)
        replace HVsF := Aside0.mk ((show (w30.drew).cell? ⟨gY_, (q1).toNat, none⟩ = some (.slice AsF sF.length csF) from HVsF.out))
        replace HFsF := Aside0.mk ((show (w30.drew).frozen? ⟨gY_, (q1).toNat, none⟩ = false from HFsF.out))
        refine start_ (n := 14) (S := fun w' => w'.cell? ⟨gY_, (q1).toNat, none⟩ = some (.slice AsF sF.length csF) ∧ w'.cell? ⟨go, 0, none⟩ = some (.slice (some ⟨gY_, 0, none⟩) nY cY)) (ds := [13]) #[false, false, false, false, false, false, false, false, false, false, false, false, false, false] Yba_ rfl rfl ⟨HVsF.out, (blk_cell BKo.out 0).trans rfl⟩ (fun hHeld => ?_)
        generalize w30.drew = w31 at HT BKx BKr BKn BKo HB HVsF HFsF hHeld ⊢
        refine pure_ (i := 0) (N := some 88) #[true, false, false, false, false, false, false, false, false, false, false, false, false, false] rfl rfl Yba_ (fun _ _ _ h => h) (Or.inl ⟨by rfl, Yj_⟩) Ya_ ?_
        refine pure_ (i := 1) (N := some 89) #[true, true, false, false, false, false, false, false, false, false, false, false, false, false] rfl rfl Yba_ (fun _ _ _ h => h) (Or.inl ⟨by rfl, Yj_⟩) Ya_ ?_
        refine pure_ (i := 3) (N := some 91) #[true, true, false, true, false, false, false, false, false, false, false, false, false, false] rfl rfl Yba_ (fun _ _ _ h => h) (Or.inl ⟨by rfl, Yj_⟩) Ya_ ?_
        refine pure_ (i := 4) (N := some 92) #[true, true, false, true, true, false, false, false, false, false, false, false, false, false] rfl rfl Yba_ (fun _ _ _ h => h) (Or.inl ⟨by rfl, Yj_⟩) Ya_ ?_
        refine pure_ (i := 5) (N := some 93) #[true, true, false, true, true, true, false, false, false, false, false, false, false, false] rfl rfl Yba_ (fun _ _ _ h => h) (Or.inl ⟨by rfl, Yj_⟩) Ya_ ?_
        refine pure_ (i := 7) (N := some 95) #[true, true, false, true, true, true, false, true, false, false, false, false, false, false] rfl rfl Yba_ (fun _ _ _ h => h) (Or.inl ⟨by rfl, Yj_⟩) Ya_ ?_
        refine pure_ (i := 10) (N := some 98) #[true, true, false, true, true, true, false, true, false, false, true, false, false, false] rfl rfl Yba_ (fun _ _ _ h => h) (Or.inl ⟨by rfl, Yj_⟩) Ya_ ?_
        refine take_ (i := 2) (N := some 90) #[true, true, true, true, true, true, false, true, false, false, true, false, false, false] rfl rfl Yba_ (fun _ _ _ h => h) (Or.inl ⟨by rfl, Ycb_⟩) hHeld Ya_ ?_
        refine take_ (i := 6) (N := some 94) #[true, true, true, true, true, true, true, true, false, false, true, false, false, false] rfl rfl Yba_ (fun _ _ _ h => h) (Or.inl ⟨by rfl, Ycb_⟩) hHeld Ya_ ?_
        refine pure_ (i := 8) (N := some 96) #[true, true, true, true, true, true, true, true, true, false, true, false, false, false] rfl rfl Yba_ (fun _ _ _ h => h) (Or.inl ⟨by rfl, Yj_⟩) Ya_ ?_
        refine take_ (i := 9) (N := some 97) #[true, true, true, true, true, true, true, true, true, true, true, false, false, false] rfl rfl Yba_ (fun _ _ _ h => h) (Or.inl ⟨by rfl, Ycb_⟩) hHeld Ya_ ?_
        refine pure_ (i := 11) (N := some 99) #[true, true, true, true, true, true, true, true, true, true, true, true, false, false] rfl rfl Yba_ (fun _ _ _ h => h) (Or.inl ⟨by rfl, Yj_⟩) Ya_ ?_
        refine pure_ (i := 12) (N := some 100) #[true, true, true, true, true, true, true, true, true, true, true, true, true, false] rfl rfl Yba_ (fun _ _ _ h => h) (Or.inl ⟨by rfl, Yj_⟩) Ya_ ?_
        refine last_ (i := 13) (N := none) #[true, true, true, true, true, true, true, true, true, true, true, true, true, true] rfl rfl Yba_ (by decide) (fun K hK => ?_)
        have hv_ := HVsF.out
        have hf_ := HFsF.out
        refine Go.Proofs.YtnggfglmjdiaaaaOwn.Fh (w1 := (w31.setCell ⟨gY_, (q1).toNat, none⟩ (.slice AsF (q2).toNat csF))) (by rfl) rfl ?_ ?_
        ·first | (go_simp; done) | (go_simp; rfl)
        intro w32 hw
        clear hv_ hf_
        have hO_ : Go.Proofs.YtnggfglmjdiaaaaOwn.Only w31 w32 gY_ := Yca_
        have ht_ := (Go.Proofs.YtnggfglmjdiaaaaOwn.TT.cut HT.out Pq1.out.1 Yci_ HVsF.out Yeh_).1
        rw [← hw] at ht_
        clear HT
        have HT := Aside0.mk ht_
        clear ht_ hw
        replace BKx := Aside0.mk ((hO_.others _ NXY_gx.out).trans BKx.out)
        replace BKr := Aside0.mk ((hO_.others _ NXY_gr.out).trans BKr.out)
        replace BKn := Aside0.mk ((hO_.others _ NXY_gn.out).trans BKn.out)
        replace BKo := Aside0.mk ((hO_.others _ NXY_go.out).trans BKo.out)
        replace HB := Aside0.mk (hO_.below HB.out GEY.out)
        clear hO_
        clear NXY_gx
        clear NXY_gr
        clear NXY_gn
        clear NXY_go
        rw [show Y.set (q1).toNat ((Y.getD (q1).toNat []).take (q2).toNat) = lF from HLlF.out.symm] at HT
        refine hK.out _ _ ?_
        clear hK K
        refine done_ Yba_ ?_
        clear p_q1 q_q1 HVsF HFsF HCsF HRsF
        clear hcut_ hi0_ hsz0_ HQ0 HQ1 HMq2
        have hzgx_0 : w32.cell? ⟨gx, 0, none⟩ = some (.int .i64 1) := (blk_cell BKx.out 0).trans rfl
        have hzgx_1 : w32.cell? ⟨gx, 1, none⟩ = some (.int .i64 a1_1) := (blk_cell BKx.out 1).trans rfl
        have hzgx_2 : w32.cell? ⟨gx, 2, none⟩ = some (.int .i64 a1_2) := (blk_cell BKx.out 2).trans rfl
        have hzgn_0 : w32.cell? ⟨gn, 0, none⟩ = some (.slice none 0 0) := (blk_cell BKn.out 0).trans rfl
        have hzgn_1 : w32.cell? ⟨gn, 1, none⟩ = some (.int .i64 0) := (blk_cell BKn.out 1).trans rfl
        have hzgn_2 : w32.cell? ⟨gn, 2, none⟩ = some (.slice none 0 0) := (blk_cell BKn.out 2).trans rfl
        have hzgo_0 : w32.cell? ⟨go, 0, none⟩ = some (.slice (some ⟨gY_, 0, none⟩) nY cY) := (blk_cell BKo.out 0).trans rfl
        have hzgo_1 : w32.cell? ⟨go, 1, none⟩ = some (.int .i64 hh) := (blk_cell BKo.out 1).trans rfl
        have hzgo_2 : w32.cell? ⟨go, 2, none⟩ = some (.slice AB nB cB) := (blk_cell BKo.out 2).trans rfl
        unfold lmPutY at h
        have hwn_ : wrap64 ((nY : Int) - 1) = (nY : Int) - 1 := by have h1_ := HT.out.reads; have h2_ := h1_.2.2.2.1; have h3_ := h1_.1; unfold wrap64; omega
        have HWI := Aside0.mk (show Bj.f a1_2 0 ((nY : Int) - 1) = some (inRows lF a1_2) from by rw [HT.out.reads.1]; exact l1In_f2 _ _ _)
        cases cW : inRows lF a1_2 with
        | false =>
         rw [cW] at HWI
         rw [cW, if_neg (by decide)] at h
         simp only [Option.some.injEq, Prod.mk.injEq] at h
         obtain ⟨rfl, rfl, rfl, rfl⟩ := h
         clear BKx
         clear BKo
         clear HT
         go_wp2_with (first | (go_at_call 71; (with_reducible refine (Bj.calls a1_2 0 ((nY : Int) - 1) false _ HWI.out).mono ?_); rintro e w33 ⟨rfl, hd_⟩; (try clear hzgn_0); (try clear hzgn_1); (try clear hzgn_2); (try clear hzgo_0); (try clear hzgo_1); (try clear hzgo_2); (try clear hzgx_0); (try clear hzgx_1); (try clear hzgx_2); have hb := Drawn0.below hd_; clear hd_; replace BKr := Aside0.mk (blk_below BKr.out hb); replace BKn := Aside0.mk (blk_below BKn.out hb); replace HB := Aside0.mk (below_step HB.out hb); clear hb; have hzgn_0 : w33.cell? ⟨gn, 0, none⟩ = some (.slice none 0 0) := (blk_cell BKn.out 0).trans rfl; have hzgn_1 : w33.cell? ⟨gn, 1, none⟩ = some (.int .i64 0) := (blk_cell BKn.out 1).trans rfl; have hzgn_2 : w33.cell? ⟨gn, 2, none⟩ = some (.slice none 0 0) := (blk_cell BKn.out 2).trans rfl) | ((with_reducible refine gate_store (t := 34) (p := 4) rfl ?_); refine Go.Proofs.YtnggfglmjdiaaaaOwn.sto3 (t := 34) (p := 4) (g := gr) (w0 := w) Yba_ rfl rfl rfl rfl (by rfl) BKr.out HB.out GEgr.out ?_; intro w34 hbx_ hB_ hO_; (try clear hzgn_0); (try clear hzgn_1); (try clear hzgn_2); clear BKr HB hO_; have BKr := Aside0.mk hbx_; have HB := Aside0.mk hB_; clear hbx_ hB_))
         refine bodyPost_ret (Dh rfl _ _ gr 34 #[.slice none 0 0, .int .i64 0, .slice none 0 0] (0, 0) _ rfl BKr.out Try.underlying34 rfl Yba_) rfl ?_
         exact ⟨_, _, rfl, Go.Proofs.YtnggfglmjdiaaaaOwn.TT.nil _ _ _, HB.out⟩
        | true =>
         rw [cW] at HWI
         rw [cW, if_pos rfl] at h
         have Pa1_2 := Aside0.mk (show 0 ≤ a1_2 ∧ a1_2 < (nY : Int) from by have h1_ := inRows_lt cW; have h2_ := HT.out.reads.1; omega)
         clear cW
         obtain ⟨sG, hsG⟩ : ∃ z, z = rd_L1 lF a1_2 := ⟨_, rfl⟩
         rw [← hsG] at h
         have HSsG := Aside0.mk hsG
         clear hsG
         by_cases cS : (Df.f sG).isSome = true
         ·rw [if_pos cS] at h
          clear cS
          replace h := Option.bind_eq_some_iff.mp h
          obtain ⟨sC, a_, h⟩ := h
          have A3 := Aside0.mk a_
          clear a_
          by_cases cL : sC.length < 17592186044415
          ·rw [if_pos cL] at h
           have HLsC := Aside0.mk cL
           clear cL
           obtain ⟨sH, hsH⟩ : ∃ z, z = sC ++ [a1_1] := ⟨_, rfl⟩
           have HSsH := Aside0.mk hsH
           obtain ⟨lG, hlG⟩ : ∃ z, z = lF.set (a1_2).toNat (sC ++ [a1_1]) := ⟨_, rfl⟩
           have HLlG := Aside0.mk (show lG = lF.set (a1_2).toNat sH from by rw [hlG, hsH])
           rw [← hlG] at h
           clear hlG hsH
           replace h := Option.bind_eq_some_iff.mp h
           obtain ⟨vv, a_, h⟩ := h
           have A4 := Aside0.mk a_
           clear a_
           go_upto_region 18 with (first | (go_at_call 71; (with_reducible refine (Bj.calls a1_2 0 ((nY : Int) - 1) true _ HWI.out).mono ?_); rintro e w35 ⟨rfl, hd_⟩; (try clear hzgn_0); (try clear hzgn_1); (try clear hzgn_2); (try clear hzgo_0); (try clear hzgo_1); (try clear hzgo_2); (try clear hzgx_0); (try clear hzgx_1); (try clear hzgx_2); have hb := Drawn0.below hd_; clear hd_; replace HT := Aside0.mk (HT.out.below hb); replace BKx := Aside0.mk (blk_below BKx.out hb); replace BKr := Aside0.mk (blk_below BKr.out hb); replace BKn := Aside0.mk (blk_below BKn.out hb); replace BKo := Aside0.mk (blk_below BKo.out hb); replace HB := Aside0.mk (below_step HB.out hb); clear hb))
           clear hwn_ HWI
           obtain ⟨gY_, eg_, gb_, gl_⟩ := HT.out.form Yce_
           have GEY := Aside0.mk gb_
           clear gb_ gl_
           obtain rfl := (Addr.mk.inj (Option.some.inj eg_)).1
           clear eg_
           obtain ⟨AsG, csG, hv_, hc_, hC_, hf_⟩ := Go.Proofs.YtnggfglmjdiaaaaOwn.TT.elem HT.out (i := a1_2) Pa1_2.out.1 Yce_
           have e_ : (lF.getD (a1_2).toNat []) = sG := HSsG.out.symm
           rw [e_] at hv_ hc_ hC_
           clear e_
           have HVsG := Aside0.mk hv_
           have HCsG := Aside0.mk hc_
           have HRsG := Aside0.mk hC_
           have HFsG := Aside0.mk hf_
           clear hv_ hc_ hC_ hf_
           have NXY_gx := Aside0.mk (Go.Proofs.YtnggfglmjdiaaaaOwn.TT.ne HT.out BKx.out (by decide))
           have NXY_gr := Aside0.mk (Go.Proofs.YtnggfglmjdiaaaaOwn.TT.ne HT.out BKr.out (by decide))
           have NXY_gn := Aside0.mk (Go.Proofs.YtnggfglmjdiaaaaOwn.TT.ne HT.out BKn.out (by decide))
           have NXY_go := Aside0.mk (Go.Proofs.YtnggfglmjdiaaaaOwn.TT.ne HT.out BKo.out (by decide))
           have p_a1_2 : 0 ≤ a1_2 := Pa1_2.out.1
           have q_a1_2 : a1_2 < (nY : Int) := Pa1_2.out.2
           replace p_a1_2 := eq_true p_a1_2
           replace q_a1_2 := eq_true q_a1_2
           replace HT := Aside0.mk (HT.out.drew)
           replace BKx := Aside0.mk (blk_drew BKx.out)
           replace BKr := Aside0.mk (blk_drew BKr.out)
           replace BKn := Aside0.mk (blk_drew BKn.out)
           replace BKo := Aside0.mk (blk_drew BKo.out)
           replace HB := Aside0.mk (below_drew1 HB.out)
           replace HVsG := Aside0.mk ((show (w35.drew).cell? ⟨gY_, (a1_2).toNat, none⟩ = some (.slice AsG sG.length csG) from HVsG.out))
           replace HFsG := Aside0.mk ((show (w35.drew).frozen? ⟨gY_, (a1_2).toNat, none⟩ = false from HFsG.out))
           replace HRsG := Aside0.mk ((show Kd.C (Kd.int .i64) (w35.drew) AsG sG.length sG from HRsG.out))
           refine start_ (n := 19) (S := fun w' => w'.cell? ⟨gY_, (a1_2).toNat, none⟩ = some (.slice AsG sG.length csG) ∧ w'.cell? ⟨go, 0, none⟩ = some (.slice (some ⟨gY_, 0, none⟩) nY cY) ∧ w'.cell? ⟨gx, 1, none⟩ = some (.int .i64 a1_1) ∧ w'.cell? ⟨gx, 2, none⟩ = some (.int .i64 a1_2)) (ds := [18]) #[false, false, false, false, false, false, false, false, false, false, false, false, false, false, false, false, false, false, false] Yba_ rfl rfl ⟨HVsG.out, (blk_cell BKo.out 0).trans rfl, (blk_cell BKx.out 1).trans rfl, (blk_cell BKx.out 2).trans rfl⟩ (fun hHeld => ?_)
           generalize w35.drew = w36 at HT BKx BKr BKn BKo HB HVsG HFsG HRsG hHeld ⊢
           refine pure_ (i := 0) (N := some 117) #[true, false, false, false, false, false, false, false, false, false, false, false, false, false, false, false, false, false, false] rfl rfl Yba_ (fun _ _ _ h => h) (Or.inl ⟨by rfl, Yj_⟩) Ya_ ?_
           refine pure_ (i := 1) (N := some 118) #[true, true, false, false, false, false, false, false, false, false, false, false, false, false, false, false, false, false, false] rfl rfl Yba_ (fun _ _ _ h => h) (Or.inl ⟨by rfl, Yj_⟩) Ya_ ?_
           refine pure_ (i := 3) (N := some 120) #[true, true, false, true, false, false, false, false, false, false, false, false, false, false, false, false, false, false, false] rfl rfl Yba_ (fun _ _ _ h => h) (Or.inl ⟨by rfl, Yj_⟩) Ya_ ?_
           refine pure_ (i := 5) (N := some 122) #[true, true, false, true, false, true, false, false, false, false, false, false, false, false, false, false, false, false, false] rfl rfl Yba_ (fun _ _ _ h => h) (Or.inl ⟨by rfl, Yj_⟩) Ya_ ?_
           refine pure_ (i := 6) (N := some 123) #[true, true, false, true, false, true, true, false, false, false, false, false, false, false, false, false, false, false, false] rfl rfl Yba_ (fun _ _ _ h => h) (Or.inl ⟨by rfl, Yj_⟩) Ya_ ?_
           refine pure_ (i := 8) (N := some 125) #[true, true, false, true, false, true, true, false, true, false, false, false, false, false, false, false, false, false, false] rfl rfl Yba_ (fun _ _ _ h => h) (Or.inl ⟨by rfl, Yj_⟩) Ya_ ?_
           refine pure_ (i := 13) (N := some 130) #[true, true, false, true, false, true, true, false, true, false, false, false, false, true, false, false, false, false, false] rfl rfl Yba_ (fun _ _ _ h => h) (Or.inl ⟨by rfl, Yj_⟩) Ya_ ?_
           refine take_ (i := 2) (N := some 119) #[true, true, true, true, false, true, true, false, true, false, false, false, false, true, false, false, false, false, false] rfl rfl Yba_ (fun _ _ _ h => h) (Or.inl ⟨by rfl, Ybh_⟩) hHeld Ya_ ?_
           refine take_ (i := 4) (N := some 121) #[true, true, true, true, true, true, true, false, true, false, false, false, false, true, false, false, false, false, false] rfl rfl Yba_ (fun _ _ _ h => h) (Or.inl ⟨by rfl, Ybh_⟩) hHeld Ya_ ?_
           refine take_ (i := 7) (N := some 124) #[true, true, true, true, true, true, true, true, true, false, false, false, false, true, false, false, false, false, false] rfl rfl Yba_ (fun _ _ _ h => h) (Or.inl ⟨by rfl, Ybh_⟩) hHeld Ya_ ?_
           refine take_ (i := 9) (N := some 126) #[true, true, true, true, true, true, true, true, true, true, false, false, false, true, false, false, false, false, false] rfl rfl Yba_ (fun _ _ _ h => h) (Or.inl ⟨by rfl, Ybh_⟩) hHeld Ya_ ?_
           refine pure_ (i := 10) (N := some 127) #[true, true, true, true, true, true, true, true, true, true, true, false, false, true, false, false, false, false, false] rfl rfl Yba_ (fun _ _ _ h => h) (Or.inl ⟨by rfl, Yj_⟩) Ya_ ?_
           refine take_ (i := 11) (N := some 128) #[true, true, true, true, true, true, true, true, true, true, true, true, false, true, false, false, false, false, false] rfl rfl Yba_ (fun _ _ _ h => h) (Or.inl ⟨by rfl, Ybh_⟩) hHeld Ya_ ?_
           refine take_ (i := 14) (N := some 131) #[true, true, true, true, true, true, true, true, true, true, true, true, false, true, true, false, false, false, false] rfl rfl Yba_ (fun _ _ _ h => h) (Or.inl ⟨by rfl, Ybh_⟩) hHeld Ya_ ?_
           refine join_ (σ := Value × Option Addr × Nat) 3 #[true, true, true, true, true, true, true, true, true, true, true, true, true, true, true, true, false, false, false] (fun s => match s with | ⟨vC, A40, c40⟩ => [(129, vC), (132, .slice A40 ([a1_1] : List Int).length c40)]) (fun s w' => match s with | ⟨vC, A40, c40⟩ => Aside0 (Kd.R (Kd.int .i64) 3 w' w36.heap.size (fun _ => True) vC sC) ∧ Aside0 (Kd.R (Kd.int .i64) 3 w' w36.heap.size (fun _ => True) (.slice A40 ([a1_1] : List Int).length c40) [a1_1]) ∧ Aside0 (Below w36.heap.size w36 w')) ?_ ?_
           rotate_left
           ·intro hCont
            refine two_ (i := 12) (j := 15) (Ni := some 129) (Nj := some 132) #[true, true, true, true, true, true, true, true, true, true, true, true, true, true, true, false, false, false, false] #[true, true, true, true, true, true, true, true, true, true, true, true, false, true, true, true, false, false, false] rfl rfl rfl rfl Yba_ (by decide) (by decide) (fun K hK => ?_) (fun K hK => ?_)
            ·skip
             have HB2 := Aside0.mk (Below.refl w36.heap.size w36)
             refine goes_ Try.func72 Yba_ rfl #[.slice AsG sG.length csG] (by rfl) rfl rfl Yde_ ?_
             with_reducible refine (Df.calls _ _ sG sC _ (Kd.C_below HRsG.out HB2.out) HCsG.out A3.out).mono ?_
             rintro e W1_ ⟨vC, rfl, ho_, hb_⟩
             refine ⟨_, rfl, ?_⟩
             have HN := Aside0.mk (Kd.R_lower ho_ (below_size HB2.out))
             have m_ := Aside0.mk (below_step HB2.out hb_)
             clear HB2 ho_ hb_
             have HB2 := m_
             clear m_
             refine hK.out _ _ ⟨(HB2.out.cell (World.block_lt_of_cell? _ _ HVsG.out)).trans HVsG.out, (blk_cell (blk_below BKo.out HB2.out) 0).trans rfl, (blk_cell (blk_below BKx.out HB2.out) 1).trans rfl, (blk_cell (blk_below BKx.out HB2.out) 2).trans rfl⟩ (fun hHeld => ?_)
             clear hK K
             refine norm_ (show Act.put _ (some 129) _ = _ from Ya_) ?_
             refine one_ (i := 15) (N := some 132) #[true, true, true, true, true, true, true, true, true, true, true, true, true, true, true, true, false, false, false] rfl rfl Yba_ (by decide) (fun K hK => ?_)
             refine Kd.F6 (Kd.int .i64) w36.heap.size 3 ?hg (N := 132) ?hd (xs := ([a1_1] : List Int)) (inner := [.int .i64 a1_1]) (ok := fun _ => True) (okp := fun _ => True) ?hr ?hp (fun _ hk => hk) trivial HB2.out (below_size HB2.out) (by simp) ?_; (case hd => rfl); (case hg => rfl); (case hr => first | (go_simp; done) | (go_simp; rfl)); (case hp => exact (Reps.one (show Kd.M (Kd.int .i64) _ _ _ a1_1 [.int .i64 a1_1] from rfl) (Reps.none _ _)))
             intro vL_ W2_ ho hb hg_ hnew_
             obtain ⟨A40, c40, e40_⟩ := Kd.Di ho
             subst e40_
             have HL := Aside0.mk ho
             replace HN := Aside0.mk (Kd.R_grown HN.out hg_ (fun _ _ h_ => nomatch h_))
             clear HB2
             have HB2 := Aside0.mk hb
             clear hb hg_ hnew_ ho
             refine hK.out _ _ ⟨(HB2.out.cell (World.block_lt_of_cell? _ _ HVsG.out)).trans HVsG.out, (blk_cell (blk_below BKo.out HB2.out) 0).trans rfl, (blk_cell (blk_below BKx.out HB2.out) 1).trans rfl, (blk_cell (blk_below BKx.out HB2.out) 2).trans rfl⟩ (fun hHeld => ?_)
             clear hK K
             refine norm_ (show Act.put _ (some 132) _ = _ from Ya_) ?_
             exact norm_ Ycg_ (hCont (vC, A40, c40) _ ⟨HN, HL, HB2⟩)
            ·skip
             have HB2 := Aside0.mk (Below.refl w36.heap.size w36)
             refine Kd.F6 (Kd.int .i64) w36.heap.size 3 ?hg (N := 132) ?hd (xs := ([a1_1] : List Int)) (inner := [.int .i64 a1_1]) (ok := fun _ => True) (okp := fun _ => True) ?hr ?hp (fun _ hk => hk) trivial HB2.out (below_size HB2.out) (by simp) ?_; (case hd => rfl); (case hg => rfl); (case hr => first | (go_simp; done) | (go_simp; rfl)); (case hp => exact (Reps.one (show Kd.M (Kd.int .i64) _ _ _ a1_1 [.int .i64 a1_1] from rfl) (Reps.none _ _)))
             intro vL_ W1_ ho hb hg_ hnew_
             obtain ⟨A40, c40, e40_⟩ := Kd.Di ho
             subst e40_
             have HL := Aside0.mk ho
             clear HB2
             have HB2 := Aside0.mk hb
             clear hb hg_ hnew_ ho
             refine hK.out _ _ ⟨(HB2.out.cell (World.block_lt_of_cell? _ _ HVsG.out)).trans HVsG.out, (blk_cell (blk_below BKo.out HB2.out) 0).trans rfl, (blk_cell (blk_below BKx.out HB2.out) 1).trans rfl, (blk_cell (blk_below BKx.out HB2.out) 2).trans rfl⟩ (fun hHeld => ?_)
             clear hK K
             refine norm_ (show Act.put _ (some 132) _ = _ from Ya_) ?_
             refine one_ (i := 12) (N := some 129) #[true, true, true, true, true, true, true, true, true, true, true, true, true, true, true, true, false, false, false] rfl rfl Yba_ (by decide) (fun K hK => ?_)
             refine goes_ Try.func72 Yba_ rfl #[.slice AsG sG.length csG] (by rfl) rfl rfl Yde_ ?_
             with_reducible refine (Df.calls _ _ sG sC _ (Kd.C_below HRsG.out HB2.out) HCsG.out A3.out).mono ?_
             rintro e W2_ ⟨vC, rfl, ho_, hb_⟩
             refine ⟨_, rfl, ?_⟩
             have HN := Aside0.mk (Kd.R_lower ho_ (below_size HB2.out))
             replace HL := Aside0.mk (Kd.Cf HL.out hb_)
             have m_ := Aside0.mk (below_step HB2.out hb_)
             clear HB2 ho_ hb_
             have HB2 := m_
             clear m_
             refine hK.out _ _ ⟨(HB2.out.cell (World.block_lt_of_cell? _ _ HVsG.out)).trans HVsG.out, (blk_cell (blk_below BKo.out HB2.out) 0).trans rfl, (blk_cell (blk_below BKx.out HB2.out) 1).trans rfl, (blk_cell (blk_below BKx.out HB2.out) 2).trans rfl⟩ (fun hHeld => ?_)
             clear hK K
             refine norm_ (show Act.put _ (some 129) _ = _ from Ya_) ?_
             exact norm_ Ycg_ (hCont (vC, A40, c40) _ ⟨HN, HL, HB2⟩)
           rintro ⟨vC, A40, c40⟩ W4_ ⟨HN, HL, HB2⟩
           have hHeld : (fun w' => w'.cell? ⟨gY_, (a1_2).toNat, none⟩ = some (.slice AsG sG.length csG) ∧ w'.cell? ⟨go, 0, none⟩ = some (.slice (some ⟨gY_, 0, none⟩) nY cY) ∧ w'.cell? ⟨gx, 1, none⟩ = some (.int .i64 a1_1) ∧ w'.cell? ⟨gx, 2, none⟩ = some (.int .i64 a1_2)) W4_ := ⟨(HB2.out.cell (World.block_lt_of_cell? _ _ HVsG.out)).trans HVsG.out, (blk_cell (blk_below BKo.out HB2.out) 0).trans rfl, (blk_cell (blk_below BKx.out HB2.out) 1).trans rfl, (blk_cell (blk_below BKx.out HB2.out) 2).trans rfl⟩
           refine norm_ (a' := ?_) ?_ ?_
           rotate_left
           ·simp only [putAll, Act.put, List.setIfInBounds_toArray, List.set_cons_zero, List.set_cons_succ]
            rfl
           refine one_ (i := 16) (N := some 133) #[true, true, true, true, true, true, true, true, true, true, true, true, true, true, true, true, true, false, false] rfl rfl Yba_ (by decide) (fun K hK => ?_)
           refine Kd.Fz (Kd.int .i64) (w0 := w36) w36.heap.size (by rfl) (.tmp 129) (.tmp 132) 73 3 (.int .i64 0) 8 rfl Try.underlying73 info3 rfl (by decide) (by omega) vC sC [a1_1] A40 ([a1_1] : List Int).length c40 (fun _ => True) (fun _ => False) rfl rfl HN.out ((Kd.Bh HL.out).2.2) (fun _ _ h => h) (fun _ h => h.elim) (fun _ _ => trivial) HB2.out (below_size HB2.out) Yei_ ?_
           intro v_ w37 ho hb hg hat
           clear hg hat HN HL HB2
           rw [← HSsH.out] at ho
           obtain ⟨AsH, csH, ev_⟩ := Kd.Di ho
           subst ev_
           have hk_ := (Go.Proofs.YtnggfglmjdiaaaaOwn.TT.put HT.out (below_size HB.out) hb Pa1_2.out.1 Yce_ ho).1
           have HT2 := Aside0.mk hk_
           clear hk_ ho HT
           have hv_ := (hb.cell (World.block_lt_of_cell? _ _ HVsG.out)).trans HVsG.out
           have hf_ := (World.frozen?_of_block (hb.block _ (World.block_lt_of_cell? _ _ HVsG.out))).trans HFsG.out
           clear HVsG HFsG
           have HVsG := Aside0.mk hv_
           have HFsG := Aside0.mk hf_
           clear hv_ hf_
           replace BKx := Aside0.mk (blk_below BKx.out hb)
           replace BKr := Aside0.mk (blk_below BKr.out hb)
           replace BKn := Aside0.mk (blk_below BKn.out hb)
           replace BKo := Aside0.mk (blk_below BKo.out hb)
           replace HB := Aside0.mk (below_step HB.out hb)
           clear hb
           refine hK.out _ _ ⟨HVsG.out, (blk_cell BKo.out 0).trans rfl, (blk_cell BKx.out 1).trans rfl, (blk_cell BKx.out 2).trans rfl⟩ (fun hHeld => ?_)
           clear hK K
           refine norm_ (show Act.put _ (some 133) _ = _ from Ya_) ?_
           refine pure_ (i := 17) (N := some 134) #[true, true, true, true, true, true, true, true, true, true, true, true, true, true, true, true, true, true, false] rfl rfl Yba_ (fun _ _ _ h => h) (Or.inl ⟨by rfl, Yj_⟩) Ya_ ?_
           refine last_ (i := 18) (N := none) #[true, true, true, true, true, true, true, true, true, true, true, true, true, true, true, true, true, true, true] rfl rfl Yba_ (by decide) (fun K hK => ?_)
           have hv_ := HVsG.out
           have hf_ := HFsG.out
           refine Go.Proofs.YtnggfglmjdiaaaaOwn.Fh (w1 := (w37.setCell ⟨gY_, (a1_2).toNat, none⟩ (.slice AsH sH.length csH))) (by rfl) rfl ?_ ?_
           ·first | (go_simp; done) | (go_simp; rfl)
           intro w38 hw
           clear hv_ hf_
           have HT := HT2
           clear HT2
           have hO_ : Go.Proofs.YtnggfglmjdiaaaaOwn.Only w37 w38 gY_ := Yca_
           have ht_ := HT.out
           rw [← hw] at ht_
           clear HT
           have HT := Aside0.mk ht_
           clear ht_ hw
           replace BKx := Aside0.mk ((hO_.others _ NXY_gx.out).trans BKx.out)
           replace BKr := Aside0.mk ((hO_.others _ NXY_gr.out).trans BKr.out)
           replace BKn := Aside0.mk ((hO_.others _ NXY_gn.out).trans BKn.out)
           replace BKo := Aside0.mk ((hO_.others _ NXY_go.out).trans BKo.out)
           replace HB := Aside0.mk (hO_.below HB.out GEY.out)
           clear hO_
           clear NXY_gx
           clear NXY_gr
           clear NXY_gn
           clear NXY_go
           rw [show lF.set (a1_2).toNat sH = lG from HLlG.out.symm] at HT
           refine hK.out _ _ ?_
           clear hK K
           refine done_ Yba_ ?_
           clear p_a1_2 q_a1_2 HVsG HFsG HCsG HRsG
           have hy_ := HT.out.reads
           have hb_ := HT.out.swap.reads
           have call_ := Ac.calls k (some ⟨gY_, 0, none⟩) cY lG hh AB cB B vv _ hy_.2.2 (hy_.1 ▸ hy_.2.1) hb_.2.2 (hb_.1 ▸ hb_.2.1) A4.out
           rw [← hy_.1, ← hb_.1] at call_
           have CALLV := Aside0.mk call_
           clear call_ hy_ hb_
           clear BKx
           have hzgn_0 : w38.cell? ⟨gn, 0, none⟩ = some (.slice none 0 0) := (blk_cell BKn.out 0).trans rfl
           have hzgn_1 : w38.cell? ⟨gn, 1, none⟩ = some (.int .i64 0) := (blk_cell BKn.out 1).trans rfl
           have hzgn_2 : w38.cell? ⟨gn, 2, none⟩ = some (.slice none 0 0) := (blk_cell BKn.out 2).trans rfl
           have hzgo_0 : w38.cell? ⟨go, 0, none⟩ = some (.slice (some ⟨gY_, 0, none⟩) nY cY) := (blk_cell BKo.out 0).trans rfl
           have hzgo_1 : w38.cell? ⟨go, 1, none⟩ = some (.int .i64 hh) := (blk_cell BKo.out 1).trans rfl
           have hzgo_2 : w38.cell? ⟨go, 2, none⟩ = some (.slice AB nB cB) := (blk_cell BKo.out 2).trans rfl
           cases vv with
           | false =>
            simp only [Ff, Bool.false_eq_true, if_false] at h
            simp only [Option.some.injEq, Prod.mk.injEq] at h
            obtain ⟨rfl, rfl, rfl, rfl⟩ := h
            clear BKo
            clear HT
            go_wp2_with (first | (go_at_call 39; (with_reducible refine (CALLV.out).mono ?_); rintro e w39 ⟨rfl, hb⟩; (try clear hzgn_0); (try clear hzgn_1); (try clear hzgn_2); (try clear hzgo_0); (try clear hzgo_1); (try clear hzgo_2); replace BKr := Aside0.mk (blk_below BKr.out hb); replace BKn := Aside0.mk (blk_below BKn.out hb); replace HB := Aside0.mk (below_step HB.out hb); clear hb; have hzgn_0 : w39.cell? ⟨gn, 0, none⟩ = some (.slice none 0 0) := (blk_cell BKn.out 0).trans rfl; have hzgn_1 : w39.cell? ⟨gn, 1, none⟩ = some (.int .i64 0) := (blk_cell BKn.out 1).trans rfl; have hzgn_2 : w39.cell? ⟨gn, 2, none⟩ = some (.slice none 0 0) := (blk_cell BKn.out 2).trans rfl) | ((with_reducible refine gate_store (t := 34) (p := 4) rfl ?_); refine Go.Proofs.YtnggfglmjdiaaaaOwn.sto3 (t := 34) (p := 4) (g := gr) (w0 := w) Yba_ rfl rfl rfl rfl (by rfl) BKr.out HB.out GEgr.out ?_; intro w40 hbx_ hB_ hO_; (try clear hzgn_0); (try clear hzgn_1); (try clear hzgn_2); clear BKr HB hO_; have BKr := Aside0.mk hbx_; have HB := Aside0.mk hB_; clear hbx_ hB_))
            refine bodyPost_ret (Dh rfl _ _ gr 34 #[.slice none 0 0, .int .i64 0, .slice none 0 0] (0, 0) _ rfl BKr.out Try.underlying34 rfl Yba_) rfl ?_
            exact ⟨_, _, rfl, Go.Proofs.YtnggfglmjdiaaaaOwn.TT.nil _ _ _, HB.out⟩
           | true =>
            simp only [Ff, if_true] at h
            simp only [Option.some.injEq, Prod.mk.injEq] at h
            obtain ⟨rfl, rfl, rfl, rfl⟩ := h
            clear BKn
            go_wp2_with (first | (go_at_call 39; (with_reducible refine (CALLV.out).mono ?_); rintro e w41 ⟨rfl, hb⟩; (try clear hzgn_0); (try clear hzgn_1); (try clear hzgn_2); (try clear hzgo_0); (try clear hzgo_1); (try clear hzgo_2); replace HT := Aside0.mk (HT.out.below hb); replace BKr := Aside0.mk (blk_below BKr.out hb); replace BKo := Aside0.mk (blk_below BKo.out hb); replace HB := Aside0.mk (below_step HB.out hb); clear hb; have hzgo_0 : w41.cell? ⟨go, 0, none⟩ = some (.slice (some ⟨gY_, 0, none⟩) nY cY) := (blk_cell BKo.out 0).trans rfl; have hzgo_1 : w41.cell? ⟨go, 1, none⟩ = some (.int .i64 hh) := (blk_cell BKo.out 1).trans rfl; have hzgo_2 : w41.cell? ⟨go, 2, none⟩ = some (.slice AB nB cB) := (blk_cell BKo.out 2).trans rfl) | ((with_reducible refine gate_store (t := 34) (p := 4) rfl ?_); refine Go.Proofs.YtnggfglmjdiaaaaOwn.sto3 (t := 34) (p := 4) (g := gr) (w0 := w) Yba_ rfl rfl rfl rfl (by rfl) BKr.out HB.out GEgr.out ?_; intro w42 hbx_ hB_ hO_; (try clear hzgo_0); (try clear hzgo_1); (try clear hzgo_2); replace HT := Aside0.mk (HT.out.only BKr.out (by decide) hO_); clear BKr HB hO_; have BKr := Aside0.mk hbx_; have HB := Aside0.mk hB_; clear hbx_ hB_))
            refine bodyPost_ret (Dh rfl _ _ gr 34 #[.slice (some ⟨gY_, 0, none⟩) nY cY, .int .i64 hh, .slice AB nB cB] (0, 0) _ rfl BKr.out Try.underlying34 rfl Yba_) rfl ?_
            exact ⟨_, _, rfl, HT.out, HB.out⟩
          ·rw [if_neg cL] at h
           cases h
         ·rw [if_neg cS] at h
          cases h
       ·rw [if_neg c5] at h
        cases h
     ·rw [if_neg c3] at h
      simp only [Option.some.injEq, Prod.mk.injEq] at h
      obtain ⟨rfl, rfl, rfl, rfl⟩ := h
      have d1_ : (q2 == (sT.length : Int) - 1) = false := by simp [c3]
      have d2_ : decide (q2 = (sT.length : Int) - 1) = false := decide_eq_false c3
      have d3_ : (q2 != (sT.length : Int) - 1) = true := by simp [c3]
      clear c3
      clear BKx
      clear BKo
      clear HT
      go_wp2_with (first | (go_at_call 47; (with_reducible refine (Ae.calls k _ _ l0_0 a1_1 q1 q2 _ (Kd.C_below HR0_0.out HB.out) HC0_0.out A2.out).mono ?_); rintro e w43 ⟨rfl, hb⟩; (try clear hzgn_0); (try clear hzgn_1); (try clear hzgn_2); (try clear hzgt_0); (try clear hzgt_1); (try clear hzgt_2); (try clear hzgx_0); (try clear hzgx_1); (try clear hzgx_2); replace BKt := Aside0.mk (blk_below BKt.out hb); replace BKr := Aside0.mk (blk_below BKr.out hb); replace BKn := Aside0.mk (blk_below BKn.out hb); replace HB := Aside0.mk (below_step HB.out hb); have hxt_ : w43.cell? (adT.add q1.toNat) = some (.slice AT sT.length cT) := (HB.out.cell (World.block_lt_of_cell? w _ HXT.out)).trans HXT.out; clear hb; have hzgt_0 : w43.cell? ⟨gt, 0, none⟩ = some (.slice (some adT) l0_0.length c0_0) := (blk_cell BKt.out 0).trans rfl; have hzgt_1 : w43.cell? ⟨gt, 1, none⟩ = some (.int .i64 a0_1) := (blk_cell BKt.out 1).trans rfl; have hzgt_2 : w43.cell? ⟨gt, 2, none⟩ = some (.slice A0_2 l0_2.length c0_2) := (blk_cell BKt.out 2).trans rfl; have hzgn_0 : w43.cell? ⟨gn, 0, none⟩ = some (.slice none 0 0) := (blk_cell BKn.out 0).trans rfl; have hzgn_1 : w43.cell? ⟨gn, 1, none⟩ = some (.int .i64 0) := (blk_cell BKn.out 1).trans rfl; have hzgn_2 : w43.cell? ⟨gn, 2, none⟩ = some (.slice none 0 0) := (blk_cell BKn.out 2).trans rfl) | ((with_reducible refine gate_store (t := 34) (p := 4) rfl ?_); refine Go.Proofs.YtnggfglmjdiaaaaOwn.sto3 (t := 34) (p := 4) (g := gr) (w0 := w) Yba_ rfl rfl rfl rfl (by rfl) BKr.out HB.out GEgr.out ?_; intro w44 hbx_ hB_ hO_; (try clear hzgn_0); (try clear hzgn_1); (try clear hzgn_2); (try clear hzgt_0); (try clear hzgt_1); (try clear hzgt_2); clear BKr HB hO_; have BKr := Aside0.mk hbx_; have HB := Aside0.mk hB_; clear hbx_ hB_))
      refine bodyPost_ret (Dh rfl _ _ gr 34 #[.slice none 0 0, .int .i64 0, .slice none 0 0] (0, 0) _ rfl BKr.out Try.underlying34 rfl Yba_) rfl ?_
      exact ⟨_, _, rfl, Go.Proofs.YtnggfglmjdiaaaaOwn.TT.nil _ _ _, HB.out⟩
    ·rw [if_neg c2] at h
     cases h
  ·simp only [if_neg k1] at h
   by_cases k2 : a1_0 = 2
   ·simp only [if_pos k2] at h
    subst k2
    clear k1 k3
    replace h := Option.bind_eq_some_iff.mp h
    obtain ⟨⟨q1, q2⟩, a_, h⟩ := h
    have A2 := Aside0.mk a_
    clear a_
    dsimp only at h
    unfold lmCut at h
    by_cases c1 : q1 < 0
    ·rw [if_pos c1] at h
     simp only [Option.some.injEq, Prod.mk.injEq] at h
     obtain ⟨rfl, rfl, rfl, rfl⟩ := h
     have cb1 : decide (q1 < 0) = true := decide_eq_true c1
     clear c1
     clear BKx
     clear BKo
     clear HT
     go_wp2_with (first | (go_at_call 47; (with_reducible refine (Ae.calls k _ _ l0_0 a1_1 q1 q2 _ (Kd.C_below HR0_0.out HB.out) HC0_0.out A2.out).mono ?_); rintro e w45 ⟨rfl, hb⟩; (try clear hzgn_0); (try clear hzgn_1); (try clear hzgn_2); (try clear hzgt_0); (try clear hzgt_1); (try clear hzgt_2); (try clear hzgx_0); (try clear hzgx_1); (try clear hzgx_2); replace BKt := Aside0.mk (blk_below BKt.out hb); replace BKr := Aside0.mk (blk_below BKr.out hb); replace BKn := Aside0.mk (blk_below BKn.out hb); replace HB := Aside0.mk (below_step HB.out hb); clear hb; have hzgn_0 : w45.cell? ⟨gn, 0, none⟩ = some (.slice none 0 0) := (blk_cell BKn.out 0).trans rfl; have hzgn_1 : w45.cell? ⟨gn, 1, none⟩ = some (.int .i64 0) := (blk_cell BKn.out 1).trans rfl; have hzgn_2 : w45.cell? ⟨gn, 2, none⟩ = some (.slice none 0 0) := (blk_cell BKn.out 2).trans rfl) | ((with_reducible refine gate_store (t := 34) (p := 4) rfl ?_); refine Go.Proofs.YtnggfglmjdiaaaaOwn.sto3 (t := 34) (p := 4) (g := gr) (w0 := w) Yba_ rfl rfl rfl rfl (by rfl) BKr.out HB.out GEgr.out ?_; intro w46 hbx_ hB_ hO_; (try clear hzgn_0); (try clear hzgn_1); (try clear hzgn_2); clear BKr HB hO_; have BKr := Aside0.mk hbx_; have HB := Aside0.mk hB_; clear hbx_ hB_))
     refine bodyPost_ret (Dh rfl _ _ gr 34 #[.slice none 0 0, .int .i64 0, .slice none 0 0] (0, 0) _ rfl BKr.out Try.underlying34 rfl Yba_) rfl ?_
     exact ⟨_, _, rfl, Go.Proofs.YtnggfglmjdiaaaaOwn.TT.nil _ _ _, HB.out⟩
    ·rw [if_neg c1] at h
     by_cases c2 : q1 < (l0_0.length : Int)
     ·rw [if_pos c2] at h
      have cb1 : decide (q1 < 0) = false := decide_eq_false c1
      have p_ : 0 ≤ q1 := by omega
      obtain ⟨adT, AT, cT, eT, hx_, hl_, hi_⟩ := C9 HR0_0.out q1 p_ c2
      subst eT
      have hlw_ := hi_.2.1
      obtain ⟨sT, hsT⟩ : ∃ z, z = rd_L1 l0_0 q1 := ⟨_, rfl⟩
      rw [← hsT] at h hx_ hlw_
      clear hl_ hi_ hsT
      have HXT := Aside0.mk hx_
      clear hx_
      have hwt_ : wrap64 ((sT.length : Int) - 1) = (sT.length : Int) - 1 := by unfold wrap64; omega
      clear hlw_
      have C1 := Aside0.mk p_
      have C2 := Aside0.mk c2
      have p1_ := eq_true p_
      have q1_ := eq_true c2
      clear p_ c1 c2
      by_cases c3 : q2 = (sT.length : Int) - 1
      ·rw [if_pos c3] at h
       have d1_ : (q2 == (sT.length : Int) - 1) = true := by simp [c3]
       have d2_ : decide (q2 = (sT.length : Int) - 1) = true := decide_eq_true c3
       have d3_ : (q2 != (sT.length : Int) - 1) = false := by simp [c3]
       clear c3
       rw [if_pos rfl] at h
       by_cases c5 : 0 ≤ q2 ∧ q1 < (Y.length : Int) ∧ q2 ≤ ((rd_L1 Y q1).length : Int)
       ·rw [if_pos c5] at h
        obtain ⟨sF, hsF⟩ : ∃ z, z = rd_L1 Y q1 := ⟨_, rfl⟩
        rw [← hsF] at c5
        have HSsF := Aside0.mk hsF
        obtain ⟨c5, c6, c7⟩ := c5
        have Pq1 := Aside0.mk (show 0 ≤ q1 ∧ q1 < (nY : Int) from ⟨C1.out, by have := HT.out.reads.1; omega⟩)
        have HMq2 := Aside0.mk (show (q2).toNat ≤ sF.length from by omega)
        have HQ0 := Aside0.mk c5
        have HQ1 := Aside0.mk c7
        clear c5 c6 c7
        obtain ⟨lF, hlF⟩ : ∃ z, z = cutAt Y q1 q2 := ⟨_, rfl⟩
        have HLlF := Aside0.mk (show lF = Y.set (q1).toNat ((Y.getD (q1).toNat []).take (q2).toNat) from hlF)
        rw [← hlF] at h
        (try dsimp only at h)
        clear hlF hsF
        go_upto_region 11 with (first | (go_at_call 47; (with_reducible refine (Ae.calls k _ _ l0_0 a1_1 q1 q2 _ (Kd.C_below HR0_0.out HB.out) HC0_0.out A2.out).mono ?_); rintro e w47 ⟨rfl, hb⟩; (try clear hzgn_0); (try clear hzgn_1); (try clear hzgn_2); (try clear hzgt_0); (try clear hzgt_1); (try clear hzgt_2); (try clear hzgx_0); (try clear hzgx_1); (try clear hzgx_2); replace HT := Aside0.mk (HT.out.below hb); replace BKt := Aside0.mk (blk_below BKt.out hb); replace BKx := Aside0.mk (blk_below BKx.out hb); replace BKr := Aside0.mk (blk_below BKr.out hb); replace BKn := Aside0.mk (blk_below BKn.out hb); replace BKo := Aside0.mk (blk_below BKo.out hb); replace HB := Aside0.mk (below_step HB.out hb); have hxt_ : w47.cell? (adT.add q1.toNat) = some (.slice AT sT.length cT) := (HB.out.cell (World.block_lt_of_cell? w _ HXT.out)).trans HXT.out; clear hb; have hzgt_0 : w47.cell? ⟨gt, 0, none⟩ = some (.slice (some adT) l0_0.length c0_0) := (blk_cell BKt.out 0).trans rfl; have hzgt_1 : w47.cell? ⟨gt, 1, none⟩ = some (.int .i64 a0_1) := (blk_cell BKt.out 1).trans rfl; have hzgt_2 : w47.cell? ⟨gt, 2, none⟩ = some (.slice A0_2 l0_2.length c0_2) := (blk_cell BKt.out 2).trans rfl; have hzgx_0 : w47.cell? ⟨gx, 0, none⟩ = some (.int .i64 2) := (blk_cell BKx.out 0).trans rfl; have hzgx_1 : w47.cell? ⟨gx, 1, none⟩ = some (.int .i64 a1_1) := (blk_cell BKx.out 1).trans rfl; have hzgx_2 : w47.cell? ⟨gx, 2, none⟩ = some (.int .i64 a1_2) := (blk_cell BKx.out 2).trans rfl))
        clear hwt_ d1_ d2_ d3_ p1_ q1_
        (try clear hxt_)
        (try clear hzgt_0)
        (try clear hzgt_1)
        (try clear hzgt_2)
        (try clear hzgx_0)
        (try clear hzgx_1)
        (try clear hzgx_2)
        clear BKt
        obtain ⟨gY_, eg_, gb_, gl_⟩ := HT.out.form Yci_
        have GEY := Aside0.mk gb_
        clear gb_ gl_
        subst eg_
        obtain ⟨AsF, csF, hv_, hc_, hC_, hf_⟩ := Go.Proofs.YtnggfglmjdiaaaaOwn.TT.elem HT.out (i := q1) Pq1.out.1 Yci_
        have e_ : (Y.getD (q1).toNat []) = sF := HSsF.out.symm
        rw [e_] at hv_ hc_ hC_
        clear e_
        have HVsF := Aside0.mk hv_
        have HCsF := Aside0.mk hc_
        have HRsF := Aside0.mk hC_
        have HFsF := Aside0.mk hf_
        clear hv_ hc_ hC_ hf_
        have NXY_gx := Aside0.mk (Go.Proofs.YtnggfglmjdiaaaaOwn.TT.ne HT.out BKx.out (by decide))
        have NXY_gr := Aside0.mk (Go.Proofs.YtnggfglmjdiaaaaOwn.TT.ne HT.out BKr.out (by decide))
        have NXY_gn := Aside0.mk (Go.Proofs.YtnggfglmjdiaaaaOwn.TT.ne HT.out BKn.out (by decide))
        have NXY_go := Aside0.mk (Go.Proofs.YtnggfglmjdiaaaaOwn.TT.ne HT.out BKo.out (by decide))
        have p_q1 : 0 ≤ q1 := Pq1.out.1
        have q_q1 : q1 < (nY : Int) := Pq1.out.2
        replace p_q1 := eq_true p_q1
        replace q_q1 := eq_true q_q1
        obtain ⟨i0_, hi0_, _, hsz0_, _⟩ := info_parts info3
        have hcut_ := cut_to (P := Try.prog) 73 3 .i64 Try.underlying73 hi0_ AsF sF.length csF q2 HQ0.out HQ1.out HCsF.out
        replace HT := Aside0.mk (HT.out.drew)
        replace BKx := Aside0.mk (blk_drew BKx.out)
        replace BKr := Aside0.mk (blk_drew BKr.out)
        replace BKn := Aside0.mk (blk_drew BKn.out)
        replace BKo := Aside0.mk (blk_drew BKo.out)
        replace HB := Aside0.mk (below_drew1 HB.out)
        replace HVsF := Aside0.mk ((show (w47.drew).cell? ⟨gY_, (q1).toNat, none⟩ = some (.slice AsF sF.length csF) from HVsF.out))
        replace HFsF := Aside0.mk ((show (w47.drew).frozen? ⟨gY_, (q1).toNat, none⟩ = false from HFsF.out))
        refine start_ (n := 14) (S := fun w' => w'.cell? ⟨gY_, (q1).toNat, none⟩ = some (.slice AsF sF.length csF) ∧ w'.cell? ⟨go, 0, none⟩ = some (.slice (some ⟨gY_, 0, none⟩) nY cY)) (ds := [13]) #[false, false, false, false, false, false, false, false, false, false, false, false, false, false] Yba_ rfl rfl ⟨HVsF.out, (blk_cell BKo.out 0).trans rfl⟩ (fun hHeld => ?_)
        generalize w47.drew = w48 at HT BKx BKr BKn BKo HB HVsF HFsF hHeld ⊢
        refine pure_ (i := 0) (N := some 88) #[true, false, false, false, false, false, false, false, false, false, false, false, false, false] rfl rfl Yba_ (fun _ _ _ h => h) (Or.inl ⟨by rfl, Yj_⟩) Ya_ ?_
        refine pure_ (i := 1) (N := some 89) #[true, true, false, false, false, false, false, false, false, false, false, false, false, false] rfl rfl Yba_ (fun _ _ _ h => h) (Or.inl ⟨by rfl, Yj_⟩) Ya_ ?_
        refine pure_ (i := 3) (N := some 91) #[true, true, false, true, false, false, false, false, false, false, false, false, false, false] rfl rfl Yba_ (fun _ _ _ h => h) (Or.inl ⟨by rfl, Yj_⟩) Ya_ ?_
        refine pure_ (i := 4) (N := some 92) #[true, true, false, true, true, false, false, false, false, false, false, false, false, false] rfl rfl Yba_ (fun _ _ _ h => h) (Or.inl ⟨by rfl, Yj_⟩) Ya_ ?_
        refine pure_ (i := 5) (N := some 93) #[true, true, false, true, true, true, false, false, false, false, false, false, false, false] rfl rfl Yba_ (fun _ _ _ h => h) (Or.inl ⟨by rfl, Yj_⟩) Ya_ ?_
        refine pure_ (i := 7) (N := some 95) #[true, true, false, true, true, true, false, true, false, false, false, false, false, false] rfl rfl Yba_ (fun _ _ _ h => h) (Or.inl ⟨by rfl, Yj_⟩) Ya_ ?_
        refine pure_ (i := 10) (N := some 98) #[true, true, false, true, true, true, false, true, false, false, true, false, false, false] rfl rfl Yba_ (fun _ _ _ h => h) (Or.inl ⟨by rfl, Yj_⟩) Ya_ ?_
        refine take_ (i := 2) (N := some 90) #[true, true, true, true, true, true, false, true, false, false, true, false, false, false] rfl rfl Yba_ (fun _ _ _ h => h) (Or.inl ⟨by rfl, Ycb_⟩) hHeld Ya_ ?_
        refine take_ (i := 6) (N := some 94) #[true, true, true, true, true, true, true, true, false, false, true, false, false, false] rfl rfl Yba_ (fun _ _ _ h => h) (Or.inl ⟨by rfl, Ycb_⟩) hHeld Ya_ ?_
        refine pure_ (i := 8) (N := some 96) #[true, true, true, true, true, true, true, true, true, false, true, false, false, false] rfl rfl Yba_ (fun _ _ _ h => h) (Or.inl ⟨by rfl, Yj_⟩) Ya_ ?_
        refine take_ (i := 9) (N := some 97) #[true, true, true, true, true, true, true, true, true, true, true, false, false, false] rfl rfl Yba_ (fun _ _ _ h => h) (Or.inl ⟨by rfl, Ycb_⟩) hHeld Ya_ ?_
        refine pure_ (i := 11) (N := some 99) #[true, true, true, true, true, true, true, true, true, true, true, true, false, false] rfl rfl Yba_ (fun _ _ _ h => h) (Or.inl ⟨by rfl, Yj_⟩) Ya_ ?_
        refine pure_ (i := 12) (N := some 100) #[true, true, true, true, true, true, true, true, true, true, true, true, true, false] rfl rfl Yba_ (fun _ _ _ h => h) (Or.inl ⟨by rfl, Yj_⟩) Ya_ ?_
        refine last_ (i := 13) (N := none) #[true, true, true, true, true, true, true, true, true, true, true, true, true, true] rfl rfl Yba_ (by decide) (fun K hK => ?_)
        have hv_ := HVsF.out
        have hf_ := HFsF.out
        refine Go.Proofs.YtnggfglmjdiaaaaOwn.Fh (w1 := (w48.setCell ⟨gY_, (q1).toNat, none⟩ (.slice AsF (q2).toNat csF))) (by rfl) rfl ?_ ?_
        ·first | (go_simp; done) | (go_simp; rfl)
        intro w49 hw
        clear hv_ hf_
        have hO_ : Go.Proofs.YtnggfglmjdiaaaaOwn.Only w48 w49 gY_ := Yca_
        have ht_ := (Go.Proofs.YtnggfglmjdiaaaaOwn.TT.cut HT.out Pq1.out.1 Yci_ HVsF.out Yeh_).1
        rw [← hw] at ht_
        clear HT
        have HT := Aside0.mk ht_
        clear ht_ hw
        replace BKx := Aside0.mk ((hO_.others _ NXY_gx.out).trans BKx.out)
        replace BKr := Aside0.mk ((hO_.others _ NXY_gr.out).trans BKr.out)
        replace BKn := Aside0.mk ((hO_.others _ NXY_gn.out).trans BKn.out)
        replace BKo := Aside0.mk ((hO_.others _ NXY_go.out).trans BKo.out)
        replace HB := Aside0.mk (hO_.below HB.out GEY.out)
        clear hO_
        clear NXY_gx
        clear NXY_gr
        clear NXY_gn
        clear NXY_go
        rw [show Y.set (q1).toNat ((Y.getD (q1).toNat []).take (q2).toNat) = lF from HLlF.out.symm] at HT
        refine hK.out _ _ ?_
        clear hK K
        refine done_ Yba_ ?_
        clear p_q1 q_q1 HVsF HFsF HCsF HRsF
        clear hcut_ hi0_ hsz0_ HQ0 HQ1 HMq2
        have hzgx_0 : w49.cell? ⟨gx, 0, none⟩ = some (.int .i64 2) := (blk_cell BKx.out 0).trans rfl
        have hzgx_1 : w49.cell? ⟨gx, 1, none⟩ = some (.int .i64 a1_1) := (blk_cell BKx.out 1).trans rfl
        have hzgx_2 : w49.cell? ⟨gx, 2, none⟩ = some (.int .i64 a1_2) := (blk_cell BKx.out 2).trans rfl
        have hzgn_0 : w49.cell? ⟨gn, 0, none⟩ = some (.slice none 0 0) := (blk_cell BKn.out 0).trans rfl
        have hzgn_1 : w49.cell? ⟨gn, 1, none⟩ = some (.int .i64 0) := (blk_cell BKn.out 1).trans rfl
        have hzgn_2 : w49.cell? ⟨gn, 2, none⟩ = some (.slice none 0 0) := (blk_cell BKn.out 2).trans rfl
        have hzgo_0 : w49.cell? ⟨go, 0, none⟩ = some (.slice (some ⟨gY_, 0, none⟩) nY cY) := (blk_cell BKo.out 0).trans rfl
        have hzgo_1 : w49.cell? ⟨go, 1, none⟩ = some (.int .i64 hh) := (blk_cell BKo.out 1).trans rfl
        have hzgo_2 : w49.cell? ⟨go, 2, none⟩ = some (.slice AB nB cB) := (blk_cell BKo.out 2).trans rfl
        unfold lmPutB at h
        have hwn_ : wrap64 ((nB : Int) - 1) = (nB : Int) - 1 := by have h1_ := HT.out.swap.reads; have h2_ := h1_.2.2.2.1; have h3_ := h1_.1; unfold wrap64; omega
        have HWI := Aside0.mk (show Bj.f a1_2 0 ((nB : Int) - 1) = some (inRows B a1_2) from by rw [HT.out.swap.reads.1]; exact l1In_f2 _ _ _)
        cases cW : inRows B a1_2 with
        | false =>
         rw [cW] at HWI
         rw [cW, if_neg (by decide)] at h
         simp only [Option.some.injEq, Prod.mk.injEq] at h
         obtain ⟨rfl, rfl, rfl, rfl⟩ := h
         clear BKx
         clear BKo
         clear HT
         go_wp2_with (first | (go_at_call 71; (with_reducible refine (Bj.calls a1_2 0 ((nB : Int) - 1) false _ HWI.out).mono ?_); rintro e w50 ⟨rfl, hd_⟩; (try clear hzgn_0); (try clear hzgn_1); (try clear hzgn_2); (try clear hzgo_0); (try clear hzgo_1); (try clear hzgo_2); (try clear hzgx_0); (try clear hzgx_1); (try clear hzgx_2); have hb := Drawn0.below hd_; clear hd_; replace BKr := Aside0.mk (blk_below BKr.out hb); replace BKn := Aside0.mk (blk_below BKn.out hb); replace HB := Aside0.mk (below_step HB.out hb); clear hb; have hzgn_0 : w50.cell? ⟨gn, 0, none⟩ = some (.slice none 0 0) := (blk_cell BKn.out 0).trans rfl; have hzgn_1 : w50.cell? ⟨gn, 1, none⟩ = some (.int .i64 0) := (blk_cell BKn.out 1).trans rfl; have hzgn_2 : w50.cell? ⟨gn, 2, none⟩ = some (.slice none 0 0) := (blk_cell BKn.out 2).trans rfl) | ((with_reducible refine gate_store (t := 34) (p := 4) rfl ?_); refine Go.Proofs.YtnggfglmjdiaaaaOwn.sto3 (t := 34) (p := 4) (g := gr) (w0 := w) Yba_ rfl rfl rfl rfl (by rfl) BKr.out HB.out GEgr.out ?_; intro w51 hbx_ hB_ hO_; (try clear hzgn_0); (try clear hzgn_1); (try clear hzgn_2); clear BKr HB hO_; have BKr := Aside0.mk hbx_; have HB := Aside0.mk hB_; clear hbx_ hB_))
         refine bodyPost_ret (Dh rfl _ _ gr 34 #[.slice none 0 0, .int .i64 0, .slice none 0 0] (0, 0) _ rfl BKr.out Try.underlying34 rfl Yba_) rfl ?_
         exact ⟨_, _, rfl, Go.Proofs.YtnggfglmjdiaaaaOwn.TT.nil _ _ _, HB.out⟩
        | true =>
         rw [cW] at HWI
         rw [cW, if_pos rfl] at h
         have Pa1_2 := Aside0.mk (show 0 ≤ a1_2 ∧ a1_2 < (nB : Int) from by have h1_ := inRows_lt cW; have h2_ := HT.out.swap.reads.1; omega)
         clear cW
         obtain ⟨sG, hsG⟩ : ∃ z, z = rd_L1 B a1_2 := ⟨_, rfl⟩
         rw [← hsG] at h
         have HSsG := Aside0.mk hsG
         clear hsG
         by_cases cS : (Df.f sG).isSome = true
         ·rw [if_pos cS] at h
          clear cS
          replace h := Option.bind_eq_some_iff.mp h
          obtain ⟨sC, a_, h⟩ := h
          have A3 := Aside0.mk a_
          clear a_
          by_cases cL : sC.length < 17592186044415
          ·rw [if_pos cL] at h
           have HLsC := Aside0.mk cL
           clear cL
           obtain ⟨sH, hsH⟩ : ∃ z, z = sC ++ [a1_1] := ⟨_, rfl⟩
           have HSsH := Aside0.mk hsH
           obtain ⟨lG, hlG⟩ : ∃ z, z = B.set (a1_2).toNat (sC ++ [a1_1]) := ⟨_, rfl⟩
           have HLlG := Aside0.mk (show lG = B.set (a1_2).toNat sH from by rw [hlG, hsH])
           rw [← hlG] at h
           clear hlG hsH
           replace h := Option.bind_eq_some_iff.mp h
           obtain ⟨vv, a_, h⟩ := h
           have A4 := Aside0.mk a_
           clear a_
           go_upto_region 22 with (first | (go_at_call 71; (with_reducible refine (Bj.calls a1_2 0 ((nB : Int) - 1) true _ HWI.out).mono ?_); rintro e w52 ⟨rfl, hd_⟩; (try clear hzgn_0); (try clear hzgn_1); (try clear hzgn_2); (try clear hzgo_0); (try clear hzgo_1); (try clear hzgo_2); (try clear hzgx_0); (try clear hzgx_1); (try clear hzgx_2); have hb := Drawn0.below hd_; clear hd_; replace HT := Aside0.mk (HT.out.below hb); replace BKx := Aside0.mk (blk_below BKx.out hb); replace BKr := Aside0.mk (blk_below BKr.out hb); replace BKn := Aside0.mk (blk_below BKn.out hb); replace BKo := Aside0.mk (blk_below BKo.out hb); replace HB := Aside0.mk (below_step HB.out hb); clear hb))
           clear hwn_ HWI
           obtain ⟨gB_, eg_, gb_, gl_⟩ := HT.out.swap.form Ydi_
           have GEB := Aside0.mk gb_
           clear gb_ gl_
           subst eg_
           obtain ⟨AsG, csG, hv_, hc_, hC_, hf_⟩ := Go.Proofs.YtnggfglmjdiaaaaOwn.TT.elem HT.out.swap (i := a1_2) Pa1_2.out.1 Ydi_
           have e_ : (B.getD (a1_2).toNat []) = sG := HSsG.out.symm
           rw [e_] at hv_ hc_ hC_
           clear e_
           have HVsG := Aside0.mk hv_
           have HCsG := Aside0.mk hc_
           have HRsG := Aside0.mk hC_
           have HFsG := Aside0.mk hf_
           clear hv_ hc_ hC_ hf_
           have NXB_gx := Aside0.mk (Go.Proofs.YtnggfglmjdiaaaaOwn.TT.ne HT.out.swap BKx.out (by decide))
           have NXB_gr := Aside0.mk (Go.Proofs.YtnggfglmjdiaaaaOwn.TT.ne HT.out.swap BKr.out (by decide))
           have NXB_gn := Aside0.mk (Go.Proofs.YtnggfglmjdiaaaaOwn.TT.ne HT.out.swap BKn.out (by decide))
           have NXB_go := Aside0.mk (Go.Proofs.YtnggfglmjdiaaaaOwn.TT.ne HT.out.swap BKo.out (by decide))
           have p_a1_2 : 0 ≤ a1_2 := Pa1_2.out.1
           have q_a1_2 : a1_2 < (nB : Int) := Pa1_2.out.2
           replace p_a1_2 := eq_true p_a1_2
           replace q_a1_2 := eq_true q_a1_2
           replace HT := Aside0.mk (HT.out.drew)
           replace BKx := Aside0.mk (blk_drew BKx.out)
           replace BKr := Aside0.mk (blk_drew BKr.out)
           replace BKn := Aside0.mk (blk_drew BKn.out)
           replace BKo := Aside0.mk (blk_drew BKo.out)
           replace HB := Aside0.mk (below_drew1 HB.out)
           replace HVsG := Aside0.mk ((show (w52.drew).cell? ⟨gB_, (a1_2).toNat, none⟩ = some (.slice AsG sG.length csG) from HVsG.out))
           replace HFsG := Aside0.mk ((show (w52.drew).frozen? ⟨gB_, (a1_2).toNat, none⟩ = false from HFsG.out))
           replace HRsG := Aside0.mk ((show Kd.C (Kd.int .i64) (w52.drew) AsG sG.length sG from HRsG.out))
           refine start_ (n := 19) (S := fun w' => w'.cell? ⟨gB_, (a1_2).toNat, none⟩ = some (.slice AsG sG.length csG) ∧ w'.cell? ⟨go, 2, none⟩ = some (.slice (some ⟨gB_, 0, none⟩) nB cB) ∧ w'.cell? ⟨gx, 1, none⟩ = some (.int .i64 a1_1) ∧ w'.cell? ⟨gx, 2, none⟩ = some (.int .i64 a1_2)) (ds := [18]) #[false, false, false, false, false, false, false, false, false, false, false, false, false, false, false, false, false, false, false] Yba_ rfl rfl ⟨HVsG.out, (blk_cell BKo.out 2).trans rfl, (blk_cell BKx.out 1).trans rfl, (blk_cell BKx.out 2).trans rfl⟩ (fun hHeld => ?_)
           generalize w52.drew = w53 at HT BKx BKr BKn BKo HB HVsG HFsG HRsG hHeld ⊢
           refine pure_ (i := 0) (N := some 147) #[true, false, false, false, false, false, false, false, false, false, false, false, false, false, false, false, false, false, false] rfl rfl Yba_ (fun _ _ _ h => h) (Or.inl ⟨by rfl, Yj_⟩) Ya_ ?_
           refine pure_ (i := 1) (N := some 148) #[true, true, false, false, false, false, false, false, false, false, false, false, false, false, false, false, false, false, false] rfl rfl Yba_ (fun _ _ _ h => h) (Or.inl ⟨by rfl, Yj_⟩) Ya_ ?_
           refine pure_ (i := 3) (N := some 150) #[true, true, false, true, false, false, false, false, false, false, false, false, false, false, false, false, false, false, false] rfl rfl Yba_ (fun _ _ _ h => h) (Or.inl ⟨by rfl, Yj_⟩) Ya_ ?_
           refine pure_ (i := 5) (N := some 152) #[true, true, false, true, false, true, false, false, false, false, false, false, false, false, false, false, false, false, false] rfl rfl Yba_ (fun _ _ _ h => h) (Or.inl ⟨by rfl, Yj_⟩) Ya_ ?_
           refine pure_ (i := 6) (N := some 153) #[true, true, false, true, false, true, true, false, false, false, false, false, false, false, false, false, false, false, false] rfl rfl Yba_ (fun _ _ _ h => h) (Or.inl ⟨by rfl, Yj_⟩) Ya_ ?_
           refine pure_ (i := 8) (N := some 155) #[true, true, false, true, false, true, true, false, true, false, false, false, false, false, false, false, false, false, false] rfl rfl Yba_ (fun _ _ _ h => h) (Or.inl ⟨by rfl, Yj_⟩) Ya_ ?_
           refine pure_ (i := 13) (N := some 160) #[true, true, false, true, false, true, true, false, true, false, false, false, false, true, false, false, false, false, false] rfl rfl Yba_ (fun _ _ _ h => h) (Or.inl ⟨by rfl, Yj_⟩) Ya_ ?_
           refine take_ (i := 2) (N := some 149) #[true, true, true, true, false, true, true, false, true, false, false, false, false, true, false, false, false, false, false] rfl rfl Yba_ (fun _ _ _ h => h) (Or.inl ⟨by rfl, Ybh_⟩) hHeld Ya_ ?_
           refine take_ (i := 4) (N := some 151) #[true, true, true, true, true, true, true, false, true, false, false, false, false, true, false, false, false, false, false] rfl rfl Yba_ (fun _ _ _ h => h) (Or.inl ⟨by rfl, Ybh_⟩) hHeld Ya_ ?_
           refine take_ (i := 7) (N := some 154) #[true, true, true, true, true, true, true, true, true, false, false, false, false, true, false, false, false, false, false] rfl rfl Yba_ (fun _ _ _ h => h) (Or.inl ⟨by rfl, Ybh_⟩) hHeld Ya_ ?_
           refine take_ (i := 9) (N := some 156) #[true, true, true, true, true, true, true, true, true, true, false, false, false, true, false, false, false, false, false] rfl rfl Yba_ (fun _ _ _ h => h) (Or.inl ⟨by rfl, Ybh_⟩) hHeld Ya_ ?_
           refine pure_ (i := 10) (N := some 157) #[true, true, true, true, true, true, true, true, true, true, true, false, false, true, false, false, false, false, false] rfl rfl Yba_ (fun _ _ _ h => h) (Or.inl ⟨by rfl, Yj_⟩) Ya_ ?_
           refine take_ (i := 11) (N := some 158) #[true, true, true, true, true, true, true, true, true, true, true, true, false, true, false, false, false, false, false] rfl rfl Yba_ (fun _ _ _ h => h) (Or.inl ⟨by rfl, Ybh_⟩) hHeld Ya_ ?_
           refine take_ (i := 14) (N := some 161) #[true, true, true, true, true, true, true, true, true, true, true, true, false, true, true, false, false, false, false] rfl rfl Yba_ (fun _ _ _ h => h) (Or.inl ⟨by rfl, Ybh_⟩) hHeld Ya_ ?_
           refine join_ (σ := Value × Option Addr × Nat) 3 #[true, true, true, true, true, true, true, true, true, true, true, true, true, true, true, true, false, false, false] (fun s => match s with | ⟨vC, A40, c40⟩ => [(159, vC), (162, .slice A40 ([a1_1] : List Int).length c40)]) (fun s w' => match s with | ⟨vC, A40, c40⟩ => Aside0 (Kd.R (Kd.int .i64) 3 w' w53.heap.size (fun _ => True) vC sC) ∧ Aside0 (Kd.R (Kd.int .i64) 3 w' w53.heap.size (fun _ => True) (.slice A40 ([a1_1] : List Int).length c40) [a1_1]) ∧ Aside0 (Below w53.heap.size w53 w')) ?_ ?_
           rotate_left
           ·intro hCont
            refine two_ (i := 12) (j := 15) (Ni := some 159) (Nj := some 162) #[true, true, true, true, true, true, true, true, true, true, true, true, true, true, true, false, false, false, false] #[true, true, true, true, true, true, true, true, true, true, true, true, false, true, true, true, false, false, false] rfl rfl rfl rfl Yba_ (by decide) (by decide) (fun K hK => ?_) (fun K hK => ?_)
            ·skip
             have HB2 := Aside0.mk (Below.refl w53.heap.size w53)
             refine goes_ Try.func72 Yba_ rfl #[.slice AsG sG.length csG] (by rfl) rfl rfl Yde_ ?_
             with_reducible refine (Df.calls _ _ sG sC _ (Kd.C_below HRsG.out HB2.out) HCsG.out A3.out).mono ?_
             rintro e W1_ ⟨vC, rfl, ho_, hb_⟩
             refine ⟨_, rfl, ?_⟩
             have HN := Aside0.mk (Kd.R_lower ho_ (below_size HB2.out))
             have m_ := Aside0.mk (below_step HB2.out hb_)
             clear HB2 ho_ hb_
             have HB2 := m_
             clear m_
             refine hK.out _ _ ⟨(HB2.out.cell (World.block_lt_of_cell? _ _ HVsG.out)).trans HVsG.out, (blk_cell (blk_below BKo.out HB2.out) 2).trans rfl, (blk_cell (blk_below BKx.out HB2.out) 1).trans rfl, (blk_cell (blk_below BKx.out HB2.out) 2).trans rfl⟩ (fun hHeld => ?_)
             clear hK K
             refine norm_ (show Act.put _ (some 159) _ = _ from Ya_) ?_
             refine one_ (i := 15) (N := some 162) #[true, true, true, true, true, true, true, true, true, true, true, true, true, true, true, true, false, false, false] rfl rfl Yba_ (by decide) (fun K hK => ?_)
             refine Kd.F6 (Kd.int .i64) w53.heap.size 3 ?hg (N := 162) ?hd (xs := ([a1_1] : List Int)) (inner := [.int .i64 a1_1]) (ok := fun _ => True) (okp := fun _ => True) ?hr ?hp (fun _ hk => hk) trivial HB2.out (below_size HB2.out) (by simp) ?_; (case hd => rfl); (case hg => rfl); (case hr => first | (go_simp; done) | (go_simp; rfl)); (case hp => exact (Reps.one (show Kd.M (Kd.int .i64) _ _ _ a1_1 [.int .i64 a1_1] from rfl) (Reps.none _ _)))
             intro vL_ W2_ ho hb hg_ hnew_
             obtain ⟨A40, c40, e40_⟩ := Kd.Di ho
             subst e40_
             have HL := Aside0.mk ho
             replace HN := Aside0.mk (Kd.R_grown HN.out hg_ (fun _ _ h_ => nomatch h_))
             clear HB2
             have HB2 := Aside0.mk hb
             clear hb hg_ hnew_ ho
             refine hK.out _ _ ⟨(HB2.out.cell (World.block_lt_of_cell? _ _ HVsG.out)).trans HVsG.out, (blk_cell (blk_below BKo.out HB2.out) 2).trans rfl, (blk_cell (blk_below BKx.out HB2.out) 1).trans rfl, (blk_cell (blk_below BKx.out HB2.out) 2).trans rfl⟩ (fun hHeld => ?_)
             clear hK K
             refine norm_ (show Act.put _ (some 162) _ = _ from Ya_) ?_
             exact norm_ Ycg_ (hCont (vC, A40, c40) _ ⟨HN, HL, HB2⟩)
            ·skip
             have HB2 := Aside0.mk (Below.refl w53.heap.size w53)
             refine Kd.F6 (Kd.int .i64) w53.heap.size 3 ?hg (N := 162) ?hd (xs := ([a1_1] : List Int)) (inner := [.int .i64 a1_1]) (ok := fun _ => True) (okp := fun _ => True) ?hr ?hp (fun _ hk => hk) trivial HB2.out (below_size HB2.out) (by simp) ?_; (case hd => rfl); (case hg => rfl); (case hr => first | (go_simp; done) | (go_simp; rfl)); (case hp => exact (Reps.one (show Kd.M (Kd.int .i64) _ _ _ a1_1 [.int .i64 a1_1] from rfl) (Reps.none _ _)))
             intro vL_ W1_ ho hb hg_ hnew_
             obtain ⟨A40, c40, e40_⟩ := Kd.Di ho
             subst e40_
             have HL := Aside0.mk ho
             clear HB2
             have HB2 := Aside0.mk hb
             clear hb hg_ hnew_ ho
             refine hK.out _ _ ⟨(HB2.out.cell (World.block_lt_of_cell? _ _ HVsG.out)).trans HVsG.out, (blk_cell (blk_below BKo.out HB2.out) 2).trans rfl, (blk_cell (blk_below BKx.out HB2.out) 1).trans rfl, (blk_cell (blk_below BKx.out HB2.out) 2).trans rfl⟩ (fun hHeld => ?_)
             clear hK K
             refine norm_ (show Act.put _ (some 162) _ = _ from Ya_) ?_
             refine one_ (i := 12) (N := some 159) #[true, true, true, true, true, true, true, true, true, true, true, true, true, true, true, true, false, false, false] rfl rfl Yba_ (by decide) (fun K hK => ?_)
             refine goes_ Try.func72 Yba_ rfl #[.slice AsG sG.length csG] (by rfl) rfl rfl Yde_ ?_
             with_reducible refine (Df.calls _ _ sG sC _ (Kd.C_below HRsG.out HB2.out) HCsG.out A3.out).mono ?_
             rintro e W2_ ⟨vC, rfl, ho_, hb_⟩
             refine ⟨_, rfl, ?_⟩
             have HN := Aside0.mk (Kd.R_lower ho_ (below_size HB2.out))
             replace HL := Aside0.mk (Kd.Cf HL.out hb_)
             have m_ := Aside0.mk (below_step HB2.out hb_)
             clear HB2 ho_ hb_
             have HB2 := m_
             clear m_
             refine hK.out _ _ ⟨(HB2.out.cell (World.block_lt_of_cell? _ _ HVsG.out)).trans HVsG.out, (blk_cell (blk_below BKo.out HB2.out) 2).trans rfl, (blk_cell (blk_below BKx.out HB2.out) 1).trans rfl, (blk_cell (blk_below BKx.out HB2.out) 2).trans rfl⟩ (fun hHeld => ?_)
             clear hK K
             refine norm_ (show Act.put _ (some 159) _ = _ from Ya_) ?_
             exact norm_ Ycg_ (hCont (vC, A40, c40) _ ⟨HN, HL, HB2⟩)
           rintro ⟨vC, A40, c40⟩ W4_ ⟨HN, HL, HB2⟩
           have hHeld : (fun w' => w'.cell? ⟨gB_, (a1_2).toNat, none⟩ = some (.slice AsG sG.length csG) ∧ w'.cell? ⟨go, 2, none⟩ = some (.slice (some ⟨gB_, 0, none⟩) nB cB) ∧ w'.cell? ⟨gx, 1, none⟩ = some (.int .i64 a1_1) ∧ w'.cell? ⟨gx, 2, none⟩ = some (.int .i64 a1_2)) W4_ := ⟨(HB2.out.cell (World.block_lt_of_cell? _ _ HVsG.out)).trans HVsG.out, (blk_cell (blk_below BKo.out HB2.out) 2).trans rfl, (blk_cell (blk_below BKx.out HB2.out) 1).trans rfl, (blk_cell (blk_below BKx.out HB2.out) 2).trans rfl⟩
           refine norm_ (a' := ?_) ?_ ?_
           rotate_left
           ·simp only [putAll, Act.put, List.setIfInBounds_toArray, List.set_cons_zero, List.set_cons_succ]
            rfl
           refine one_ (i := 16) (N := some 163) #[true, true, true, true, true, true, true, true, true, true, true, true, true, true, true, true, true, false, false] rfl rfl Yba_ (by decide) (fun K hK => ?_)
           refine Kd.Fz (Kd.int .i64) (w0 := w53) w53.heap.size (by rfl) (.tmp 159) (.tmp 162) 73 3 (.int .i64 0) 8 rfl Try.underlying73 info3 rfl (by decide) (by omega) vC sC [a1_1] A40 ([a1_1] : List Int).length c40 (fun _ => True) (fun _ => False) rfl rfl HN.out ((Kd.Bh HL.out).2.2) (fun _ _ h => h) (fun _ h => h.elim) (fun _ _ => trivial) HB2.out (below_size HB2.out) Yei_ ?_
           intro v_ w54 ho hb hg hat
           clear hg hat HN HL HB2
           rw [← HSsH.out] at ho
           obtain ⟨AsH, csH, ev_⟩ := Kd.Di ho
           subst ev_
           have hk_ := (Go.Proofs.YtnggfglmjdiaaaaOwn.TT.put HT.out.swap (below_size HB.out) hb Pa1_2.out.1 Ydi_ ho).1
           have HT2 := Aside0.mk hk_
           clear hk_ ho HT
           have hv_ := (hb.cell (World.block_lt_of_cell? _ _ HVsG.out)).trans HVsG.out
           have hf_ := (World.frozen?_of_block (hb.block _ (World.block_lt_of_cell? _ _ HVsG.out))).trans HFsG.out
           clear HVsG HFsG
           have HVsG := Aside0.mk hv_
           have HFsG := Aside0.mk hf_
           clear hv_ hf_
           replace BKx := Aside0.mk (blk_below BKx.out hb)
           replace BKr := Aside0.mk (blk_below BKr.out hb)
           replace BKn := Aside0.mk (blk_below BKn.out hb)
           replace BKo := Aside0.mk (blk_below BKo.out hb)
           replace HB := Aside0.mk (below_step HB.out hb)
           clear hb
           refine hK.out _ _ ⟨HVsG.out, (blk_cell BKo.out 2).trans rfl, (blk_cell BKx.out 1).trans rfl, (blk_cell BKx.out 2).trans rfl⟩ (fun hHeld => ?_)
           clear hK K
           refine norm_ (show Act.put _ (some 163) _ = _ from Ya_) ?_
           refine pure_ (i := 17) (N := some 164) #[true, true, true, true, true, true, true, true, true, true, true, true, true, true, true, true, true, true, false] rfl rfl Yba_ (fun _ _ _ h => h) (Or.inl ⟨by rfl, Yj_⟩) Ya_ ?_
           refine last_ (i := 18) (N := none) #[true, true, true, true, true, true, true, true, true, true, true, true, true, true, true, true, true, true, true] rfl rfl Yba_ (by decide) (fun K hK => ?_)
           have hv_ := HVsG.out
           have hf_ := HFsG.out
           refine Go.Proofs.YtnggfglmjdiaaaaOwn.Fh (w1 := (w54.setCell ⟨gB_, (a1_2).toNat, none⟩ (.slice AsH sH.length csH))) (by rfl) rfl ?_ ?_
           ·first | (go_simp; done) | (go_simp; rfl)
           intro w55 hw
           clear hv_ hf_
           have HT := HT2
           clear HT2
           have hO_ : Go.Proofs.YtnggfglmjdiaaaaOwn.Only w54 w55 gB_ := Yca_
           have ht_ := HT.out.swap
           rw [← hw] at ht_
           clear HT
           have HT := Aside0.mk ht_
           clear ht_ hw
           replace BKx := Aside0.mk ((hO_.others _ NXB_gx.out).trans BKx.out)
           replace BKr := Aside0.mk ((hO_.others _ NXB_gr.out).trans BKr.out)
           replace BKn := Aside0.mk ((hO_.others _ NXB_gn.out).trans BKn.out)
           replace BKo := Aside0.mk ((hO_.others _ NXB_go.out).trans BKo.out)
           replace HB := Aside0.mk (hO_.below HB.out GEB.out)
           clear hO_
           clear NXB_gx
           clear NXB_gr
           clear NXB_gn
           clear NXB_go
           rw [show B.set (a1_2).toNat sH = lG from HLlG.out.symm] at HT
           refine hK.out _ _ ?_
           clear hK K
           refine done_ Yba_ ?_
           clear p_a1_2 q_a1_2 HVsG HFsG HCsG HRsG
           have hy_ := HT.out.reads
           have hb_ := HT.out.swap.reads
           have call_ := Ac.calls k (some ⟨gY_, 0, none⟩) cY lF hh (some ⟨gB_, 0, none⟩) cB lG vv _ hy_.2.2 (hy_.1 ▸ hy_.2.1) hb_.2.2 (hb_.1 ▸ hb_.2.1) A4.out
           rw [← hy_.1, ← hb_.1] at call_
           have CALLV := Aside0.mk call_
           clear call_ hy_ hb_
           clear BKx
           have hzgn_0 : w55.cell? ⟨gn, 0, none⟩ = some (.slice none 0 0) := (blk_cell BKn.out 0).trans rfl
           have hzgn_1 : w55.cell? ⟨gn, 1, none⟩ = some (.int .i64 0) := (blk_cell BKn.out 1).trans rfl
           have hzgn_2 : w55.cell? ⟨gn, 2, none⟩ = some (.slice none 0 0) := (blk_cell BKn.out 2).trans rfl
           have hzgo_0 : w55.cell? ⟨go, 0, none⟩ = some (.slice (some ⟨gY_, 0, none⟩) nY cY) := (blk_cell BKo.out 0).trans rfl
           have hzgo_1 : w55.cell? ⟨go, 1, none⟩ = some (.int .i64 hh) := (blk_cell BKo.out 1).trans rfl
           have hzgo_2 : w55.cell? ⟨go, 2, none⟩ = some (.slice (some ⟨gB_, 0, none⟩) nB cB) := (blk_cell BKo.out 2).trans rfl
           cases vv with
           | false =>
            simp only [Ff, Bool.false_eq_true, if_false] at h
            simp only [Option.some.injEq, Prod.mk.injEq] at h
            obtain ⟨rfl, rfl, rfl, rfl⟩ := h
            clear BKo
            clear HT
            go_wp2_with (first | (go_at_call 39; (with_reducible refine (CALLV.out).mono ?_); rintro e w56 ⟨rfl, hb⟩; (try clear hzgn_0); (try clear hzgn_1); (try clear hzgn_2); (try clear hzgo_0); (try clear hzgo_1); (try clear hzgo_2); replace BKr := Aside0.mk (blk_below BKr.out hb); replace BKn := Aside0.mk (blk_below BKn.out hb); replace HB := Aside0.mk (below_step HB.out hb); clear hb; have hzgn_0 : w56.cell? ⟨gn, 0, none⟩ = some (.slice none 0 0) := (blk_cell BKn.out 0).trans rfl; have hzgn_1 : w56.cell? ⟨gn, 1, none⟩ = some (.int .i64 0) := (blk_cell BKn.out 1).trans rfl; have hzgn_2 : w56.cell? ⟨gn, 2, none⟩ = some (.slice none 0 0) := (blk_cell BKn.out 2).trans rfl) | ((with_reducible refine gate_store (t := 34) (p := 4) rfl ?_); refine Go.Proofs.YtnggfglmjdiaaaaOwn.sto3 (t := 34) (p := 4) (g := gr) (w0 := w) Yba_ rfl rfl rfl rfl (by rfl) BKr.out HB.out GEgr.out ?_; intro w57 hbx_ hB_ hO_; (try clear hzgn_0); (try clear hzgn_1); (try clear hzgn_2); clear BKr HB hO_; have BKr := Aside0.mk hbx_; have HB := Aside0.mk hB_; clear hbx_ hB_))
            refine bodyPost_ret (Dh rfl _ _ gr 34 #[.slice none 0 0, .int .i64 0, .slice none 0 0] (0, 0) _ rfl BKr.out Try.underlying34 rfl Yba_) rfl ?_
            exact ⟨_, _, rfl, Go.Proofs.YtnggfglmjdiaaaaOwn.TT.nil _ _ _, HB.out⟩
           | true =>
            simp only [Ff, if_true] at h
            simp only [Option.some.injEq, Prod.mk.injEq] at h
            obtain ⟨rfl, rfl, rfl, rfl⟩ := h
            clear BKn
            go_wp2_with (first | (go_at_call 39; (with_reducible refine (CALLV.out).mono ?_); rintro e w58 ⟨rfl, hb⟩; (try clear hzgn_0); (try clear hzgn_1); (try clear hzgn_2); (try clear hzgo_0); (try clear hzgo_1); (try clear hzgo_2); replace HT := Aside0.mk (HT.out.below hb); replace BKr := Aside0.mk (blk_below BKr.out hb); replace BKo := Aside0.mk (blk_below BKo.out hb); replace HB := Aside0.mk (below_step HB.out hb); clear hb; have hzgo_0 : w58.cell? ⟨go, 0, none⟩ = some (.slice (some ⟨gY_, 0, none⟩) nY cY) := (blk_cell BKo.out 0).trans rfl; have hzgo_1 : w58.cell? ⟨go, 1, none⟩ = some (.int .i64 hh) := (blk_cell BKo.out 1).trans rfl; have hzgo_2 : w58.cell? ⟨go, 2, none⟩ = some (.slice (some ⟨gB_, 0, none⟩) nB cB) := (blk_cell BKo.out 2).trans rfl) | ((with_reducible refine gate_store (t := 34) (p := 4) rfl ?_); refine Go.Proofs.YtnggfglmjdiaaaaOwn.sto3 (t := 34) (p := 4) (g := gr) (w0 := w) Yba_ rfl rfl rfl rfl (by rfl) BKr.out HB.out GEgr.out ?_; intro w59 hbx_ hB_ hO_; (try clear hzgo_0); (try clear hzgo_1); (try clear hzgo_2); replace HT := Aside0.mk (HT.out.only BKr.out (by decide) hO_); clear BKr HB hO_; have BKr := Aside0.mk hbx_; have HB := Aside0.mk hB_; clear hbx_ hB_))
            refine bodyPost_ret (Dh rfl _ _ gr 34 #[.slice (some ⟨gY_, 0, none⟩) nY cY, .int .i64 hh, .slice (some ⟨gB_, 0, none⟩) nB cB] (0, 0) _ rfl BKr.out Try.underlying34 rfl Yba_) rfl ?_
            exact ⟨_, _, rfl, HT.out, HB.out⟩
          ·rw [if_neg cL] at h
           cases h
         ·rw [if_neg cS] at h
          cases h
       ·rw [if_neg c5] at h
        cases h
      ·rw [if_neg c3] at h
       simp only [Option.some.injEq, Prod.mk.injEq] at h
       obtain ⟨rfl, rfl, rfl, rfl⟩ := h
       have d1_ : (q2 == (sT.length : Int) - 1) = false := by simp [c3]
       have d2_ : decide (q2 = (sT.length : Int) - 1) = false := decide_eq_false c3
       have d3_ : (q2 != (sT.length : Int) - 1) = true := by simp [c3]
       clear c3
       clear BKx
       clear BKo
       clear HT
       go_wp2_with (first | (go_at_call 47; (with_reducible refine (Ae.calls k _ _ l0_0 a1_1 q1 q2 _ (Kd.C_below HR0_0.out HB.out) HC0_0.out A2.out).mono ?_); rintro e w60 ⟨rfl, hb⟩; (try clear hzgn_0); (try clear hzgn_1); (try clear hzgn_2); (try clear hzgt_0); (try clear hzgt_1); (try clear hzgt_2); (try clear hzgx_0); (try clear hzgx_1); (try clear hzgx_2); replace BKt := Aside0.mk (blk_below BKt.out hb); replace BKr := Aside0.mk (blk_below BKr.out hb); replace BKn := Aside0.mk (blk_below BKn.out hb); replace HB := Aside0.mk (below_step HB.out hb); have hxt_ : w60.cell? (adT.add q1.toNat) = some (.slice AT sT.length cT) := (HB.out.cell (World.block_lt_of_cell? w _ HXT.out)).trans HXT.out; clear hb; have hzgt_0 : w60.cell? ⟨gt, 0, none⟩ = some (.slice (some adT) l0_0.length c0_0) := (blk_cell BKt.out 0).trans rfl; have hzgt_1 : w60.cell? ⟨gt, 1, none⟩ = some (.int .i64 a0_1) := (blk_cell BKt.out 1).trans rfl; have hzgt_2 : w60.cell? ⟨gt, 2, none⟩ = some (.slice A0_2 l0_2.length c0_2) := (blk_cell BKt.out 2).trans rfl; have hzgn_0 : w60.cell? ⟨gn, 0, none⟩ = some (.slice none 0 0) := (blk_cell BKn.out 0).trans rfl; have hzgn_1 : w60.cell? ⟨gn, 1, none⟩ = some (.int .i64 0) := (blk_cell BKn.out 1).trans rfl; have hzgn_2 : w60.cell? ⟨gn, 2, none⟩ = some (.slice none 0 0) := (blk_cell BKn.out 2).trans rfl) | ((with_reducible refine gate_store (t := 34) (p := 4) rfl ?_); refine Go.Proofs.YtnggfglmjdiaaaaOwn.sto3 (t := 34) (p := 4) (g := gr) (w0 := w) Yba_ rfl rfl rfl rfl (by rfl) BKr.out HB.out GEgr.out ?_; intro w61 hbx_ hB_ hO_; (try clear hzgn_0); (try clear hzgn_1); (try clear hzgn_2); (try clear hzgt_0); (try clear hzgt_1); (try clear hzgt_2); clear BKr HB hO_; have BKr := Aside0.mk hbx_; have HB := Aside0.mk hB_; clear hbx_ hB_))
       refine bodyPost_ret (Dh rfl _ _ gr 34 #[.slice none 0 0, .int .i64 0, .slice none 0 0] (0, 0) _ rfl BKr.out Try.underlying34 rfl Yba_) rfl ?_
       exact ⟨_, _, rfl, Go.Proofs.YtnggfglmjdiaaaaOwn.TT.nil _ _ _, HB.out⟩
     ·rw [if_neg c2] at h
      cases h
   ·simp only [if_neg k2] at h
    have m3_ : (a1_0 == 3) = false := by simp [k3]
    have n3_ : decide (a1_0 = 3) = false := decide_eq_false k3
    replace h := Option.bind_eq_some_iff.mp h
    obtain ⟨⟨q1, q2⟩, a_, h⟩ := h
    have A2 := Aside0.mk a_
    clear a_
    dsimp only at h
    unfold lmCut at h
    by_cases c1 : q1 < 0
    ·rw [if_pos c1] at h
     simp only [Option.some.injEq, Prod.mk.injEq] at h
     obtain ⟨rfl, rfl, rfl, rfl⟩ := h
     have cb1 : decide (q1 < 0) = true := decide_eq_true c1
     clear c1
     clear BKx
     clear BKo
     clear HT
     go_wp2_with (first | (go_at_call 47; (with_reducible refine (Ae.calls k _ _ l0_0 a1_1 q1 q2 _ (Kd.C_below HR0_0.out HB.out) HC0_0.out A2.out).mono ?_); rintro e w62 ⟨rfl, hb⟩; (try clear hzgn_0); (try clear hzgn_1); (try clear hzgn_2); (try clear hzgt_0); (try clear hzgt_1); (try clear hzgt_2); (try clear hzgx_0); (try clear hzgx_1); (try clear hzgx_2); replace BKt := Aside0.mk (blk_below BKt.out hb); replace BKr := Aside0.mk (blk_below BKr.out hb); replace BKn := Aside0.mk (blk_below BKn.out hb); replace HB := Aside0.mk (below_step HB.out hb); clear hb; have hzgn_0 : w62.cell? ⟨gn, 0, none⟩ = some (.slice none 0 0) := (blk_cell BKn.out 0).trans rfl; have hzgn_1 : w62.cell? ⟨gn, 1, none⟩ = some (.int .i64 0) := (blk_cell BKn.out 1).trans rfl; have hzgn_2 : w62.cell? ⟨gn, 2, none⟩ = some (.slice none 0 0) := (blk_cell BKn.out 2).trans rfl) | ((with_reducible refine gate_store (t := 34) (p := 4) rfl ?_); refine Go.Proofs.YtnggfglmjdiaaaaOwn.sto3 (t := 34) (p := 4) (g := gr) (w0 := w) Yba_ rfl rfl rfl rfl (by rfl) BKr.out HB.out GEgr.out ?_; intro w63 hbx_ hB_ hO_; (try clear hzgn_0); (try clear hzgn_1); (try clear hzgn_2); clear BKr HB hO_; have BKr := Aside0.mk hbx_; have HB := Aside0.mk hB_; clear hbx_ hB_))
     refine bodyPost_ret (Dh rfl _ _ gr 34 #[.slice none 0 0, .int .i64 0, .slice none 0 0] (0, 0) _ rfl BKr.out Try.underlying34 rfl Yba_) rfl ?_
     exact ⟨_, _, rfl, Go.Proofs.YtnggfglmjdiaaaaOwn.TT.nil _ _ _, HB.out⟩
    ·rw [if_neg c1] at h
     by_cases c2 : q1 < (l0_0.length : Int)
     ·rw [if_pos c2] at h
      have cb1 : decide (q1 < 0) = false := decide_eq_false c1
      have p_ : 0 ≤ q1 := by omega
      obtain ⟨adT, AT, cT, eT, hx_, hl_, hi_⟩ := C9 HR0_0.out q1 p_ c2
      subst eT
      have hlw_ := hi_.2.1
      obtain ⟨sT, hsT⟩ : ∃ z, z = rd_L1 l0_0 q1 := ⟨_, rfl⟩
      rw [← hsT] at h hx_ hlw_
      clear hl_ hi_ hsT
      have HXT := Aside0.mk hx_
      clear hx_
      have hwt_ : wrap64 ((sT.length : Int) - 1) = (sT.length : Int) - 1 := by unfold wrap64; omega
      clear hlw_
      have C1 := Aside0.mk p_
      have C2 := Aside0.mk c2
      have p1_ := eq_true p_
      have q1_ := eq_true c2
      clear p_ c1 c2
      by_cases c3 : q2 = (sT.length : Int) - 1
      ·rw [if_pos c3] at h
       have d1_ : (q2 == (sT.length : Int) - 1) = true := by simp [c3]
       have d2_ : decide (q2 = (sT.length : Int) - 1) = true := decide_eq_true c3
       have d3_ : (q2 != (sT.length : Int) - 1) = false := by simp [c3]
       clear c3
       rw [if_pos rfl] at h
       by_cases c5 : 0 ≤ q2 ∧ q1 < (Y.length : Int) ∧ q2 ≤ ((rd_L1 Y q1).length : Int)
       ·rw [if_pos c5] at h
        obtain ⟨sF, hsF⟩ : ∃ z, z = rd_L1 Y q1 := ⟨_, rfl⟩
        rw [← hsF] at c5
        have HSsF := Aside0.mk hsF
        obtain ⟨c5, c6, c7⟩ := c5
        have Pq1 := Aside0.mk (show 0 ≤ q1 ∧ q1 < (nY : Int) from ⟨C1.out, by have := HT.out.reads.1; omega⟩)
        have HMq2 := Aside0.mk (show (q2).toNat ≤ sF.length from by omega)
        have HQ0 := Aside0.mk c5
        have HQ1 := Aside0.mk c7
        clear c5 c6 c7
        obtain ⟨lF, hlF⟩ : ∃ z, z = cutAt Y q1 q2 := ⟨_, rfl⟩
        have HLlF := Aside0.mk (show lF = Y.set (q1).toNat ((Y.getD (q1).toNat []).take (q2).toNat) from hlF)
        rw [← hlF] at h
        (try dsimp only at h)
        clear hlF hsF
        go_upto_region 11 with (first | (go_at_call 47; (with_reducible refine (Ae.calls k _ _ l0_0 a1_1 q1 q2 _ (Kd.C_below HR0_0.out HB.out) HC0_0.out A2.out).mono ?_); rintro e w64 ⟨rfl, hb⟩; (try clear hzgn_0); (try clear hzgn_1); (try clear hzgn_2); (try clear hzgt_0); (try clear hzgt_1); (try clear hzgt_2); (try clear hzgx_0); (try clear hzgx_1); (try clear hzgx_2); replace HT := Aside0.mk (HT.out.below hb); replace BKt := Aside0.mk (blk_below BKt.out hb); replace BKx := Aside0.mk (blk_below BKx.out hb); replace BKr := Aside0.mk (blk_below BKr.out hb); replace BKn := Aside0.mk (blk_below BKn.out hb); replace BKo := Aside0.mk (blk_below BKo.out hb); replace HB := Aside0.mk (below_step HB.out hb); have hxt_ : w64.cell? (adT.add q1.toNat) = some (.slice AT sT.length cT) := (HB.out.cell (World.block_lt_of_cell? w _ HXT.out)).trans HXT.out; clear hb; have hzgt_0 : w64.cell? ⟨gt, 0, none⟩ = some (.slice (some adT) l0_0.length c0_0) := (blk_cell BKt.out 0).trans rfl; have hzgt_1 : w64.cell? ⟨gt, 1, none⟩ = some (.int .i64 a0_1) := (blk_cell BKt.out 1).trans rfl; have hzgt_2 : w64.cell? ⟨gt, 2, none⟩ = some (.slice A0_2 l0_2.length c0_2) := (blk_cell BKt.out 2).trans rfl; have hzgx_0 : w64.cell? ⟨gx, 0, none⟩ = some (.int .i64 a1_0) := (blk_cell BKx.out 0).trans rfl; have hzgx_1 : w64.cell? ⟨gx, 1, none⟩ = some (.int .i64 a1_1) := (blk_cell BKx.out 1).trans rfl; have hzgx_2 : w64.cell? ⟨gx, 2, none⟩ = some (.int .i64 a1_2) := (blk_cell BKx.out 2).trans rfl))
        clear hwt_ d1_ d2_ d3_ p1_ q1_
        (try clear hxt_)
        (try clear hzgt_0)
        (try clear hzgt_1)
        (try clear hzgt_2)
        (try clear hzgx_0)
        (try clear hzgx_1)
        (try clear hzgx_2)
        clear BKt
        obtain ⟨gY_, eg_, gb_, gl_⟩ := HT.out.form Yci_
        have GEY := Aside0.mk gb_
        clear gb_ gl_
        subst eg_
        obtain ⟨AsF, csF, hv_, hc_, hC_, hf_⟩ := Go.Proofs.YtnggfglmjdiaaaaOwn.TT.elem HT.out (i := q1) Pq1.out.1 Yci_
        have e_ : (Y.getD (q1).toNat []) = sF := HSsF.out.symm
        rw [e_] at hv_ hc_ hC_
        clear e_
        have HVsF := Aside0.mk hv_
        have HCsF := Aside0.mk hc_
        have HRsF := Aside0.mk hC_
        have HFsF := Aside0.mk hf_
        clear hv_ hc_ hC_ hf_
        have NXY_gx := Aside0.mk (Go.Proofs.YtnggfglmjdiaaaaOwn.TT.ne HT.out BKx.out (by decide))
        have NXY_gr := Aside0.mk (Go.Proofs.YtnggfglmjdiaaaaOwn.TT.ne HT.out BKr.out (by decide))
        have NXY_gn := Aside0.mk (Go.Proofs.YtnggfglmjdiaaaaOwn.TT.ne HT.out BKn.out (by decide))
        have NXY_go := Aside0.mk (Go.Proofs.YtnggfglmjdiaaaaOwn.TT.ne HT.out BKo.out (by decide))
        have p_q1 : 0 ≤ q1 := Pq1.out.1
        have q_q1 : q1 < (nY : Int) := Pq1.out.2
        replace p_q1 := eq_true p_q1
        replace q_q1 := eq_true q_q1
        obtain ⟨i0_, hi0_, _, hsz0_, _⟩ := info_parts info3
        have hcut_ := cut_to (P := Try.prog) 73 3 .i64 Try.underlying73 hi0_ AsF sF.length csF q2 HQ0.out HQ1.out HCsF.out
        replace HT := Aside0.mk (HT.out.drew)
        replace BKx := Aside0.mk (blk_drew BKx.out)
        replace BKr := Aside0.mk (blk_drew BKr.out)
        replace BKn := Aside0.mk (blk_drew BKn.out)
        replace BKo := Aside0.mk (blk_drew BKo.out)
        replace HB := Aside0.mk (below_drew1 HB.out)
        replace HVsF := Aside0.mk ((show (w64.drew).cell? ⟨gY_, (q1).toNat, none⟩ = some (.slice AsF sF.length csF) from HVsF.out))
        replace HFsF := Aside0.mk ((show (w64.drew).frozen? ⟨gY_, (q1).toNat, none⟩ = false from HFsF.out))
        refine start_ (n := 14) (S := fun w' => w'.cell? ⟨gY_, (q1).toNat, none⟩ = some (.slice AsF sF.length csF) ∧ w'.cell? ⟨go, 0, none⟩ = some (.slice (some ⟨gY_, 0, none⟩) nY cY)) (ds := [13]) #[false, false, false, false, false, false, false, false, false, false, false, false, false, false] Yba_ rfl rfl ⟨HVsF.out, (blk_cell BKo.out 0).trans rfl⟩ (fun hHeld => ?_)
        generalize w64.drew = w65 at HT BKx BKr BKn BKo HB HVsF HFsF hHeld ⊢
        refine pure_ (i := 0) (N := some 88) #[true, false, false, false, false, false, false, false, false, false, false, false, false, false] rfl rfl Yba_ (fun _ _ _ h => h) (Or.inl ⟨by rfl, Yj_⟩) Ya_ ?_
        refine pure_ (i := 1) (N := some 89) #[true, true, false, false, false, false, false, false, false, false, false, false, false, false] rfl rfl Yba_ (fun _ _ _ h => h) (Or.inl ⟨by rfl, Yj_⟩) Ya_ ?_
        refine pure_ (i := 3) (N := some 91) #[true, true, false, true, false, false, false, false, false, false, false, false, false, false] rfl rfl Yba_ (fun _ _ _ h => h) (Or.inl ⟨by rfl, Yj_⟩) Ya_ ?_
        refine pure_ (i := 4) (N := some 92) #[true, true, false, true, true, false, false, false, false, false, false, false, false, false] rfl rfl Yba_ (fun _ _ _ h => h) (Or.inl ⟨by rfl, Yj_⟩) Ya_ ?_
        refine pure_ (i := 5) (N := some 93) #[true, true, false, true, true, true, false, false, false, false, false, false, false, false] rfl rfl Yba_ (fun _ _ _ h => h) (Or.inl ⟨by rfl, Yj_⟩) Ya_ ?_
        refine pure_ (i := 7) (N := some 95) #[true, true, false, true, true, true, false, true, false, false, false, false, false, false] rfl rfl Yba_ (fun _ _ _ h => h) (Or.inl ⟨by rfl, Yj_⟩) Ya_ ?_
        refine pure_ (i := 10) (N := some 98) #[true, true, false, true, true, true, false, true, false, false, true, false, false, false] rfl rfl Yba_ (fun _ _ _ h => h) (Or.inl ⟨by rfl, Yj_⟩) Ya_ ?_
        refine take_ (i := 2) (N := some 90) #[true, true, true, true, true, true, false, true, false, false, true, false, false, false] rfl rfl Yba_ (fun _ _ _ h => h) (Or.inl ⟨by rfl, Ycb_⟩) hHeld Ya_ ?_
        refine take_ (i := 6) (N := some 94) #[true, true, true, true, true, true, true, true, false, false, true, false, false, false] rfl rfl Yba_ (fun _ _ _ h => h) (Or.inl ⟨by rfl, Ycb_⟩) hHeld Ya_ ?_
        refine pure_ (i := 8) (N := some 96) #[true, true, true, true, true, true, true, true, true, false, true, false, false, false] rfl rfl Yba_ (fun _ _ _ h => h) (Or.inl ⟨by rfl, Yj_⟩) Ya_ ?_
        refine take_ (i := 9) (N := some 97) #[true, true, true, true, true, true, true, true, true, true, true, false, false, false] rfl rfl Yba_ (fun _ _ _ h => h) (Or.inl ⟨by rfl, Ycb_⟩) hHeld Ya_ ?_
        refine pure_ (i := 11) (N := some 99) #[true, true, true, true, true, true, true, true, true, true, true, true, false, false] rfl rfl Yba_ (fun _ _ _ h => h) (Or.inl ⟨by rfl, Yj_⟩) Ya_ ?_
        refine pure_ (i := 12) (N := some 100) #[true, true, true, true, true, true, true, true, true, true, true, true, true, false] rfl rfl Yba_ (fun _ _ _ h => h) (Or.inl ⟨by rfl, Yj_⟩) Ya_ ?_
        refine last_ (i := 13) (N := none) #[true, true, true, true, true, true, true, true, true, true, true, true, true, true] rfl rfl Yba_ (by decide) (fun K hK => ?_)
        have hv_ := HVsF.out
        have hf_ := HFsF.out
        refine Go.Proofs.YtnggfglmjdiaaaaOwn.Fh (w1 := (w65.setCell ⟨gY_, (q1).toNat, none⟩ (.slice AsF (q2).toNat csF))) (by rfl) rfl ?_ ?_
        ·first | (go_simp; done) | (go_simp; rfl)
        intro w66 hw
        clear hv_ hf_
        have hO_ : Go.Proofs.YtnggfglmjdiaaaaOwn.Only w65 w66 gY_ := Yca_
        have ht_ := (Go.Proofs.YtnggfglmjdiaaaaOwn.TT.cut HT.out Pq1.out.1 Yci_ HVsF.out Yeh_).1
        rw [← hw] at ht_
        clear HT
        have HT := Aside0.mk ht_
        clear ht_ hw
        replace BKx := Aside0.mk ((hO_.others _ NXY_gx.out).trans BKx.out)
        replace BKr := Aside0.mk ((hO_.others _ NXY_gr.out).trans BKr.out)
        replace BKn := Aside0.mk ((hO_.others _ NXY_gn.out).trans BKn.out)
        replace BKo := Aside0.mk ((hO_.others _ NXY_go.out).trans BKo.out)
        replace HB := Aside0.mk (hO_.below HB.out GEY.out)
        clear hO_
        clear NXY_gx
        clear NXY_gr
        clear NXY_gn
        clear NXY_go
        rw [show Y.set (q1).toNat ((Y.getD (q1).toNat []).take (q2).toNat) = lF from HLlF.out.symm] at HT
        refine hK.out _ _ ?_
        clear hK K
        refine done_ Yba_ ?_
        clear p_q1 q_q1 HVsF HFsF HCsF HRsF
        clear hcut_ hi0_ hsz0_ HQ0 HQ1 HMq2
        have hzgx_0 : w66.cell? ⟨gx, 0, none⟩ = some (.int .i64 a1_0) := (blk_cell BKx.out 0).trans rfl
        have hzgx_1 : w66.cell? ⟨gx, 1, none⟩ = some (.int .i64 a1_1) := (blk_cell BKx.out 1).trans rfl
        have hzgx_2 : w66.cell? ⟨gx, 2, none⟩ = some (.int .i64 a1_2) := (blk_cell BKx.out 2).trans rfl
        have hzgn_0 : w66.cell? ⟨gn, 0, none⟩ = some (.slice none 0 0) := (blk_cell BKn.out 0).trans rfl
        have hzgn_1 : w66.cell? ⟨gn, 1, none⟩ = some (.int .i64 0) := (blk_cell BKn.out 1).trans rfl
        have hzgn_2 : w66.cell? ⟨gn, 2, none⟩ = some (.slice none 0 0) := (blk_cell BKn.out 2).trans rfl
        simp only [Option.some.injEq, Prod.mk.injEq] at h
        obtain ⟨rfl, rfl, rfl, rfl⟩ := h
        have d1_ : (a1_0 == 1) = false := by simp [k1]
        have d2_ : (a1_0 == 2) = false := by simp [k2]
        have d3_ : (a1_0 == 3) = false := by simp [k3]
        have e1_ : decide (a1_0 = 1) = false := decide_eq_false k1
        have e2_ : decide (a1_0 = 2) = false := decide_eq_false k2
        have e3_ : decide (a1_0 = 3) = false := decide_eq_false k3
        clear BKx
        clear BKo
        clear HT
        go_wp2_with (first | ((with_reducible refine gate_store (t := 34) (p := 4) rfl ?_); refine Go.Proofs.YtnggfglmjdiaaaaOwn.sto3 (t := 34) (p := 4) (g := gr) (w0 := w) Yba_ rfl rfl rfl rfl (by rfl) BKr.out HB.out GEgr.out ?_; intro w67 hbx_ hB_ hO_; (try clear hzgn_0); (try clear hzgn_1); (try clear hzgn_2); (try clear hzgx_0); (try clear hzgx_1); (try clear hzgx_2); clear BKr HB hO_; have BKr := Aside0.mk hbx_; have HB := Aside0.mk hB_; clear hbx_ hB_))
        refine bodyPost_ret (Dh rfl _ _ gr 34 #[.slice none 0 0, .int .i64 0, .slice none 0 0] (0, 0) _ rfl BKr.out Try.underlying34 rfl Yba_) rfl ?_
        exact ⟨_, _, rfl, Go.Proofs.YtnggfglmjdiaaaaOwn.TT.nil _ _ _, HB.out⟩
       ·rw [if_neg c5] at h
        cases h
      ·rw [if_neg c3] at h
       simp only [Option.some.injEq, Prod.mk.injEq] at h
       obtain ⟨rfl, rfl, rfl, rfl⟩ := h
       have d1_ : (q2 == (sT.length : Int) - 1) = false := by simp [c3]
       have d2_ : decide (q2 = (sT.length : Int) - 1) = false := decide_eq_false c3
       have d3_ : (q2 != (sT.length : Int) - 1) = true := by simp [c3]
       clear c3
       clear BKx
       clear BKo
       clear HT
       go_wp2_with (first | (go_at_call 47; (with_reducible refine (Ae.calls k _ _ l0_0 a1_1 q1 q2 _ (Kd.C_below HR0_0.out HB.out) HC0_0.out A2.out).mono ?_); rintro e w68 ⟨rfl, hb⟩; (try clear hzgn_0); (try clear hzgn_1); (try clear hzgn_2); (try clear hzgt_0); (try clear hzgt_1); (try clear hzgt_2); (try clear hzgx_0); (try clear hzgx_1); (try clear hzgx_2); replace BKt := Aside0.mk (blk_below BKt.out hb); replace BKr := Aside0.mk (blk_below BKr.out hb); replace BKn := Aside0.mk (blk_below BKn.out hb); replace HB := Aside0.mk (below_step HB.out hb); have hxt_ : w68.cell? (adT.add q1.toNat) = some (.slice AT sT.length cT) := (HB.out.cell (World.block_lt_of_cell? w _ HXT.out)).trans HXT.out; clear hb; have hzgt_0 : w68.cell? ⟨gt, 0, none⟩ = some (.slice (some adT) l0_0.length c0_0) := (blk_cell BKt.out 0).trans rfl; have hzgt_1 : w68.cell? ⟨gt, 1, none⟩ = some (.int .i64 a0_1) := (blk_cell BKt.out 1).trans rfl; have hzgt_2 : w68.cell? ⟨gt, 2, none⟩ = some (.slice A0_2 l0_2.length c0_2) := (blk_cell BKt.out 2).trans rfl; have hzgn_0 : w68.cell? ⟨gn, 0, none⟩ = some (.slice none 0 0) := (blk_cell BKn.out 0).trans rfl; have hzgn_1 : w68.cell? ⟨gn, 1, none⟩ = some (.int .i64 0) := (blk_cell BKn.out 1).trans rfl; have hzgn_2 : w68.cell? ⟨gn, 2, none⟩ = some (.slice none 0 0) := (blk_cell BKn.out 2).trans rfl) | ((with_reducible refine gate_store (t := 34) (p := 4) rfl ?_); refine Go.Proofs.YtnggfglmjdiaaaaOwn.sto3 (t := 34) (p := 4) (g := gr) (w0 := w) Yba_ rfl rfl rfl rfl (by rfl) BKr.out HB.out GEgr.out ?_; intro w69 hbx_ hB_ hO_; (try clear hzgn_0); (try clear hzgn_1); (try clear hzgn_2); (try clear hzgt_0); (try clear hzgt_1); (try clear hzgt_2); clear BKr HB hO_; have BKr := Aside0.mk hbx_; have HB := Aside0.mk hB_; clear hbx_ hB_))
       refine bodyPost_ret (Dh rfl _ _ gr 34 #[.slice none 0 0, .int .i64 0, .slice none 0 0] (0, 0) _ rfl BKr.out Try.underlying34 rfl Yba_) rfl ?_
       exact ⟨_, _, rfl, Go.Proofs.YtnggfglmjdiaaaaOwn.TT.nil _ _ _, HB.out⟩
     ·rw [if_neg c2] at h
      cases h
theorem spec_l24Make.calls2 (k : Nat) (A0_0 : Option Addr) (c0_0 : Nat) (l0_0 : List (List Int)) (a0_1 : Int) (A0_2 : Option Addr) (c0_2 : Nat) (l0_2 : List (List Int)) (a1_0 a1_1 a1_2 : Int) (r1 : List (List Int)) (r2 : Int) (r3 : List (List Int)) (r4 : Bool) (w : World) (hr0_0 : Kd.C (Kd.slice 3 (Kd.int .i64)) w A0_0 l0_0.length l0_0) (hc0_0 : l0_0.length ≤ c0_0) (hr0_2 : Kd.C (Kd.slice 3 (Kd.int .i64)) w A0_2 l0_2.length l0_2) (hc0_2 : l0_2.length ≤ c0_2) (h : spec_l24Make.f k l0_0 a0_1 l0_2 a1_0 a1_1 a1_2 = some (r1, r2, r3, r4)) :
  Calls Try.prog 51 #[.agg #[.slice A0_0 l0_0.length c0_0, .int .i64 a0_1, .slice A0_2 l0_2.length c0_2], .agg #[.int .i64 a1_0, .int .i64 a1_1, .int .i64 a1_2]] w fun e w' => ∃ (P_ : Nat → Prop) (v0_ v2_ : Value), e = .returned (.tuple #[.agg #[v0_, .int .i64 r2, v2_], .bool r4]) ∧ Kd.S (Kd.slice 3 (Kd.int .i64)) 73 w' w.heap.size (fun k_ => P_ k_) v0_ r1 ∧ Kd.S (Kd.slice 3 (Kd.int .i64)) 73 w' w.heap.size (fun k_ => ¬ P_ k_) v2_ r3 ∧ Below w.heap.size w w' := by
 refine (spec_l24Make.callsT k A0_0 c0_0 l0_0 a0_1 A0_2 c0_2 l0_2 a1_0 a1_1 a1_2 r1 r2 r3 r4 w hr0_0 hc0_0 hr0_2 hc0_2 h).mono ?_
 rintro e w' ⟨v0_, v2_, he, ht, hb⟩
 obtain ⟨P_, h1, h2⟩ := ht.to2
 exact ⟨P_, v0_, v2_, he, h1, h2, hb⟩
theorem spec_l24Make.calls (k : Nat) (A0_0 : Option Addr) (c0_0 : Nat) (l0_0 : List (List Int)) (a0_1 : Int) (A0_2 : Option Addr) (c0_2 : Nat) (l0_2 : List (List Int)) (a1_0 a1_1 a1_2 : Int) (r1 : List (List Int)) (r2 : Int) (r3 : List (List Int)) (r4 : Bool) (w : World) (hr0_0 : Kd.C (Kd.slice 3 (Kd.int .i64)) w A0_0 l0_0.length l0_0) (hc0_0 : l0_0.length ≤ c0_0) (hr0_2 : Kd.C (Kd.slice 3 (Kd.int .i64)) w A0_2 l0_2.length l0_2) (hc0_2 : l0_2.length ≤ c0_2) (h : spec_l24Make.f k l0_0 a0_1 l0_2 a1_0 a1_1 a1_2 = some (r1, r2, r3, r4)) :
  Calls Try.prog 51 #[.agg #[.slice A0_0 l0_0.length c0_0, .int .i64 a0_1, .slice A0_2 l0_2.length c0_2], .agg #[.int .i64 a1_0, .int .i64 a1_1, .int .i64 a1_2]] w fun e w' => ∃ v0_ v2_ : Value, e = .returned (.tuple #[.agg #[v0_, .int .i64 r2, v2_], .bool r4]) ∧ Kd.S (Kd.slice 3 (Kd.int .i64)) 73 w' w.heap.size (fun k_ => some k_ ≠ (v2_ : Value).ownBlock) v0_ r1 ∧ Kd.S (Kd.slice 3 (Kd.int .i64)) 73 w' w.heap.size (fun k_ => some k_ ≠ (v0_ : Value).ownBlock) v2_ r3 ∧ Below w.heap.size w w' := by
 refine (spec_l24Make.calls2 k A0_0 c0_0 l0_0 a0_1 A0_2 c0_2 l0_2 a1_0 a1_1 a1_2 r1 r2 r3 r4 w hr0_0 hc0_0 hr0_2 hc0_2 h).mono ?_
 rintro e w' ⟨P_, v0_, v2_, he, h1, h2, hb⟩
 exact ⟨v0_, v2_, he, Kd.S_mono h1 (fun k_ hk e_ => ((Kd.S_R h2).1 k_ e_.symm) hk), Kd.S_mono h2 (fun k_ hk e_ => hk ((Kd.S_R h1).1 k_ e_.symm)), hb⟩
mutual
def Aa.l0 : Nat → List (S43) → Int → List (List Int) → Int → List (List Int) → Option ((List (S43)) × Bool)
 | 0, _, _, _, _, _ => none
 | k + 1, x4, x5, x443000, x443001, x443002 => if x5 ≤ 3 then (Aa.l1 k x4 x5 1 x443000 x443001 x443002) else (some (x4, true))
def Aa.l1 : Nat → List (S43) → Int → Int → List (List Int) → Int → List (List Int) → Option ((List (S43)) × Bool)
 | 0, _, _, _, _, _, _ => none
 | k + 1, x4, x5, x6, x443000, x443001, x443002 => if x6 ≤ 99 then ((Ae.f k x443000 x6).bind fun bt447 => ((Ah.f k x443001 x443002 x6).bind fun bt449 => (if bt447.1 < 0 then (Aa.j2 k x4 x5 x6 (decide (bt449.1 < 0)) x443000 x443001 x443002) else (Aa.j2 k x4 x5 x6 false x443000 x443001 x443002)))) else (Aa.l0 k x4 (wrap64 (x5 + 1)) x443000 x443001 x443002)
def Aa.j2 : Nat → List (S43) → Int → Int → Bool → List (List Int) → Int → List (List Int) → Option ((List (S43)) × Bool)
 | 0, _, _, _, _, _, _, _ => none
 | k + 1, x4, x5, x6, x47, x443000, x443001, x443002 => if x47 = true then (Aa.l1 k x4 x5 (wrap64 (x6 + 1)) x443000 x443001 x443002) else (Aa.l2 k x4 x5 x6 0 x443000 x443001 x443002)
def Aa.l2 : Nat → List (S43) → Int → Int → Int → List (List Int) → Int → List (List Int) → Option ((List (S43)) × Bool)
 | 0, _, _, _, _, _, _, _ => none
 | k + 1, x4, x5, x6, x11, x443000, x443001, x443002 => if x11 < 6 then ((spec_l24Make.f k x443000 x443001 x443002 x5 x6 x11).bind fun bt452 => (if bt452.2.2.2 = true then (if x4.length < 5864062014805 then (Aa.l2 k (x4 ++ [(⟨x5, x6, x11⟩ : S43)]) x5 x6 (wrap64 (x11 + 1)) x443000 x443001 x443002) else (none)) else (Aa.l2 k x4 x5 x6 (wrap64 (x11 + 1)) x443000 x443001 x443002))) else (Aa.l1 k x4 x5 (wrap64 (x6 + 1)) x443000 x443001 x443002)
end
def Aa.f (k : Nat) (l0_0 : List (List Int)) (a0_1 : Int) (l0_2 : List (List Int)) : Option ((List (S43)) × Bool) := (some (([] : List (S43)) : List (S43))).bind fun y443 => ((Ac.f k l0_0 a0_1 l0_2).bind fun t446 => (if t446 = true then (Aa.l0 k y443 1 l0_0 a0_1 l0_2) else (some (y443, false))))
theorem Aa.mono_l : ∀ k, (∀ y0 y1 y2 y3 y4, LeO (Aa.l0 k y0 y1 y2 y3 y4) (Aa.l0 (k + 1) y0 y1 y2 y3 y4)) ∧ (∀ y0 y1 y2 y3 y4 y5, LeO (Aa.l1 k y0 y1 y2 y3 y4 y5) (Aa.l1 (k + 1) y0 y1 y2 y3 y4 y5)) ∧ (∀ y0 y1 y2 y3 y4 y5 y6, LeO (Aa.j2 k y0 y1 y2 y3 y4 y5 y6) (Aa.j2 (k + 1) y0 y1 y2 y3 y4 y5 y6)) ∧ (∀ y0 y1 y2 y3 y4 y5 y6, LeO (Aa.l2 k y0 y1 y2 y3 y4 y5 y6) (Aa.l2 (k + 1) y0 y1 y2 y3 y4 y5 y6))
 | 0 => ⟨fun _ _ _ _ _ r h => by simp [Aa.l0] at h, fun _ _ _ _ _ _ r h => by simp [Aa.l1] at h, fun _ _ _ _ _ _ _ r h => by simp [Aa.j2] at h, fun _ _ _ _ _ _ _ r h => by simp [Aa.l2] at h⟩
 | k + 1 => by
  obtain ⟨ih0, ih1, ih2, ih3⟩ := Aa.mono_l k
  refine ⟨?_, ?_, ?_, ?_⟩
  ·intro y0 y1 y2 y3 y4
   unfold Aa.l0
   repeat' first
   | (with_reducible exact ih0 _ _ _ _ _)
   | (with_reducible exact ih1 _ _ _ _ _ _)
   | (with_reducible exact ih2 _ _ _ _ _ _ _)
   | (with_reducible exact ih3 _ _ _ _ _ _ _)
   | (with_reducible exact Ac.mono _ _ _ _)
   | (with_reducible exact spec_l24Make.mono _ _ _ _ _ _ _)
   | (with_reducible exact Ae.mono _ _ _)
   | (with_reducible exact Ah.mono _ _ _ _)
   | (with_reducible exact LeO.refl _)
   | (with_reducible exact LeO.none _)
   | (with_reducible refine LeO.ite ?_ ?_)
   | (with_reducible refine LeO.bind ?_ (fun _ => ?_))
   | exact ih0 _ _ _ _ _
   | exact ih1 _ _ _ _ _ _
   | exact ih2 _ _ _ _ _ _ _
   | exact ih3 _ _ _ _ _ _ _
   | exact Ac.mono _ _ _ _
   | exact spec_l24Make.mono _ _ _ _ _ _ _
   | exact Ae.mono _ _ _
   | exact Ah.mono _ _ _ _
   | exact LeO.none _
   | refine LeO.ite ?_ ?_
   | refine LeO.bind ?_ (fun _ => ?_)
  ·intro y0 y1 y2 y3 y4 y5
   unfold Aa.l1
   repeat' first
   | (with_reducible exact ih0 _ _ _ _ _)
   | (with_reducible exact ih1 _ _ _ _ _ _)
   | (with_reducible exact ih2 _ _ _ _ _ _ _)
   | (with_reducible exact ih3 _ _ _ _ _ _ _)
   | (with_reducible exact Ac.mono _ _ _ _)
   | (with_reducible exact spec_l24Make.mono _ _ _ _ _ _ _)
   | (with_reducible exact Ae.mono _ _ _)
   | (with_reducible exact Ah.mono _ _ _ _)
   | (with_reducible exact LeO.refl _)
   | (with_reducible exact LeO.none _)
   | (with_reducible refine LeO.ite ?_ ?_)
   | (with_reducible refine LeO.bind ?_ (fun _ => ?_))
   | exact ih0 _ _ _ _ _
   | exact ih1 _ _ _ _ _ _
   | exact ih2 _ _ _ _ _ _ _
   | exact ih3 _ _ _ _ _ _ _
   | exact Ac.mono _ _ _ _
   | exact spec_l24Make.mono _ _ _ _ _ _ _
   | exact Ae.mono _ _ _
   | exact Ah.mono _ _ _ _
   | exact LeO.none _
   | refine LeO.ite ?_ ?_
   | refine LeO.bind ?_ (fun _ => ?_)
  ·intro y0 y1 y2 y3 y4 y5 y6
   unfold Aa.j2
   repeat' first
   | (with_reducible exact ih0 _ _ _ _ _)
   | (with_reducible exact ih1 _ _ _ _ _ _)
   | (with_reducible exact ih2 _ _ _ _ _ _ _)
   | (with_reducible exact ih3 _ _ _ _ _ _ _)
   | (with_reducible exact Ac.mono _ _ _ _)
   | (with_reducible exact spec_l24Make.mono _ _ _ _ _ _ _)
   | (with_reducible exact Ae.mono _ _ _)
   | (with_reducible exact Ah.mono _ _ _ _)
   | (with_reducible exact LeO.refl _)
   | (with_reducible exact LeO.none _)
   | (with_reducible refine LeO.ite ?_ ?_)
   | (with_reducible refine LeO.bind ?_ (fun _ => ?_))
   | exact ih0 _ _ _ _ _
   | exact ih1 _ _ _ _ _ _
   | exact ih2 _ _ _ _ _ _ _
   | exact ih3 _ _ _ _ _ _ _
   | exact Ac.mono _ _ _ _
   | exact spec_l24Make.mono _ _ _ _ _ _ _
   | exact Ae.mono _ _ _
   | exact Ah.mono _ _ _ _
   | exact LeO.none _
   | refine LeO.ite ?_ ?_
   | refine LeO.bind ?_ (fun _ => ?_)
  ·intro y0 y1 y2 y3 y4 y5 y6
   unfold Aa.l2
   repeat' first
   | (with_reducible exact ih0 _ _ _ _ _)
   | (with_reducible exact ih1 _ _ _ _ _ _)
   | (with_reducible exact ih2 _ _ _ _ _ _ _)
   | (with_reducible exact ih3 _ _ _ _ _ _ _)
   | (with_reducible exact Ac.mono _ _ _ _)
   | (with_reducible exact spec_l24Make.mono _ _ _ _ _ _ _)
   | (with_reducible exact Ae.mono _ _ _)
   | (with_reducible exact Ah.mono _ _ _ _)
   | (with_reducible exact LeO.refl _)
   | (with_reducible exact LeO.none _)
   | (with_reducible refine LeO.ite ?_ ?_)
   | (with_reducible refine LeO.bind ?_ (fun _ => ?_))
   | exact ih0 _ _ _ _ _
   | exact ih1 _ _ _ _ _ _
   | exact ih2 _ _ _ _ _ _ _
   | exact ih3 _ _ _ _ _ _ _
   | exact Ac.mono _ _ _ _
   | exact spec_l24Make.mono _ _ _ _ _ _ _
   | exact Ae.mono _ _ _
   | exact Ah.mono _ _ _ _
   | exact LeO.none _
   | refine LeO.ite ?_ ?_
   | refine LeO.bind ?_ (fun _ => ?_)
theorem Aa.mono : ∀ a0 a1 a2 k, LeO (Aa.f k a0 a1 a2) (Aa.f (k + 1) a0 a1 a2) := by
 intro a0 a1 a2 k
 obtain ⟨ih0, ih1, ih2, ih3⟩ := Aa.mono_l k
 unfold Aa.f
 repeat' first
   | (with_reducible exact ih0 _ _ _ _ _)
   | (with_reducible exact ih1 _ _ _ _ _ _)
   | (with_reducible exact ih2 _ _ _ _ _ _ _)
   | (with_reducible exact ih3 _ _ _ _ _ _ _)
   | (with_reducible exact Ac.mono _ _ _ _)
   | (with_reducible exact spec_l24Make.mono _ _ _ _ _ _ _)
   | (with_reducible exact Ae.mono _ _ _)
   | (with_reducible exact Ah.mono _ _ _ _)
   | (with_reducible exact LeO.refl _)
   | (with_reducible exact LeO.none _)
   | (with_reducible refine LeO.ite ?_ ?_)
   | (with_reducible refine LeO.bind ?_ (fun _ => ?_))
   | exact ih0 _ _ _ _ _
   | exact ih1 _ _ _ _ _ _
   | exact ih2 _ _ _ _ _ _ _
   | exact ih3 _ _ _ _ _ _ _
   | exact Ac.mono _ _ _ _
   | exact spec_l24Make.mono _ _ _ _ _ _ _
   | exact Ae.mono _ _ _
   | exact Ah.mono _ _ _ _
   | exact LeO.none _
   | refine LeO.ite ?_ ?_
   | refine LeO.bind ?_ (fun _ => ?_)
set_option maxHeartbeats 8000000 in
set_option maxRecDepth 100000 in
theorem Aa.calls (k : Nat) (A0_0 : Option Addr) (c0_0 : Nat) (l0_0 : List (List Int)) (a0_1 : Int) (A0_2 : Option Addr) (c0_2 : Nat) (l0_2 : List (List Int)) (r1 : List (S43)) (r2 : Bool) (w : World) (hr0_0 : Kd.C (Kd.slice 3 (Kd.int .i64)) w A0_0 l0_0.length l0_0) (hc0_0 : l0_0.length ≤ c0_0) (hr0_2 : Kd.C (Kd.slice 3 (Kd.int .i64)) w A0_2 l0_2.length l0_2) (hc0_2 : l0_2.length ≤ c0_2) (h : Aa.f k l0_0 a0_1 l0_2 = some (r1, r2)) :
  Calls Try.prog 25 #[.agg #[.slice A0_0 l0_0.length c0_0, .int .i64 a0_1, .slice A0_2 l0_2.length c0_2]] w fun e w' => ∃ v0_ : Value, e = .returned (.tuple #[v0_, .bool r2]) ∧ Kd.R k43 43 w' w.heap.size (fun _ => True) v0_ r1 ∧ Below w.heap.size w w' := by
 have hu34 := Try.underlying34
 have hu31 := Try.underlying31
 have hu32 := Try.underlying32
 have hu43 := Try.underlying43
 have HR0_0 := Aside0.mk hr0_0
 have HC0_0 := Aside0.mk hc0_0
 clear hr0_0 hc0_0
 have HR0_2 := Aside0.mk hr0_2
 have HC0_2 := Aside0.mk hc0_2
 clear hr0_2 hc0_2
 have HB := Aside0.mk (Below.refl w.heap.size w)
 have H : ((some (([] : List (S43)) : List (S43))).bind fun y443 => ((Ac.f k l0_0 a0_1 l0_2).bind fun t446 => (if t446 = true then (Aa.l0 k y443 1 l0_0 a0_1 l0_2) else (some (y443, false))))) = some (r1, r2) := h
 clear h
 obtain ⟨y443, hy443⟩ : ∃ y_ : List (S43), y_ = (([] : List (S43))) := ⟨_, rfl⟩
 replace H : ((Ac.f k l0_0 a0_1 l0_2).bind fun t446 => (if t446 = true then (Aa.l0 k y443 1 l0_0 a0_1 l0_2) else (some (y443, false)))) = some (r1, r2) := by first | (rw [hy443]; with_reducible exact H) | (have H2_ := (Option.bind_some _ _).symm.trans H; rw [hy443]; with_reducible exact H2_) | (have H2_ := (Option.bind_some _ _).symm.trans H; with_reducible exact H2_) | with_reducible exact H | (rw [hy443]; exact H) | exact H
 have Ny443 := Aside0.mk hy443
 clear hy443
 replace H := Option.bind_eq_some_iff.mp H
 obtain ⟨t446, A20, H⟩ := H
 try dsimp only at H
 have A2 := Aside0.mk A20
 clear A20
 by_cases c3 : t446 = true
 ·subst c3
  have H1 : (Aa.l0 k y443 1 l0_0 a0_1 l0_2) = some (r1, r2) := by rw [if_pos rfl] at H; exact H
  clear H
  have H := H1
  clear H1
  have H' := Aside0.mk H
  clear H
  go_enter Try.func25, Try.ntmps25
  go_wp2_with (first | ((with_reducible refine gate_dst (N := 1) rfl ?_); refine box_event ?hg (N := 1) ?hd (cs := #[.slice A0_0 l0_0.length c0_0, .int .i64 a0_1, .slice A0_2 l0_2.length c0_2]) (t := 34) ?hr ?_; (case hd => rfl); (case hg => rfl); (case hr => first | (go_simp; done) | (go_simp; rfl)); intro gb0 hg w4 hbox hb; have n0_ := Aside0.mk (below_step Yb_ hb); have n1_ := Aside0.mk (hbox); have n2_ := Aside0.mk ((by rw [hg]; exact (below_size Yb_) : w.heap.size ≤ gb0)); have n3_ := Aside0.mk ((by rw [hg]; exact (below_size Yb_) : w.heap.size ≤ gb0)); clear HB; have HB := n0_; have BK0 := n1_; have GW0 := n2_; have GE0 := n3_; clear n0_ n1_ n2_ n3_; clear hb hbox hg) | ((with_reducible refine gate_dst (N := 15) rfl ?_); refine Kd.R_lit k43 _ 43 ?hg (N := 15) ?hd (xs := ([] : List (S43))) (inner := []) (ok := fun _ => True) (okp := fun _ => True) ?hr ?hp (fun _ hk => hk) trivial (Below.refl _ _) (Nat.le_refl _) (by simp) ?_; (case hd => rfl); (case hg => rfl); (case hr => first | (go_simp; done) | (go_simp; rfl)); (case hp => exact (Reps.none _ _)); intro v444 w5 ho6 hb hg_ hnew_; clear hg_ hnew_; (first | rw [← Ny443.out] at ho6 | (simp only [Int.reduceToNat] at ho6; rw [← Ny443.out] at ho6)); have n0_ := Aside0.mk (Kd.R_lower ho6 (below_size Yd_)); have n1_ := Aside0.mk (blk_below (g := gb0) (o := .cells #[.slice A0_0 l0_0.length c0_0, .int .i64 a0_1, .slice A0_2 l0_2.length c0_2] 34 (0, 0)) Yc_ hb); have n2_ := Aside0.mk (below_step Yd_ hb); clear BK0; clear HB; have HO445 := n0_; have BK0 := n1_; have HB := n2_; clear n0_ n1_ n2_; clear hb ho6; have hcz7_0 : w5.cell? ⟨gb0, 0, none⟩ = some (.slice A0_0 l0_0.length c0_0) := (blk_cell BK0.out 0).trans rfl; have hcz7_1 : w5.cell? ⟨gb0, 1, none⟩ = some (.int .i64 a0_1) := (blk_cell BK0.out 1).trans rfl; have hcz7_2 : w5.cell? ⟨gb0, 2, none⟩ = some (.slice A0_2 l0_2.length c0_2) := (blk_cell BK0.out 2).trans rfl; have hfz7_0 := blk_frozen BK0.out 0; have hfz7_1 := blk_frozen BK0.out 1; have hfz7_2 := blk_frozen BK0.out 2) | ((with_reducible refine gate_callee (f := 39) rfl ?_); refine goesL_ (some 17) rfl rfl Try.func39 Yba_ rfl #[.agg #[.slice A0_0 l0_0.length c0_0, .int .i64 a0_1, .slice A0_2 l0_2.length c0_2]] rfl Ye_ ?_; (with_reducible refine (Ac.calls k _ _ l0_0 a0_1 _ _ l0_2 true _ ?side1 ?side2 ?side3 ?side4 A2.out).mono ?_); (case side1 => repeat (first | exact (Kd.C_below HR0_0.out HB.out) | (with_reducible refine Kd.C_alloc ?_ _) | (with_reducible refine Kd.C_drewN ?_ _) | (with_reducible refine Kd.C_drew ?_))); (case side2 => exact HC0_0.out); (case side3 => repeat (first | exact (Kd.C_below HR0_2.out HB.out) | (with_reducible refine Kd.C_alloc ?_ _) | (with_reducible refine Kd.C_drewN ?_ _) | (with_reducible refine Kd.C_drew ?_))); (case side4 => exact HC0_2.out); rintro e w8 ⟨rfl, hb⟩; refine ⟨_, rfl, ?_⟩; have n0_ := Aside0.mk (Kd.Cf Yfc_ hb); have n1_ := Aside0.mk (blk_below (g := gb0) (o := .cells #[.slice A0_0 l0_0.length c0_0, .int .i64 a0_1, .slice A0_2 l0_2.length c0_2] 34 (0, 0)) Yc_ hb); have n2_ := Aside0.mk (below_step Yd_ hb); clear HO445; clear BK0; clear HB; have HO445 := n0_; have BK0 := n1_; have HB := n2_; clear n0_ n1_ n2_; (try clear hb); (try clear hb2); (try clear hk); (try clear hi)))
  go_loopg [4, 5] k (fun kq v4 v5 w' => ∃ (x4_1 : List (S43)) (x5_1 : Int), v5 = .int .i64 x5_1 ∧ Aside0 (Aa.l0 kq x4_1 x5_1 l0_0 a0_1 l0_2 = some (r1, r2)) ∧ Aside0 (kq ≤ k) ∧ Aside0 (Kd.R k43 43 w' w.heap.size (fun _ => True) v4 x4_1) ∧ Aside0 (w'.heap[gb0]? = some (.cells #[(.slice A0_0 l0_0.length c0_0), .int .i64 a0_1, (.slice A0_2 l0_2.length c0_2)] 34 (0, 0))) ∧ Aside0 (Below w.heap.size w w'))
  case atStart => exact ⟨(y443), (1), Ybb_, H', ⟨Nat.le_refl _⟩, ⟨by (with_reducible repeat (first | apply Kd.R_alloc | apply Kd.R_drewN | apply Kd.R_drew)); exact HO445.out⟩, ⟨by (with_reducible repeat (first | apply blk_drewN | apply blk_drew | apply blk_alloc)); exact BK0.out⟩, ⟨by repeat (first | (with_reducible first | exact HB.out | apply below_alloc | apply pw_below_drewN | apply below_drew1 | refine below_set ?_ GE0.out) | exact HB.out)⟩⟩
  case round =>
   clear H'
   try clear c2; try clear p2; try clear c3; try clear hcz7_0; try clear hcz7_1; try clear hcz7_2; try clear hfz7_0; try clear hfz7_1; try clear hfz7_2
   obtain ⟨x4_1, x5_1, rfl, HA, HK1, HO_4, BK0, HB⟩ := hrel
   cases gk with
   | zero => exact absurd HA.out (by simp [Aa.l0])
   | succ k1 =>
    have H := HA.out
    clear HA
    simp only [Aa.l0] at H
    by_cases c9 : x5_1 ≤ 3
    ·rw [if_pos c9] at H
     have c9b0 : decide (x5_1 ≤ 3) = true := decide_eq_true c9
     clear c9
     have H' := Aside0.mk H
     clear H
     go_wp2
     go_loopg [4, 6] k1 (fun kq v4 v6 w' => ∃ (x4_2 : List (S43)) (x6_2 : Int), v6 = .int .i64 x6_2 ∧ Aside0 (Aa.l1 kq x4_2 x5_1 x6_2 l0_0 a0_1 l0_2 = some (r1, r2)) ∧ Aside0 (kq ≤ k1) ∧ Aside0 (Kd.R k43 43 w' w.heap.size (fun _ => True) v4 x4_2) ∧ Aside0 (w'.heap[gb0]? = some (.cells #[(.slice A0_0 l0_0.length c0_0), .int .i64 a0_1, (.slice A0_2 l0_2.length c0_2)] 34 (0, 0))) ∧ Aside0 (Below w.heap.size w w'))
     case atStart => exact ⟨(x4_1), (1), Ybb_, H', ⟨Nat.le_refl _⟩, ⟨by (with_reducible repeat (first | apply Kd.R_alloc | apply Kd.R_drewN | apply Kd.R_drew)); exact HO_4.out⟩, ⟨by (with_reducible repeat (first | apply blk_drewN | apply blk_drew | apply blk_alloc)); exact BK0.out⟩, ⟨by repeat (first | (with_reducible first | exact HB.out | apply below_alloc | apply pw_below_drewN | apply below_drew1 | refine below_set ?_ GE0.out) | exact HB.out)⟩⟩
     case round =>
      clear H'
      try clear c2; try clear p2; try clear c3; try clear c9; try clear c9b0; try clear hcz7_0; try clear hcz7_1; try clear hcz7_2; try clear hfz7_0; try clear hfz7_1; try clear hfz7_2; try clear p2
      obtain ⟨x4_2, x6_2, rfl, HA, HK2, HO_4, BK0, HB⟩ := hrel
      cases gk with
      | zero => exact absurd HA.out (by simp [Aa.l1])
      | succ k2 =>
       have H := HA.out
       clear HA
       simp only [Aa.l1] at H
       by_cases c10 : x6_2 ≤ 99
       ·rw [if_pos c10] at H
        have c10b0 : decide (x6_2 ≤ 99) = true := decide_eq_true c10
        clear c10
        replace H := Option.bind_eq_some_iff.mp H
        obtain ⟨⟨t447, t448⟩, A110, H⟩ := H
        try dsimp only at H
        have A11 := Aside0.mk A110
        clear A110
        replace H := Option.bind_eq_some_iff.mp H
        obtain ⟨⟨t449, t450⟩, A120, H⟩ := H
        try dsimp only at H
        have A12 := Aside0.mk A120
        clear A120
        have HC13 := Aside0.mk H
        clear H
        have hcz14_0 : wr.cell? ⟨gb0, 0, none⟩ = some (.slice A0_0 l0_0.length c0_0) := (blk_cell BK0.out 0).trans rfl
        have hcz14_1 : wr.cell? ⟨gb0, 1, none⟩ = some (.int .i64 a0_1) := (blk_cell BK0.out 1).trans rfl
        have hcz14_2 : wr.cell? ⟨gb0, 2, none⟩ = some (.slice A0_2 l0_2.length c0_2) := (blk_cell BK0.out 2).trans rfl
        have hfz14_0 := blk_frozen BK0.out 0
        have hfz14_1 := blk_frozen BK0.out 1
        have hfz14_2 := blk_frozen BK0.out 2
        go_upto_region 12 with (first | ((with_reducible refine gate_callee (f := 47) rfl ?_); refine goesL_ (some 32) rfl rfl Try.func47 Yba_ rfl #[.agg #[.slice A0_0 l0_0.length c0_0], .int .i64 x6_2] rfl Ye_ ?_; (with_reducible refine (Ae.calls k2 _ _ l0_0 x6_2 t447 t448 _ ?side1 ?side2 A11.out).mono ?_); (case side1 => repeat (first | exact (Kd.C_below HR0_0.out HB.out) | (with_reducible refine Kd.C_alloc ?_ _) | (with_reducible refine Kd.C_drewN ?_ _) | (with_reducible refine Kd.C_drew ?_))); (case side2 => exact HC0_0.out); rintro e w15 ⟨rfl, hb⟩; refine ⟨_, rfl, ?_⟩; have n0_ := Aside0.mk (Kd.Cf Ybi_ hb); have n1_ := Aside0.mk (blk_below (g := gb0) (o := .cells #[.slice A0_0 l0_0.length c0_0, .int .i64 a0_1, .slice A0_2 l0_2.length c0_2] 34 (0, 0)) Yc_ hb); have n2_ := Aside0.mk (below_step Yd_ hb); clear HO_4; clear BK0; clear HB; have HO_4 := n0_; have BK0 := n1_; have HB := n2_; clear n0_ n1_ n2_; (try clear hb); (try clear hb2); (try clear hk); (try clear hi); have hcz16_0 : w15.cell? ⟨gb0, 0, none⟩ = some (.slice A0_0 l0_0.length c0_0) := (blk_cell BK0.out 0).trans rfl; have hcz16_1 : w15.cell? ⟨gb0, 1, none⟩ = some (.int .i64 a0_1) := (blk_cell BK0.out 1).trans rfl; have hcz16_2 : w15.cell? ⟨gb0, 2, none⟩ = some (.slice A0_2 l0_2.length c0_2) := (blk_cell BK0.out 2).trans rfl; have hfz16_0 := blk_frozen BK0.out 0; have hfz16_1 := blk_frozen BK0.out 1; have hfz16_2 := blk_frozen BK0.out 2) | ((with_reducible refine gate_callee (f := 48) rfl ?_); refine goesL_ (some 39) rfl rfl Try.func48 Yba_ rfl #[.agg #[.int .i64 a0_1, .slice A0_2 l0_2.length c0_2], .int .i64 x6_2] rfl Ye_ ?_; (with_reducible refine (Ah.calls k2 a0_1 _ _ l0_2 x6_2 t449 t450 _ ?side1 ?side2 A12.out).mono ?_); (case side1 => repeat (first | exact (Kd.C_below HR0_2.out HB.out) | (with_reducible refine Kd.C_alloc ?_ _) | (with_reducible refine Kd.C_drewN ?_ _) | (with_reducible refine Kd.C_drew ?_))); (case side2 => exact HC0_2.out); rintro e w17 ⟨rfl, hb⟩; refine ⟨_, rfl, ?_⟩; have n0_ := Aside0.mk (Kd.Cf Ybi_ hb); have n1_ := Aside0.mk (blk_below (g := gb0) (o := .cells #[.slice A0_0 l0_0.length c0_0, .int .i64 a0_1, .slice A0_2 l0_2.length c0_2] 34 (0, 0)) Yc_ hb); have n2_ := Aside0.mk (below_step Yd_ hb); clear HO_4; clear BK0; clear HB; have HO_4 := n0_; have BK0 := n1_; have HB := n2_; clear n0_ n1_ n2_; (try clear hb); (try clear hb2); (try clear hk); (try clear hi)))
        (try simp only [Act.put, List.setIfInBounds_toArray, List.set_cons_zero, List.set_cons_succ])
        go_cut [47] (fun v47 wc => ∃ (kq : Nat) (x47_12 : Bool), v47 = .bool x47_12 ∧ Aside0 (Aa.j2 kq x4_2 x5_1 x6_2 x47_12 l0_0 a0_1 l0_2 = some (r1, r2)) ∧ Aside0 (kq ≤ k2) ∧ Aside0 (Kd.R k43 43 wc w.heap.size (fun _ => True) u4 x4_2) ∧ Aside0 (wc.heap[gb0]? = some (.cells #[(.slice A0_0 l0_0.length c0_0), .int .i64 a0_1, (.slice A0_2 l0_2.length c0_2)] 34 (0, 0))) ∧ Aside0 (Below w.heap.size w wc))
        case first =>
         have H := HC13.out
         clear HC13
         by_cases c18 : t447 < 0
         ·rw [if_pos c18] at H
          have c18b0 : decide (t447 < 0) = true := decide_eq_true c18
          clear c18
          (first | rw [c18b0] | (simp only [i64_w, i32_w]; rw [c18b0]) | skip)
          have H' := Aside0.mk H
          clear H
          go_wp2
          go_meet
          case rel => exact ⟨_, (decide (t449 < 0)), Ybb_, H', ⟨by have := HK1.out; have := HK2.out; first | omega | exact Nat.le_refl _⟩, ⟨by (with_reducible repeat (first | apply Kd.R_alloc | apply Kd.R_drewN | apply Kd.R_drew)); exact HO_4.out⟩, ⟨by (with_reducible repeat (first | apply blk_drewN | apply blk_drew | apply blk_alloc)); exact BK0.out⟩, ⟨by repeat (first | (with_reducible first | exact HB.out | apply below_alloc | apply pw_below_drewN | apply below_drew1 | refine below_set ?_ GE0.out) | exact HB.out)⟩⟩
         ·rw [if_neg c18] at H
          have c18b0 : decide (t447 < 0) = false := decide_eq_false c18
          clear c18
          (first | rw [c18b0] | (simp only [i64_w, i32_w]; rw [c18b0]) | skip)
          have H' := Aside0.mk H
          clear H
          go_wp2
          go_meet
          case rel => exact ⟨_, (false), Ybb_, H', ⟨by have := HK1.out; have := HK2.out; first | omega | exact Nat.le_refl _⟩, ⟨by (with_reducible repeat (first | apply Kd.R_alloc | apply Kd.R_drewN | apply Kd.R_drew)); exact HO_4.out⟩, ⟨by (with_reducible repeat (first | apply blk_drewN | apply blk_drew | apply blk_alloc)); exact BK0.out⟩, ⟨by repeat (first | (with_reducible first | exact HB.out | apply below_alloc | apply pw_below_drewN | apply below_drew1 | refine below_set ?_ GE0.out) | exact HB.out)⟩⟩
        case rest =>
         clear HC13
         try clear c1; try clear c2; try clear p2; try clear c3; try clear c4; try clear c9; try clear c9b0; try clear c10; try clear c10b0; try clear c18; try clear c18b0; try clear hcz14_0; try clear hcz14_1; try clear hcz14_2; try clear hcz16_0; try clear hcz16_1; try clear hcz16_2; try clear hcz7_0; try clear hcz7_1; try clear hcz7_2; try clear hfz14_0; try clear hfz14_1; try clear hfz14_2; try clear hfz16_0; try clear hfz16_1; try clear hfz16_2; try clear hfz7_0; try clear hfz7_1; try clear hfz7_2; try clear p2
         obtain ⟨kq, x47_12, rfl, HA, HJ12, HO_4, BK0, HB⟩ := hcut
         cases kq with
         | zero => exact absurd HA.out (by simp [Aa.j2])
         | succ kj12 =>
          have H := HA.out
          clear HA
          simp only [Aa.j2] at H
          by_cases c19 : x47_12 = true
          ·subst c19
           have H1 : (Aa.l1 kj12 x4_2 x5_1 (wrap64 (x6_2 + 1)) l0_0 a0_1 l0_2) = some (r1, r2) := by rw [if_pos rfl] at H; exact H
           clear H
           have H := H1
           clear H1
           have H' := Aside0.mk H
           clear H
           go_wp2
           go_roundg kj12
           case measure => have := HK1.out; have := HK2.out; have := HJ12.out; omega
           case rel => exact ⟨(x4_2), (wrap64 (x6_2 + 1)), Ybb_, H', ⟨by have := HK1.out; have := HK2.out; have := HJ12.out; omega⟩, ⟨by (with_reducible repeat (first | apply Kd.R_alloc | apply Kd.R_drewN | apply Kd.R_drew)); exact HO_4.out⟩, ⟨by (with_reducible repeat (first | apply blk_drewN | apply blk_drew | apply blk_alloc)); exact BK0.out⟩, ⟨by repeat (first | (with_reducible first | exact HB.out | apply below_alloc | apply pw_below_drewN | apply below_drew1 | refine below_set ?_ GE0.out) | exact HB.out)⟩⟩
          ·replace c19 := Bool.eq_false_iff.mpr c19
           subst c19
           have H1 : (Aa.l2 kj12 x4_2 x5_1 x6_2 0 l0_0 a0_1 l0_2) = some (r1, r2) := by rw [if_neg (show ¬ (false = true) by decide)] at H; exact H
           clear H
           have H := H1
           clear H1
           have H' := Aside0.mk H
           clear H
           go_wp2
           go_loopg [4, 11] kj12 (fun kq v4 v11 w' => ∃ (x4_4 : List (S43)) (x11_4 : Int), v11 = .int .i64 x11_4 ∧ Aside0 (Aa.l2 kq x4_4 x5_1 x6_2 x11_4 l0_0 a0_1 l0_2 = some (r1, r2)) ∧ Aside0 (kq ≤ kj12) ∧ Aside0 (Kd.R k43 43 w' w.heap.size (fun _ => True) v4 x4_4) ∧ Aside0 (w'.heap[gb0]? = some (.cells #[(.slice A0_0 l0_0.length c0_0), .int .i64 a0_1, (.slice A0_2 l0_2.length c0_2)] 34 (0, 0))) ∧ Aside0 (Below w.heap.size w w'))
           case atStart => exact ⟨(x4_2), (0), Ybb_, H', ⟨Nat.le_refl _⟩, ⟨by (with_reducible repeat (first | apply Kd.R_alloc | apply Kd.R_drewN | apply Kd.R_drew)); exact HO_4.out⟩, ⟨by (with_reducible repeat (first | apply blk_drewN | apply blk_drew | apply blk_alloc)); exact BK0.out⟩, ⟨by repeat (first | (with_reducible first | exact HB.out | apply below_alloc | apply pw_below_drewN | apply below_drew1 | refine below_set ?_ GE0.out) | exact HB.out)⟩⟩
           case round =>
            clear H'
            try clear c1; try clear c2; try clear p2; try clear c3; try clear c4; try clear p6; try clear c9; try clear c9b0; try clear c10; try clear c10b0; try clear c18; try clear c18b0; try clear c19; try clear hcz14_0; try clear hcz14_1; try clear hcz14_2; try clear hcz16_0; try clear hcz16_1; try clear hcz16_2; try clear hcz7_0; try clear hcz7_1; try clear hcz7_2; try clear hfz14_0; try clear hfz14_1; try clear hfz14_2; try clear hfz16_0; try clear hfz16_1; try clear hfz16_2; try clear hfz7_0; try clear hfz7_1; try clear hfz7_2; try clear p2
            obtain ⟨x4_4, x11_4, rfl, HA, HK4, HO_4, BK0, HB⟩ := hrel
            cases gk with
            | zero => exact absurd HA.out (by simp [Aa.l2])
            | succ k4 =>
             have H := HA.out
             clear HA
             simp only [Aa.l2] at H
             by_cases c20 : x11_4 < 6
             ·rw [if_pos c20] at H
              have c20b0 : decide (x11_4 < 6) = true := decide_eq_true c20
              clear c20
              replace H := Option.bind_eq_some_iff.mp H
              obtain ⟨⟨t452, t455, t456, t459⟩, A210, H⟩ := H
              try dsimp only at H
              have A21 := Aside0.mk A210
              clear A210
              by_cases c22 : t459 = true
              ·subst c22
               have H1 : (if x4_4.length < 5864062014805 then (Aa.l2 k4 (x4_4 ++ [(⟨x5_1, x6_2, x11_4⟩ : S43)]) x5_1 x6_2 (wrap64 (x11_4 + 1)) l0_0 a0_1 l0_2) else (none)) = some (r1, r2) := by rw [if_pos rfl] at H; exact H
               clear H
               have H := H1
               clear H1
               by_cases c23 : x4_4.length < 5864062014805
               ·rw [if_pos c23] at H
                have LMc23 := Aside0.mk c23
                clear c23
                obtain ⟨y461, hy461⟩ : ∃ y_ : List (S43), y_ = (x4_4 ++ [(⟨x5_1, x6_2, x11_4⟩ : S43)]) := ⟨_, rfl⟩
                replace H : (Aa.l2 k4 y461 x5_1 x6_2 (wrap64 (x11_4 + 1)) l0_0 a0_1 l0_2) = some (r1, r2) := by first | (rw [hy461]; with_reducible exact H) | (have H2_ := (Option.bind_some _ _).symm.trans H; rw [hy461]; with_reducible exact H2_) | (have H2_ := (Option.bind_some _ _).symm.trans H; with_reducible exact H2_) | with_reducible exact H | (rw [hy461]; exact H) | exact H
                have Ny461 := Aside0.mk hy461
                clear hy461
                have H' := Aside0.mk H
                clear H
                go_wp2_with (first | ((with_reducible refine gate_dst (N := 12) rfl ?_); refine box_event ?hg (N := 12) ?hd (cs := #[.int .i64 0, .int .i64 0, .int .i64 0]) (t := 43) ?hr ?_; (case hd => rfl); (case hg => rfl); (case hr => first | (go_simp; done) | (go_simp; rfl)); intro gb1 hg w24 hbox hb; have n0_ := Aside0.mk (Kd.Cf (Kd.R_elderB Ybi_ gb1 (Nat.le_of_eq hg.symm)) hb); have n1_ := Aside0.mk (blk_below (g := gb0) (o := .cells #[.slice A0_0 l0_0.length c0_0, .int .i64 a0_1, .slice A0_2 l0_2.length c0_2] 34 (0, 0)) Yc_ hb); have n2_ := Aside0.mk (below_step Yd_ hb); have n3_ := Aside0.mk (hbox); have n4_ := Aside0.mk ((by rw [hg]; exact (below_size Yd_) : w.heap.size ≤ gb1)); have n5_ := Aside0.mk ((by rw [hg]; exact (below_size Yd_) : w.heap.size ≤ gb1)); have n6_ := Aside0.mk ((by rw [hg]; exact Nat.ne_of_lt (blk_lt (g := gb0) (o := .cells #[.slice A0_0 l0_0.length c0_0, .int .i64 a0_1, .slice A0_2 l0_2.length c0_2] 34 (0, 0)) Yc_) : gb0 ≠ gb1)); have n7_ := Aside0.mk ((by rw [hg]; exact Nat.ne_of_gt (blk_lt (g := gb0) (o := .cells #[.slice A0_0 l0_0.length c0_0, .int .i64 a0_1, .slice A0_2 l0_2.length c0_2] 34 (0, 0)) Yc_) : gb1 ≠ gb0)); clear HO_4; clear BK0; clear HB; have HO_4 := n0_; have BK0 := n1_; have HB := n2_; have BK1 := n3_; have GW1 := n4_; have GE1 := n5_; have NB0_1 := n6_; have NB1_0 := n7_; clear n0_ n1_ n2_ n3_ n4_ n5_ n6_ n7_; clear hb hbox hg; have hnb25 := NB1_0.out; have hnc25 := NB0_1.out; have hcz26_0 : w24.cell? ⟨gb1, 0, none⟩ = some (.int .i64 0) := (blk_cell BK1.out 0).trans rfl; have hcz26_1 : w24.cell? ⟨gb1, 1, none⟩ = some (.int .i64 0) := (blk_cell BK1.out 1).trans rfl; have hcz26_2 : w24.cell? ⟨gb1, 2, none⟩ = some (.int .i64 0) := (blk_cell BK1.out 2).trans rfl; have hfz26_0 := blk_frozen BK1.out 0; have hfz26_1 := blk_frozen BK1.out 1; have hfz26_2 := blk_frozen BK1.out 2; have hcz27_0 : w24.cell? ⟨gb0, 0, none⟩ = some (.slice A0_0 l0_0.length c0_0) := (blk_cell BK0.out 0).trans rfl; have hcz27_1 : w24.cell? ⟨gb0, 1, none⟩ = some (.int .i64 a0_1) := (blk_cell BK0.out 1).trans rfl; have hcz27_2 : w24.cell? ⟨gb0, 2, none⟩ = some (.slice A0_2 l0_2.length c0_2) := (blk_cell BK0.out 2).trans rfl; have hfz27_0 := blk_frozen BK0.out 0; have hfz27_1 := blk_frozen BK0.out 1; have hfz27_2 := blk_frozen BK0.out 2) | ((with_reducible refine gate_callee (f := 51) rfl ?_); refine goesL_ (some 59) rfl rfl Try.func51 Yba_ rfl #[.agg #[.slice A0_0 l0_0.length c0_0, .int .i64 a0_1, .slice A0_2 l0_2.length c0_2], .agg #[.int .i64 x5_1, .int .i64 x6_2, .int .i64 x11_4]] rfl Ye_ ?_; (with_reducible refine (spec_l24Make.calls k4 _ _ l0_0 a0_1 _ _ l0_2 x5_1 x6_2 x11_4 t452 t455 t456 true _ ?side1 ?side2 ?side3 ?side4 A21.out).mono ?_); (case side1 => exact Kd.C_below HR0_0.out Yf_); (case side2 => exact HC0_0.out); (case side3 => exact Kd.C_below HR0_2.out Yf_); (case side4 => exact HC0_2.out); rintro e w28 ⟨v453, v457, rfl, ho0, ho1, hb⟩; refine ⟨_, rfl, ?_⟩; have n0_ := Aside0.mk (Kd.Cf Ycj_ hb); have n1_ := Aside0.mk (Kd.S_lower ho0 (below_size Yf_)); have n2_ := Aside0.mk (Kd.S_lower ho1 (below_size Yf_)); have n3_ := Aside0.mk (blk_below (g := gb0) (o := .cells #[.slice A0_0 l0_0.length c0_0, .int .i64 a0_1, .slice A0_2 l0_2.length c0_2] 34 (0, 0)) Ybf_ hb); have n4_ := Aside0.mk (blk_below (g := gb1) (o := .cells #[.int .i64 x5_1, .int .i64 x6_2, .int .i64 x11_4] 43 (0, 0)) Ybe_ hb); have n5_ := Aside0.mk (below_step Yf_ hb); clear HO_4; clear BK0; clear BK1; clear HB; have HO_4 := n0_; have HO454 := n1_; have HO458 := n2_; have BK0 := n3_; have BK1 := n4_; have HB := n5_; clear n0_ n1_ n2_ n3_ n4_ n5_; (try clear hb); (try clear hb2); (try clear hk); (try clear hi); (try clear ho0); (try clear ho1)) | ((with_reducible refine gate_dst (N := 13) rfl ?_); refine box_event ?hg (N := 13) ?hd (cs := #[.slice none 0 0, .int .i64 0, .slice none 0 0]) (t := 34) ?hr ?_; (case hd => rfl); (case hg => rfl); (case hr => first | (go_simp; done) | (go_simp; rfl)); intro gb2 hg w29 hbox hb; have n0_ := Aside0.mk (Kd.Cf Ybi_ hb); have n1_ := Aside0.mk (Kd.Ak Yfd_ hb); have n2_ := Aside0.mk (Kd.Ak Yfe_ hb); have n3_ := Aside0.mk (blk_below (g := gb0) (o := .cells #[.slice A0_0 l0_0.length c0_0, .int .i64 a0_1, .slice A0_2 l0_2.length c0_2] 34 (0, 0)) Yc_ hb); have n4_ := Aside0.mk (blk_below (g := gb1) (o := .cells #[.int .i64 x5_1, .int .i64 x6_2, .int .i64 x11_4] 43 (0, 0)) Yi_ hb); have n5_ := Aside0.mk (below_step Yf_ hb); have n6_ := Aside0.mk (hbox); have n7_ := Aside0.mk ((by rw [hg]; exact (below_size Yf_) : w.heap.size ≤ gb2)); have n8_ := Aside0.mk ((by rw [hg]; exact (below_size Yf_) : w.heap.size ≤ gb2)); have n9_ := Aside0.mk ((by rw [hg]; exact Nat.ne_of_lt (blk_lt (g := gb0) (o := .cells #[.slice A0_0 l0_0.length c0_0, .int .i64 a0_1, .slice A0_2 l0_2.length c0_2] 34 (0, 0)) Yc_) : gb0 ≠ gb2)); have n10_ := Aside0.mk ((by rw [hg]; exact Nat.ne_of_gt (blk_lt (g := gb0) (o := .cells #[.slice A0_0 l0_0.length c0_0, .int .i64 a0_1, .slice A0_2 l0_2.length c0_2] 34 (0, 0)) Yc_) : gb2 ≠ gb0)); have n11_ := Aside0.mk ((by rw [hg]; exact Nat.ne_of_lt (blk_lt (g := gb1) (o := .cells #[.int .i64 x5_1, .int .i64 x6_2, .int .i64 x11_4] 43 (0, 0)) Yi_) : gb1 ≠ gb2)); have n12_ := Aside0.mk ((by rw [hg]; exact Nat.ne_of_gt (blk_lt (g := gb1) (o := .cells #[.int .i64 x5_1, .int .i64 x6_2, .int .i64 x11_4] 43 (0, 0)) Yi_) : gb2 ≠ gb1)); clear HO_4; clear HO454; clear HO458; clear BK0; clear BK1; clear HB; have HO_4 := n0_; have HO454 := n1_; have HO458 := n2_; have BK0 := n3_; have BK1 := n4_; have HB := n5_; have BK2 := n6_; have GW2 := n7_; have GE2 := n8_; have NB0_2 := n9_; have NB2_0 := n10_; have NB1_2 := n11_; have NB2_1 := n12_; clear n0_ n1_ n2_ n3_ n4_ n5_ n6_ n7_ n8_ n9_ n10_ n11_ n12_; clear hb hbox hg; obtain ⟨Ao30, co30, eo30⟩ := Kd.S_slice HO454.out; subst eo30; have hnb31 := NB2_0.out; have hnc31 := NB0_2.out; have hnb32 := NB2_1.out; have hnc32 := NB1_2.out; have hcz33_0 : w29.cell? ⟨gb2, 0, none⟩ = some (.slice none 0 0) := (blk_cell BK2.out 0).trans rfl; have hcz33_1 : w29.cell? ⟨gb2, 1, none⟩ = some (.int .i64 0) := (blk_cell BK2.out 1).trans rfl; have hcz33_2 : w29.cell? ⟨gb2, 2, none⟩ = some (.slice none 0 0) := (blk_cell BK2.out 2).trans rfl; have hfz33_0 := blk_frozen BK2.out 0; have hfz33_1 := blk_frozen BK2.out 1; have hfz33_2 := blk_frozen BK2.out 2; obtain ⟨Ao34, co34, eo34⟩ := Kd.S_slice HO458.out; subst eo34; have hcz35_0 : w29.cell? ⟨gb1, 0, none⟩ = some (.int .i64 x5_1) := (blk_cell BK1.out 0).trans rfl; have hcz35_1 : w29.cell? ⟨gb1, 1, none⟩ = some (.int .i64 x6_2) := (blk_cell BK1.out 1).trans rfl; have hcz35_2 : w29.cell? ⟨gb1, 2, none⟩ = some (.int .i64 x11_4) := (blk_cell BK1.out 2).trans rfl; have hfz35_0 := blk_frozen BK1.out 0; have hfz35_1 := blk_frozen BK1.out 1; have hfz35_2 := blk_frozen BK1.out 2) | ((with_reducible refine Em (b := .append) (xs := #[.tmp 63, .tmp 65]) rfl ?_); at_builtin; refine Kd.R_append k43 (w0 := w) w.heap.size rfl (.tmp 63) (.tmp 65) 52 43 (.agg #[(.int .i64 0), (.int .i64 0), (.int .i64 0)]) 24 rfl Try.underlying52 info43 rfl (by decide) (by omega) u4 x4_4 (⟨x5_1, x6_2, x11_4⟩ : S43) [.int .i64 x5_1, .int .i64 x6_2, .int .i64 x11_4] (fun k_ => k_ ≠ gb1) (fun _ => False) rfl (by first | (go_simp; done) | (go_simp; rfl)) ?aP (fun _ hk => hk.elim) ?aF ?aO ?aB ?aS ?aL ?_; (case aP => exact k43_mkM _ _ _ (⟨x5_1, x6_2, x11_4⟩ : S43)); (case aB => exact Yh_); (case aF => exact (fun k_ hk => Kd.freshB (g := gb1) (o := .cells #[.int .i64 x5_1, .int .i64 x6_2, .int .i64 x11_4] 43 (0, 0)) Ybg_ k_ hk)); (case aO => exact (by (with_reducible repeat (first | apply Kd.R_alloc | apply Kd.R_drewN | apply Kd.R_drew)); exact Kd.Ci (Kd.Dk (p := ⟨gb2, 2, none⟩) (Kd.Dk (p := ⟨gb2, 1, none⟩) (Kd.Dk (p := ⟨gb2, 0, none⟩) (Kd.E8 HO_4.out BK2.out (by decide)) (fun _ hk => hk.2) (.slice Ao30 t452.length co30)) (fun _ hk => hk.2) (.int .i64 t455)) (fun _ hk => hk.2) (.slice Ao34 t456.length co34)) (fun _ hk => hk.1.2))); (case aS => exact (below_size Yh_)); (case aL => have := LMc23.out; omega); intro v462 w36 ho hb hg hat; rw [← Ny461.out] at ho; have n0_ := Aside0.mk (Cj (g := gb0) (o := .cells #[.slice A0_0 l0_0.length c0_0, .int .i64 a0_1, .slice A0_2 l0_2.length c0_2] 34 (0, 0)) Ycf_ hg (Kd.R_ne HO_4.out BK0.out (by decide))); have n1_ := Aside0.mk (Cj (g := gb1) (o := .cells #[.int .i64 x5_1, .int .i64 x6_2, .int .i64 x11_4] 43 (0, 0)) Ybg_ hg (Kd.R_away HO_4.out (fun _ hk => hk.2))); have n2_ := Aside0.mk (Kd.S_over' (by (with_reducible repeat (first | apply Kd.S_alloc | apply Kd.S_drewN | apply Kd.S_drew)); exact (Kd.S_mono (Kd.S_far (p := ⟨gb2, 2, none⟩) (Kd.S_far (p := ⟨gb2, 1, none⟩) (Kd.S_far (p := ⟨gb2, 0, none⟩) (Kd.S_types HO454.out BK2.out (by decide)) (fun _ hk => hk.2) (.slice Ao30 t452.length co30)) (fun _ hk => hk.2) (.int .i64 t455)) (fun _ hk => hk.2) (.slice Ao34 t456.length co34)) (fun _ h_ => h_.1))) (Kd.R_typed Ydb_) (by decide) hg); have n3_ := Aside0.mk (Kd.S_over' (by (with_reducible repeat (first | apply Kd.S_alloc | apply Kd.S_drewN | apply Kd.S_drew)); exact (Kd.S_mono (Kd.S_far (p := ⟨gb2, 2, none⟩) (Kd.S_far (p := ⟨gb2, 1, none⟩) (Kd.S_far (p := ⟨gb2, 0, none⟩) (Kd.S_types HO458.out BK2.out (by decide)) (fun _ hk => hk.2) (.slice Ao30 t452.length co30)) (fun _ hk => hk.2) (.int .i64 t455)) (fun _ hk => hk.2) (.slice Ao34 t456.length co34)) (fun _ h_ => h_.1))) (Kd.R_typed Ydb_) (by decide) hg); have n4_ := Aside0.mk (Cj (g := gb2) (o := .cells #[.slice Ao30 t452.length co30, .int .i64 t455, .slice Ao34 t456.length co34] 34 (0, 0)) (by (with_reducible repeat (first | apply blk_drewN | apply blk_drew | apply blk_alloc)); refine blk_put (cs := #[.slice Ao30 t452.length co30, .int .i64 t455, .slice none 0 0]) ?_ 2 _ rfl; (with_reducible repeat (first | apply blk_drewN | apply blk_drew | apply blk_alloc)); refine blk_put (cs := #[.slice Ao30 t452.length co30, .int .i64 0, .slice none 0 0]) ?_ 1 _ rfl; (with_reducible repeat (first | apply blk_drewN | apply blk_drew | apply blk_alloc)); refine blk_put (cs := #[.slice none 0 0, .int .i64 0, .slice none 0 0]) ?_ 0 _ rfl; (with_reducible repeat (first | apply blk_drewN | apply blk_drew | apply blk_alloc)); exact BK2.out) hg (Kd.R_ne HO_4.out BK2.out (by decide))); have n5_ := Aside0.mk (hb); have n6_ := Aside0.mk (ho); clear BK0; clear BK1; clear HO454; clear HO458; clear BK2; clear HB; clear HO_4; have BK0 := n0_; have BK1 := n1_; have HO454 := n2_; have HO458 := n3_; have BK2 := n4_; have HB := n5_; have HO463 := n6_; clear n0_ n1_ n2_ n3_ n4_ n5_ n6_; clear ho hb hg hat))
                go_roundg k4
                case measure => have := HK1.out; have := HK2.out; have := HJ12.out; have := HK4.out; omega
                case rel => exact ⟨(y461), (wrap64 (x11_4 + 1)), Ybb_, H', ⟨by have := HK1.out; have := HK2.out; have := HJ12.out; have := HK4.out; omega⟩, ⟨by (with_reducible repeat (first | apply Kd.R_alloc | apply Kd.R_drewN | apply Kd.R_drew)); exact Kd.Ci HO463.out (fun _ hk => trivial)⟩, ⟨by (with_reducible repeat (first | apply blk_drewN | apply blk_drew | apply blk_alloc)); exact BK0.out⟩, ⟨by repeat (first | (with_reducible first | exact HB.out | apply below_alloc | apply pw_below_drewN | apply below_drew1 | refine below_set ?_ GE0.out | refine below_set ?_ GE1.out | refine below_set ?_ GE2.out) | exact HB.out)⟩⟩
               ·rw [if_neg c23] at H
                exact absurd H (by simp)
              ·replace c22 := Bool.eq_false_iff.mpr c22
               subst c22
               have H1 : (Aa.l2 k4 x4_4 x5_1 x6_2 (wrap64 (x11_4 + 1)) l0_0 a0_1 l0_2) = some (r1, r2) := by rw [if_neg (show ¬ (false = true) by decide)] at H; exact H
               clear H
               have H := H1
               clear H1
               have H' := Aside0.mk H
               clear H
               go_wp2_with (first | ((with_reducible refine gate_dst (N := 12) rfl ?_); refine box_event ?hg (N := 12) ?hd (cs := #[.int .i64 0, .int .i64 0, .int .i64 0]) (t := 43) ?hr ?_; (case hd => rfl); (case hg => rfl); (case hr => first | (go_simp; done) | (go_simp; rfl)); intro gb1 hg w37 hbox hb; have n0_ := Aside0.mk (Kd.Cf (Kd.R_elderB Ybi_ gb1 (Nat.le_of_eq hg.symm)) hb); have n1_ := Aside0.mk (blk_below (g := gb0) (o := .cells #[.slice A0_0 l0_0.length c0_0, .int .i64 a0_1, .slice A0_2 l0_2.length c0_2] 34 (0, 0)) Yc_ hb); have n2_ := Aside0.mk (below_step Yd_ hb); have n3_ := Aside0.mk (hbox); have n4_ := Aside0.mk ((by rw [hg]; exact (below_size Yd_) : w.heap.size ≤ gb1)); have n5_ := Aside0.mk ((by rw [hg]; exact (below_size Yd_) : w.heap.size ≤ gb1)); have n6_ := Aside0.mk ((by rw [hg]; exact Nat.ne_of_lt (blk_lt (g := gb0) (o := .cells #[.slice A0_0 l0_0.length c0_0, .int .i64 a0_1, .slice A0_2 l0_2.length c0_2] 34 (0, 0)) Yc_) : gb0 ≠ gb1)); have n7_ := Aside0.mk ((by rw [hg]; exact Nat.ne_of_gt (blk_lt (g := gb0) (o := .cells #[.slice A0_0 l0_0.length c0_0, .int .i64 a0_1, .slice A0_2 l0_2.length c0_2] 34 (0, 0)) Yc_) : gb1 ≠ gb0)); clear HO_4; clear BK0; clear HB; have HO_4 := n0_; have BK0 := n1_; have HB := n2_; have BK1 := n3_; have GW1 := n4_; have GE1 := n5_; have NB0_1 := n6_; have NB1_0 := n7_; clear n0_ n1_ n2_ n3_ n4_ n5_ n6_ n7_; clear hb hbox hg; have hnb38 := NB1_0.out; have hnc38 := NB0_1.out; have hcz39_0 : w37.cell? ⟨gb1, 0, none⟩ = some (.int .i64 0) := (blk_cell BK1.out 0).trans rfl; have hcz39_1 : w37.cell? ⟨gb1, 1, none⟩ = some (.int .i64 0) := (blk_cell BK1.out 1).trans rfl; have hcz39_2 : w37.cell? ⟨gb1, 2, none⟩ = some (.int .i64 0) := (blk_cell BK1.out 2).trans rfl; have hfz39_0 := blk_frozen BK1.out 0; have hfz39_1 := blk_frozen BK1.out 1; have hfz39_2 := blk_frozen BK1.out 2; have hcz40_0 : w37.cell? ⟨gb0, 0, none⟩ = some (.slice A0_0 l0_0.length c0_0) := (blk_cell BK0.out 0).trans rfl; have hcz40_1 : w37.cell? ⟨gb0, 1, none⟩ = some (.int .i64 a0_1) := (blk_cell BK0.out 1).trans rfl; have hcz40_2 : w37.cell? ⟨gb0, 2, none⟩ = some (.slice A0_2 l0_2.length c0_2) := (blk_cell BK0.out 2).trans rfl; have hfz40_0 := blk_frozen BK0.out 0; have hfz40_1 := blk_frozen BK0.out 1; have hfz40_2 := blk_frozen BK0.out 2) | ((with_reducible refine gate_callee (f := 51) rfl ?_); refine goesL_ (some 59) rfl rfl Try.func51 Yba_ rfl #[.agg #[.slice A0_0 l0_0.length c0_0, .int .i64 a0_1, .slice A0_2 l0_2.length c0_2], .agg #[.int .i64 x5_1, .int .i64 x6_2, .int .i64 x11_4]] rfl Ye_ ?_; (with_reducible refine (spec_l24Make.calls k4 _ _ l0_0 a0_1 _ _ l0_2 x5_1 x6_2 x11_4 t452 t455 t456 false _ ?side1 ?side2 ?side3 ?side4 A21.out).mono ?_); (case side1 => exact Kd.C_below HR0_0.out Yf_); (case side2 => exact HC0_0.out); (case side3 => exact Kd.C_below HR0_2.out Yf_); (case side4 => exact HC0_2.out); rintro e w41 ⟨v453, v457, rfl, ho0, ho1, hb⟩; refine ⟨_, rfl, ?_⟩; have n0_ := Aside0.mk (Kd.Cf Ycj_ hb); have n1_ := Aside0.mk (Kd.S_lower ho0 (below_size Yf_)); have n2_ := Aside0.mk (Kd.S_lower ho1 (below_size Yf_)); have n3_ := Aside0.mk (blk_below (g := gb0) (o := .cells #[.slice A0_0 l0_0.length c0_0, .int .i64 a0_1, .slice A0_2 l0_2.length c0_2] 34 (0, 0)) Ybf_ hb); have n4_ := Aside0.mk (blk_below (g := gb1) (o := .cells #[.int .i64 x5_1, .int .i64 x6_2, .int .i64 x11_4] 43 (0, 0)) Ybe_ hb); have n5_ := Aside0.mk (below_step Yf_ hb); clear HO_4; clear BK0; clear BK1; clear HB; have HO_4 := n0_; have HO454 := n1_; have HO458 := n2_; have BK0 := n3_; have BK1 := n4_; have HB := n5_; clear n0_ n1_ n2_ n3_ n4_ n5_; (try clear hb); (try clear hb2); (try clear hk); (try clear hi); (try clear ho0); (try clear ho1)) | ((with_reducible refine gate_dst (N := 13) rfl ?_); refine box_event ?hg (N := 13) ?hd (cs := #[.slice none 0 0, .int .i64 0, .slice none 0 0]) (t := 34) ?hr ?_; (case hd => rfl); (case hg => rfl); (case hr => first | (go_simp; done) | (go_simp; rfl)); intro gb2 hg w42 hbox hb; have n0_ := Aside0.mk (Kd.Cf Ybi_ hb); have n1_ := Aside0.mk (Kd.Ak Yfd_ hb); have n2_ := Aside0.mk (Kd.Ak Yfe_ hb); have n3_ := Aside0.mk (blk_below (g := gb0) (o := .cells #[.slice A0_0 l0_0.length c0_0, .int .i64 a0_1, .slice A0_2 l0_2.length c0_2] 34 (0, 0)) Yc_ hb); have n4_ := Aside0.mk (blk_below (g := gb1) (o := .cells #[.int .i64 x5_1, .int .i64 x6_2, .int .i64 x11_4] 43 (0, 0)) Yi_ hb); have n5_ := Aside0.mk (below_step Yf_ hb); have n6_ := Aside0.mk (hbox); have n7_ := Aside0.mk ((by rw [hg]; exact (below_size Yf_) : w.heap.size ≤ gb2)); have n8_ := Aside0.mk ((by rw [hg]; exact (below_size Yf_) : w.heap.size ≤ gb2)); have n9_ := Aside0.mk ((by rw [hg]; exact Nat.ne_of_lt (blk_lt (g := gb0) (o := .cells #[.slice A0_0 l0_0.length c0_0, .int .i64 a0_1, .slice A0_2 l0_2.length c0_2] 34 (0, 0)) Yc_) : gb0 ≠ gb2)); have n10_ := Aside0.mk ((by rw [hg]; exact Nat.ne_of_gt (blk_lt (g := gb0) (o := .cells #[.slice A0_0 l0_0.length c0_0, .int .i64 a0_1, .slice A0_2 l0_2.length c0_2] 34 (0, 0)) Yc_) : gb2 ≠ gb0)); have n11_ := Aside0.mk ((by rw [hg]; exact Nat.ne_of_lt (blk_lt (g := gb1) (o := .cells #[.int .i64 x5_1, .int .i64 x6_2, .int .i64 x11_4] 43 (0, 0)) Yi_) : gb1 ≠ gb2)); have n12_ := Aside0.mk ((by rw [hg]; exact Nat.ne_of_gt (blk_lt (g := gb1) (o := .cells #[.int .i64 x5_1, .int .i64 x6_2, .int .i64 x11_4] 43 (0, 0)) Yi_) : gb2 ≠ gb1)); clear HO_4; clear HO454; clear HO458; clear BK0; clear BK1; clear HB; have HO_4 := n0_; have HO454 := n1_; have HO458 := n2_; have BK0 := n3_; have BK1 := n4_; have HB := n5_; have BK2 := n6_; have GW2 := n7_; have GE2 := n8_; have NB0_2 := n9_; have NB2_0 := n10_; have NB1_2 := n11_; have NB2_1 := n12_; clear n0_ n1_ n2_ n3_ n4_ n5_ n6_ n7_ n8_ n9_ n10_ n11_ n12_; clear hb hbox hg; obtain ⟨Ao43, co43, eo43⟩ := Kd.S_slice HO454.out; subst eo43; have hnb44 := NB2_0.out; have hnc44 := NB0_2.out; have hnb45 := NB2_1.out; have hnc45 := NB1_2.out; have hcz46_0 : w42.cell? ⟨gb2, 0, none⟩ = some (.slice none 0 0) := (blk_cell BK2.out 0).trans rfl; have hcz46_1 : w42.cell? ⟨gb2, 1, none⟩ = some (.int .i64 0) := (blk_cell BK2.out 1).trans rfl; have hcz46_2 : w42.cell? ⟨gb2, 2, none⟩ = some (.slice none 0 0) := (blk_cell BK2.out 2).trans rfl; have hfz46_0 := blk_frozen BK2.out 0; have hfz46_1 := blk_frozen BK2.out 1; have hfz46_2 := blk_frozen BK2.out 2; obtain ⟨Ao47, co47, eo47⟩ := Kd.S_slice HO458.out; subst eo47))
               go_roundg k4
               case measure => have := HK1.out; have := HK2.out; have := HJ12.out; have := HK4.out; omega
               case rel => exact ⟨(x4_4), (wrap64 (x11_4 + 1)), Ybb_, H', ⟨by have := HK1.out; have := HK2.out; have := HJ12.out; have := HK4.out; omega⟩, ⟨by (with_reducible repeat (first | apply Kd.R_alloc | apply Kd.R_drewN | apply Kd.R_drew)); exact Kd.Ci (Kd.Dk (p := ⟨gb2, 2, none⟩) (Kd.Dk (p := ⟨gb2, 1, none⟩) (Kd.Dk (p := ⟨gb2, 0, none⟩) (Kd.E8 HO_4.out BK2.out (by decide)) (fun _ hk => hk.2) (.slice Ao43 t452.length co43)) (fun _ hk => hk.2) (.int .i64 t455)) (fun _ hk => hk.2) (.slice Ao47 t456.length co47)) (fun _ hk => trivial)⟩, ⟨by (with_reducible repeat (first | apply blk_drewN | apply blk_drew | apply blk_alloc)); refine Be ?_ NB0_2.out _; (with_reducible repeat (first | apply blk_drewN | apply blk_drew | apply blk_alloc)); refine Be ?_ NB0_2.out _; (with_reducible repeat (first | apply blk_drewN | apply blk_drew | apply blk_alloc)); refine Be ?_ NB0_2.out _; (with_reducible repeat (first | apply blk_drewN | apply blk_drew | apply blk_alloc)); exact BK0.out⟩, ⟨by repeat (first | (with_reducible first | exact HB.out | apply below_alloc | apply pw_below_drewN | apply below_drew1 | refine below_set ?_ GE0.out | refine below_set ?_ GE1.out | refine below_set ?_ GE2.out) | exact HB.out)⟩⟩
             ·rw [if_neg c20] at H
              have c20b0 : decide (x11_4 < 6) = false := decide_eq_false c20
              clear c20
              have H' := Aside0.mk H
              clear H
              go_wp2
              go_roundg k4
              case measure => have := HK1.out; have := HK2.out; have := HJ12.out; have := HK4.out; omega
              case rel => exact ⟨(x4_4), (wrap64 (x6_2 + 1)), Ybb_, H', ⟨by have := HK1.out; have := HK2.out; have := HJ12.out; have := HK4.out; omega⟩, ⟨by (with_reducible repeat (first | apply Kd.R_alloc | apply Kd.R_drewN | apply Kd.R_drew)); exact HO_4.out⟩, ⟨by (with_reducible repeat (first | apply blk_drewN | apply blk_drew | apply blk_alloc)); exact BK0.out⟩, ⟨by repeat (first | (with_reducible first | exact HB.out | apply below_alloc | apply pw_below_drewN | apply below_drew1 | refine below_set ?_ GE0.out) | exact HB.out)⟩⟩
       ·rw [if_neg c10] at H
        have c10b0 : decide (x6_2 ≤ 99) = false := decide_eq_false c10
        clear c10
        have H' := Aside0.mk H
        clear H
        go_wp2
        go_roundg k2
        case measure => have := HK1.out; have := HK2.out; omega
        case rel => exact ⟨(x4_2), (wrap64 (x5_1 + 1)), Ybb_, H', ⟨by have := HK1.out; have := HK2.out; omega⟩, ⟨by (with_reducible repeat (first | apply Kd.R_alloc | apply Kd.R_drewN | apply Kd.R_drew)); exact HO_4.out⟩, ⟨by (with_reducible repeat (first | apply blk_drewN | apply blk_drew | apply blk_alloc)); exact BK0.out⟩, ⟨by repeat (first | (with_reducible first | exact HB.out | apply below_alloc | apply pw_below_drewN | apply below_drew1 | refine below_set ?_ GE0.out) | exact HB.out)⟩⟩
    ·rw [if_neg c9] at H
     have c9b0 : decide (x5_1 ≤ 3) = false := decide_eq_false c9
     clear c9
     simp only [Option.some.injEq, Prod.mk.injEq] at H
     obtain ⟨rfl, rfl⟩ := H
     go_wp2
     go_ret2
     exact ⟨_, by first | rfl | (simp [errW_none, errW_some] <;> rfl) | (simp [*, errW_none, errW_some] <;> rfl), by (with_reducible repeat (first | apply Kd.R_alloc | apply Kd.R_drewN | apply Kd.R_drew)); exact HO_4.out, by repeat (first | (with_reducible first | exact HB.out | apply below_alloc | apply pw_below_drewN | apply below_drew1 | refine below_set ?_ GE0.out) | exact HB.out)⟩
 ·replace c3 := Bool.eq_false_iff.mpr c3
  subst c3
  have H1 : (some (y443, false)) = some (r1, r2) := by rw [if_neg (show ¬ (false = true) by decide)] at H; exact H
  clear H
  have H := H1
  clear H1
  simp only [Option.some.injEq, Prod.mk.injEq] at H
  obtain ⟨rfl, rfl⟩ := H
  go_enter Try.func25, Try.ntmps25
  go_wp2_with (first | ((with_reducible refine gate_dst (N := 1) rfl ?_); refine box_event ?hg (N := 1) ?hd (cs := #[.slice A0_0 l0_0.length c0_0, .int .i64 a0_1, .slice A0_2 l0_2.length c0_2]) (t := 34) ?hr ?_; (case hd => rfl); (case hg => rfl); (case hr => first | (go_simp; done) | (go_simp; rfl)); intro gb0 hg w48 hbox hb; have n0_ := Aside0.mk (below_step Yb_ hb); have n1_ := Aside0.mk (hbox); have n2_ := Aside0.mk ((by rw [hg]; exact (below_size Yb_) : w.heap.size ≤ gb0)); have n3_ := Aside0.mk ((by rw [hg]; exact (below_size Yb_) : w.heap.size ≤ gb0)); clear HB; have HB := n0_; have BK0 := n1_; have GW0 := n2_; have GE0 := n3_; clear n0_ n1_ n2_ n3_; clear hb hbox hg) | ((with_reducible refine gate_dst (N := 15) rfl ?_); refine Kd.R_lit k43 _ 43 ?hg (N := 15) ?hd (xs := ([] : List (S43))) (inner := []) (ok := fun _ => True) (okp := fun _ => True) ?hr ?hp (fun _ hk => hk) trivial (Below.refl _ _) (Nat.le_refl _) (by simp) ?_; (case hd => rfl); (case hg => rfl); (case hr => first | (go_simp; done) | (go_simp; rfl)); (case hp => exact (Reps.none _ _)); intro v444 w49 ho50 hb hg_ hnew_; clear hg_ hnew_; (first | rw [← Ny443.out] at ho50 | (simp only [Int.reduceToNat] at ho50; rw [← Ny443.out] at ho50)); have n0_ := Aside0.mk (Kd.R_lower ho50 (below_size Yd_)); have n1_ := Aside0.mk (blk_below (g := gb0) (o := .cells #[.slice A0_0 l0_0.length c0_0, .int .i64 a0_1, .slice A0_2 l0_2.length c0_2] 34 (0, 0)) Yc_ hb); have n2_ := Aside0.mk (below_step Yd_ hb); clear BK0; clear HB; have HO445 := n0_; have BK0 := n1_; have HB := n2_; clear n0_ n1_ n2_; clear hb ho50; have hcz51_0 : w49.cell? ⟨gb0, 0, none⟩ = some (.slice A0_0 l0_0.length c0_0) := (blk_cell BK0.out 0).trans rfl; have hcz51_1 : w49.cell? ⟨gb0, 1, none⟩ = some (.int .i64 a0_1) := (blk_cell BK0.out 1).trans rfl; have hcz51_2 : w49.cell? ⟨gb0, 2, none⟩ = some (.slice A0_2 l0_2.length c0_2) := (blk_cell BK0.out 2).trans rfl; have hfz51_0 := blk_frozen BK0.out 0; have hfz51_1 := blk_frozen BK0.out 1; have hfz51_2 := blk_frozen BK0.out 2) | ((with_reducible refine gate_callee (f := 39) rfl ?_); refine goesL_ (some 17) rfl rfl Try.func39 Yba_ rfl #[.agg #[.slice A0_0 l0_0.length c0_0, .int .i64 a0_1, .slice A0_2 l0_2.length c0_2]] rfl Ye_ ?_; (with_reducible refine (Ac.calls k _ _ l0_0 a0_1 _ _ l0_2 false _ ?side1 ?side2 ?side3 ?side4 A2.out).mono ?_); (case side1 => repeat (first | exact (Kd.C_below HR0_0.out HB.out) | (with_reducible refine Kd.C_alloc ?_ _) | (with_reducible refine Kd.C_drewN ?_ _) | (with_reducible refine Kd.C_drew ?_))); (case side2 => exact HC0_0.out); (case side3 => repeat (first | exact (Kd.C_below HR0_2.out HB.out) | (with_reducible refine Kd.C_alloc ?_ _) | (with_reducible refine Kd.C_drewN ?_ _) | (with_reducible refine Kd.C_drew ?_))); (case side4 => exact HC0_2.out); rintro e w52 ⟨rfl, hb⟩; refine ⟨_, rfl, ?_⟩; have n0_ := Aside0.mk (Kd.Cf Yfc_ hb); have n1_ := Aside0.mk (blk_below (g := gb0) (o := .cells #[.slice A0_0 l0_0.length c0_0, .int .i64 a0_1, .slice A0_2 l0_2.length c0_2] 34 (0, 0)) Yc_ hb); have n2_ := Aside0.mk (below_step Yd_ hb); clear HO445; clear BK0; clear HB; have HO445 := n0_; have BK0 := n1_; have HB := n2_; clear n0_ n1_ n2_; (try clear hb); (try clear hb2); (try clear hk); (try clear hi)))
  go_ret2
  exact ⟨_, by first | rfl | (simp [errW_none, errW_some] <;> rfl) | (simp [*, errW_none, errW_some] <;> rfl), by (with_reducible repeat (first | apply Kd.R_alloc | apply Kd.R_drewN | apply Kd.R_drew)); exact HO445.out, by repeat (first | (with_reducible first | exact HB.out | apply below_alloc | apply pw_below_drewN | apply below_drew1 | refine below_set ?_ GE0.out) | exact HB.out)⟩
mutual
def impl_PossibleOrders.l0 : Nat → List (S43) → Int → List (List Int) → Int → List (List Int) → Option ((List (S43)) × Bool)
 | 0, _, _, _, _, _ => none
 | k + 1, x4, x5, x465000, x465001, x465002 => if x5 ≤ 3 then (impl_PossibleOrders.l1 k x4 x5 1 x465000 x465001 x465002) else (some (x4, true))
def impl_PossibleOrders.l1 : Nat → List (S43) → Int → Int → List (List Int) → Int → List (List Int) → Option ((List (S43)) × Bool)
 | 0, _, _, _, _, _, _ => none
 | k + 1, x4, x5, x6, x465000, x465001, x465002 => if x6 ≤ 99 then (impl_PossibleOrders.l2 k x4 x5 x6 (mx (x465000.length : Int) (x465002.length : Int)) 0 x465000 x465001 x465002) else (impl_PossibleOrders.l0 k x4 (wrap64 (x5 + 1)) x465000 x465001 x465002)
def impl_PossibleOrders.l2 : Nat → List (S43) → Int → Int → Int → Int → List (List Int) → Int → List (List Int) → Option ((List (S43)) × Bool)
 | 0, _, _, _, _, _, _, _, _ => none
 | k + 1, x4, x5, x6, x32, x33, x465000, x465001, x465002 => if x33 < x32 then ((impl_makeOrder.f k x465000 x465001 x465002 x5 x6 x33).bind fun bt470 => (if bt470.2.2.2.2 = true then (if x4.length < 5864062014805 then (impl_PossibleOrders.l2 k (x4 ++ [(⟨x5, x6, x33⟩ : S43)]) x5 x6 x32 (wrap64 (x33 + 1)) x465000 x465001 x465002) else (none)) else (impl_PossibleOrders.l2 k x4 x5 x6 x32 (wrap64 (x33 + 1)) x465000 x465001 x465002))) else (impl_PossibleOrders.l1 k x4 x5 (wrap64 (x6 + 1)) x465000 x465001 x465002)
end
def impl_PossibleOrders.f (k : Nat) (l0_0 : List (List Int)) (a0_1 : Int) (l0_2 : List (List Int)) : Option ((List (S43)) × Bool) := (impl_IsValidTerminal.f k l0_0 a0_1 l0_2).bind fun t465 => (if t465 = true then (impl_PossibleOrders.l0 k (([] : List (S43))) 1 l0_0 a0_1 l0_2) else (some (([] : List (S43)), false)))
theorem impl_PossibleOrders.mono_l : ∀ k, (∀ y0 y1 y2 y3 y4, LeO (impl_PossibleOrders.l0 k y0 y1 y2 y3 y4) (impl_PossibleOrders.l0 (k + 1) y0 y1 y2 y3 y4)) ∧ (∀ y0 y1 y2 y3 y4 y5, LeO (impl_PossibleOrders.l1 k y0 y1 y2 y3 y4 y5) (impl_PossibleOrders.l1 (k + 1) y0 y1 y2 y3 y4 y5)) ∧ (∀ y0 y1 y2 y3 y4 y5 y6 y7, LeO (impl_PossibleOrders.l2 k y0 y1 y2 y3 y4 y5 y6 y7) (impl_PossibleOrders.l2 (k + 1) y0 y1 y2 y3 y4 y5 y6 y7))
 | 0 => ⟨fun _ _ _ _ _ r h => by simp [impl_PossibleOrders.l0] at h, fun _ _ _ _ _ _ r h => by simp [impl_PossibleOrders.l1] at h, fun _ _ _ _ _ _ _ _ r h => by simp [impl_PossibleOrders.l2] at h⟩
 | k + 1 => by
  obtain ⟨ih0, ih1, ih2⟩ := impl_PossibleOrders.mono_l k
  refine ⟨?_, ?_, ?_⟩
  ·intro y0 y1 y2 y3 y4
   unfold impl_PossibleOrders.l0
   repeat' first
   | (with_reducible exact ih0 _ _ _ _ _)
   | (with_reducible exact ih1 _ _ _ _ _ _)
   | (with_reducible exact ih2 _ _ _ _ _ _ _ _)
   | (with_reducible exact impl_IsValidTerminal.mono _ _ _ _)
   | (with_reducible exact impl_makeOrder.mono _ _ _ _ _ _ _)
   | (with_reducible exact LeO.refl _)
   | (with_reducible exact LeO.none _)
   | (with_reducible refine LeO.ite ?_ ?_)
   | (with_reducible refine LeO.bind ?_ (fun _ => ?_))
   | exact ih0 _ _ _ _ _
   | exact ih1 _ _ _ _ _ _
   | exact ih2 _ _ _ _ _ _ _ _
   | exact impl_IsValidTerminal.mono _ _ _ _
   | exact impl_makeOrder.mono _ _ _ _ _ _ _
   | exact LeO.none _
   | refine LeO.ite ?_ ?_
   | refine LeO.bind ?_ (fun _ => ?_)
  ·intro y0 y1 y2 y3 y4 y5
   unfold impl_PossibleOrders.l1
   repeat' first
   | (with_reducible exact ih0 _ _ _ _ _)
   | (with_reducible exact ih1 _ _ _ _ _ _)
   | (with_reducible exact ih2 _ _ _ _ _ _ _ _)
   | (with_reducible exact impl_IsValidTerminal.mono _ _ _ _)
   | (with_reducible exact impl_makeOrder.mono _ _ _ _ _ _ _)
   | (with_reducible exact LeO.refl _)
   | (with_reducible exact LeO.none _)
   | (with_reducible refine LeO.ite ?_ ?_)
   | (with_reducible refine LeO.bind ?_ (fun _ => ?_))
   | exact ih0 _ _ _ _ _
   | exact ih1 _ _ _ _ _ _
   | exact ih2 _ _ _ _ _ _ _ _
   | exact impl_IsValidTerminal.mono _ _ _ _
   | exact impl_makeOrder.mono _ _ _ _ _ _ _
   | exact LeO.none _
   | refine LeO.ite ?_ ?_
   | refine LeO.bind ?_ (fun _ => ?_)
  ·intro y0 y1 y2 y3 y4 y5 y6 y7
   unfold impl_PossibleOrders.l2
   repeat' first
   | (with_reducible exact ih0 _ _ _ _ _)
   | (with_reducible exact ih1 _ _ _ _ _ _)
   | (with_reducible exact ih2 _ _ _ _ _ _ _ _)
   | (with_reducible exact impl_IsValidTerminal.mono _ _ _ _)
   | (with_reducible exact impl_makeOrder.mono _ _ _ _ _ _ _)
   | (with_reducible exact LeO.refl _)
   | (with_reducible exact LeO.none _)
   | (with_reducible refine LeO.ite ?_ ?_)
   | (with_reducible refine LeO.bind ?_ (fun _ => ?_))
   | exact ih0 _ _ _ _ _
   | exact ih1 _ _ _ _ _ _
   | exact ih2 _ _ _ _ _ _ _ _
   | exact impl_IsValidTerminal.mono _ _ _ _
   | exact impl_makeOrder.mono _ _ _ _ _ _ _
   | exact LeO.none _
   | refine LeO.ite ?_ ?_
   | refine LeO.bind ?_ (fun _ => ?_)
theorem impl_PossibleOrders.mono : ∀ a0 a1 a2 k, LeO (impl_PossibleOrders.f k a0 a1 a2) (impl_PossibleOrders.f (k + 1) a0 a1 a2) := by
 intro a0 a1 a2 k
 obtain ⟨ih0, ih1, ih2⟩ := impl_PossibleOrders.mono_l k
 unfold impl_PossibleOrders.f
 repeat' first
   | (with_reducible exact ih0 _ _ _ _ _)
   | (with_reducible exact ih1 _ _ _ _ _ _)
   | (with_reducible exact ih2 _ _ _ _ _ _ _ _)
   | (with_reducible exact impl_IsValidTerminal.mono _ _ _ _)
   | (with_reducible exact impl_makeOrder.mono _ _ _ _ _ _ _)
   | (with_reducible exact LeO.refl _)
   | (with_reducible exact LeO.none _)
   | (with_reducible refine LeO.ite ?_ ?_)
   | (with_reducible refine LeO.bind ?_ (fun _ => ?_))
   | exact ih0 _ _ _ _ _
   | exact ih1 _ _ _ _ _ _
   | exact ih2 _ _ _ _ _ _ _ _
   | exact impl_IsValidTerminal.mono _ _ _ _
   | exact impl_makeOrder.mono _ _ _ _ _ _ _
   | exact LeO.none _
   | refine LeO.ite ?_ ?_
   | refine LeO.bind ?_ (fun _ => ?_)
set_option maxHeartbeats 8000000 in
set_option maxRecDepth 100000 in
theorem impl_PossibleOrders.calls (k : Nat) (A0_0 : Option Addr) (c0_0 : Nat) (l0_0 : List (List Int)) (a0_1 : Int) (A0_2 : Option Addr) (c0_2 : Nat) (l0_2 : List (List Int)) (r1 : List (S43)) (r2 : Bool) (w : World) (hr0_0 : Kd.C (Kd.slice 3 (Kd.int .i64)) w A0_0 l0_0.length l0_0) (hc0_0 : l0_0.length ≤ c0_0) (hr0_2 : Kd.C (Kd.slice 3 (Kd.int .i64)) w A0_2 l0_2.length l0_2) (hc0_2 : l0_2.length ≤ c0_2) (h : impl_PossibleOrders.f k l0_0 a0_1 l0_2 = some (r1, r2)) :
  Calls Try.prog 26 #[.agg #[.slice A0_0 l0_0.length c0_0, .int .i64 a0_1, .slice A0_2 l0_2.length c0_2]] w fun e w' => ∃ v0_ : Value, e = .returned (.tuple #[v0_, .bool r2]) ∧ Kd.R k43 43 w' w.heap.size (fun _ => True) v0_ r1 ∧ Below w.heap.size w w' := by
 have hu34 := Try.underlying34
 have hu43 := Try.underlying43
 have HR0_0 := Aside0.mk hr0_0
 have HC0_0 := Aside0.mk hc0_0
 clear hr0_0 hc0_0
 have HR0_2 := Aside0.mk hr0_2
 have HC0_2 := Aside0.mk hc0_2
 clear hr0_2 hc0_2
 have HB := Aside0.mk (Below.refl w.heap.size w)
 have H : ((impl_IsValidTerminal.f k l0_0 a0_1 l0_2).bind fun t465 => (if t465 = true then (impl_PossibleOrders.l0 k (([] : List (S43))) 1 l0_0 a0_1 l0_2) else (some (([] : List (S43)), false)))) = some (r1, r2) := h
 clear h
 replace H := Option.bind_eq_some_iff.mp H
 obtain ⟨t465, A20, H⟩ := H
 try dsimp only at H
 have A2 := Aside0.mk A20
 clear A20
 by_cases c3 : t465 = true
 ·subst c3
  have H1 : (impl_PossibleOrders.l0 k (([] : List (S43))) 1 l0_0 a0_1 l0_2) = some (r1, r2) := by rw [if_pos rfl] at H; exact H
  clear H
  have H := H1
  clear H1
  obtain ⟨y466, hy466⟩ : ∃ y_ : List (S43), y_ = (([] : List (S43))) := ⟨_, rfl⟩
  replace H : (impl_PossibleOrders.l0 k y466 1 l0_0 a0_1 l0_2) = some (r1, r2) := by first | (rw [hy466]; with_reducible exact H) | (have H2_ := (Option.bind_some _ _).symm.trans H; rw [hy466]; with_reducible exact H2_) | (have H2_ := (Option.bind_some _ _).symm.trans H; with_reducible exact H2_) | with_reducible exact H | (rw [hy466]; exact H) | exact H
  have Ny466 := Aside0.mk hy466
  clear hy466
  have H' := Aside0.mk H
  clear H
  go_enter Try.func26, Try.ntmps26
  go_wp2_with (first | ((with_reducible refine gate_dst (N := 1) rfl ?_); refine box_event ?hg (N := 1) ?hd (cs := #[.slice A0_0 l0_0.length c0_0, .int .i64 a0_1, .slice A0_2 l0_2.length c0_2]) (t := 34) ?hr ?_; (case hd => rfl); (case hg => rfl); (case hr => first | (go_simp; done) | (go_simp; rfl)); intro gb0 hg w4 hbox hb; have n0_ := Aside0.mk (below_step Yb_ hb); have n1_ := Aside0.mk (hbox); have n2_ := Aside0.mk ((by rw [hg]; exact (below_size Yb_) : w.heap.size ≤ gb0)); have n3_ := Aside0.mk ((by rw [hg]; exact (below_size Yb_) : w.heap.size ≤ gb0)); clear HB; have HB := n0_; have BK0 := n1_; have GW0 := n2_; have GE0 := n3_; clear n0_ n1_ n2_ n3_; clear hb hbox hg; have hcz5_0 : w4.cell? ⟨gb0, 0, none⟩ = some (.slice A0_0 l0_0.length c0_0) := (blk_cell BK0.out 0).trans rfl; have hcz5_1 : w4.cell? ⟨gb0, 1, none⟩ = some (.int .i64 a0_1) := (blk_cell BK0.out 1).trans rfl; have hcz5_2 : w4.cell? ⟨gb0, 2, none⟩ = some (.slice A0_2 l0_2.length c0_2) := (blk_cell BK0.out 2).trans rfl; have hfz5_0 := blk_frozen BK0.out 0; have hfz5_1 := blk_frozen BK0.out 1; have hfz5_2 := blk_frozen BK0.out 2) | ((with_reducible refine gate_callee (f := 13) rfl ?_); refine goesL_ (some 13) rfl rfl Try.func13 Yba_ rfl #[.agg #[.slice A0_0 l0_0.length c0_0, .int .i64 a0_1, .slice A0_2 l0_2.length c0_2]] rfl Ye_ ?_; (with_reducible refine (impl_IsValidTerminal.calls k _ _ l0_0 a0_1 _ _ l0_2 true _ ?side1 ?side2 ?side3 ?side4 A2.out).mono ?_); (case side1 => repeat (first | exact (Kd.C_below HR0_0.out HB.out) | (with_reducible refine Kd.C_alloc ?_ _) | (with_reducible refine Kd.C_drewN ?_ _) | (with_reducible refine Kd.C_drew ?_))); (case side2 => exact HC0_0.out); (case side3 => repeat (first | exact (Kd.C_below HR0_2.out HB.out) | (with_reducible refine Kd.C_alloc ?_ _) | (with_reducible refine Kd.C_drewN ?_ _) | (with_reducible refine Kd.C_drew ?_))); (case side4 => exact HC0_2.out); rintro e w6 ⟨rfl, hb⟩; refine ⟨_, rfl, ?_⟩; have n0_ := Aside0.mk (blk_below (g := gb0) (o := .cells #[.slice A0_0 l0_0.length c0_0, .int .i64 a0_1, .slice A0_2 l0_2.length c0_2] 34 (0, 0)) Yc_ hb); have n1_ := Aside0.mk (below_step Yd_ hb); clear BK0; clear HB; have BK0 := n0_; have HB := n1_; clear n0_ n1_; (try clear hb); (try clear hb2); (try clear hk); (try clear hi)) | ((with_reducible refine gate_dst (N := 15) rfl ?_); refine Kd.R_lit k43 _ 43 ?hg (N := 15) ?hd (xs := ([] : List (S43))) (inner := []) (ok := fun _ => True) (okp := fun _ => True) ?hr ?hp (fun _ hk => hk) trivial (Below.refl _ _) (Nat.le_refl _) (by simp) ?_; (case hd => rfl); (case hg => rfl); (case hr => first | (go_simp; done) | (go_simp; rfl)); (case hp => exact (Reps.none _ _)); intro v467 w7 ho8 hb hg_ hnew_; clear hg_ hnew_; (first | rw [← Ny466.out] at ho8 | (simp only [Int.reduceToNat] at ho8; rw [← Ny466.out] at ho8)); have n0_ := Aside0.mk (Kd.R_lower ho8 (below_size Yd_)); have n1_ := Aside0.mk (blk_below (g := gb0) (o := .cells #[.slice A0_0 l0_0.length c0_0, .int .i64 a0_1, .slice A0_2 l0_2.length c0_2] 34 (0, 0)) Yc_ hb); have n2_ := Aside0.mk (below_step Yd_ hb); clear BK0; clear HB; have HO468 := n0_; have BK0 := n1_; have HB := n2_; clear n0_ n1_ n2_; clear hb ho8))
  go_loopg [4, 5] k (fun kq v4 v5 w' => ∃ (x4_1 : List (S43)) (x5_1 : Int), v5 = .int .i64 x5_1 ∧ Aside0 (impl_PossibleOrders.l0 kq x4_1 x5_1 l0_0 a0_1 l0_2 = some (r1, r2)) ∧ Aside0 (kq ≤ k) ∧ Aside0 (Kd.R k43 43 w' w.heap.size (fun _ => True) v4 x4_1) ∧ Aside0 (w'.heap[gb0]? = some (.cells #[(.slice A0_0 l0_0.length c0_0), .int .i64 a0_1, (.slice A0_2 l0_2.length c0_2)] 34 (0, 0))) ∧ Aside0 (Below w.heap.size w w'))
  case atStart => exact ⟨(y466), (1), Ybb_, H', ⟨Nat.le_refl _⟩, ⟨by (with_reducible repeat (first | apply Kd.R_alloc | apply Kd.R_drewN | apply Kd.R_drew)); exact HO468.out⟩, ⟨by (with_reducible repeat (first | apply blk_drewN | apply blk_drew | apply blk_alloc)); exact BK0.out⟩, ⟨by repeat (first | (with_reducible first | exact HB.out | apply below_alloc | apply pw_below_drewN | apply below_drew1 | refine below_set ?_ GE0.out) | exact HB.out)⟩⟩
  case round =>
   clear H'
   try clear c1; try clear c2; try clear p2; try clear c3; try clear hcz5_0; try clear hcz5_1; try clear hcz5_2; try clear hfz5_0; try clear hfz5_1; try clear hfz5_2
   obtain ⟨x4_1, x5_1, rfl, HA, HK1, HO_4, BK0, HB⟩ := hrel
   cases gk with
   | zero => exact absurd HA.out (by simp [impl_PossibleOrders.l0])
   | succ k1 =>
    have H := HA.out
    clear HA
    simp only [impl_PossibleOrders.l0] at H
    by_cases c9 : x5_1 ≤ 3
    ·rw [if_pos c9] at H
     have c9b0 : decide (x5_1 ≤ 3) = true := decide_eq_true c9
     clear c9
     have H' := Aside0.mk H
     clear H
     go_wp2
     go_loopg [4, 6] k1 (fun kq v4 v6 w' => ∃ (x4_2 : List (S43)) (x6_2 : Int), v6 = .int .i64 x6_2 ∧ Aside0 (impl_PossibleOrders.l1 kq x4_2 x5_1 x6_2 l0_0 a0_1 l0_2 = some (r1, r2)) ∧ Aside0 (kq ≤ k1) ∧ Aside0 (Kd.R k43 43 w' w.heap.size (fun _ => True) v4 x4_2) ∧ Aside0 (w'.heap[gb0]? = some (.cells #[(.slice A0_0 l0_0.length c0_0), .int .i64 a0_1, (.slice A0_2 l0_2.length c0_2)] 34 (0, 0))) ∧ Aside0 (Below w.heap.size w w'))
     case atStart => exact ⟨(x4_1), (1), Ybb_, H', ⟨Nat.le_refl _⟩, ⟨by (with_reducible repeat (first | apply Kd.R_alloc | apply Kd.R_drewN | apply Kd.R_drew)); exact HO_4.out⟩, ⟨by (with_reducible repeat (first | apply blk_drewN | apply blk_drew | apply blk_alloc)); exact BK0.out⟩, ⟨by repeat (first | (with_reducible first | exact HB.out | apply below_alloc | apply pw_below_drewN | apply below_drew1 | refine below_set ?_ GE0.out) | exact HB.out)⟩⟩
     case round =>
      clear H'
      try clear c1; try clear c2; try clear p2; try clear c3; try clear c9; try clear c9b0; try clear hcz5_0; try clear hcz5_1; try clear hcz5_2; try clear hfz5_0; try clear hfz5_1; try clear hfz5_2; try clear p2
      obtain ⟨x4_2, x6_2, rfl, HA, HK2, HO_4, BK0, HB⟩ := hrel
      cases gk with
      | zero => exact absurd HA.out (by simp [impl_PossibleOrders.l1])
      | succ k2 =>
       have H := HA.out
       clear HA
       simp only [impl_PossibleOrders.l1] at H
       by_cases c10 : x6_2 ≤ 99
       ·rw [if_pos c10] at H
        have c10b0 : decide (x6_2 ≤ 99) = true := decide_eq_true c10
        clear c10
        obtain ⟨ji11, hji11⟩ : ∃ j_ : Int, (mx (l0_0.length : Int) (l0_2.length : Int)) = j_ := ⟨_, rfl⟩
        replace H : (impl_PossibleOrders.l2 k2 x4_2 x5_1 x6_2 ji11 0 l0_0 a0_1 l0_2) = some (r1, r2) := by first | (rw [hji11] at H; exact H) | (simp only [hji11] at H ⊢; exact H)
        have hji11_ : (if (l0_0.length : Int) < (l0_2.length : Int) then (l0_2.length : Int) else (l0_0.length : Int)) = ji11 := hji11
        have hji11n_ : (if l0_0.length < l0_2.length then (l0_2.length : Int) else (l0_0.length : Int)) = ji11 := by rw [← hji11_]; simp only [Int.ofNat_lt]
        have H' := Aside0.mk H
        clear H
        have hcz12_0 : wr.cell? ⟨gb0, 0, none⟩ = some (.slice A0_0 l0_0.length c0_0) := (blk_cell BK0.out 0).trans rfl
        have hcz12_1 : wr.cell? ⟨gb0, 1, none⟩ = some (.int .i64 a0_1) := (blk_cell BK0.out 1).trans rfl
        have hcz12_2 : wr.cell? ⟨gb0, 2, none⟩ = some (.slice A0_2 l0_2.length c0_2) := (blk_cell BK0.out 2).trans rfl
        have hfz12_0 := blk_frozen BK0.out 0
        have hfz12_1 := blk_frozen BK0.out 1
        have hfz12_2 := blk_frozen BK0.out 2
        go_wp2
        go_loopg [4, 33] k2 (fun kq v4 v33 w' => ∃ (x4_3 : List (S43)) (x33_3 : Int), v33 = .int .i64 x33_3 ∧ Aside0 (impl_PossibleOrders.l2 kq x4_3 x5_1 x6_2 ji11 x33_3 l0_0 a0_1 l0_2 = some (r1, r2)) ∧ Aside0 (kq ≤ k2) ∧ Aside0 (Kd.R k43 43 w' w.heap.size (fun _ => True) v4 x4_3) ∧ Aside0 (w'.heap[gb0]? = some (.cells #[(.slice A0_0 l0_0.length c0_0), .int .i64 a0_1, (.slice A0_2 l0_2.length c0_2)] 34 (0, 0))) ∧ Aside0 (Below w.heap.size w w'))
        case atStart => exact ⟨(x4_2), (0), Ybb_, H', ⟨Nat.le_refl _⟩, ⟨by (with_reducible repeat (first | apply Kd.R_alloc | apply Kd.R_drewN | apply Kd.R_drew)); exact HO_4.out⟩, ⟨by (with_reducible repeat (first | apply blk_drewN | apply blk_drew | apply blk_alloc)); exact BK0.out⟩, ⟨by repeat (first | (with_reducible first | exact HB.out | apply below_alloc | apply pw_below_drewN | apply below_drew1 | refine below_set ?_ GE0.out) | exact HB.out)⟩⟩
        case round =>
         clear H'
         try clear c1; try clear c2; try clear p2; try clear c3; try clear c9; try clear c9b0; try clear c10; try clear c10b0; try clear hcz12_0; try clear hcz12_1; try clear hcz12_2; try clear hcz5_0; try clear hcz5_1; try clear hcz5_2; try clear hfz12_0; try clear hfz12_1; try clear hfz12_2; try clear hfz5_0; try clear hfz5_1; try clear hfz5_2; try clear p2
         obtain ⟨x4_3, x33_3, rfl, HA, HK3, HO_4, BK0, HB⟩ := hrel
         cases gk with
         | zero => exact absurd HA.out (by simp [impl_PossibleOrders.l2])
         | succ k3 =>
          have H := HA.out
          clear HA
          simp only [impl_PossibleOrders.l2] at H
          by_cases c13 : x33_3 < ji11
          ·rw [if_pos c13] at H
           have c13b0 : decide (x33_3 < ji11) = true := decide_eq_true c13
           clear c13
           replace H := Option.bind_eq_some_iff.mp H
           obtain ⟨⟨t470, t473, t474, t477, t478⟩, A140, H⟩ := H
           try dsimp only at H
           have A14 := Aside0.mk A140
           clear A140
           by_cases c15 : t478 = true
           ·subst c15
            have H1 : (if x4_3.length < 5864062014805 then (impl_PossibleOrders.l2 k3 (x4_3 ++ [(⟨x5_1, x6_2, x33_3⟩ : S43)]) x5_1 x6_2 ji11 (wrap64 (x33_3 + 1)) l0_0 a0_1 l0_2) else (none)) = some (r1, r2) := by rw [if_pos rfl] at H; exact H
            clear H
            have H := H1
            clear H1
            by_cases c16 : x4_3.length < 5864062014805
            ·rw [if_pos c16] at H
             have LMc16 := Aside0.mk c16
             clear c16
             obtain ⟨y480, hy480⟩ : ∃ y_ : List (S43), y_ = (x4_3 ++ [(⟨x5_1, x6_2, x33_3⟩ : S43)]) := ⟨_, rfl⟩
             replace H : (impl_PossibleOrders.l2 k3 y480 x5_1 x6_2 ji11 (wrap64 (x33_3 + 1)) l0_0 a0_1 l0_2) = some (r1, r2) := by first | (rw [hy480]; with_reducible exact H) | (have H2_ := (Option.bind_some _ _).symm.trans H; rw [hy480]; with_reducible exact H2_) | (have H2_ := (Option.bind_some _ _).symm.trans H; with_reducible exact H2_) | with_reducible exact H | (rw [hy480]; exact H) | exact H
             have Ny480 := Aside0.mk hy480
             clear hy480
             have H' := Aside0.mk H
             clear H
             go_wp2_with (first | ((with_reducible refine gate_dst (N := 8) rfl ?_); refine box_event ?hg (N := 8) ?hd (cs := #[.int .i64 0, .int .i64 0, .int .i64 0]) (t := 43) ?hr ?_; (case hd => rfl); (case hg => rfl); (case hr => first | (go_simp; done) | (go_simp; rfl)); intro gb1 hg w17 hbox hb; have n0_ := Aside0.mk (Kd.Cf (Kd.R_elderB Ybi_ gb1 (Nat.le_of_eq hg.symm)) hb); have n1_ := Aside0.mk (blk_below (g := gb0) (o := .cells #[.slice A0_0 l0_0.length c0_0, .int .i64 a0_1, .slice A0_2 l0_2.length c0_2] 34 (0, 0)) Yc_ hb); have n2_ := Aside0.mk (below_step Yd_ hb); have n3_ := Aside0.mk (hbox); have n4_ := Aside0.mk ((by rw [hg]; exact (below_size Yd_) : w.heap.size ≤ gb1)); have n5_ := Aside0.mk ((by rw [hg]; exact (below_size Yd_) : w.heap.size ≤ gb1)); have n6_ := Aside0.mk ((by rw [hg]; exact Nat.ne_of_lt (blk_lt (g := gb0) (o := .cells #[.slice A0_0 l0_0.length c0_0, .int .i64 a0_1, .slice A0_2 l0_2.length c0_2] 34 (0, 0)) Yc_) : gb0 ≠ gb1)); have n7_ := Aside0.mk ((by rw [hg]; exact Nat.ne_of_gt (blk_lt (g := gb0) (o := .cells #[.slice A0_0 l0_0.length c0_0, .int .i64 a0_1, .slice A0_2 l0_2.length c0_2] 34 (0, 0)) Yc_) : gb1 ≠ gb0)); clear HO_4; clear BK0; clear HB; have HO_4 := n0_; have BK0 := n1_; have HB := n2_; have BK1 := n3_; have GW1 := n4_; have GE1 := n5_; have NB0_1 := n6_; have NB1_0 := n7_; clear n0_ n1_ n2_ n3_ n4_ n5_ n6_ n7_; clear hb hbox hg; have hnb18 := NB1_0.out; have hnc18 := NB0_1.out; have hcz19_0 : w17.cell? ⟨gb1, 0, none⟩ = some (.int .i64 0) := (blk_cell BK1.out 0).trans rfl; have hcz19_1 : w17.cell? ⟨gb1, 1, none⟩ = some (.int .i64 0) := (blk_cell BK1.out 1).trans rfl; have hcz19_2 : w17.cell? ⟨gb1, 2, none⟩ = some (.int .i64 0) := (blk_cell BK1.out 2).trans rfl; have hfz19_0 := blk_frozen BK1.out 0; have hfz19_1 := blk_frozen BK1.out 1; have hfz19_2 := blk_frozen BK1.out 2; have hcz20_0 : w17.cell? ⟨gb0, 0, none⟩ = some (.slice A0_0 l0_0.length c0_0) := (blk_cell BK0.out 0).trans rfl; have hcz20_1 : w17.cell? ⟨gb0, 1, none⟩ = some (.int .i64 a0_1) := (blk_cell BK0.out 1).trans rfl; have hcz20_2 : w17.cell? ⟨gb0, 2, none⟩ = some (.slice A0_2 l0_2.length c0_2) := (blk_cell BK0.out 2).trans rfl; have hfz20_0 := blk_frozen BK0.out 0; have hfz20_1 := blk_frozen BK0.out 1; have hfz20_2 := blk_frozen BK0.out 2) | ((with_reducible refine gate_callee (f := 50) rfl ?_); refine goesL_ (some 43) rfl rfl Try.func50 Yba_ rfl #[.agg #[.slice A0_0 l0_0.length c0_0, .int .i64 a0_1, .slice A0_2 l0_2.length c0_2], .agg #[.int .i64 x5_1, .int .i64 x6_2, .int .i64 x33_3]] rfl Ye_ ?_; (with_reducible refine (impl_makeOrder.calls k3 _ _ l0_0 a0_1 _ _ l0_2 x5_1 x6_2 x33_3 t470 t473 t474 t477 true _ ?side1 ?side2 ?side3 ?side4 A14.out).mono ?_); (case side1 => exact Kd.C_below HR0_0.out Yf_); (case side2 => exact HC0_0.out); (case side3 => exact Kd.C_below HR0_2.out Yf_); (case side4 => exact HC0_2.out); rintro e w21 ⟨v471, v475, rfl, ho0, ho1, hb⟩; refine ⟨_, rfl, ?_⟩; have n0_ := Aside0.mk (Kd.Cf Yda_ hb); have n1_ := Aside0.mk (Kd.S_lower ho0 (below_size Yf_)); have n2_ := Aside0.mk (Kd.S_lower ho1 (below_size Yf_)); have n3_ := Aside0.mk (blk_below (g := gb0) (o := .cells #[.slice A0_0 l0_0.length c0_0, .int .i64 a0_1, .slice A0_2 l0_2.length c0_2] 34 (0, 0)) Ybf_ hb); have n4_ := Aside0.mk (blk_below (g := gb1) (o := .cells #[.int .i64 x5_1, .int .i64 x6_2, .int .i64 x33_3] 43 (0, 0)) Ybe_ hb); have n5_ := Aside0.mk (below_step Yf_ hb); clear HO_4; clear BK0; clear BK1; clear HB; have HO_4 := n0_; have HO472 := n1_; have HO476 := n2_; have BK0 := n3_; have BK1 := n4_; have HB := n5_; clear n0_ n1_ n2_ n3_ n4_ n5_; (try clear hb); (try clear hb2); (try clear hk); (try clear hi); (try clear ho0); (try clear ho1)) | ((with_reducible refine gate_dst (N := 9) rfl ?_); refine box_event ?hg (N := 9) ?hd (cs := #[.slice none 0 0, .int .i64 0, .slice none 0 0]) (t := 34) ?hr ?_; (case hd => rfl); (case hg => rfl); (case hr => first | (go_simp; done) | (go_simp; rfl)); intro gb2 hg w22 hbox hb; have n0_ := Aside0.mk (Kd.Cf Ybi_ hb); have n1_ := Aside0.mk (Kd.Ak Yff_ hb); have n2_ := Aside0.mk (Kd.Ak Yfg_ hb); have n3_ := Aside0.mk (blk_below (g := gb0) (o := .cells #[.slice A0_0 l0_0.length c0_0, .int .i64 a0_1, .slice A0_2 l0_2.length c0_2] 34 (0, 0)) Yc_ hb); have n4_ := Aside0.mk (blk_below (g := gb1) (o := .cells #[.int .i64 x5_1, .int .i64 x6_2, .int .i64 x33_3] 43 (0, 0)) Yi_ hb); have n5_ := Aside0.mk (below_step Yf_ hb); have n6_ := Aside0.mk (hbox); have n7_ := Aside0.mk ((by rw [hg]; exact (below_size Yf_) : w.heap.size ≤ gb2)); have n8_ := Aside0.mk ((by rw [hg]; exact (below_size Yf_) : w.heap.size ≤ gb2)); have n9_ := Aside0.mk ((by rw [hg]; exact Nat.ne_of_lt (blk_lt (g := gb0) (o := .cells #[.slice A0_0 l0_0.length c0_0, .int .i64 a0_1, .slice A0_2 l0_2.length c0_2] 34 (0, 0)) Yc_) : gb0 ≠ gb2)); have n10_ := Aside0.mk ((by rw [hg]; exact Nat.ne_of_gt (blk_lt (g := gb0) (o := .cells #[.slice A0_0 l0_0.length c0_0, .int .i64 a0_1, .slice A0_2 l0_2.length c0_2] 34 (0, 0)) Yc_) : gb2 ≠ gb0)); have n11_ := Aside0.mk ((by rw [hg]; exact Nat.ne_of_lt (blk_lt (g := gb1) (o := .cells #[.int .i64 x5_1, .int .i64 x6_2, .int .i64 x33_3] 43 (0, 0)) Yi_) : gb1 ≠ gb2)); have n12_ := Aside0.mk ((by rw [hg]; exact Nat.ne_of_gt (blk_lt (g := gb1) (o := .cells #[.int .i64 x5_1, .int .i64 x6_2, .int .i64 x33_3] 43 (0, 0)) Yi_) : gb2 ≠ gb1)); clear HO_4; clear HO472; clear HO476; clear BK0; clear BK1; clear HB; have HO_4 := n0_; have HO472 := n1_; have HO476 := n2_; have BK0 := n3_; have BK1 := n4_; have HB := n5_; have BK2 := n6_; have GW2 := n7_; have GE2 := n8_; have NB0_2 := n9_; have NB2_0 := n10_; have NB1_2 := n11_; have NB2_1 := n12_; clear n0_ n1_ n2_ n3_ n4_ n5_ n6_ n7_ n8_ n9_ n10_ n11_ n12_; clear hb hbox hg; obtain ⟨Ao23, co23, eo23⟩ := Kd.S_slice HO472.out; subst eo23; have hnb24 := NB2_0.out; have hnc24 := NB0_2.out; have hnb25 := NB2_1.out; have hnc25 := NB1_2.out; have hcz26_0 : w22.cell? ⟨gb2, 0, none⟩ = some (.slice none 0 0) := (blk_cell BK2.out 0).trans rfl; have hcz26_1 : w22.cell? ⟨gb2, 1, none⟩ = some (.int .i64 0) := (blk_cell BK2.out 1).trans rfl; have hcz26_2 : w22.cell? ⟨gb2, 2, none⟩ = some (.slice none 0 0) := (blk_cell BK2.out 2).trans rfl; have hfz26_0 := blk_frozen BK2.out 0; have hfz26_1 := blk_frozen BK2.out 1; have hfz26_2 := blk_frozen BK2.out 2; obtain ⟨Ao27, co27, eo27⟩ := Kd.S_slice HO476.out; subst eo27; have hcz28_0 : w22.cell? ⟨gb1, 0, none⟩ = some (.int .i64 x5_1) := (blk_cell BK1.out 0).trans rfl; have hcz28_1 : w22.cell? ⟨gb1, 1, none⟩ = some (.int .i64 x6_2) := (blk_cell BK1.out 1).trans rfl; have hcz28_2 : w22.cell? ⟨gb1, 2, none⟩ = some (.int .i64 x33_3) := (blk_cell BK1.out 2).trans rfl; have hfz28_0 := blk_frozen BK1.out 0; have hfz28_1 := blk_frozen BK1.out 1; have hfz28_2 := blk_frozen BK1.out 2) | ((with_reducible refine Em (b := .append) (xs := #[.tmp 48, .tmp 50]) rfl ?_); at_builtin; refine Kd.R_append k43 (w0 := w) w.heap.size rfl (.tmp 48) (.tmp 50) 52 43 (.agg #[(.int .i64 0), (.int .i64 0), (.int .i64 0)]) 24 rfl Try.underlying52 info43 rfl (by decide) (by omega) u4 x4_3 (⟨x5_1, x6_2, x33_3⟩ : S43) [.int .i64 x5_1, .int .i64 x6_2, .int .i64 x33_3] (fun k_ => k_ ≠ gb1) (fun _ => False) rfl (by first | (go_simp; done) | (go_simp; rfl)) ?aP (fun _ hk => hk.elim) ?aF ?aO ?aB ?aS ?aL ?_; (case aP => exact k43_mkM _ _ _ (⟨x5_1, x6_2, x33_3⟩ : S43)); (case aB => exact Yh_); (case aF => exact (fun k_ hk => Kd.freshB (g := gb1) (o := .cells #[.int .i64 x5_1, .int .i64 x6_2, .int .i64 x33_3] 43 (0, 0)) Ybg_ k_ hk)); (case aO => exact (by (with_reducible repeat (first | apply Kd.R_alloc | apply Kd.R_drewN | apply Kd.R_drew)); exact Kd.Ci (Kd.Dk (p := ⟨gb2, 2, none⟩) (Kd.Dk (p := ⟨gb2, 1, none⟩) (Kd.Dk (p := ⟨gb2, 0, none⟩) (Kd.E8 HO_4.out BK2.out (by decide)) (fun _ hk => hk.2) (.slice Ao23 t470.length co23)) (fun _ hk => hk.2) (.int .i64 t473)) (fun _ hk => hk.2) (.slice Ao27 t474.length co27)) (fun _ hk => hk.1.2))); (case aS => exact (below_size Yh_)); (case aL => have := LMc16.out; omega); intro v481 w29 ho hb hg hat; rw [← Ny480.out] at ho; have n0_ := Aside0.mk (Cj (g := gb0) (o := .cells #[.slice A0_0 l0_0.length c0_0, .int .i64 a0_1, .slice A0_2 l0_2.length c0_2] 34 (0, 0)) Ycf_ hg (Kd.R_ne HO_4.out BK0.out (by decide))); have n1_ := Aside0.mk (Cj (g := gb1) (o := .cells #[.int .i64 x5_1, .int .i64 x6_2, .int .i64 x33_3] 43 (0, 0)) Ybg_ hg (Kd.R_away HO_4.out (fun _ hk => hk.2))); have n2_ := Aside0.mk (Kd.S_over' (by (with_reducible repeat (first | apply Kd.S_alloc | apply Kd.S_drewN | apply Kd.S_drew)); exact (Kd.S_mono (Kd.S_far (p := ⟨gb2, 2, none⟩) (Kd.S_far (p := ⟨gb2, 1, none⟩) (Kd.S_far (p := ⟨gb2, 0, none⟩) (Kd.S_types HO472.out BK2.out (by decide)) (fun _ hk => hk.2) (.slice Ao23 t470.length co23)) (fun _ hk => hk.2) (.int .i64 t473)) (fun _ hk => hk.2) (.slice Ao27 t474.length co27)) (fun _ h_ => h_.1))) (Kd.R_typed Ydc_) (by decide) hg); have n3_ := Aside0.mk (Kd.S_over' (by (with_reducible repeat (first | apply Kd.S_alloc | apply Kd.S_drewN | apply Kd.S_drew)); exact (Kd.S_mono (Kd.S_far (p := ⟨gb2, 2, none⟩) (Kd.S_far (p := ⟨gb2, 1, none⟩) (Kd.S_far (p := ⟨gb2, 0, none⟩) (Kd.S_types HO476.out BK2.out (by decide)) (fun _ hk => hk.2) (.slice Ao23 t470.length co23)) (fun _ hk => hk.2) (.int .i64 t473)) (fun _ hk => hk.2) (.slice Ao27 t474.length co27)) (fun _ h_ => h_.1))) (Kd.R_typed Ydc_) (by decide) hg); have n4_ := Aside0.mk (Cj (g := gb2) (o := .cells #[.slice Ao23 t470.length co23, .int .i64 t473, .slice Ao27 t474.length co27] 34 (0, 0)) (by (with_reducible repeat (first | apply blk_drewN | apply blk_drew | apply blk_alloc)); refine blk_put (cs := #[.slice Ao23 t470.length co23, .int .i64 t473, .slice none 0 0]) ?_ 2 _ rfl; (with_reducible repeat (first | apply blk_drewN | apply blk_drew | apply blk_alloc)); refine blk_put (cs := #[.slice Ao23 t470.length co23, .int .i64 0, .slice none 0 0]) ?_ 1 _ rfl; (with_reducible repeat (first | apply blk_drewN | apply blk_drew | apply blk_alloc)); refine blk_put (cs := #[.slice none 0 0, .int .i64 0, .slice none 0 0]) ?_ 0 _ rfl; (with_reducible repeat (first | apply blk_drewN | apply blk_drew | apply blk_alloc)); exact BK2.out) hg (Kd.R_ne HO_4.out BK2.out (by decide))); have n5_ := Aside0.mk (hb); have n6_ := Aside0.mk (ho); clear BK0; clear BK1; clear HO472; clear HO476; clear BK2; clear HB; clear HO_4; have BK0 := n0_; have BK1 := n1_; have HO472 := n2_; have HO476 := n3_; have BK2 := n4_; have HB := n5_; have HO482 := n6_; clear n0_ n1_ n2_ n3_ n4_ n5_ n6_; clear ho hb hg hat))
             go_roundg k3
             case measure => have := HK1.out; have := HK2.out; have := HK3.out; omega
             case rel => exact ⟨(y480), (wrap64 (x33_3 + 1)), Ybb_, H', ⟨by have := HK1.out; have := HK2.out; have := HK3.out; omega⟩, ⟨by (with_reducible repeat (first | apply Kd.R_alloc | apply Kd.R_drewN | apply Kd.R_drew)); exact Kd.Ci HO482.out (fun _ hk => trivial)⟩, ⟨by (with_reducible repeat (first | apply blk_drewN | apply blk_drew | apply blk_alloc)); exact BK0.out⟩, ⟨by repeat (first | (with_reducible first | exact HB.out | apply below_alloc | apply pw_below_drewN | apply below_drew1 | refine below_set ?_ GE0.out | refine below_set ?_ GE1.out | refine below_set ?_ GE2.out) | exact HB.out)⟩⟩
            ·rw [if_neg c16] at H
             exact absurd H (by simp)
           ·replace c15 := Bool.eq_false_iff.mpr c15
            subst c15
            have H1 : (impl_PossibleOrders.l2 k3 x4_3 x5_1 x6_2 ji11 (wrap64 (x33_3 + 1)) l0_0 a0_1 l0_2) = some (r1, r2) := by rw [if_neg (show ¬ (false = true) by decide)] at H; exact H
            clear H
            have H := H1
            clear H1
            have H' := Aside0.mk H
            clear H
            go_wp2_with (first | ((with_reducible refine gate_dst (N := 8) rfl ?_); refine box_event ?hg (N := 8) ?hd (cs := #[.int .i64 0, .int .i64 0, .int .i64 0]) (t := 43) ?hr ?_; (case hd => rfl); (case hg => rfl); (case hr => first | (go_simp; done) | (go_simp; rfl)); intro gb1 hg w30 hbox hb; have n0_ := Aside0.mk (Kd.Cf (Kd.R_elderB Ybi_ gb1 (Nat.le_of_eq hg.symm)) hb); have n1_ := Aside0.mk (blk_below (g := gb0) (o := .cells #[.slice A0_0 l0_0.length c0_0, .int .i64 a0_1, .slice A0_2 l0_2.length c0_2] 34 (0, 0)) Yc_ hb); have n2_ := Aside0.mk (below_step Yd_ hb); have n3_ := Aside0.mk (hbox); have n4_ := Aside0.mk ((by rw [hg]; exact (below_size Yd_) : w.heap.size ≤ gb1)); have n5_ := Aside0.mk ((by rw [hg]; exact (below_size Yd_) : w.heap.size ≤ gb1)); have n6_ := Aside0.mk ((by rw [hg]; exact Nat.ne_of_lt (blk_lt (g := gb0) (o := .cells #[.slice A0_0 l0_0.length c0_0, .int .i64 a0_1, .slice A0_2 l0_2.length c0_2] 34 (0, 0)) Yc_) : gb0 ≠ gb1)); have n7_ := Aside0.mk ((by rw [hg]; exact Nat.ne_of_gt (blk_lt (g := gb0) (o := .cells #[.slice A0_0 l0_0.length c0_0, .int .i64 a0_1, .slice A0_2 l0_2.length c0_2] 34 (0, 0)) Yc_) : gb1 ≠ gb0)); clear HO_4; clear BK0; clear HB; have HO_4 := n0_; have BK0 := n1_; have HB := n2_; have BK1 := n3_; have GW1 := n4_; have GE1 := n5_; have NB0_1 := n6_; have NB1_0 := n7_; clear n0_ n1_ n2_ n3_ n4_ n5_ n6_ n7_; clear hb hbox hg; have hnb31 := NB1_0.out; have hnc31 := NB0_1.out; have hcz32_0 : w30.cell? ⟨gb1, 0, none⟩ = some (.int .i64 0) := (blk_cell BK1.out 0).trans rfl; have hcz32_1 : w30.cell? ⟨gb1, 1, none⟩ = some (.int .i64 0) := (blk_cell BK1.out 1).trans rfl; have hcz32_2 : w30.cell? ⟨gb1, 2, none⟩ = some (.int .i64 0) := (blk_cell BK1.out 2).trans rfl; have hfz32_0 := blk_frozen BK1.out 0; have hfz32_1 := blk_frozen BK1.out 1; have hfz32_2 := blk_frozen BK1.out 2; have hcz33_0 : w30.cell? ⟨gb0, 0, none⟩ = some (.slice A0_0 l0_0.length c0_0) := (blk_cell BK0.out 0).trans rfl; have hcz33_1 : w30.cell? ⟨gb0, 1, none⟩ = some (.int .i64 a0_1) := (blk_cell BK0.out 1).trans rfl; have hcz33_2 : w30.cell? ⟨gb0, 2, none⟩ = some (.slice A0_2 l0_2.length c0_2) := (blk_cell BK0.out 2).trans rfl; have hfz33_0 := blk_frozen BK0.out 0; have hfz33_1 := blk_frozen BK0.out 1; have hfz33_2 := blk_frozen BK0.out 2) | ((with_reducible refine gate_callee (f := 50) rfl ?_); refine goesL_ (some 43) rfl rfl Try.func50 Yba_ rfl #[.agg #[.slice A0_0 l0_0.length c0_0, .int .i64 a0_1, .slice A0_2 l0_2.length c0_2], .agg #[.int .i64 x5_1, .int .i64 x6_2, .int .i64 x33_3]] rfl Ye_ ?_; (with_reducible refine (impl_makeOrder.calls k3 _ _ l0_0 a0_1 _ _ l0_2 x5_1 x6_2 x33_3 t470 t473 t474 t477 false _ ?side1 ?side2 ?side3 ?side4 A14.out).mono ?_); (case side1 => exact Kd.C_below HR0_0.out Yf_); (case side2 => exact HC0_0.out); (case side3 => exact Kd.C_below HR0_2.out Yf_); (case side4 => exact HC0_2.out); rintro e w34 ⟨v471, v475, rfl, ho0, ho1, hb⟩; refine ⟨_, rfl, ?_⟩; have n0_ := Aside0.mk (Kd.Cf Yda_ hb); have n1_ := Aside0.mk (Kd.S_lower ho0 (below_size Yf_)); have n2_ := Aside0.mk (Kd.S_lower ho1 (below_size Yf_)); have n3_ := Aside0.mk (blk_below (g := gb0) (o := .cells #[.slice A0_0 l0_0.length c0_0, .int .i64 a0_1, .slice A0_2 l0_2.length c0_2] 34 (0, 0)) Ybf_ hb); have n4_ := Aside0.mk (blk_below (g := gb1) (o := .cells #[.int .i64 x5_1, .int .i64 x6_2, .int .i64 x33_3] 43 (0, 0)) Ybe_ hb); have n5_ := Aside0.mk (below_step Yf_ hb); clear HO_4; clear BK0; clear BK1; clear HB; have HO_4 := n0_; have HO472 := n1_; have HO476 := n2_; have BK0 := n3_; have BK1 := n4_; have HB := n5_; clear n0_ n1_ n2_ n3_ n4_ n5_; (try clear hb); (try clear hb2); (try clear hk); (try clear hi); (try clear ho0); (try clear ho1)) | ((with_reducible refine gate_dst (N := 9) rfl ?_); refine box_event ?hg (N := 9) ?hd (cs := #[.slice none 0 0, .int .i64 0, .slice none 0 0]) (t := 34) ?hr ?_; (case hd => rfl); (case hg => rfl); (case hr => first | (go_simp; done) | (go_simp; rfl)); intro gb2 hg w35 hbox hb; have n0_ := Aside0.mk (Kd.Cf Ybi_ hb); have n1_ := Aside0.mk (Kd.Ak Yff_ hb); have n2_ := Aside0.mk (Kd.Ak Yfg_ hb); have n3_ := Aside0.mk (blk_below (g := gb0) (o := .cells #[.slice A0_0 l0_0.length c0_0, .int .i64 a0_1, .slice A0_2 l0_2.length c0_2] 34 (0, 0)) Yc_ hb); have n4_ := Aside0.mk (blk_below (g := gb1) (o := .cells #[.int .i64 x5_1, .int .i64 x6_2, .int .i64 x33_3] 43 (0, 0)) Yi_ hb); have n5_ := Aside0.mk (below_step Yf_ hb); have n6_ := Aside0.mk (hbox); have n7_ := Aside0.mk ((by rw [hg]; exact (below_size Yf_) : w.heap.size ≤ gb2)); have n8_ := Aside0.mk ((by rw [hg]; exact (below_size Yf_) : w.heap.size ≤ gb2)); have n9_ := Aside0.mk ((by rw [hg]; exact Nat.ne_of_lt (blk_lt (g := gb0) (o := .cells #[.slice A0_0 l0_0.length c0_0, .int .i64 a0_1, .slice A0_2 l0_2.length c0_2] 34 (0, 0)) Yc_) : gb0 ≠ gb2)); have n10_ := Aside0.mk ((by rw [hg]; exact Nat.ne_of_gt (blk_lt (g := gb0) (o := .cells #[.slice A0_0 l0_0.length c0_0, .int .i64 a0_1, .slice A0_2 l0_2.length c0_2] 34 (0, 0)) Yc_) : gb2 ≠ gb0)); have n11_ := Aside0.mk ((by rw [hg]; exact Nat.ne_of_lt (blk_lt (g := gb1) (o := .cells #[.int .i64 x5_1, .int .i64 x6_2, .int .i64 x33_3] 43 (0, 0)) Yi_) : gb1 ≠ gb2)); have n12_ := Aside0.mk ((by rw [hg]; exact Nat.ne_of_gt (blk_lt (g := gb1) (o := .cells #[.int .i64 x5_1, .int .i64 x6_2, .int .i64 x33_3] 43 (0, 0)) Yi_) : gb2 ≠ gb1)); clear HO_4; clear HO472; clear HO476; clear BK0; clear BK1; clear HB; have HO_4 := n0_; have HO472 := n1_; have HO476 := n2_; have BK0 := n3_; have BK1 := n4_; have HB := n5_; have BK2 := n6_; have GW2 := n7_; have GE2 := n8_; have NB0_2 := n9_; have NB2_0 := n10_; have NB1_2 := n11_; have NB2_1 := n12_; clear n0_ n1_ n2_ n3_ n4_ n5_ n6_ n7_ n8_ n9_ n10_ n11_ n12_; clear hb hbox hg; obtain ⟨Ao36, co36, eo36⟩ := Kd.S_slice HO472.out; subst eo36; have hnb37 := NB2_0.out; have hnc37 := NB0_2.out; have hnb38 := NB2_1.out; have hnc38 := NB1_2.out; have hcz39_0 : w35.cell? ⟨gb2, 0, none⟩ = some (.slice none 0 0) := (blk_cell BK2.out 0).trans rfl; have hcz39_1 : w35.cell? ⟨gb2, 1, none⟩ = some (.int .i64 0) := (blk_cell BK2.out 1).trans rfl; have hcz39_2 : w35.cell? ⟨gb2, 2, none⟩ = some (.slice none 0 0) := (blk_cell BK2.out 2).trans rfl; have hfz39_0 := blk_frozen BK2.out 0; have hfz39_1 := blk_frozen BK2.out 1; have hfz39_2 := blk_frozen BK2.out 2; obtain ⟨Ao40, co40, eo40⟩ := Kd.S_slice HO476.out; subst eo40))
            go_roundg k3
            case measure => have := HK1.out; have := HK2.out; have := HK3.out; omega
            case rel => exact ⟨(x4_3), (wrap64 (x33_3 + 1)), Ybb_, H', ⟨by have := HK1.out; have := HK2.out; have := HK3.out; omega⟩, ⟨by (with_reducible repeat (first | apply Kd.R_alloc | apply Kd.R_drewN | apply Kd.R_drew)); exact Kd.Ci (Kd.Dk (p := ⟨gb2, 2, none⟩) (Kd.Dk (p := ⟨gb2, 1, none⟩) (Kd.Dk (p := ⟨gb2, 0, none⟩) (Kd.E8 HO_4.out BK2.out (by decide)) (fun _ hk => hk.2) (.slice Ao36 t470.length co36)) (fun _ hk => hk.2) (.int .i64 t473)) (fun _ hk => hk.2) (.slice Ao40 t474.length co40)) (fun _ hk => trivial)⟩, ⟨by (with_reducible repeat (first | apply blk_drewN | apply blk_drew | apply blk_alloc)); refine Be ?_ NB0_2.out _; (with_reducible repeat (first | apply blk_drewN | apply blk_drew | apply blk_alloc)); refine Be ?_ NB0_2.out _; (with_reducible repeat (first | apply blk_drewN | apply blk_drew | apply blk_alloc)); refine Be ?_ NB0_2.out _; (with_reducible repeat (first | apply blk_drewN | apply blk_drew | apply blk_alloc)); exact BK0.out⟩, ⟨by repeat (first | (with_reducible first | exact HB.out | apply below_alloc | apply pw_below_drewN | apply below_drew1 | refine below_set ?_ GE0.out | refine below_set ?_ GE1.out | refine below_set ?_ GE2.out) | exact HB.out)⟩⟩
          ·rw [if_neg c13] at H
           have c13b0 : decide (x33_3 < ji11) = false := decide_eq_false c13
           clear c13
           have H' := Aside0.mk H
           clear H
           go_wp2
           go_roundg k3
           case measure => have := HK1.out; have := HK2.out; have := HK3.out; omega
           case rel => exact ⟨(x4_3), (wrap64 (x6_2 + 1)), Ybb_, H', ⟨by have := HK1.out; have := HK2.out; have := HK3.out; omega⟩, ⟨by (with_reducible repeat (first | apply Kd.R_alloc | apply Kd.R_drewN | apply Kd.R_drew)); exact HO_4.out⟩, ⟨by (with_reducible repeat (first | apply blk_drewN | apply blk_drew | apply blk_alloc)); exact BK0.out⟩, ⟨by repeat (first | (with_reducible first | exact HB.out | apply below_alloc | apply pw_below_drewN | apply below_drew1 | refine below_set ?_ GE0.out) | exact HB.out)⟩⟩
       ·rw [if_neg c10] at H
        have c10b0 : decide (x6_2 ≤ 99) = false := decide_eq_false c10
        clear c10
        have H' := Aside0.mk H
        clear H
        go_wp2
        go_roundg k2
        case measure => have := HK1.out; have := HK2.out; omega
        case rel => exact ⟨(x4_2), (wrap64 (x5_1 + 1)), Ybb_, H', ⟨by have := HK1.out; have := HK2.out; omega⟩, ⟨by (with_reducible repeat (first | apply Kd.R_alloc | apply Kd.R_drewN | apply Kd.R_drew)); exact HO_4.out⟩, ⟨by (with_reducible repeat (first | apply blk_drewN | apply blk_drew | apply blk_alloc)); exact BK0.out⟩, ⟨by repeat (first | (with_reducible first | exact HB.out | apply below_alloc | apply pw_below_drewN | apply below_drew1 | refine below_set ?_ GE0.out) | exact HB.out)⟩⟩
    ·rw [if_neg c9] at H
     have c9b0 : decide (x5_1 ≤ 3) = false := decide_eq_false c9
     clear c9
     simp only [Option.some.injEq, Prod.mk.injEq] at H
     obtain ⟨rfl, rfl⟩ := H
     go_wp2
     go_ret2
     exact ⟨_, by first | rfl | (simp [errW_none, errW_some] <;> rfl) | (simp [*, errW_none, errW_some] <;> rfl), by (with_reducible repeat (first | apply Kd.R_alloc | apply Kd.R_drewN | apply Kd.R_drew)); exact HO_4.out, by repeat (first | (with_reducible first | exact HB.out | apply below_alloc | apply pw_below_drewN | apply below_drew1 | refine below_set ?_ GE0.out) | exact HB.out)⟩
 ·replace c3 := Bool.eq_false_iff.mpr c3
  subst c3
  have H1 : (some (([] : List (S43)), false)) = some (r1, r2) := by rw [if_neg (show ¬ (false = true) by decide)] at H; exact H
  clear H
  have H := H1
  clear H1
  simp only [Option.some.injEq, Prod.mk.injEq] at H
  obtain ⟨rfl, rfl⟩ := H
  go_enter Try.func26, Try.ntmps26
  go_wp2_with (first | ((with_reducible refine gate_dst (N := 1) rfl ?_); refine box_event ?hg (N := 1) ?hd (cs := #[.slice A0_0 l0_0.length c0_0, .int .i64 a0_1, .slice A0_2 l0_2.length c0_2]) (t := 34) ?hr ?_; (case hd => rfl); (case hg => rfl); (case hr => first | (go_simp; done) | (go_simp; rfl)); intro gb0 hg w41 hbox hb; have n0_ := Aside0.mk (below_step Yb_ hb); have n1_ := Aside0.mk (hbox); have n2_ := Aside0.mk ((by rw [hg]; exact (below_size Yb_) : w.heap.size ≤ gb0)); have n3_ := Aside0.mk ((by rw [hg]; exact (below_size Yb_) : w.heap.size ≤ gb0)); clear HB; have HB := n0_; have BK0 := n1_; have GW0 := n2_; have GE0 := n3_; clear n0_ n1_ n2_ n3_; clear hb hbox hg; have hcz42_0 : w41.cell? ⟨gb0, 0, none⟩ = some (.slice A0_0 l0_0.length c0_0) := (blk_cell BK0.out 0).trans rfl; have hcz42_1 : w41.cell? ⟨gb0, 1, none⟩ = some (.int .i64 a0_1) := (blk_cell BK0.out 1).trans rfl; have hcz42_2 : w41.cell? ⟨gb0, 2, none⟩ = some (.slice A0_2 l0_2.length c0_2) := (blk_cell BK0.out 2).trans rfl; have hfz42_0 := blk_frozen BK0.out 0; have hfz42_1 := blk_frozen BK0.out 1; have hfz42_2 := blk_frozen BK0.out 2) | ((with_reducible refine gate_callee (f := 13) rfl ?_); refine goesL_ (some 13) rfl rfl Try.func13 Yba_ rfl #[.agg #[.slice A0_0 l0_0.length c0_0, .int .i64 a0_1, .slice A0_2 l0_2.length c0_2]] rfl Ye_ ?_; (with_reducible refine (impl_IsValidTerminal.calls k _ _ l0_0 a0_1 _ _ l0_2 false _ ?side1 ?side2 ?side3 ?side4 A2.out).mono ?_); (case side1 => repeat (first | exact (Kd.C_below HR0_0.out HB.out) | (with_reducible refine Kd.C_alloc ?_ _) | (with_reducible refine Kd.C_drewN ?_ _) | (with_reducible refine Kd.C_drew ?_))); (case side2 => exact HC0_0.out); (case side3 => repeat (first | exact (Kd.C_below HR0_2.out HB.out) | (with_reducible refine Kd.C_alloc ?_ _) | (with_reducible refine Kd.C_drewN ?_ _) | (with_reducible refine Kd.C_drew ?_))); (case side4 => exact HC0_2.out); rintro e w43 ⟨rfl, hb⟩; refine ⟨_, rfl, ?_⟩; have n0_ := Aside0.mk (blk_below (g := gb0) (o := .cells #[.slice A0_0 l0_0.length c0_0, .int .i64 a0_1, .slice A0_2 l0_2.length c0_2] 34 (0, 0)) Yc_ hb); have n1_ := Aside0.mk (below_step Yd_ hb); clear BK0; clear HB; have BK0 := n0_; have HB := n1_; clear n0_ n1_; (try clear hb); (try clear hb2); (try clear hk); (try clear hi)))
  go_ret2
  exact ⟨_, by first | rfl | (simp [errW_none, errW_some] <;> rfl) | (simp [*, errW_none, errW_some] <;> rfl), by first | exact Kd.R_nil _ _ _ _ _ | exact Kd.N_nil _ _ _ _ _ | exact Kd.V_nil _ _ _ _ _ | exact Kd.Q_nil _ _ _ _ _ | exact Kd.S_nil _ _ _ _ _, by repeat (first | (with_reducible first | exact HB.out | apply below_alloc | apply pw_below_drewN | apply below_drew1 | refine below_set ?_ GE0.out) | exact HB.out)⟩
def Fg.f (a0_0 : Int) (a0_1 : Int) (a0_2 : Int) (a1_0 : Int) (a1_1 : Int) (a1_2 : Int) : Option (Bool) := if a0_0 = a1_0 then (if a0_1 = a1_1 then (if a0_2 = a1_2 then (some true) else (some false)) else (some false)) else (some false)
set_option maxHeartbeats 8000000 in
set_option maxRecDepth 100000 in
theorem Fg.calls (a0_0 : Int) (a0_1 : Int) (a0_2 : Int) (a1_0 : Int) (a1_1 : Int) (a1_2 : Int) (r : Bool) (w : World) (h : Fg.f a0_0 a0_1 a0_2 a1_0 a1_1 a1_2 = some r) :
  Calls Try.prog 20 #[.agg #[.int .i64 a0_0, .int .i64 a0_1, .int .i64 a0_2], .agg #[.int .i64 a1_0, .int .i64 a1_1, .int .i64 a1_2]] w fun e w' => e = .returned (.bool r) ∧ Below w.heap.size w w' := by
 have hu43 := Try.underlying43
 have HB := Aside0.mk (Below.refl w.heap.size w)
 have H : (if a0_0 = a1_0 then (if a0_1 = a1_1 then (if a0_2 = a1_2 then (some true) else (some false)) else (some false)) else (some false)) = some r := h
 clear h
 by_cases c3 : a0_0 = a1_0
 ·rw [if_pos c3] at H
  have c3b0 : (a0_0 == a1_0) = true := beq_iff_eq.mpr c3
  have c3b1 : (a0_0 != a1_0) = false := bne_eq_false_iff_eq.mpr c3
  clear c3
  by_cases c4 : a0_1 = a1_1
  ·rw [if_pos c4] at H
   have c4b0 : (a0_1 == a1_1) = true := beq_iff_eq.mpr c4
   have c4b1 : (a0_1 != a1_1) = false := bne_eq_false_iff_eq.mpr c4
   clear c4
   by_cases c5 : a0_2 = a1_2
   ·rw [if_pos c5] at H
    have c5b0 : (a0_2 == a1_2) = true := beq_iff_eq.mpr c5
    have c5b1 : (a0_2 != a1_2) = false := bne_eq_false_iff_eq.mpr c5
    clear c5
    obtain rfl := Option.some.inj H
    go_enter Try.func20, Try.ntmps20
    go_wp2_with (first | ((with_reducible refine gate_dst (N := 2) rfl ?_); refine box_event ?hg (N := 2) ?hd (cs := #[.int .i64 a0_0, .int .i64 a0_1, .int .i64 a0_2]) (t := 43) ?hr ?_; (case hd => rfl); (case hg => rfl); (case hr => first | (go_simp; done) | (go_simp; rfl)); intro gb0 hg w6 hbox hb; have n0_ := Aside0.mk (below_step Yb_ hb); have n1_ := Aside0.mk (hbox); have n2_ := Aside0.mk ((by rw [hg]; exact (below_size Yb_) : w.heap.size ≤ gb0)); have n3_ := Aside0.mk ((by rw [hg]; exact (below_size Yb_) : w.heap.size ≤ gb0)); clear HB; have HB := n0_; have BK0 := n1_; have GW0 := n2_; have GE0 := n3_; clear n0_ n1_ n2_ n3_; clear hb hbox hg) | ((with_reducible refine gate_dst (N := 3) rfl ?_); refine box_event ?hg (N := 3) ?hd (cs := #[.int .i64 a1_0, .int .i64 a1_1, .int .i64 a1_2]) (t := 43) ?hr ?_; (case hd => rfl); (case hg => rfl); (case hr => first | (go_simp; done) | (go_simp; rfl)); intro gb1 hg w7 hbox hb; have n0_ := Aside0.mk (blk_below (g := gb0) (o := .cells #[.int .i64 a0_0, .int .i64 a0_1, .int .i64 a0_2] 43 (0, 0)) Yc_ hb); have n1_ := Aside0.mk (below_step Yd_ hb); have n2_ := Aside0.mk (hbox); have n3_ := Aside0.mk ((by rw [hg]; exact (below_size Yd_) : w.heap.size ≤ gb1)); have n4_ := Aside0.mk ((by rw [hg]; exact (below_size Yd_) : w.heap.size ≤ gb1)); have n5_ := Aside0.mk ((by rw [hg]; exact Nat.ne_of_lt (blk_lt (g := gb0) (o := .cells #[.int .i64 a0_0, .int .i64 a0_1, .int .i64 a0_2] 43 (0, 0)) Yc_) : gb0 ≠ gb1)); have n6_ := Aside0.mk ((by rw [hg]; exact Nat.ne_of_gt (blk_lt (g := gb0) (o := .cells #[.int .i64 a0_0, .int .i64 a0_1, .int .i64 a0_2] 43 (0, 0)) Yc_) : gb1 ≠ gb0)); clear BK0; clear HB; have BK0 := n0_; have HB := n1_; have BK1 := n2_; have GW1 := n3_; have GE1 := n4_; have NB0_1 := n5_; have NB1_0 := n6_; clear n0_ n1_ n2_ n3_ n4_ n5_ n6_; clear hb hbox hg; have hnb8 := NB0_1.out; have hnc8 := NB1_0.out; have hcz9_0 : w7.cell? ⟨gb0, 0, none⟩ = some (.int .i64 a0_0) := (blk_cell BK0.out 0).trans rfl; have hcz9_1 : w7.cell? ⟨gb0, 1, none⟩ = some (.int .i64 a0_1) := (blk_cell BK0.out 1).trans rfl; have hcz9_2 : w7.cell? ⟨gb0, 2, none⟩ = some (.int .i64 a0_2) := (blk_cell BK0.out 2).trans rfl; have hfz9_0 := blk_frozen BK0.out 0; have hfz9_1 := blk_frozen BK0.out 1; have hfz9_2 := blk_frozen BK0.out 2; have hcz10_0 : w7.cell? ⟨gb1, 0, none⟩ = some (.int .i64 a1_0) := (blk_cell BK1.out 0).trans rfl; have hcz10_1 : w7.cell? ⟨gb1, 1, none⟩ = some (.int .i64 a1_1) := (blk_cell BK1.out 1).trans rfl; have hcz10_2 : w7.cell? ⟨gb1, 2, none⟩ = some (.int .i64 a1_2) := (blk_cell BK1.out 2).trans rfl; have hfz10_0 := blk_frozen BK1.out 0; have hfz10_1 := blk_frozen BK1.out 1; have hfz10_2 := blk_frozen BK1.out 2))
    go_ret
    exact ⟨by first | rfl | (simp [errW_none, errW_some] <;> rfl) | (simp [*, errW_none, errW_some] <;> rfl), by repeat (first | (with_reducible first | exact HB.out | apply below_alloc | apply pw_below_drewN | apply below_drew1 | refine below_set ?_ GE0.out | refine below_set ?_ GE1.out) | exact HB.out)⟩
   ·rw [if_neg c5] at H
    have c5b0 : (a0_2 == a1_2) = false := beq_eq_false_iff_ne.mpr c5
    have c5b1 : (a0_2 != a1_2) = true := bne_iff_ne.mpr c5
    obtain rfl := Option.some.inj H
    go_enter Try.func20, Try.ntmps20
    go_wp2_with (first | ((with_reducible refine gate_dst (N := 2) rfl ?_); refine box_event ?hg (N := 2) ?hd (cs := #[.int .i64 a0_0, .int .i64 a0_1, .int .i64 a0_2]) (t := 43) ?hr ?_; (case hd => rfl); (case hg => rfl); (case hr => first | (go_simp; done) | (go_simp; rfl)); intro gb0 hg w11 hbox hb; have n0_ := Aside0.mk (below_step Yb_ hb); have n1_ := Aside0.mk (hbox); have n2_ := Aside0.mk ((by rw [hg]; exact (below_size Yb_) : w.heap.size ≤ gb0)); have n3_ := Aside0.mk ((by rw [hg]; exact (below_size Yb_) : w.heap.size ≤ gb0)); clear HB; have HB := n0_; have BK0 := n1_; have GW0 := n2_; have GE0 := n3_; clear n0_ n1_ n2_ n3_; clear hb hbox hg) | ((with_reducible refine gate_dst (N := 3) rfl ?_); refine box_event ?hg (N := 3) ?hd (cs := #[.int .i64 a1_0, .int .i64 a1_1, .int .i64 a1_2]) (t := 43) ?hr ?_; (case hd => rfl); (case hg => rfl); (case hr => first | (go_simp; done) | (go_simp; rfl)); intro gb1 hg w12 hbox hb; have n0_ := Aside0.mk (blk_below (g := gb0) (o := .cells #[.int .i64 a0_0, .int .i64 a0_1, .int .i64 a0_2] 43 (0, 0)) Yc_ hb); have n1_ := Aside0.mk (below_step Yd_ hb); have n2_ := Aside0.mk (hbox); have n3_ := Aside0.mk ((by rw [hg]; exact (below_size Yd_) : w.heap.size ≤ gb1)); have n4_ := Aside0.mk ((by rw [hg]; exact (below_size Yd_) : w.heap.size ≤ gb1)); have n5_ := Aside0.mk ((by rw [hg]; exact Nat.ne_of_lt (blk_lt (g := gb0) (o := .cells #[.int .i64 a0_0, .int .i64 a0_1, .int .i64 a0_2] 43 (0, 0)) Yc_) : gb0 ≠ gb1)); have n6_ := Aside0.mk ((by rw [hg]; exact Nat.ne_of_gt (blk_lt (g := gb0) (o := .cells #[.int .i64 a0_0, .int .i64 a0_1, .int .i64 a0_2] 43 (0, 0)) Yc_) : gb1 ≠ gb0)); clear BK0; clear HB; have BK0 := n0_; have HB := n1_; have BK1 := n2_; have GW1 := n3_; have GE1 := n4_; have NB0_1 := n5_; have NB1_0 := n6_; clear n0_ n1_ n2_ n3_ n4_ n5_ n6_; clear hb hbox hg; have hnb13 := NB0_1.out; have hnc13 := NB1_0.out; have hcz14_0 : w12.cell? ⟨gb0, 0, none⟩ = some (.int .i64 a0_0) := (blk_cell BK0.out 0).trans rfl; have hcz14_1 : w12.cell? ⟨gb0, 1, none⟩ = some (.int .i64 a0_1) := (blk_cell BK0.out 1).trans rfl; have hcz14_2 : w12.cell? ⟨gb0, 2, none⟩ = some (.int .i64 a0_2) := (blk_cell BK0.out 2).trans rfl; have hfz14_0 := blk_frozen BK0.out 0; have hfz14_1 := blk_frozen BK0.out 1; have hfz14_2 := blk_frozen BK0.out 2; have hcz15_0 : w12.cell? ⟨gb1, 0, none⟩ = some (.int .i64 a1_0) := (blk_cell BK1.out 0).trans rfl; have hcz15_1 : w12.cell? ⟨gb1, 1, none⟩ = some (.int .i64 a1_1) := (blk_cell BK1.out 1).trans rfl; have hcz15_2 : w12.cell? ⟨gb1, 2, none⟩ = some (.int .i64 a1_2) := (blk_cell BK1.out 2).trans rfl; have hfz15_0 := blk_frozen BK1.out 0; have hfz15_1 := blk_frozen BK1.out 1; have hfz15_2 := blk_frozen BK1.out 2))
    go_ret
    exact ⟨by first | rfl | (simp [errW_none, errW_some] <;> rfl) | (simp [*, errW_none, errW_some] <;> rfl), by repeat (first | (with_reducible first | exact HB.out | apply below_alloc | apply pw_below_drewN | apply below_drew1 | refine below_set ?_ GE0.out | refine below_set ?_ GE1.out) | exact HB.out)⟩
  ·rw [if_neg c4] at H
   have c4b0 : (a0_1 == a1_1) = false := beq_eq_false_iff_ne.mpr c4
   have c4b1 : (a0_1 != a1_1) = true := bne_iff_ne.mpr c4
   obtain rfl := Option.some.inj H
   go_enter Try.func20, Try.ntmps20
   go_wp2_with (first | ((with_reducible refine gate_dst (N := 2) rfl ?_); refine box_event ?hg (N := 2) ?hd (cs := #[.int .i64 a0_0, .int .i64 a0_1, .int .i64 a0_2]) (t := 43) ?hr ?_; (case hd => rfl); (case hg => rfl); (case hr => first | (go_simp; done) | (go_simp; rfl)); intro gb0 hg w16 hbox hb; have n0_ := Aside0.mk (below_step Yb_ hb); have n1_ := Aside0.mk (hbox); have n2_ := Aside0.mk ((by rw [hg]; exact (below_size Yb_) : w.heap.size ≤ gb0)); have n3_ := Aside0.mk ((by rw [hg]; exact (below_size Yb_) : w.heap.size ≤ gb0)); clear HB; have HB := n0_; have BK0 := n1_; have GW0 := n2_; have GE0 := n3_; clear n0_ n1_ n2_ n3_; clear hb hbox hg) | ((with_reducible refine gate_dst (N := 3) rfl ?_); refine box_event ?hg (N := 3) ?hd (cs := #[.int .i64 a1_0, .int .i64 a1_1, .int .i64 a1_2]) (t := 43) ?hr ?_; (case hd => rfl); (case hg => rfl); (case hr => first | (go_simp; done) | (go_simp; rfl)); intro gb1 hg w17 hbox hb; have n0_ := Aside0.mk (blk_below (g := gb0) (o := .cells #[.int .i64 a0_0, .int .i64 a0_1, .int .i64 a0_2] 43 (0, 0)) Yc_ hb); have n1_ := Aside0.mk (below_step Yd_ hb); have n2_ := Aside0.mk (hbox); have n3_ := Aside0.mk ((by rw [hg]; exact (below_size Yd_) : w.heap.size ≤ gb1)); have n4_ := Aside0.mk ((by rw [hg]; exact (below_size Yd_) : w.heap.size ≤ gb1)); have n5_ := Aside0.mk ((by rw [hg]; exact Nat.ne_of_lt (blk_lt (g := gb0) (o := .cells #[.int .i64 a0_0, .int .i64 a0_1, .int .i64 a0_2] 43 (0, 0)) Yc_) : gb0 ≠ gb1)); have n6_ := Aside0.mk ((by rw [hg]; exact Nat.ne_of_gt (blk_lt (g := gb0) (o := .cells #[.int .i64 a0_0, .int .i64 a0_1, .int .i64 a0_2] 43 (0, 0)) Yc_) : gb1 ≠ gb0)); clear BK0; clear HB; have BK0 := n0_; have HB := n1_; have BK1 := n2_; have GW1 := n3_; have GE1 := n4_; have NB0_1 := n5_; have NB1_0 := n6_; clear n0_ n1_ n2_ n3_ n4_ n5_ n6_; clear hb hbox hg; have hnb18 := NB0_1.out; have hnc18 := NB1_0.out; have hcz19_0 : w17.cell? ⟨gb0, 0, none⟩ = some (.int .i64 a0_0) := (blk_cell BK0.out 0).trans rfl; have hcz19_1 : w17.cell? ⟨gb0, 1, none⟩ = some (.int .i64 a0_1) := (blk_cell BK0.out 1).trans rfl; have hcz19_2 : w17.cell? ⟨gb0, 2, none⟩ = some (.int .i64 a0_2) := (blk_cell BK0.out 2).trans rfl; have hfz19_0 := blk_frozen BK0.out 0; have hfz19_1 := blk_frozen BK0.out 1; have hfz19_2 := blk_frozen BK0.out 2; have hcz20_0 : w17.cell? ⟨gb1, 0, none⟩ = some (.int .i64 a1_0) := (blk_cell BK1.out 0).trans rfl; have hcz20_1 : w17.cell? ⟨gb1, 1, none⟩ = some (.int .i64 a1_1) := (blk_cell BK1.out 1).trans rfl; have hcz20_2 : w17.cell? ⟨gb1, 2, none⟩ = some (.int .i64 a1_2) := (blk_cell BK1.out 2).trans rfl; have hfz20_0 := blk_frozen BK1.out 0; have hfz20_1 := blk_frozen BK1.out 1; have hfz20_2 := blk_frozen BK1.out 2))
   go_ret
   exact ⟨by first | rfl | (simp [errW_none, errW_some] <;> rfl) | (simp [*, errW_none, errW_some] <;> rfl), by repeat (first | (with_reducible first | exact HB.out | apply below_alloc | apply pw_below_drewN | apply below_drew1 | refine below_set ?_ GE0.out | refine below_set ?_ GE1.out) | exact HB.out)⟩
 ·rw [if_neg c3] at H
  have c3b0 : (a0_0 == a1_0) = false := beq_eq_false_iff_ne.mpr c3
  have c3b1 : (a0_0 != a1_0) = true := bne_iff_ne.mpr c3
  obtain rfl := Option.some.inj H
  go_enter Try.func20, Try.ntmps20
  go_wp2_with (first | ((with_reducible refine gate_dst (N := 2) rfl ?_); refine box_event ?hg (N := 2) ?hd (cs := #[.int .i64 a0_0, .int .i64 a0_1, .int .i64 a0_2]) (t := 43) ?hr ?_; (case hd => rfl); (case hg => rfl); (case hr => first | (go_simp; done) | (go_simp; rfl)); intro gb0 hg w21 hbox hb; have n0_ := Aside0.mk (below_step Yb_ hb); have n1_ := Aside0.mk (hbox); have n2_ := Aside0.mk ((by rw [hg]; exact (below_size Yb_) : w.heap.size ≤ gb0)); have n3_ := Aside0.mk ((by rw [hg]; exact (below_size Yb_) : w.heap.size ≤ gb0)); clear HB; have HB := n0_; have BK0 := n1_; have GW0 := n2_; have GE0 := n3_; clear n0_ n1_ n2_ n3_; clear hb hbox hg) | ((with_reducible refine gate_dst (N := 3) rfl ?_); refine box_event ?hg (N := 3) ?hd (cs := #[.int .i64 a1_0, .int .i64 a1_1, .int .i64 a1_2]) (t := 43) ?hr ?_; (case hd => rfl); (case hg => rfl); (case hr => first | (go_simp; done) | (go_simp; rfl)); intro gb1 hg w22 hbox hb; have n0_ := Aside0.mk (blk_below (g := gb0) (o := .cells #[.int .i64 a0_0, .int .i64 a0_1, .int .i64 a0_2] 43 (0, 0)) Yc_ hb); have n1_ := Aside0.mk (below_step Yd_ hb); have n2_ := Aside0.mk (hbox); have n3_ := Aside0.mk ((by rw [hg]; exact (below_size Yd_) : w.heap.size ≤ gb1)); have n4_ := Aside0.mk ((by rw [hg]; exact (below_size Yd_) : w.heap.size ≤ gb1)); have n5_ := Aside0.mk ((by rw [hg]; exact Nat.ne_of_lt (blk_lt (g := gb0) (o := .cells #[.int .i64 a0_0, .int .i64 a0_1, .int .i64 a0_2] 43 (0, 0)) Yc_) : gb0 ≠ gb1)); have n6_ := Aside0.mk ((by rw [hg]; exact Nat.ne_of_gt (blk_lt (g := gb0) (o := .cells #[.int .i64 a0_0, .int .i64 a0_1, .int .i64 a0_2] 43 (0, 0)) Yc_) : gb1 ≠ gb0)); clear BK0; clear HB; have BK0 := n0_; have HB := n1_; have BK1 := n2_; have GW1 := n3_; have GE1 := n4_; have NB0_1 := n5_; have NB1_0 := n6_; clear n0_ n1_ n2_ n3_ n4_ n5_ n6_; clear hb hbox hg; have hnb23 := NB0_1.out; have hnc23 := NB1_0.out; have hcz24_0 : w22.cell? ⟨gb0, 0, none⟩ = some (.int .i64 a0_0) := (blk_cell BK0.out 0).trans rfl; have hcz24_1 : w22.cell? ⟨gb0, 1, none⟩ = some (.int .i64 a0_1) := (blk_cell BK0.out 1).trans rfl; have hcz24_2 : w22.cell? ⟨gb0, 2, none⟩ = some (.int .i64 a0_2) := (blk_cell BK0.out 2).trans rfl; have hfz24_0 := blk_frozen BK0.out 0; have hfz24_1 := blk_frozen BK0.out 1; have hfz24_2 := blk_frozen BK0.out 2; have hcz25_0 : w22.cell? ⟨gb1, 0, none⟩ = some (.int .i64 a1_0) := (blk_cell BK1.out 0).trans rfl; have hcz25_1 : w22.cell? ⟨gb1, 1, none⟩ = some (.int .i64 a1_1) := (blk_cell BK1.out 1).trans rfl; have hcz25_2 : w22.cell? ⟨gb1, 2, none⟩ = some (.int .i64 a1_2) := (blk_cell BK1.out 2).trans rfl; have hfz25_0 := blk_frozen BK1.out 0; have hfz25_1 := blk_frozen BK1.out 1; have hfz25_2 := blk_frozen BK1.out 2))
  go_ret
  exact ⟨by first | rfl | (simp [errW_none, errW_some] <;> rfl) | (simp [*, errW_none, errW_some] <;> rfl), by repeat (first | (with_reducible first | exact HB.out | apply below_alloc | apply pw_below_drewN | apply below_drew1 | refine below_set ?_ GE0.out | refine below_set ?_ GE1.out) | exact HB.out)⟩
end Go.Proofs.Ytnggfglmjdiaaaa.X

