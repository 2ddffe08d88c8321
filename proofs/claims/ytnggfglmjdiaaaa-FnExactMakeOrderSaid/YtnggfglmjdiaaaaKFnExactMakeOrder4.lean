/- Texts that the proof of the law FnExactMakeOrder leans on, part 5 of 7. -/
import Derived.Test.YtnggfglmjdiaaaaKFnExactMakeOrder1
import Derived.Test.YtnggfglmjdiaaaaKFnExactMakeOrder2
import Derived.Test.YtnggfglmjdiaaaaKFnExactMakeOrder3
set_option linter.unusedVariables false
set_option linter.unusedSimpArgs false
namespace Go.Proofs.Ytnggfglmjdiaaaa.X
open Go.RowKit Go.Proofs.YtnggfglmjdiaaaaW.PrintWords Go.Proofs.YtnggfglmjdiaaaaW.PrintLast Go.Proofs.YtnggfglmjdiaaaaW.PrintMore
attribute [local go_sem] max2_int min2_int max_two min_two max_three min_three max_four min_four
def cutAt (F : List (List Int)) (i m : Int) : List (List Int) := F.set i.toNat ((rd_L1 F i).take m.toNat)
def Ew (v : Bool) (Y : List (List Int)) (h : Int) (B : List (List Int)) : Option (List (List Int) × Int × List (List Int) × Bool) := if v = true then some (Y, h, B, true) else some ([], 0, [], false)
def lmPutY (k : Nat) (Y : List (List Int)) (h : Int) (B : List (List Int)) (b d_ : Int) : Option (List (List Int) × Int × List (List Int) × Bool) := if inRows Y d_ = true then (if (Ce.f (rd_L1 Y d_)).isSome = true then (Ce.f (rd_L1 Y d_)).bind fun c => if c.length < 17592186044415 then (Ad.f k (Y.set d_.toNat (c ++ [b])) h B).bind fun v => Ew v (Y.set d_.toNat (c ++ [b])) h B else none else none) else some ([], 0, [], false)
def lmPutB (k : Nat) (Y : List (List Int)) (h : Int) (B : List (List Int)) (b d_ : Int) : Option (List (List Int) × Int × List (List Int) × Bool) := if inRows B d_ = true then (if (Ce.f (rd_L1 B d_)).isSome = true then (Ce.f (rd_L1 B d_)).bind fun c => if c.length < 17592186044415 then (Ad.f k Y h (B.set d_.toNat (c ++ [b]))).bind fun v => Ew v Y h (B.set d_.toNat (c ++ [b])) else none else none) else some ([], 0, [], false)
def lmCut (F T : List (List Int)) (q1 q2 : Int) (ok : Bool) (go : List (List Int) → Option (List (List Int) × Int × List (List Int) × Bool)) : Option (List (List Int) × Int × List (List Int) × Bool) := if q1 < 0 then some ([], 0, [], false) else if q1 < (F.length : Int) then (if q2 = ((rd_L1 F q1).length : Int) - 1 then (if ok = true then (if 0 ≤ q2 ∧ q1 < (T.length : Int) ∧ q2 ≤ ((rd_L1 T q1).length : Int) then go (cutAt T q1 q2) else none) else some ([], 0, [], false)) else some ([], 0, [], false)) else none
def spec_l24Make.f (k : Nat) (l0_0 : List (List Int)) (a0_1 : Int) (l0_2 : List (List Int)) (a1_0 a1_1 a1_2 : Int) : Option (List (List Int) × Int × List (List Int) × Bool) :=
 (spec_l24Own.f k l0_0 a0_1 l0_2).bind fun t =>
 if a1_0 = 3 then (spec_l9Find.f k a0_1 l0_2 a1_1).bind fun q => lmCut l0_2 t.2.2 q.1 q.2 true fun F => lmPutY k t.1 t.2.1 F a1_1 a1_2
 else (spec_l5Find.f k l0_0 a1_1).bind fun q => if a1_0 = 1 then lmCut l0_0 t.1 q.1 q.2 (!decide (a1_2 = q.1)) fun F => lmPutY k F t.2.1 t.2.2 a1_1 a1_2 else if a1_0 = 2 then lmCut l0_0 t.1 q.1 q.2 true fun F => lmPutB k F t.2.1 t.2.2 a1_1 a1_2 else lmCut l0_0 t.1 q.1 q.2 true fun F => some ([], 0, [], false)
theorem lmPutY_mono (Y : List (List Int)) (h : Int) (B : List (List Int)) (b d_ : Int) (k : Nat) : LeO (lmPutY k Y h B b d_) (lmPutY (k + 1) Y h B b d_) := by
 unfold lmPutY
 refine LeO.ite (LeO.ite (LeO.bind (LeO.refl _) (fun c => LeO.ite (LeO.bind (Ad.mono _ _ _ _) (fun _ => LeO.refl _)) (LeO.refl _))) (LeO.refl _)) (LeO.refl _)
theorem lmPutB_mono (Y : List (List Int)) (h : Int) (B : List (List Int)) (b d_ : Int) (k : Nat) : LeO (lmPutB k Y h B b d_) (lmPutB (k + 1) Y h B b d_) := by
 unfold lmPutB
 refine LeO.ite (LeO.ite (LeO.bind (LeO.refl _) (fun c => LeO.ite (LeO.bind (Ad.mono _ _ _ _) (fun _ => LeO.refl _)) (LeO.refl _))) (LeO.refl _)) (LeO.refl _)
theorem lmCut_mono (F T : List (List Int)) (q1 q2 : Int) (ok : Bool) {g g' : List (List Int) → Option (List (List Int) × Int × List (List Int) × Bool)} (h : ∀ x, LeO (g x) (g' x)) : LeO (lmCut F T q1 q2 ok g) (lmCut F T q1 q2 ok g') := by
 unfold lmCut
 repeat' first | exact LeO.refl _ | exact h _ | refine LeO.ite ?_ ?_
theorem spec_l24Make.mono (l0_0 : List (List Int)) (a0_1 : Int) (l0_2 : List (List Int)) (a1_0 a1_1 a1_2 : Int) (k : Nat) : LeO (spec_l24Make.f k l0_0 a0_1 l0_2 a1_0 a1_1 a1_2) (spec_l24Make.f (k + 1) l0_0 a0_1 l0_2 a1_0 a1_1 a1_2) := by
 unfold spec_l24Make.f
 refine LeO.bind (spec_l24Own.mono _ _ _ _) (fun t => ?_)
 refine LeO.ite (LeO.bind (spec_l9Find.mono _ _ _ _) (fun q => lmCut_mono _ _ _ _ _ (fun x => lmPutY_mono _ _ _ _ _ _))) (LeO.bind (spec_l5Find.mono _ _ _) (fun q => LeO.ite (lmCut_mono _ _ _ _ _ (fun x => lmPutY_mono _ _ _ _ _ _)) (LeO.ite (lmCut_mono _ _ _ _ _ (fun x => lmPutB_mono _ _ _ _ _ _)) (LeO.refl _))))
theorem l1In_f2 (a b c : Int) : Ba.f a b c = some (decide (b ≤ a) && decide (a ≤ c)) := by
 unfold Ba.f
 by_cases h : a ≥ b
 ·rw [if_pos h]; simp [show b ≤ a from h]
 ·rw [if_neg h]; simp [show ¬ b ≤ a from h]
set_option maxHeartbeats 16000000 in
set_option maxRecDepth 100000 in
theorem spec_l24Make.callsT (k : Nat) (A0_0 : Option Addr) (c0_0 : Nat) (l0_0 : List (List Int)) (a0_1 : Int) (A0_2 : Option Addr) (c0_2 : Nat) (l0_2 : List (List Int)) (a1_0 a1_1 a1_2 : Int) (r1 : List (List Int)) (r2 : Int) (r3 : List (List Int)) (r4 : Bool) (w : World) (hr0_0 : Kd.C (Kd.slice 3 (Kd.int .i64)) w A0_0 l0_0.length l0_0) (hc0_0 : l0_0.length ≤ c0_0) (hr0_2 : Kd.C (Kd.slice 3 (Kd.int .i64)) w A0_2 l0_2.length l0_2) (hc0_2 : l0_2.length ≤ c0_2) (h : spec_l24Make.f k l0_0 a0_1 l0_2 a1_0 a1_1 a1_2 = some (r1, r2, r3, r4)) :
  Calls Try.prog 51 #[.agg #[.slice A0_0 l0_0.length c0_0, .int .i64 a0_1, .slice A0_2 l0_2.length c0_2], .agg #[.int .i64 a1_0, .int .i64 a1_1, .int .i64 a1_2]] w fun e w' => ∃ v0_ v2_ : Value, e = .returned (.tuple #[.agg #[v0_, .int .i64 r2, v2_], .bool r4]) ∧ Go.Proofs.YtnggfglmjdiaaaaOwn.TT 73 w' w.heap.size v0_ r1 v2_ r3 ∧ Below w.heap.size w w' := by
 have hu34 := Try.underlying34
 have hu43 := Try.underlying43
 have hu31 := Try.underlying31
 have hu32 := Try.underlying32
 have HR0_0 := Aside0.mk hr0_0
 have HC0_0 := Aside0.mk hc0_0
 clear hr0_0 hc0_0
 have HR0_2 := Aside0.mk hr0_2
 have HC0_2 := Aside0.mk hc0_2
 clear hr0_2 hc0_2
 have HB := Aside0.mk (Below.refl w.heap.size w)
 unfold spec_l24Make.f at h
 replace h := Option.bind_eq_some_iff.mp h
 obtain ⟨⟨Y, hh, B⟩, a_, h⟩ := h
 have A1 := Aside0.mk a_
 clear a_
 dsimp only at h
 go_enter Try.func51, Try.ntmps51
 go_upto_region 3 with (first | ((with_reducible refine gate_dst (N := 2) rfl ?_); refine box_event ?hg (N := 2) ?hd (cs := #[.slice A0_0 l0_0.length c0_0, .int .i64 a0_1, .slice A0_2 l0_2.length c0_2]) (t := 34) ?hr ?_; (case hd => rfl); (case hg => rfl); (case hr => first | (go_simp; done) | (go_simp; rfl)); intro gt hg w1 hbox hb; have GEgt := Aside0.mk (show w.heap.size ≤ gt by rw [hg]; exact below_size HB.out); have BKt := Aside0.mk hbox; replace HB := Aside0.mk (below_step HB.out hb); clear hb hbox hg; have hzgt_0 : w1.cell? ⟨gt, 0, none⟩ = some (.slice A0_0 l0_0.length c0_0) := (blk_cell BKt.out 0).trans rfl; have hzgt_1 : w1.cell? ⟨gt, 1, none⟩ = some (.int .i64 a0_1) := (blk_cell BKt.out 1).trans rfl; have hzgt_2 : w1.cell? ⟨gt, 2, none⟩ = some (.slice A0_2 l0_2.length c0_2) := (blk_cell BKt.out 2).trans rfl) | ((with_reducible refine gate_dst (N := 3) rfl ?_); refine box_event ?hg (N := 3) ?hd (cs := #[.int .i64 a1_0, .int .i64 a1_1, .int .i64 a1_2]) (t := 43) ?hr ?_; (case hd => rfl); (case hg => rfl); (case hr => first | (go_simp; done) | (go_simp; rfl)); intro gx hg w2 hbox hb; (try clear hzgt_0); (try clear hzgt_1); (try clear hzgt_2); have NBgt_gx := Aside0.mk (show gt ≠ gx by rw [hg]; exact Nat.ne_of_lt (blk_lt BKt.out)); have GEgx := Aside0.mk (show w.heap.size ≤ gx by rw [hg]; exact below_size HB.out); have BKx := Aside0.mk hbox; replace BKt := Aside0.mk (blk_below BKt.out hb); replace HB := Aside0.mk (below_step HB.out hb); clear hb hbox hg; have hzgt_0 : w2.cell? ⟨gt, 0, none⟩ = some (.slice A0_0 l0_0.length c0_0) := (blk_cell BKt.out 0).trans rfl; have hzgt_1 : w2.cell? ⟨gt, 1, none⟩ = some (.int .i64 a0_1) := (blk_cell BKt.out 1).trans rfl; have hzgt_2 : w2.cell? ⟨gt, 2, none⟩ = some (.slice A0_2 l0_2.length c0_2) := (blk_cell BKt.out 2).trans rfl) | ((with_reducible refine gate_dst (N := 4) rfl ?_); refine box_event ?hg (N := 4) ?hd (cs := #[.slice none 0 0, .int .i64 0, .slice none 0 0]) (t := 34) ?hr ?_; (case hd => rfl); (case hg => rfl); (case hr => first | (go_simp; done) | (go_simp; rfl)); intro gr hg w3 hbox hb; (try clear hzgt_0); (try clear hzgt_1); (try clear hzgt_2); have NBgt_gr := Aside0.mk (show gt ≠ gr by rw [hg]; exact Nat.ne_of_lt (blk_lt BKt.out)); have NBgx_gr := Aside0.mk (show gx ≠ gr by rw [hg]; exact Nat.ne_of_lt (blk_lt BKx.out)); have GEgr := Aside0.mk (show w.heap.size ≤ gr by rw [hg]; exact below_size HB.out); have BKr := Aside0.mk hbox; replace BKt := Aside0.mk (blk_below BKt.out hb); replace BKx := Aside0.mk (blk_below BKx.out hb); replace HB := Aside0.mk (below_step HB.out hb); clear hb hbox hg; have hzgt_0 : w3.cell? ⟨gt, 0, none⟩ = some (.slice A0_0 l0_0.length c0_0) := (blk_cell BKt.out 0).trans rfl; have hzgt_1 : w3.cell? ⟨gt, 1, none⟩ = some (.int .i64 a0_1) := (blk_cell BKt.out 1).trans rfl; have hzgt_2 : w3.cell? ⟨gt, 2, none⟩ = some (.slice A0_2 l0_2.length c0_2) := (blk_cell BKt.out 2).trans rfl) | ((with_reducible refine gate_dst (N := 6) rfl ?_); refine box_event ?hg (N := 6) ?hd (cs := #[.slice none 0 0, .int .i64 0, .slice none 0 0]) (t := 34) ?hr ?_; (case hd => rfl); (case hg => rfl); (case hr => first | (go_simp; done) | (go_simp; rfl)); intro gn hg w4 hbox hb; (try clear hzgt_0); (try clear hzgt_1); (try clear hzgt_2); have NBgt_gn := Aside0.mk (show gt ≠ gn by rw [hg]; exact Nat.ne_of_lt (blk_lt BKt.out)); have NBgx_gn := Aside0.mk (show gx ≠ gn by rw [hg]; exact Nat.ne_of_lt (blk_lt BKx.out)); have NBgr_gn := Aside0.mk (show gr ≠ gn by rw [hg]; exact Nat.ne_of_lt (blk_lt BKr.out)); have GEgn := Aside0.mk (show w.heap.size ≤ gn by rw [hg]; exact below_size HB.out); have BKn := Aside0.mk hbox; replace BKt := Aside0.mk (blk_below BKt.out hb); replace BKx := Aside0.mk (blk_below BKx.out hb); replace BKr := Aside0.mk (blk_below BKr.out hb); replace HB := Aside0.mk (below_step HB.out hb); clear hb hbox hg; have hzgt_0 : w4.cell? ⟨gt, 0, none⟩ = some (.slice A0_0 l0_0.length c0_0) := (blk_cell BKt.out 0).trans rfl; have hzgt_1 : w4.cell? ⟨gt, 1, none⟩ = some (.int .i64 a0_1) := (blk_cell BKt.out 1).trans rfl; have hzgt_2 : w4.cell? ⟨gt, 2, none⟩ = some (.slice A0_2 l0_2.length c0_2) := (blk_cell BKt.out 2).trans rfl) | ((with_reducible refine gate_store (t := 34) (p := 6) rfl ?_); refine Go.Proofs.YtnggfglmjdiaaaaOwn.sto3 (t := 34) (p := 6) (g := gn) (w0 := w) Yj_ rfl rfl rfl rfl (by rfl) BKn.out HB.out GEgn.out ?_; intro w5 hbx_ hB_ hO_; (try clear hzgt_0); (try clear hzgt_1); (try clear hzgt_2); replace BKt := Aside0.mk ((hO_.others _ NBgt_gn.out).trans BKt.out); replace BKx := Aside0.mk ((hO_.others _ NBgx_gn.out).trans BKx.out); replace BKr := Aside0.mk ((hO_.others _ NBgr_gn.out).trans BKr.out); clear BKn HB hO_; have BKn := Aside0.mk hbx_; have HB := Aside0.mk hB_; clear hbx_ hB_; have hzgt_0 : w5.cell? ⟨gt, 0, none⟩ = some (.slice A0_0 l0_0.length c0_0) := (blk_cell BKt.out 0).trans rfl; have hzgt_1 : w5.cell? ⟨gt, 1, none⟩ = some (.int .i64 a0_1) := (blk_cell BKt.out 1).trans rfl; have hzgt_2 : w5.cell? ⟨gt, 2, none⟩ = some (.slice A0_2 l0_2.length c0_2) := (blk_cell BKt.out 2).trans rfl) | ((with_reducible refine gate_callee (f := 59) rfl ?_); (try (refine gate_guard (by rfl) ?_; dsimp only)); refine goesL_ (some 14) rfl rfl Try.func59 Yj_ rfl #[.agg #[.slice A0_0 l0_0.length c0_0, .int .i64 a0_1, .slice A0_2 l0_2.length c0_2]] rfl Yd_ ?_; (with_reducible refine (spec_l24Own.calls2 k _ _ l0_0 a0_1 _ _ l0_2 Y hh B _ (Kd.C_below HR0_0.out HB.out) HC0_0.out (Kd.C_below HR0_2.out HB.out) HC0_2.out A1.out).mono ?_); rintro e w6 ⟨P_, v0_, v2_, rfl, ho0, ho1, hb⟩; (try clear hzgt_0); (try clear hzgt_1); (try clear hzgt_2); refine ⟨_, rfl, ?_⟩; have ht_ := (Go.Proofs.YtnggfglmjdiaaaaOwn.TT.of2 ho0 ho1).lower (below_size HB.out); clear ho0 ho1; obtain ⟨nY, AY, cY, ey_, hn_⟩ := ht_.open_; subst ey_; clear hn_; obtain ⟨nB, AB, cB, eb_, hn_⟩ := ht_.swap.open_; subst eb_; clear hn_; replace BKt := Aside0.mk (blk_below BKt.out hb); replace BKx := Aside0.mk (blk_below BKx.out hb); replace BKr := Aside0.mk (blk_below BKr.out hb); replace BKn := Aside0.mk (blk_below BKn.out hb); replace HB := Aside0.mk (below_step HB.out hb); have HT := Aside0.mk ht_; clear ht_ hb; have hzgt_0 : w6.cell? ⟨gt, 0, none⟩ = some (.slice A0_0 l0_0.length c0_0) := (blk_cell BKt.out 0).trans rfl; have hzgt_1 : w6.cell? ⟨gt, 1, none⟩ = some (.int .i64 a0_1) := (blk_cell BKt.out 1).trans rfl; have hzgt_2 : w6.cell? ⟨gt, 2, none⟩ = some (.slice A0_2 l0_2.length c0_2) := (blk_cell BKt.out 2).trans rfl) | ((with_reducible refine gate_dst (N := 7) rfl ?_); refine box_event ?hg (N := 7) ?hd (cs := #[.slice none 0 0, .int .i64 0, .slice none 0 0]) (t := 34) ?hr ?_; (case hd => rfl); (case hg => rfl); (case hr => first | (go_simp; done) | (go_simp; rfl)); intro go hg w7 hbox hb; (try clear hzgt_0); (try clear hzgt_1); (try clear hzgt_2); have NBgt_go := Aside0.mk (show gt ≠ go by rw [hg]; exact Nat.ne_of_lt (blk_lt BKt.out)); have NBgx_go := Aside0.mk (show gx ≠ go by rw [hg]; exact Nat.ne_of_lt (blk_lt BKx.out)); have NBgr_go := Aside0.mk (show gr ≠ go by rw [hg]; exact Nat.ne_of_lt (blk_lt BKr.out)); have NBgn_go := Aside0.mk (show gn ≠ go by rw [hg]; exact Nat.ne_of_lt (blk_lt BKn.out)); have GEgo := Aside0.mk (show w.heap.size ≤ go by rw [hg]; exact below_size HB.out); have BKo := Aside0.mk hbox; replace HT := Aside0.mk (HT.out.below hb); replace BKt := Aside0.mk (blk_below BKt.out hb); replace BKx := Aside0.mk (blk_below BKx.out hb); replace BKr := Aside0.mk (blk_below BKr.out hb); replace BKn := Aside0.mk (blk_below BKn.out hb); replace HB := Aside0.mk (below_step HB.out hb); clear hb hbox hg; have hzgt_0 : w7.cell? ⟨gt, 0, none⟩ = some (.slice A0_0 l0_0.length c0_0) := (blk_cell BKt.out 0).trans rfl; have hzgt_1 : w7.cell? ⟨gt, 1, none⟩ = some (.int .i64 a0_1) := (blk_cell BKt.out 1).trans rfl; have hzgt_2 : w7.cell? ⟨gt, 2, none⟩ = some (.slice A0_2 l0_2.length c0_2) := (blk_cell BKt.out 2).trans rfl) | ((with_reducible refine gate_store (t := 34) (p := 7) rfl ?_); refine Go.Proofs.YtnggfglmjdiaaaaOwn.sto3 (t := 34) (p := 7) (g := go) (w0 := w) Yj_ rfl rfl rfl rfl (by rfl) BKo.out HB.out GEgo.out ?_; intro w8 hbx_ hB_ hO_; (try clear hzgt_0); (try clear hzgt_1); (try clear hzgt_2); replace HT := Aside0.mk (HT.out.only BKo.out (by decide) hO_); replace BKt := Aside0.mk ((hO_.others _ NBgt_go.out).trans BKt.out); replace BKx := Aside0.mk ((hO_.others _ NBgx_go.out).trans BKx.out); replace BKr := Aside0.mk ((hO_.others _ NBgr_go.out).trans BKr.out); replace BKn := Aside0.mk ((hO_.others _ NBgn_go.out).trans BKn.out); clear BKo HB hO_; have BKo := Aside0.mk hbx_; have HB := Aside0.mk hB_; clear hbx_ hB_; have hzgt_0 : w8.cell? ⟨gt, 0, none⟩ = some (.slice A0_0 l0_0.length c0_0) := (blk_cell BKt.out 0).trans rfl; have hzgt_1 : w8.cell? ⟨gt, 1, none⟩ = some (.int .i64 a0_1) := (blk_cell BKt.out 1).trans rfl; have hzgt_2 : w8.cell? ⟨gt, 2, none⟩ = some (.slice A0_2 l0_2.length c0_2) := (blk_cell BKt.out 2).trans rfl))
 (try clear hzgt_0)
 (try clear hzgt_1)
 (try clear hzgt_2)
 have hzgt_0 : w8.cell? ⟨gt, 0, none⟩ = some (.slice A0_0 l0_0.length c0_0) := (blk_cell BKt.out 0).trans rfl
 have hzgt_1 : w8.cell? ⟨gt, 1, none⟩ = some (.int .i64 a0_1) := (blk_cell BKt.out 1).trans rfl
 have hzgt_2 : w8.cell? ⟨gt, 2, none⟩ = some (.slice A0_2 l0_2.length c0_2) := (blk_cell BKt.out 2).trans rfl
 have hzgx_0 : w8.cell? ⟨gx, 0, none⟩ = some (.int .i64 a1_0) := (blk_cell BKx.out 0).trans rfl
 have hzgx_1 : w8.cell? ⟨gx, 1, none⟩ = some (.int .i64 a1_1) := (blk_cell BKx.out 1).trans rfl
 have hzgx_2 : w8.cell? ⟨gx, 2, none⟩ = some (.int .i64 a1_2) := (blk_cell BKx.out 2).trans rfl
 have hzgn_0 : w8.cell? ⟨gn, 0, none⟩ = some (.slice none 0 0) := (blk_cell BKn.out 0).trans rfl
 have hzgn_1 : w8.cell? ⟨gn, 1, none⟩ = some (.int .i64 0) := (blk_cell BKn.out 1).trans rfl
 have hzgn_2 : w8.cell? ⟨gn, 2, none⟩ = some (.slice none 0 0) := (blk_cell BKn.out 2).trans rfl
 by_cases k3 : a1_0 = 3
 ·rw [if_pos k3] at h
  subst k3
  replace h := Option.bind_eq_some_iff.mp h
  obtain ⟨⟨q1, q2⟩, a_, h⟩ := h
  have A2 := Aside0.mk a_
  clear a_
  dsimp only at h
  unfold lmCut at h
  by_cases c1 : q1 < 0
  ·rw [if_pos c1] at h
   simp only [Option.some.injEq, Prod.mk.injEq] at h
   obtain ⟨rfl, rfl, rfl, rfl⟩ := h
   have cb1 : decide (q1 < 0) = true := decide_eq_true c1
   clear c1
   clear BKx
   clear BKo
   clear HT
   go_wp2_with (first | (go_at_call 48; (with_reducible refine (spec_l9Find.calls k a0_1 _ _ l0_2 a1_1 q1 q2 _ (Kd.C_below HR0_2.out HB.out) HC0_2.out A2.out).mono ?_); rintro e w9 ⟨rfl, hb⟩; (try clear hzgn_0); (try clear hzgn_1); (try clear hzgn_2); (try clear hzgt_0); (try clear hzgt_1); (try clear hzgt_2); (try clear hzgx_0); (try clear hzgx_1); (try clear hzgx_2); replace BKt := Aside0.mk (blk_below BKt.out hb); replace BKr := Aside0.mk (blk_below BKr.out hb); replace BKn := Aside0.mk (blk_below BKn.out hb); replace HB := Aside0.mk (below_step HB.out hb); clear hb; have hzgn_0 : w9.cell? ⟨gn, 0, none⟩ = some (.slice none 0 0) := (blk_cell BKn.out 0).trans rfl; have hzgn_1 : w9.cell? ⟨gn, 1, none⟩ = some (.int .i64 0) := (blk_cell BKn.out 1).trans rfl; have hzgn_2 : w9.cell? ⟨gn, 2, none⟩ = some (.slice none 0 0) := (blk_cell BKn.out 2).trans rfl) | ((with_reducible refine gate_store (t := 34) (p := 4) rfl ?_); refine Go.Proofs.YtnggfglmjdiaaaaOwn.sto3 (t := 34) (p := 4) (g := gr) (w0 := w) Yj_ rfl rfl rfl rfl (by rfl) BKr.out HB.out GEgr.out ?_; intro w10 hbx_ hB_ hO_; (try clear hzgn_0); (try clear hzgn_1); (try clear hzgn_2); clear BKr HB hO_; have BKr := Aside0.mk hbx_; have HB := Aside0.mk hB_; clear hbx_ hB_))
   refine bodyPost_ret (Cc rfl _ _ gr 34 #[.slice none 0 0, .int .i64 0, .slice none 0 0] (0, 0) _ rfl BKr.out Try.underlying34 rfl Yj_) rfl ?_
   exact ⟨_, _, rfl, Go.Proofs.YtnggfglmjdiaaaaOwn.TT.nil _ _ _, HB.out⟩
  ·rw [if_neg c1] at h
   by_cases c2 : q1 < (l0_2.length : Int)
   ·rw [if_pos c2] at h
    have cb1 : decide (q1 < 0) = false := decide_eq_false c1
    have p_ : 0 ≤ q1 := by omega
    obtain ⟨adT, AT, cT, eT, hx_, hl_, hi_⟩ := Bo HR0_2.out q1 p_ c2
    subst eT
    have hlw_ := hi_.2.1
    obtain ⟨sT, hsT⟩ : ∃ z, z = rd_L1 l0_2 q1 := ⟨_, rfl⟩
    rw [← hsT] at h hx_ hlw_
    clear hl_ hi_ hsT
    have HXT := Aside0.mk hx_
    clear hx_
    have hwt_ : wrap64 ((sT.length : Int) - 1) = (sT.length : Int) - 1 := by unfold wrap64; omega
    clear hlw_
    have C1 := Aside0.mk p_
    have C2 := Aside0.mk c2
    have p1_ := eq_true p_
    have q1_ := eq_true c2
    clear p_ c1 c2
    by_cases c3 : q2 = (sT.length : Int) - 1
    ·rw [if_pos c3] at h
     have d1_ : (q2 == (sT.length : Int) - 1) = true := by simp [c3]
     have d2_ : decide (q2 = (sT.length : Int) - 1) = true := decide_eq_true c3
     have d3_ : (q2 != (sT.length : Int) - 1) = false := by simp [c3]
     clear c3
     rw [if_pos rfl] at h
     by_cases c5 : 0 ≤ q2 ∧ q1 < (B.length : Int) ∧ q2 ≤ ((rd_L1 B q1).length : Int)
     ·rw [if_pos c5] at h
      obtain ⟨sF, hsF⟩ : ∃ z, z = rd_L1 B q1 := ⟨_, rfl⟩
      rw [← hsF] at c5
      have HSsF := Aside0.mk hsF
      obtain ⟨c5, c6, c7⟩ := c5
      have Pq1 := Aside0.mk (show 0 ≤ q1 ∧ q1 < (nB : Int) from ⟨C1.out, by have := HT.out.swap.reads.1; omega⟩)
      have HMq2 := Aside0.mk (show (q2).toNat ≤ sF.length from by omega)
      have HQ0 := Aside0.mk c5
      have HQ1 := Aside0.mk c7
      clear c5 c6 c7
      obtain ⟨lF, hlF⟩ : ∃ z, z = cutAt B q1 q2 := ⟨_, rfl⟩
      have HLlF := Aside0.mk (show lF = B.set (q1).toNat ((B.getD (q1).toNat []).take (q2).toNat) from hlF)
      rw [← hlF] at h
      (try dsimp only at h)
      clear hlF hsF
      go_upto_region 7 with (first | (go_at_call 48; (with_reducible refine (spec_l9Find.calls k a0_1 _ _ l0_2 a1_1 q1 q2 _ (Kd.C_below HR0_2.out HB.out) HC0_2.out A2.out).mono ?_); rintro e w11 ⟨rfl, hb⟩; (try clear hzgn_0); (try clear hzgn_1); (try clear hzgn_2); (try clear hzgt_0); (try clear hzgt_1); (try clear hzgt_2); (try clear hzgx_0); (try clear hzgx_1); (try clear hzgx_2); replace HT := Aside0.mk (HT.out.below hb); replace BKt := Aside0.mk (blk_below BKt.out hb); replace BKx := Aside0.mk (blk_below BKx.out hb); replace BKr := Aside0.mk (blk_below BKr.out hb); replace BKn := Aside0.mk (blk_below BKn.out hb); replace BKo := Aside0.mk (blk_below BKo.out hb); replace HB := Aside0.mk (below_step HB.out hb); have hxt_ : w11.cell? (adT.add q1.toNat) = some (.slice AT sT.length cT) := (HB.out.cell (World.block_lt_of_cell? w _ HXT.out)).trans HXT.out; clear hb; have hzgt_0 : w11.cell? ⟨gt, 0, none⟩ = some (.slice A0_0 l0_0.length c0_0) := (blk_cell BKt.out 0).trans rfl; have hzgt_1 : w11.cell? ⟨gt, 1, none⟩ = some (.int .i64 a0_1) := (blk_cell BKt.out 1).trans rfl; have hzgt_2 : w11.cell? ⟨gt, 2, none⟩ = some (.slice (some adT) l0_2.length c0_2) := (blk_cell BKt.out 2).trans rfl; have hzgx_0 : w11.cell? ⟨gx, 0, none⟩ = some (.int .i64 3) := (blk_cell BKx.out 0).trans rfl; have hzgx_1 : w11.cell? ⟨gx, 1, none⟩ = some (.int .i64 a1_1) := (blk_cell BKx.out 1).trans rfl; have hzgx_2 : w11.cell? ⟨gx, 2, none⟩ = some (.int .i64 a1_2) := (blk_cell BKx.out 2).trans rfl))
      clear hwt_ d1_ d2_ d3_ p1_ q1_
      (try clear hxt_)
      (try clear hzgt_0)
      (try clear hzgt_1)
      (try clear hzgt_2)
      (try clear hzgx_0)
      (try clear hzgx_1)
      (try clear hzgx_2)
      clear BKt
      obtain ⟨gB_, eg_, gb_, gl_⟩ := HT.out.swap.form Yea_
      have GEB := Aside0.mk gb_
      clear gb_ gl_
      subst eg_
      obtain ⟨AsF, csF, hv_, hc_, hC_, hf_⟩ := Go.Proofs.YtnggfglmjdiaaaaOwn.TT.elem HT.out.swap (i := q1) Pq1.out.1 Yea_
      have e_ : (B.getD (q1).toNat []) = sF := HSsF.out.symm
      rw [e_] at hv_ hc_ hC_
      clear e_
      have HVsF := Aside0.mk hv_
      have HCsF := Aside0.mk hc_
      have HRsF := Aside0.mk hC_
      have HFsF := Aside0.mk hf_
      clear hv_ hc_ hC_ hf_
      have NXB_gx := Aside0.mk (Go.Proofs.YtnggfglmjdiaaaaOwn.TT.ne HT.out.swap BKx.out (by decide))
      have NXB_gr := Aside0.mk (Go.Proofs.YtnggfglmjdiaaaaOwn.TT.ne HT.out.swap BKr.out (by decide))
      have NXB_gn := Aside0.mk (Go.Proofs.YtnggfglmjdiaaaaOwn.TT.ne HT.out.swap BKn.out (by decide))
      have NXB_go := Aside0.mk (Go.Proofs.YtnggfglmjdiaaaaOwn.TT.ne HT.out.swap BKo.out (by decide))
      have p_q1 : 0 ≤ q1 := Pq1.out.1
      have q_q1 : q1 < (nB : Int) := Pq1.out.2
      replace p_q1 := eq_true p_q1
      replace q_q1 := eq_true q_q1
      obtain ⟨i0_, hi0_, _, hsz0_, _⟩ := info_parts info3
      have hcut_ := cut_to (P := Try.prog) 73 3 .i64 Try.underlying73 hi0_ AsF sF.length csF q2 HQ0.out HQ1.out HCsF.out
      replace HT := Aside0.mk (HT.out.drew)
      replace BKx := Aside0.mk (blk_drew BKx.out)
      replace BKr := Aside0.mk (blk_drew BKr.out)
      replace BKn := Aside0.mk (blk_drew BKn.out)
      replace BKo := Aside0.mk (blk_drew BKo.out)
      replace HB := Aside0.mk (below_drew1 HB.out)
      replace HVsF := Aside0.mk ((show (w11.drew).cell? ⟨gB_, (q1).toNat, none⟩ = some (.slice AsF sF.length csF) from HVsF.out))
      replace HFsF := Aside0.mk ((show (w11.drew).frozen? ⟨gB_, (q1).toNat, none⟩ = false from HFsF.out))
      refine start_ (n := 14) (S := fun w' => w'.cell? ⟨gB_, (q1).toNat, none⟩ = some (.slice AsF sF.length csF) ∧ w'.cell? ⟨go, 2, none⟩ = some (.slice (some ⟨gB_, 0, none⟩) nB cB)) (ds := [13]) #[false, false, false, false, false, false, false, false, false, false, false, false, false, false] Yj_ rfl rfl ⟨HVsF.out, (blk_cell BKo.out 2).trans rfl⟩ (fun hHeld => ?_)
      generalize w11.drew = w12 at HT BKx BKr BKn BKo HB HVsF HFsF hHeld ⊢
      refine pure_ (i := 0) (N := some 41) #[true, false, false, false, false, false, false, false, false, false, false, false, false, false] rfl rfl Yj_ (fun _ _ _ h => h) (Or.inl ⟨by rfl, Yba_⟩) Ya_ ?_
      refine pure_ (i := 1) (N := some 42) #[true, true, false, false, false, false, false, false, false, false, false, false, false, false] rfl rfl Yj_ (fun _ _ _ h => h) (Or.inl ⟨by rfl, Yba_⟩) Ya_ ?_
      refine pure_ (i := 3) (N := some 44) #[true, true, false, true, false, false, false, false, false, false, false, false, false, false] rfl rfl Yj_ (fun _ _ _ h => h) (Or.inl ⟨by rfl, Yba_⟩) Ya_ ?_
      refine pure_ (i := 4) (N := some 45) #[true, true, false, true, true, false, false, false, false, false, false, false, false, false] rfl rfl Yj_ (fun _ _ _ h => h) (Or.inl ⟨by rfl, Yba_⟩) Ya_ ?_
      refine pure_ (i := 5) (N := some 46) #[true, true, false, true, true, true, false, false, false, false, false, false, false, false] rfl rfl Yj_ (fun _ _ _ h => h) (Or.inl ⟨by rfl, Yba_⟩) Ya_ ?_
      refine pure_ (i := 7) (N := some 48) #[true, true, false, true, true, true, false, true, false, false, false, false, false, false] rfl rfl Yj_ (fun _ _ _ h => h) (Or.inl ⟨by rfl, Yba_⟩) Ya_ ?_
      refine pure_ (i := 10) (N := some 51) #[true, true, false, true, true, true, false, true, false, false, true, false, false, false] rfl rfl Yj_ (fun _ _ _ h => h) (Or.inl ⟨by rfl, Yba_⟩) Ya_ ?_
      refine take_ (i := 2) (N := some 43) #[true, true, true, true, true, true, false, true, false, false, true, false, false, false] rfl rfl Yj_ (fun _ _ _ h => h) (Or.inl ⟨by rfl, Ybi_⟩) hHeld Ya_ ?_
      refine take_ (i := 6) (N := some 47) #[true, true, true, true, true, true, true, true, false, false, true, false, false, false] rfl rfl Yj_ (fun _ _ _ h => h) (Or.inl ⟨by rfl, Ybi_⟩) hHeld Ya_ ?_
      refine pure_ (i := 8) (N := some 49) #[true, true, true, true, true, true, true, true, true, false, true, false, false, false] rfl rfl Yj_ (fun _ _ _ h => h) (Or.inl ⟨by rfl, Yba_⟩) Ya_ ?_
      refine take_ (i := 9) (N := some 50) #[true, true, true, true, true, true, true, true, true, true, true, false, false, false] rfl rfl Yj_ (fun _ _ _ h => h) (Or.inl ⟨by rfl, Ybi_⟩) hHeld Ya_ ?_
      refine pure_ (i := 11) (N := some 52) #[true, true, true, true, true, true, true, true, true, true, true, true, false, false] rfl rfl Yj_ (fun _ _ _ h => h) (Or.inl ⟨by rfl, Yba_⟩) Ya_ ?_
      refine pure_ (i := 12) (N := some 53) #[true, true, true, true, true, true, true, true, true, true, true, true, true, false] rfl rfl Yj_ (fun _ _ _ h => h) (Or.inl ⟨by rfl, Yba_⟩) Ya_ ?_
      refine last_ (i := 13) (N := none) #[true, true, true, true, true, true, true, true, true, true, true, true, true, true] rfl rfl Yj_ (by decide) (fun K hK => ?_)
      have hv_ := HVsF.out
      have hf_ := HFsF.out
      refine Go.Proofs.YtnggfglmjdiaaaaOwn.Ej (w1 := (w12.setCell ⟨gB_, (q1).toNat, none⟩ (.slice AsF (q2).toNat csF))) (by rfl) rfl ?_ ?_
      ·first | (go_simp; done) | (go_simp; rfl)
      intro w13 hw
      clear hv_ hf_
      have hO_ : Go.Proofs.YtnggfglmjdiaaaaOwn.Only w12 w13 gB_ := Ybh_
      have ht_ := (Go.Proofs.YtnggfglmjdiaaaaOwn.TT.cut HT.out.swap Pq1.out.1 Yea_ HVsF.out (by rw [show (B.getD (q1).toNat []) = sF from HSsF.out.symm]; exact HMq2.out)).1.swap
      rw [← hw] at ht_
      clear HT
      have HT := Aside0.mk ht_
      clear ht_ hw
      replace BKx := Aside0.mk ((hO_.others _ NXB_gx.out).trans BKx.out)
      replace BKr := Aside0.mk ((hO_.others _ NXB_gr.out).trans BKr.out)
      replace BKn := Aside0.mk ((hO_.others _ NXB_gn.out).trans BKn.out)
      replace BKo := Aside0.mk ((hO_.others _ NXB_go.out).trans BKo.out)
      replace HB := Aside0.mk (hO_.below HB.out GEB.out)
      clear hO_
      clear NXB_gx
      clear NXB_gr
      clear NXB_gn
      clear NXB_go
      rw [show B.set (q1).toNat ((B.getD (q1).toNat []).take (q2).toNat) = lF from HLlF.out.symm] at HT
      refine hK.out _ _ ?_
      clear hK K
      refine done_ Yj_ ?_
      clear p_q1 q_q1 HVsF HFsF HCsF HRsF
      clear hcut_ hi0_ hsz0_ HQ0 HQ1 HMq2
      have hzgx_0 : w13.cell? ⟨gx, 0, none⟩ = some (.int .i64 3) := (blk_cell BKx.out 0).trans rfl
      have hzgx_1 : w13.cell? ⟨gx, 1, none⟩ = some (.int .i64 a1_1) := (blk_cell BKx.out 1).trans rfl
      have hzgx_2 : w13.cell? ⟨gx, 2, none⟩ = some (.int .i64 a1_2) := (blk_cell BKx.out 2).trans rfl
      have hzgn_0 : w13.cell? ⟨gn, 0, none⟩ = some (.slice none 0 0) := (blk_cell BKn.out 0).trans rfl
      have hzgn_1 : w13.cell? ⟨gn, 1, none⟩ = some (.int .i64 0) := (blk_cell BKn.out 1).trans rfl
      have hzgn_2 : w13.cell? ⟨gn, 2, none⟩ = some (.slice none 0 0) := (blk_cell BKn.out 2).trans rfl
      have hzgo_0 : w13.cell? ⟨go, 0, none⟩ = some (.slice AY nY cY) := (blk_cell BKo.out 0).trans rfl
      have hzgo_1 : w13.cell? ⟨go, 1, none⟩ = some (.int .i64 hh) := (blk_cell BKo.out 1).trans rfl
      have hzgo_2 : w13.cell? ⟨go, 2, none⟩ = some (.slice (some ⟨gB_, 0, none⟩) nB cB) := (blk_cell BKo.out 2).trans rfl
      unfold lmPutY at h
      have hwn_ : wrap64 ((nY : Int) - 1) = (nY : Int) - 1 := by have h1_ := HT.out.reads; have h2_ := h1_.2.2.2.1; have h3_ := h1_.1; unfold wrap64; omega
      have HWI := Aside0.mk (show Ba.f a1_2 0 ((nY : Int) - 1) = some (inRows Y a1_2) from by rw [HT.out.reads.1]; exact l1In_f2 _ _ _)
      cases cW : inRows Y a1_2 with
      | false =>
       rw [cW] at HWI
       rw [cW, if_neg (by decide)] at h
       simp only [Option.some.injEq, Prod.mk.injEq] at h
       obtain ⟨rfl, rfl, rfl, rfl⟩ := h
       clear BKx
       clear BKo
       clear HT
       go_wp2_with (first | (go_at_call 71; (with_reducible refine (Ba.calls a1_2 0 ((nY : Int) - 1) false _ HWI.out).mono ?_); rintro e w14 ⟨rfl, hd_⟩; (try clear hzgn_0); (try clear hzgn_1); (try clear hzgn_2); (try clear hzgo_0); (try clear hzgo_1); (try clear hzgo_2); (try clear hzgx_0); (try clear hzgx_1); (try clear hzgx_2); have hb := Drawn0.below hd_; clear hd_; replace BKr := Aside0.mk (blk_below BKr.out hb); replace BKn := Aside0.mk (blk_below BKn.out hb); replace HB := Aside0.mk (below_step HB.out hb); clear hb; have hzgn_0 : w14.cell? ⟨gn, 0, none⟩ = some (.slice none 0 0) := (blk_cell BKn.out 0).trans rfl; have hzgn_1 : w14.cell? ⟨gn, 1, none⟩ = some (.int .i64 0) := (blk_cell BKn.out 1).trans rfl; have hzgn_2 : w14.cell? ⟨gn, 2, none⟩ = some (.slice none 0 0) := (blk_cell BKn.out 2).trans rfl) | ((with_reducible refine gate_store (t := 34) (p := 4) rfl ?_); refine Go.Proofs.YtnggfglmjdiaaaaOwn.sto3 (t := 34) (p := 4) (g := gr) (w0 := w) Yj_ rfl rfl rfl rfl (by rfl) BKr.out HB.out GEgr.out ?_; intro w15 hbx_ hB_ hO_; (try clear hzgn_0); (try clear hzgn_1); (try clear hzgn_2); clear BKr HB hO_; have BKr := Aside0.mk hbx_; have HB := Aside0.mk hB_; clear hbx_ hB_))
       refine bodyPost_ret (Cc rfl _ _ gr 34 #[.slice none 0 0, .int .i64 0, .slice none 0 0] (0, 0) _ rfl BKr.out Try.underlying34 rfl Yj_) rfl ?_
       exact ⟨_, _, rfl, Go.Proofs.YtnggfglmjdiaaaaOwn.TT.nil _ _ _, HB.out⟩
      | true =>
       rw [cW] at HWI
       rw [cW, if_pos rfl] at h
       have Pa1_2 := Aside0.mk (show 0 ≤ a1_2 ∧ a1_2 < (nY : Int) from by have h1_ := inRows_lt cW; have h2_ := HT.out.reads.1; omega)
       clear cW
       obtain ⟨sG, hsG⟩ : ∃ z, z = rd_L1 Y a1_2 := ⟨_, rfl⟩
       rw [← hsG] at h
       have HSsG := Aside0.mk hsG
       clear hsG
       by_cases cS : (Ce.f sG).isSome = true
       ·rw [if_pos cS] at h
        clear cS
        replace h := Option.bind_eq_some_iff.mp h
        obtain ⟨sC, a_, h⟩ := h
        have A3 := Aside0.mk a_
        clear a_
        by_cases cL : sC.length < 17592186044415
        ·rw [if_pos cL] at h
         have HLsC := Aside0.mk cL
         clear cL
         obtain ⟨sH, hsH⟩ : ∃ z, z = sC ++ [a1_1] := ⟨_, rfl⟩
         have HSsH := Aside0.mk hsH
         obtain ⟨lG, hlG⟩ : ∃ z, z = Y.set (a1_2).toNat (sC ++ [a1_1]) := ⟨_, rfl⟩
         have HLlG := Aside0.mk (show lG = Y.set (a1_2).toNat sH from by rw [hlG, hsH])
         rw [← hlG] at h
         clear hlG hsH
         replace h := Option.bind_eq_some_iff.mp h
         obtain ⟨vv, a_, h⟩ := h
         have A4 := Aside0.mk a_
         clear a_
         go_upto_region 18 with (first | (go_at_call 71; (with_reducible refine (Ba.calls a1_2 0 ((nY : Int) - 1) true _ HWI.out).mono ?_); rintro e w16 ⟨rfl, hd_⟩; (try clear hzgn_0); (try clear hzgn_1); (try clear hzgn_2); (try clear hzgo_0); (try clear hzgo_1); (try clear hzgo_2); (try clear hzgx_0); (try clear hzgx_1); (try clear hzgx_2); have hb := Drawn0.below hd_; clear hd_; replace HT := Aside0.mk (HT.out.below hb); replace BKx := Aside0.mk (blk_below BKx.out hb); replace BKr := Aside0.mk (blk_below BKr.out hb); replace BKn := Aside0.mk (blk_below BKn.out hb); replace BKo := Aside0.mk (blk_below BKo.out hb); replace HB := Aside0.mk (below_step HB.out hb); clear hb))
         clear hwn_ HWI
         obtain ⟨gY_, eg_, gb_, gl_⟩ := HT.out.form Ycb_
         have GEY := Aside0.mk gb_
         clear gb_ gl_
         subst eg_
         obtain ⟨AsG, csG, hv_, hc_, hC_, hf_⟩ := Go.Proofs.YtnggfglmjdiaaaaOwn.TT.elem HT.out (i := a1_2) Pa1_2.out.1 Ycb_
         have e_ : (Y.getD (a1_2).toNat []) = sG := HSsG.out.symm
         rw [e_] at hv_ hc_ hC_
         clear e_
         have HVsG := Aside0.mk hv_
         have HCsG := Aside0.mk hc_
         have HRsG := Aside0.mk hC_
         have HFsG := Aside0.mk hf_
         clear hv_ hc_ hC_ hf_
         have NXY_gx := Aside0.mk (Go.Proofs.YtnggfglmjdiaaaaOwn.TT.ne HT.out BKx.out (by decide))
         have NXY_gr := Aside0.mk (Go.Proofs.YtnggfglmjdiaaaaOwn.TT.ne HT.out BKr.out (by decide))
         have NXY_gn := Aside0.mk (Go.Proofs.YtnggfglmjdiaaaaOwn.TT.ne HT.out BKn.out (by decide))
         have NXY_go := Aside0.mk (Go.Proofs.YtnggfglmjdiaaaaOwn.TT.ne HT.out BKo.out (by decide))
         have p_a1_2 : 0 ≤ a1_2 := Pa1_2.out.1
         have q_a1_2 : a1_2 < (nY : Int) := Pa1_2.out.2
         replace p_a1_2 := eq_true p_a1_2
         replace q_a1_2 := eq_true q_a1_2
         replace HT := Aside0.mk (HT.out.drew)
         replace BKx := Aside0.mk (blk_drew BKx.out)
         replace BKr := Aside0.mk (blk_drew BKr.out)
         replace BKn := Aside0.mk (blk_drew BKn.out)
         replace BKo := Aside0.mk (blk_drew BKo.out)
         replace HB := Aside0.mk (below_drew1 HB.out)
         replace HVsG := Aside0.mk ((show (w16.drew).cell? ⟨gY_, (a1_2).toNat, none⟩ = some (.slice AsG sG.length csG) from HVsG.out))
         replace HFsG := Aside0.mk ((show (w16.drew).frozen? ⟨gY_, (a1_2).toNat, none⟩ = false from HFsG.out))
         replace HRsG := Aside0.mk ((show Kd.C (Kd.int .i64) (w16.drew) AsG sG.length sG from HRsG.out))
         refine start_ (n := 19) (S := fun w' => w'.cell? ⟨gY_, (a1_2).toNat, none⟩ = some (.slice AsG sG.length csG) ∧ w'.cell? ⟨go, 0, none⟩ = some (.slice (some ⟨gY_, 0, none⟩) nY cY) ∧ w'.cell? ⟨gx, 1, none⟩ = some (.int .i64 a1_1) ∧ w'.cell? ⟨gx, 2, none⟩ = some (.int .i64 a1_2)) (ds := [18]) #[false, false, false, false, false, false, false, false, false, false, false, false, false, false, false, false, false, false, false] Yj_ rfl rfl ⟨HVsG.out, (blk_cell BKo.out 0).trans rfl, (blk_cell BKx.out 1).trans rfl, (blk_cell BKx.out 2).trans rfl⟩ (fun hHeld => ?_)
         generalize w16.drew = w17 at HT BKx BKr BKn BKo HB HVsG HFsG HRsG hHeld ⊢
         refine pure_ (i := 0) (N := some 117) #[true, false, false, false, false, false, false, false, false, false, false, false, false, false, false, false, false, false, false] rfl rfl Yj_ (fun _ _ _ h => h) (Or.inl ⟨by rfl, Yba_⟩) Ya_ ?_
         refine pure_ (i := 1) (N := some 118) #[true, true, false, false, false, false, false, false, false, false, false, false, false, false, false, false, false, false, false] rfl rfl Yj_ (fun _ _ _ h => h) (Or.inl ⟨by rfl, Yba_⟩) Ya_ ?_
         refine pure_ (i := 3) (N := some 120) #[true, true, false, true, false, false, false, false, false, false, false, false, false, false, false, false, false, false, false] rfl rfl Yj_ (fun _ _ _ h => h) (Or.inl ⟨by rfl, Yba_⟩) Ya_ ?_
         refine pure_ (i := 5) (N := some 122) #[true, true, false, true, false, true, false, false, false, false, false, false, false, false, false, false, false, false, false] rfl rfl Yj_ (fun _ _ _ h => h) (Or.inl ⟨by rfl, Yba_⟩) Ya_ ?_
         refine pure_ (i := 6) (N := some 123) #[true, true, false, true, false, true, true, false, false, false, false, false, false, false, false, false, false, false, false] rfl rfl Yj_ (fun _ _ _ h => h) (Or.inl ⟨by rfl, Yba_⟩) Ya_ ?_
         refine pure_ (i := 8) (N := some 125) #[true, true, false, true, false, true, true, false, true, false, false, false, false, false, false, false, false, false, false] rfl rfl Yj_ (fun _ _ _ h => h) (Or.inl ⟨by rfl, Yba_⟩) Ya_ ?_
         refine pure_ (i := 13) (N := some 130) #[true, true, false, true, false, true, true, false, true, false, false, false, false, true, false, false, false, false, false] rfl rfl Yj_ (fun _ _ _ h => h) (Or.inl ⟨by rfl, Yba_⟩) Ya_ ?_
         refine take_ (i := 2) (N := some 119) #[true, true, true, true, false, true, true, false, true, false, false, false, false, true, false, false, false, false, false] rfl rfl Yj_ (fun _ _ _ h => h) (Or.inl ⟨by rfl, Ybf_⟩) hHeld Ya_ ?_
         refine take_ (i := 4) (N := some 121) #[true, true, true, true, true, true, true, false, true, false, false, false, false, true, false, false, false, false, false] rfl rfl Yj_ (fun _ _ _ h => h) (Or.inl ⟨by rfl, Ybf_⟩) hHeld Ya_ ?_
         refine take_ (i := 7) (N := some 124) #[true, true, true, true, true, true, true, true, true, false, false, false, false, true, false, false, false, false, false] rfl rfl Yj_ (fun _ _ _ h => h) (Or.inl ⟨by rfl, Ybf_⟩) hHeld Ya_ ?_
         refine take_ (i := 9) (N := some 126) #[true, true, true, true, true, true, true, true, true, true, false, false, false, true, false, false, false, false, false] rfl rfl Yj_ (fun _ _ _ h => h) (Or.inl ⟨by rfl, Ybf_⟩) hHeld Ya_ ?_
         refine pure_ (i := 10) (N := some 127) #[true, true, true, true, true, true, true, true, true, true, true, false, false, true, false, false, false, false, false] rfl rfl Yj_ (fun _ _ _ h => h) (Or.inl ⟨by rfl, Yba_⟩) Ya_ ?_
         refine take_ (i := 11) (N := some 128) #[true, true, true, true, true, true, true, true, true, true, true, true, false, true, false, false, false, false, false] rfl rfl Yj_ (fun _ _ _ h => h) (Or.inl ⟨by rfl, Ybf_⟩) hHeld Ya_ ?_
         refine take_ (i := 14) (N := some 131) #[true, true, true, true, true, true, true, true, true, true, true, true, false, true, true, false, false, false, false] rfl rfl Yj_ (fun _ _ _ h => h) (Or.inl ⟨by rfl, Ybf_⟩) hHeld Ya_ ?_
         refine join_ (σ := Value × Option Addr × Nat) 3 #[true, true, true, true, true, true, true, true, true, true, true, true, true, true, true, true, false, false, false] (fun s => match s with | ⟨vC, A40, c40⟩ => [(129, vC), (132, .slice A40 ([a1_1] : List Int).length c40)]) (fun s w' => match s with | ⟨vC, A40, c40⟩ => Aside0 (Kd.R (Kd.int .i64) 3 w' w17.heap.size (fun _ => True) vC sC) ∧ Aside0 (Kd.R (Kd.int .i64) 3 w' w17.heap.size (fun _ => True) (.slice A40 ([a1_1] : List Int).length c40) [a1_1]) ∧ Aside0 (Below w17.heap.size w17 w')) ?_ ?_
         rotate_left
         ·intro hCont
          refine two_ (i := 12) (j := 15) (Ni := some 129) (Nj := some 132) #[true, true, true, true, true, true, true, true, true, true, true, true, true, true, true, false, false, false, false] #[true, true, true, true, true, true, true, true, true, true, true, true, false, true, true, true, false, false, false] rfl rfl rfl rfl Yj_ (by decide) (by decide) (fun K hK => ?_) (fun K hK => ?_)
          ·skip
           have HB2 := Aside0.mk (Below.refl w17.heap.size w17)
           refine goes_ Try.func72 Yj_ rfl #[.slice AsG sG.length csG] (by rfl) rfl rfl Ycf_ ?_
           with_reducible refine (Ce.calls _ _ sG sC _ (Kd.C_below HRsG.out HB2.out) HCsG.out A3.out).mono ?_
           rintro e W1_ ⟨vC, rfl, ho_, hb_⟩
           refine ⟨_, rfl, ?_⟩
           have HN := Aside0.mk (Kd.R_lower ho_ (below_size HB2.out))
           have m_ := Aside0.mk (below_step HB2.out hb_)
           clear HB2 ho_ hb_
           have HB2 := m_
           clear m_
           refine hK.out _ _ ⟨(HB2.out.cell (World.block_lt_of_cell? _ _ HVsG.out)).trans HVsG.out, (blk_cell (blk_below BKo.out HB2.out) 0).trans rfl, (blk_cell (blk_below BKx.out HB2.out) 1).trans rfl, (blk_cell (blk_below BKx.out HB2.out) 2).trans rfl⟩ (fun hHeld => ?_)
           clear hK K
           refine norm_ (show Act.put _ (some 129) _ = _ from Ya_) ?_
           refine one_ (i := 15) (N := some 132) #[true, true, true, true, true, true, true, true, true, true, true, true, true, true, true, true, false, false, false] rfl rfl Yj_ (by decide) (fun K hK => ?_)
           refine Kd.Fe (Kd.int .i64) w17.heap.size 3 ?hg (N := 132) ?hd (xs := ([a1_1] : List Int)) (inner := [.int .i64 a1_1]) (ok := fun _ => True) (okp := fun _ => True) ?hr ?hp (fun _ hk => hk) trivial HB2.out (below_size HB2.out) (by simp) ?_; (case hd => rfl); (case hg => rfl); (case hr => first | (go_simp; done) | (go_simp; rfl)); (case hp => exact (Reps.one (show Kd.M (Kd.int .i64) _ _ _ a1_1 [.int .i64 a1_1] from rfl) (Reps.none _ _)))
           intro vL_ W2_ ho hb hg_ hnew_
           obtain ⟨A40, c40, e40_⟩ := Kd.Cm ho
           subst e40_
           have HL := Aside0.mk ho
           replace HN := Aside0.mk (Kd.R_grown HN.out hg_ (fun _ _ h_ => nomatch h_))
           clear HB2
           have HB2 := Aside0.mk hb
           clear hb hg_ hnew_ ho
           refine hK.out _ _ ⟨(HB2.out.cell (World.block_lt_of_cell? _ _ HVsG.out)).trans HVsG.out, (blk_cell (blk_below BKo.out HB2.out) 0).trans rfl, (blk_cell (blk_below BKx.out HB2.out) 1).trans rfl, (blk_cell (blk_below BKx.out HB2.out) 2).trans rfl⟩ (fun hHeld => ?_)
           clear hK K
           refine norm_ (show Act.put _ (some 132) _ = _ from Ya_) ?_
           exact norm_ Ybe_ (hCont (vC, A40, c40) _ ⟨HN, HL, HB2⟩)
          ·skip
           have HB2 := Aside0.mk (Below.refl w17.heap.size w17)
           refine Kd.Fe (Kd.int .i64) w17.heap.size 3 ?hg (N := 132) ?hd (xs := ([a1_1] : List Int)) (inner := [.int .i64 a1_1]) (ok := fun _ => True) (okp := fun _ => True) ?hr ?hp (fun _ hk => hk) trivial HB2.out (below_size HB2.out) (by simp) ?_; (case hd => rfl); (case hg => rfl); (case hr => first | (go_simp; done) | (go_simp; rfl)); (case hp => exact (Reps.one (show Kd.M (Kd.int .i64) _ _ _ a1_1 [.int .i64 a1_1] from rfl) (Reps.none _ _)))
           intro vL_ W1_ ho hb hg_ hnew_
           obtain ⟨A40, c40, e40_⟩ := Kd.Cm ho
           subst e40_
           have HL := Aside0.mk ho
           clear HB2
           have HB2 := Aside0.mk hb
           clear hb hg_ hnew_ ho
           refine hK.out _ _ ⟨(HB2.out.cell (World.block_lt_of_cell? _ _ HVsG.out)).trans HVsG.out, (blk_cell (blk_below BKo.out HB2.out) 0).trans rfl, (blk_cell (blk_below BKx.out HB2.out) 1).trans rfl, (blk_cell (blk_below BKx.out HB2.out) 2).trans rfl⟩ (fun hHeld => ?_)
           clear hK K
           refine norm_ (show Act.put _ (some 132) _ = _ from Ya_) ?_
           refine one_ (i := 12) (N := some 129) #[true, true, true, true, true, true, true, true, true, true, true, true, true, true, true, true, false, false, false] rfl rfl Yj_ (by decide) (fun K hK => ?_)
           refine goes_ Try.func72 Yj_ rfl #[.slice AsG sG.length csG] (by rfl) rfl rfl Ycf_ ?_
           with_reducible refine (Ce.calls _ _ sG sC _ (Kd.C_below HRsG.out HB2.out) HCsG.out A3.out).mono ?_
           rintro e W2_ ⟨vC, rfl, ho_, hb_⟩
           refine ⟨_, rfl, ?_⟩
           have HN := Aside0.mk (Kd.R_lower ho_ (below_size HB2.out))
           replace HL := Aside0.mk (Kd.R_below HL.out hb_)
           have m_ := Aside0.mk (below_step HB2.out hb_)
           clear HB2 ho_ hb_
           have HB2 := m_
           clear m_
           refine hK.out _ _ ⟨(HB2.out.cell (World.block_lt_of_cell? _ _ HVsG.out)).trans HVsG.out, (blk_cell (blk_below BKo.out HB2.out) 0).trans rfl, (blk_cell (blk_below BKx.out HB2.out) 1).trans rfl, (blk_cell (blk_below BKx.out HB2.out) 2).trans rfl⟩ (fun hHeld => ?_)
           clear hK K
           refine norm_ (show Act.put _ (some 129) _ = _ from Ya_) ?_
           exact norm_ Ybe_ (hCont (vC, A40, c40) _ ⟨HN, HL, HB2⟩)
         rintro ⟨vC, A40, c40⟩ W4_ ⟨HN, HL, HB2⟩
         have hHeld : (fun w' => w'.cell? ⟨gY_, (a1_2).toNat, none⟩ = some (.slice AsG sG.length csG) ∧ w'.cell? ⟨go, 0, none⟩ = some (.slice (some ⟨gY_, 0, none⟩) nY cY) ∧ w'.cell? ⟨gx, 1, none⟩ = some (.int .i64 a1_1) ∧ w'.cell? ⟨gx, 2, none⟩ = some (.int .i64 a1_2)) W4_ := ⟨(HB2.out.cell (World.block_lt_of_cell? _ _ HVsG.out)).trans HVsG.out, (blk_cell (blk_below BKo.out HB2.out) 0).trans rfl, (blk_cell (blk_below BKx.out HB2.out) 1).trans rfl, (blk_cell (blk_below BKx.out HB2.out) 2).trans rfl⟩
         refine norm_ (a' := ?_) ?_ ?_
         rotate_left
         ·simp only [Dv, Act.put, List.setIfInBounds_toArray, List.set_cons_zero, List.set_cons_succ]
          rfl
         refine one_ (i := 16) (N := some 133) #[true, true, true, true, true, true, true, true, true, true, true, true, true, true, true, true, true, false, false] rfl rfl Yj_ (by decide) (fun K hK => ?_)
         refine Kd.Fb (Kd.int .i64) (w0 := w17) w17.heap.size (by rfl) (.tmp 129) (.tmp 132) 73 3 (.int .i64 0) 8 rfl Try.underlying73 info3 rfl (by decide) (by omega) vC sC [a1_1] A40 ([a1_1] : List Int).length c40 (fun _ => True) (fun _ => False) rfl rfl HN.out ((Kd.Cf HL.out).2.2) (fun _ _ h => h) (fun _ h => h.elim) (fun _ _ => trivial) HB2.out (below_size HB2.out) Ydi_ ?_
         intro v_ w18 ho hb hg hat
         clear hg hat HN HL HB2
         rw [← HSsH.out] at ho
         obtain ⟨AsH, csH, ev_⟩ := Kd.Cm ho
         subst ev_
         have hk_ := (Go.Proofs.YtnggfglmjdiaaaaOwn.TT.put HT.out (below_size HB.out) hb Pa1_2.out.1 Ycb_ ho).1
         have HT2 := Aside0.mk hk_
         clear hk_ ho HT
         have hv_ := (hb.cell (World.block_lt_of_cell? _ _ HVsG.out)).trans HVsG.out
         have hf_ := (World.frozen?_of_block (hb.block _ (World.block_lt_of_cell? _ _ HVsG.out))).trans HFsG.out
         clear HVsG HFsG
         have HVsG := Aside0.mk hv_
         have HFsG := Aside0.mk hf_
         clear hv_ hf_
         replace BKx := Aside0.mk (blk_below BKx.out hb)
         replace BKr := Aside0.mk (blk_below BKr.out hb)
         replace BKn := Aside0.mk (blk_below BKn.out hb)
         replace BKo := Aside0.mk (blk_below BKo.out hb)
         replace HB := Aside0.mk (below_step HB.out hb)
         clear hb
         refine hK.out _ _ ⟨HVsG.out, (blk_cell BKo.out 0).trans rfl, (blk_cell BKx.out 1).trans rfl, (blk_cell BKx.out 2).trans rfl⟩ (fun hHeld => ?_)
         clear hK K
         refine norm_ (show Act.put _ (some 133) _ = _ from Ya_) ?_
         refine pure_ (i := 17) (N := some 134) #[true, true, true, true, true, true, true, true, true, true, true, true, true, true, true, true, true, true, false] rfl rfl Yj_ (fun _ _ _ h => h) (Or.inl ⟨by rfl, Yba_⟩) Ya_ ?_
         refine last_ (i := 18) (N := none) #[true, true, true, true, true, true, true, true, true, true, true, true, true, true, true, true, true, true, true] rfl rfl Yj_ (by decide) (fun K hK => ?_)
         have hv_ := HVsG.out
         have hf_ := HFsG.out
         refine Go.Proofs.YtnggfglmjdiaaaaOwn.Ej (w1 := (w18.setCell ⟨gY_, (a1_2).toNat, none⟩ (.slice AsH sH.length csH))) (by rfl) rfl ?_ ?_
         ·first | (go_simp; done) | (go_simp; rfl)
         intro w19 hw
         clear hv_ hf_
         have HT := HT2
         clear HT2
         have hO_ : Go.Proofs.YtnggfglmjdiaaaaOwn.Only w18 w19 gY_ := Ybh_
         have ht_ := HT.out
         rw [← hw] at ht_
         clear HT
         have HT := Aside0.mk ht_
         clear ht_ hw
         replace BKx := Aside0.mk ((hO_.others _ NXY_gx.out).trans BKx.out)
         replace BKr := Aside0.mk ((hO_.others _ NXY_gr.out).trans BKr.out)
         replace BKn := Aside0.mk ((hO_.others _ NXY_gn.out).trans BKn.out)
         replace BKo := Aside0.mk ((hO_.others _ NXY_go.out).trans BKo.out)
         replace HB := Aside0.mk (hO_.below HB.out GEY.out)
         clear hO_
         clear NXY_gx
         clear NXY_gr
         clear NXY_gn
         clear NXY_go
         rw [show Y.set (a1_2).toNat sH = lG from HLlG.out.symm] at HT
         refine hK.out _ _ ?_
         clear hK K
         refine done_ Yj_ ?_
         clear p_a1_2 q_a1_2 HVsG HFsG HCsG HRsG
         have hy_ := HT.out.reads
         have hb_ := HT.out.swap.reads
         have call_ := Ad.calls k (some ⟨gY_, 0, none⟩) cY lG hh (some ⟨gB_, 0, none⟩) cB lF vv _ hy_.2.2 (hy_.1 ▸ hy_.2.1) hb_.2.2 (hb_.1 ▸ hb_.2.1) A4.out
         rw [← hy_.1, ← hb_.1] at call_
         have CALLV := Aside0.mk call_
         clear call_ hy_ hb_
         clear BKx
         have hzgn_0 : w19.cell? ⟨gn, 0, none⟩ = some (.slice none 0 0) := (blk_cell BKn.out 0).trans rfl
         have hzgn_1 : w19.cell? ⟨gn, 1, none⟩ = some (.int .i64 0) := (blk_cell BKn.out 1).trans rfl
         have hzgn_2 : w19.cell? ⟨gn, 2, none⟩ = some (.slice none 0 0) := (blk_cell BKn.out 2).trans rfl
         have hzgo_0 : w19.cell? ⟨go, 0, none⟩ = some (.slice (some ⟨gY_, 0, none⟩) nY cY) := (blk_cell BKo.out 0).trans rfl
         have hzgo_1 : w19.cell? ⟨go, 1, none⟩ = some (.int .i64 hh) := (blk_cell BKo.out 1).trans rfl
         have hzgo_2 : w19.cell? ⟨go, 2, none⟩ = some (.slice (some ⟨gB_, 0, none⟩) nB cB) := (blk_cell BKo.out 2).trans rfl
         cases vv with
         | false =>
          simp only [Ew, Bool.false_eq_true, if_false] at h
          simp only [Option.some.injEq, Prod.mk.injEq] at h
          obtain ⟨rfl, rfl, rfl, rfl⟩ := h
          clear BKo
          clear HT
          go_wp2_with (first | (go_at_call 39; (with_reducible refine (CALLV.out).mono ?_); rintro e w20 ⟨rfl, hb⟩; (try clear hzgn_0); (try clear hzgn_1); (try clear hzgn_2); (try clear hzgo_0); (try clear hzgo_1); (try clear hzgo_2); replace BKr := Aside0.mk (blk_below BKr.out hb); replace BKn := Aside0.mk (blk_below BKn.out hb); replace HB := Aside0.mk (below_step HB.out hb); clear hb; have hzgn_0 : w20.cell? ⟨gn, 0, none⟩ = some (.slice none 0 0) := (blk_cell BKn.out 0).trans rfl; have hzgn_1 : w20.cell? ⟨gn, 1, none⟩ = some (.int .i64 0) := (blk_cell BKn.out 1).trans rfl; have hzgn_2 : w20.cell? ⟨gn, 2, none⟩ = some (.slice none 0 0) := (blk_cell BKn.out 2).trans rfl) | ((with_reducible refine gate_store (t := 34) (p := 4) rfl ?_); refine Go.Proofs.YtnggfglmjdiaaaaOwn.sto3 (t := 34) (p := 4) (g := gr) (w0 := w) Yj_ rfl rfl rfl rfl (by rfl) BKr.out HB.out GEgr.out ?_; intro w21 hbx_ hB_ hO_; (try clear hzgn_0); (try clear hzgn_1); (try clear hzgn_2); clear BKr HB hO_; have BKr := Aside0.mk hbx_; have HB := Aside0.mk hB_; clear hbx_ hB_))
          refine bodyPost_ret (Cc rfl _ _ gr 34 #[.slice none 0 0, .int .i64 0, .slice none 0 0] (0, 0) _ rfl BKr.out Try.underlying34 rfl Yj_) rfl ?_
          exact ⟨_, _, rfl, Go.Proofs.YtnggfglmjdiaaaaOwn.TT.nil _ _ _, HB.out⟩
         | true =>
          simp only [Ew, if_true] at h
          simp only [Option.some.injEq, Prod.mk.injEq] at h
          obtain ⟨rfl, rfl, rfl, rfl⟩ := h
          clear BKn
          go_wp2_with (first | (go_at_call 39; (with_reducible refine (CALLV.out).mono ?_); rintro e w22 ⟨rfl, hb⟩; (try clear hzgn_0); (try clear hzgn_1); (try clear hzgn_2); (try clear hzgo_0); (try clear hzgo_1); (try clear hzgo_2); replace HT := Aside0.mk (HT.out.below hb); replace BKr := Aside0.mk (blk_below BKr.out hb); replace BKo := Aside0.mk (blk_below BKo.out hb); replace HB := Aside0.mk (below_step HB.out hb); clear hb; have hzgo_0 : w22.cell? ⟨go, 0, none⟩ = some (.slice (some ⟨gY_, 0, none⟩) nY cY) := (blk_cell BKo.out 0).trans rfl; have hzgo_1 : w22.cell? ⟨go, 1, none⟩ = some (.int .i64 hh) := (blk_cell BKo.out 1).trans rfl; have hzgo_2 : w22.cell? ⟨go, 2, none⟩ = some (.slice (some ⟨gB_, 0, none⟩) nB cB) := (blk_cell BKo.out 2).trans rfl) | ((with_reducible refine gate_store (t := 34) (p := 4) rfl ?_); refine Go.Proofs.YtnggfglmjdiaaaaOwn.sto3 (t := 34) (p := 4) (g := gr) (w0 := w) Yj_ rfl rfl rfl rfl (by rfl) BKr.out HB.out GEgr.out ?_; intro w23 hbx_ hB_ hO_; (try clear hzgo_0); (try clear hzgo_1); (try clear hzgo_2); replace HT := Aside0.mk (HT.out.only BKr.out (by decide) hO_); clear BKr HB hO_; have BKr := Aside0.mk hbx_; have HB := Aside0.mk hB_; clear hbx_ hB_))
          refine bodyPost_ret (Cc rfl _ _ gr 34 #[.slice (some ⟨gY_, 0, none⟩) nY cY, .int .i64 hh, .slice (some ⟨gB_, 0, none⟩) nB cB] (0, 0) _ rfl BKr.out Try.underlying34 rfl Yj_) rfl ?_
          exact ⟨_, _, rfl, HT.out, HB.out⟩
        ·rw [if_neg cL] at h
         cases h
       ·rw [if_neg cS] at h
        cases h
     ·rw [if_neg c5] at h
      cases h
    ·rw [if_neg c3] at h
     simp only [Option.some.injEq, Prod.mk.injEq] at h
     obtain ⟨rfl, rfl, rfl, rfl⟩ := h
     have d1_ : (q2 == (sT.length : Int) - 1) = false := by simp [c3]
     have d2_ : decide (q2 = (sT.length : Int) - 1) = false := decide_eq_false c3
     have d3_ : (q2 != (sT.length : Int) - 1) = true := by simp [c3]
     clear c3
     clear BKx
     clear BKo
     clear HT
     go_wp2_with (first | (go_at_call 48; (with_reducible refine (spec_l9Find.calls k a0_1 _ _ l0_2 a1_1 q1 q2 _ (Kd.C_below HR0_2.out HB.out) HC0_2.out A2.out).mono ?_); rintro e w24 ⟨rfl, hb⟩; (try clear hzgn_0); (try clear hzgn_1); (try clear hzgn_2); (try clear hzgt_0); (try clear hzgt_1); (try clear hzgt_2); (try clear hzgx_0); (try clear hzgx_1); (try clear hzgx_2); replace BKt := Aside0.mk (blk_below BKt.out hb); replace BKr := Aside0.mk (blk_below BKr.out hb); replace BKn := Aside0.mk (blk_below BKn.out hb); replace HB := Aside0.mk (below_step HB.out hb); have hxt_ : w24.cell? (adT.add q1.toNat) = some (.slice AT sT.length cT) := (HB.out.cell (World.block_lt_of_cell? w _ HXT.out)).trans HXT.out; clear hb; have hzgt_0 : w24.cell? ⟨gt, 0, none⟩ = some (.slice A0_0 l0_0.length c0_0) := (blk_cell BKt.out 0).trans rfl; have hzgt_1 : w24.cell? ⟨gt, 1, none⟩ = some (.int .i64 a0_1) := (blk_cell BKt.out 1).trans rfl; have hzgt_2 : w24.cell? ⟨gt, 2, none⟩ = some (.slice (some adT) l0_2.length c0_2) := (blk_cell BKt.out 2).trans rfl; have hzgn_0 : w24.cell? ⟨gn, 0, none⟩ = some (.slice none 0 0) := (blk_cell BKn.out 0).trans rfl; have hzgn_1 : w24.cell? ⟨gn, 1, none⟩ = some (.int .i64 0) := (blk_cell BKn.out 1).trans rfl; have hzgn_2 : w24.cell? ⟨gn, 2, none⟩ = some (.slice none 0 0) := (blk_cell BKn.out 2).trans rfl) | ((with_reducible refine gate_store (t := 34) (p := 4) rfl ?_); refine Go.Proofs.YtnggfglmjdiaaaaOwn.sto3 (t := 34) (p := 4) (g := gr) (w0 := w) Yj_ rfl rfl rfl rfl (by rfl) BKr.out HB.out GEgr.out ?_; intro w25 hbx_ hB_ hO_; (try clear hzgn_0); (try clear hzgn_1); (try clear hzgn_2); (try clear hzgt_0); (try clear hzgt_1); (try clear hzgt_2); clear BKr HB hO_; have BKr := Aside0.mk hbx_; have HB := Aside0.mk hB_; clear hbx_ hB_))
     refine bodyPost_ret (Cc rfl _ _ gr 34 #[.slice none 0 0, .int .i64 0, .slice none 0 0] (0, 0) _ rfl BKr.out Try.underlying34 rfl Yj_) rfl ?_
     exact ⟨_, _, rfl, Go.Proofs.YtnggfglmjdiaaaaOwn.TT.nil _ _ _, HB.out⟩
   ·rw [if_neg c2] at h
    cases h
 ·rw [if_neg k3] at h
  by_cases k1 : a1_0 = 1
  ·simp only [if_pos k1] at h
   subst k1
   clear k3
   replace h := Option.bind_eq_some_iff.mp h
   obtain ⟨⟨q1, q2⟩, a_, h⟩ := h
   have A2 := Aside0.mk a_
   clear a_
   dsimp only at h
   unfold lmCut at h
   by_cases c1 : q1 < 0
   ·rw [if_pos c1] at h
    simp only [Option.some.injEq, Prod.mk.injEq] at h
    obtain ⟨rfl, rfl, rfl, rfl⟩ := h
    have cb1 : decide (q1 < 0) = true := decide_eq_true c1
    clear c1
    clear BKx
    clear BKo
    clear HT
    go_wp2_with (first | (go_at_call 47; (with_reducible refine (spec_l5Find.calls k _ _ l0_0 a1_1 q1 q2 _ (Kd.C_below HR0_0.out HB.out) HC0_0.out A2.out).mono ?_); rintro e w26 ⟨rfl, hb⟩; (try clear hzgn_0); (try clear hzgn_1); (try clear hzgn_2); (try clear hzgt_0); (try clear hzgt_1); (try clear hzgt_2); (try clear hzgx_0); (try clear hzgx_1); (try clear hzgx_2); replace BKt := Aside0.mk (blk_below BKt.out hb); replace BKr := Aside0.mk (blk_below BKr.out hb); replace BKn := Aside0.mk (blk_below BKn.out hb); replace HB := Aside0.mk (below_step HB.out hb); clear hb; have hzgn_0 : w26.cell? ⟨gn, 0, none⟩ = some (.slice none 0 0) := (blk_cell BKn.out 0).trans rfl; have hzgn_1 : w26.cell? ⟨gn, 1, none⟩ = some (.int .i64 0) := (blk_cell BKn.out 1).trans rfl; have hzgn_2 : w26.cell? ⟨gn, 2, none⟩ = some (.slice none 0 0) := (blk_cell BKn.out 2).trans rfl) | ((with_reducible refine gate_store (t := 34) (p := 4) rfl ?_); refine Go.Proofs.YtnggfglmjdiaaaaOwn.sto3 (t := 34) (p := 4) (g := gr) (w0 := w) Yj_ rfl rfl rfl rfl (by rfl) BKr.out HB.out GEgr.out ?_; intro w27 hbx_ hB_ hO_; (try clear hzgn_0); (try clear hzgn_1); (try clear hzgn_2); clear BKr HB hO_; have BKr := Aside0.mk hbx_; have HB := Aside0.mk hB_; clear hbx_ hB_))
    refine bodyPost_ret (Cc rfl _ _ gr 34 #[.slice none 0 0, .int .i64 0, .slice none 0 0] (0, 0) _ rfl BKr.out Try.underlying34 rfl Yj_) rfl ?_
    exact ⟨_, _, rfl, Go.Proofs.YtnggfglmjdiaaaaOwn.TT.nil _ _ _, HB.out⟩
   ·rw [if_neg c1] at h
    by_cases c2 : q1 < (l0_0.length : Int)
    ·rw [if_pos c2] at h
     have cb1 : decide (q1 < 0) = false := decide_eq_false c1
     have p_ : 0 ≤ q1 := by omega
     obtain ⟨adT, AT, cT, eT, hx_, hl_, hi_⟩ := Bo HR0_0.out q1 p_ c2
     subst eT
     have hlw_ := hi_.2.1
     obtain ⟨sT, hsT⟩ : ∃ z, z = rd_L1 l0_0 q1 := ⟨_, rfl⟩
     rw [← hsT] at h hx_ hlw_
     clear hl_ hi_ hsT
     have HXT := Aside0.mk hx_
     clear hx_
     have hwt_ : wrap64 ((sT.length : Int) - 1) = (sT.length : Int) - 1 := by unfold wrap64; omega
     clear hlw_
     have C1 := Aside0.mk p_
     have C2 := Aside0.mk c2
     have p1_ := eq_true p_
     have q1_ := eq_true c2
     clear p_ c1 c2
     by_cases c3 : q2 = (sT.length : Int) - 1
     ·rw [if_pos c3] at h
      have d1_ : (q2 == (sT.length : Int) - 1) = true := by simp [c3]
      have d2_ : decide (q2 = (sT.length : Int) - 1) = true := decide_eq_true c3
      have d3_ : (q2 != (sT.length : Int) - 1) = false := by simp [c3]
      clear c3
      by_cases c4 : a1_2 = q1
      ·simp only [c4, decide_true, Bool.not_true, Bool.false_eq_true, if_false] at h
       simp only [Option.some.injEq, Prod.mk.injEq] at h
       obtain ⟨rfl, rfl, rfl, rfl⟩ := h
       have e1_ : (a1_2 == q1) = true := by simp [c4]
       have e2_ : decide (a1_2 = q1) = true := decide_eq_true c4
       clear c4
       clear BKo
       clear HT
       go_wp2_with (first | (go_at_call 47; (with_reducible refine (spec_l5Find.calls k _ _ l0_0 a1_1 q1 q2 _ (Kd.C_below HR0_0.out HB.out) HC0_0.out A2.out).mono ?_); rintro e w28 ⟨rfl, hb⟩; (try clear hzgn_0); (try clear hzgn_1); (try clear hzgn_2); (try clear hzgt_0); (try clear hzgt_1); (try clear hzgt_2); (try clear hzgx_0); (try clear hzgx_1); (try clear hzgx_2); replace BKt := Aside0.mk (blk_below BKt.out hb); replace BKx := Aside0.mk (blk_below BKx.out hb); replace BKr := Aside0.mk (blk_below BKr.out hb); replace BKn := Aside0.mk (blk_below BKn.out hb); replace HB := Aside0.mk (below_step HB.out hb); have hxt_ : w28.cell? (adT.add q1.toNat) = some (.slice AT sT.length cT) := (HB.out.cell (World.block_lt_of_cell? w _ HXT.out)).trans HXT.out; clear hb; have hzgt_0 : w28.cell? ⟨gt, 0, none⟩ = some (.slice (some adT) l0_0.length c0_0) := (blk_cell BKt.out 0).trans rfl; have hzgt_1 : w28.cell? ⟨gt, 1, none⟩ = some (.int .i64 a0_1) := (blk_cell BKt.out 1).trans rfl; have hzgt_2 : w28.cell? ⟨gt, 2, none⟩ = some (.slice A0_2 l0_2.length c0_2) := (blk_cell BKt.out 2).trans rfl; have hzgx_0 : w28.cell? ⟨gx, 0, none⟩ = some (.int .i64 1) := (blk_cell BKx.out 0).trans rfl; have hzgx_1 : w28.cell? ⟨gx, 1, none⟩ = some (.int .i64 a1_1) := (blk_cell BKx.out 1).trans rfl; have hzgx_2 : w28.cell? ⟨gx, 2, none⟩ = some (.int .i64 a1_2) := (blk_cell BKx.out 2).trans rfl; have hzgn_0 : w28.cell? ⟨gn, 0, none⟩ = some (.slice none 0 0) := (blk_cell BKn.out 0).trans rfl; have hzgn_1 : w28.cell? ⟨gn, 1, none⟩ = some (.int .i64 0) := (blk_cell BKn.out 1).trans rfl; have hzgn_2 : w28.cell? ⟨gn, 2, none⟩ = some (.slice none 0 0) := (blk_cell BKn.out 2).trans rfl) | ((with_reducible refine gate_store (t := 34) (p := 4) rfl ?_); refine Go.Proofs.YtnggfglmjdiaaaaOwn.sto3 (t := 34) (p := 4) (g := gr) (w0 := w) Yj_ rfl rfl rfl rfl (by rfl) BKr.out HB.out GEgr.out ?_; intro w29 hbx_ hB_ hO_; (try clear hzgn_0); (try clear hzgn_1); (try clear hzgn_2); (try clear hzgt_0); (try clear hzgt_1); (try clear hzgt_2); (try clear hzgx_0); (try clear hzgx_1); (try clear hzgx_2); clear BKr HB hO_; have BKr := Aside0.mk hbx_; have HB := Aside0.mk hB_; clear hbx_ hB_))
       refine bodyPost_ret (Cc rfl _ _ gr 34 #[.slice none 0 0, .int .i64 0, .slice none 0 0] (0, 0) _ rfl BKr.out Try.underlying34 rfl Yj_) rfl ?_
       exact ⟨_, _, rfl, Go.Proofs.YtnggfglmjdiaaaaOwn.TT.nil _ _ _, HB.out⟩
      ·rw [show (!decide (a1_2 = q1)) = true from by simp [c4], if_pos rfl] at h
       have e1_ : (a1_2 == q1) = false := by simp [c4]
       have e2_ : decide (a1_2 = q1) = false := decide_eq_false c4
       clear c4
       by_cases c5 : 0 ≤ q2 ∧ q1 < (Y.length : Int) ∧ q2 ≤ ((rd_L1 Y q1).length : Int)
       ·rw [if_pos c5] at h
        obtain ⟨sF, hsF⟩ : ∃ z, z = rd_L1 Y q1 := ⟨_, rfl⟩
        rw [← hsF] at c5
        have HSsF := Aside0.mk hsF
        obtain ⟨c5, c6, c7⟩ := c5
        have Pq1 := Aside0.mk (show 0 ≤ q1 ∧ q1 < (nY : Int) from ⟨C1.out, by have := HT.out.reads.1; omega⟩)
        have HMq2 := Aside0.mk (show (q2).toNat ≤ sF.length from by omega)
        have HQ0 := Aside0.mk c5
        have HQ1 := Aside0.mk c7
        clear c5 c6 c7
        obtain ⟨lF, hlF⟩ : ∃ z, z = cutAt Y q1 q2 := ⟨_, rfl⟩
        have HLlF := Aside0.mk (show lF = Y.set (q1).toNat ((Y.getD (q1).toNat []).take (q2).toNat) from hlF)
        rw [← hlF] at h
        (try dsimp only at h)
        clear hlF hsF
        go_upto_region 11 with (first | (go_at_call 47; (with_reducible refine (spec_l5Find.calls k _ _ l0_0 a1_1 q1 q2 _ (Kd.C_below HR0_0.out HB.out) HC0_0.out A2.out).mono ?_); rintro e w30 ⟨rfl, hb⟩; (try clear hzgn_0); (try clear hzgn_1); (try clear hzgn_2); (try clear hzgt_0); (try clear hzgt_1); (try clear hzgt_2); (try clear hzgx_0); (try clear hzgx_1); (try clear hzgx_2); replace HT := Aside0.mk (HT.out.below hb); replace BKt := Aside0.mk (blk_below BKt.out hb); replace BKx := Aside0.mk (blk_below BKx.out hb); replace BKr := Aside0.mk (blk_below BKr.out hb); replace BKn := Aside0.mk (blk_below BKn.out hb); replace BKo := Aside0.mk (blk_below BKo.out hb); replace HB := Aside0.mk (below_step HB.out hb); have hxt_ : w30.cell? (adT.add q1.toNat) = some (.slice AT sT.length cT) := (HB.out.cell (World.block_lt_of_cell? w _ HXT.out)).trans HXT.out; clear hb; have hzgt_0 : w30.cell? ⟨gt, 0, none⟩ = some (.slice (some adT) l0_0.length c0_0) := (blk_cell BKt.out 0).trans rfl; have hzgt_1 : w30.cell? ⟨gt, 1, none⟩ = some (.int .i64 a0_1) := (blk_cell BKt.out 1).trans rfl; have hzgt_2 : w30.cell? ⟨gt, 2, none⟩ = some (.slice A0_2 l0_2.length c0_2) := (blk_cell BKt.out 2).trans rfl; have hzgx_0 : w30.cell? ⟨gx, 0, none⟩ = some (.int .i64 1) := (blk_cell BKx.out 0).trans rfl; have hzgx_1 : w30.cell? ⟨gx, 1, none⟩ = some (.int .i64 a1_1) := (blk_cell BKx.out 1).trans rfl; have hzgx_2 : w30.cell? ⟨gx, 2, none⟩ = some (.int .i64 a1_2) := (blk_cell BKx.out 2).trans rfl))
        clear hwt_ d1_ d2_ d3_ p1_ q1_
        (try clear hxt_)
        (try clear hzgt_0)
        (try clear hzgt_1)
        (try clear hzgt_2)
        (try clear hzgx_0)
        (try clear hzgx_1)
        (try clear hzgx_2)
        clear BKt
        obtain ⟨gY_, eg_, gb_, gl_⟩ := HT.out.form Yce_
        have GEY := Aside0.mk gb_
        clear gb_ gl_
        subst eg_
        obtain ⟨AsF, csF, hv_, hc_, hC_, hf_⟩ := Go.Proofs.YtnggfglmjdiaaaaOwn.TT.elem HT.out (i := q1) Pq1.out.1 Yce_
        have e_ : (Y.getD (q1).toNat []) = sF := HSsF.out.symm
        rw [e_] at hv_ hc_ hC_
        clear e_
        have HVsF := Aside0.mk hv_
        have HCsF := Aside0.mk hc_
        have HRsF := Aside0.mk hC_
        have HFsF := Aside0.mk hf_
        clear hv_ hc_ hC_ hf_
        have NXY_gx := Aside0.mk (Go.Proofs.YtnggfglmjdiaaaaOwn.TT.ne HT.out BKx.out (by decide))
        have NXY_gr := Aside0.mk (Go.Proofs.YtnggfglmjdiaaaaOwn.TT.ne HT.out BKr.out (by decide))
        have NXY_gn := Aside0.mk (Go.Proofs.YtnggfglmjdiaaaaOwn.TT.ne HT.out BKn.out (by decide))
        have NXY_go := Aside0.mk (Go.Proofs.YtnggfglmjdiaaaaOwn.TT.ne HT.out BKo.out (by decide))
        have p_q1 : 0 ≤ q1 := Pq1.out.1
        have q_q1 : q1 < (nY : Int) := Pq1.out.2
        replace p_q1 := eq_true p_q1
        replace q_q1 := eq_true q_q1
        obtain ⟨i0_, hi0_, _, hsz0_, _⟩ := info_parts info3
        have hcut_ := cut_to (P := Try.prog) 73 3 .i64 Try.underlying73 hi0_ AsF sF.length csF q2 HQ0.out HQ1.out HCsF.out
        replace HT := Aside0.mk (HT.out.drew)
        replace BKx := Aside0.mk (blk_drew BKx.out)
        replace BKr := Aside0.mk (blk_drew BKr.out)
        replace BKn := Aside0.mk (blk_drew BKn.out)
        replace BKo := Aside0.mk (blk_drew BKo.out)
        replace HB := Aside0.mk (below_drew1 HB.out)
        replace HVsF := Aside0.mk ((show (w30.drew).cell? ⟨gY_, (q1).toNat, none⟩ = some (.slice AsF sF.length csF) from HVsF.out))
        replace HFsF := Aside0.mk ((show (w30.drew).frozen? ⟨gY_, (q1).toNat, none⟩ = false from HFsF.out))
        refine start_ (n := 14) (S := fun w' => w'.cell? ⟨gY_, (q1).toNat, none⟩ = some (.slice AsF sF.length csF) ∧ w'.cell? ⟨go, 0, none⟩ = some (.slice (some ⟨gY_, 0, none⟩) nY cY)) (ds := [13]) #[false, false, false, false, false, false, false, false, false, false, false, false, false, false] Yj_ rfl rfl ⟨HVsF.out, (blk_cell BKo.out 0).trans rfl⟩ (fun hHeld => ?_)
        generalize w30.drew = w31 at HT BKx BKr BKn BKo HB HVsF HFsF hHeld ⊢
        refine pure_ (i := 0) (N := some 88) #[true, false, false, false, false, false, false, false, false, false, false, false, false, false] rfl rfl Yj_ (fun _ _ _ h => h) (Or.inl ⟨by rfl, Yba_⟩) Ya_ ?_
        refine pure_ (i := 1) (N := some 89) #[true, true, false, false, false, false, false, false, false, false, false, false, false, false] rfl rfl Yj_ (fun _ _ _ h => h) (Or.inl ⟨by rfl, Yba_⟩) Ya_ ?_
        refine pure_ (i := 3) (N := some 91) #[true, true, false, true, false, false, false, false, false, false, false, false, false, false] rfl rfl Yj_ (fun _ _ _ h => h) (Or.inl ⟨by rfl, Yba_⟩) Ya_ ?_
        refine pure_ (i := 4) (N := some 92) #[true, true, false, true, true, false, false, false, false, false, false, false, false, false] rfl rfl Yj_ (fun _ _ _ h => h) (Or.inl ⟨by rfl, Yba_⟩) Ya_ ?_
        refine pure_ (i := 5) (N := some 93) #[true, true, false, true, true, true, false, false, false, false, false, false, false, false] rfl rfl Yj_ (fun _ _ _ h => h) (Or.inl ⟨by rfl, Yba_⟩) Ya_ ?_
        refine pure_ (i := 7) (N := some 95) #[true, true, false, true, true, true, false, true, false, false, false, false, false, false] rfl rfl Yj_ (fun _ _ _ h => h) (Or.inl ⟨by rfl, Yba_⟩) Ya_ ?_
        refine pure_ (i := 10) (N := some 98) #[true, true, false, true, true, true, false, true, false, false, true, false, false, false] rfl rfl Yj_ (fun _ _ _ h => h) (Or.inl ⟨by rfl, Yba_⟩) Ya_ ?_
        refine take_ (i := 2) (N := some 90) #[true, true, true, true, true, true, false, true, false, false, true, false, false, false] rfl rfl Yj_ (fun _ _ _ h => h) (Or.inl ⟨by rfl, Ybi_⟩) hHeld Ya_ ?_
        refine take_ (i := 6) (N := some 94) #[true, true, true, true, true, true, true, true, false, false, true, false, false, false] rfl rfl Yj_ (fun _ _ _ h => h) (Or.inl ⟨by rfl, Ybi_⟩) hHeld Ya_ ?_
        refine pure_ (i := 8) (N := some 96) #[true, true, true, true, true, true, true, true, true, false, true, false, false, false] rfl rfl Yj_ (fun _ _ _ h => h) (Or.inl ⟨by rfl, Yba_⟩) Ya_ ?_
        refine take_ (i := 9) (N := some 97) #[true, true, true, true, true, true, true, true, true, true, true, false, false, false] rfl rfl Yj_ (fun _ _ _ h => h) (Or.inl ⟨by rfl, Ybi_⟩) hHeld Ya_ ?_
        refine pure_ (i := 11) (N := some 99) #[true, true, true, true, true, true, true, true, true, true, true, true, false, false] rfl rfl Yj_ (fun _ _ _ h => h) (Or.inl ⟨by rfl, Yba_⟩) Ya_ ?_
        refine pure_ (i := 12) (N := some 100) #[true, true, true, true, true, true, true, true, true, true, true, true, true, false] rfl rfl Yj_ (fun _ _ _ h => h) (Or.inl ⟨by rfl, Yba_⟩) Ya_ ?_
        refine last_ (i := 13) (N := none) #[true, true, true, true, true, true, true, true, true, true, true, true, true, true] rfl rfl Yj_ (by decide) (fun K hK => ?_)
        have hv_ := HVsF.out
        have hf_ := HFsF.out
        refine Go.Proofs.YtnggfglmjdiaaaaOwn.Ej (w1 := (w31.setCell ⟨gY_, (q1).toNat, none⟩ (.slice AsF (q2).toNat csF))) (by rfl) rfl ?_ ?_
        ·first | (go_simp; done) | (go_simp; rfl)
        intro w32 hw
        clear hv_ hf_
        have hO_ : Go.Proofs.YtnggfglmjdiaaaaOwn.Only w31 w32 gY_ := Ybh_
        have ht_ := (Go.Proofs.YtnggfglmjdiaaaaOwn.TT.cut HT.out Pq1.out.1 Yce_ HVsF.out Ydh_).1
        rw [← hw] at ht_
        clear HT
        have HT := Aside0.mk ht_
        clear ht_ hw
        replace BKx := Aside0.mk ((hO_.others _ NXY_gx.out).trans BKx.out)
        replace BKr := Aside0.mk ((hO_.others _ NXY_gr.out).trans BKr.out)
        replace BKn := Aside0.mk ((hO_.others _ NXY_gn.out).trans BKn.out)
        replace BKo := Aside0.mk ((hO_.others _ NXY_go.out).trans BKo.out)
        replace HB := Aside0.mk (hO_.below HB.out GEY.out)
        clear hO_
        clear NXY_gx
        clear NXY_gr
        clear NXY_gn
        clear NXY_go
        rw [show Y.set (q1).toNat ((Y.getD (q1).toNat []).take (q2).toNat) = lF from HLlF.out.symm] at HT
        refine hK.out _ _ ?_
        clear hK K
        refine done_ Yj_ ?_
        clear p_q1 q_q1 HVsF HFsF HCsF HRsF
        clear hcut_ hi0_ hsz0_ HQ0 HQ1 HMq2
        have hzgx_0 : w32.cell? ⟨gx, 0, none⟩ = some (.int .i64 1) := (blk_cell BKx.out 0).trans rfl
        have hzgx_1 : w32.cell? ⟨gx, 1, none⟩ = some (.int .i64 a1_1) := (blk_cell BKx.out 1).trans rfl
        have hzgx_2 : w32.cell? ⟨gx, 2, none⟩ = some (.int .i64 a1_2) := (blk_cell BKx.out 2).trans rfl
        have hzgn_0 : w32.cell? ⟨gn, 0, none⟩ = some (.slice none 0 0) := (blk_cell BKn.out 0).trans rfl
        have hzgn_1 : w32.cell? ⟨gn, 1, none⟩ = some (.int .i64 0) := (blk_cell BKn.out 1).trans rfl
        have hzgn_2 : w32.cell? ⟨gn, 2, none⟩ = some (.slice none 0 0) := (blk_cell BKn.out 2).trans rfl
        have hzgo_0 : w32.cell? ⟨go, 0, none⟩ = some (.slice (some ⟨gY_, 0, none⟩) nY cY) := (blk_cell BKo.out 0).trans rfl
        have hzgo_1 : w32.cell? ⟨go, 1, none⟩ = some (.int .i64 hh) := (blk_cell BKo.out 1).trans rfl
        have hzgo_2 : w32.cell? ⟨go, 2, none⟩ = some (.slice AB nB cB) := (blk_cell BKo.out 2).trans rfl
        unfold lmPutY at h
        have hwn_ : wrap64 ((nY : Int) - 1) = (nY : Int) - 1 := by have h1_ := HT.out.reads; have h2_ := h1_.2.2.2.1; have h3_ := h1_.1; unfold wrap64; omega
        have HWI := Aside0.mk (show Ba.f a1_2 0 ((nY : Int) - 1) = some (inRows lF a1_2) from by rw [HT.out.reads.1]; exact l1In_f2 _ _ _)
        cases cW : inRows lF a1_2 with
        | false =>
         rw [cW] at HWI
         rw [cW, if_neg (by decide)] at h
         simp only [Option.some.injEq, Prod.mk.injEq] at h
         obtain ⟨rfl, rfl, rfl, rfl⟩ := h
         clear BKx
         clear BKo
         clear HT
         go_wp2_with (first | (go_at_call 71; (with_reducible refine (Ba.calls a1_2 0 ((nY : Int) - 1) false _ HWI.out).mono ?_); rintro e w33 ⟨rfl, hd_⟩; (try clear hzgn_0); (try clear hzgn_1); (try clear hzgn_2); (try clear hzgo_0); (try clear hzgo_1); (try clear hzgo_2); (try clear hzgx_0); (try clear hzgx_1); (try clear hzgx_2); have hb := Drawn0.below hd_; clear hd_; replace BKr := Aside0.mk (blk_below BKr.out hb); replace BKn := Aside0.mk (blk_below BKn.out hb); replace HB := Aside0.mk (below_step HB.out hb); clear hb; have hzgn_0 : w33.cell? ⟨gn, 0, none⟩ = some (.slice none 0 0) := (blk_cell BKn.out 0).trans rfl; have hzgn_1 : w33.cell? ⟨gn, 1, none⟩ = some (.int .i64 0) := (blk_cell BKn.out 1).trans rfl; have hzgn_2 : w33.cell? ⟨gn, 2, none⟩ = some (.slice none 0 0) := (blk_cell BKn.out 2).trans rfl) | ((with_reducible refine gate_store (t := 34) (p := 4) rfl ?_); refine Go.Proofs.YtnggfglmjdiaaaaOwn.sto3 (t := 34) (p := 4) (g := gr) (w0 := w) Yj_ rfl rfl rfl rfl (by rfl) BKr.out HB.out GEgr.out ?_; intro w34 hbx_ hB_ hO_; (try clear hzgn_0); (try clear hzgn_1); (try clear hzgn_2); clear BKr HB hO_; have BKr := Aside0.mk hbx_; have HB := Aside0.mk hB_; clear hbx_ hB_))
         refine bodyPost_ret (Cc rfl _ _ gr 34 #[.slice none 0 0, .int .i64 0, .slice none 0 0] (0, 0) _ rfl BKr.out Try.underlying34 rfl Yj_) rfl ?_
         exact ⟨_, _, rfl, Go.Proofs.YtnggfglmjdiaaaaOwn.TT.nil _ _ _, HB.out⟩
        | true =>
         rw [cW] at HWI
         rw [cW, if_pos rfl] at h
         have Pa1_2 := Aside0.mk (show 0 ≤ a1_2 ∧ a1_2 < (nY : Int) from by have h1_ := inRows_lt cW; have h2_ := HT.out.reads.1; omega)
         clear cW
         obtain ⟨sG, hsG⟩ : ∃ z, z = rd_L1 lF a1_2 := ⟨_, rfl⟩
         rw [← hsG] at h
         have HSsG := Aside0.mk hsG
         clear hsG
         by_cases cS : (Ce.f sG).isSome = true
         ·rw [if_pos cS] at h
          clear cS
          replace h := Option.bind_eq_some_iff.mp h
          obtain ⟨sC, a_, h⟩ := h
          have A3 := Aside0.mk a_
          clear a_
          by_cases cL : sC.length < 17592186044415
          ·rw [if_pos cL] at h
           have HLsC := Aside0.mk cL
           clear cL
           obtain ⟨sH, hsH⟩ : ∃ z, z = sC ++ [a1_1] := ⟨_, rfl⟩
           have HSsH := Aside0.mk hsH
           obtain ⟨lG, hlG⟩ : ∃ z, z = lF.set (a1_2).toNat (sC ++ [a1_1]) := ⟨_, rfl⟩
           have HLlG := Aside0.mk (show lG = lF.set (a1_2).toNat sH from by rw [hlG, hsH])
           rw [← hlG] at h
           clear hlG hsH
           replace h := Option.bind_eq_some_iff.mp h
           obtain ⟨vv, a_, h⟩ := h
           have A4 := Aside0.mk a_
           clear a_
           go_upto_region 18 with (first | (go_at_call 71; (with_reducible refine (Ba.calls a1_2 0 ((nY : Int) - 1) true _ HWI.out).mono ?_); rintro e w35 ⟨rfl, hd_⟩; (try clear hzgn_0); (try clear hzgn_1); (try clear hzgn_2); (try clear hzgo_0); (try clear hzgo_1); (try clear hzgo_2); (try clear hzgx_0); (try clear hzgx_1); (try clear hzgx_2); have hb := Drawn0.below hd_; clear hd_; replace HT := Aside0.mk (HT.out.below hb); replace BKx := Aside0.mk (blk_below BKx.out hb); replace BKr := Aside0.mk (blk_below BKr.out hb); replace BKn := Aside0.mk (blk_below BKn.out hb); replace BKo := Aside0.mk (blk_below BKo.out hb); replace HB := Aside0.mk (below_step HB.out hb); clear hb))
           clear hwn_ HWI
           obtain ⟨gY_, eg_, gb_, gl_⟩ := HT.out.form Ycb_
           have GEY := Aside0.mk gb_
           clear gb_ gl_
           obtain rfl := (Addr.mk.inj (Option.some.inj eg_)).1
           clear eg_
           obtain ⟨AsG, csG, hv_, hc_, hC_, hf_⟩ := Go.Proofs.YtnggfglmjdiaaaaOwn.TT.elem HT.out (i := a1_2) Pa1_2.out.1 Ycb_
           have e_ : (lF.getD (a1_2).toNat []) = sG := HSsG.out.symm
           rw [e_] at hv_ hc_ hC_
           clear e_
           have HVsG := Aside0.mk hv_
           have HCsG := Aside0.mk hc_
           have HRsG := Aside0.mk hC_
           have HFsG := Aside0.mk hf_
           clear hv_ hc_ hC_ hf_
           have NXY_gx := Aside0.mk (Go.Proofs.YtnggfglmjdiaaaaOwn.TT.ne HT.out BKx.out (by decide))
           have NXY_gr := Aside0.mk (Go.Proofs.YtnggfglmjdiaaaaOwn.TT.ne HT.out BKr.out (by decide))
           have NXY_gn := Aside0.mk (Go.Proofs.YtnggfglmjdiaaaaOwn.TT.ne HT.out BKn.out (by decide))
           have NXY_go := Aside0.mk (Go.Proofs.YtnggfglmjdiaaaaOwn.TT.ne HT.out BKo.out (by decide))
           have p_a1_2 : 0 ≤ a1_2 := Pa1_2.out.1
           have q_a1_2 : a1_2 < (nY : Int) := Pa1_2.out.2
           replace p_a1_2 := eq_true p_a1_2
           replace q_a1_2 := eq_true q_a1_2
           replace HT := Aside0.mk (HT.out.drew)
           replace BKx := Aside0.mk (blk_drew BKx.out)
           replace BKr := Aside0.mk (blk_drew BKr.out)
           replace BKn := Aside0.mk (blk_drew BKn.out)
           replace BKo := Aside0.mk (blk_drew BKo.out)
           replace HB := Aside0.mk (below_drew1 HB.out)
           replace HVsG := Aside0.mk ((show (w35.drew).cell? ⟨gY_, (a1_2).toNat, none⟩ = some (.slice AsG sG.length csG) from HVsG.out))
           replace HFsG := Aside0.mk ((show (w35.drew).frozen? ⟨gY_, (a1_2).toNat, none⟩ = false from HFsG.out))
           replace HRsG := Aside0.mk ((show Kd.C (Kd.int .i64) (w35.drew) AsG sG.length sG from HRsG.out))
           refine start_ (n := 19) (S := fun w' => w'.cell? ⟨gY_, (a1_2).toNat, none⟩ = some (.slice AsG sG.length csG) ∧ w'.cell? ⟨go, 0, none⟩ = some (.slice (some ⟨gY_, 0, none⟩) nY cY) ∧ w'.cell? ⟨gx, 1, none⟩ = some (.int .i64 a1_1) ∧ w'.cell? ⟨gx, 2, none⟩ = some (.int .i64 a1_2)) (ds := [18]) #[false, false, false, false, false, false, false, false, false, false, false, false, false, false, false, false, false, false, false] Yj_ rfl rfl ⟨HVsG.out, (blk_cell BKo.out 0).trans rfl, (blk_cell BKx.out 1).trans rfl, (blk_cell BKx.out 2).trans rfl⟩ (fun hHeld => ?_)
           generalize w35.drew = w36 at HT BKx BKr BKn BKo HB HVsG HFsG HRsG hHeld ⊢
           refine pure_ (i := 0) (N := some 117) #[true, false, false, false, false, false, false, false, false, false, false, false, false, false, false, false, false, false, false] rfl rfl Yj_ (fun _ _ _ h => h) (Or.inl ⟨by rfl, Yba_⟩) Ya_ ?_
           refine pure_ (i := 1) (N := some 118) #[true, true, false, false, false, false, false, false, false, false, false, false, false, false, false, false, false, false, false] rfl rfl Yj_ (fun _ _ _ h => h) (Or.inl ⟨by rfl, Yba_⟩) Ya_ ?_
           refine pure_ (i := 3) (N := some 120) #[true, true, false, true, false, false, false, false, false, false, false, false, false, false, false, false, false, false, false] rfl rfl Yj_ (fun _ _ _ h => h) (Or.inl ⟨by rfl, Yba_⟩) Ya_ ?_
           refine pure_ (i := 5) (N := some 122) #[true, true, false, true, false, true, false, false, false, false, false, false, false, false, false, false, false, false, false] rfl rfl Yj_ (fun _ _ _ h => h) (Or.inl ⟨by rfl, Yba_⟩) Ya_ ?_
           refine pure_ (i := 6) (N := some 123) #[true, true, false, true, false, true, true, false, false, false, false, false, false, false, false, false, false, false, false] rfl rfl Yj_ (fun _ _ _ h => h) (Or.inl ⟨by rfl, Yba_⟩) Ya_ ?_
           refine pure_ (i := 8) (N := some 125) #[true, true, false, true, false, true, true, false, true, false, false, false, false, false, false, false, false, false, false] rfl rfl Yj_ (fun _ _ _ h => h) (Or.inl ⟨by rfl, Yba_⟩) Ya_ ?_
           refine pure_ (i := 13) (N := some 130) #[true, true, false, true, false, true, true, false, true, false, false, false, false, true, false, false, false, false, false] rfl rfl Yj_ (fun _ _ _ h => h) (Or.inl ⟨by rfl, Yba_⟩) Ya_ ?_
           refine take_ (i := 2) (N := some 119) #[true, true, true, true, false, true, true, false, true, false, false, false, false, true, false, false, false, false, false] rfl rfl Yj_ (fun _ _ _ h => h) (Or.inl ⟨by rfl, Ybf_⟩) hHeld Ya_ ?_
           refine take_ (i := 4) (N := some 121) #[true, true, true, true, true, true, true, false, true, false, false, false, false, true, false, false, false, false, false] rfl rfl Yj_ (fun _ _ _ h => h) (Or.inl ⟨by rfl, Ybf_⟩) hHeld Ya_ ?_
           refine take_ (i := 7) (N := some 124) #[true, true, true, true, true, true, true, true, true, false, false, false, false, true, false, false, false, false, false] rfl rfl Yj_ (fun _ _ _ h => h) (Or.inl ⟨by rfl, Ybf_⟩) hHeld Ya_ ?_
           refine take_ (i := 9) (N := some 126) #[true, true, true, true, true, true, true, true, true, true, false, false, false, true, false, false, false, false, false] rfl rfl Yj_ (fun _ _ _ h => h) (Or.inl ⟨by rfl, Ybf_⟩) hHeld Ya_ ?_
           refine pure_ (i := 10) (N := some 127) #[true, true, true, true, true, true, true, true, true, true, true, false, false, true, false, false, false, false, false] rfl rfl Yj_ (fun _ _ _ h => h) (Or.inl ⟨by rfl, Yba_⟩) Ya_ ?_
           refine take_ (i := 11) (N := some 128) #[true, true, true, true, true, true, true, true, true, true, true, true, false, true, false, false, false, false, false] rfl rfl Yj_ (fun _ _ _ h => h) (Or.inl ⟨by rfl, Ybf_⟩) hHeld Ya_ ?_
           refine take_ (i := 14) (N := some 131) #[true, true, true, true, true, true, true, true, true, true, true, true, false, true, true, false, false, false, false] rfl rfl Yj_ (fun _ _ _ h => h) (Or.inl ⟨by rfl, Ybf_⟩) hHeld Ya_ ?_
           refine join_ (σ := Value × Option Addr × Nat) 3 #[true, true, true, true, true, true, true, true, true, true, true, true, true, true, true, true, false, false, false] (fun s => match s with | ⟨vC, A40, c40⟩ => [(129, vC), (132, .slice A40 ([a1_1] : List Int).length c40)]) (fun s w' => match s with | ⟨vC, A40, c40⟩ => Aside0 (Kd.R (Kd.int .i64) 3 w' w36.heap.size (fun _ => True) vC sC) ∧ Aside0 (Kd.R (Kd.int .i64) 3 w' w36.heap.size (fun _ => True) (.slice A40 ([a1_1] : List Int).length c40) [a1_1]) ∧ Aside0 (Below w36.heap.size w36 w')) ?_ ?_
           rotate_left
           ·intro hCont
            refine two_ (i := 12) (j := 15) (Ni := some 129) (Nj := some 132) #[true, true, true, true, true, true, true, true, true, true, true, true, true, true, true, false, false, false, false] #[true, true, true, true, true, true, true, true, true, true, true, true, false, true, true, true, false, false, false] rfl rfl rfl rfl Yj_ (by decide) (by decide) (fun K hK => ?_) (fun K hK => ?_)
            ·skip
             have HB2 := Aside0.mk (Below.refl w36.heap.size w36)
             refine goes_ Try.func72 Yj_ rfl #[.slice AsG sG.length csG] (by rfl) rfl rfl Ycf_ ?_
             with_reducible refine (Ce.calls _ _ sG sC _ (Kd.C_below HRsG.out HB2.out) HCsG.out A3.out).mono ?_
             rintro e W1_ ⟨vC, rfl, ho_, hb_⟩
             refine ⟨_, rfl, ?_⟩
             have HN := Aside0.mk (Kd.R_lower ho_ (below_size HB2.out))
             have m_ := Aside0.mk (below_step HB2.out hb_)
             clear HB2 ho_ hb_
             have HB2 := m_
             clear m_
             refine hK.out _ _ ⟨(HB2.out.cell (World.block_lt_of_cell? _ _ HVsG.out)).trans HVsG.out, (blk_cell (blk_below BKo.out HB2.out) 0).trans rfl, (blk_cell (blk_below BKx.out HB2.out) 1).trans rfl, (blk_cell (blk_below BKx.out HB2.out) 2).trans rfl⟩ (fun hHeld => ?_)
             clear hK K
             refine norm_ (show Act.put _ (some 129) _ = _ from Ya_) ?_
             refine one_ (i := 15) (N := some 132) #[true, true, true, true, true, true, true, true, true, true, true, true, true, true, true, true, false, false, false] rfl rfl Yj_ (by decide) (fun K hK => ?_)
             refine Kd.Fe (Kd.int .i64) w36.heap.size 3 ?hg (N := 132) ?hd (xs := ([a1_1] : List Int)) (inner := [.int .i64 a1_1]) (ok := fun _ => True) (okp := fun _ => True) ?hr ?hp (fun _ hk => hk) trivial HB2.out (below_size HB2.out) (by simp) ?_; (case hd => rfl); (case hg => rfl); (case hr => first | (go_simp; done) | (go_simp; rfl)); (case hp => exact (Reps.one (show Kd.M (Kd.int .i64) _ _ _ a1_1 [.int .i64 a1_1] from rfl) (Reps.none _ _)))
             intro vL_ W2_ ho hb hg_ hnew_
             obtain ⟨A40, c40, e40_⟩ := Kd.Cm ho
             subst e40_
             have HL := Aside0.mk ho
             replace HN := Aside0.mk (Kd.R_grown HN.out hg_ (fun _ _ h_ => nomatch h_))
             clear HB2
             have HB2 := Aside0.mk hb
             clear hb hg_ hnew_ ho
             refine hK.out _ _ ⟨(HB2.out.cell (World.block_lt_of_cell? _ _ HVsG.out)).trans HVsG.out, (blk_cell (blk_below BKo.out HB2.out) 0).trans rfl, (blk_cell (blk_below BKx.out HB2.out) 1).trans rfl, (blk_cell (blk_below BKx.out HB2.out) 2).trans rfl⟩ (fun hHeld => ?_)
             clear hK K
             refine norm_ (show Act.put _ (some 132) _ = _ from Ya_) ?_
             exact norm_ Ybe_ (hCont (vC, A40, c40) _ ⟨HN, HL, HB2⟩)
            ·skip
             have HB2 := Aside0.mk (Below.refl w36.heap.size w36)
             refine Kd.Fe (Kd.int .i64) w36.heap.size 3 ?hg (N := 132) ?hd (xs := ([a1_1] : List Int)) (inner := [.int .i64 a1_1]) (ok := fun _ => True) (okp := fun _ => True) ?hr ?hp (fun _ hk => hk) trivial HB2.out (below_size HB2.out) (by simp) ?_; (case hd => rfl); (case hg => rfl); (case hr => first | (go_simp; done) | (go_simp; rfl)); (case hp => exact (Reps.one (show Kd.M (Kd.int .i64) _ _ _ a1_1 [.int .i64 a1_1] from rfl) (Reps.none _ _)))
             intro vL_ W1_ ho hb hg_ hnew_
             obtain ⟨A40, c40, e40_⟩ := Kd.Cm ho
             subst e40_
             have HL := Aside0.mk ho
             clear HB2
             have HB2 := Aside0.mk hb
             clear hb hg_ hnew_ ho
             refine hK.out _ _ ⟨(HB2.out.cell (World.block_lt_of_cell? _ _ HVsG.out)).trans HVsG.out, (blk_cell (blk_below BKo.out HB2.out) 0).trans rfl, (blk_cell (blk_below BKx.out HB2.out) 1).trans rfl, (blk_cell (blk_below BKx.out HB2.out) 2).trans rfl⟩ (fun hHeld => ?_)
             clear hK K
             refine norm_ (show Act.put _ (some 132) _ = _ from Ya_) ?_
             refine one_ (i := 12) (N := some 129) #[true, true, true, true, true, true, true, true, true, true, true, true, true, true, true, true, false, false, false] rfl rfl Yj_ (by decide) (fun K hK => ?_)
             refine goes_ Try.func72 Yj_ rfl #[.slice AsG sG.length csG] (by rfl) rfl rfl Ycf_ ?_
             with_reducible refine (Ce.calls _ _ sG sC _ (Kd.C_below HRsG.out HB2.out) HCsG.out A3.out).mono ?_
             rintro e W2_ ⟨vC, rfl, ho_, hb_⟩
             refine ⟨_, rfl, ?_⟩
             have HN := Aside0.mk (Kd.R_lower ho_ (below_size HB2.out))
             replace HL := Aside0.mk (Kd.R_below HL.out hb_)
             have m_ := Aside0.mk (below_step HB2.out hb_)
             clear HB2 ho_ hb_
             have HB2 := m_
             clear m_
             refine hK.out _ _ ⟨(HB2.out.cell (World.block_lt_of_cell? _ _ HVsG.out)).trans HVsG.out, (blk_cell (blk_below BKo.out HB2.out) 0).trans rfl, (blk_cell (blk_below BKx.out HB2.out) 1).trans rfl, (blk_cell (blk_below BKx.out HB2.out) 2).trans rfl⟩ (fun hHeld => ?_)
             clear hK K
             refine norm_ (show Act.put _ (some 129) _ = _ from Ya_) ?_
             exact norm_ Ybe_ (hCont (vC, A40, c40) _ ⟨HN, HL, HB2⟩)
           rintro ⟨vC, A40, c40⟩ W4_ ⟨HN, HL, HB2⟩
           have hHeld : (fun w' => w'.cell? ⟨gY_, (a1_2).toNat, none⟩ = some (.slice AsG sG.length csG) ∧ w'.cell? ⟨go, 0, none⟩ = some (.slice (some ⟨gY_, 0, none⟩) nY cY) ∧ w'.cell? ⟨gx, 1, none⟩ = some (.int .i64 a1_1) ∧ w'.cell? ⟨gx, 2, none⟩ = some (.int .i64 a1_2)) W4_ := ⟨(HB2.out.cell (World.block_lt_of_cell? _ _ HVsG.out)).trans HVsG.out, (blk_cell (blk_below BKo.out HB2.out) 0).trans rfl, (blk_cell (blk_below BKx.out HB2.out) 1).trans rfl, (blk_cell (blk_below BKx.out HB2.out) 2).trans rfl⟩
           refine norm_ (a' := ?_) ?_ ?_
           rotate_left
           ·simp only [Dv, Act.put, List.setIfInBounds_toArray, List.set_cons_zero, List.set_cons_succ]
            rfl
           refine one_ (i := 16) (N := some 133) #[true, true, true, true, true, true, true, true, true, true, true, true, true, true, true, true, true, false, false] rfl rfl Yj_ (by decide) (fun K hK => ?_)
           refine Kd.Fb (Kd.int .i64) (w0 := w36) w36.heap.size (by rfl) (.tmp 129) (.tmp 132) 73 3 (.int .i64 0) 8 rfl Try.underlying73 info3 rfl (by decide) (by omega) vC sC [a1_1] A40 ([a1_1] : List Int).length c40 (fun _ => True) (fun _ => False) rfl rfl HN.out ((Kd.Cf HL.out).2.2) (fun _ _ h => h) (fun _ h => h.elim) (fun _ _ => trivial) HB2.out (below_size HB2.out) Ydi_ ?_
           intro v_ w37 ho hb hg hat
           clear hg hat HN HL HB2
           rw [← HSsH.out] at ho
           obtain ⟨AsH, csH, ev_⟩ := Kd.Cm ho
           subst ev_
           have hk_ := (Go.Proofs.YtnggfglmjdiaaaaOwn.TT.put HT.out (below_size HB.out) hb Pa1_2.out.1 Ycb_ ho).1
           have HT2 := Aside0.mk hk_
           clear hk_ ho HT
           have hv_ := (hb.cell (World.block_lt_of_cell? _ _ HVsG.out)).trans HVsG.out
           have hf_ := (World.frozen?_of_block (hb.block _ (World.block_lt_of_cell? _ _ HVsG.out))).trans HFsG.out
           clear HVsG HFsG
           have HVsG := Aside0.mk hv_
           have HFsG := Aside0.mk hf_
           clear hv_ hf_
           replace BKx := Aside0.mk (blk_below BKx.out hb)
           replace BKr := Aside0.mk (blk_below BKr.out hb)
           replace BKn := Aside0.mk (blk_below BKn.out hb)
           replace BKo := Aside0.mk (blk_below BKo.out hb)
           replace HB := Aside0.mk (below_step HB.out hb)
           clear hb
           refine hK.out _ _ ⟨HVsG.out, (blk_cell BKo.out 0).trans rfl, (blk_cell BKx.out 1).trans rfl, (blk_cell BKx.out 2).trans rfl⟩ (fun hHeld => ?_)
           clear hK K
           refine norm_ (show Act.put _ (some 133) _ = _ from Ya_) ?_
           refine pure_ (i := 17) (N := some 134) #[true, true, true, true, true, true, true, true, true, true, true, true, true, true, true, true, true, true, false] rfl rfl Yj_ (fun _ _ _ h => h) (Or.inl ⟨by rfl, Yba_⟩) Ya_ ?_
           refine last_ (i := 18) (N := none) #[true, true, true, true, true, true, true, true, true, true, true, true, true, true, true, true, true, true, true] rfl rfl Yj_ (by decide) (fun K hK => ?_)
           have hv_ := HVsG.out
           have hf_ := HFsG.out
           refine Go.Proofs.YtnggfglmjdiaaaaOwn.Ej (w1 := (w37.setCell ⟨gY_, (a1_2).toNat, none⟩ (.slice AsH sH.length csH))) (by rfl) rfl ?_ ?_
           ·first | (go_simp; done) | (go_simp; rfl)
           intro w38 hw
           clear hv_ hf_
           have HT := HT2
           clear HT2
           have hO_ : Go.Proofs.YtnggfglmjdiaaaaOwn.Only w37 w38 gY_ := Ybh_
           have ht_ := HT.out
           rw [← hw] at ht_
           clear HT
           have HT := Aside0.mk ht_
           clear ht_ hw
           replace BKx := Aside0.mk ((hO_.others _ NXY_gx.out).trans BKx.out)
           replace BKr := Aside0.mk ((hO_.others _ NXY_gr.out).trans BKr.out)
           replace BKn := Aside0.mk ((hO_.others _ NXY_gn.out).trans BKn.out)
           replace BKo := Aside0.mk ((hO_.others _ NXY_go.out).trans BKo.out)
           replace HB := Aside0.mk (hO_.below HB.out GEY.out)
           clear hO_
           clear NXY_gx
           clear NXY_gr
           clear NXY_gn
           clear NXY_go
           rw [show lF.set (a1_2).toNat sH = lG from HLlG.out.symm] at HT
           refine hK.out _ _ ?_
           clear hK K
           refine done_ Yj_ ?_
           clear p_a1_2 q_a1_2 HVsG HFsG HCsG HRsG
           have hy_ := HT.out.reads
           have hb_ := HT.out.swap.reads
           have call_ := Ad.calls k (some ⟨gY_, 0, none⟩) cY lG hh AB cB B vv _ hy_.2.2 (hy_.1 ▸ hy_.2.1) hb_.2.2 (hb_.1 ▸ hb_.2.1) A4.out
           rw [← hy_.1, ← hb_.1] at call_
           have CALLV := Aside0.mk call_
           clear call_ hy_ hb_
           clear BKx
           have hzgn_0 : w38.cell? ⟨gn, 0, none⟩ = some (.slice none 0 0) := (blk_cell BKn.out 0).trans rfl
           have hzgn_1 : w38.cell? ⟨gn, 1, none⟩ = some (.int .i64 0) := (blk_cell BKn.out 1).trans rfl
           have hzgn_2 : w38.cell? ⟨gn, 2, none⟩ = some (.slice none 0 0) := (blk_cell BKn.out 2).trans rfl
           have hzgo_0 : w38.cell? ⟨go, 0, none⟩ = some (.slice (some ⟨gY_, 0, none⟩) nY cY) := (blk_cell BKo.out 0).trans rfl
           have hzgo_1 : w38.cell? ⟨go, 1, none⟩ = some (.int .i64 hh) := (blk_cell BKo.out 1).trans rfl
           have hzgo_2 : w38.cell? ⟨go, 2, none⟩ = some (.slice AB nB cB) := (blk_cell BKo.out 2).trans rfl
           cases vv with
           | false =>
            simp only [Ew, Bool.false_eq_true, if_false] at h
            simp only [Option.some.injEq, Prod.mk.injEq] at h
            obtain ⟨rfl, rfl, rfl, rfl⟩ := h
            clear BKo
            clear HT
            go_wp2_with (first | (go_at_call 39; (with_reducible refine (CALLV.out).mono ?_); rintro e w39 ⟨rfl, hb⟩; (try clear hzgn_0); (try clear hzgn_1); (try clear hzgn_2); (try clear hzgo_0); (try clear hzgo_1); (try clear hzgo_2); replace BKr := Aside0.mk (blk_below BKr.out hb); replace BKn := Aside0.mk (blk_below BKn.out hb); replace HB := Aside0.mk (below_step HB.out hb); clear hb; have hzgn_0 : w39.cell? ⟨gn, 0, none⟩ = some (.slice none 0 0) := (blk_cell BKn.out 0).trans rfl; have hzgn_1 : w39.cell? ⟨gn, 1, none⟩ = some (.int .i64 0) := (blk_cell BKn.out 1).trans rfl; have hzgn_2 : w39.cell? ⟨gn, 2, none⟩ = some (.slice none 0 0) := (blk_cell BKn.out 2).trans rfl) | ((with_reducible refine gate_store (t := 34) (p := 4) rfl ?_); refine Go.Proofs.YtnggfglmjdiaaaaOwn.sto3 (t := 34) (p := 4) (g := gr) (w0 := w) Yj_ rfl rfl rfl rfl (by rfl) BKr.out HB.out GEgr.out ?_; intro w40 hbx_ hB_ hO_; (try clear hzgn_0); (try clear hzgn_1); (try clear hzgn_2); clear BKr HB hO_; have BKr := Aside0.mk hbx_; have HB := Aside0.mk hB_; clear hbx_ hB_))
            refine bodyPost_ret (Cc rfl _ _ gr 34 #[.slice none 0 0, .int .i64 0, .slice none 0 0] (0, 0) _ rfl BKr.out Try.underlying34 rfl Yj_) rfl ?_
            exact ⟨_, _, rfl, Go.Proofs.YtnggfglmjdiaaaaOwn.TT.nil _ _ _, HB.out⟩
           | true =>
            simp only [Ew, if_true] at h
            simp only [Option.some.injEq, Prod.mk.injEq] at h
            obtain ⟨rfl, rfl, rfl, rfl⟩ := h
            clear BKn
            go_wp2_with (first | (go_at_call 39; (with_reducible refine (CALLV.out).mono ?_); rintro e w41 ⟨rfl, hb⟩; (try clear hzgn_0); (try clear hzgn_1); (try clear hzgn_2); (try clear hzgo_0); (try clear hzgo_1); (try clear hzgo_2); replace HT := Aside0.mk (HT.out.below hb); replace BKr := Aside0.mk (blk_below BKr.out hb); replace BKo := Aside0.mk (blk_below BKo.out hb); replace HB := Aside0.mk (below_step HB.out hb); clear hb; have hzgo_0 : w41.cell? ⟨go, 0, none⟩ = some (.slice (some ⟨gY_, 0, none⟩) nY cY) := (blk_cell BKo.out 0).trans rfl; have hzgo_1 : w41.cell? ⟨go, 1, none⟩ = some (.int .i64 hh) := (blk_cell BKo.out 1).trans rfl; have hzgo_2 : w41.cell? ⟨go, 2, none⟩ = some (.slice AB nB cB) := (blk_cell BKo.out 2).trans rfl) | ((with_reducible refine gate_store (t := 34) (p := 4) rfl ?_); refine Go.Proofs.YtnggfglmjdiaaaaOwn.sto3 (t := 34) (p := 4) (g := gr) (w0 := w) Yj_ rfl rfl rfl rfl (by rfl) BKr.out HB.out GEgr.out ?_; intro w42 hbx_ hB_ hO_; (try clear hzgo_0); (try clear hzgo_1); (try clear hzgo_2); replace HT := Aside0.mk (HT.out.only BKr.out (by decide) hO_); clear BKr HB hO_; have BKr := Aside0.mk hbx_; have HB := Aside0.mk hB_; clear hbx_ hB_))
            refine bodyPost_ret (Cc rfl _ _ gr 34 #[.slice (some ⟨gY_, 0, none⟩) nY cY, .int .i64 hh, .slice AB nB cB] (0, 0) _ rfl BKr.out Try.underlying34 rfl Yj_) rfl ?_
            exact ⟨_, _, rfl, HT.out, HB.out⟩
          ·rw [if_neg cL] at h
           cases h
         ·rw [if_neg cS] at h
          cases h
       ·rw [if_neg c5] at h
        cases h
     ·rw [if_neg c3] at h
      simp only [Option.some.injEq, Prod.mk.injEq] at h
      obtain ⟨rfl, rfl, rfl, rfl⟩ := h
      have d1_ : (q2 == (sT.length : Int) - 1) = false := by simp [c3]
      have d2_ : decide (q2 = (sT.length : Int) - 1) = false := decide_eq_false c3
      have d3_ : (q2 != (sT.length : Int) - 1) = true := by simp [c3]
      clear c3
      clear BKx
      clear BKo
      clear HT
      go_wp2_with (first | (go_at_call 47; (with_reducible refine (spec_l5Find.calls k _ _ l0_0 a1_1 q1 q2 _ (Kd.C_below HR0_0.out HB.out) HC0_0.out A2.out).mono ?_); rintro e w43 ⟨rfl, hb⟩; (try clear hzgn_0); (try clear hzgn_1); (try clear hzgn_2); (try clear hzgt_0); (try clear hzgt_1); (try clear hzgt_2); (try clear hzgx_0); (try clear hzgx_1); (try clear hzgx_2); replace BKt := Aside0.mk (blk_below BKt.out hb); replace BKr := Aside0.mk (blk_below BKr.out hb); replace BKn := Aside0.mk (blk_below BKn.out hb); replace HB := Aside0.mk (below_step HB.out hb); have hxt_ : w43.cell? (adT.add q1.toNat) = some (.slice AT sT.length cT) := (HB.out.cell (World.block_lt_of_cell? w _ HXT.out)).trans HXT.out; clear hb; have hzgt_0 : w43.cell? ⟨gt, 0, none⟩ = some (.slice (some adT) l0_0.length c0_0) := (blk_cell BKt.out 0).trans rfl; have hzgt_1 : w43.cell? ⟨gt, 1, none⟩ = some (.int .i64 a0_1) := (blk_cell BKt.out 1).trans rfl; have hzgt_2 : w43.cell? ⟨gt, 2, none⟩ = some (.slice A0_2 l0_2.length c0_2) := (blk_cell BKt.out 2).trans rfl; have hzgn_0 : w43.cell? ⟨gn, 0, none⟩ = some (.slice none 0 0) := (blk_cell BKn.out 0).trans rfl; have hzgn_1 : w43.cell? ⟨gn, 1, none⟩ = some (.int .i64 0) := (blk_cell BKn.out 1).trans rfl; have hzgn_2 : w43.cell? ⟨gn, 2, none⟩ = some (.slice none 0 0) := (blk_cell BKn.out 2).trans rfl) | ((with_reducible refine gate_store (t := 34) (p := 4) rfl ?_); refine Go.Proofs.YtnggfglmjdiaaaaOwn.sto3 (t := 34) (p := 4) (g := gr) (w0 := w) Yj_ rfl rfl rfl rfl (by rfl) BKr.out HB.out GEgr.out ?_; intro w44 hbx_ hB_ hO_; (try clear hzgn_0); (try clear hzgn_1); (try clear hzgn_2); (try clear hzgt_0); (try clear hzgt_1); (try clear hzgt_2); clear BKr HB hO_; have BKr := Aside0.mk hbx_; have HB := Aside0.mk hB_; clear hbx_ hB_))
      refine bodyPost_ret (Cc rfl _ _ gr 34 #[.slice none 0 0, .int .i64 0, .slice none 0 0] (0, 0) _ rfl BKr.out Try.underlying34 rfl Yj_) rfl ?_
      exact ⟨_, _, rfl, Go.Proofs.YtnggfglmjdiaaaaOwn.TT.nil _ _ _, HB.out⟩
    ·rw [if_neg c2] at h
     cases h
  ·simp only [if_neg k1] at h
   by_cases k2 : a1_0 = 2
   ·simp only [if_pos k2] at h
    subst k2
    clear k1 k3
    replace h := Option.bind_eq_some_iff.mp h
    obtain ⟨⟨q1, q2⟩, a_, h⟩ := h
    have A2 := Aside0.mk a_
    clear a_
    dsimp only at h
    unfold lmCut at h
    by_cases c1 : q1 < 0
    ·rw [if_pos c1] at h
     simp only [Option.some.injEq, Prod.mk.injEq] at h
     obtain ⟨rfl, rfl, rfl, rfl⟩ := h
     have cb1 : decide (q1 < 0) = true := decide_eq_true c1
     clear c1
     clear BKx
     clear BKo
     clear HT
     go_wp2_with (first | (go_at_call 47; (with_reducible refine (spec_l5Find.calls k _ _ l0_0 a1_1 q1 q2 _ (Kd.C_below HR0_0.out HB.out) HC0_0.out A2.out).mono ?_); rintro e w45 ⟨rfl, hb⟩; (try clear hzgn_0); (try clear hzgn_1); (try clear hzgn_2); (try clear hzgt_0); (try clear hzgt_1); (try clear hzgt_2); (try clear hzgx_0); (try clear hzgx_1); (try clear hzgx_2); replace BKt := Aside0.mk (blk_below BKt.out hb); replace BKr := Aside0.mk (blk_below BKr.out hb); replace BKn := Aside0.mk (blk_below BKn.out hb); replace HB := Aside0.mk (below_step HB.out hb); clear hb; have hzgn_0 : w45.cell? ⟨gn, 0, none⟩ = some (.slice none 0 0) := (blk_cell BKn.out 0).trans rfl; have hzgn_1 : w45.cell? ⟨gn, 1, none⟩ = some (.int .i64 0) := (blk_cell BKn.out 1).trans rfl; have hzgn_2 : w45.cell? ⟨gn, 2, none⟩ = some (.slice none 0 0) := (blk_cell BKn.out 2).trans rfl) | ((with_reducible refine gate_store (t := 34) (p := 4) rfl ?_); refine Go.Proofs.YtnggfglmjdiaaaaOwn.sto3 (t := 34) (p := 4) (g := gr) (w0 := w) Yj_ rfl rfl rfl rfl (by rfl) BKr.out HB.out GEgr.out ?_; intro w46 hbx_ hB_ hO_; (try clear hzgn_0); (try clear hzgn_1); (try clear hzgn_2); clear BKr HB hO_; have BKr := Aside0.mk hbx_; have HB := Aside0.mk hB_; clear hbx_ hB_))
     refine bodyPost_ret (Cc rfl _ _ gr 34 #[.slice none 0 0, .int .i64 0, .slice none 0 0] (0, 0) _ rfl BKr.out Try.underlying34 rfl Yj_) rfl ?_
     exact ⟨_, _, rfl, Go.Proofs.YtnggfglmjdiaaaaOwn.TT.nil _ _ _, HB.out⟩
    ·rw [if_neg c1] at h
     by_cases c2 : q1 < (l0_0.length : Int)
     ·rw [if_pos c2] at h
      have cb1 : decide (q1 < 0) = false := decide_eq_false c1
      have p_ : 0 ≤ q1 := by omega
      obtain ⟨adT, AT, cT, eT, hx_, hl_, hi_⟩ := Bo HR0_0.out q1 p_ c2
      subst eT
      have hlw_ := hi_.2.1
      obtain ⟨sT, hsT⟩ : ∃ z, z = rd_L1 l0_0 q1 := ⟨_, rfl⟩
      rw [← hsT] at h hx_ hlw_
      clear hl_ hi_ hsT
      have HXT := Aside0.mk hx_
      clear hx_
      have hwt_ : wrap64 ((sT.length : Int) - 1) = (sT.length : Int) - 1 := by unfold wrap64; omega
      clear hlw_
      have C1 := Aside0.mk p_
      have C2 := Aside0.mk c2
      have p1_ := eq_true p_
      have q1_ := eq_true c2
      clear p_ c1 c2
      by_cases c3 : q2 = (sT.length : Int) - 1
      ·rw [if_pos c3] at h
       have d1_ : (q2 == (sT.length : Int) - 1) = true := by simp [c3]
       have d2_ : decide (q2 = (sT.length : Int) - 1) = true := decide_eq_true c3
       have d3_ : (q2 != (sT.length : Int) - 1) = false := by simp [c3]
       clear c3
       rw [if_pos rfl] at h
       by_cases c5 : 0 ≤ q2 ∧ q1 < (Y.length : Int) ∧ q2 ≤ ((rd_L1 Y q1).length : Int)
       ·rw [if_pos c5] at h
        obtain ⟨sF, hsF⟩ : ∃ z, z = rd_L1 Y q1 := ⟨_, rfl⟩
        rw [← hsF] at c5
        have HSsF := Aside0.mk hsF
        obtain ⟨c5, c6, c7⟩ := c5
        have Pq1 := Aside0.mk (show 0 ≤ q1 ∧ q1 < (nY : Int) from ⟨C1.out, by have := HT.out.reads.1; omega⟩)
        have HMq2 := Aside0.mk (show (q2).toNat ≤ sF.length from by omega)
        have HQ0 := Aside0.mk c5
        have HQ1 := Aside0.mk c7
        clear c5 c6 c7
        obtain ⟨lF, hlF⟩ : ∃ z, z = cutAt Y q1 q2 := ⟨_, rfl⟩
        have HLlF := Aside0.mk (show lF = Y.set (q1).toNat ((Y.getD (q1).toNat []).take (q2).toNat) from hlF)
        rw [← hlF] at h
        (try dsimp only at h)
        clear hlF hsF
        go_upto_region 11 with (first | (go_at_call 47; (with_reducible refine (spec_l5Find.calls k _ _ l0_0 a1_1 q1 q2 _ (Kd.C_below HR0_0.out HB.out) HC0_0.out A2.out).mono ?_); rintro e w47 ⟨rfl, hb⟩; (try clear hzgn_0); (try clear hzgn_1); (try clear hzgn_2); (try clear hzgt_0); (try clear hzgt_1); (try clear hzgt_2); (try clear hzgx_0); (try clear hzgx_1); (try clear hzgx_2); replace HT := Aside0.mk (HT.out.below hb); replace BKt := Aside0.mk (blk_below BKt.out hb); replace BKx := Aside0.mk (blk_below BKx.out hb); replace BKr := Aside0.mk (blk_below BKr.out hb); replace BKn := Aside0.mk (blk_below BKn.out hb); replace BKo := Aside0.mk (blk_below BKo.out hb); replace HB := Aside0.mk (below_step HB.out hb); have hxt_ : w47.cell? (adT.add q1.toNat) = some (.slice AT sT.length cT) := (HB.out.cell (World.block_lt_of_cell? w _ HXT.out)).trans HXT.out; clear hb; have hzgt_0 : w47.cell? ⟨gt, 0, none⟩ = some (.slice (some adT) l0_0.length c0_0) := (blk_cell BKt.out 0).trans rfl; have hzgt_1 : w47.cell? ⟨gt, 1, none⟩ = some (.int .i64 a0_1) := (blk_cell BKt.out 1).trans rfl; have hzgt_2 : w47.cell? ⟨gt, 2, none⟩ = some (.slice A0_2 l0_2.length c0_2) := (blk_cell BKt.out 2).trans rfl; have hzgx_0 : w47.cell? ⟨gx, 0, none⟩ = some (.int .i64 2) := (blk_cell BKx.out 0).trans rfl; have hzgx_1 : w47.cell? ⟨gx, 1, none⟩ = some (.int .i64 a1_1) := (blk_cell BKx.out 1).trans rfl; have hzgx_2 : w47.cell? ⟨gx, 2, none⟩ = some (.int .i64 a1_2) := (blk_cell BKx.out 2).trans rfl))
        clear hwt_ d1_ d2_ d3_ p1_ q1_
        (try clear hxt_)
        (try clear hzgt_0)
        (try clear hzgt_1)
        (try clear hzgt_2)
        (try clear hzgx_0)
        (try clear hzgx_1)
        (try clear hzgx_2)
        clear BKt
        obtain ⟨gY_, eg_, gb_, gl_⟩ := HT.out.form Yce_
        have GEY := Aside0.mk gb_
        clear gb_ gl_
        subst eg_
        obtain ⟨AsF, csF, hv_, hc_, hC_, hf_⟩ := Go.Proofs.YtnggfglmjdiaaaaOwn.TT.elem HT.out (i := q1) Pq1.out.1 Yce_
        have e_ : (Y.getD (q1).toNat []) = sF := HSsF.out.symm
        rw [e_] at hv_ hc_ hC_
        clear e_
        have HVsF := Aside0.mk hv_
        have HCsF := Aside0.mk hc_
        have HRsF := Aside0.mk hC_
        have HFsF := Aside0.mk hf_
        clear hv_ hc_ hC_ hf_
        have NXY_gx := Aside0.mk (Go.Proofs.YtnggfglmjdiaaaaOwn.TT.ne HT.out BKx.out (by decide))
        have NXY_gr := Aside0.mk (Go.Proofs.YtnggfglmjdiaaaaOwn.TT.ne HT.out BKr.out (by decide))
        have NXY_gn := Aside0.mk (Go.Proofs.YtnggfglmjdiaaaaOwn.TT.ne HT.out BKn.out (by decide))
        have NXY_go := Aside0.mk (Go.Proofs.YtnggfglmjdiaaaaOwn.TT.ne HT.out BKo.out (by decide))
        have p_q1 : 0 ≤ q1 := Pq1.out.1
        have q_q1 : q1 < (nY : Int) := Pq1.out.2
        replace p_q1 := eq_true p_q1
        replace q_q1 := eq_true q_q1
        obtain ⟨i0_, hi0_, _, hsz0_, _⟩ := info_parts info3
        have hcut_ := cut_to (P := Try.prog) 73 3 .i64 Try.underlying73 hi0_ AsF sF.length csF q2 HQ0.out HQ1.out HCsF.out
        replace HT := Aside0.mk (HT.out.drew)
        replace BKx := Aside0.mk (blk_drew BKx.out)
        replace BKr := Aside0.mk (blk_drew BKr.out)
        replace BKn := Aside0.mk (blk_drew BKn.out)
        replace BKo := Aside0.mk (blk_drew BKo.out)
        replace HB := Aside0.mk (below_drew1 HB.out)
        replace HVsF := Aside0.mk ((show (w47.drew).cell? ⟨gY_, (q1).toNat, none⟩ = some (.slice AsF sF.length csF) from HVsF.out))
        replace HFsF := Aside0.mk ((show (w47.drew).frozen? ⟨gY_, (q1).toNat, none⟩ = false from HFsF.out))
        refine start_ (n := 14) (S := fun w' => w'.cell? ⟨gY_, (q1).toNat, none⟩ = some (.slice AsF sF.length csF) ∧ w'.cell? ⟨go, 0, none⟩ = some (.slice (some ⟨gY_, 0, none⟩) nY cY)) (ds := [13]) #[false, false, false, false, false, false, false, false, false, false, false, false, false, false] Yj_ rfl rfl ⟨HVsF.out, (blk_cell BKo.out 0).trans rfl⟩ (fun hHeld => ?_)
        generalize w47.drew = w48 at HT BKx BKr BKn BKo HB HVsF HFsF hHeld ⊢
        refine pure_ (i := 0) (N := some 88) #[true, false, false, false, false, false, false, false, false, false, false, false, false, false] rfl rfl Yj_ (fun _ _ _ h => h) (Or.inl ⟨by rfl, Yba_⟩) Ya_ ?_
        refine pure_ (i := 1) (N := some 89) #[true, true, false, false, false, false, false, false, false, false, false, false, false, false] rfl rfl Yj_ (fun _ _ _ h => h) (Or.inl ⟨by rfl, Yba_⟩) Ya_ ?_
        refine pure_ (i := 3) (N := some 91) #[true, true, false, true, false, false, false, false, false, false, false, false, false, false] rfl rfl Yj_ (fun _ _ _ h => h) (Or.inl ⟨by rfl, Yba_⟩) Ya_ ?_
        refine pure_ (i := 4) (N := some 92) #[true, true, false, true, true, false, false, false, false, false, false, false, false, false] rfl rfl Yj_ (fun _ _ _ h => h) (Or.inl ⟨by rfl, Yba_⟩) Ya_ ?_
        refine pure_ (i := 5) (N := some 93) #[true, true, false, true, true, true, false, false, false, false, false, false, false, false] rfl rfl Yj_ (fun _ _ _ h => h) (Or.inl ⟨by rfl, Yba_⟩) Ya_ ?_
        refine pure_ (i := 7) (N := some 95) #[true, true, false, true, true, true, false, true, false, false, false, false, false, false] rfl rfl Yj_ (fun _ _ _ h => h) (Or.inl ⟨by rfl, Yba_⟩) Ya_ ?_
        refine pure_ (i := 10) (N := some 98) #[true, true, false, true, true, true, false, true, false, false, true, false, false, false] rfl rfl Yj_ (fun _ _ _ h => h) (Or.inl ⟨by rfl, Yba_⟩) Ya_ ?_
        refine take_ (i := 2) (N := some 90) #[true, true, true, true, true, true, false, true, false, false, true, false, false, false] rfl rfl Yj_ (fun _ _ _ h => h) (Or.inl ⟨by rfl, Ybi_⟩) hHeld Ya_ ?_
        refine take_ (i := 6) (N := some 94) #[true, true, true, true, true, true, true, true, false, false, true, false, false, false] rfl rfl Yj_ (fun _ _ _ h => h) (Or.inl ⟨by rfl, Ybi_⟩) hHeld Ya_ ?_
        refine pure_ (i := 8) (N := some 96) #[true, true, true, true, true, true, true, true, true, false, true, false, false, false] rfl rfl Yj_ (fun _ _ _ h => h) (Or.inl ⟨by rfl, Yba_⟩) Ya_ ?_
        refine take_ (i := 9) (N := some 97) #[true, true, true, true, true, true, true, true, true, true, true, false, false, false] rfl rfl Yj_ (fun _ _ _ h => h) (Or.inl ⟨by rfl, Ybi_⟩) hHeld Ya_ ?_
        refine pure_ (i := 11) (N := some 99) #[true, true, true, true, true, true, true, true, true, true, true, true, false, false] rfl rfl Yj_ (fun _ _ _ h => h) (Or.inl ⟨by rfl, Yba_⟩) Ya_ ?_
        refine pure_ (i := 12) (N := some 100) #[true, true, true, true, true, true, true, true, true, true, true, true, true, false] rfl rfl Yj_ (fun _ _ _ h => h) (Or.inl ⟨by rfl, Yba_⟩) Ya_ ?_
        refine last_ (i := 13) (N := none) #[true, true, true, true, true, true, true, true, true, true, true, true, true, true] rfl rfl Yj_ (by decide) (fun K hK => ?_)
        have hv_ := HVsF.out
        have hf_ := HFsF.out
        refine Go.Proofs.YtnggfglmjdiaaaaOwn.Ej (w1 := (w48.setCell ⟨gY_, (q1).toNat, none⟩ (.slice AsF (q2).toNat csF))) (by rfl) rfl ?_ ?_
        ·first | (go_simp; done) | (go_simp; rfl)
        intro w49 hw
        clear hv_ hf_
        have hO_ : Go.Proofs.YtnggfglmjdiaaaaOwn.Only w48 w49 gY_ := Ybh_
        have ht_ := (Go.Proofs.YtnggfglmjdiaaaaOwn.TT.cut HT.out Pq1.out.1 Yce_ HVsF.out Ydh_).1
        rw [← hw] at ht_
        clear HT
        have HT := Aside0.mk ht_
        clear ht_ hw
        replace BKx := Aside0.mk ((hO_.others _ NXY_gx.out).trans BKx.out)
        replace BKr := Aside0.mk ((hO_.others _ NXY_gr.out).trans BKr.out)
        replace BKn := Aside0.mk ((hO_.others _ NXY_gn.out).trans BKn.out)
        replace BKo := Aside0.mk ((hO_.others _ NXY_go.out).trans BKo.out)
        replace HB := Aside0.mk (hO_.below HB.out GEY.out)
        clear hO_
        clear NXY_gx
        clear NXY_gr
        clear NXY_gn
        clear NXY_go
        rw [show Y.set (q1).toNat ((Y.getD (q1).toNat []).take (q2).toNat) = lF from HLlF.out.symm] at HT
        refine hK.out _ _ ?_
        clear hK K
        refine done_ Yj_ ?_
        clear p_q1 q_q1 HVsF HFsF HCsF HRsF
        clear hcut_ hi0_ hsz0_ HQ0 HQ1 HMq2
        have hzgx_0 : w49.cell? ⟨gx, 0, none⟩ = some (.int .i64 2) := (blk_cell BKx.out 0).trans rfl
        have hzgx_1 : w49.cell? ⟨gx, 1, none⟩ = some (.int .i64 a1_1) := (blk_cell BKx.out 1).trans rfl
        have hzgx_2 : w49.cell? ⟨gx, 2, none⟩ = some (.int .i64 a1_2) := (blk_cell BKx.out 2).trans rfl
        have hzgn_0 : w49.cell? ⟨gn, 0, none⟩ = some (.slice none 0 0) := (blk_cell BKn.out 0).trans rfl
        have hzgn_1 : w49.cell? ⟨gn, 1, none⟩ = some (.int .i64 0) := (blk_cell BKn.out 1).trans rfl
        have hzgn_2 : w49.cell? ⟨gn, 2, none⟩ = some (.slice none 0 0) := (blk_cell BKn.out 2).trans rfl
        have hzgo_0 : w49.cell? ⟨go, 0, none⟩ = some (.slice (some ⟨gY_, 0, none⟩) nY cY) := (blk_cell BKo.out 0).trans rfl
        have hzgo_1 : w49.cell? ⟨go, 1, none⟩ = some (.int .i64 hh) := (blk_cell BKo.out 1).trans rfl
        have hzgo_2 : w49.cell? ⟨go, 2, none⟩ = some (.slice AB nB cB) := (blk_cell BKo.out 2).trans rfl
        unfold lmPutB at h
        have hwn_ : wrap64 ((nB : Int) - 1) = (nB : Int) - 1 := by have h1_ := HT.out.swap.reads; have h2_ := h1_.2.2.2.1; have h3_ := h1_.1; unfold wrap64; omega
        have HWI := Aside0.mk (show Ba.f a1_2 0 ((nB : Int) - 1) = some (inRows B a1_2) from by rw [HT.out.swap.reads.1]; exact l1In_f2 _ _ _)
        cases cW : inRows B a1_2 with
        | false =>
         rw [cW] at HWI
         rw [cW, if_neg (by decide)] at h
         simp only [Option.some.injEq, Prod.mk.injEq] at h
         obtain ⟨rfl, rfl, rfl, rfl⟩ := h
         clear BKx
         clear BKo
         clear HT
         go_wp2_with (first | (go_at_call 71; (with_reducible refine (Ba.calls a1_2 0 ((nB : Int) - 1) false _ HWI.out).mono ?_); rintro e w50 ⟨rfl, hd_⟩; (try clear hzgn_0); (try clear hzgn_1); (try clear hzgn_2); (try clear hzgo_0); (try clear hzgo_1); (try clear hzgo_2); (try clear hzgx_0); (try clear hzgx_1); (try clear hzgx_2); have hb := Drawn0.below hd_; clear hd_; replace BKr := Aside0.mk (blk_below BKr.out hb); replace BKn := Aside0.mk (blk_below BKn.out hb); replace HB := Aside0.mk (below_step HB.out hb); clear hb; have hzgn_0 : w50.cell? ⟨gn, 0, none⟩ = some (.slice none 0 0) := (blk_cell BKn.out 0).trans rfl; have hzgn_1 : w50.cell? ⟨gn, 1, none⟩ = some (.int .i64 0) := (blk_cell BKn.out 1).trans rfl; have hzgn_2 : w50.cell? ⟨gn, 2, none⟩ = some (.slice none 0 0) := (blk_cell BKn.out 2).trans rfl) | ((with_reducible refine gate_store (t := 34) (p := 4) rfl ?_); refine Go.Proofs.YtnggfglmjdiaaaaOwn.sto3 (t := 34) (p := 4) (g := gr) (w0 := w) Yj_ rfl rfl rfl rfl (by rfl) BKr.out HB.out GEgr.out ?_; intro w51 hbx_ hB_ hO_; (try clear hzgn_0); (try clear hzgn_1); (try clear hzgn_2); clear BKr HB hO_; have BKr := Aside0.mk hbx_; have HB := Aside0.mk hB_; clear hbx_ hB_))
         refine bodyPost_ret (Cc rfl _ _ gr 34 #[.slice none 0 0, .int .i64 0, .slice none 0 0] (0, 0) _ rfl BKr.out Try.underlying34 rfl Yj_) rfl ?_
         exact ⟨_, _, rfl, Go.Proofs.YtnggfglmjdiaaaaOwn.TT.nil _ _ _, HB.out⟩
        | true =>
         rw [cW] at HWI
         rw [cW, if_pos rfl] at h
         have Pa1_2 := Aside0.mk (show 0 ≤ a1_2 ∧ a1_2 < (nB : Int) from by have h1_ := inRows_lt cW; have h2_ := HT.out.swap.reads.1; omega)
         clear cW
         obtain ⟨sG, hsG⟩ : ∃ z, z = rd_L1 B a1_2 := ⟨_, rfl⟩
         rw [← hsG] at h
         have HSsG := Aside0.mk hsG
         clear hsG
         by_cases cS : (Ce.f sG).isSome = true
         ·rw [if_pos cS] at h
          clear cS
          replace h := Option.bind_eq_some_iff.mp h
          obtain ⟨sC, a_, h⟩ := h
          have A3 := Aside0.mk a_
          clear a_
          by_cases cL : sC.length < 17592186044415
          ·rw [if_pos cL] at h
           have HLsC := Aside0.mk cL
           clear cL
           obtain ⟨sH, hsH⟩ : ∃ z, z = sC ++ [a1_1] := ⟨_, rfl⟩
           have HSsH := Aside0.mk hsH
           obtain ⟨lG, hlG⟩ : ∃ z, z = B.set (a1_2).toNat (sC ++ [a1_1]) := ⟨_, rfl⟩
           have HLlG := Aside0.mk (show lG = B.set (a1_2).toNat sH from by rw [hlG, hsH])
           rw [← hlG] at h
           clear hlG hsH
           replace h := Option.bind_eq_some_iff.mp h
           obtain ⟨vv, a_, h⟩ := h
           have A4 := Aside0.mk a_
           clear a_
           go_upto_region 22 with (first | (go_at_call 71; (with_reducible refine (Ba.calls a1_2 0 ((nB : Int) - 1) true _ HWI.out).mono ?_); rintro e w52 ⟨rfl, hd_⟩; (try clear hzgn_0); (try clear hzgn_1); (try clear hzgn_2); (try clear hzgo_0); (try clear hzgo_1); (try clear hzgo_2); (try clear hzgx_0); (try clear hzgx_1); (try clear hzgx_2); have hb := Drawn0.below hd_; clear hd_; replace HT := Aside0.mk (HT.out.below hb); replace BKx := Aside0.mk (blk_below BKx.out hb); replace BKr := Aside0.mk (blk_below BKr.out hb); replace BKn := Aside0.mk (blk_below BKn.out hb); replace BKo := Aside0.mk (blk_below BKo.out hb); replace HB := Aside0.mk (below_step HB.out hb); clear hb))
           clear hwn_ HWI
           obtain ⟨gB_, eg_, gb_, gl_⟩ := HT.out.swap.form Yci_
           have GEB := Aside0.mk gb_
           clear gb_ gl_
           subst eg_
           obtain ⟨AsG, csG, hv_, hc_, hC_, hf_⟩ := Go.Proofs.YtnggfglmjdiaaaaOwn.TT.elem HT.out.swap (i := a1_2) Pa1_2.out.1 Yci_
           have e_ : (B.getD (a1_2).toNat []) = sG := HSsG.out.symm
           rw [e_] at hv_ hc_ hC_
           clear e_
           have HVsG := Aside0.mk hv_
           have HCsG := Aside0.mk hc_
           have HRsG := Aside0.mk hC_
           have HFsG := Aside0.mk hf_
           clear hv_ hc_ hC_ hf_
           have NXB_gx := Aside0.mk (Go.Proofs.YtnggfglmjdiaaaaOwn.TT.ne HT.out.swap BKx.out (by decide))
           have NXB_gr := Aside0.mk (Go.Proofs.YtnggfglmjdiaaaaOwn.TT.ne HT.out.swap BKr.out (by decide))
           have NXB_gn := Aside0.mk (Go.Proofs.YtnggfglmjdiaaaaOwn.TT.ne HT.out.swap BKn.out (by decide))
           have NXB_go := Aside0.mk (Go.Proofs.YtnggfglmjdiaaaaOwn.TT.ne HT.out.swap BKo.out (by decide))
           have p_a1_2 : 0 ≤ a1_2 := Pa1_2.out.1
           have q_a1_2 : a1_2 < (nB : Int) := Pa1_2.out.2
           replace p_a1_2 := eq_true p_a1_2
           replace q_a1_2 := eq_true q_a1_2
           replace HT := Aside0.mk (HT.out.drew)
           replace BKx := Aside0.mk (blk_drew BKx.out)
           replace BKr := Aside0.mk (blk_drew BKr.out)
           replace BKn := Aside0.mk (blk_drew BKn.out)
           replace BKo := Aside0.mk (blk_drew BKo.out)
           replace HB := Aside0.mk (below_drew1 HB.out)
           replace HVsG := Aside0.mk ((show (w52.drew).cell? ⟨gB_, (a1_2).toNat, none⟩ = some (.slice AsG sG.length csG) from HVsG.out))
           replace HFsG := Aside0.mk ((show (w52.drew).frozen? ⟨gB_, (a1_2).toNat, none⟩ = false from HFsG.out))
           replace HRsG := Aside0.mk ((show Kd.C (Kd.int .i64) (w52.drew) AsG sG.length sG from HRsG.out))
           refine start_ (n := 19) (S := fun w' => w'.cell? ⟨gB_, (a1_2).toNat, none⟩ = some (.slice AsG sG.length csG) ∧ w'.cell? ⟨go, 2, none⟩ = some (.slice (some ⟨gB_, 0, none⟩) nB cB) ∧ w'.cell? ⟨gx, 1, none⟩ = some (.int .i64 a1_1) ∧ w'.cell? ⟨gx, 2, none⟩ = some (.int .i64 a1_2)) (ds := [18]) #[false, false, false, false, false, false, false, false, false, false, false, false, false, false, false, false, false, false, false] Yj_ rfl rfl ⟨HVsG.out, (blk_cell BKo.out 2).trans rfl, (blk_cell BKx.out 1).trans rfl, (blk_cell BKx.out 2).trans rfl⟩ (fun hHeld => ?_)
           generalize w52.drew = w53 at HT BKx BKr BKn BKo HB HVsG HFsG HRsG hHeld ⊢
           refine pure_ (i := 0) (N := some 147) #[true, false, false, false, false, false, false, false, false, false, false, false, false, false, false, false, false, false, false] rfl rfl Yj_ (fun _ _ _ h => h) (Or.inl ⟨by rfl, Yba_⟩) Ya_ ?_
           refine pure_ (i := 1) (N := some 148) #[true, true, false, false, false, false, false, false, false, false, false, false, false, false, false, false, false, false, false] rfl rfl Yj_ (fun _ _ _ h => h) (Or.inl ⟨by rfl, Yba_⟩) Ya_ ?_
           refine pure_ (i := 3) (N := some 150) #[true, true, false, true, false, false, false, false, false, false, false, false, false, false, false, false, false, false, false] rfl rfl Yj_ (fun _ _ _ h => h) (Or.inl ⟨by rfl, Yba_⟩) Ya_ ?_
           refine pure_ (i := 5) (N := some 152) #[true, true, false, true, false, true, false, false, false, false, false, false, false, false, false, false, false, false, false] rfl rfl Yj_ (fun _ _ _ h => h) (Or.inl ⟨by rfl, Yba_⟩) Ya_ ?_
           refine pure_ (i := 6) (N := some 153) #[true, true, false, true, false, true, true, false, false, false, false, false, false, false, false, false, false, false, false] rfl rfl Yj_ (fun _ _ _ h => h) (Or.inl ⟨by rfl, Yba_⟩) Ya_ ?_
           refine pure_ (i := 8) (N := some 155) #[true, true, false, true, false, true, true, false, true, false, false, false, false, false, false, false, false, false, false] rfl rfl Yj_ (fun _ _ _ h => h) (Or.inl ⟨by rfl, Yba_⟩) Ya_ ?_
           refine pure_ (i := 13) (N := some 160) #[true, true, false, true, false, true, true, false, true, false, false, false, false, true, false, false, false, false, false] rfl rfl Yj_ (fun _ _ _ h => h) (Or.inl ⟨by rfl, Yba_⟩) Ya_ ?_
           refine take_ (i := 2) (N := some 149) #[true, true, true, true, false, true, true, false, true, false, false, false, false, true, false, false, false, false, false] rfl rfl Yj_ (fun _ _ _ h => h) (Or.inl ⟨by rfl, Ybf_⟩) hHeld Ya_ ?_
           refine take_ (i := 4) (N := some 151) #[true, true, true, true, true, true, true, false, true, false, false, false, false, true, false, false, false, false, false] rfl rfl Yj_ (fun _ _ _ h => h) (Or.inl ⟨by rfl, Ybf_⟩) hHeld Ya_ ?_
           refine take_ (i := 7) (N := some 154) #[true, true, true, true, true, true, true, true, true, false, false, false, false, true, false, false, false, false, false] rfl rfl Yj_ (fun _ _ _ h => h) (Or.inl ⟨by rfl, Ybf_⟩) hHeld Ya_ ?_
           refine take_ (i := 9) (N := some 156) #[true, true, true, true, true, true, true, true, true, true, false, false, false, true, false, false, false, false, false] rfl rfl Yj_ (fun _ _ _ h => h) (Or.inl ⟨by rfl, Ybf_⟩) hHeld Ya_ ?_
           refine pure_ (i := 10) (N := some 157) #[true, true, true, true, true, true, true, true, true, true, true, false, false, true, false, false, false, false, false] rfl rfl Yj_ (fun _ _ _ h => h) (Or.inl ⟨by rfl, Yba_⟩) Ya_ ?_
           refine take_ (i := 11) (N := some 158) #[true, true, true, true, true, true, true, true, true, true, true, true, false, true, false, false, false, false, false] rfl rfl Yj_ (fun _ _ _ h => h) (Or.inl ⟨by rfl, Ybf_⟩) hHeld Ya_ ?_
           refine take_ (i := 14) (N := some 161) #[true, true, true, true, true, true, true, true, true, true, true, true, false, true, true, false, false, false, false] rfl rfl Yj_ (fun _ _ _ h => h) (Or.inl ⟨by rfl, Ybf_⟩) hHeld Ya_ ?_
           refine join_ (σ := Value × Option Addr × Nat) 3 #[true, true, true, true, true, true, true, true, true, true, true, true, true, true, true, true, false, false, false] (fun s => match s with | ⟨vC, A40, c40⟩ => [(159, vC), (162, .slice A40 ([a1_1] : List Int).length c40)]) (fun s w' => match s with | ⟨vC, A40, c40⟩ => Aside0 (Kd.R (Kd.int .i64) 3 w' w53.heap.size (fun _ => True) vC sC) ∧ Aside0 (Kd.R (Kd.int .i64) 3 w' w53.heap.size (fun _ => True) (.slice A40 ([a1_1] : List Int).length c40) [a1_1]) ∧ Aside0 (Below w53.heap.size w53 w')) ?_ ?_
           rotate_left
           ·intro hCont
            refine two_ (i := 12) (j := 15) (Ni := some 159) (Nj := some 162) #[true, true, true, true, true, true, true, true, true, true, true, true, true, true, true, false, false, false, false] #[true, true, true, true, true, true, true, true, true, true, true, true, false, true, true, true, false, false, false] rfl rfl rfl rfl Yj_ (by decide) (by decide) (fun K hK => ?_) (fun K hK => ?_)
            ·skip
             have HB2 := Aside0.mk (Below.refl w53.heap.size w53)
             refine goes_ Try.func72 Yj_ rfl #[.slice AsG sG.length csG] (by rfl) rfl rfl Ycf_ ?_
             with_reducible refine (Ce.calls _ _ sG sC _ (Kd.C_below HRsG.out HB2.out) HCsG.out A3.out).mono ?_
             rintro e W1_ ⟨vC, rfl, ho_, hb_⟩
             refine ⟨_, rfl, ?_⟩
             have HN := Aside0.mk (Kd.R_lower ho_ (below_size HB2.out))
             have m_ := Aside0.mk (below_step HB2.out hb_)
             clear HB2 ho_ hb_
             have HB2 := m_
             clear m_
             refine hK.out _ _ ⟨(HB2.out.cell (World.block_lt_of_cell? _ _ HVsG.out)).trans HVsG.out, (blk_cell (blk_below BKo.out HB2.out) 2).trans rfl, (blk_cell (blk_below BKx.out HB2.out) 1).trans rfl, (blk_cell (blk_below BKx.out HB2.out) 2).trans rfl⟩ (fun hHeld => ?_)
             clear hK K
             refine norm_ (show Act.put _ (some 159) _ = _ from Ya_) ?_
             refine one_ (i := 15) (N := some 162) #[true, true, true, true, true, true, true, true, true, true, true, true, true, true, true, true, false, false, false] rfl rfl Yj_ (by decide) (fun K hK => ?_)
             refine Kd.Fe (Kd.int .i64) w53.heap.size 3 ?hg (N := 162) ?hd (xs := ([a1_1] : List Int)) (inner := [.int .i64 a1_1]) (ok := fun _ => True) (okp := fun _ => True) ?hr ?hp (fun _ hk => hk) trivial HB2.out (below_size HB2.out) (by simp) ?_; (case hd => rfl); (case hg => rfl); (case hr => first | (go_simp; done) | (go_simp; rfl)); (case hp => exact (Reps.one (show Kd.M (Kd.int .i64) _ _ _ a1_1 [.int .i64 a1_1] from rfl) (Reps.none _ _)))
             intro vL_ W2_ ho hb hg_ hnew_
             obtain ⟨A40, c40, e40_⟩ := Kd.Cm ho
             subst e40_
             have HL := Aside0.mk ho
             replace HN := Aside0.mk (Kd.R_grown HN.out hg_ (fun _ _ h_ => nomatch h_))
             clear HB2
             have HB2 := Aside0.mk hb
             clear hb hg_ hnew_ ho
             refine hK.out _ _ ⟨(HB2.out.cell (World.block_lt_of_cell? _ _ HVsG.out)).trans HVsG.out, (blk_cell (blk_below BKo.out HB2.out) 2).trans rfl, (blk_cell (blk_below BKx.out HB2.out) 1).trans rfl, (blk_cell (blk_below BKx.out HB2.out) 2).trans rfl⟩ (fun hHeld => ?_)
             clear hK K
             refine norm_ (show Act.put _ (some 162) _ = _ from Ya_) ?_
             exact norm_ Ybe_ (hCont (vC, A40, c40) _ ⟨HN, HL, HB2⟩)
            ·skip
             have HB2 := Aside0.mk (Below.refl w53.heap.size w53)
             refine Kd.Fe (Kd.int .i64) w53.heap.size 3 ?hg (N := 162) ?hd (xs := ([a1_1] : List Int)) (inner := [.int .i64 a1_1]) (ok := fun _ => True) (okp := fun _ => True) ?hr ?hp (fun _ hk => hk) trivial HB2.out (below_size HB2.out) (by simp) ?_; (case hd => rfl); (case hg => rfl); (case hr => first | (go_simp; done) | (go_simp; rfl)); (case hp => exact (Reps.one (show Kd.M (Kd.int .i64) _ _ _ a1_1 [.int .i64 a1_1] from rfl) (Reps.none _ _)))
             intro vL_ W1_ ho hb hg_ hnew_
             obtain ⟨A40, c40, e40_⟩ := Kd.Cm ho
             subst e40_
             have HL := Aside0.mk ho
             clear HB2
             have HB2 := Aside0.mk hb
             clear hb hg_ hnew_ ho
             refine hK.out _ _ ⟨(HB2.out.cell (World.block_lt_of_cell? _ _ HVsG.out)).trans HVsG.out, (blk_cell (blk_below BKo.out HB2.out) 2).trans rfl, (blk_cell (blk_below BKx.out HB2.out) 1).trans rfl, (blk_cell (blk_below BKx.out HB2.out) 2).trans rfl⟩ (fun hHeld => ?_)
             clear hK K
             refine norm_ (show Act.put _ (some 162) _ = _ from Ya_) ?_
             refine one_ (i := 12) (N := some 159) #[true, true, true, true, true, true, true, true, true, true, true, true, true, true, true, true, false, false, false] rfl rfl Yj_ (by decide) (fun K hK => ?_)
             refine goes_ Try.func72 Yj_ rfl #[.slice AsG sG.length csG] (by rfl) rfl rfl Ycf_ ?_
             with_reducible refine (Ce.calls _ _ sG sC _ (Kd.C_below HRsG.out HB2.out) HCsG.out A3.out).mono ?_
             rintro e W2_ ⟨vC, rfl, ho_, hb_⟩
             refine ⟨_, rfl, ?_⟩
             have HN := Aside0.mk (Kd.R_lower ho_ (below_size HB2.out))
             replace HL := Aside0.mk (Kd.R_below HL.out hb_)
             have m_ := Aside0.mk (below_step HB2.out hb_)
             clear HB2 ho_ hb_
             have HB2 := m_
             clear m_
             refine hK.out _ _ ⟨(HB2.out.cell (World.block_lt_of_cell? _ _ HVsG.out)).trans HVsG.out, (blk_cell (blk_below BKo.out HB2.out) 2).trans rfl, (blk_cell (blk_below BKx.out HB2.out) 1).trans rfl, (blk_cell (blk_below BKx.out HB2.out) 2).trans rfl⟩ (fun hHeld => ?_)
             clear hK K
             refine norm_ (show Act.put _ (some 159) _ = _ from Ya_) ?_
             exact norm_ Ybe_ (hCont (vC, A40, c40) _ ⟨HN, HL, HB2⟩)
           rintro ⟨vC, A40, c40⟩ W4_ ⟨HN, HL, HB2⟩
           have hHeld : (fun w' => w'.cell? ⟨gB_, (a1_2).toNat, none⟩ = some (.slice AsG sG.length csG) ∧ w'.cell? ⟨go, 2, none⟩ = some (.slice (some ⟨gB_, 0, none⟩) nB cB) ∧ w'.cell? ⟨gx, 1, none⟩ = some (.int .i64 a1_1) ∧ w'.cell? ⟨gx, 2, none⟩ = some (.int .i64 a1_2)) W4_ := ⟨(HB2.out.cell (World.block_lt_of_cell? _ _ HVsG.out)).trans HVsG.out, (blk_cell (blk_below BKo.out HB2.out) 2).trans rfl, (blk_cell (blk_below BKx.out HB2.out) 1).trans rfl, (blk_cell (blk_below BKx.out HB2.out) 2).trans rfl⟩
           refine norm_ (a' := ?_) ?_ ?_
           rotate_left
           ·simp only [Dv, Act.put, List.setIfInBounds_toArray, List.set_cons_zero, List.set_cons_succ]
            rfl
           refine one_ (i := 16) (N := some 163) #[true, true, true, true, true, true, true, true, true, true, true, true, true, true, true, true, true, false, false] rfl rfl Yj_ (by decide) (fun K hK => ?_)
           refine Kd.Fb (Kd.int .i64) (w0 := w53) w53.heap.size (by rfl) (.tmp 159) (.tmp 162) 73 3 (.int .i64 0) 8 rfl Try.underlying73 info3 rfl (by decide) (by omega) vC sC [a1_1] A40 ([a1_1] : List Int).length c40 (fun _ => True) (fun _ => False) rfl rfl HN.out ((Kd.Cf HL.out).2.2) (fun _ _ h => h) (fun _ h => h.elim) (fun _ _ => trivial) HB2.out (below_size HB2.out) Ydi_ ?_
           intro v_ w54 ho hb hg hat
           clear hg hat HN HL HB2
           rw [← HSsH.out] at ho
           obtain ⟨AsH, csH, ev_⟩ := Kd.Cm ho
           subst ev_
           have hk_ := (Go.Proofs.YtnggfglmjdiaaaaOwn.TT.put HT.out.swap (below_size HB.out) hb Pa1_2.out.1 Yci_ ho).1
           have HT2 := Aside0.mk hk_
           clear hk_ ho HT
           have hv_ := (hb.cell (World.block_lt_of_cell? _ _ HVsG.out)).trans HVsG.out
           have hf_ := (World.frozen?_of_block (hb.block _ (World.block_lt_of_cell? _ _ HVsG.out))).trans HFsG.out
           clear HVsG HFsG
           have HVsG := Aside0.mk hv_
           have HFsG := Aside0.mk hf_
           clear hv_ hf_
           replace BKx := Aside0.mk (blk_below BKx.out hb)
           replace BKr := Aside0.mk (blk_below BKr.out hb)
           replace BKn := Aside0.mk (blk_below BKn.out hb)
           replace BKo := Aside0.mk (blk_below BKo.out hb)
           replace HB := Aside0.mk (below_step HB.out hb)
           clear hb
           refine hK.out _ _ ⟨HVsG.out, (blk_cell BKo.out 2).trans rfl, (blk_cell BKx.out 1).trans rfl, (blk_cell BKx.out 2).trans rfl⟩ (fun hHeld => ?_)
           clear hK K
           refine norm_ (show Act.put _ (some 163) _ = _ from Ya_) ?_
           refine pure_ (i := 17) (N := some 164) #[true, true, true, true, true, true, true, true, true, true, true, true, true, true, true, true, true, true, false] rfl rfl Yj_ (fun _ _ _ h => h) (Or.inl ⟨by rfl, Yba_⟩) Ya_ ?_
           refine last_ (i := 18) (N := none) #[true, true, true, true, true, true, true, true, true, true, true, true, true, true, true, true, true, true, true] rfl rfl Yj_ (by decide) (fun K hK => ?_)
           have hv_ := HVsG.out
           have hf_ := HFsG.out
           refine Go.Proofs.YtnggfglmjdiaaaaOwn.Ej (w1 := (w54.setCell ⟨gB_, (a1_2).toNat, none⟩ (.slice AsH sH.length csH))) (by rfl) rfl ?_ ?_
           ·first | (go_simp; done) | (go_simp; rfl)
           intro w55 hw
           clear hv_ hf_
           have HT := HT2
           clear HT2
           have hO_ : Go.Proofs.YtnggfglmjdiaaaaOwn.Only w54 w55 gB_ := Ybh_
           have ht_ := HT.out.swap
           rw [← hw] at ht_
           clear HT
           have HT := Aside0.mk ht_
           clear ht_ hw
           replace BKx := Aside0.mk ((hO_.others _ NXB_gx.out).trans BKx.out)
           replace BKr := Aside0.mk ((hO_.others _ NXB_gr.out).trans BKr.out)
           replace BKn := Aside0.mk ((hO_.others _ NXB_gn.out).trans BKn.out)
           replace BKo := Aside0.mk ((hO_.others _ NXB_go.out).trans BKo.out)
           replace HB := Aside0.mk (hO_.below HB.out GEB.out)
           clear hO_
           clear NXB_gx
           clear NXB_gr
           clear NXB_gn
           clear NXB_go
           rw [show B.set (a1_2).toNat sH = lG from HLlG.out.symm] at HT
           refine hK.out _ _ ?_
           clear hK K
           refine done_ Yj_ ?_
           clear p_a1_2 q_a1_2 HVsG HFsG HCsG HRsG
           have hy_ := HT.out.reads
           have hb_ := HT.out.swap.reads
           have call_ := Ad.calls k (some ⟨gY_, 0, none⟩) cY lF hh (some ⟨gB_, 0, none⟩) cB lG vv _ hy_.2.2 (hy_.1 ▸ hy_.2.1) hb_.2.2 (hb_.1 ▸ hb_.2.1) A4.out
           rw [← hy_.1, ← hb_.1] at call_
           have CALLV := Aside0.mk call_
           clear call_ hy_ hb_
           clear BKx
           have hzgn_0 : w55.cell? ⟨gn, 0, none⟩ = some (.slice none 0 0) := (blk_cell BKn.out 0).trans rfl
           have hzgn_1 : w55.cell? ⟨gn, 1, none⟩ = some (.int .i64 0) := (blk_cell BKn.out 1).trans rfl
           have hzgn_2 : w55.cell? ⟨gn, 2, none⟩ = some (.slice none 0 0) := (blk_cell BKn.out 2).trans rfl
           have hzgo_0 : w55.cell? ⟨go, 0, none⟩ = some (.slice (some ⟨gY_, 0, none⟩) nY cY) := (blk_cell BKo.out 0).trans rfl
           have hzgo_1 : w55.cell? ⟨go, 1, none⟩ = some (.int .i64 hh) := (blk_cell BKo.out 1).trans rfl
           have hzgo_2 : w55.cell? ⟨go, 2, none⟩ = some (.slice (some ⟨gB_, 0, none⟩) nB cB) := (blk_cell BKo.out 2).trans rfl
           cases vv with
           | false =>
            simp only [Ew, Bool.false_eq_true, if_false] at h
            simp only [Option.some.injEq, Prod.mk.injEq] at h
            obtain ⟨rfl, rfl, rfl, rfl⟩ := h
            clear BKo
            clear HT
            go_wp2_with (first | (go_at_call 39; (with_reducible refine (CALLV.out).mono ?_); rintro e w56 ⟨rfl, hb⟩; (try clear hzgn_0); (try clear hzgn_1); (try clear hzgn_2); (try clear hzgo_0); (try clear hzgo_1); (try clear hzgo_2); replace BKr := Aside0.mk (blk_below BKr.out hb); replace BKn := Aside0.mk (blk_below BKn.out hb); replace HB := Aside0.mk (below_step HB.out hb); clear hb; have hzgn_0 : w56.cell? ⟨gn, 0, none⟩ = some (.slice none 0 0) := (blk_cell BKn.out 0).trans rfl; have hzgn_1 : w56.cell? ⟨gn, 1, none⟩ = some (.int .i64 0) := (blk_cell BKn.out 1).trans rfl; have hzgn_2 : w56.cell? ⟨gn, 2, none⟩ = some (.slice none 0 0) := (blk_cell BKn.out 2).trans rfl) | ((with_reducible refine gate_store (t := 34) (p := 4) rfl ?_); refine Go.Proofs.YtnggfglmjdiaaaaOwn.sto3 (t := 34) (p := 4) (g := gr) (w0 := w) Yj_ rfl rfl rfl rfl (by rfl) BKr.out HB.out GEgr.out ?_; intro w57 hbx_ hB_ hO_; (try clear hzgn_0); (try clear hzgn_1); (try clear hzgn_2); clear BKr HB hO_; have BKr := Aside0.mk hbx_; have HB := Aside0.mk hB_; clear hbx_ hB_))
            refine bodyPost_ret (Cc rfl _ _ gr 34 #[.slice none 0 0, .int .i64 0, .slice none 0 0] (0, 0) _ rfl BKr.out Try.underlying34 rfl Yj_) rfl ?_
            exact ⟨_, _, rfl, Go.Proofs.YtnggfglmjdiaaaaOwn.TT.nil _ _ _, HB.out⟩
           | true =>
            simp only [Ew, if_true] at h
            simp only [Option.some.injEq, Prod.mk.injEq] at h
            obtain ⟨rfl, rfl, rfl, rfl⟩ := h
            clear BKn
            go_wp2_with (first | (go_at_call 39; (with_reducible refine (CALLV.out).mono ?_); rintro e w58 ⟨rfl, hb⟩; (try clear hzgn_0); (try clear hzgn_1); (try clear hzgn_2); (try clear hzgo_0); (try clear hzgo_1); (try clear hzgo_2); replace HT := Aside0.mk (HT.out.below hb); replace BKr := Aside0.mk (blk_below BKr.out hb); replace BKo := Aside0.mk (blk_below BKo.out hb); replace HB := Aside0.mk (below_step HB.out hb); clear hb; have hzgo_0 : w58.cell? ⟨go, 0, none⟩ = some (.slice (some ⟨gY_, 0, none⟩) nY cY) := (blk_cell BKo.out 0).trans rfl; have hzgo_1 : w58.cell? ⟨go, 1, none⟩ = some (.int .i64 hh) := (blk_cell BKo.out 1).trans rfl; have hzgo_2 : w58.cell? ⟨go, 2, none⟩ = some (.slice (some ⟨gB_, 0, none⟩) nB cB) := (blk_cell BKo.out 2).trans rfl) | ((with_reducible refine gate_store (t := 34) (p := 4) rfl ?_); refine Go.Proofs.YtnggfglmjdiaaaaOwn.sto3 (t := 34) (p := 4) (g := gr) (w0 := w) Yj_ rfl rfl rfl rfl (by rfl) BKr.out HB.out GEgr.out ?_; intro w59 hbx_ hB_ hO_; (try clear hzgo_0); (try clear hzgo_1); (try clear hzgo_2); replace HT := Aside0.mk (HT.out.only BKr.out (by decide) hO_); clear BKr HB hO_; have BKr := Aside0.mk hbx_; have HB := Aside0.mk hB_; clear hbx_ hB_))
            refine bodyPost_ret (Cc rfl _ _ gr 34 #[.slice (some ⟨gY_, 0, none⟩) nY cY, .int .i64 hh, .slice (some ⟨gB_, 0, none⟩) nB cB] (0, 0) _ rfl BKr.out Try.underlying34 rfl Yj_) rfl ?_
            exact ⟨_, _, rfl, HT.out, HB.out⟩
          ·rw [if_neg cL] at h
           cases h
         ·rw [if_neg cS] at h
          cases h
       ·rw [if_neg c5] at h
        cases h
      ·rw [if_neg c3] at h
       simp only [Option.some.injEq, Prod.mk.injEq] at h
       obtain ⟨rfl, rfl, rfl, rfl⟩ := h
       have d1_ : (q2 == (sT.length : Int) - 1) = false := by simp [c3]
       have d2_ : decide (q2 = (sT.length : Int) - 1) = false := decide_eq_false c3
       have d3_ : (q2 != (sT.length : Int) - 1) = true := by simp [c3]
       clear c3
       clear BKx
       clear BKo
       clear HT
       go_wp2_with (first | (go_at_call 47; (with_reducible refine (spec_l5Find.calls k _ _ l0_0 a1_1 q1 q2 _ (Kd.C_below HR0_0.out HB.out) HC0_0.out A2.out).mono ?_); rintro e w60 ⟨rfl, hb⟩; (try clear hzgn_0); (try clear hzgn_1); (try clear hzgn_2); (try clear hzgt_0); (try clear hzgt_1); (try clear hzgt_2); (try clear hzgx_0); (try clear hzgx_1); (try clear hzgx_2); replace BKt := Aside0.mk (blk_below BKt.out hb); replace BKr := Aside0.mk (blk_below BKr.out hb); replace BKn := Aside0.mk (blk_below BKn.out hb); replace HB := Aside0.mk (below_step HB.out hb); have hxt_ : w60.cell? (adT.add q1.toNat) = some (.slice AT sT.length cT) := (HB.out.cell (World.block_lt_of_cell? w _ HXT.out)).trans HXT.out; clear hb; have hzgt_0 : w60.cell? ⟨gt, 0, none⟩ = some (.slice (some adT) l0_0.length c0_0) := (blk_cell BKt.out 0).trans rfl; have hzgt_1 : w60.cell? ⟨gt, 1, none⟩ = some (.int .i64 a0_1) := (blk_cell BKt.out 1).trans rfl; have hzgt_2 : w60.cell? ⟨gt, 2, none⟩ = some (.slice A0_2 l0_2.length c0_2) := (blk_cell BKt.out 2).trans rfl; have hzgn_0 : w60.cell? ⟨gn, 0, none⟩ = some (.slice none 0 0) := (blk_cell BKn.out 0).trans rfl; have hzgn_1 : w60.cell? ⟨gn, 1, none⟩ = some (.int .i64 0) := (blk_cell BKn.out 1).trans rfl; have hzgn_2 : w60.cell? ⟨gn, 2, none⟩ = some (.slice none 0 0) := (blk_cell BKn.out 2).trans rfl) | ((with_reducible refine gate_store (t := 34) (p := 4) rfl ?_); refine Go.Proofs.YtnggfglmjdiaaaaOwn.sto3 (t := 34) (p := 4) (g := gr) (w0 := w) Yj_ rfl rfl rfl rfl (by rfl) BKr.out HB.out GEgr.out ?_; intro w61 hbx_ hB_ hO_; (try clear hzgn_0); (try clear hzgn_1); (try clear hzgn_2); (try clear hzgt_0); (try clear hzgt_1); (try clear hzgt_2); clear BKr HB hO_; have BKr := Aside0.mk hbx_; have HB := Aside0.mk hB_; clear hbx_ hB_))
       refine bodyPost_ret (Cc rfl _ _ gr 34 #[.slice none 0 0, .int .i64 0, .slice none 0 0] (0, 0) _ rfl BKr.out Try.underlying34 rfl Yj_) rfl ?_
       exact ⟨_, _, rfl, Go.Proofs.YtnggfglmjdiaaaaOwn.TT.nil _ _ _, HB.out⟩
     ·rw [if_neg c2] at h
      cases h
   ·simp only [if_neg k2] at h
    have m3_ : (a1_0 == 3) = false := by simp [k3]
    have n3_ : decide (a1_0 = 3) = false := decide_eq_false k3
    replace h := Option.bind_eq_some_iff.mp h
    obtain ⟨⟨q1, q2⟩, a_, h⟩ := h
    have A2 := Aside0.mk a_
    clear a_
    dsimp only at h
    unfold lmCut at h
    by_cases c1 : q1 < 0
    ·rw [if_pos c1] at h
     simp only [Option.some.injEq, Prod.mk.injEq] at h
     obtain ⟨rfl, rfl, rfl, rfl⟩ := h
     have cb1 : decide (q1 < 0) = true := decide_eq_true c1
     clear c1
     clear BKx
     clear BKo
     clear HT
     go_wp2_with (first | (go_at_call 47; (with_reducible refine (spec_l5Find.calls k _ _ l0_0 a1_1 q1 q2 _ (Kd.C_below HR0_0.out HB.out) HC0_0.out A2.out).mono ?_); rintro e w62 ⟨rfl, hb⟩; (try clear hzgn_0); (try clear hzgn_1); (try clear hzgn_2); (try clear hzgt_0); (try clear hzgt_1); (try clear hzgt_2); (try clear hzgx_0); (try clear hzgx_1); (try clear hzgx_2); replace BKt := Aside0.mk (blk_below BKt.out hb); replace BKr := Aside0.mk (blk_below BKr.out hb); replace BKn := Aside0.mk (blk_below BKn.out hb); replace HB := Aside0.mk (below_step HB.out hb); clear hb; have hzgn_0 : w62.cell? ⟨gn, 0, none⟩ = some (.slice none 0 0) := (blk_cell BKn.out 0).trans rfl; have hzgn_1 : w62.cell? ⟨gn, 1, none⟩ = some (.int .i64 0) := (blk_cell BKn.out 1).trans rfl; have hzgn_2 : w62.cell? ⟨gn, 2, none⟩ = some (.slice none 0 0) := (blk_cell BKn.out 2).trans rfl) | ((with_reducible refine gate_store (t := 34) (p := 4) rfl ?_); refine Go.Proofs.YtnggfglmjdiaaaaOwn.sto3 (t := 34) (p := 4) (g := gr) (w0 := w) Yj_ rfl rfl rfl rfl (by rfl) BKr.out HB.out GEgr.out ?_; intro w63 hbx_ hB_ hO_; (try clear hzgn_0); (try clear hzgn_1); (try clear hzgn_2); clear BKr HB hO_; have BKr := Aside0.mk hbx_; have HB := Aside0.mk hB_; clear hbx_ hB_))
     refine bodyPost_ret (Cc rfl _ _ gr 34 #[.slice none 0 0, .int .i64 0, .slice none 0 0] (0, 0) _ rfl BKr.out Try.underlying34 rfl Yj_) rfl ?_
     exact ⟨_, _, rfl, Go.Proofs.YtnggfglmjdiaaaaOwn.TT.nil _ _ _, HB.out⟩
    ·rw [if_neg c1] at h
     by_cases c2 : q1 < (l0_0.length : Int)
     ·rw [if_pos c2] at h
      have cb1 : decide (q1 < 0) = false := decide_eq_false c1
      have p_ : 0 ≤ q1 := by omega
      obtain ⟨adT, AT, cT, eT, hx_, hl_, hi_⟩ := Bo HR0_0.out q1 p_ c2
      subst eT
      have hlw_ := hi_.2.1
      obtain ⟨sT, hsT⟩ : ∃ z, z = rd_L1 l0_0 q1 := ⟨_, rfl⟩
      rw [← hsT] at h hx_ hlw_
      clear hl_ hi_ hsT
      have HXT := Aside0.mk hx_
      clear hx_
      have hwt_ : wrap64 ((sT.length : Int) - 1) = (sT.length : Int) - 1 := by unfold wrap64; omega
      clear hlw_
      have C1 := Aside0.mk p_
      have C2 := Aside0.mk c2
      have p1_ := eq_true p_
      have q1_ := eq_true c2
      clear p_ c1 c2
      by_cases c3 : q2 = (sT.length : Int) - 1
      ·rw [if_pos c3] at h
       have d1_ : (q2 == (sT.length : Int) - 1) = true := by simp [c3]
       have d2_ : decide (q2 = (sT.length : Int) - 1) = true := decide_eq_true c3
       have d3_ : (q2 != (sT.length : Int) - 1) = false := by simp [c3]
       clear c3
       rw [if_pos rfl] at h
       by_cases c5 : 0 ≤ q2 ∧ q1 < (Y.length : Int) ∧ q2 ≤ ((rd_L1 Y q1).length : Int)
       ·rw [if_pos c5] at h
        obtain ⟨sF, hsF⟩ : ∃ z, z = rd_L1 Y q1 := ⟨_, rfl⟩
        rw [← hsF] at c5
        have HSsF := Aside0.mk hsF
        obtain ⟨c5, c6, c7⟩ := c5
        have Pq1 := Aside0.mk (show 0 ≤ q1 ∧ q1 < (nY : Int) from ⟨C1.out, by have := HT.out.reads.1; omega⟩)
        have HMq2 := Aside0.mk (show (q2).toNat ≤ sF.length from by omega)
        have HQ0 := Aside0.mk c5
        have HQ1 := Aside0.mk c7
        clear c5 c6 c7
        obtain ⟨lF, hlF⟩ : ∃ z, z = cutAt Y q1 q2 := ⟨_, rfl⟩
        have HLlF := Aside0.mk (show lF = Y.set (q1).toNat ((Y.getD (q1).toNat []).take (q2).toNat) from hlF)
        rw [← hlF] at h
        (try dsimp only at h)
        clear hlF hsF
        go_upto_region 11 with (first | (go_at_call 47; (with_reducible refine (spec_l5Find.calls k _ _ l0_0 a1_1 q1 q2 _ (Kd.C_below HR0_0.out HB.out) HC0_0.out A2.out).mono ?_); rintro e w64 ⟨rfl, hb⟩; (try clear hzgn_0); (try clear hzgn_1); (try clear hzgn_2); (try clear hzgt_0); (try clear hzgt_1); (try clear hzgt_2); (try clear hzgx_0); (try clear hzgx_1); (try clear hzgx_2); replace HT := Aside0.mk (HT.out.below hb); replace BKt := Aside0.mk (blk_below BKt.out hb); replace BKx := Aside0.mk (blk_below BKx.out hb); replace BKr := Aside0.mk (blk_below BKr.out hb); replace BKn := Aside0.mk (blk_below BKn.out hb); replace BKo := Aside0.mk (blk_below BKo.out hb); replace HB := Aside0.mk (below_step HB.out hb); have hxt_ : w64.cell? (adT.add q1.toNat) = some (.slice AT sT.length cT) := (HB.out.cell (World.block_lt_of_cell? w _ HXT.out)).trans HXT.out; clear hb; have hzgt_0 : w64.cell? ⟨gt, 0, none⟩ = some (.slice (some adT) l0_0.length c0_0) := (blk_cell BKt.out 0).trans rfl; have hzgt_1 : w64.cell? ⟨gt, 1, none⟩ = some (.int .i64 a0_1) := (blk_cell BKt.out 1).trans rfl; have hzgt_2 : w64.cell? ⟨gt, 2, none⟩ = some (.slice A0_2 l0_2.length c0_2) := (blk_cell BKt.out 2).trans rfl; have hzgx_0 : w64.cell? ⟨gx, 0, none⟩ = some (.int .i64 a1_0) := (blk_cell BKx.out 0).trans rfl; have hzgx_1 : w64.cell? ⟨gx, 1, none⟩ = some (.int .i64 a1_1) := (blk_cell BKx.out 1).trans rfl; have hzgx_2 : w64.cell? ⟨gx, 2, none⟩ = some (.int .i64 a1_2) := (blk_cell BKx.out 2).trans rfl))
        clear hwt_ d1_ d2_ d3_ p1_ q1_
        (try clear hxt_)
        (try clear hzgt_0)
        (try clear hzgt_1)
        (try clear hzgt_2)
        (try clear hzgx_0)
        (try clear hzgx_1)
        (try clear hzgx_2)
        clear BKt
        obtain ⟨gY_, eg_, gb_, gl_⟩ := HT.out.form Yce_
        have GEY := Aside0.mk gb_
        clear gb_ gl_
        subst eg_
        obtain ⟨AsF, csF, hv_, hc_, hC_, hf_⟩ := Go.Proofs.YtnggfglmjdiaaaaOwn.TT.elem HT.out (i := q1) Pq1.out.1 Yce_
        have e_ : (Y.getD (q1).toNat []) = sF := HSsF.out.symm
        rw [e_] at hv_ hc_ hC_
        clear e_
        have HVsF := Aside0.mk hv_
        have HCsF := Aside0.mk hc_
        have HRsF := Aside0.mk hC_
        have HFsF := Aside0.mk hf_
        clear hv_ hc_ hC_ hf_
        have NXY_gx := Aside0.mk (Go.Proofs.YtnggfglmjdiaaaaOwn.TT.ne HT.out BKx.out (by decide))
        have NXY_gr := Aside0.mk (Go.Proofs.YtnggfglmjdiaaaaOwn.TT.ne HT.out BKr.out (by decide))
        have NXY_gn := Aside0.mk (Go.Proofs.YtnggfglmjdiaaaaOwn.TT.ne HT.out BKn.out (by decide))
        have NXY_go := Aside0.mk (Go.Proofs.YtnggfglmjdiaaaaOwn.TT.ne HT.out BKo.out (by decide))
        have p_q1 : 0 ≤ q1 := Pq1.out.1
        have q_q1 : q1 < (nY : Int) := Pq1.out.2
        replace p_q1 := eq_true p_q1
        replace q_q1 := eq_true q_q1
        obtain ⟨i0_, hi0_, _, hsz0_, _⟩ := info_parts info3
        have hcut_ := cut_to (P := Try.prog) 73 3 .i64 Try.underlying73 hi0_ AsF sF.length csF q2 HQ0.out HQ1.out HCsF.out
        replace HT := Aside0.mk (HT.out.drew)
        replace BKx := Aside0.mk (blk_drew BKx.out)
        replace BKr := Aside0.mk (blk_drew BKr.out)
        replace BKn := Aside0.mk (blk_drew BKn.out)
        replace BKo := Aside0.mk (blk_drew BKo.out)
        replace HB := Aside0.mk (below_drew1 HB.out)
        replace HVsF := Aside0.mk ((show (w64.drew).cell? ⟨gY_, (q1).toNat, none⟩ = some (.slice AsF sF.length csF) from HVsF.out))
        replace HFsF := Aside0.mk ((show (w64.drew).frozen? ⟨gY_, (q1).toNat, none⟩ = false from HFsF.out))
        refine start_ (n := 14) (S := fun w' => w'.cell? ⟨gY_, (q1).toNat, none⟩ = some (.slice AsF sF.length csF) ∧ w'.cell? ⟨go, 0, none⟩ = some (.slice (some ⟨gY_, 0, none⟩) nY cY)) (ds := [13]) #[false, false, false, false, false, false, false, false, false, false, false, false, false, false] Yj_ rfl rfl ⟨HVsF.out, (blk_cell BKo.out 0).trans rfl⟩ (fun hHeld => ?_)
        generalize w64.drew = w65 at HT BKx BKr BKn BKo HB HVsF HFsF hHeld ⊢
        refine pure_ (i := 0) (N := some 88) #[true, false, false, false, false, false, false, false, false, false, false, false, false, false] rfl rfl Yj_ (fun _ _ _ h => h) (Or.inl ⟨by rfl, Yba_⟩) Ya_ ?_
        refine pure_ (i := 1) (N := some 89) #[true, true, false, false, false, false, false, false, false, false, false, false, false, false] rfl rfl Yj_ (fun _ _ _ h => h) (Or.inl ⟨by rfl, Yba_⟩) Ya_ ?_
        refine pure_ (i := 3) (N := some 91) #[true, true, false, true, false, false, false, false, false, false, false, false, false, false] rfl rfl Yj_ (fun _ _ _ h => h) (Or.inl ⟨by rfl, Yba_⟩) Ya_ ?_
        refine pure_ (i := 4) (N := some 92) #[true, true, false, true, true, false, false, false, false, false, false, false, false, false] rfl rfl Yj_ (fun _ _ _ h => h) (Or.inl ⟨by rfl, Yba_⟩) Ya_ ?_
        refine pure_ (i := 5) (N := some 93) #[true, true, false, true, true, true, false, false, false, false, false, false, false, false] rfl rfl Yj_ (fun _ _ _ h => h) (Or.inl ⟨by rfl, Yba_⟩) Ya_ ?_
        refine pure_ (i := 7) (N := some 95) #[true, true, false, true, true, true, false, true, false, false, false, false, false, false] rfl rfl Yj_ (fun _ _ _ h => h) (Or.inl ⟨by rfl, Yba_⟩) Ya_ ?_
        refine pure_ (i := 10) (N := some 98) #[true, true, false, true, true, true, false, true, false, false, true, false, false, false] rfl rfl Yj_ (fun _ _ _ h => h) (Or.inl ⟨by rfl, Yba_⟩) Ya_ ?_
        refine take_ (i := 2) (N := some 90) #[true, true, true, true, true, true, false, true, false, false, true, false, false, false] rfl rfl Yj_ (fun _ _ _ h => h) (Or.inl ⟨by rfl, Ybi_⟩) hHeld Ya_ ?_
        refine take_ (i := 6) (N := some 94) #[true, true, true, true, true, true, true, true, false, false, true, false, false, false] rfl rfl Yj_ (fun _ _ _ h => h) (Or.inl ⟨by rfl, Ybi_⟩) hHeld Ya_ ?_
        refine pure_ (i := 8) (N := some 96) #[true, true, true, true, true, true, true, true, true, false, true, false, false, false] rfl rfl Yj_ (fun _ _ _ h => h) (Or.inl ⟨by rfl, Yba_⟩) Ya_ ?_
        refine take_ (i := 9) (N := some 97) #[true, true, true, true, true, true, true, true, true, true, true, false, false, false] rfl rfl Yj_ (fun _ _ _ h => h) (Or.inl ⟨by rfl, Ybi_⟩) hHeld Ya_ ?_
        refine pure_ (i := 11) (N := some 99) #[true, true, true, true, true, true, true, true, true, true, true, true, false, false] rfl rfl Yj_ (fun _ _ _ h => h) (Or.inl ⟨by rfl, Yba_⟩) Ya_ ?_
        refine pure_ (i := 12) (N := some 100) #[true, true, true, true, true, true, true, true, true, true, true, true, true, false] rfl rfl Yj_ (fun _ _ _ h => h) (Or.inl ⟨by rfl, Yba_⟩) Ya_ ?_
        refine last_ (i := 13) (N := none) #[true, true, true, true, true, true, true, true, true, true, true, true, true, true] rfl rfl Yj_ (by decide) (fun K hK => ?_)
        have hv_ := HVsF.out
        have hf_ := HFsF.out
        refine Go.Proofs.YtnggfglmjdiaaaaOwn.Ej (w1 := (w65.setCell ⟨gY_, (q1).toNat, none⟩ (.slice AsF (q2).toNat csF))) (by rfl) rfl ?_ ?_
        ·first | (go_simp; done) | (go_simp; rfl)
        intro w66 hw
        clear hv_ hf_
        have hO_ : Go.Proofs.YtnggfglmjdiaaaaOwn.Only w65 w66 gY_ := Ybh_
        have ht_ := (Go.Proofs.YtnggfglmjdiaaaaOwn.TT.cut HT.out Pq1.out.1 Yce_ HVsF.out Ydh_).1
        rw [← hw] at ht_
        clear HT
        have HT := Aside0.mk ht_
        clear ht_ hw
        replace BKx := Aside0.mk ((hO_.others _ NXY_gx.out).trans BKx.out)
        replace BKr := Aside0.mk ((hO_.others _ NXY_gr.out).trans BKr.out)
        replace BKn := Aside0.mk ((hO_.others _ NXY_gn.out).trans BKn.out)
        replace BKo := Aside0.mk ((hO_.others _ NXY_go.out).trans BKo.out)
        replace HB := Aside0.mk (hO_.below HB.out GEY.out)
        clear hO_
        clear NXY_gx
        clear NXY_gr
        clear NXY_gn
        clear NXY_go
        rw [show Y.set (q1).toNat ((Y.getD (q1).toNat []).take (q2).toNat) = lF from HLlF.out.symm] at HT
        refine hK.out _ _ ?_
        clear hK K
        refine done_ Yj_ ?_
        clear p_q1 q_q1 HVsF HFsF HCsF HRsF
        clear hcut_ hi0_ hsz0_ HQ0 HQ1 HMq2
        have hzgx_0 : w66.cell? ⟨gx, 0, none⟩ = some (.int .i64 a1_0) := (blk_cell BKx.out 0).trans rfl
        have hzgx_1 : w66.cell? ⟨gx, 1, none⟩ = some (.int .i64 a1_1) := (blk_cell BKx.out 1).trans rfl
        have hzgx_2 : w66.cell? ⟨gx, 2, none⟩ = some (.int .i64 a1_2) := (blk_cell BKx.out 2).trans rfl
        have hzgn_0 : w66.cell? ⟨gn, 0, none⟩ = some (.slice none 0 0) := (blk_cell BKn.out 0).trans rfl
        have hzgn_1 : w66.cell? ⟨gn, 1, none⟩ = some (.int .i64 0) := (blk_cell BKn.out 1).trans rfl
        have hzgn_2 : w66.cell? ⟨gn, 2, none⟩ = some (.slice none 0 0) := (blk_cell BKn.out 2).trans rfl
        simp only [Option.some.injEq, Prod.mk.injEq] at h
        obtain ⟨rfl, rfl, rfl, rfl⟩ := h
        have d1_ : (a1_0 == 1) = false := by simp [k1]
        have d2_ : (a1_0 == 2) = false := by simp [k2]
        have d3_ : (a1_0 == 3) = false := by simp [k3]
        have e1_ : decide (a1_0 = 1) = false := decide_eq_false k1
        have e2_ : decide (a1_0 = 2) = false := decide_eq_false k2
        have e3_ : decide (a1_0 = 3) = false := decide_eq_false k3
        clear BKx
        clear BKo
        clear HT
        go_wp2_with (first | ((with_reducible refine gate_store (t := 34) (p := 4) rfl ?_); refine Go.Proofs.YtnggfglmjdiaaaaOwn.sto3 (t := 34) (p := 4) (g := gr) (w0 := w) Yj_ rfl rfl rfl rfl (by rfl) BKr.out HB.out GEgr.out ?_; intro w67 hbx_ hB_ hO_; (try clear hzgn_0); (try clear hzgn_1); (try clear hzgn_2); (try clear hzgx_0); (try clear hzgx_1); (try clear hzgx_2); clear BKr HB hO_; have BKr := Aside0.mk hbx_; have HB := Aside0.mk hB_; clear hbx_ hB_))
        refine bodyPost_ret (Cc rfl _ _ gr 34 #[.slice none 0 0, .int .i64 0, .slice none 0 0] (0, 0) _ rfl BKr.out Try.underlying34 rfl Yj_) rfl ?_
        exact ⟨_, _, rfl, Go.Proofs.YtnggfglmjdiaaaaOwn.TT.nil _ _ _, HB.out⟩
       ·rw [if_neg c5] at h
        cases h
      ·rw [if_neg c3] at h
       simp only [Option.some.injEq, Prod.mk.injEq] at h
       obtain ⟨rfl, rfl, rfl, rfl⟩ := h
       have d1_ : (q2 == (sT.length : Int) - 1) = false := by simp [c3]
       have d2_ : decide (q2 = (sT.length : Int) - 1) = false := decide_eq_false c3
       have d3_ : (q2 != (sT.length : Int) - 1) = true := by simp [c3]
       clear c3
       clear BKx
       clear BKo
       clear HT
       go_wp2_with (first | (go_at_call 47; (with_reducible refine (spec_l5Find.calls k _ _ l0_0 a1_1 q1 q2 _ (Kd.C_below HR0_0.out HB.out) HC0_0.out A2.out).mono ?_); rintro e w68 ⟨rfl, hb⟩; (try clear hzgn_0); (try clear hzgn_1); (try clear hzgn_2); (try clear hzgt_0); (try clear hzgt_1); (try clear hzgt_2); (try clear hzgx_0); (try clear hzgx_1); (try clear hzgx_2); replace BKt := Aside0.mk (blk_below BKt.out hb); replace BKr := Aside0.mk (blk_below BKr.out hb); replace BKn := Aside0.mk (blk_below BKn.out hb); replace HB := Aside0.mk (below_step HB.out hb); have hxt_ : w68.cell? (adT.add q1.toNat) = some (.slice AT sT.length cT) := (HB.out.cell (World.block_lt_of_cell? w _ HXT.out)).trans HXT.out; clear hb; have hzgt_0 : w68.cell? ⟨gt, 0, none⟩ = some (.slice (some adT) l0_0.length c0_0) := (blk_cell BKt.out 0).trans rfl; have hzgt_1 : w68.cell? ⟨gt, 1, none⟩ = some (.int .i64 a0_1) := (blk_cell BKt.out 1).trans rfl; have hzgt_2 : w68.cell? ⟨gt, 2, none⟩ = some (.slice A0_2 l0_2.length c0_2) := (blk_cell BKt.out 2).trans rfl; have hzgn_0 : w68.cell? ⟨gn, 0, none⟩ = some (.slice none 0 0) := (blk_cell BKn.out 0).trans rfl; have hzgn_1 : w68.cell? ⟨gn, 1, none⟩ = some (.int .i64 0) := (blk_cell BKn.out 1).trans rfl; have hzgn_2 : w68.cell? ⟨gn, 2, none⟩ = some (.slice none 0 0) := (blk_cell BKn.out 2).trans rfl) | ((with_reducible refine gate_store (t := 34) (p := 4) rfl ?_); refine Go.Proofs.YtnggfglmjdiaaaaOwn.sto3 (t := 34) (p := 4) (g := gr) (w0 := w) Yj_ rfl rfl rfl rfl (by rfl) BKr.out HB.out GEgr.out ?_; intro w69 hbx_ hB_ hO_; (try clear hzgn_0); (try clear hzgn_1); (try clear hzgn_2); (try clear hzgt_0); (try clear hzgt_1); (try clear hzgt_2); clear BKr HB hO_; have BKr := Aside0.mk hbx_; have HB := Aside0.mk hB_; clear hbx_ hB_))
       refine bodyPost_ret (Cc rfl _ _ gr 34 #[.slice none 0 0, .int .i64 0, .slice none 0 0] (0, 0) _ rfl BKr.out Try.underlying34 rfl Yj_) rfl ?_
       exact ⟨_, _, rfl, Go.Proofs.YtnggfglmjdiaaaaOwn.TT.nil _ _ _, HB.out⟩
     ·rw [if_neg c2] at h
      cases h
theorem spec_l24Make.calls2 (k : Nat) (A0_0 : Option Addr) (c0_0 : Nat) (l0_0 : List (List Int)) (a0_1 : Int) (A0_2 : Option Addr) (c0_2 : Nat) (l0_2 : List (List Int)) (a1_0 a1_1 a1_2 : Int) (r1 : List (List Int)) (r2 : Int) (r3 : List (List Int)) (r4 : Bool) (w : World) (hr0_0 : Kd.C (Kd.slice 3 (Kd.int .i64)) w A0_0 l0_0.length l0_0) (hc0_0 : l0_0.length ≤ c0_0) (hr0_2 : Kd.C (Kd.slice 3 (Kd.int .i64)) w A0_2 l0_2.length l0_2) (hc0_2 : l0_2.length ≤ c0_2) (h : spec_l24Make.f k l0_0 a0_1 l0_2 a1_0 a1_1 a1_2 = some (r1, r2, r3, r4)) :
  Calls Try.prog 51 #[.agg #[.slice A0_0 l0_0.length c0_0, .int .i64 a0_1, .slice A0_2 l0_2.length c0_2], .agg #[.int .i64 a1_0, .int .i64 a1_1, .int .i64 a1_2]] w fun e w' => ∃ (P_ : Nat → Prop) (v0_ v2_ : Value), e = .returned (.tuple #[.agg #[v0_, .int .i64 r2, v2_], .bool r4]) ∧ Kd.S (Kd.slice 3 (Kd.int .i64)) 73 w' w.heap.size (fun k_ => P_ k_) v0_ r1 ∧ Kd.S (Kd.slice 3 (Kd.int .i64)) 73 w' w.heap.size (fun k_ => ¬ P_ k_) v2_ r3 ∧ Below w.heap.size w w' := by
 refine (spec_l24Make.callsT k A0_0 c0_0 l0_0 a0_1 A0_2 c0_2 l0_2 a1_0 a1_1 a1_2 r1 r2 r3 r4 w hr0_0 hc0_0 hr0_2 hc0_2 h).mono ?_
 rintro e w' ⟨v0_, v2_, he, ht, hb⟩
 obtain ⟨P_, h1, h2⟩ := ht.to2
 exact ⟨P_, v0_, v2_, he, h1, h2, hb⟩
theorem spec_l24Make.calls (k : Nat) (A0_0 : Option Addr) (c0_0 : Nat) (l0_0 : List (List Int)) (a0_1 : Int) (A0_2 : Option Addr) (c0_2 : Nat) (l0_2 : List (List Int)) (a1_0 a1_1 a1_2 : Int) (r1 : List (List Int)) (r2 : Int) (r3 : List (List Int)) (r4 : Bool) (w : World) (hr0_0 : Kd.C (Kd.slice 3 (Kd.int .i64)) w A0_0 l0_0.length l0_0) (hc0_0 : l0_0.length ≤ c0_0) (hr0_2 : Kd.C (Kd.slice 3 (Kd.int .i64)) w A0_2 l0_2.length l0_2) (hc0_2 : l0_2.length ≤ c0_2) (h : spec_l24Make.f k l0_0 a0_1 l0_2 a1_0 a1_1 a1_2 = some (r1, r2, r3, r4)) :
  Calls Try.prog 51 #[.agg #[.slice A0_0 l0_0.length c0_0, .int .i64 a0_1, .slice A0_2 l0_2.length c0_2], .agg #[.int .i64 a1_0, .int .i64 a1_1, .int .i64 a1_2]] w fun e w' => ∃ v0_ v2_ : Value, e = .returned (.tuple #[.agg #[v0_, .int .i64 r2, v2_], .bool r4]) ∧ Kd.S (Kd.slice 3 (Kd.int .i64)) 73 w' w.heap.size (fun k_ => some k_ ≠ (v2_ : Value).ownBlock) v0_ r1 ∧ Kd.S (Kd.slice 3 (Kd.int .i64)) 73 w' w.heap.size (fun k_ => some k_ ≠ (v0_ : Value).ownBlock) v2_ r3 ∧ Below w.heap.size w w' := by
 refine (spec_l24Make.calls2 k A0_0 c0_0 l0_0 a0_1 A0_2 c0_2 l0_2 a1_0 a1_1 a1_2 r1 r2 r3 r4 w hr0_0 hc0_0 hr0_2 hc0_2 h).mono ?_
 rintro e w' ⟨P_, v0_, v2_, he, h1, h2, hb⟩
 exact ⟨v0_, v2_, he, Kd.S_mono h1 (fun k_ hk e_ => ((Kd.S_R h2).1 k_ e_.symm) hk), Kd.S_mono h2 (fun k_ hk e_ => hk ((Kd.S_R h1).1 k_ e_.symm)), hb⟩
def Dj.f (k : Nat) (l0_0 : List (List Int)) (a0_1 : Int) (l0_2 : List (List Int)) (a1_0 : Int) (a1_1 : Int) (a1_2 : Int) : Option ((List (List Int)) × Int × (List (List Int)) × Bool) := (Ad.f k l0_0 a0_1 l0_2).bind fun t332 => (if t332 = true then ((spec_l24Make.f k l0_0 a0_1 l0_2 a1_0 a1_1 a1_2).bind fun bt333 => (some (bt333.1, bt333.2.1, bt333.2.2.1, bt333.2.2.2))) else (some (([] : List (List Int)), 0, ([] : List (List Int)), false)))
theorem Dj.mono : ∀ a0 a1 a2 a3 a4 a5 k, LeO (Dj.f k a0 a1 a2 a3 a4 a5) (Dj.f (k + 1) a0 a1 a2 a3 a4 a5) := by
 intro a0 a1 a2 a3 a4 a5 k
 unfold Dj.f
 repeat' first
   | (with_reducible exact Ad.mono _ _ _ _)
   | (with_reducible exact spec_l24Make.mono _ _ _ _ _ _ _)
   | (with_reducible exact LeO.refl _)
   | (with_reducible exact LeO.none _)
   | (with_reducible refine LeO.ite ?_ ?_)
   | (with_reducible refine LeO.bind ?_ (fun _ => ?_))
   | exact Ad.mono _ _ _ _
   | exact spec_l24Make.mono _ _ _ _ _ _ _
   | exact LeO.none _
   | refine LeO.ite ?_ ?_
   | refine LeO.bind ?_ (fun _ => ?_)
set_option maxHeartbeats 8000000 in
set_option maxRecDepth 100000 in
theorem Dj.calls (k : Nat) (A0_0 : Option Addr) (c0_0 : Nat) (l0_0 : List (List Int)) (a0_1 : Int) (A0_2 : Option Addr) (c0_2 : Nat) (l0_2 : List (List Int)) (a1_0 : Int) (a1_1 : Int) (a1_2 : Int) (r1 : List (List Int)) (r2 : Int) (r3 : List (List Int)) (r4 : Bool) (w : World) (hr0_0 : Kd.C (Kd.slice 3 (Kd.int .i64)) w A0_0 l0_0.length l0_0) (hc0_0 : l0_0.length ≤ c0_0) (hr0_2 : Kd.C (Kd.slice 3 (Kd.int .i64)) w A0_2 l0_2.length l0_2) (hc0_2 : l0_2.length ≤ c0_2) (h : Dj.f k l0_0 a0_1 l0_2 a1_0 a1_1 a1_2 = some (r1, r2, r3, r4)) :
  Calls Try.prog 21 #[.agg #[.slice A0_0 l0_0.length c0_0, .int .i64 a0_1, .slice A0_2 l0_2.length c0_2], .agg #[.int .i64 a1_0, .int .i64 a1_1, .int .i64 a1_2]] w fun e w' => ∃ v0_ v2_ : Value, e = .returned (.tuple #[.agg #[v0_, .int .i64 r2, v2_], .bool r4]) ∧ Kd.S (Kd.slice 3 (Kd.int .i64)) 73 w' w.heap.size (fun k_ => some k_ ≠ (v2_ : Value).ownBlock) v0_ r1 ∧ Kd.S (Kd.slice 3 (Kd.int .i64)) 73 w' w.heap.size (fun k_ => some k_ ≠ (v0_ : Value).ownBlock) v2_ r3 ∧ Below w.heap.size w w' := by
 have hu34 := Try.underlying34
 have hu43 := Try.underlying43
 have HR0_0 := Aside0.mk hr0_0
 have HC0_0 := Aside0.mk hc0_0
 clear hr0_0 hc0_0
 have HR0_2 := Aside0.mk hr0_2
 have HC0_2 := Aside0.mk hc0_2
 clear hr0_2 hc0_2
 have HB := Aside0.mk (Below.refl w.heap.size w)
 have H : ((Ad.f k l0_0 a0_1 l0_2).bind fun t332 => (if t332 = true then ((spec_l24Make.f k l0_0 a0_1 l0_2 a1_0 a1_1 a1_2).bind fun bt333 => (some (bt333.1, bt333.2.1, bt333.2.2.1, bt333.2.2.2))) else (some (([] : List (List Int)), 0, ([] : List (List Int)), false)))) = some (r1, r2, r3, r4) := h
 clear h
 replace H := Option.bind_eq_some_iff.mp H
 obtain ⟨t332, A30, H⟩ := H
 try dsimp only at H
 have A3 := Aside0.mk A30
 clear A30
 by_cases c4 : t332 = true
 ·subst c4
  have H1 : ((spec_l24Make.f k l0_0 a0_1 l0_2 a1_0 a1_1 a1_2).bind fun bt333 => (some (bt333.1, bt333.2.1, bt333.2.2.1, bt333.2.2.2))) = some (r1, r2, r3, r4) := by rw [if_pos rfl] at H; exact H
  clear H
  have H := H1
  clear H1
  replace H := Option.bind_eq_some_iff.mp H
  obtain ⟨⟨t333, t336, t337, t340⟩, A50, H⟩ := H
  try dsimp only at H
  have A5 := Aside0.mk A50
  clear A50
  simp only [Option.some.injEq, Prod.mk.injEq] at H
  obtain ⟨rfl, rfl, rfl, rfl⟩ := H
  go_enter Try.func21, Try.ntmps21
  go_wp2_with (first | ((with_reducible refine gate_dst (N := 2) rfl ?_); refine box_event ?hg (N := 2) ?hd (cs := #[.slice A0_0 l0_0.length c0_0, .int .i64 a0_1, .slice A0_2 l0_2.length c0_2]) (t := 34) ?hr ?_; (case hd => rfl); (case hg => rfl); (case hr => first | (go_simp; done) | (go_simp; rfl)); intro gb0 hg w6 hbox hb; have n0_ := Aside0.mk (below_step Yb_ hb); have n1_ := Aside0.mk (hbox); have n2_ := Aside0.mk ((by rw [hg]; exact (below_size Yb_) : w.heap.size ≤ gb0)); have n3_ := Aside0.mk ((by rw [hg]; exact (below_size Yb_) : w.heap.size ≤ gb0)); clear HB; have HB := n0_; have BK0 := n1_; have GW0 := n2_; have GE0 := n3_; clear n0_ n1_ n2_ n3_; clear hb hbox hg) | ((with_reducible refine gate_dst (N := 3) rfl ?_); refine box_event ?hg (N := 3) ?hd (cs := #[.int .i64 a1_0, .int .i64 a1_1, .int .i64 a1_2]) (t := 43) ?hr ?_; (case hd => rfl); (case hg => rfl); (case hr => first | (go_simp; done) | (go_simp; rfl)); intro gb1 hg w7 hbox hb; have n0_ := Aside0.mk (blk_below (g := gb0) (o := .cells #[.slice A0_0 l0_0.length c0_0, .int .i64 a0_1, .slice A0_2 l0_2.length c0_2] 34 (0, 0)) Yc_ hb); have n1_ := Aside0.mk (below_step Ye_ hb); have n2_ := Aside0.mk (hbox); have n3_ := Aside0.mk ((by rw [hg]; exact (below_size Ye_) : w.heap.size ≤ gb1)); have n4_ := Aside0.mk ((by rw [hg]; exact (below_size Ye_) : w.heap.size ≤ gb1)); have n5_ := Aside0.mk ((by rw [hg]; exact Nat.ne_of_lt (blk_lt (g := gb0) (o := .cells #[.slice A0_0 l0_0.length c0_0, .int .i64 a0_1, .slice A0_2 l0_2.length c0_2] 34 (0, 0)) Yc_) : gb0 ≠ gb1)); have n6_ := Aside0.mk ((by rw [hg]; exact Nat.ne_of_gt (blk_lt (g := gb0) (o := .cells #[.slice A0_0 l0_0.length c0_0, .int .i64 a0_1, .slice A0_2 l0_2.length c0_2] 34 (0, 0)) Yc_) : gb1 ≠ gb0)); clear BK0; clear HB; have BK0 := n0_; have HB := n1_; have BK1 := n2_; have GW1 := n3_; have GE1 := n4_; have NB0_1 := n5_; have NB1_0 := n6_; clear n0_ n1_ n2_ n3_ n4_ n5_ n6_; clear hb hbox hg) | ((with_reducible refine gate_dst (N := 4) rfl ?_); refine box_event ?hg (N := 4) ?hd (cs := #[.slice none 0 0, .int .i64 0, .slice none 0 0]) (t := 34) ?hr ?_; (case hd => rfl); (case hg => rfl); (case hr => first | (go_simp; done) | (go_simp; rfl)); intro gb2 hg w8 hbox hb; have n0_ := Aside0.mk (blk_below (g := gb0) (o := .cells #[.slice A0_0 l0_0.length c0_0, .int .i64 a0_1, .slice A0_2 l0_2.length c0_2] 34 (0, 0)) Yc_ hb); have n1_ := Aside0.mk (blk_below (g := gb1) (o := .cells #[.int .i64 a1_0, .int .i64 a1_1, .int .i64 a1_2] 43 (0, 0)) Yi_ hb); have n2_ := Aside0.mk (below_step Yf_ hb); have n3_ := Aside0.mk (hbox); have n4_ := Aside0.mk ((by rw [hg]; exact (below_size Yf_) : w.heap.size ≤ gb2)); have n5_ := Aside0.mk ((by rw [hg]; exact (below_size Yf_) : w.heap.size ≤ gb2)); have n6_ := Aside0.mk ((by rw [hg]; exact Nat.ne_of_lt (blk_lt (g := gb0) (o := .cells #[.slice A0_0 l0_0.length c0_0, .int .i64 a0_1, .slice A0_2 l0_2.length c0_2] 34 (0, 0)) Yc_) : gb0 ≠ gb2)); have n7_ := Aside0.mk ((by rw [hg]; exact Nat.ne_of_gt (blk_lt (g := gb0) (o := .cells #[.slice A0_0 l0_0.length c0_0, .int .i64 a0_1, .slice A0_2 l0_2.length c0_2] 34 (0, 0)) Yc_) : gb2 ≠ gb0)); have n8_ := Aside0.mk ((by rw [hg]; exact Nat.ne_of_lt (blk_lt (g := gb1) (o := .cells #[.int .i64 a1_0, .int .i64 a1_1, .int .i64 a1_2] 43 (0, 0)) Yi_) : gb1 ≠ gb2)); have n9_ := Aside0.mk ((by rw [hg]; exact Nat.ne_of_gt (blk_lt (g := gb1) (o := .cells #[.int .i64 a1_0, .int .i64 a1_1, .int .i64 a1_2] 43 (0, 0)) Yi_) : gb2 ≠ gb1)); clear BK0; clear BK1; clear HB; have BK0 := n0_; have BK1 := n1_; have HB := n2_; have BK2 := n3_; have GW2 := n4_; have GE2 := n5_; have NB0_2 := n6_; have NB2_0 := n7_; have NB1_2 := n8_; have NB2_1 := n9_; clear n0_ n1_ n2_ n3_ n4_ n5_ n6_ n7_ n8_ n9_; clear hb hbox hg; have hnb9 := NB0_1.out; have hnc9 := NB1_0.out; have hnb10 := NB0_2.out; have hnc10 := NB2_0.out; have hcz11_0 : w8.cell? ⟨gb0, 0, none⟩ = some (.slice A0_0 l0_0.length c0_0) := (blk_cell BK0.out 0).trans rfl; have hcz11_1 : w8.cell? ⟨gb0, 1, none⟩ = some (.int .i64 a0_1) := (blk_cell BK0.out 1).trans rfl; have hcz11_2 : w8.cell? ⟨gb0, 2, none⟩ = some (.slice A0_2 l0_2.length c0_2) := (blk_cell BK0.out 2).trans rfl; have hfz11_0 := blk_frozen BK0.out 0; have hfz11_1 := blk_frozen BK0.out 1; have hfz11_2 := blk_frozen BK0.out 2) | ((with_reducible refine gate_callee (f := 39) rfl ?_); refine goesL_ (some 7) rfl rfl Try.func39 Yj_ rfl #[.agg #[.slice A0_0 l0_0.length c0_0, .int .i64 a0_1, .slice A0_2 l0_2.length c0_2]] rfl Yd_ ?_; (with_reducible refine (Ad.calls k _ _ l0_0 a0_1 _ _ l0_2 true _ ?side1 ?side2 ?side3 ?side4 A3.out).mono ?_); (case side1 => repeat (first | exact (Kd.C_below HR0_0.out HB.out) | (with_reducible refine Kd.C_alloc ?_ _) | (with_reducible refine Kd.C_drewN ?_ _) | (with_reducible refine Kd.C_drew ?_))); (case side2 => exact HC0_0.out); (case side3 => repeat (first | exact (Kd.C_below HR0_2.out HB.out) | (with_reducible refine Kd.C_alloc ?_ _) | (with_reducible refine Kd.C_drewN ?_ _) | (with_reducible refine Kd.C_drew ?_))); (case side4 => exact HC0_2.out); rintro e w12 ⟨rfl, hb⟩; refine ⟨_, rfl, ?_⟩; have n0_ := Aside0.mk (blk_below (g := gb0) (o := .cells #[.slice A0_0 l0_0.length c0_0, .int .i64 a0_1, .slice A0_2 l0_2.length c0_2] 34 (0, 0)) Yc_ hb); have n1_ := Aside0.mk (blk_below (g := gb1) (o := .cells #[.int .i64 a1_0, .int .i64 a1_1, .int .i64 a1_2] 43 (0, 0)) Yi_ hb); have n2_ := Aside0.mk (blk_below (g := gb2) (o := .cells #[.slice none 0 0, .int .i64 0, .slice none 0 0] 34 (0, 0)) Ybd_ hb); have n3_ := Aside0.mk (below_step Yg_ hb); clear BK0; clear BK1; clear BK2; clear HB; have BK0 := n0_; have BK1 := n1_; have BK2 := n2_; have HB := n3_; clear n0_ n1_ n2_ n3_; (try clear hb); (try clear hb2); (try clear hk); (try clear hi); have hcz13_0 : w12.cell? ⟨gb0, 0, none⟩ = some (.slice A0_0 l0_0.length c0_0) := (blk_cell BK0.out 0).trans rfl; have hcz13_1 : w12.cell? ⟨gb0, 1, none⟩ = some (.int .i64 a0_1) := (blk_cell BK0.out 1).trans rfl; have hcz13_2 : w12.cell? ⟨gb0, 2, none⟩ = some (.slice A0_2 l0_2.length c0_2) := (blk_cell BK0.out 2).trans rfl; have hfz13_0 := blk_frozen BK0.out 0; have hfz13_1 := blk_frozen BK0.out 1; have hfz13_2 := blk_frozen BK0.out 2; have hnb14 := NB1_2.out; have hnc14 := NB2_1.out; have hcz15_0 : w12.cell? ⟨gb1, 0, none⟩ = some (.int .i64 a1_0) := (blk_cell BK1.out 0).trans rfl; have hcz15_1 : w12.cell? ⟨gb1, 1, none⟩ = some (.int .i64 a1_1) := (blk_cell BK1.out 1).trans rfl; have hcz15_2 : w12.cell? ⟨gb1, 2, none⟩ = some (.int .i64 a1_2) := (blk_cell BK1.out 2).trans rfl; have hfz15_0 := blk_frozen BK1.out 0; have hfz15_1 := blk_frozen BK1.out 1; have hfz15_2 := blk_frozen BK1.out 2) | ((with_reducible refine gate_callee (f := 51) rfl ?_); refine goesL_ (some 12) rfl rfl Try.func51 Yj_ rfl #[.agg #[.slice A0_0 l0_0.length c0_0, .int .i64 a0_1, .slice A0_2 l0_2.length c0_2], .agg #[.int .i64 a1_0, .int .i64 a1_1, .int .i64 a1_2]] rfl Yd_ ?_; (with_reducible refine (spec_l24Make.calls k _ _ l0_0 a0_1 _ _ l0_2 a1_0 a1_1 a1_2 t333 t336 t337 t340 _ ?side1 ?side2 ?side3 ?side4 A5.out).mono ?_); (case side1 => repeat (first | exact (Kd.C_below HR0_0.out HB.out) | (with_reducible refine Kd.C_alloc ?_ _) | (with_reducible refine Kd.C_drewN ?_ _) | (with_reducible refine Kd.C_drew ?_))); (case side2 => exact HC0_0.out); (case side3 => repeat (first | exact (Kd.C_below HR0_2.out HB.out) | (with_reducible refine Kd.C_alloc ?_ _) | (with_reducible refine Kd.C_drewN ?_ _) | (with_reducible refine Kd.C_drew ?_))); (case side4 => exact HC0_2.out); rintro e w16 ⟨v334, v338, rfl, ho0, ho1, hb⟩; refine ⟨_, rfl, ?_⟩; have n0_ := Aside0.mk (Kd.S_lower ho0 (below_size Yg_)); have n1_ := Aside0.mk (Kd.S_lower ho1 (below_size Yg_)); have n2_ := Aside0.mk (blk_below (g := gb0) (o := .cells #[.slice A0_0 l0_0.length c0_0, .int .i64 a0_1, .slice A0_2 l0_2.length c0_2] 34 (0, 0)) Yc_ hb); have n3_ := Aside0.mk (blk_below (g := gb1) (o := .cells #[.int .i64 a1_0, .int .i64 a1_1, .int .i64 a1_2] 43 (0, 0)) Yi_ hb); have n4_ := Aside0.mk (blk_below (g := gb2) (o := .cells #[.slice none 0 0, .int .i64 0, .slice none 0 0] 34 (0, 0)) Ybd_ hb); have n5_ := Aside0.mk (below_step Yg_ hb); clear BK0; clear BK1; clear BK2; clear HB; have HO335 := n0_; have HO339 := n1_; have BK0 := n2_; have BK1 := n3_; have BK2 := n4_; have HB := n5_; clear n0_ n1_ n2_ n3_ n4_ n5_; (try clear hb); (try clear hb2); (try clear hk); (try clear hi); (try clear ho0); (try clear ho1); obtain ⟨Ao17, co17, eo17⟩ := Kd.S_slice HO335.out; subst eo17; have hcz18_0 : w16.cell? ⟨gb2, 0, none⟩ = some (.slice none 0 0) := (blk_cell BK2.out 0).trans rfl; have hcz18_1 : w16.cell? ⟨gb2, 1, none⟩ = some (.int .i64 0) := (blk_cell BK2.out 1).trans rfl; have hcz18_2 : w16.cell? ⟨gb2, 2, none⟩ = some (.slice none 0 0) := (blk_cell BK2.out 2).trans rfl; have hfz18_0 := blk_frozen BK2.out 0; have hfz18_1 := blk_frozen BK2.out 1; have hfz18_2 := blk_frozen BK2.out 2; obtain ⟨Ao19, co19, eo19⟩ := Kd.S_slice HO339.out; subst eo19))
  refine bodyPost_ret (Cc rfl _ _ gb2 34 #[.slice Ao17 t333.length co17, .int .i64 t336, .slice Ao19 t337.length co19] (0, 0) _ rfl (by (with_reducible repeat (first | apply blk_drewN | apply blk_drew | apply blk_alloc)); refine blk_put (cs := #[.slice Ao17 t333.length co17, .int .i64 t336, .slice none 0 0]) ?_ 2 _ rfl; (with_reducible repeat (first | apply blk_drewN | apply blk_drew | apply blk_alloc)); refine blk_put (cs := #[.slice Ao17 t333.length co17, .int .i64 0, .slice none 0 0]) ?_ 1 _ rfl; (with_reducible repeat (first | apply blk_drewN | apply blk_drew | apply blk_alloc)); refine blk_put (cs := #[.slice none 0 0, .int .i64 0, .slice none 0 0]) ?_ 0 _ rfl; (with_reducible repeat (first | apply blk_drewN | apply blk_drew | apply blk_alloc)); exact BK2.out) Try.underlying34 rfl Yj_) rfl ?_
  exact ⟨_, _, by first | rfl | (simp [errW_none, errW_some] <;> rfl) | (simp [*, errW_none, errW_some] <;> rfl), by (with_reducible repeat (first | apply Kd.S_alloc | apply Kd.S_drewN | apply Kd.S_drew)); exact Kd.S_mono (Kd.S_far (p := ⟨gb2, 2, none⟩) (Kd.S_far (p := ⟨gb2, 1, none⟩) (Kd.S_far (p := ⟨gb2, 0, none⟩) (Kd.S_types HO335.out BK2.out (by decide)) (fun _ hk => hk.2) (.slice Ao17 t333.length co17)) (fun _ hk => hk.2) (.int .i64 t336)) (fun _ hk => hk.2) (.slice Ao19 t337.length co19)) (fun _ hk => hk.1), by (with_reducible repeat (first | apply Kd.S_alloc | apply Kd.S_drewN | apply Kd.S_drew)); exact Kd.S_mono (Kd.S_far (p := ⟨gb2, 2, none⟩) (Kd.S_far (p := ⟨gb2, 1, none⟩) (Kd.S_far (p := ⟨gb2, 0, none⟩) (Kd.S_types HO339.out BK2.out (by decide)) (fun _ hk => hk.2) (.slice Ao17 t333.length co17)) (fun _ hk => hk.2) (.int .i64 t336)) (fun _ hk => hk.2) (.slice Ao19 t337.length co19)) (fun _ hk => hk.1), by repeat (first | (with_reducible first | exact HB.out | apply below_alloc | apply pw_below_drewN | apply below_drew1 | refine below_set ?_ GE0.out | refine below_set ?_ GE1.out | refine below_set ?_ GE2.out) | exact HB.out)⟩
 ·replace c4 := Bool.eq_false_iff.mpr c4
  subst c4
  have H1 : (some (([] : List (List Int)), 0, ([] : List (List Int)), false)) = some (r1, r2, r3, r4) := by rw [if_neg (show ¬ (false = true) by decide)] at H; exact H
  clear H
  have H := H1
  clear H1
  simp only [Option.some.injEq, Prod.mk.injEq] at H
  obtain ⟨rfl, rfl, rfl, rfl⟩ := H
  go_enter Try.func21, Try.ntmps21
  go_wp2_with (first | ((with_reducible refine gate_dst (N := 2) rfl ?_); refine box_event ?hg (N := 2) ?hd (cs := #[.slice A0_0 l0_0.length c0_0, .int .i64 a0_1, .slice A0_2 l0_2.length c0_2]) (t := 34) ?hr ?_; (case hd => rfl); (case hg => rfl); (case hr => first | (go_simp; done) | (go_simp; rfl)); intro gb0 hg w20 hbox hb; have n0_ := Aside0.mk (below_step Yb_ hb); have n1_ := Aside0.mk (hbox); have n2_ := Aside0.mk ((by rw [hg]; exact (below_size Yb_) : w.heap.size ≤ gb0)); have n3_ := Aside0.mk ((by rw [hg]; exact (below_size Yb_) : w.heap.size ≤ gb0)); clear HB; have HB := n0_; have BK0 := n1_; have GW0 := n2_; have GE0 := n3_; clear n0_ n1_ n2_ n3_; clear hb hbox hg) | ((with_reducible refine gate_dst (N := 3) rfl ?_); refine box_event ?hg (N := 3) ?hd (cs := #[.int .i64 a1_0, .int .i64 a1_1, .int .i64 a1_2]) (t := 43) ?hr ?_; (case hd => rfl); (case hg => rfl); (case hr => first | (go_simp; done) | (go_simp; rfl)); intro gb1 hg w21 hbox hb; have n0_ := Aside0.mk (blk_below (g := gb0) (o := .cells #[.slice A0_0 l0_0.length c0_0, .int .i64 a0_1, .slice A0_2 l0_2.length c0_2] 34 (0, 0)) Yc_ hb); have n1_ := Aside0.mk (below_step Ye_ hb); have n2_ := Aside0.mk (hbox); have n3_ := Aside0.mk ((by rw [hg]; exact (below_size Ye_) : w.heap.size ≤ gb1)); have n4_ := Aside0.mk ((by rw [hg]; exact (below_size Ye_) : w.heap.size ≤ gb1)); have n5_ := Aside0.mk ((by rw [hg]; exact Nat.ne_of_lt (blk_lt (g := gb0) (o := .cells #[.slice A0_0 l0_0.length c0_0, .int .i64 a0_1, .slice A0_2 l0_2.length c0_2] 34 (0, 0)) Yc_) : gb0 ≠ gb1)); have n6_ := Aside0.mk ((by rw [hg]; exact Nat.ne_of_gt (blk_lt (g := gb0) (o := .cells #[.slice A0_0 l0_0.length c0_0, .int .i64 a0_1, .slice A0_2 l0_2.length c0_2] 34 (0, 0)) Yc_) : gb1 ≠ gb0)); clear BK0; clear HB; have BK0 := n0_; have HB := n1_; have BK1 := n2_; have GW1 := n3_; have GE1 := n4_; have NB0_1 := n5_; have NB1_0 := n6_; clear n0_ n1_ n2_ n3_ n4_ n5_ n6_; clear hb hbox hg) | ((with_reducible refine gate_dst (N := 4) rfl ?_); refine box_event ?hg (N := 4) ?hd (cs := #[.slice none 0 0, .int .i64 0, .slice none 0 0]) (t := 34) ?hr ?_; (case hd => rfl); (case hg => rfl); (case hr => first | (go_simp; done) | (go_simp; rfl)); intro gb2 hg w22 hbox hb; have n0_ := Aside0.mk (blk_below (g := gb0) (o := .cells #[.slice A0_0 l0_0.length c0_0, .int .i64 a0_1, .slice A0_2 l0_2.length c0_2] 34 (0, 0)) Yc_ hb); have n1_ := Aside0.mk (blk_below (g := gb1) (o := .cells #[.int .i64 a1_0, .int .i64 a1_1, .int .i64 a1_2] 43 (0, 0)) Yi_ hb); have n2_ := Aside0.mk (below_step Yf_ hb); have n3_ := Aside0.mk (hbox); have n4_ := Aside0.mk ((by rw [hg]; exact (below_size Yf_) : w.heap.size ≤ gb2)); have n5_ := Aside0.mk ((by rw [hg]; exact (below_size Yf_) : w.heap.size ≤ gb2)); have n6_ := Aside0.mk ((by rw [hg]; exact Nat.ne_of_lt (blk_lt (g := gb0) (o := .cells #[.slice A0_0 l0_0.length c0_0, .int .i64 a0_1, .slice A0_2 l0_2.length c0_2] 34 (0, 0)) Yc_) : gb0 ≠ gb2)); have n7_ := Aside0.mk ((by rw [hg]; exact Nat.ne_of_gt (blk_lt (g := gb0) (o := .cells #[.slice A0_0 l0_0.length c0_0, .int .i64 a0_1, .slice A0_2 l0_2.length c0_2] 34 (0, 0)) Yc_) : gb2 ≠ gb0)); have n8_ := Aside0.mk ((by rw [hg]; exact Nat.ne_of_lt (blk_lt (g := gb1) (o := .cells #[.int .i64 a1_0, .int .i64 a1_1, .int .i64 a1_2] 43 (0, 0)) Yi_) : gb1 ≠ gb2)); have n9_ := Aside0.mk ((by rw [hg]; exact Nat.ne_of_gt (blk_lt (g := gb1) (o := .cells #[.int .i64 a1_0, .int .i64 a1_1, .int .i64 a1_2] 43 (0, 0)) Yi_) : gb2 ≠ gb1)); clear BK0; clear BK1; clear HB; have BK0 := n0_; have BK1 := n1_; have HB := n2_; have BK2 := n3_; have GW2 := n4_; have GE2 := n5_; have NB0_2 := n6_; have NB2_0 := n7_; have NB1_2 := n8_; have NB2_1 := n9_; clear n0_ n1_ n2_ n3_ n4_ n5_ n6_ n7_ n8_ n9_; clear hb hbox hg; have hnb23 := NB0_1.out; have hnc23 := NB1_0.out; have hnb24 := NB0_2.out; have hnc24 := NB2_0.out; have hcz25_0 : w22.cell? ⟨gb0, 0, none⟩ = some (.slice A0_0 l0_0.length c0_0) := (blk_cell BK0.out 0).trans rfl; have hcz25_1 : w22.cell? ⟨gb0, 1, none⟩ = some (.int .i64 a0_1) := (blk_cell BK0.out 1).trans rfl; have hcz25_2 : w22.cell? ⟨gb0, 2, none⟩ = some (.slice A0_2 l0_2.length c0_2) := (blk_cell BK0.out 2).trans rfl; have hfz25_0 := blk_frozen BK0.out 0; have hfz25_1 := blk_frozen BK0.out 1; have hfz25_2 := blk_frozen BK0.out 2) | ((with_reducible refine gate_callee (f := 39) rfl ?_); refine goesL_ (some 7) rfl rfl Try.func39 Yj_ rfl #[.agg #[.slice A0_0 l0_0.length c0_0, .int .i64 a0_1, .slice A0_2 l0_2.length c0_2]] rfl Yd_ ?_; (with_reducible refine (Ad.calls k _ _ l0_0 a0_1 _ _ l0_2 false _ ?side1 ?side2 ?side3 ?side4 A3.out).mono ?_); (case side1 => repeat (first | exact (Kd.C_below HR0_0.out HB.out) | (with_reducible refine Kd.C_alloc ?_ _) | (with_reducible refine Kd.C_drewN ?_ _) | (with_reducible refine Kd.C_drew ?_))); (case side2 => exact HC0_0.out); (case side3 => repeat (first | exact (Kd.C_below HR0_2.out HB.out) | (with_reducible refine Kd.C_alloc ?_ _) | (with_reducible refine Kd.C_drewN ?_ _) | (with_reducible refine Kd.C_drew ?_))); (case side4 => exact HC0_2.out); rintro e w26 ⟨rfl, hb⟩; refine ⟨_, rfl, ?_⟩; have n0_ := Aside0.mk (blk_below (g := gb0) (o := .cells #[.slice A0_0 l0_0.length c0_0, .int .i64 a0_1, .slice A0_2 l0_2.length c0_2] 34 (0, 0)) Yc_ hb); have n1_ := Aside0.mk (blk_below (g := gb1) (o := .cells #[.int .i64 a1_0, .int .i64 a1_1, .int .i64 a1_2] 43 (0, 0)) Yi_ hb); have n2_ := Aside0.mk (blk_below (g := gb2) (o := .cells #[.slice none 0 0, .int .i64 0, .slice none 0 0] 34 (0, 0)) Ybd_ hb); have n3_ := Aside0.mk (below_step Yg_ hb); clear BK0; clear BK1; clear BK2; clear HB; have BK0 := n0_; have BK1 := n1_; have BK2 := n2_; have HB := n3_; clear n0_ n1_ n2_ n3_; (try clear hb); (try clear hb2); (try clear hk); (try clear hi); have hnb27 := NB2_1.out; have hnc27 := NB1_2.out; have hcz28_0 : w26.cell? ⟨gb2, 0, none⟩ = some (.slice none 0 0) := (blk_cell BK2.out 0).trans rfl; have hcz28_1 : w26.cell? ⟨gb2, 1, none⟩ = some (.int .i64 0) := (blk_cell BK2.out 1).trans rfl; have hcz28_2 : w26.cell? ⟨gb2, 2, none⟩ = some (.slice none 0 0) := (blk_cell BK2.out 2).trans rfl; have hfz28_0 := blk_frozen BK2.out 0; have hfz28_1 := blk_frozen BK2.out 1; have hfz28_2 := blk_frozen BK2.out 2))
  refine bodyPost_ret (Cc rfl _ _ gb2 34 #[.slice none 0 0, .int .i64 0, .slice none 0 0] (0, 0) _ rfl Ybj_ Try.underlying34 rfl Yj_) rfl ?_
  exact ⟨_, _, by first | rfl | (simp [errW_none, errW_some] <;> rfl) | (simp [*, errW_none, errW_some] <;> rfl), by first | exact Kd.S_nil _ _ _ _ _ | exact Kd.N_nil _ _ _ _ _ | exact Kd.V_nil _ _ _ _ _ | exact Kd.Q_nil _ _ _ _ _ | exact Kd.R_nil _ _ _ _ _, by first | exact Kd.S_nil _ _ _ _ _ | exact Kd.N_nil _ _ _ _ _ | exact Kd.V_nil _ _ _ _ _ | exact Kd.Q_nil _ _ _ _ _ | exact Kd.R_nil _ _ _ _ _, by repeat (first | (with_reducible first | exact HB.out | apply below_alloc | apply pw_below_drewN | apply below_drew1 | refine below_set ?_ GE0.out | refine below_set ?_ GE1.out | refine below_set ?_ GE2.out) | exact HB.out)⟩
def Bq.f (k : Nat) (l0_0 : List (List Int)) (a0_1 : Int) (l0_2 : List (List Int)) (a1_0 : Int) (a1_1 : Int) (a1_2 : Int) : Option ((List (List Int)) × Int × (List (List Int)) × Bool) := (impl_IsValidTerminal.f k l0_0 a0_1 l0_2).bind fun t420 => (if t420 = true then ((impl_makeOrder.f k l0_0 a0_1 l0_2 a1_0 a1_1 a1_2).bind fun bt421 => (some (bt421.1, bt421.2.1, bt421.2.2.1, bt421.2.2.2.2))) else (some (([] : List (List Int)), 0, ([] : List (List Int)), false)))
theorem Bq.mono : ∀ a0 a1 a2 a3 a4 a5 k, LeO (Bq.f k a0 a1 a2 a3 a4 a5) (Bq.f (k + 1) a0 a1 a2 a3 a4 a5) := by
 intro a0 a1 a2 a3 a4 a5 k
 unfold Bq.f
 repeat' first
   | (with_reducible exact impl_IsValidTerminal.mono _ _ _ _)
   | (with_reducible exact impl_makeOrder.mono _ _ _ _ _ _ _)
   | (with_reducible exact LeO.refl _)
   | (with_reducible exact LeO.none _)
   | (with_reducible refine LeO.ite ?_ ?_)
   | (with_reducible refine LeO.bind ?_ (fun _ => ?_))
   | exact impl_IsValidTerminal.mono _ _ _ _
   | exact impl_makeOrder.mono _ _ _ _ _ _ _
   | exact LeO.none _
   | refine LeO.ite ?_ ?_
   | refine LeO.bind ?_ (fun _ => ?_)
set_option maxHeartbeats 8000000 in
set_option maxRecDepth 100000 in
theorem Bq.calls2 (k : Nat) (A0_0 : Option Addr) (c0_0 : Nat) (l0_0 : List (List Int)) (a0_1 : Int) (A0_2 : Option Addr) (c0_2 : Nat) (l0_2 : List (List Int)) (a1_0 : Int) (a1_1 : Int) (a1_2 : Int) (r1 : List (List Int)) (r2 : Int) (r3 : List (List Int)) (r4 : Bool) (w : World) (hr0_0 : Kd.C (Kd.slice 3 (Kd.int .i64)) w A0_0 l0_0.length l0_0) (hc0_0 : l0_0.length ≤ c0_0) (hr0_2 : Kd.C (Kd.slice 3 (Kd.int .i64)) w A0_2 l0_2.length l0_2) (hc0_2 : l0_2.length ≤ c0_2) (h : Bq.f k l0_0 a0_1 l0_2 a1_0 a1_1 a1_2 = some (r1, r2, r3, r4)) :
  Calls Try.prog 22 #[.agg #[.slice A0_0 l0_0.length c0_0, .int .i64 a0_1, .slice A0_2 l0_2.length c0_2], .agg #[.int .i64 a1_0, .int .i64 a1_1, .int .i64 a1_2]] w fun e w' => ∃ (P_ : Nat → Prop) (v0_ v2_ : Value), e = .returned (.tuple #[.agg #[v0_, .int .i64 r2, v2_], .bool r4]) ∧ Kd.S (Kd.slice 3 (Kd.int .i64)) 73 w' w.heap.size (fun k_ => P_ k_) v0_ r1 ∧ Kd.S (Kd.slice 3 (Kd.int .i64)) 73 w' w.heap.size (fun k_ => ¬ P_ k_) v2_ r3 ∧ Below w.heap.size w w' := by
 have hu34 := Try.underlying34
 have hu43 := Try.underlying43
 have HR0_0 := Aside0.mk hr0_0
 have HC0_0 := Aside0.mk hc0_0
 clear hr0_0 hc0_0
 have HR0_2 := Aside0.mk hr0_2
 have HC0_2 := Aside0.mk hc0_2
 clear hr0_2 hc0_2
 have HB := Aside0.mk (Below.refl w.heap.size w)
 have H : ((impl_IsValidTerminal.f k l0_0 a0_1 l0_2).bind fun t420 => (if t420 = true then ((impl_makeOrder.f k l0_0 a0_1 l0_2 a1_0 a1_1 a1_2).bind fun bt421 => (some (bt421.1, bt421.2.1, bt421.2.2.1, bt421.2.2.2.2))) else (some (([] : List (List Int)), 0, ([] : List (List Int)), false)))) = some (r1, r2, r3, r4) := h
 clear h
 replace H := Option.bind_eq_some_iff.mp H
 obtain ⟨t420, A30, H⟩ := H
 try dsimp only at H
 have A3 := Aside0.mk A30
 clear A30
 by_cases c4 : t420 = true
 ·subst c4
  have H1 : ((impl_makeOrder.f k l0_0 a0_1 l0_2 a1_0 a1_1 a1_2).bind fun bt421 => (some (bt421.1, bt421.2.1, bt421.2.2.1, bt421.2.2.2.2))) = some (r1, r2, r3, r4) := by rw [if_pos rfl] at H; exact H
  clear H
  have H := H1
  clear H1
  replace H := Option.bind_eq_some_iff.mp H
  obtain ⟨⟨t421, t424, t425, t428, t429⟩, A50, H⟩ := H
  try dsimp only at H
  have A5 := Aside0.mk A50
  clear A50
  simp only [Option.some.injEq, Prod.mk.injEq] at H
  obtain ⟨rfl, rfl, rfl, rfl⟩ := H
  go_enter Try.func22, Try.ntmps22
  go_wp2_with (first | ((with_reducible refine gate_dst (N := 2) rfl ?_); refine box_event ?hg (N := 2) ?hd (cs := #[.slice A0_0 l0_0.length c0_0, .int .i64 a0_1, .slice A0_2 l0_2.length c0_2]) (t := 34) ?hr ?_; (case hd => rfl); (case hg => rfl); (case hr => first | (go_simp; done) | (go_simp; rfl)); intro gb0 hg w6 hbox hb; have n0_ := Aside0.mk (below_step Yb_ hb); have n1_ := Aside0.mk (hbox); have n2_ := Aside0.mk ((by rw [hg]; exact (below_size Yb_) : w.heap.size ≤ gb0)); have n3_ := Aside0.mk ((by rw [hg]; exact (below_size Yb_) : w.heap.size ≤ gb0)); clear HB; have HB := n0_; have BK0 := n1_; have GW0 := n2_; have GE0 := n3_; clear n0_ n1_ n2_ n3_; clear hb hbox hg) | ((with_reducible refine gate_dst (N := 3) rfl ?_); refine box_event ?hg (N := 3) ?hd (cs := #[.int .i64 a1_0, .int .i64 a1_1, .int .i64 a1_2]) (t := 43) ?hr ?_; (case hd => rfl); (case hg => rfl); (case hr => first | (go_simp; done) | (go_simp; rfl)); intro gb1 hg w7 hbox hb; have n0_ := Aside0.mk (blk_below (g := gb0) (o := .cells #[.slice A0_0 l0_0.length c0_0, .int .i64 a0_1, .slice A0_2 l0_2.length c0_2] 34 (0, 0)) Yc_ hb); have n1_ := Aside0.mk (below_step Ye_ hb); have n2_ := Aside0.mk (hbox); have n3_ := Aside0.mk ((by rw [hg]; exact (below_size Ye_) : w.heap.size ≤ gb1)); have n4_ := Aside0.mk ((by rw [hg]; exact (below_size Ye_) : w.heap.size ≤ gb1)); have n5_ := Aside0.mk ((by rw [hg]; exact Nat.ne_of_lt (blk_lt (g := gb0) (o := .cells #[.slice A0_0 l0_0.length c0_0, .int .i64 a0_1, .slice A0_2 l0_2.length c0_2] 34 (0, 0)) Yc_) : gb0 ≠ gb1)); have n6_ := Aside0.mk ((by rw [hg]; exact Nat.ne_of_gt (blk_lt (g := gb0) (o := .cells #[.slice A0_0 l0_0.length c0_0, .int .i64 a0_1, .slice A0_2 l0_2.length c0_2] 34 (0, 0)) Yc_) : gb1 ≠ gb0)); clear BK0; clear HB; have BK0 := n0_; have HB := n1_; have BK1 := n2_; have GW1 := n3_; have GE1 := n4_; have NB0_1 := n5_; have NB1_0 := n6_; clear n0_ n1_ n2_ n3_ n4_ n5_ n6_; clear hb hbox hg) | ((with_reducible refine gate_dst (N := 4) rfl ?_); refine box_event ?hg (N := 4) ?hd (cs := #[.slice none 0 0, .int .i64 0, .slice none 0 0]) (t := 34) ?hr ?_; (case hd => rfl); (case hg => rfl); (case hr => first | (go_simp; done) | (go_simp; rfl)); intro gb2 hg w8 hbox hb; have n0_ := Aside0.mk (blk_below (g := gb0) (o := .cells #[.slice A0_0 l0_0.length c0_0, .int .i64 a0_1, .slice A0_2 l0_2.length c0_2] 34 (0, 0)) Yc_ hb); have n1_ := Aside0.mk (blk_below (g := gb1) (o := .cells #[.int .i64 a1_0, .int .i64 a1_1, .int .i64 a1_2] 43 (0, 0)) Yi_ hb); have n2_ := Aside0.mk (below_step Yf_ hb); have n3_ := Aside0.mk (hbox); have n4_ := Aside0.mk ((by rw [hg]; exact (below_size Yf_) : w.heap.size ≤ gb2)); have n5_ := Aside0.mk ((by rw [hg]; exact (below_size Yf_) : w.heap.size ≤ gb2)); have n6_ := Aside0.mk ((by rw [hg]; exact Nat.ne_of_lt (blk_lt (g := gb0) (o := .cells #[.slice A0_0 l0_0.length c0_0, .int .i64 a0_1, .slice A0_2 l0_2.length c0_2] 34 (0, 0)) Yc_) : gb0 ≠ gb2)); have n7_ := Aside0.mk ((by rw [hg]; exact Nat.ne_of_gt (blk_lt (g := gb0) (o := .cells #[.slice A0_0 l0_0.length c0_0, .int .i64 a0_1, .slice A0_2 l0_2.length c0_2] 34 (0, 0)) Yc_) : gb2 ≠ gb0)); have n8_ := Aside0.mk ((by rw [hg]; exact Nat.ne_of_lt (blk_lt (g := gb1) (o := .cells #[.int .i64 a1_0, .int .i64 a1_1, .int .i64 a1_2] 43 (0, 0)) Yi_) : gb1 ≠ gb2)); have n9_ := Aside0.mk ((by rw [hg]; exact Nat.ne_of_gt (blk_lt (g := gb1) (o := .cells #[.int .i64 a1_0, .int .i64 a1_1, .int .i64 a1_2] 43 (0, 0)) Yi_) : gb2 ≠ gb1)); clear BK0; clear BK1; clear HB; have BK0 := n0_; have BK1 := n1_; have HB := n2_; have BK2 := n3_; have GW2 := n4_; have GE2 := n5_; have NB0_2 := n6_; have NB2_0 := n7_; have NB1_2 := n8_; have NB2_1 := n9_; clear n0_ n1_ n2_ n3_ n4_ n5_ n6_ n7_ n8_ n9_; clear hb hbox hg; have hnb9 := NB0_1.out; have hnc9 := NB1_0.out; have hnb10 := NB0_2.out; have hnc10 := NB2_0.out; have hcz11_0 : w8.cell? ⟨gb0, 0, none⟩ = some (.slice A0_0 l0_0.length c0_0) := (blk_cell BK0.out 0).trans rfl; have hcz11_1 : w8.cell? ⟨gb0, 1, none⟩ = some (.int .i64 a0_1) := (blk_cell BK0.out 1).trans rfl; have hcz11_2 : w8.cell? ⟨gb0, 2, none⟩ = some (.slice A0_2 l0_2.length c0_2) := (blk_cell BK0.out 2).trans rfl; have hfz11_0 := blk_frozen BK0.out 0; have hfz11_1 := blk_frozen BK0.out 1; have hfz11_2 := blk_frozen BK0.out 2) | ((with_reducible refine gate_callee (f := 13) rfl ?_); refine goesL_ (some 10) rfl rfl Try.func13 Yj_ rfl #[.agg #[.slice A0_0 l0_0.length c0_0, .int .i64 a0_1, .slice A0_2 l0_2.length c0_2]] rfl Yd_ ?_; (with_reducible refine (impl_IsValidTerminal.calls k _ _ l0_0 a0_1 _ _ l0_2 true _ ?side1 ?side2 ?side3 ?side4 A3.out).mono ?_); (case side1 => repeat (first | exact (Kd.C_below HR0_0.out HB.out) | (with_reducible refine Kd.C_alloc ?_ _) | (with_reducible refine Kd.C_drewN ?_ _) | (with_reducible refine Kd.C_drew ?_))); (case side2 => exact HC0_0.out); (case side3 => repeat (first | exact (Kd.C_below HR0_2.out HB.out) | (with_reducible refine Kd.C_alloc ?_ _) | (with_reducible refine Kd.C_drewN ?_ _) | (with_reducible refine Kd.C_drew ?_))); (case side4 => exact HC0_2.out); rintro e w12 ⟨rfl, hb⟩; refine ⟨_, rfl, ?_⟩; have n0_ := Aside0.mk (blk_below (g := gb0) (o := .cells #[.slice A0_0 l0_0.length c0_0, .int .i64 a0_1, .slice A0_2 l0_2.length c0_2] 34 (0, 0)) Yc_ hb); have n1_ := Aside0.mk (blk_below (g := gb1) (o := .cells #[.int .i64 a1_0, .int .i64 a1_1, .int .i64 a1_2] 43 (0, 0)) Yi_ hb); have n2_ := Aside0.mk (blk_below (g := gb2) (o := .cells #[.slice none 0 0, .int .i64 0, .slice none 0 0] 34 (0, 0)) Ybd_ hb); have n3_ := Aside0.mk (below_step Yg_ hb); clear BK0; clear BK1; clear BK2; clear HB; have BK0 := n0_; have BK1 := n1_; have BK2 := n2_; have HB := n3_; clear n0_ n1_ n2_ n3_; (try clear hb); (try clear hb2); (try clear hk); (try clear hi); have hcz13_0 : w12.cell? ⟨gb0, 0, none⟩ = some (.slice A0_0 l0_0.length c0_0) := (blk_cell BK0.out 0).trans rfl; have hcz13_1 : w12.cell? ⟨gb0, 1, none⟩ = some (.int .i64 a0_1) := (blk_cell BK0.out 1).trans rfl; have hcz13_2 : w12.cell? ⟨gb0, 2, none⟩ = some (.slice A0_2 l0_2.length c0_2) := (blk_cell BK0.out 2).trans rfl; have hfz13_0 := blk_frozen BK0.out 0; have hfz13_1 := blk_frozen BK0.out 1; have hfz13_2 := blk_frozen BK0.out 2; have hnb14 := NB1_2.out; have hnc14 := NB2_1.out; have hcz15_0 : w12.cell? ⟨gb1, 0, none⟩ = some (.int .i64 a1_0) := (blk_cell BK1.out 0).trans rfl; have hcz15_1 : w12.cell? ⟨gb1, 1, none⟩ = some (.int .i64 a1_1) := (blk_cell BK1.out 1).trans rfl; have hcz15_2 : w12.cell? ⟨gb1, 2, none⟩ = some (.int .i64 a1_2) := (blk_cell BK1.out 2).trans rfl; have hfz15_0 := blk_frozen BK1.out 0; have hfz15_1 := blk_frozen BK1.out 1; have hfz15_2 := blk_frozen BK1.out 2) | ((with_reducible refine gate_callee (f := 50) rfl ?_); refine goesL_ (some 16) rfl rfl Try.func50 Yj_ rfl #[.agg #[.slice A0_0 l0_0.length c0_0, .int .i64 a0_1, .slice A0_2 l0_2.length c0_2], .agg #[.int .i64 a1_0, .int .i64 a1_1, .int .i64 a1_2]] rfl Yd_ ?_; (with_reducible refine (impl_makeOrder.calls2 k _ _ l0_0 a0_1 _ _ l0_2 a1_0 a1_1 a1_2 t421 t424 t425 t428 t429 _ ?side1 ?side2 ?side3 ?side4 A5.out).mono ?_); (case side1 => repeat (first | exact (Kd.C_below HR0_0.out HB.out) | (with_reducible refine Kd.C_alloc ?_ _) | (with_reducible refine Kd.C_drewN ?_ _) | (with_reducible refine Kd.C_drew ?_))); (case side2 => exact HC0_0.out); (case side3 => repeat (first | exact (Kd.C_below HR0_2.out HB.out) | (with_reducible refine Kd.C_alloc ?_ _) | (with_reducible refine Kd.C_drewN ?_ _) | (with_reducible refine Kd.C_drew ?_))); (case side4 => exact HC0_2.out); rintro e w16 ⟨P_, v422, v426, rfl, ho0, ho1, hb⟩; refine ⟨_, rfl, ?_⟩; have n0_ := Aside0.mk (Kd.S_lower ho0 (below_size Yg_)); have n1_ := Aside0.mk (Kd.S_lower ho1 (below_size Yg_)); have n2_ := Aside0.mk (blk_below (g := gb0) (o := .cells #[.slice A0_0 l0_0.length c0_0, .int .i64 a0_1, .slice A0_2 l0_2.length c0_2] 34 (0, 0)) Yc_ hb); have n3_ := Aside0.mk (blk_below (g := gb1) (o := .cells #[.int .i64 a1_0, .int .i64 a1_1, .int .i64 a1_2] 43 (0, 0)) Yi_ hb); have n4_ := Aside0.mk (blk_below (g := gb2) (o := .cells #[.slice none 0 0, .int .i64 0, .slice none 0 0] 34 (0, 0)) Ybd_ hb); have n5_ := Aside0.mk (below_step Yg_ hb); clear BK0; clear BK1; clear BK2; clear HB; have HO423 := n0_; have HO427 := n1_; have BK0 := n2_; have BK1 := n3_; have BK2 := n4_; have HB := n5_; clear n0_ n1_ n2_ n3_ n4_ n5_; (try clear hb); (try clear hb2); (try clear hk); (try clear hi); (try clear ho0); (try clear ho1)) | ((with_reducible refine gate_dst (N := 6) rfl ?_); refine box_event ?hg (N := 6) ?hd (cs := #[.slice none 0 0, .int .i64 0, .slice none 0 0]) (t := 34) ?hr ?_; (case hd => rfl); (case hg => rfl); (case hr => first | (go_simp; done) | (go_simp; rfl)); intro gb3 hg w17 hbox hb; have n0_ := Aside0.mk (Kd.Aa (by (with_reducible repeat (first | apply Kd.S_alloc | apply Kd.S_drewN | apply Kd.S_drew)); exact HO423.out) hb); have n1_ := Aside0.mk (Kd.Aa (by (with_reducible repeat (first | apply Kd.S_alloc | apply Kd.S_drewN | apply Kd.S_drew)); exact HO427.out) hb); have n2_ := Aside0.mk (blk_below (g := gb0) (o := .cells #[.slice A0_0 l0_0.length c0_0, .int .i64 a0_1, .slice A0_2 l0_2.length c0_2] 34 (0, 0)) Yc_ hb); have n3_ := Aside0.mk (blk_below (g := gb1) (o := .cells #[.int .i64 a1_0, .int .i64 a1_1, .int .i64 a1_2] 43 (0, 0)) Yi_ hb); have n4_ := Aside0.mk (blk_below (g := gb2) (o := .cells #[.slice none 0 0, .int .i64 0, .slice none 0 0] 34 (0, 0)) Ybd_ hb); have n5_ := Aside0.mk (below_step Yg_ hb); have n6_ := Aside0.mk (hbox); have n7_ := Aside0.mk ((by rw [hg]; exact (below_size Yg_) : w.heap.size ≤ gb3)); have n8_ := Aside0.mk ((by rw [hg]; exact (below_size Yg_) : w.heap.size ≤ gb3)); have n9_ := Aside0.mk ((by rw [hg]; exact Nat.ne_of_lt (blk_lt (g := gb0) (o := .cells #[.slice A0_0 l0_0.length c0_0, .int .i64 a0_1, .slice A0_2 l0_2.length c0_2] 34 (0, 0)) Yc_) : gb0 ≠ gb3)); have n10_ := Aside0.mk ((by rw [hg]; exact Nat.ne_of_gt (blk_lt (g := gb0) (o := .cells #[.slice A0_0 l0_0.length c0_0, .int .i64 a0_1, .slice A0_2 l0_2.length c0_2] 34 (0, 0)) Yc_) : gb3 ≠ gb0)); have n11_ := Aside0.mk ((by rw [hg]; exact Nat.ne_of_lt (blk_lt (g := gb1) (o := .cells #[.int .i64 a1_0, .int .i64 a1_1, .int .i64 a1_2] 43 (0, 0)) Yi_) : gb1 ≠ gb3)); have n12_ := Aside0.mk ((by rw [hg]; exact Nat.ne_of_gt (blk_lt (g := gb1) (o := .cells #[.int .i64 a1_0, .int .i64 a1_1, .int .i64 a1_2] 43 (0, 0)) Yi_) : gb3 ≠ gb1)); have n13_ := Aside0.mk ((by rw [hg]; exact Nat.ne_of_lt (blk_lt (g := gb2) (o := .cells #[.slice none 0 0, .int .i64 0, .slice none 0 0] 34 (0, 0)) Ybd_) : gb2 ≠ gb3)); have n14_ := Aside0.mk ((by rw [hg]; exact Nat.ne_of_gt (blk_lt (g := gb2) (o := .cells #[.slice none 0 0, .int .i64 0, .slice none 0 0] 34 (0, 0)) Ybd_) : gb3 ≠ gb2)); clear HO423; clear HO427; clear BK0; clear BK1; clear BK2; clear HB; have HO423 := n0_; have HO427 := n1_; have BK0 := n2_; have BK1 := n3_; have BK2 := n4_; have HB := n5_; have BK3 := n6_; have GW3 := n7_; have GE3 := n8_; have NB0_3 := n9_; have NB3_0 := n10_; have NB1_3 := n11_; have NB3_1 := n12_; have NB2_3 := n13_; have NB3_2 := n14_; clear n0_ n1_ n2_ n3_ n4_ n5_ n6_ n7_ n8_ n9_ n10_ n11_ n12_ n13_ n14_; clear hb hbox hg; obtain ⟨Ao18, co18, eo18⟩ := Kd.S_slice HO423.out; subst eo18; have hnb19 := NB3_0.out; have hnc19 := NB0_3.out; have hnb20 := NB3_1.out; have hnc20 := NB1_3.out; have hnb21 := NB3_2.out; have hnc21 := NB2_3.out; have hcz22_0 : w17.cell? ⟨gb3, 0, none⟩ = some (.slice none 0 0) := (blk_cell BK3.out 0).trans rfl; have hcz22_1 : w17.cell? ⟨gb3, 1, none⟩ = some (.int .i64 0) := (blk_cell BK3.out 1).trans rfl; have hcz22_2 : w17.cell? ⟨gb3, 2, none⟩ = some (.slice none 0 0) := (blk_cell BK3.out 2).trans rfl; have hfz22_0 := blk_frozen BK3.out 0; have hfz22_1 := blk_frozen BK3.out 1; have hfz22_2 := blk_frozen BK3.out 2; obtain ⟨Ao23, co23, eo23⟩ := Kd.S_slice HO427.out; subst eo23; have hcz24_0 : w17.cell? ⟨gb2, 0, none⟩ = some (.slice none 0 0) := (blk_cell BK2.out 0).trans rfl; have hcz24_1 : w17.cell? ⟨gb2, 1, none⟩ = some (.int .i64 0) := (blk_cell BK2.out 1).trans rfl; have hcz24_2 : w17.cell? ⟨gb2, 2, none⟩ = some (.slice none 0 0) := (blk_cell BK2.out 2).trans rfl; have hfz24_0 := blk_frozen BK2.out 0; have hfz24_1 := blk_frozen BK2.out 1; have hfz24_2 := blk_frozen BK2.out 2))
  refine bodyPost_ret (Cc rfl _ _ gb2 34 #[.slice Ao18 t421.length co18, .int .i64 t424, .slice Ao23 t425.length co23] (0, 0) _ rfl (by (with_reducible repeat (first | apply blk_drewN | apply blk_drew | apply blk_alloc)); refine blk_put (cs := #[.slice Ao18 t421.length co18, .int .i64 t424, .slice none 0 0]) ?_ 2 _ rfl; (with_reducible repeat (first | apply blk_drewN | apply blk_drew | apply blk_alloc)); refine blk_put (cs := #[.slice Ao18 t421.length co18, .int .i64 0, .slice none 0 0]) ?_ 1 _ rfl; (with_reducible repeat (first | apply blk_drewN | apply blk_drew | apply blk_alloc)); refine blk_put (cs := #[.slice none 0 0, .int .i64 0, .slice none 0 0]) ?_ 0 _ rfl; (with_reducible repeat (first | apply blk_drewN | apply blk_drew | apply blk_alloc)); refine Cb ?_ NB2_3.out _; (with_reducible repeat (first | apply blk_drewN | apply blk_drew | apply blk_alloc)); refine Cb ?_ NB2_3.out _; (with_reducible repeat (first | apply blk_drewN | apply blk_drew | apply blk_alloc)); refine Cb ?_ NB2_3.out _; (with_reducible repeat (first | apply blk_drewN | apply blk_drew | apply blk_alloc)); exact BK2.out) Try.underlying34 rfl Yj_) rfl ?_
  exact ⟨P_, _, _, by first | rfl | (simp [errW_none, errW_some] <;> rfl) | (simp [*, errW_none, errW_some] <;> rfl), by (with_reducible repeat (first | apply Kd.S_alloc | apply Kd.S_drewN | apply Kd.S_drew)); exact Kd.S_mono (Kd.S_far (p := ⟨gb2, 2, none⟩) (Kd.S_far (p := ⟨gb2, 1, none⟩) (Kd.S_far (p := ⟨gb2, 0, none⟩) (Kd.S_far (p := ⟨gb3, 2, none⟩) (Kd.S_far (p := ⟨gb3, 1, none⟩) (Kd.S_far (p := ⟨gb3, 0, none⟩) (Kd.S_types (Kd.S_types HO423.out BK3.out (by decide)) BK2.out (by decide)) (fun _ hk => hk.1.2) (.slice Ao18 t421.length co18)) (fun _ hk => hk.1.2) (.int .i64 t424)) (fun _ hk => hk.1.2) (.slice Ao23 t425.length co23)) (fun _ hk => hk.2) (.slice Ao18 t421.length co18)) (fun _ hk => hk.2) (.int .i64 t424)) (fun _ hk => hk.2) (.slice Ao23 t425.length co23)) (fun _ hk => hk.1.1), by (with_reducible repeat (first | apply Kd.S_alloc | apply Kd.S_drewN | apply Kd.S_drew)); exact Kd.S_mono (Kd.S_far (p := ⟨gb2, 2, none⟩) (Kd.S_far (p := ⟨gb2, 1, none⟩) (Kd.S_far (p := ⟨gb2, 0, none⟩) (Kd.S_far (p := ⟨gb3, 2, none⟩) (Kd.S_far (p := ⟨gb3, 1, none⟩) (Kd.S_far (p := ⟨gb3, 0, none⟩) (Kd.S_types (Kd.S_types HO427.out BK3.out (by decide)) BK2.out (by decide)) (fun _ hk => hk.1.2) (.slice Ao18 t421.length co18)) (fun _ hk => hk.1.2) (.int .i64 t424)) (fun _ hk => hk.1.2) (.slice Ao23 t425.length co23)) (fun _ hk => hk.2) (.slice Ao18 t421.length co18)) (fun _ hk => hk.2) (.int .i64 t424)) (fun _ hk => hk.2) (.slice Ao23 t425.length co23)) (fun _ hk => hk.1.1), by repeat (first | (with_reducible first | exact HB.out | apply below_alloc | apply pw_below_drewN | apply below_drew1 | refine below_set ?_ GE0.out | refine below_set ?_ GE1.out | refine below_set ?_ GE2.out | refine below_set ?_ GE3.out) | exact HB.out)⟩
 ·replace c4 := Bool.eq_false_iff.mpr c4
  subst c4
  have H1 : (some (([] : List (List Int)), 0, ([] : List (List Int)), false)) = some (r1, r2, r3, r4) := by rw [if_neg (show ¬ (false = true) by decide)] at H; exact H
  clear H
  have H := H1
  clear H1
  simp only [Option.some.injEq, Prod.mk.injEq] at H
  obtain ⟨rfl, rfl, rfl, rfl⟩ := H
  go_enter Try.func22, Try.ntmps22
  go_wp2_with (first | ((with_reducible refine gate_dst (N := 2) rfl ?_); refine box_event ?hg (N := 2) ?hd (cs := #[.slice A0_0 l0_0.length c0_0, .int .i64 a0_1, .slice A0_2 l0_2.length c0_2]) (t := 34) ?hr ?_; (case hd => rfl); (case hg => rfl); (case hr => first | (go_simp; done) | (go_simp; rfl)); intro gb0 hg w25 hbox hb; have n0_ := Aside0.mk (below_step Yb_ hb); have n1_ := Aside0.mk (hbox); have n2_ := Aside0.mk ((by rw [hg]; exact (below_size Yb_) : w.heap.size ≤ gb0)); have n3_ := Aside0.mk ((by rw [hg]; exact (below_size Yb_) : w.heap.size ≤ gb0)); clear HB; have HB := n0_; have BK0 := n1_; have GW0 := n2_; have GE0 := n3_; clear n0_ n1_ n2_ n3_; clear hb hbox hg) | ((with_reducible refine gate_dst (N := 3) rfl ?_); refine box_event ?hg (N := 3) ?hd (cs := #[.int .i64 a1_0, .int .i64 a1_1, .int .i64 a1_2]) (t := 43) ?hr ?_; (case hd => rfl); (case hg => rfl); (case hr => first | (go_simp; done) | (go_simp; rfl)); intro gb1 hg w26 hbox hb; have n0_ := Aside0.mk (blk_below (g := gb0) (o := .cells #[.slice A0_0 l0_0.length c0_0, .int .i64 a0_1, .slice A0_2 l0_2.length c0_2] 34 (0, 0)) Yc_ hb); have n1_ := Aside0.mk (below_step Ye_ hb); have n2_ := Aside0.mk (hbox); have n3_ := Aside0.mk ((by rw [hg]; exact (below_size Ye_) : w.heap.size ≤ gb1)); have n4_ := Aside0.mk ((by rw [hg]; exact (below_size Ye_) : w.heap.size ≤ gb1)); have n5_ := Aside0.mk ((by rw [hg]; exact Nat.ne_of_lt (blk_lt (g := gb0) (o := .cells #[.slice A0_0 l0_0.length c0_0, .int .i64 a0_1, .slice A0_2 l0_2.length c0_2] 34 (0, 0)) Yc_) : gb0 ≠ gb1)); have n6_ := Aside0.mk ((by rw [hg]; exact Nat.ne_of_gt (blk_lt (g := gb0) (o := .cells #[.slice A0_0 l0_0.length c0_0, .int .i64 a0_1, .slice A0_2 l0_2.length c0_2] 34 (0, 0)) Yc_) : gb1 ≠ gb0)); clear BK0; clear HB; have BK0 := n0_; have HB := n1_; have BK1 := n2_; have GW1 := n3_; have GE1 := n4_; have NB0_1 := n5_; have NB1_0 := n6_; clear n0_ n1_ n2_ n3_ n4_ n5_ n6_; clear hb hbox hg) | ((with_reducible refine gate_dst (N := 4) rfl ?_); refine box_event ?hg (N := 4) ?hd (cs := #[.slice none 0 0, .int .i64 0, .slice none 0 0]) (t := 34) ?hr ?_; (case hd => rfl); (case hg => rfl); (case hr => first | (go_simp; done) | (go_simp; rfl)); intro gb2 hg w27 hbox hb; have n0_ := Aside0.mk (blk_below (g := gb0) (o := .cells #[.slice A0_0 l0_0.length c0_0, .int .i64 a0_1, .slice A0_2 l0_2.length c0_2] 34 (0, 0)) Yc_ hb); have n1_ := Aside0.mk (blk_below (g := gb1) (o := .cells #[.int .i64 a1_0, .int .i64 a1_1, .int .i64 a1_2] 43 (0, 0)) Yi_ hb); have n2_ := Aside0.mk (below_step Yf_ hb); have n3_ := Aside0.mk (hbox); have n4_ := Aside0.mk ((by rw [hg]; exact (below_size Yf_) : w.heap.size ≤ gb2)); have n5_ := Aside0.mk ((by rw [hg]; exact (below_size Yf_) : w.heap.size ≤ gb2)); have n6_ := Aside0.mk ((by rw [hg]; exact Nat.ne_of_lt (blk_lt (g := gb0) (o := .cells #[.slice A0_0 l0_0.length c0_0, .int .i64 a0_1, .slice A0_2 l0_2.length c0_2] 34 (0, 0)) Yc_) : gb0 ≠ gb2)); have n7_ := Aside0.mk ((by rw [hg]; exact Nat.ne_of_gt (blk_lt (g := gb0) (o := .cells #[.slice A0_0 l0_0.length c0_0, .int .i64 a0_1, .slice A0_2 l0_2.length c0_2] 34 (0, 0)) Yc_) : gb2 ≠ gb0)); have n8_ := Aside0.mk ((by rw [hg]; exact Nat.ne_of_lt (blk_lt (g := gb1) (o := .cells #[.int .i64 a1_0, .int .i64 a1_1, .int .i64 a1_2] 43 (0, 0)) Yi_) : gb1 ≠ gb2)); have n9_ := Aside0.mk ((by rw [hg]; exact Nat.ne_of_gt (blk_lt (g := gb1) (o := .cells #[.int .i64 a1_0, .int .i64 a1_1, .int .i64 a1_2] 43 (0, 0)) Yi_) : gb2 ≠ gb1)); clear BK0; clear BK1; clear HB; have BK0 := n0_; have BK1 := n1_; have HB := n2_; have BK2 := n3_; have GW2 := n4_; have GE2 := n5_; have NB0_2 := n6_; have NB2_0 := n7_; have NB1_2 := n8_; have NB2_1 := n9_; clear n0_ n1_ n2_ n3_ n4_ n5_ n6_ n7_ n8_ n9_; clear hb hbox hg; have hnb28 := NB0_1.out; have hnc28 := NB1_0.out; have hnb29 := NB0_2.out; have hnc29 := NB2_0.out; have hcz30_0 : w27.cell? ⟨gb0, 0, none⟩ = some (.slice A0_0 l0_0.length c0_0) := (blk_cell BK0.out 0).trans rfl; have hcz30_1 : w27.cell? ⟨gb0, 1, none⟩ = some (.int .i64 a0_1) := (blk_cell BK0.out 1).trans rfl; have hcz30_2 : w27.cell? ⟨gb0, 2, none⟩ = some (.slice A0_2 l0_2.length c0_2) := (blk_cell BK0.out 2).trans rfl; have hfz30_0 := blk_frozen BK0.out 0; have hfz30_1 := blk_frozen BK0.out 1; have hfz30_2 := blk_frozen BK0.out 2) | ((with_reducible refine gate_callee (f := 13) rfl ?_); refine goesL_ (some 10) rfl rfl Try.func13 Yj_ rfl #[.agg #[.slice A0_0 l0_0.length c0_0, .int .i64 a0_1, .slice A0_2 l0_2.length c0_2]] rfl Yd_ ?_; (with_reducible refine (impl_IsValidTerminal.calls k _ _ l0_0 a0_1 _ _ l0_2 false _ ?side1 ?side2 ?side3 ?side4 A3.out).mono ?_); (case side1 => repeat (first | exact (Kd.C_below HR0_0.out HB.out) | (with_reducible refine Kd.C_alloc ?_ _) | (with_reducible refine Kd.C_drewN ?_ _) | (with_reducible refine Kd.C_drew ?_))); (case side2 => exact HC0_0.out); (case side3 => repeat (first | exact (Kd.C_below HR0_2.out HB.out) | (with_reducible refine Kd.C_alloc ?_ _) | (with_reducible refine Kd.C_drewN ?_ _) | (with_reducible refine Kd.C_drew ?_))); (case side4 => exact HC0_2.out); rintro e w31 ⟨rfl, hb⟩; refine ⟨_, rfl, ?_⟩; have n0_ := Aside0.mk (blk_below (g := gb0) (o := .cells #[.slice A0_0 l0_0.length c0_0, .int .i64 a0_1, .slice A0_2 l0_2.length c0_2] 34 (0, 0)) Yc_ hb); have n1_ := Aside0.mk (blk_below (g := gb1) (o := .cells #[.int .i64 a1_0, .int .i64 a1_1, .int .i64 a1_2] 43 (0, 0)) Yi_ hb); have n2_ := Aside0.mk (blk_below (g := gb2) (o := .cells #[.slice none 0 0, .int .i64 0, .slice none 0 0] 34 (0, 0)) Ybd_ hb); have n3_ := Aside0.mk (below_step Yg_ hb); clear BK0; clear BK1; clear BK2; clear HB; have BK0 := n0_; have BK1 := n1_; have BK2 := n2_; have HB := n3_; clear n0_ n1_ n2_ n3_; (try clear hb); (try clear hb2); (try clear hk); (try clear hi); have hnb32 := NB2_1.out; have hnc32 := NB1_2.out; have hcz33_0 : w31.cell? ⟨gb2, 0, none⟩ = some (.slice none 0 0) := (blk_cell BK2.out 0).trans rfl; have hcz33_1 : w31.cell? ⟨gb2, 1, none⟩ = some (.int .i64 0) := (blk_cell BK2.out 1).trans rfl; have hcz33_2 : w31.cell? ⟨gb2, 2, none⟩ = some (.slice none 0 0) := (blk_cell BK2.out 2).trans rfl; have hfz33_0 := blk_frozen BK2.out 0; have hfz33_1 := blk_frozen BK2.out 1; have hfz33_2 := blk_frozen BK2.out 2))
  refine bodyPost_ret (Cc rfl _ _ gb2 34 #[.slice none 0 0, .int .i64 0, .slice none 0 0] (0, 0) _ rfl Ybj_ Try.underlying34 rfl Yj_) rfl ?_
  exact ⟨fun _ => True, _, _, by first | rfl | (simp [errW_none, errW_some] <;> rfl) | (simp [*, errW_none, errW_some] <;> rfl), by first | exact Kd.S_nil _ _ _ _ _ | exact Kd.N_nil _ _ _ _ _ | exact Kd.V_nil _ _ _ _ _ | exact Kd.Q_nil _ _ _ _ _ | exact Kd.R_nil _ _ _ _ _, by first | exact Kd.S_nil _ _ _ _ _ | exact Kd.N_nil _ _ _ _ _ | exact Kd.V_nil _ _ _ _ _ | exact Kd.Q_nil _ _ _ _ _ | exact Kd.R_nil _ _ _ _ _, by repeat (first | (with_reducible first | exact HB.out | apply below_alloc | apply pw_below_drewN | apply below_drew1 | refine below_set ?_ GE0.out | refine below_set ?_ GE1.out | refine below_set ?_ GE2.out) | exact HB.out)⟩
set_option maxRecDepth 100000 in
theorem Bq.calls (k : Nat) (A0_0 : Option Addr) (c0_0 : Nat) (l0_0 : List (List Int)) (a0_1 : Int) (A0_2 : Option Addr) (c0_2 : Nat) (l0_2 : List (List Int)) (a1_0 : Int) (a1_1 : Int) (a1_2 : Int) (r1 : List (List Int)) (r2 : Int) (r3 : List (List Int)) (r4 : Bool) (w : World) (hr0_0 : Kd.C (Kd.slice 3 (Kd.int .i64)) w A0_0 l0_0.length l0_0) (hc0_0 : l0_0.length ≤ c0_0) (hr0_2 : Kd.C (Kd.slice 3 (Kd.int .i64)) w A0_2 l0_2.length l0_2) (hc0_2 : l0_2.length ≤ c0_2) (h : Bq.f k l0_0 a0_1 l0_2 a1_0 a1_1 a1_2 = some (r1, r2, r3, r4)) :
  Calls Try.prog 22 #[.agg #[.slice A0_0 l0_0.length c0_0, .int .i64 a0_1, .slice A0_2 l0_2.length c0_2], .agg #[.int .i64 a1_0, .int .i64 a1_1, .int .i64 a1_2]] w fun e w' => ∃ v0_ v2_ : Value, e = .returned (.tuple #[.agg #[v0_, .int .i64 r2, v2_], .bool r4]) ∧ Kd.S (Kd.slice 3 (Kd.int .i64)) 73 w' w.heap.size (fun k_ => some k_ ≠ (v2_ : Value).ownBlock) v0_ r1 ∧ Kd.S (Kd.slice 3 (Kd.int .i64)) 73 w' w.heap.size (fun k_ => some k_ ≠ (v0_ : Value).ownBlock) v2_ r3 ∧ Below w.heap.size w w' := by
 refine (Bq.calls2 k A0_0 c0_0 l0_0 a0_1 A0_2 c0_2 l0_2 a1_0 a1_1 a1_2 r1 r2 r3 r4 w hr0_0 hc0_0 hr0_2 hc0_2 h).mono ?_
 rintro e w' ⟨P_, v0_, v2_, he, h1, h2, hb⟩
 exact ⟨v0_, v2_, he, Kd.S_mono h1 (fun k_ hk e_ => ((Kd.S_R h2).1 k_ e_.symm) hk), Kd.S_mono h2 (fun k_ hk e_ => hk ((Kd.S_R h1).1 k_ e_.symm)), hb⟩
def Be.l0 : Nat → List Int → Int → Int → Option (Int × List Int)
 | 0, _, _, _ => none
 | k + 1, x0, x1, x5 => if x5 < (x0.length : Int) then (if 0 ≤ x5 then (Be.l0 k (x0.set (x5 : Int).toNat x1) (wrap64 (x1 + 1)) (wrap64 (x5 + 1))) else (none)) else (some (x1, x0))
def Be.f (k : Nat) (l0 : List Int) (a1 : Int) : Option (Int × List Int) := Be.l0 k l0 a1 0
theorem Be.mono_l : ∀ k, (∀ y0 y1 y2, LeO (Be.l0 k y0 y1 y2) (Be.l0 (k + 1) y0 y1 y2))
 | 0 => fun _ _ _ r h => by simp [Be.l0] at h
 | k + 1 => by
  have ih0 := Be.mono_l k
  ·intro y0 y1 y2
   unfold Be.l0
   repeat' first
   | (with_reducible exact ih0 _ _ _)
   | (with_reducible exact LeO.refl _)
   | (with_reducible exact LeO.none _)
   | (with_reducible refine LeO.ite ?_ ?_)
   | (with_reducible refine LeO.bind ?_ (fun _ => ?_))
   | exact ih0 _ _ _
   | exact LeO.none _
   | refine LeO.ite ?_ ?_
   | refine LeO.bind ?_ (fun _ => ?_)
theorem Be.mono : ∀ a0 a1 k, LeO (Be.f k a0 a1) (Be.f (k + 1) a0 a1) := by
 intro a0 a1 k
 have ih0 := Be.mono_l k
 unfold Be.f
 repeat' first
   | (with_reducible exact ih0 _ _ _)
   | (with_reducible exact LeO.refl _)
   | (with_reducible exact LeO.none _)
   | (with_reducible refine LeO.ite ?_ ?_)
   | (with_reducible refine LeO.bind ?_ (fun _ => ?_))
   | exact ih0 _ _ _
   | exact LeO.none _
   | refine LeO.ite ?_ ?_
   | refine LeO.bind ?_ (fun _ => ?_)
set_option maxHeartbeats 8000000 in
set_option maxRecDepth 100000 in
theorem Be.calls (k : Nat) (P0_ : Nat → Prop) (u9000_ : Value) (l0 : List Int) (a1 : Int) (r1 : Int) (r2 : List Int) (w0 w : World) (hB : Below w0.heap.size w0 w) (ho0 : Kd.R (Kd.int .i64) 3 w w0.heap.size P0_ u9000_ l0) (h : Be.f k l0 a1 = some (r1, r2)) :
  Calls Try.prog 86 #[u9000_, .int .i64 a1] w fun e w' => e = .returned (.int .i64 r1) ∧ Kd.R (Kd.int .i64) 3 w' w0.heap.size (fun k_ => (P0_ k_ ∨ w.heap.size ≤ k_)) u9000_ r2 ∧ Below w0.heap.size w0 w' ∧ Kept w w' (fun k_ => P0_ k_) := by
 have HO0 := Aside0.mk (show Kd.R (Kd.int .i64) 3 w w0.heap.size (fun k_ => (P0_ k_ ∨ w.heap.size ≤ k_)) u9000_ l0 from Kd.Dw ho0 (fun k_ hk => (.inl hk)))
 have HK := Aside0.mk (Kept.refl w (fun k_ => P0_ k_))
 have HW0 := Aside0.mk hB.size
 have HB := Aside0.mk hB
 clear hB
 have H : (Be.l0 k l0 a1 0) = some (r1, r2) := h
 clear h
 have H' := Aside0.mk H
 clear H
 go_enter Try.func86, Try.ntmps86
 go_wp2
 go_loopg [1, 5] k (fun kq v1 v5 w' => ∃ (x0_1 : List Int) (x1_1 : Int) (x5_1 : Int), v1 = .int .i64 x1_1 ∧ v5 = .int .i64 x5_1 ∧ Aside0 (Be.l0 kq x0_1 x1_1 x5_1 = some (r1, r2)) ∧ Aside0 (kq ≤ k) ∧ Aside0 (Kd.R (Kd.int .i64) 3 w' w0.heap.size (fun k_ => (P0_ k_ ∨ w.heap.size ≤ k_)) u9000_ x0_1) ∧ Aside0 (Kept w w' (fun k_ => P0_ k_)) ∧ Aside0 (Below w0.heap.size w0 w'))
 case atStart => exact ⟨(l0), (a1), (0), Ybc_, Ybc_, H', ⟨Nat.le_refl _⟩, ⟨by (with_reducible repeat (first | apply Kd.R_alloc | apply Kd.R_drewN | apply Kd.R_drew)); exact HO0.out⟩, ⟨by repeat (first | (with_reducible first | exact HK.out | apply Kept.alloc | apply Kept.drewN | apply Kept.drew) | exact HK.out)⟩, ⟨by repeat (first | (with_reducible first | exact HB.out | apply below_alloc | apply pw_below_drewN | apply below_drew1) | exact HB.out)⟩⟩
 case round =>
  clear H'
  try clear p2
  obtain ⟨x0_1, x1_1, x5_1, rfl, rfl, HA, HK1, HO_0, HK, HB⟩ := hrel
  cases gk with
  | zero => exact absurd HA.out (by simp [Be.l0])
  | succ k1 =>
   have H := HA.out
   clear HA
   simp only [Be.l0] at H
   by_cases c3 : x5_1 < (x0_1.length : Int)
   ·rw [if_pos c3] at H
    have c3b0 : decide (x5_1 < (x0_1.length : Int)) = true := decide_eq_true c3
    clear c3
    by_cases c4 : 0 ≤ x5_1
    ·rw [if_pos c4] at H
     have c4b0 : decide (0 ≤ x5_1) = true := decide_eq_true c4
     clear c4
     obtain ⟨y431, hy431⟩ : ∃ y_ : List Int, y_ = (x0_1.set (x5_1 : Int).toNat x1_1) := ⟨_, rfl⟩
     replace H : (Be.l0 k1 y431 (wrap64 (x1_1 + 1)) (wrap64 (x5_1 + 1))) = some (r1, r2) := by first | (rw [hy431]; with_reducible exact H) | (have H2_ := (Option.bind_some _ _).symm.trans H; rw [hy431]; with_reducible exact H2_) | (have H2_ := (Option.bind_some _ _).symm.trans H; with_reducible exact H2_) | with_reducible exact H | (rw [hy431]; exact H) | exact H
     have Ny431 := Aside0.mk hy431
     clear hy431
     have H' := Aside0.mk H
     clear H
     obtain ⟨Ao6, co6, eo6⟩ := Kd.Cm HO_0.out
     subst eo6
     have p5 : 0 ≤ (x5_1 : Int) := of_decide_eq_true Yh_
     have q5 : (x5_1 : Int) < ((x0_1.length : Int) : Int) := of_decide_eq_true Yh_
     obtain ⟨go5, co5, eo5, gb5, gl5, cl5, HG5⟩ := Kd.R_form HO_0.out (by omega)
     (first | cases eo5 | (injection eo5 with ea_ en_ ec_; (first | subst ea_ | (injection ea_ with ea_; subst ea_)); subst ec_; clear en_))
     have GB5 := Aside0.mk gb5
     have GG5 := Aside0.mk HG5
     clear gb5 gl5 HG5
     have HMgo5 := Aside0.mk (show (P0_ go5 ∨ w.heap.size ≤ go5) from (HO_0.out.1 _ rfl))
     obtain ⟨hx5_0, hf5_0⟩ := Kd.R_celln 0 HO_0.out (x5_1 : Int) p5 q5
     replace p5 := eq_true p5
     replace q5 := eq_true q5
     have HP7 := Kd.R_putg HO_0.out (x5_1 : Int) x1_1
     go_wp2_with (first | ((with_reducible refine gate_store (t := 3) (p := 15) rfl ?_); refine Ff (t := 3) (p := 15) (v := ?vo_w8) (w1 := (wr.setCell ⟨go5, (x5_1 : Int).toNat, none⟩ (.int .i64 x1_1))) ?hg ?ho ?hn ?hr ?_; (case ho => rfl); (case hg => rfl); (case hn => rfl); (case hr => first | (go_simp; done) | (go_simp; rfl)); intro w8 hw; have hg : wr.grownBy w8 (some go5) := (by rw [hw]; exact HP7.2); have hp_ : Kd.R (Kd.int .i64) 3 w8 w0.heap.size (fun k_ => (P0_ k_ ∨ w.heap.size ≤ k_)) (.slice (some ⟨go5, 0, none⟩) x0_1.length co6) y431 := (by rw [hw, Ny431.out]; exact HP7.1); clear HP7; have n0_ := Aside0.mk (hp_); have n1_ := Aside0.mk ((by rw [hw]; exact below_set (HB.out) GB5.out : Below w0.heap.size w0 w8)); have n2_ := Aside0.mk (Kept.of_grown (S := (fun k_ => P0_ k_)) hg (by repeat (first | (with_reducible first | exact HK.out | apply Kept.alloc | apply Kept.drewN | apply Kept.drew) | exact HK.out)) (fun k_ e_ => (HO_0.out.1 k_ e_))); clear HO_0; clear HB; clear HK; have HO_0 := n0_; have HB := n1_; have HK := n2_; clear n0_ n1_ n2_; clear hg hw hp_))
     go_roundg k1
     case measure => have := HK1.out; omega
     case rel => exact ⟨(y431), (wrap64 (x1_1 + 1)), (wrap64 (x5_1 + 1)), Ybc_, Ybc_, H', ⟨by have := HK1.out; omega⟩, ⟨by (with_reducible repeat (first | apply Kd.R_alloc | apply Kd.R_drewN | apply Kd.R_drew)); exact HO_0.out⟩, ⟨by repeat (first | (with_reducible first | exact HK.out | apply Kept.alloc | apply Kept.drewN | apply Kept.drew) | exact HK.out)⟩, ⟨by repeat (first | (with_reducible first | exact HB.out | apply below_alloc | apply pw_below_drewN | apply below_drew1) | exact HB.out)⟩⟩
    ·rw [if_neg c4] at H
     exact absurd H (by simp)
   ·rw [if_neg c3] at H
    have c3b0 : decide (x5_1 < (x0_1.length : Int)) = false := decide_eq_false c3
    clear c3
    simp only [Option.some.injEq, Prod.mk.injEq] at H
    obtain ⟨rfl, rfl⟩ := H
    obtain ⟨Ao9, co9, eo9⟩ := Kd.Cm HO_0.out
    subst eo9
    go_wp2
    go_ret
    exact ⟨by first | rfl | (simp [errW_none, errW_some] <;> rfl) | (simp [*, errW_none, errW_some] <;> rfl), by (with_reducible repeat (first | apply Kd.R_alloc | apply Kd.R_drewN | apply Kd.R_drew)); exact HO_0.out, by repeat (first | (with_reducible first | exact HB.out | apply below_alloc | apply pw_below_drewN | apply below_drew1) | exact HB.out), by repeat (first | (with_reducible first | exact HK.out | apply Kept.alloc | apply Kept.drewN | apply Kept.drew) | exact HK.out)⟩
def Aw.l0 : Nat → List (List Int) → Int → Int → Option (Int × List (List Int))
 | 0, _, _, _ => none
 | k + 1, x0, x1, x5 => if x5 < (x0.length : Int) then (if 0 ≤ x5 then ((Be.f k (rd_L1 x0 x5) x1).bind fun t => Aw.l0 k (x0.set (x5 : Int).toNat t.2) t.1 (wrap64 (x5 + 1))) else none) else some (x1, x0)
def Aw.f (k : Nat) (l0 : List (List Int)) (a1 : Int) : Option (Int × List (List Int)) := Aw.l0 k l0 a1 0
theorem Aw.mono_l : ∀ k y0 y1 y2, LeO (Aw.l0 k y0 y1 y2) (Aw.l0 (k + 1) y0 y1 y2)
 | 0 => fun _ _ _ r h => by simp [Aw.l0] at h
 | k + 1 => by
  intro y0 y1 y2
  have ih := Aw.mono_l k
  unfold Aw.l0
  refine LeO.ite (LeO.ite ?_ (LeO.refl _)) (LeO.refl _)
  exact LeO.bind (Be.mono _ _ _) (fun _ => ih _ _ _)
theorem Aw.mono (a0 : List (List Int)) (a1 : Int) (k : Nat) : LeO (Aw.f k a0 a1) (Aw.f (k + 1) a0 a1) := Aw.mono_l k _ _ _
set_option maxHeartbeats 8000000 in
set_option maxRecDepth 100000 in
theorem Aw.calls (k : Nat) (P0_ : Nat → Prop) (u9000_ : Value) (l0 : List (List Int)) (a1 : Int) (r1 : Int) (r2 : List (List Int)) (w0 w : World) (hB : Below w0.heap.size w0 w) (ho0 : Kd.S (Kd.slice 3 (Kd.int .i64)) 73 w w0.heap.size P0_ u9000_ l0) (h : Aw.f k l0 a1 = some (r1, r2)) :
  Calls Try.prog 73 #[u9000_, .int .i64 a1] w fun e w' => e = .returned (.int .i64 r1) ∧ Kd.S (Kd.slice 3 (Kd.int .i64)) 73 w' w0.heap.size P0_ u9000_ r2 ∧ Below w0.heap.size w0 w' ∧ Kept w w' (fun k_ => P0_ k_) := by
 have HO := Aside0.mk ho0
 have HK := Aside0.mk (Kept.refl w (fun k_ => P0_ k_))
 have HB := Aside0.mk hB
 clear hB ho0
 have H' := Aside0.mk (show Aw.l0 k l0 a1 0 = some (r1, r2) from h)
 clear h
 go_enter Try.func73, Try.ntmps73
 go_wp2
 go_loopg [1, 5] k (fun kq v1 v5 w' => ∃ (xs : List (List Int)) (x1 : Int) (x5 : Int), v1 = .int .i64 x1 ∧ v5 = .int .i64 x5 ∧ Aside0 (Aw.l0 kq xs x1 x5 = some (r1, r2)) ∧ Aside0 (kq ≤ k) ∧ Aside0 (Kd.S (Kd.slice 3 (Kd.int .i64)) 73 w' w0.heap.size P0_ u9000_ xs) ∧ Aside0 (Kept w w' (fun k_ => P0_ k_)) ∧ Aside0 (Below w0.heap.size w0 w'))
 case atStart => exact ⟨l0, a1, 0, rfl, rfl, H', ⟨Nat.le_refl _⟩, HO, HK, HB⟩
 case round =>
  clear H' HO HK HB
  obtain ⟨xs, x1, x5, rfl, rfl, HA, HK1, HO, HK, HB⟩ := hrel
  cases gk with
  | zero => exact absurd HA.out (by simp [Aw.l0])
  | succ k1 =>
   have H := HA.out
   clear HA
   simp only [Aw.l0] at H
   by_cases c3 : x5 < (xs.length : Int)
   ·rw [if_pos c3] at H
    by_cases c4 : 0 ≤ x5
    ·rw [if_pos c4] at H
     replace H := Option.bind_eq_some_iff.mp H
     obtain ⟨⟨t1, t2⟩, A0, H⟩ := H
     have A5 := Aside0.mk A0
     clear A0
     have H' := Aside0.mk (show Aw.l0 k1 (xs.set (x5 : Int).toNat t2) t1 (wrap64 (x5 + 1)) = some (r1, r2) from H)
     clear H
     obtain ⟨go5, co5, eo5, gb5, gl5, cl5⟩ := Kd.S_form HO.out (by omega)
     subst eo5
     have c3b0 : decide (x5 < (xs.length : Int)) = true := decide_eq_true c3
     have c4b0 : decide (0 ≤ x5) = true := decide_eq_true c4
     obtain ⟨oki, v, hx, hR, hoki, hback⟩ := Go.Proofs.YtnggfglmjdiaaaaOwn.lend HO.out x5 c4 c3
     have HR := Aside0.mk (show Kd.R (Kd.int .i64) 3 wr w0.heap.size oki v (rd_L1 xs x5) from hR)
     have HQ := Aside0.mk hoki
     have HBK := Aside0.mk hback
     clear hR hoki hback gb5 gl5 cl5
     replace c3 := eq_true c3
     replace c4 := eq_true c4
     go_wp2_with (first | ((with_reducible refine gate_callee (f := 86) rfl ?_); (try (refine gate_guard (by rfl) ?_; dsimp only)); refine goesL_ (some 17) rfl rfl Try.func86 Yj_ rfl #[v, .int .i64 x1] rfl Yd_ ?_; (with_reducible refine (Be.calls k1 oki v (rd_L1 xs x5) x1 t1 t2 w0 _ HB.out HR.out A5.out).mono ?_); rintro e w5 ⟨rfl, ho, hb, hk⟩; refine ⟨_, rfl, ?_⟩; have n0_ := Aside0.mk (HBK.out _ _ _ hk ho); have n1_ := Aside0.mk hb; have n2_ := Aside0.mk (Kept.then_ (S := fun k_ => P0_ k_) HK.out hk (fun k_ hk_ => .inl (HQ.out k_ hk_).1)); clear HO HB HK; have HO := n0_; have HB := n1_; have HK := n2_; clear n0_ n1_ n2_ ho hb hk))
     go_roundg k1
     case measure => have := HK1.out; omega
     case rel => exact ⟨xs.set (x5 : Int).toNat t2, t1, wrap64 (x5 + 1), by first | rfl | (simp; done) | (simp [*]; done), by first | rfl | (simp; done) | (simp [*]; done), H', ⟨by have := HK1.out; omega⟩, HO, HK, HB⟩
    ·rw [if_neg c4] at H
     cases H
   ·rw [if_neg c3] at H
    have c3b0 : decide (x5 < (xs.length : Int)) = false := decide_eq_false c3
    clear c3
    simp only [Option.some.injEq, Prod.mk.injEq] at H
    obtain ⟨rfl, rfl⟩ := H
    obtain ⟨Ao9, co9, eo9⟩ := Kd.S_slice HO.out
    subst eo9
    go_wp2
    go_ret
    exact ⟨rfl, HO.out, HB.out, HK.out⟩
def Eb.f (k : Nat) (l0_0 : List (List Int)) (a1 : Int) : Option (Int × List (List Int)) := Aw.f k l0_0 a1
theorem Eb.mono (l0_0 : List (List Int)) (a1 : Int) (k : Nat) : LeO (Eb.f k l0_0 a1) (Eb.f (k + 1) l0_0 a1) := Aw.mono _ _ _
set_option maxHeartbeats 8000000 in
set_option maxRecDepth 100000 in
theorem Eb.calls (k : Nat) (P0_0_ : Nat → Prop) (u9000_ : Value) (l0_0 : List (List Int)) (a1 r1 : Int) (r2 : List (List Int)) (w0 w : World) (hB : Below w0.heap.size w0 w) (ho0_0 : Kd.S (Kd.slice 3 (Kd.int .i64)) 73 w w0.heap.size P0_0_ u9000_ l0_0) (h : Eb.f k l0_0 a1 = some (r1, r2)) :
  Calls Try.prog 52 #[.agg #[u9000_], .int .i64 a1] w fun e w' => e = .returned (.int .i64 r1) ∧ Kd.S (Kd.slice 3 (Kd.int .i64)) 73 w' w0.heap.size P0_0_ u9000_ r2 ∧ Below w0.heap.size w0 w' ∧ Kept w w' (fun k_ => P0_0_ k_) := by
 have hu := Try.underlying31
 have HS := Aside0.mk ho0_0
 have HB := Aside0.mk hB
 have HA := Aside0.mk (show Aw.f k l0_0 a1 = some (r1, r2) from h)
 clear ho0_0 hB h
 obtain ⟨Ao, co, eo⟩ := Kd.S_slice HS.out
 subst eo
 go_enter Try.func52, Try.ntmps52
 go_wp2_with (first | ((with_reducible refine gate_dst (N := 2) rfl ?_); refine box_event ?hg (N := 2) ?hd (cs := #[.slice Ao l0_0.length co]) (t := 31) ?hr ?_; (case hd => rfl); (case hg => rfl); (case hr => first | (go_simp; done) | (go_simp; rfl)); intro gb hg w1 hbox hb; have HSZ := Aside0.mk (show w.heap.size ≤ w1.heap.size from hb.size); have HB1 := Aside0.mk (below_then HB.out HB.out.size hb); have HK1 := Aside0.mk (Kept.of_below hb (fun k_ => P0_0_ k_)); have HS1 := Aside0.mk (Kd.Aa HS.out hb); have BK := Aside0.mk hbox; have hcz : w1.cell? ⟨gb, 0, none⟩ = some (.slice Ao l0_0.length co) := (blk_cell BK.out 0).trans rfl; clear HB HS hb hbox hg) | ((with_reducible refine gate_callee (f := 73) rfl ?_); (try (refine gate_guard (by rfl) ?_; dsimp only)); refine goesL_ (some 8) rfl rfl Try.func73 Yj_ rfl #[.slice Ao l0_0.length co, .int .i64 a1] rfl Yd_ ?_; (with_reducible refine (Aw.calls k P0_0_ (.slice Ao l0_0.length co) l0_0 a1 r1 r2 w0 _ HB1.out HS1.out HA.out).mono ?_); rintro e w5 ⟨rfl, ho, hb, hk⟩; refine ⟨_, rfl, ?_⟩; have HO := Aside0.mk ho; have HB2 := Aside0.mk hb; have HK2 := Aside0.mk (Kept.then_ (S := fun k_ => P0_0_ k_) HK1.out hk (fun k_ hk_ => .inl hk_)); clear ho hb hk))
 go_ret
 exact ⟨rfl, HO.out, HB2.out, HK2.out⟩
def Ee.f (k : Nat) (a0_0 : Int) (l0_1 : List (List Int)) (a1 : Int) : Option (Int × List (List Int)) := Aw.f k l0_1 a1
theorem Ee.mono (a0_0 : Int) (l0_1 : List (List Int)) (a1 : Int) (k : Nat) : LeO (Ee.f k a0_0 l0_1 a1) (Ee.f (k + 1) a0_0 l0_1 a1) := Aw.mono _ _ _
set_option maxHeartbeats 8000000 in
set_option maxRecDepth 100000 in
theorem Ee.calls (k : Nat) (a0_0 : Int) (P0_1_ : Nat → Prop) (u9000_ : Value) (l0_1 : List (List Int)) (a1 r1 : Int) (r2 : List (List Int)) (w0 w : World) (hB : Below w0.heap.size w0 w) (ho0_1 : Kd.S (Kd.slice 3 (Kd.int .i64)) 73 w w0.heap.size P0_1_ u9000_ l0_1) (h : Ee.f k a0_0 l0_1 a1 = some (r1, r2)) :
  Calls Try.prog 53 #[.agg #[.int .i64 a0_0, u9000_], .int .i64 a1] w fun e w' => e = .returned (.int .i64 r1) ∧ Kd.S (Kd.slice 3 (Kd.int .i64)) 73 w' w0.heap.size P0_1_ u9000_ r2 ∧ Below w0.heap.size w0 w' ∧ Kept w w' (fun k_ => P0_1_ k_) := by
 have hu := Try.underlying32
 have HS := Aside0.mk ho0_1
 have HB := Aside0.mk hB
 have HA := Aside0.mk (show Aw.f k l0_1 a1 = some (r1, r2) from h)
 clear ho0_1 hB h
 obtain ⟨Ao, co, eo⟩ := Kd.S_slice HS.out
 subst eo
 go_enter Try.func53, Try.ntmps53
 go_wp2_with (first | ((with_reducible refine gate_dst (N := 2) rfl ?_); refine box_event ?hg (N := 2) ?hd (cs := #[.int .i64 a0_0, .slice Ao l0_1.length co]) (t := 32) ?hr ?_; (case hd => rfl); (case hg => rfl); (case hr => first | (go_simp; done) | (go_simp; rfl)); intro gb hg w1 hbox hb; have HSZ := Aside0.mk (show w.heap.size ≤ w1.heap.size from hb.size); have HB1 := Aside0.mk (below_then HB.out HB.out.size hb); have HK1 := Aside0.mk (Kept.of_below hb (fun k_ => P0_1_ k_)); have HS1 := Aside0.mk (Kd.Aa HS.out hb); have BK := Aside0.mk hbox; have hcz : w1.cell? ⟨gb, 1, none⟩ = some (.slice Ao l0_1.length co) := (blk_cell BK.out 1).trans rfl; clear HB HS hb hbox hg) | ((with_reducible refine gate_callee (f := 73) rfl ?_); (try (refine gate_guard (by rfl) ?_; dsimp only)); refine goesL_ (some 8) rfl rfl Try.func73 Yj_ rfl #[.slice Ao l0_1.length co, .int .i64 a1] rfl Yd_ ?_; (with_reducible refine (Aw.calls k P0_1_ (.slice Ao l0_1.length co) l0_1 a1 r1 r2 w0 _ HB1.out HS1.out HA.out).mono ?_); rintro e w5 ⟨rfl, ho, hb, hk⟩; refine ⟨_, rfl, ?_⟩; have HO := Aside0.mk ho; have HB2 := Aside0.mk hb; have HK2 := Aside0.mk (Kept.then_ (S := fun k_ => P0_1_ k_) HK1.out hk (fun k_ hk_ => .inl hk_)); clear ho hb hk))
 go_ret
 exact ⟨rfl, HO.out, HB2.out, HK2.out⟩
def Cj.f (k : Nat) (l0_0 : List (List Int)) (a0_1 : Int) (l0_2 : List (List Int)) (a1 : Int) : Option (Int × List (List Int) × List (List Int)) := (Eb.f k l0_0 a1).bind fun t => (Ee.f k a0_1 l0_2 t.1).bind fun u => some (u.1, t.2, u.2)
theorem Cj.mono (l0_0 : List (List Int)) (a0_1 : Int) (l0_2 : List (List Int)) (a1 : Int) (k : Nat) : LeO (Cj.f k l0_0 a0_1 l0_2 a1) (Cj.f (k + 1) l0_0 a0_1 l0_2 a1) := LeO.bind (Eb.mono _ _ _) (fun _ => LeO.bind (Ee.mono _ _ _ _) (fun _ => LeO.refl _))
set_option maxHeartbeats 8000000 in
set_option maxRecDepth 100000 in
theorem Cj.calls (k : Nat) (P0_0_ : Nat → Prop) (u9000_ : Value) (l0_0 : List (List Int)) (a0_1 : Int) (P0_2_ : Nat → Prop) (u9001_ : Value) (l0_2 : List (List Int)) (a1 r1 : Int) (r2 r3 : List (List Int)) (w0 w : World) (hB : Below w0.heap.size w0 w) (ho0_0 : Kd.S (Kd.slice 3 (Kd.int .i64)) 73 w w0.heap.size P0_0_ u9000_ l0_0) (hp0_0_0_2 : ∀ k_, P0_0_ k_ → ¬ P0_2_ k_) (ho0_2 : Kd.S (Kd.slice 3 (Kd.int .i64)) 73 w w0.heap.size P0_2_ u9001_ l0_2) (hp0_2_0_0 : ∀ k_, P0_2_ k_ → ¬ P0_0_ k_) (h : Cj.f k l0_0 a0_1 l0_2 a1 = some (r1, r2, r3)) :
  Calls Try.prog 23 #[.agg #[u9000_, .int .i64 a0_1, u9001_], .int .i64 a1] w fun e w' => e = .returned (.int .i64 r1) ∧ Kd.S (Kd.slice 3 (Kd.int .i64)) 73 w' w0.heap.size P0_0_ u9000_ r2 ∧ Kd.S (Kd.slice 3 (Kd.int .i64)) 73 w' w0.heap.size P0_2_ u9001_ r3 ∧ Below w0.heap.size w0 w' ∧ Kept w w' (fun k_ => P0_0_ k_ ∨ P0_2_ k_) := by
 have hu := Try.underlying34
 have hu2 := Try.underlying31
 have hu3 := Try.underlying32
 have HS := Aside0.mk ho0_0
 have HT := Aside0.mk ho0_2
 have HP := Aside0.mk hp0_0_0_2
 have HB := Aside0.mk hB
 unfold Cj.f at h
 replace h := Option.bind_eq_some_iff.mp h
 obtain ⟨⟨t1, t2⟩, A0_, h⟩ := h
 have A1 := Aside0.mk A0_
 clear A0_
 dsimp only at h
 replace h := Option.bind_eq_some_iff.mp h
 obtain ⟨⟨u1, u2⟩, A0_, h⟩ := h
 have A2 := Aside0.mk A0_
 clear A0_
 dsimp only at h
 simp only [Option.some.injEq, Prod.mk.injEq] at h
 obtain ⟨rfl, rfl, rfl⟩ := h
 clear ho0_0 ho0_2 hB hp0_0_0_2
 obtain ⟨Ao, co, eo⟩ := Kd.S_slice HS.out
 subst eo
 obtain ⟨Ap, cp, ep⟩ := Kd.S_slice HT.out
 subst ep
 go_enter Try.func23, Try.ntmps23
 go_wp2_with (first | ((with_reducible refine gate_dst (N := 2) rfl ?_); refine box_event ?hg (N := 2) ?hd (cs := #[.slice Ao l0_0.length co, .int .i64 a0_1, .slice Ap l0_2.length cp]) (t := 34) ?hr ?_; (case hd => rfl); (case hg => rfl); (case hr => first | (go_simp; done) | (go_simp; rfl)); intro gb hg w1 hbox hb; have HSZ := Aside0.mk (show w.heap.size ≤ w1.heap.size from hb.size); have HGB := Aside0.mk (show w.heap.size ≤ gb from Nat.le_of_eq hg.symm); have HB1 := Aside0.mk (below_then HB.out HB.out.size hb); have HK1 := Aside0.mk (Kept.of_below hb (fun k_ => P0_0_ k_ ∨ P0_2_ k_)); have HS1 := Aside0.mk (Kd.S_mono (Kd.Bl (Kd.Aa HS.out hb)) (fun k_ hk_ => (⟨hk_.1, hk_.2.2.1⟩ : P0_0_ k_ ∧ k_ < w1.heap.size))); have HT1 := Aside0.mk (Kd.Aa HT.out hb); have HL1 := Aside0.mk (Kd.Bl HS.out); have BK := Aside0.mk hbox; have hcz0 : w1.cell? ⟨gb, 0, none⟩ = some (.slice Ao l0_0.length co) := (blk_cell BK.out 0).trans rfl; have hcz1 : w1.cell? ⟨gb, 1, none⟩ = some (.int .i64 a0_1) := (blk_cell BK.out 1).trans rfl; have hcz2 : w1.cell? ⟨gb, 2, none⟩ = some (.slice Ap l0_2.length cp) := (blk_cell BK.out 2).trans rfl; have HBW := Aside0.mk hb; clear HB hb hbox hg) | ((with_reducible refine gate_callee (f := 52) rfl ?_); (try (refine gate_guard (by rfl) ?_; dsimp only)); refine goesL_ (some 8) rfl rfl Try.func52 Yj_ rfl #[.agg #[.slice Ao l0_0.length co], .int .i64 a1] rfl Yd_ ?_; (with_reducible refine (Eb.calls k (fun k_ => P0_0_ k_ ∧ k_ < w.heap.size) (.slice Ao l0_0.length co) l0_0 a1 t1 t2 w0 _ HB1.out (Kd.Aa (w := w) (Kd.S_mono (Kd.Bl HS.out) (fun k_ hk_ => ⟨hk_.1, hk_.2.2.1⟩)) HBW.out) A1.out).mono ?_); rintro e w5 ⟨rfl, ho, hb, hk⟩; refine ⟨_, rfl, ?_⟩; have HO := Aside0.mk (Kd.S_mono ho (fun k_ hk_ => (hk_.1 : P0_0_ k_))); have HB2 := Aside0.mk hb; have HK2 := Aside0.mk (Kept.then_ (S := fun k_ => P0_0_ k_ ∨ P0_2_ k_) HK1.out hk (fun k_ hk_ => .inl (.inl hk_.1))); have HT2 := Aside0.mk (Kd.Ei HT1.out hk (fun k_ hk_ hs_ => HP.out k_ hs_.1 hk_)); have BK2 := Aside0.mk (Es BK.out hk (fun hs_ => by have := HGB.out; have h3_ : gb < w.heap.size := hs_.2; omega)); have hcy0 : w5.cell? ⟨gb, 0, none⟩ = some (.slice Ao l0_0.length co) := (blk_cell BK2.out 0).trans rfl; have hcy1 : w5.cell? ⟨gb, 1, none⟩ = some (.int .i64 a0_1) := (blk_cell BK2.out 1).trans rfl; have hcy2 : w5.cell? ⟨gb, 2, none⟩ = some (.slice Ap l0_2.length cp) := (blk_cell BK2.out 2).trans rfl; clear ho hb hk hcz0 hcz1 hcz2) | ((with_reducible refine gate_callee (f := 53) rfl ?_); (try (refine gate_guard (by rfl) ?_; dsimp only)); refine goesL_ (some 12) rfl rfl Try.func53 Yj_ rfl #[.agg #[.int .i64 a0_1, .slice Ap l0_2.length cp], .int .i64 t1] rfl Yd_ ?_; (with_reducible refine (Ee.calls k a0_1 P0_2_ (.slice Ap l0_2.length cp) l0_2 t1 u1 u2 w0 _ HB2.out HT2.out A2.out).mono ?_); rintro e w7 ⟨rfl, ho, hb, hk⟩; refine ⟨_, rfl, ?_⟩; have HO3 := Aside0.mk (Kd.Ei HO.out hk (fun k_ hk_ hs_ => HP.out k_ hk_ hs_)); have HT3 := Aside0.mk ho; have HB3 := Aside0.mk hb; have HK3 := Aside0.mk (Kept.then_ (S := fun k_ => P0_0_ k_ ∨ P0_2_ k_) HK2.out hk (fun k_ hk_ => .inl (.inr hk_))); clear ho hb hk))
 go_ret
 exact ⟨rfl, HO3.out, HT3.out, HB3.out, HK3.out⟩
def Bd.l0 : Nat → List Int → Int → Int → Option (Int)
 | 0, _, _, _ => none
 | k + 1, x0, x1, x5 => if x5 < (x0.length : Int) then (if 0 ≤ x5 then (if (rd x0 x5) = x1 then (Bd.l0 k x0 (wrap64 (x1 + 1)) (wrap64 (x5 + 1))) else (some (-1))) else (none)) else (some x1)
def Bd.f (k : Nat) (l0 : List Int) (a1 : Int) : Option (Int) := Bd.l0 k l0 a1 0
theorem Bd.mono_l : ∀ k, (∀ y0 y1 y2, LeO (Bd.l0 k y0 y1 y2) (Bd.l0 (k + 1) y0 y1 y2))
 | 0 => fun _ _ _ r h => by simp [Bd.l0] at h
 | k + 1 => by
  have ih0 := Bd.mono_l k
  ·intro y0 y1 y2
   unfold Bd.l0
   repeat' first
   | (with_reducible exact ih0 _ _ _)
   | (with_reducible exact LeO.refl _)
   | (with_reducible exact LeO.none _)
   | (with_reducible refine LeO.ite ?_ ?_)
   | (with_reducible refine LeO.bind ?_ (fun _ => ?_))
   | exact ih0 _ _ _
   | exact LeO.none _
   | refine LeO.ite ?_ ?_
   | refine LeO.bind ?_ (fun _ => ?_)
theorem Bd.mono : ∀ a0 a1 k, LeO (Bd.f k a0 a1) (Bd.f (k + 1) a0 a1) := by
 intro a0 a1 k
 have ih0 := Bd.mono_l k
 unfold Bd.f
 repeat' first
   | (with_reducible exact ih0 _ _ _)
   | (with_reducible exact LeO.refl _)
   | (with_reducible exact LeO.none _)
   | (with_reducible refine LeO.ite ?_ ?_)
   | (with_reducible refine LeO.bind ?_ (fun _ => ?_))
   | exact ih0 _ _ _
   | exact LeO.none _
   | refine LeO.ite ?_ ?_
   | refine LeO.bind ?_ (fun _ => ?_)
set_option maxHeartbeats 8000000 in
set_option maxRecDepth 100000 in
theorem Bd.calls (k : Nat) (A0 : Option Addr) (c0 : Nat) (l0 : List Int) (a1 : Int) (r : Int) (w : World) (hr0 : Kd.C (Kd.int .i64) w A0 l0.length l0) (hc0 : l0.length ≤ c0) (h : Bd.f k l0 a1 = some r) :
  Calls Try.prog 87 #[.slice A0 l0.length c0, .int .i64 a1] w fun e w' => e = .returned (.int .i64 r) ∧ Drawn0 w w' := by
 have HR0 := Aside0.mk hr0
 have HC0 := Aside0.mk hc0
 clear hr0 hc0
 have H : (Bd.l0 k l0 a1 0) = some r := h
 clear h
 have H' := Aside0.mk H
 clear H
 go_enter Try.func87, Try.ntmps87
 go_wp2
 go_loopg [1, 5] k (fun kq v1 v5 w' => ∃ (x1_1 : Int) (x5_1 : Int), v1 = .int .i64 x1_1 ∧ v5 = .int .i64 x5_1 ∧ Aside0 (Bd.l0 kq l0 x1_1 x5_1 = some r) ∧ Aside0 (kq ≤ k) ∧ Drawn0 w w')
 case atStart => exact ⟨(a1), (0), Ybc_, Ybc_, H', ⟨Nat.le_refl _⟩, by repeat (first | exact Drawn0.refl _ | apply Drawn0.step)⟩
 case round =>
  clear H'
  try clear p2
  obtain ⟨x1_1, x5_1, rfl, rfl, HA, HK1, ⟨m1, rfl⟩⟩ := hrel
  cases gk with
  | zero => exact absurd HA.out (by simp [Bd.l0])
  | succ k1 =>
   have H := HA.out
   clear HA
   simp only [Bd.l0] at H
   by_cases c3 : x5_1 < (l0.length : Int)
   ·rw [if_pos c3] at H
    have c3b0 : decide (x5_1 < (l0.length : Int)) = true := decide_eq_true c3
    clear c3
    by_cases c4 : 0 ≤ x5_1
    ·rw [if_pos c4] at H
     have c4b0 : decide (0 ≤ x5_1) = true := decide_eq_true c4
     clear c4
     by_cases c5 : (rd l0 x5_1) = x1_1
     ·rw [if_pos c5] at H
      have c5b0 : ((rd l0 x5_1) == x1_1) = true := beq_iff_eq.mpr c5
      have c5b1 : ((rd l0 x5_1) != x1_1) = false := bne_eq_false_iff_eq.mpr c5
      clear c5
      have H' := Aside0.mk H
      clear H
      have p432 : 0 ≤ (x5_1 : Int) := of_decide_eq_true Yh_
      have q432 : x5_1 < (l0.length : Int) := of_decide_eq_true Yh_
      obtain ⟨ad432, e432, hx432_0⟩ := Kd.Dn HR0.out x5_1 p432 q432
      cases e432
      replace p432 := eq_true p432
      replace q432 := eq_true q432
      go_wp2
      go_roundg k1
      case measure => have := HK1.out; omega
      case rel => exact ⟨(wrap64 (x1_1 + 1)), (wrap64 (x5_1 + 1)), Ybc_, Ybc_, H', ⟨by have := HK1.out; omega⟩, by repeat (first | exact Drawn0.refl _ | apply Drawn0.step)⟩
     ·rw [if_neg c5] at H
      have c5b0 : ((rd l0 x5_1) == x1_1) = false := beq_eq_false_iff_ne.mpr c5
      have c5b1 : ((rd l0 x5_1) != x1_1) = true := bne_iff_ne.mpr c5
      obtain rfl := Option.some.inj H
      have p432 : 0 ≤ (x5_1 : Int) := of_decide_eq_true Yh_
      have q432 : x5_1 < (l0.length : Int) := of_decide_eq_true Yh_
      obtain ⟨ad432, e432, hx432_0⟩ := Kd.Dn HR0.out x5_1 p432 q432
      cases e432
      replace p432 := eq_true p432
      replace q432 := eq_true q432
      go_wp2
      go_ret
      exact ⟨by first | rfl | (simp; done) | (simp [*]; done), by repeat (first | exact Drawn0.refl _ | apply Drawn0.step)⟩
    ·rw [if_neg c4] at H
     exact absurd H (by simp)
   ·rw [if_neg c3] at H
    have c3b0 : decide (x5_1 < (l0.length : Int)) = false := decide_eq_false c3
    clear c3
    obtain rfl := Option.some.inj H
    go_wp2
    go_ret
    exact ⟨by first | rfl | (simp; done) | (simp [*]; done), by repeat (first | exact Drawn0.refl _ | apply Drawn0.step)⟩
def Ai.l0 : Nat → List (List Int) → Int → Int → Option (Int)
 | 0, _, _, _ => none
 | k + 1, x0, x1, x5 => if x5 < (x0.length : Int) then (if 0 ≤ x5 then ((Bd.f k (rd_L1 x0 x5) x1).bind fun t434 => (if t434 < 0 then (some (-1)) else (Ai.l0 k x0 t434 (wrap64 (x5 + 1))))) else (none)) else (some x1)
def Ai.f (k : Nat) (l0 : List (List Int)) (a1 : Int) : Option (Int) := Ai.l0 k l0 a1 0
theorem Ai.mono_l : ∀ k, (∀ y0 y1 y2, LeO (Ai.l0 k y0 y1 y2) (Ai.l0 (k + 1) y0 y1 y2))
 | 0 => fun _ _ _ r h => by simp [Ai.l0] at h
 | k + 1 => by
  have ih0 := Ai.mono_l k
  ·intro y0 y1 y2
   unfold Ai.l0
   repeat' first
   | (with_reducible exact ih0 _ _ _)
   | (with_reducible exact Bd.mono _ _ _)
   | (with_reducible exact LeO.refl _)
   | (with_reducible exact LeO.none _)
   | (with_reducible refine LeO.ite ?_ ?_)
   | (with_reducible refine LeO.bind ?_ (fun _ => ?_))
   | exact ih0 _ _ _
   | exact Bd.mono _ _ _
   | exact LeO.none _
   | refine LeO.ite ?_ ?_
   | refine LeO.bind ?_ (fun _ => ?_)
theorem Ai.mono : ∀ a0 a1 k, LeO (Ai.f k a0 a1) (Ai.f (k + 1) a0 a1) := by
 intro a0 a1 k
 have ih0 := Ai.mono_l k
 unfold Ai.f
 repeat' first
   | (with_reducible exact ih0 _ _ _)
   | (with_reducible exact Bd.mono _ _ _)
   | (with_reducible exact LeO.refl _)
   | (with_reducible exact LeO.none _)
   | (with_reducible refine LeO.ite ?_ ?_)
   | (with_reducible refine LeO.bind ?_ (fun _ => ?_))
   | exact ih0 _ _ _
   | exact Bd.mono _ _ _
   | exact LeO.none _
   | refine LeO.ite ?_ ?_
   | refine LeO.bind ?_ (fun _ => ?_)
set_option maxHeartbeats 8000000 in
set_option maxRecDepth 100000 in
theorem Ai.calls (k : Nat) (A0 : Option Addr) (c0 : Nat) (l0 : List (List Int)) (a1 : Int) (r : Int) (w : World) (hr0 : Kd.C (Kd.slice 3 (Kd.int .i64)) w A0 l0.length l0) (hc0 : l0.length ≤ c0) (h : Ai.f k l0 a1 = some r) :
  Calls Try.prog 74 #[.slice A0 l0.length c0, .int .i64 a1] w fun e w' => e = .returned (.int .i64 r) ∧ Drawn0 w w' := by
 have HR0 := Aside0.mk hr0
 have HC0 := Aside0.mk hc0
 clear hr0 hc0
 have H : (Ai.l0 k l0 a1 0) = some r := h
 clear h
 have H' := Aside0.mk H
 clear H
 go_enter Try.func74, Try.ntmps74
 go_wp2
 go_loopg [1, 5] k (fun kq v1 v5 w' => ∃ (x1_1 : Int) (x5_1 : Int), v1 = .int .i64 x1_1 ∧ v5 = .int .i64 x5_1 ∧ Aside0 (Ai.l0 kq l0 x1_1 x5_1 = some r) ∧ Aside0 (kq ≤ k) ∧ Drawn0 w w')
 case atStart => exact ⟨(a1), (0), Ybc_, Ybc_, H', ⟨Nat.le_refl _⟩, by repeat (first | exact Drawn0.refl _ | apply Drawn0.step)⟩
 case round =>
  clear H'
  try clear p2
  obtain ⟨x1_1, x5_1, rfl, rfl, HA, HK1, ⟨m1, rfl⟩⟩ := hrel
  cases gk with
  | zero => exact absurd HA.out (by simp [Ai.l0])
  | succ k1 =>
   have H := HA.out
   clear HA
   simp only [Ai.l0] at H
   by_cases c3 : x5_1 < (l0.length : Int)
   ·rw [if_pos c3] at H
    have c3b0 : decide (x5_1 < (l0.length : Int)) = true := decide_eq_true c3
    clear c3
    by_cases c4 : 0 ≤ x5_1
    ·rw [if_pos c4] at H
     have c4b0 : decide (0 ≤ x5_1) = true := decide_eq_true c4
     clear c4
     replace H := Option.bind_eq_some_iff.mp H
     obtain ⟨t434, A50, H⟩ := H
     try dsimp only at H
     have A5 := Aside0.mk A50
     clear A50
     by_cases c6 : t434 < 0
     ·rw [if_pos c6] at H
      have c6b0 : decide (t434 < 0) = true := decide_eq_true c6
      clear c6
      obtain rfl := Option.some.inj H
      have p433 : 0 ≤ (x5_1 : Int) := of_decide_eq_true Yh_
      have q433 : x5_1 < (l0.length : Int) := of_decide_eq_true Yh_
      obtain ⟨ad433, A433_0, c433_0, e433, hx433_0, hl433_0, hi433_0⟩ := Bo HR0.out x5_1 p433 q433
      cases e433
      have HR433_0 := Aside0.mk hi433_0
      have HC433_0 := Aside0.mk hl433_0
      clear hi433_0 hl433_0
      replace p433 := eq_true p433
      replace q433 := eq_true q433
      go_wp2_with (first | ((with_reducible refine gate_callee (f := 87) rfl ?_); refine goesL_ (some 17) rfl rfl Try.func87 Yj_ rfl #[.slice A433_0 (rd_L1 l0 x5_1).length c433_0, .int .i64 x1_1] rfl Yd_ ?_; (with_reducible refine (Bd.calls k1 _ _ (rd_L1 l0 x5_1) x1_1 t434 _ ?side1 ?side2 A5.out).mono ?_); (case side1 => repeat (first | exact HR433_0.out | (with_reducible refine Kd.C_alloc ?_ _) | (with_reducible refine Kd.C_drewN ?_ _) | (with_reducible refine Kd.C_drew ?_))); (case side2 => exact HC433_0.out); rintro e w' ⟨rfl, ⟨nd, rfl⟩⟩; refine ⟨_, rfl, ?_⟩))
      go_ret
      exact ⟨by first | rfl | (simp; done) | (simp [*]; done), by repeat (first | exact Drawn0.refl _ | apply Drawn0.step)⟩
     ·rw [if_neg c6] at H
      have c6b0 : decide (t434 < 0) = false := decide_eq_false c6
      clear c6
      have H' := Aside0.mk H
      clear H
      have p433 : 0 ≤ (x5_1 : Int) := of_decide_eq_true Yh_
      have q433 : x5_1 < (l0.length : Int) := of_decide_eq_true Yh_
      obtain ⟨ad433, A433_0, c433_0, e433, hx433_0, hl433_0, hi433_0⟩ := Bo HR0.out x5_1 p433 q433
      cases e433
      have HR433_0 := Aside0.mk hi433_0
      have HC433_0 := Aside0.mk hl433_0
      clear hi433_0 hl433_0
      replace p433 := eq_true p433
      replace q433 := eq_true q433
      go_wp2_with (first | ((with_reducible refine gate_callee (f := 87) rfl ?_); refine goesL_ (some 17) rfl rfl Try.func87 Yj_ rfl #[.slice A433_0 (rd_L1 l0 x5_1).length c433_0, .int .i64 x1_1] rfl Yd_ ?_; (with_reducible refine (Bd.calls k1 _ _ (rd_L1 l0 x5_1) x1_1 t434 _ ?side1 ?side2 A5.out).mono ?_); (case side1 => repeat (first | exact HR433_0.out | (with_reducible refine Kd.C_alloc ?_ _) | (with_reducible refine Kd.C_drewN ?_ _) | (with_reducible refine Kd.C_drew ?_))); (case side2 => exact HC433_0.out); rintro e w' ⟨rfl, ⟨nd, rfl⟩⟩; refine ⟨_, rfl, ?_⟩))
      go_roundg k1
      case measure => have := HK1.out; omega
      case rel => exact ⟨(t434), (wrap64 (x5_1 + 1)), Ybc_, Ybc_, H', ⟨by have := HK1.out; omega⟩, by repeat (first | exact Drawn0.refl _ | apply Drawn0.step)⟩
    ·rw [if_neg c4] at H
     exact absurd H (by simp)
   ·rw [if_neg c3] at H
    have c3b0 : decide (x5_1 < (l0.length : Int)) = false := decide_eq_false c3
    clear c3
    obtain rfl := Option.some.inj H
    go_wp2
    go_ret
    exact ⟨by first | rfl | (simp; done) | (simp [*]; done), by repeat (first | exact Drawn0.refl _ | apply Drawn0.step)⟩
def Dc.f (k : Nat) (l0_0 : List (List Int)) (a1 : Int) : Option (Int) := (Ai.f k l0_0 a1).bind fun t436 => (if t436 < 0 then (some (-1)) else (some t436))
theorem Dc.mono : ∀ a0 a1 k, LeO (Dc.f k a0 a1) (Dc.f (k + 1) a0 a1) := by
 intro a0 a1 k
 unfold Dc.f
 repeat' first
   | (with_reducible exact Ai.mono _ _ _)
   | (with_reducible exact LeO.refl _)
   | (with_reducible exact LeO.none _)
   | (with_reducible refine LeO.ite ?_ ?_)
   | (with_reducible refine LeO.bind ?_ (fun _ => ?_))
   | exact Ai.mono _ _ _
   | exact LeO.none _
   | refine LeO.ite ?_ ?_
   | refine LeO.bind ?_ (fun _ => ?_)
set_option maxHeartbeats 8000000 in
set_option maxRecDepth 100000 in
theorem Dc.calls (k : Nat) (A0_0 : Option Addr) (c0_0 : Nat) (l0_0 : List (List Int)) (a1 : Int) (r : Int) (w : World) (hr0_0 : Kd.C (Kd.slice 3 (Kd.int .i64)) w A0_0 l0_0.length l0_0) (hc0_0 : l0_0.length ≤ c0_0) (h : Dc.f k l0_0 a1 = some r) :
  Calls Try.prog 54 #[.agg #[.slice A0_0 l0_0.length c0_0], .int .i64 a1] w fun e w' => e = .returned (.int .i64 r) ∧ Below w.heap.size w w' := by
 have hu31 := Try.underlying31
 have HR0_0 := Aside0.mk hr0_0
 have HC0_0 := Aside0.mk hc0_0
 clear hr0_0 hc0_0
 have HB := Aside0.mk (Below.refl w.heap.size w)
 have H : ((Ai.f k l0_0 a1).bind fun t436 => (if t436 < 0 then (some (-1)) else (some t436))) = some r := h
 clear h
 replace H := Option.bind_eq_some_iff.mp H
 obtain ⟨t436, A30, H⟩ := H
 try dsimp only at H
 have A3 := Aside0.mk A30
 clear A30
 by_cases c4 : t436 < 0
 ·rw [if_pos c4] at H
  have c4b0 : decide (t436 < 0) = true := decide_eq_true c4
  clear c4
  obtain rfl := Option.some.inj H
  go_enter Try.func54, Try.ntmps54
  go_wp2_with (first | ((with_reducible refine gate_dst (N := 2) rfl ?_); refine box_event ?hg (N := 2) ?hd (cs := #[.slice A0_0 l0_0.length c0_0]) (t := 31) ?hr ?_; (case hd => rfl); (case hg => rfl); (case hr => first | (go_simp; done) | (go_simp; rfl)); intro gb0 hg w5 hbox hb; have n0_ := Aside0.mk (below_step Yb_ hb); have n1_ := Aside0.mk (hbox); have n2_ := Aside0.mk ((by rw [hg]; exact (below_size Yb_) : w.heap.size ≤ gb0)); have n3_ := Aside0.mk ((by rw [hg]; exact (below_size Yb_) : w.heap.size ≤ gb0)); clear HB; have HB := n0_; have BK0 := n1_; have GW0 := n2_; have GE0 := n3_; clear n0_ n1_ n2_ n3_; clear hb hbox hg; have hcz6_0 : w5.cell? ⟨gb0, 0, none⟩ = some (.slice A0_0 l0_0.length c0_0) := (blk_cell BK0.out 0).trans rfl; have hfz6_0 := blk_frozen BK0.out 0) | ((with_reducible refine gate_callee (f := 74) rfl ?_); refine goesL_ (some 8) rfl rfl Try.func74 Yj_ rfl #[.slice A0_0 l0_0.length c0_0, .int .i64 a1] rfl Yd_ ?_; (with_reducible refine (Ai.calls k _ _ l0_0 a1 t436 _ ?side1 ?side2 A3.out).mono ?_); (case side1 => repeat (first | exact (Kd.C_below HR0_0.out HB.out) | (with_reducible refine Kd.C_alloc ?_ _) | (with_reducible refine Kd.C_drewN ?_ _) | (with_reducible refine Kd.C_drew ?_))); (case side2 => exact HC0_0.out); rintro e w' ⟨rfl, ⟨nd, rfl⟩⟩; refine ⟨_, rfl, ?_⟩))
  go_ret
  exact ⟨by first | rfl | (simp [errW_none, errW_some] <;> rfl) | (simp [*, errW_none, errW_some] <;> rfl), by repeat (first | (with_reducible first | exact HB.out | apply below_alloc | apply pw_below_drewN | apply below_drew1 | refine below_set ?_ GE0.out) | exact HB.out)⟩
 ·rw [if_neg c4] at H
  have c4b0 : decide (t436 < 0) = false := decide_eq_false c4
  clear c4
  obtain rfl := Option.some.inj H
  go_enter Try.func54, Try.ntmps54
  go_wp2_with (first | ((with_reducible refine gate_dst (N := 2) rfl ?_); refine box_event ?hg (N := 2) ?hd (cs := #[.slice A0_0 l0_0.length c0_0]) (t := 31) ?hr ?_; (case hd => rfl); (case hg => rfl); (case hr => first | (go_simp; done) | (go_simp; rfl)); intro gb0 hg w7 hbox hb; have n0_ := Aside0.mk (below_step Yb_ hb); have n1_ := Aside0.mk (hbox); have n2_ := Aside0.mk ((by rw [hg]; exact (below_size Yb_) : w.heap.size ≤ gb0)); have n3_ := Aside0.mk ((by rw [hg]; exact (below_size Yb_) : w.heap.size ≤ gb0)); clear HB; have HB := n0_; have BK0 := n1_; have GW0 := n2_; have GE0 := n3_; clear n0_ n1_ n2_ n3_; clear hb hbox hg; have hcz8_0 : w7.cell? ⟨gb0, 0, none⟩ = some (.slice A0_0 l0_0.length c0_0) := (blk_cell BK0.out 0).trans rfl; have hfz8_0 := blk_frozen BK0.out 0) | ((with_reducible refine gate_callee (f := 74) rfl ?_); refine goesL_ (some 8) rfl rfl Try.func74 Yj_ rfl #[.slice A0_0 l0_0.length c0_0, .int .i64 a1] rfl Yd_ ?_; (with_reducible refine (Ai.calls k _ _ l0_0 a1 t436 _ ?side1 ?side2 A3.out).mono ?_); (case side1 => repeat (first | exact (Kd.C_below HR0_0.out HB.out) | (with_reducible refine Kd.C_alloc ?_ _) | (with_reducible refine Kd.C_drewN ?_ _) | (with_reducible refine Kd.C_drew ?_))); (case side2 => exact HC0_0.out); rintro e w' ⟨rfl, ⟨nd, rfl⟩⟩; refine ⟨_, rfl, ?_⟩))
  go_ret
  exact ⟨by first | rfl | (simp [errW_none, errW_some] <;> rfl) | (simp [*, errW_none, errW_some] <;> rfl), by repeat (first | (with_reducible first | exact HB.out | apply below_alloc | apply pw_below_drewN | apply below_drew1 | refine below_set ?_ GE0.out) | exact HB.out)⟩
def Df.f (k : Nat) (a0_0 : Int) (l0_1 : List (List Int)) (a1 : Int) : Option (Int) := (Ai.f k l0_1 a1).bind fun t438 => (if t438 < 0 then (some (-1)) else (some t438))
theorem Df.mono : ∀ a0 a1 a2 k, LeO (Df.f k a0 a1 a2) (Df.f (k + 1) a0 a1 a2) := by
 intro a0 a1 a2 k
 unfold Df.f
 repeat' first
   | (with_reducible exact Ai.mono _ _ _)
   | (with_reducible exact LeO.refl _)
   | (with_reducible exact LeO.none _)
   | (with_reducible refine LeO.ite ?_ ?_)
   | (with_reducible refine LeO.bind ?_ (fun _ => ?_))
   | exact Ai.mono _ _ _
   | exact LeO.none _
   | refine LeO.ite ?_ ?_
   | refine LeO.bind ?_ (fun _ => ?_)
set_option maxHeartbeats 8000000 in
set_option maxRecDepth 100000 in
theorem Df.calls (k : Nat) (a0_0 : Int) (A0_1 : Option Addr) (c0_1 : Nat) (l0_1 : List (List Int)) (a1 : Int) (r : Int) (w : World) (hr0_1 : Kd.C (Kd.slice 3 (Kd.int .i64)) w A0_1 l0_1.length l0_1) (hc0_1 : l0_1.length ≤ c0_1) (h : Df.f k a0_0 l0_1 a1 = some r) :
  Calls Try.prog 55 #[.agg #[.int .i64 a0_0, .slice A0_1 l0_1.length c0_1], .int .i64 a1] w fun e w' => e = .returned (.int .i64 r) ∧ Below w.heap.size w w' := by
 have hu32 := Try.underlying32
 have HR0_1 := Aside0.mk hr0_1
 have HC0_1 := Aside0.mk hc0_1
 clear hr0_1 hc0_1
 have HB := Aside0.mk (Below.refl w.heap.size w)
 have H : ((Ai.f k l0_1 a1).bind fun t438 => (if t438 < 0 then (some (-1)) else (some t438))) = some r := h
 clear h
 replace H := Option.bind_eq_some_iff.mp H
 obtain ⟨t438, A30, H⟩ := H
 try dsimp only at H
 have A3 := Aside0.mk A30
 clear A30
 by_cases c4 : t438 < 0
 ·rw [if_pos c4] at H
  have c4b0 : decide (t438 < 0) = true := decide_eq_true c4
  clear c4
  obtain rfl := Option.some.inj H
  go_enter Try.func55, Try.ntmps55
  go_wp2_with (first | ((with_reducible refine gate_dst (N := 2) rfl ?_); refine box_event ?hg (N := 2) ?hd (cs := #[.int .i64 a0_0, .slice A0_1 l0_1.length c0_1]) (t := 32) ?hr ?_; (case hd => rfl); (case hg => rfl); (case hr => first | (go_simp; done) | (go_simp; rfl)); intro gb0 hg w5 hbox hb; have n0_ := Aside0.mk (below_step Yb_ hb); have n1_ := Aside0.mk (hbox); have n2_ := Aside0.mk ((by rw [hg]; exact (below_size Yb_) : w.heap.size ≤ gb0)); have n3_ := Aside0.mk ((by rw [hg]; exact (below_size Yb_) : w.heap.size ≤ gb0)); clear HB; have HB := n0_; have BK0 := n1_; have GW0 := n2_; have GE0 := n3_; clear n0_ n1_ n2_ n3_; clear hb hbox hg; have hcz6_0 : w5.cell? ⟨gb0, 0, none⟩ = some (.int .i64 a0_0) := (blk_cell BK0.out 0).trans rfl; have hcz6_1 : w5.cell? ⟨gb0, 1, none⟩ = some (.slice A0_1 l0_1.length c0_1) := (blk_cell BK0.out 1).trans rfl; have hfz6_0 := blk_frozen BK0.out 0; have hfz6_1 := blk_frozen BK0.out 1) | ((with_reducible refine gate_callee (f := 74) rfl ?_); refine goesL_ (some 8) rfl rfl Try.func74 Yj_ rfl #[.slice A0_1 l0_1.length c0_1, .int .i64 a1] rfl Yd_ ?_; (with_reducible refine (Ai.calls k _ _ l0_1 a1 t438 _ ?side1 ?side2 A3.out).mono ?_); (case side1 => repeat (first | exact (Kd.C_below HR0_1.out HB.out) | (with_reducible refine Kd.C_alloc ?_ _) | (with_reducible refine Kd.C_drewN ?_ _) | (with_reducible refine Kd.C_drew ?_))); (case side2 => exact HC0_1.out); rintro e w' ⟨rfl, ⟨nd, rfl⟩⟩; refine ⟨_, rfl, ?_⟩))
  go_ret
  exact ⟨by first | rfl | (simp [errW_none, errW_some] <;> rfl) | (simp [*, errW_none, errW_some] <;> rfl), by repeat (first | (with_reducible first | exact HB.out | apply below_alloc | apply pw_below_drewN | apply below_drew1 | refine below_set ?_ GE0.out) | exact HB.out)⟩
 ·rw [if_neg c4] at H
  have c4b0 : decide (t438 < 0) = false := decide_eq_false c4
  clear c4
  obtain rfl := Option.some.inj H
  go_enter Try.func55, Try.ntmps55
  go_wp2_with (first | ((with_reducible refine gate_dst (N := 2) rfl ?_); refine box_event ?hg (N := 2) ?hd (cs := #[.int .i64 a0_0, .slice A0_1 l0_1.length c0_1]) (t := 32) ?hr ?_; (case hd => rfl); (case hg => rfl); (case hr => first | (go_simp; done) | (go_simp; rfl)); intro gb0 hg w7 hbox hb; have n0_ := Aside0.mk (below_step Yb_ hb); have n1_ := Aside0.mk (hbox); have n2_ := Aside0.mk ((by rw [hg]; exact (below_size Yb_) : w.heap.size ≤ gb0)); have n3_ := Aside0.mk ((by rw [hg]; exact (below_size Yb_) : w.heap.size ≤ gb0)); clear HB; have HB := n0_; have BK0 := n1_; have GW0 := n2_; have GE0 := n3_; clear n0_ n1_ n2_ n3_; clear hb hbox hg; have hcz8_0 : w7.cell? ⟨gb0, 0, none⟩ = some (.int .i64 a0_0) := (blk_cell BK0.out 0).trans rfl; have hcz8_1 : w7.cell? ⟨gb0, 1, none⟩ = some (.slice A0_1 l0_1.length c0_1) := (blk_cell BK0.out 1).trans rfl; have hfz8_0 := blk_frozen BK0.out 0; have hfz8_1 := blk_frozen BK0.out 1) | ((with_reducible refine gate_callee (f := 74) rfl ?_); refine goesL_ (some 8) rfl rfl Try.func74 Yj_ rfl #[.slice A0_1 l0_1.length c0_1, .int .i64 a1] rfl Yd_ ?_; (with_reducible refine (Ai.calls k _ _ l0_1 a1 t438 _ ?side1 ?side2 A3.out).mono ?_); (case side1 => repeat (first | exact (Kd.C_below HR0_1.out HB.out) | (with_reducible refine Kd.C_alloc ?_ _) | (with_reducible refine Kd.C_drewN ?_ _) | (with_reducible refine Kd.C_drew ?_))); (case side2 => exact HC0_1.out); rintro e w' ⟨rfl, ⟨nd, rfl⟩⟩; refine ⟨_, rfl, ?_⟩))
  go_ret
  exact ⟨by first | rfl | (simp [errW_none, errW_some] <;> rfl) | (simp [*, errW_none, errW_some] <;> rfl), by repeat (first | (with_reducible first | exact HB.out | apply below_alloc | apply pw_below_drewN | apply below_drew1 | refine below_set ?_ GE0.out) | exact HB.out)⟩
def Ci.f (k : Nat) (l0_0 : List (List Int)) (a0_1 : Int) (l0_2 : List (List Int)) (a1 : Int) : Option (Int) := (Dc.f k l0_0 a1).bind fun t440 => (if t440 < 0 then (some (-1)) else ((Df.f k a0_1 l0_2 t440).bind fun t441 => (if t441 < 0 then (some (-1)) else (some t441))))
theorem Ci.mono : ∀ a0 a1 a2 a3 k, LeO (Ci.f k a0 a1 a2 a3) (Ci.f (k + 1) a0 a1 a2 a3) := by
 intro a0 a1 a2 a3 k
 unfold Ci.f
 repeat' first
   | (with_reducible exact Df.mono _ _ _ _)
   | (with_reducible exact Dc.mono _ _ _)
   | (with_reducible exact LeO.refl _)
   | (with_reducible exact LeO.none _)
   | (with_reducible refine LeO.ite ?_ ?_)
   | (with_reducible refine LeO.bind ?_ (fun _ => ?_))
   | exact Df.mono _ _ _ _
   | exact Dc.mono _ _ _
   | exact LeO.none _
   | refine LeO.ite ?_ ?_
   | refine LeO.bind ?_ (fun _ => ?_)
set_option maxHeartbeats 8000000 in
set_option maxRecDepth 100000 in
theorem Ci.calls (k : Nat) (A0_0 : Option Addr) (c0_0 : Nat) (l0_0 : List (List Int)) (a0_1 : Int) (A0_2 : Option Addr) (c0_2 : Nat) (l0_2 : List (List Int)) (a1 : Int) (r : Int) (w : World) (hr0_0 : Kd.C (Kd.slice 3 (Kd.int .i64)) w A0_0 l0_0.length l0_0) (hc0_0 : l0_0.length ≤ c0_0) (hr0_2 : Kd.C (Kd.slice 3 (Kd.int .i64)) w A0_2 l0_2.length l0_2) (hc0_2 : l0_2.length ≤ c0_2) (h : Ci.f k l0_0 a0_1 l0_2 a1 = some r) :
  Calls Try.prog 24 #[.agg #[.slice A0_0 l0_0.length c0_0, .int .i64 a0_1, .slice A0_2 l0_2.length c0_2], .int .i64 a1] w fun e w' => e = .returned (.int .i64 r) ∧ Below w.heap.size w w' := by
 have hu34 := Try.underlying34
 have hu31 := Try.underlying31
 have hu32 := Try.underlying32
 have HR0_0 := Aside0.mk hr0_0
 have HC0_0 := Aside0.mk hc0_0
 clear hr0_0 hc0_0
 have HR0_2 := Aside0.mk hr0_2
 have HC0_2 := Aside0.mk hc0_2
 clear hr0_2 hc0_2
 have HB := Aside0.mk (Below.refl w.heap.size w)
 have H : ((Dc.f k l0_0 a1).bind fun t440 => (if t440 < 0 then (some (-1)) else ((Df.f k a0_1 l0_2 t440).bind fun t441 => (if t441 < 0 then (some (-1)) else (some t441))))) = some r := h
 clear h
 replace H := Option.bind_eq_some_iff.mp H
 obtain ⟨t440, A30, H⟩ := H
 try dsimp only at H
 have A3 := Aside0.mk A30
 clear A30
 by_cases c4 : t440 < 0
 ·rw [if_pos c4] at H
  have c4b0 : decide (t440 < 0) = true := decide_eq_true c4
  clear c4
  obtain rfl := Option.some.inj H
  go_enter Try.func24, Try.ntmps24
  go_wp2_with (first | ((with_reducible refine gate_dst (N := 2) rfl ?_); refine box_event ?hg (N := 2) ?hd (cs := #[.slice A0_0 l0_0.length c0_0, .int .i64 a0_1, .slice A0_2 l0_2.length c0_2]) (t := 34) ?hr ?_; (case hd => rfl); (case hg => rfl); (case hr => first | (go_simp; done) | (go_simp; rfl)); intro gb0 hg w5 hbox hb; have n0_ := Aside0.mk (below_step Yb_ hb); have n1_ := Aside0.mk (hbox); have n2_ := Aside0.mk ((by rw [hg]; exact (below_size Yb_) : w.heap.size ≤ gb0)); have n3_ := Aside0.mk ((by rw [hg]; exact (below_size Yb_) : w.heap.size ≤ gb0)); clear HB; have HB := n0_; have BK0 := n1_; have GW0 := n2_; have GE0 := n3_; clear n0_ n1_ n2_ n3_; clear hb hbox hg; have hcz6_0 : w5.cell? ⟨gb0, 0, none⟩ = some (.slice A0_0 l0_0.length c0_0) := (blk_cell BK0.out 0).trans rfl; have hcz6_1 : w5.cell? ⟨gb0, 1, none⟩ = some (.int .i64 a0_1) := (blk_cell BK0.out 1).trans rfl; have hcz6_2 : w5.cell? ⟨gb0, 2, none⟩ = some (.slice A0_2 l0_2.length c0_2) := (blk_cell BK0.out 2).trans rfl; have hfz6_0 := blk_frozen BK0.out 0; have hfz6_1 := blk_frozen BK0.out 1; have hfz6_2 := blk_frozen BK0.out 2) | ((with_reducible refine gate_callee (f := 54) rfl ?_); refine goesL_ (some 8) rfl rfl Try.func54 Yj_ rfl #[.agg #[.slice A0_0 l0_0.length c0_0], .int .i64 a1] rfl Yd_ ?_; (with_reducible refine (Dc.calls k _ _ l0_0 a1 t440 _ ?side1 ?side2 A3.out).mono ?_); (case side1 => repeat (first | exact (Kd.C_below HR0_0.out HB.out) | (with_reducible refine Kd.C_alloc ?_ _) | (with_reducible refine Kd.C_drewN ?_ _) | (with_reducible refine Kd.C_drew ?_))); (case side2 => exact HC0_0.out); rintro e w7 ⟨rfl, hb⟩; refine ⟨_, rfl, ?_⟩; have n0_ := Aside0.mk (blk_below (g := gb0) (o := .cells #[.slice A0_0 l0_0.length c0_0, .int .i64 a0_1, .slice A0_2 l0_2.length c0_2] 34 (0, 0)) Yc_ hb); have n1_ := Aside0.mk (below_step Ye_ hb); clear BK0; clear HB; have BK0 := n0_; have HB := n1_; clear n0_ n1_; (try clear hb); (try clear hb2); (try clear hk); (try clear hi)))
  go_ret
  exact ⟨by first | rfl | (simp [errW_none, errW_some] <;> rfl) | (simp [*, errW_none, errW_some] <;> rfl), by repeat (first | (with_reducible first | exact HB.out | apply below_alloc | apply pw_below_drewN | apply below_drew1 | refine below_set ?_ GE0.out) | exact HB.out)⟩
 ·rw [if_neg c4] at H
  have c4b0 : decide (t440 < 0) = false := decide_eq_false c4
  clear c4
  replace H := Option.bind_eq_some_iff.mp H
  obtain ⟨t441, A80, H⟩ := H
  try dsimp only at H
  have A8 := Aside0.mk A80
  clear A80
  by_cases c9 : t441 < 0
  ·rw [if_pos c9] at H
   have c9b0 : decide (t441 < 0) = true := decide_eq_true c9
   clear c9
   obtain rfl := Option.some.inj H
   go_enter Try.func24, Try.ntmps24
   go_wp2_with (first | ((with_reducible refine gate_dst (N := 2) rfl ?_); refine box_event ?hg (N := 2) ?hd (cs := #[.slice A0_0 l0_0.length c0_0, .int .i64 a0_1, .slice A0_2 l0_2.length c0_2]) (t := 34) ?hr ?_; (case hd => rfl); (case hg => rfl); (case hr => first | (go_simp; done) | (go_simp; rfl)); intro gb0 hg w10 hbox hb; have n0_ := Aside0.mk (below_step Yb_ hb); have n1_ := Aside0.mk (hbox); have n2_ := Aside0.mk ((by rw [hg]; exact (below_size Yb_) : w.heap.size ≤ gb0)); have n3_ := Aside0.mk ((by rw [hg]; exact (below_size Yb_) : w.heap.size ≤ gb0)); clear HB; have HB := n0_; have BK0 := n1_; have GW0 := n2_; have GE0 := n3_; clear n0_ n1_ n2_ n3_; clear hb hbox hg; have hcz11_0 : w10.cell? ⟨gb0, 0, none⟩ = some (.slice A0_0 l0_0.length c0_0) := (blk_cell BK0.out 0).trans rfl; have hcz11_1 : w10.cell? ⟨gb0, 1, none⟩ = some (.int .i64 a0_1) := (blk_cell BK0.out 1).trans rfl; have hcz11_2 : w10.cell? ⟨gb0, 2, none⟩ = some (.slice A0_2 l0_2.length c0_2) := (blk_cell BK0.out 2).trans rfl; have hfz11_0 := blk_frozen BK0.out 0; have hfz11_1 := blk_frozen BK0.out 1; have hfz11_2 := blk_frozen BK0.out 2) | ((with_reducible refine gate_callee (f := 54) rfl ?_); refine goesL_ (some 8) rfl rfl Try.func54 Yj_ rfl #[.agg #[.slice A0_0 l0_0.length c0_0], .int .i64 a1] rfl Yd_ ?_; (with_reducible refine (Dc.calls k _ _ l0_0 a1 t440 _ ?side1 ?side2 A3.out).mono ?_); (case side1 => repeat (first | exact (Kd.C_below HR0_0.out HB.out) | (with_reducible refine Kd.C_alloc ?_ _) | (with_reducible refine Kd.C_drewN ?_ _) | (with_reducible refine Kd.C_drew ?_))); (case side2 => exact HC0_0.out); rintro e w12 ⟨rfl, hb⟩; refine ⟨_, rfl, ?_⟩; have n0_ := Aside0.mk (blk_below (g := gb0) (o := .cells #[.slice A0_0 l0_0.length c0_0, .int .i64 a0_1, .slice A0_2 l0_2.length c0_2] 34 (0, 0)) Yc_ hb); have n1_ := Aside0.mk (below_step Ye_ hb); clear BK0; clear HB; have BK0 := n0_; have HB := n1_; clear n0_ n1_; (try clear hb); (try clear hb2); (try clear hk); (try clear hi); have hcz13_0 : w12.cell? ⟨gb0, 0, none⟩ = some (.slice A0_0 l0_0.length c0_0) := (blk_cell BK0.out 0).trans rfl; have hcz13_1 : w12.cell? ⟨gb0, 1, none⟩ = some (.int .i64 a0_1) := (blk_cell BK0.out 1).trans rfl; have hcz13_2 : w12.cell? ⟨gb0, 2, none⟩ = some (.slice A0_2 l0_2.length c0_2) := (blk_cell BK0.out 2).trans rfl; have hfz13_0 := blk_frozen BK0.out 0; have hfz13_1 := blk_frozen BK0.out 1; have hfz13_2 := blk_frozen BK0.out 2) | ((with_reducible refine gate_callee (f := 55) rfl ?_); refine goesL_ (some 14) rfl rfl Try.func55 Yj_ rfl #[.agg #[.int .i64 a0_1, .slice A0_2 l0_2.length c0_2], .int .i64 t440] rfl Yd_ ?_; (with_reducible refine (Df.calls k a0_1 _ _ l0_2 t440 t441 _ ?side1 ?side2 A8.out).mono ?_); (case side1 => repeat (first | exact (Kd.C_below HR0_2.out HB.out) | (with_reducible refine Kd.C_alloc ?_ _) | (with_reducible refine Kd.C_drewN ?_ _) | (with_reducible refine Kd.C_drew ?_))); (case side2 => exact HC0_2.out); rintro e w14 ⟨rfl, hb⟩; refine ⟨_, rfl, ?_⟩; have n0_ := Aside0.mk (blk_below (g := gb0) (o := .cells #[.slice A0_0 l0_0.length c0_0, .int .i64 a0_1, .slice A0_2 l0_2.length c0_2] 34 (0, 0)) Yc_ hb); have n1_ := Aside0.mk (below_step Ye_ hb); clear BK0; clear HB; have BK0 := n0_; have HB := n1_; clear n0_ n1_; (try clear hb); (try clear hb2); (try clear hk); (try clear hi)))
   go_ret
   exact ⟨by first | rfl | (simp [errW_none, errW_some] <;> rfl) | (simp [*, errW_none, errW_some] <;> rfl), by repeat (first | (with_reducible first | exact HB.out | apply below_alloc | apply pw_below_drewN | apply below_drew1 | refine below_set ?_ GE0.out) | exact HB.out)⟩
  ·rw [if_neg c9] at H
   have c9b0 : decide (t441 < 0) = false := decide_eq_false c9
   clear c9
   obtain rfl := Option.some.inj H
   go_enter Try.func24, Try.ntmps24
   go_wp2_with (first | ((with_reducible refine gate_dst (N := 2) rfl ?_); refine box_event ?hg (N := 2) ?hd (cs := #[.slice A0_0 l0_0.length c0_0, .int .i64 a0_1, .slice A0_2 l0_2.length c0_2]) (t := 34) ?hr ?_; (case hd => rfl); (case hg => rfl); (case hr => first | (go_simp; done) | (go_simp; rfl)); intro gb0 hg w15 hbox hb; have n0_ := Aside0.mk (below_step Yb_ hb); have n1_ := Aside0.mk (hbox); have n2_ := Aside0.mk ((by rw [hg]; exact (below_size Yb_) : w.heap.size ≤ gb0)); have n3_ := Aside0.mk ((by rw [hg]; exact (below_size Yb_) : w.heap.size ≤ gb0)); clear HB; have HB := n0_; have BK0 := n1_; have GW0 := n2_; have GE0 := n3_; clear n0_ n1_ n2_ n3_; clear hb hbox hg; have hcz16_0 : w15.cell? ⟨gb0, 0, none⟩ = some (.slice A0_0 l0_0.length c0_0) := (blk_cell BK0.out 0).trans rfl; have hcz16_1 : w15.cell? ⟨gb0, 1, none⟩ = some (.int .i64 a0_1) := (blk_cell BK0.out 1).trans rfl; have hcz16_2 : w15.cell? ⟨gb0, 2, none⟩ = some (.slice A0_2 l0_2.length c0_2) := (blk_cell BK0.out 2).trans rfl; have hfz16_0 := blk_frozen BK0.out 0; have hfz16_1 := blk_frozen BK0.out 1; have hfz16_2 := blk_frozen BK0.out 2) | ((with_reducible refine gate_callee (f := 54) rfl ?_); refine goesL_ (some 8) rfl rfl Try.func54 Yj_ rfl #[.agg #[.slice A0_0 l0_0.length c0_0], .int .i64 a1] rfl Yd_ ?_; (with_reducible refine (Dc.calls k _ _ l0_0 a1 t440 _ ?side1 ?side2 A3.out).mono ?_); (case side1 => repeat (first | exact (Kd.C_below HR0_0.out HB.out) | (with_reducible refine Kd.C_alloc ?_ _) | (with_reducible refine Kd.C_drewN ?_ _) | (with_reducible refine Kd.C_drew ?_))); (case side2 => exact HC0_0.out); rintro e w17 ⟨rfl, hb⟩; refine ⟨_, rfl, ?_⟩; have n0_ := Aside0.mk (blk_below (g := gb0) (o := .cells #[.slice A0_0 l0_0.length c0_0, .int .i64 a0_1, .slice A0_2 l0_2.length c0_2] 34 (0, 0)) Yc_ hb); have n1_ := Aside0.mk (below_step Ye_ hb); clear BK0; clear HB; have BK0 := n0_; have HB := n1_; clear n0_ n1_; (try clear hb); (try clear hb2); (try clear hk); (try clear hi); have hcz18_0 : w17.cell? ⟨gb0, 0, none⟩ = some (.slice A0_0 l0_0.length c0_0) := (blk_cell BK0.out 0).trans rfl; have hcz18_1 : w17.cell? ⟨gb0, 1, none⟩ = some (.int .i64 a0_1) := (blk_cell BK0.out 1).trans rfl; have hcz18_2 : w17.cell? ⟨gb0, 2, none⟩ = some (.slice A0_2 l0_2.length c0_2) := (blk_cell BK0.out 2).trans rfl; have hfz18_0 := blk_frozen BK0.out 0; have hfz18_1 := blk_frozen BK0.out 1; have hfz18_2 := blk_frozen BK0.out 2) | ((with_reducible refine gate_callee (f := 55) rfl ?_); refine goesL_ (some 14) rfl rfl Try.func55 Yj_ rfl #[.agg #[.int .i64 a0_1, .slice A0_2 l0_2.length c0_2], .int .i64 t440] rfl Yd_ ?_; (with_reducible refine (Df.calls k a0_1 _ _ l0_2 t440 t441 _ ?side1 ?side2 A8.out).mono ?_); (case side1 => repeat (first | exact (Kd.C_below HR0_2.out HB.out) | (with_reducible refine Kd.C_alloc ?_ _) | (with_reducible refine Kd.C_drewN ?_ _) | (with_reducible refine Kd.C_drew ?_))); (case side2 => exact HC0_2.out); rintro e w19 ⟨rfl, hb⟩; refine ⟨_, rfl, ?_⟩; have n0_ := Aside0.mk (blk_below (g := gb0) (o := .cells #[.slice A0_0 l0_0.length c0_0, .int .i64 a0_1, .slice A0_2 l0_2.length c0_2] 34 (0, 0)) Yc_ hb); have n1_ := Aside0.mk (below_step Ye_ hb); clear BK0; clear HB; have BK0 := n0_; have HB := n1_; clear n0_ n1_; (try clear hb); (try clear hb2); (try clear hk); (try clear hi)))
   go_ret
   exact ⟨by first | rfl | (simp [errW_none, errW_some] <;> rfl) | (simp [*, errW_none, errW_some] <;> rfl), by repeat (first | (with_reducible first | exact HB.out | apply below_alloc | apply pw_below_drewN | apply below_drew1 | refine below_set ?_ GE0.out) | exact HB.out)⟩
end Go.Proofs.Ytnggfglmjdiaaaa.X

