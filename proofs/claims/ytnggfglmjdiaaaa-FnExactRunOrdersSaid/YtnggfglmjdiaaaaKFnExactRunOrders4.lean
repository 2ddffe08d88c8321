/- Texts that the proof of the law FnExactRunOrders leans on, part 5 of 7. -/
import Derived.Test.YtnggfglmjdiaaaaKFnExactRunOrders1
import Derived.Test.YtnggfglmjdiaaaaKFnExactRunOrders2
import Derived.Test.YtnggfglmjdiaaaaKFnExactRunOrders3
set_option linter.unusedVariables false
set_option linter.unusedSimpArgs false
namespace Go.Proofs.Ytnggfglmjdiaaaa.X
open Go.RowKit Go.Proofs.YtnggfglmjdiaaaaW.PrintWords Go.Proofs.YtnggfglmjdiaaaaW.PrintLast Go.Proofs.YtnggfglmjdiaaaaW.PrintMore
attribute [local go_sem] max2_int min2_int max_two min_two max_three min_three max_four min_four
def cutAt (F : List (List Int)) (i m : Int) : List (List Int) := F.set i.toNat ((rd_L1 F i).take m.toNat)
def Fq (v : Bool) (Y : List (List Int)) (h : Int) (B : List (List Int)) : Option (List (List Int) × Int × List (List Int) × Bool) := if v = true then some (Y, h, B, true) else some ([], 0, [], false)
def lmPutY (k : Nat) (Y : List (List Int)) (h : Int) (B : List (List Int)) (b d_ : Int) : Option (List (List Int) × Int × List (List Int) × Bool) := if inRows Y d_ = true then (if (Dh.f (rd_L1 Y d_)).isSome = true then (Dh.f (rd_L1 Y d_)).bind fun c => if c.length < 17592186044415 then (Ad.f k (Y.set d_.toNat (c ++ [b])) h B).bind fun v => Fq v (Y.set d_.toNat (c ++ [b])) h B else none else none) else some ([], 0, [], false)
def lmPutB (k : Nat) (Y : List (List Int)) (h : Int) (B : List (List Int)) (b d_ : Int) : Option (List (List Int) × Int × List (List Int) × Bool) := if inRows B d_ = true then (if (Dh.f (rd_L1 B d_)).isSome = true then (Dh.f (rd_L1 B d_)).bind fun c => if c.length < 17592186044415 then (Ad.f k Y h (B.set d_.toNat (c ++ [b]))).bind fun v => Fq v Y h (B.set d_.toNat (c ++ [b])) else none else none) else some ([], 0, [], false)
def lmCut (F T : List (List Int)) (q1 q2 : Int) (ok : Bool) (go : List (List Int) → Option (List (List Int) × Int × List (List Int) × Bool)) : Option (List (List Int) × Int × List (List Int) × Bool) := if q1 < 0 then some ([], 0, [], false) else if q1 < (F.length : Int) then (if q2 = ((rd_L1 F q1).length : Int) - 1 then (if ok = true then (if 0 ≤ q2 ∧ q1 < (T.length : Int) ∧ q2 ≤ ((rd_L1 T q1).length : Int) then go (cutAt T q1 q2) else none) else some ([], 0, [], false)) else some ([], 0, [], false)) else none
def spec_l24Make.f (k : Nat) (l0_0 : List (List Int)) (a0_1 : Int) (l0_2 : List (List Int)) (a1_0 a1_1 a1_2 : Int) : Option (List (List Int) × Int × List (List Int) × Bool) :=
 (spec_l24Own.f k l0_0 a0_1 l0_2).bind fun t =>
 if a1_0 = 3 then (spec_l9Find.f k a0_1 l0_2 a1_1).bind fun q => lmCut l0_2 t.2.2 q.1 q.2 true fun F => lmPutY k t.1 t.2.1 F a1_1 a1_2
 else (spec_l5Find.f k l0_0 a1_1).bind fun q => if a1_0 = 1 then lmCut l0_0 t.1 q.1 q.2 (!decide (a1_2 = q.1)) fun F => lmPutY k F t.2.1 t.2.2 a1_1 a1_2 else if a1_0 = 2 then lmCut l0_0 t.1 q.1 q.2 true fun F => lmPutB k F t.2.1 t.2.2 a1_1 a1_2 else lmCut l0_0 t.1 q.1 q.2 true fun F => some ([], 0, [], false)
theorem lmPutY_mono (Y : List (List Int)) (h : Int) (B : List (List Int)) (b d_ : Int) (k : Nat) : LeO (lmPutY k Y h B b d_) (lmPutY (k + 1) Y h B b d_) := by
 unfold lmPutY
 refine LeO.ite (LeO.ite (LeO.bind (LeO.refl _) (fun c => LeO.ite (LeO.bind (Ad.mono _ _ _ _) (fun _ => LeO.refl _)) (LeO.refl _))) (LeO.refl _)) (LeO.refl _)
theorem lmPutB_mono (Y : List (List Int)) (h : Int) (B : List (List Int)) (b d_ : Int) (k : Nat) : LeO (lmPutB k Y h B b d_) (lmPutB (k + 1) Y h B b d_) := by
 unfold lmPutB
 refine LeO.ite (LeO.ite (LeO.bind (LeO.refl _) (fun c => LeO.ite (LeO.bind (Ad.mono _ _ _ _) (fun _ => LeO.refl _)) (LeO.refl _))) (LeO.refl _)) (LeO.refl _)
theorem lmCut_mono (F T : List (List Int)) (q1 q2 : Int) (ok : Bool) {g g' : List (List Int) → Option (List (List Int) × Int × List (List Int) × Bool)} (h : ∀ x, LeO (g x) (g' x)) : LeO (lmCut F T q1 q2 ok g) (lmCut F T q1 q2 ok g') := by
 unfold lmCut
 repeat' first | exact LeO.refl _ | exact h _ | refine LeO.ite ?_ ?_
theorem spec_l24Make.mono (l0_0 : List (List Int)) (a0_1 : Int) (l0_2 : List (List Int)) (a1_0 a1_1 a1_2 : Int) (k : Nat) : LeO (spec_l24Make.f k l0_0 a0_1 l0_2 a1_0 a1_1 a1_2) (spec_l24Make.f (k + 1) l0_0 a0_1 l0_2 a1_0 a1_1 a1_2) := by
 unfold spec_l24Make.f
 refine LeO.bind (spec_l24Own.mono _ _ _ _) (fun t => ?_)
 refine LeO.ite (LeO.bind (spec_l9Find.mono _ _ _ _) (fun q => lmCut_mono _ _ _ _ _ (fun x => lmPutY_mono _ _ _ _ _ _))) (LeO.bind (spec_l5Find.mono _ _ _) (fun q => LeO.ite (lmCut_mono _ _ _ _ _ (fun x => lmPutY_mono _ _ _ _ _ _)) (LeO.ite (lmCut_mono _ _ _ _ _ (fun x => lmPutB_mono _ _ _ _ _ _)) (LeO.refl _))))
theorem l1In_f2 (a b c : Int) : Bi.f a b c = some (decide (b ≤ a) && decide (a ≤ c)) := by
 unfold Bi.f
 by_cases h : a ≥ b
 ·rw [if_pos h]; simp [show b ≤ a from h]
 ·rw [if_neg h]; simp [show ¬ b ≤ a from h]
set_option maxHeartbeats 16000000 in
set_option maxRecDepth 100000 in
theorem spec_l24Make.callsT (k : Nat) (A0_0 : Option Addr) (c0_0 : Nat) (l0_0 : List (List Int)) (a0_1 : Int) (A0_2 : Option Addr) (c0_2 : Nat) (l0_2 : List (List Int)) (a1_0 a1_1 a1_2 : Int) (r1 : List (List Int)) (r2 : Int) (r3 : List (List Int)) (r4 : Bool) (w : World) (hr0_0 : Kd.C (Kd.slice 3 (Kd.int .i64)) w A0_0 l0_0.length l0_0) (hc0_0 : l0_0.length ≤ c0_0) (hr0_2 : Kd.C (Kd.slice 3 (Kd.int .i64)) w A0_2 l0_2.length l0_2) (hc0_2 : l0_2.length ≤ c0_2) (h : spec_l24Make.f k l0_0 a0_1 l0_2 a1_0 a1_1 a1_2 = some (r1, r2, r3, r4)) :
  Calls Try.prog 51 #[.agg #[.slice A0_0 l0_0.length c0_0, .int .i64 a0_1, .slice A0_2 l0_2.length c0_2], .agg #[.int .i64 a1_0, .int .i64 a1_1, .int .i64 a1_2]] w fun e w' => ∃ v0_ v2_ : Value, e = .returned (.tuple #[.agg #[v0_, .int .i64 r2, v2_], .bool r4]) ∧ Go.Proofs.YtnggfglmjdiaaaaOwn.TT 73 w' w.heap.size v0_ r1 v2_ r3 ∧ Below w.heap.size w w' := by
 have hu34 := Try.underlying34
 have hu43 := Try.underlying43
 have hu31 := Try.underlying31
 have hu32 := Try.underlying32
 have HR0_0 := Aside0.mk hr0_0
 have HC0_0 := Aside0.mk hc0_0
 clear hr0_0 hc0_0
 have HR0_2 := Aside0.mk hr0_2
 have HC0_2 := Aside0.mk hc0_2
 clear hr0_2 hc0_2
 have HB := Aside0.mk (Below.refl w.heap.size w)
 unfold spec_l24Make.f at h
 replace h := Option.bind_eq_some_iff.mp h
 obtain ⟨⟨Y, hh, B⟩, a_, h⟩ := h
 have A1 := Aside0.mk a_
 clear a_
 dsimp only at h
 go_enter Try.func51, Try.ntmps51
 go_upto_region 3 with (first | ((with_reducible refine gate_dst (N := 2) rfl ?_); refine box_event (by rfl) (N := 2) (by rfl) (cs := #[.slice A0_0 l0_0.length c0_0, .int .i64 a0_1, .slice A0_2 l0_2.length c0_2]) (t := 34) Ybf_ ?_; intro gt hg w1 hbox hb; have GEgt := Aside0.mk (show w.heap.size ≤ gt by rw [hg]; exact below_size HB.out); have BKt := Aside0.mk hbox; replace HB := Aside0.mk (below_step HB.out hb); clear hb hbox hg; obtain ⟨hzgt_0, hzgt_1, hzgt_2⟩ := cl3_ BKt.out) | ((with_reducible refine gate_dst (N := 3) rfl ?_); refine box_event (by rfl) (N := 3) (by rfl) (cs := #[.int .i64 a1_0, .int .i64 a1_1, .int .i64 a1_2]) (t := 43) Ybf_ ?_; intro gx hg w2 hbox hb; (try clear hzgt_0); (try clear hzgt_1); (try clear hzgt_2); have NBgt_gx := Aside0.mk (show gt ≠ gx by rw [hg]; exact Nat.ne_of_lt (blk_lt BKt.out)); have GEgx := Aside0.mk (show w.heap.size ≤ gx by rw [hg]; exact below_size HB.out); have BKx := Aside0.mk hbox; replace BKt := Aside0.mk (blk_below BKt.out hb); replace HB := Aside0.mk (below_step HB.out hb); clear hb hbox hg; obtain ⟨hzgt_0, hzgt_1, hzgt_2⟩ := cl3_ BKt.out) | ((with_reducible refine gate_dst (N := 4) rfl ?_); refine box_event (by rfl) (N := 4) (by rfl) (cs := #[.slice none 0 0, .int .i64 0, .slice none 0 0]) (t := 34) Ybf_ ?_; intro gr hg w3 hbox hb; (try clear hzgt_0); (try clear hzgt_1); (try clear hzgt_2); have NBgt_gr := Aside0.mk (show gt ≠ gr by rw [hg]; exact Nat.ne_of_lt (blk_lt BKt.out)); have NBgx_gr := Aside0.mk (show gx ≠ gr by rw [hg]; exact Nat.ne_of_lt (blk_lt BKx.out)); have GEgr := Aside0.mk (show w.heap.size ≤ gr by rw [hg]; exact below_size HB.out); have BKr := Aside0.mk hbox; replace BKt := Aside0.mk (blk_below BKt.out hb); replace BKx := Aside0.mk (blk_below BKx.out hb); replace HB := Aside0.mk (below_step HB.out hb); clear hb hbox hg; obtain ⟨hzgt_0, hzgt_1, hzgt_2⟩ := cl3_ BKt.out) | ((with_reducible refine gate_dst (N := 6) rfl ?_); refine box_event (by rfl) (N := 6) (by rfl) (cs := #[.slice none 0 0, .int .i64 0, .slice none 0 0]) (t := 34) Ybf_ ?_; intro gn hg w4 hbox hb; (try clear hzgt_0); (try clear hzgt_1); (try clear hzgt_2); have NBgt_gn := Aside0.mk (show gt ≠ gn by rw [hg]; exact Nat.ne_of_lt (blk_lt BKt.out)); have NBgx_gn := Aside0.mk (show gx ≠ gn by rw [hg]; exact Nat.ne_of_lt (blk_lt BKx.out)); have NBgr_gn := Aside0.mk (show gr ≠ gn by rw [hg]; exact Nat.ne_of_lt (blk_lt BKr.out)); have GEgn := Aside0.mk (show w.heap.size ≤ gn by rw [hg]; exact below_size HB.out); have BKn := Aside0.mk hbox; replace BKt := Aside0.mk (blk_below BKt.out hb); replace BKx := Aside0.mk (blk_below BKx.out hb); replace BKr := Aside0.mk (blk_below BKr.out hb); replace HB := Aside0.mk (below_step HB.out hb); clear hb hbox hg; obtain ⟨hzgt_0, hzgt_1, hzgt_2⟩ := cl3_ BKt.out) | ((with_reducible refine gate_store (t := 34) (p := 6) rfl ?_); refine Go.Proofs.YtnggfglmjdiaaaaOwn.sto3 (t := 34) (p := 6) (g := gn) (w0 := w) Ybb_ rfl rfl rfl rfl (by rfl) BKn.out HB.out GEgn.out ?_; intro w5 hbx_ hB_ hO_; (try clear hzgt_0); (try clear hzgt_1); (try clear hzgt_2); replace BKt := Aside0.mk ((hO_.others _ NBgt_gn.out).trans BKt.out); replace BKx := Aside0.mk ((hO_.others _ NBgx_gn.out).trans BKx.out); replace BKr := Aside0.mk ((hO_.others _ NBgr_gn.out).trans BKr.out); clear BKn HB hO_; have BKn := Aside0.mk hbx_; have HB := Aside0.mk hB_; clear hbx_ hB_; obtain ⟨hzgt_0, hzgt_1, hzgt_2⟩ := cl3_ BKt.out) | (go_at_call 59; (with_reducible refine (spec_l24Own.calls2 k _ _ l0_0 a0_1 _ _ l0_2 Y hh B _ (Kd.C_below HR0_0.out HB.out) HC0_0.out (Kd.C_below HR0_2.out HB.out) HC0_2.out A1.out).mono ?_); rintro e w6 ⟨P_, v0_, v2_, rfl, ho0, ho1, hb⟩; (try clear hzgt_0); (try clear hzgt_1); (try clear hzgt_2); have ht_ := (Go.Proofs.YtnggfglmjdiaaaaOwn.TT.of2 ho0 ho1).lower (below_size HB.out); clear ho0 ho1; obtain ⟨nY, AY, cY, ey_, hn_⟩ := ht_.open_; subst ey_; clear hn_; obtain ⟨nB, AB, cB, eb_, hn_⟩ := ht_.swap.open_; subst eb_; clear hn_; replace BKt := Aside0.mk (blk_below BKt.out hb); replace BKx := Aside0.mk (blk_below BKx.out hb); replace BKr := Aside0.mk (blk_below BKr.out hb); replace BKn := Aside0.mk (blk_below BKn.out hb); replace HB := Aside0.mk (below_step HB.out hb); have HT := Aside0.mk ht_; clear ht_ hb; obtain ⟨hzgt_0, hzgt_1, hzgt_2⟩ := cl3_ BKt.out) | ((with_reducible refine gate_dst (N := 7) rfl ?_); refine box_event (by rfl) (N := 7) (by rfl) (cs := #[.slice none 0 0, .int .i64 0, .slice none 0 0]) (t := 34) Ybf_ ?_; intro go hg w7 hbox hb; (try clear hzgt_0); (try clear hzgt_1); (try clear hzgt_2); have NBgt_go := Aside0.mk (show gt ≠ go by rw [hg]; exact Nat.ne_of_lt (blk_lt BKt.out)); have NBgx_go := Aside0.mk (show gx ≠ go by rw [hg]; exact Nat.ne_of_lt (blk_lt BKx.out)); have NBgr_go := Aside0.mk (show gr ≠ go by rw [hg]; exact Nat.ne_of_lt (blk_lt BKr.out)); have NBgn_go := Aside0.mk (show gn ≠ go by rw [hg]; exact Nat.ne_of_lt (blk_lt BKn.out)); have GEgo := Aside0.mk (show w.heap.size ≤ go by rw [hg]; exact below_size HB.out); have BKo := Aside0.mk hbox; replace HT := Aside0.mk (HT.out.below hb); replace BKt := Aside0.mk (blk_below BKt.out hb); replace BKx := Aside0.mk (blk_below BKx.out hb); replace BKr := Aside0.mk (blk_below BKr.out hb); replace BKn := Aside0.mk (blk_below BKn.out hb); replace HB := Aside0.mk (below_step HB.out hb); clear hb hbox hg; obtain ⟨hzgt_0, hzgt_1, hzgt_2⟩ := cl3_ BKt.out) | ((with_reducible refine gate_store (t := 34) (p := 7) rfl ?_); refine Go.Proofs.YtnggfglmjdiaaaaOwn.sto3 (t := 34) (p := 7) (g := go) (w0 := w) Ybb_ rfl rfl rfl rfl (by rfl) BKo.out HB.out GEgo.out ?_; intro w8 hbx_ hB_ hO_; (try clear hzgt_0); (try clear hzgt_1); (try clear hzgt_2); replace HT := Aside0.mk (HT.out.only BKo.out (by decide) hO_); replace BKt := Aside0.mk ((hO_.others _ NBgt_go.out).trans BKt.out); replace BKx := Aside0.mk ((hO_.others _ NBgx_go.out).trans BKx.out); replace BKr := Aside0.mk ((hO_.others _ NBgr_go.out).trans BKr.out); replace BKn := Aside0.mk ((hO_.others _ NBgn_go.out).trans BKn.out); clear BKo HB hO_; have BKo := Aside0.mk hbx_; have HB := Aside0.mk hB_; clear hbx_ hB_; obtain ⟨hzgt_0, hzgt_1, hzgt_2⟩ := cl3_ BKt.out))
 (try clear hzgt_0)
 (try clear hzgt_1)
 (try clear hzgt_2)
 obtain ⟨hzgt_0, hzgt_1, hzgt_2⟩ := cl3_ BKt.out
 obtain ⟨hzgx_0, hzgx_1, hzgx_2⟩ := cl3_ BKx.out
 obtain ⟨hzgn_0, hzgn_1, hzgn_2⟩ := cl3_ BKn.out
 by_cases k3 : a1_0 = 3
 ·rw [if_pos k3] at h
  subst k3
  replace h := Option.bind_eq_some_iff.mp h
  obtain ⟨⟨q1, q2⟩, a_, h⟩ := h
  have A2 := Aside0.mk a_
  clear a_
  dsimp only at h
  unfold lmCut at h
  by_cases c1 : q1 < 0
  ·rw [if_pos c1] at h
   simp only [Option.some.injEq, Prod.mk.injEq] at h
   obtain ⟨rfl, rfl, rfl, rfl⟩ := h
   have cb1 : decide (q1 < 0) = true := decide_eq_true c1
   clear c1
   clear BKx
   clear BKo
   clear HT
   go_wp2_with (first | (go_at_call 48; (with_reducible refine (spec_l9Find.calls k a0_1 _ _ l0_2 a1_1 q1 q2 _ (Kd.C_below HR0_2.out HB.out) HC0_2.out A2.out).mono ?_); rintro e w9 ⟨rfl, hb⟩; (try clear hzgn_0); (try clear hzgn_1); (try clear hzgn_2); (try clear hzgt_0); (try clear hzgt_1); (try clear hzgt_2); (try clear hzgx_0); (try clear hzgx_1); (try clear hzgx_2); replace BKt := Aside0.mk (blk_below BKt.out hb); replace BKr := Aside0.mk (blk_below BKr.out hb); replace BKn := Aside0.mk (blk_below BKn.out hb); replace HB := Aside0.mk (below_step HB.out hb); clear hb; obtain ⟨hzgn_0, hzgn_1, hzgn_2⟩ := cl3_ BKn.out) | ((with_reducible refine gate_store (t := 34) (p := 4) rfl ?_); refine Go.Proofs.YtnggfglmjdiaaaaOwn.sto3 (t := 34) (p := 4) (g := gr) (w0 := w) Ybb_ rfl rfl rfl rfl (by rfl) BKr.out HB.out GEgr.out ?_; intro w10 hbx_ hB_ hO_; (try clear hzgn_0); (try clear hzgn_1); (try clear hzgn_2); clear BKr HB hO_; have BKr := Aside0.mk hbx_; have HB := Aside0.mk hB_; clear hbx_ hB_))
   refine bodyPost_ret (Df rfl _ _ gr 34 #[.slice none 0 0, .int .i64 0, .slice none 0 0] (0, 0) _ rfl BKr.out Try.underlying34 rfl Ybb_) rfl ?_
   exact ⟨_, _, rfl, Go.Proofs.YtnggfglmjdiaaaaOwn.TT.nil _ _ _, HB.out⟩
  ·rw [if_neg c1] at h
   by_cases c2 : q1 < (l0_2.length : Int)
   ·rw [if_pos c2] at h
    have cb1 : decide (q1 < 0) = false := decide_eq_false c1
    have p_ : 0 ≤ q1 := by omega
    obtain ⟨adT, AT, cT, eT, hx_, hl_, hi_⟩ := Cj HR0_2.out q1 p_ c2
    subst eT
    have hlw_ := hi_.2.1
    obtain ⟨sT, hsT⟩ : ∃ z, z = rd_L1 l0_2 q1 := ⟨_, rfl⟩
    rw [← hsT] at h hx_ hlw_
    clear hl_ hi_ hsT
    have HXT := Aside0.mk hx_
    clear hx_
    have hwt_ : wrap64 ((sT.length : Int) - 1) = (sT.length : Int) - 1 := by unfold wrap64; omega
    clear hlw_
    have C1 := Aside0.mk p_
    have C2 := Aside0.mk c2
    have p1_ := eq_true p_
    have q1_ := eq_true c2
    clear p_ c1 c2
    by_cases c3 : q2 = (sT.length : Int) - 1
    ·rw [if_pos c3] at h
     have d1_ : (q2 == (sT.length : Int) - 1) = true := by simp [c3]
     have d2_ : decide (q2 = (sT.length : Int) - 1) = true := decide_eq_true c3
     have d3_ : (q2 != (sT.length : Int) - 1) = false := by simp [c3]
     clear c3
     rw [if_pos rfl] at h
     by_cases c5 : 0 ≤ q2 ∧ q1 < (B.length : Int) ∧ q2 ≤ ((rd_L1 B q1).length : Int)
     ·rw [if_pos c5] at h
      obtain ⟨sF, hsF⟩ : ∃ z, z = rd_L1 B q1 := ⟨_, rfl⟩
      rw [← hsF] at c5
      have HSsF := Aside0.mk hsF
      obtain ⟨c5, c6, c7⟩ := c5
      have Pq1 := Aside0.mk (show 0 ≤ q1 ∧ q1 < (nB : Int) from ⟨C1.out, by have := HT.out.swap.reads.1; omega⟩)
      have HMq2 := Aside0.mk (show (q2).toNat ≤ sF.length from by omega)
      have HQ0 := Aside0.mk c5
      have HQ1 := Aside0.mk c7
      clear c5 c6 c7
      obtain ⟨lF, hlF⟩ : ∃ z, z = cutAt B q1 q2 := ⟨_, rfl⟩
      have HLlF := Aside0.mk (show lF = B.set (q1).toNat ((B.getD (q1).toNat []).take (q2).toNat) from hlF)
      rw [← hlF] at h
      (try dsimp only at h)
      clear hlF hsF
      go_upto_region 7 with (first | (go_at_call 48; (with_reducible refine (spec_l9Find.calls k a0_1 _ _ l0_2 a1_1 q1 q2 _ (Kd.C_below HR0_2.out HB.out) HC0_2.out A2.out).mono ?_); rintro e w11 ⟨rfl, hb⟩; (try clear hzgn_0); (try clear hzgn_1); (try clear hzgn_2); (try clear hzgt_0); (try clear hzgt_1); (try clear hzgt_2); (try clear hzgx_0); (try clear hzgx_1); (try clear hzgx_2); replace HT := Aside0.mk (HT.out.below hb); replace BKt := Aside0.mk (blk_below BKt.out hb); replace BKx := Aside0.mk (blk_below BKx.out hb); replace BKr := Aside0.mk (blk_below BKr.out hb); replace BKn := Aside0.mk (blk_below BKn.out hb); replace BKo := Aside0.mk (blk_below BKo.out hb); replace HB := Aside0.mk (below_step HB.out hb); have hxt_ : w11.cell? (adT.add q1.toNat) = some (.slice AT sT.length cT) := (HB.out.cell (World.block_lt_of_cell? w _ HXT.out)).trans HXT.out; clear hb; obtain ⟨hzgt_0, hzgt_1, hzgt_2⟩ := cl3_ BKt.out; obtain ⟨hzgx_0, hzgx_1, hzgx_2⟩ := cl3_ BKx.out))
      clear hwt_ d1_ d2_ d3_ p1_ q1_
      (try clear hxt_)
      (try clear hzgt_0)
      (try clear hzgt_1)
      (try clear hzgt_2)
      (try clear hzgx_0)
      (try clear hzgx_1)
      (try clear hzgx_2)
      clear BKt
      obtain ⟨gB_, eg_, gb_, gl_⟩ := HT.out.swap.form Ygg_
      have GEB := Aside0.mk gb_
      clear gb_ gl_
      subst eg_
      obtain ⟨AsF, csF, hv_, hc_, hC_, hf_⟩ := Go.Proofs.YtnggfglmjdiaaaaOwn.TT.elem HT.out.swap (i := q1) Pq1.out.1 Ygg_
      have e_ : (B.getD (q1).toNat []) = sF := HSsF.out.symm
      rw [e_] at hv_ hc_ hC_
      clear e_
      have HVsF := Aside0.mk hv_
      have HCsF := Aside0.mk hc_
      have HRsF := Aside0.mk hC_
      have HFsF := Aside0.mk hf_
      clear hv_ hc_ hC_ hf_
      have NXB_gx := Aside0.mk (Go.Proofs.YtnggfglmjdiaaaaOwn.TT.ne HT.out.swap BKx.out (by decide))
      have NXB_gr := Aside0.mk (Go.Proofs.YtnggfglmjdiaaaaOwn.TT.ne HT.out.swap BKr.out (by decide))
      have NXB_gn := Aside0.mk (Go.Proofs.YtnggfglmjdiaaaaOwn.TT.ne HT.out.swap BKn.out (by decide))
      have NXB_go := Aside0.mk (Go.Proofs.YtnggfglmjdiaaaaOwn.TT.ne HT.out.swap BKo.out (by decide))
      have p_q1 : 0 ≤ q1 := Pq1.out.1
      have q_q1 : q1 < (nB : Int) := Pq1.out.2
      replace p_q1 := eq_true p_q1
      replace q_q1 := eq_true q_q1
      obtain ⟨i0_, hi0_, _, hsz0_, _⟩ := info_parts info3
      have hcut_ := cut_to (P := Try.prog) 73 3 .i64 Try.underlying73 hi0_ AsF sF.length csF q2 HQ0.out HQ1.out HCsF.out
      replace HT := Aside0.mk (HT.out.drew)
      replace BKx := Aside0.mk (blk_drew BKx.out)
      replace BKr := Aside0.mk (blk_drew BKr.out)
      replace BKn := Aside0.mk (blk_drew BKn.out)
      replace BKo := Aside0.mk (blk_drew BKo.out)
      replace HB := Aside0.mk (below_drew1 HB.out)
      replace HVsF := Aside0.mk ((show (w11.drew).cell? ⟨gB_, (q1).toNat, none⟩ = some (.slice AsF sF.length csF) from HVsF.out))
      replace HFsF := Aside0.mk ((show (w11.drew).frozen? ⟨gB_, (q1).toNat, none⟩ = false from HFsF.out))
      refine start_ (n := 14) (S := fun w' => w'.cell? ⟨gB_, (q1).toNat, none⟩ = some (.slice AsF sF.length csF) ∧ w'.cell? ⟨go, 2, none⟩ = some (.slice (some ⟨gB_, 0, none⟩) nB cB)) (ds := [13]) #[false, false, false, false, false, false, false, false, false, false, false, false, false, false] Ybb_ rfl rfl ⟨HVsF.out, (blk_cell BKo.out 2).trans rfl⟩ (fun hHeld => ?_)
      generalize w11.drew = w12 at HT BKx BKr BKn BKo HB HVsF HFsF hHeld ⊢
      refine pure_ (i := 0) (N := some 41) #[true, false, false, false, false, false, false, false, false, false, false, false, false, false] rfl rfl Ybb_ (fun _ _ _ h => h) (Or.inl ⟨by rfl, Yba_⟩) Ya_ ?_
      refine pure_ (i := 1) (N := some 42) #[true, true, false, false, false, false, false, false, false, false, false, false, false, false] rfl rfl Ybb_ (fun _ _ _ h => h) (Or.inl ⟨by rfl, Yba_⟩) Ya_ ?_
      refine pure_ (i := 3) (N := some 44) #[true, true, false, true, false, false, false, false, false, false, false, false, false, false] rfl rfl Ybb_ (fun _ _ _ h => h) (Or.inl ⟨by rfl, Yba_⟩) Ya_ ?_
      refine pure_ (i := 4) (N := some 45) #[true, true, false, true, true, false, false, false, false, false, false, false, false, false] rfl rfl Ybb_ (fun _ _ _ h => h) (Or.inl ⟨by rfl, Yba_⟩) Ya_ ?_
      refine pure_ (i := 5) (N := some 46) #[true, true, false, true, true, true, false, false, false, false, false, false, false, false] rfl rfl Ybb_ (fun _ _ _ h => h) (Or.inl ⟨by rfl, Yba_⟩) Ya_ ?_
      refine pure_ (i := 7) (N := some 48) #[true, true, false, true, true, true, false, true, false, false, false, false, false, false] rfl rfl Ybb_ (fun _ _ _ h => h) (Or.inl ⟨by rfl, Yba_⟩) Ya_ ?_
      refine pure_ (i := 10) (N := some 51) #[true, true, false, true, true, true, false, true, false, false, true, false, false, false] rfl rfl Ybb_ (fun _ _ _ h => h) (Or.inl ⟨by rfl, Yba_⟩) Ya_ ?_
      refine take_ (i := 2) (N := some 43) #[true, true, true, true, true, true, false, true, false, false, true, false, false, false] rfl rfl Ybb_ (fun _ _ _ h => h) (Or.inl ⟨by rfl, Ydb_⟩) hHeld Ya_ ?_
      refine take_ (i := 6) (N := some 47) #[true, true, true, true, true, true, true, true, false, false, true, false, false, false] rfl rfl Ybb_ (fun _ _ _ h => h) (Or.inl ⟨by rfl, Ydb_⟩) hHeld Ya_ ?_
      refine pure_ (i := 8) (N := some 49) #[true, true, true, true, true, true, true, true, true, false, true, false, false, false] rfl rfl Ybb_ (fun _ _ _ h => h) (Or.inl ⟨by rfl, Yba_⟩) Ya_ ?_
      refine take_ (i := 9) (N := some 50) #[true, true, true, true, true, true, true, true, true, true, true, false, false, false] rfl rfl Ybb_ (fun _ _ _ h => h) (Or.inl ⟨by rfl, Ydb_⟩) hHeld Ya_ ?_
      refine pure_ (i := 11) (N := some 52) #[true, true, true, true, true, true, true, true, true, true, true, true, false, false] rfl rfl Ybb_ (fun _ _ _ h => h) (Or.inl ⟨by rfl, Yba_⟩) Ya_ ?_
      refine pure_ (i := 12) (N := some 53) #[true, true, true, true, true, true, true, true, true, true, true, true, true, false] rfl rfl Ybb_ (fun _ _ _ h => h) (Or.inl ⟨by rfl, Yba_⟩) Ya_ ?_
      refine last_ (i := 13) (N := none) #[true, true, true, true, true, true, true, true, true, true, true, true, true, true] rfl rfl Ybb_ (by decide) (fun K hK => ?_)
      have hv_ := HVsF.out
      have hf_ := HFsF.out
      refine Go.Proofs.YtnggfglmjdiaaaaOwn.F6 (w1 := (w12.setCell ⟨gB_, (q1).toNat, none⟩ (.slice AsF (q2).toNat csF))) (by rfl) rfl ?_ ?_
      ·first | (go_simp; done) | (go_simp; rfl)
      intro w13 hw
      clear hv_ hf_
      have hO_ : Go.Proofs.YtnggfglmjdiaaaaOwn.Only w12 w13 gB_ := Ycj_
      have ht_ := (Go.Proofs.YtnggfglmjdiaaaaOwn.TT.cut HT.out.swap Pq1.out.1 Ygg_ HVsF.out (by rw [show (B.getD (q1).toNat []) = sF from HSsF.out.symm]; exact HMq2.out)).1.swap
      rw [← hw] at ht_
      clear HT
      have HT := Aside0.mk ht_
      clear ht_ hw
      replace BKx := Aside0.mk ((hO_.others _ NXB_gx.out).trans BKx.out)
      replace BKr := Aside0.mk ((hO_.others _ NXB_gr.out).trans BKr.out)
      replace BKn := Aside0.mk ((hO_.others _ NXB_gn.out).trans BKn.out)
      replace BKo := Aside0.mk ((hO_.others _ NXB_go.out).trans BKo.out)
      replace HB := Aside0.mk (hO_.below HB.out GEB.out)
      clear hO_
      clear NXB_gx
      clear NXB_gr
      clear NXB_gn
      clear NXB_go
      rw [show B.set (q1).toNat ((B.getD (q1).toNat []).take (q2).toNat) = lF from HLlF.out.symm] at HT
      refine hK.out _ _ ?_
      clear hK K
      refine done_ Ybb_ ?_
      clear p_q1 q_q1 HVsF HFsF HCsF HRsF
      clear hcut_ hi0_ hsz0_ HQ0 HQ1 HMq2
      obtain ⟨hzgx_0, hzgx_1, hzgx_2⟩ := cl3_ BKx.out
      obtain ⟨hzgn_0, hzgn_1, hzgn_2⟩ := cl3_ BKn.out
      obtain ⟨hzgo_0, hzgo_1, hzgo_2⟩ := cl3_ BKo.out
      unfold lmPutY at h
      have hwn_ : wrap64 ((nY : Int) - 1) = (nY : Int) - 1 := by have h1_ := HT.out.reads; have h2_ := h1_.2.2.2.1; have h3_ := h1_.1; unfold wrap64; omega
      have HWI := Aside0.mk (show Bi.f a1_2 0 ((nY : Int) - 1) = some (inRows Y a1_2) from by rw [HT.out.reads.1]; exact l1In_f2 _ _ _)
      cases cW : inRows Y a1_2 with
      | false =>
       rw [cW] at HWI
       rw [cW, if_neg (by decide)] at h
       simp only [Option.some.injEq, Prod.mk.injEq] at h
       obtain ⟨rfl, rfl, rfl, rfl⟩ := h
       clear BKx
       clear BKo
       clear HT
       go_wp2_with (first | (go_at_call 71; (with_reducible refine (Bi.calls a1_2 0 ((nY : Int) - 1) false _ HWI.out).mono ?_); rintro e w14 ⟨rfl, hd_⟩; (try clear hzgn_0); (try clear hzgn_1); (try clear hzgn_2); (try clear hzgo_0); (try clear hzgo_1); (try clear hzgo_2); (try clear hzgx_0); (try clear hzgx_1); (try clear hzgx_2); have hb := Drawn0.below hd_; clear hd_; replace BKr := Aside0.mk (blk_below BKr.out hb); replace BKn := Aside0.mk (blk_below BKn.out hb); replace HB := Aside0.mk (below_step HB.out hb); clear hb; obtain ⟨hzgn_0, hzgn_1, hzgn_2⟩ := cl3_ BKn.out) | ((with_reducible refine gate_store (t := 34) (p := 4) rfl ?_); refine Go.Proofs.YtnggfglmjdiaaaaOwn.sto3 (t := 34) (p := 4) (g := gr) (w0 := w) Ybb_ rfl rfl rfl rfl (by rfl) BKr.out HB.out GEgr.out ?_; intro w15 hbx_ hB_ hO_; (try clear hzgn_0); (try clear hzgn_1); (try clear hzgn_2); clear BKr HB hO_; have BKr := Aside0.mk hbx_; have HB := Aside0.mk hB_; clear hbx_ hB_))
       refine bodyPost_ret (Df rfl _ _ gr 34 #[.slice none 0 0, .int .i64 0, .slice none 0 0] (0, 0) _ rfl BKr.out Try.underlying34 rfl Ybb_) rfl ?_
       exact ⟨_, _, rfl, Go.Proofs.YtnggfglmjdiaaaaOwn.TT.nil _ _ _, HB.out⟩
      | true =>
       rw [cW] at HWI
       rw [cW, if_pos rfl] at h
       have Pa1_2 := Aside0.mk (show 0 ≤ a1_2 ∧ a1_2 < (nY : Int) from by have h1_ := inRows_lt cW; have h2_ := HT.out.reads.1; omega)
       clear cW
       obtain ⟨sG, hsG⟩ : ∃ z, z = rd_L1 Y a1_2 := ⟨_, rfl⟩
       rw [← hsG] at h
       have HSsG := Aside0.mk hsG
       clear hsG
       by_cases cS : (Dh.f sG).isSome = true
       ·rw [if_pos cS] at h
        clear cS
        replace h := Option.bind_eq_some_iff.mp h
        obtain ⟨sC, a_, h⟩ := h
        have A3 := Aside0.mk a_
        clear a_
        by_cases cL : sC.length < 17592186044415
        ·rw [if_pos cL] at h
         have HLsC := Aside0.mk cL
         clear cL
         obtain ⟨sH, hsH⟩ : ∃ z, z = sC ++ [a1_1] := ⟨_, rfl⟩
         have HSsH := Aside0.mk hsH
         obtain ⟨lG, hlG⟩ : ∃ z, z = Y.set (a1_2).toNat (sC ++ [a1_1]) := ⟨_, rfl⟩
         have HLlG := Aside0.mk (show lG = Y.set (a1_2).toNat sH from by rw [hlG, hsH])
         rw [← hlG] at h
         clear hlG hsH
         replace h := Option.bind_eq_some_iff.mp h
         obtain ⟨vv, a_, h⟩ := h
         have A4 := Aside0.mk a_
         clear a_
         go_upto_region 18 with (first | (go_at_call 71; (with_reducible refine (Bi.calls a1_2 0 ((nY : Int) - 1) true _ HWI.out).mono ?_); rintro e w16 ⟨rfl, hd_⟩; (try clear hzgn_0); (try clear hzgn_1); (try clear hzgn_2); (try clear hzgo_0); (try clear hzgo_1); (try clear hzgo_2); (try clear hzgx_0); (try clear hzgx_1); (try clear hzgx_2); have hb := Drawn0.below hd_; clear hd_; replace HT := Aside0.mk (HT.out.below hb); replace BKx := Aside0.mk (blk_below BKx.out hb); replace BKr := Aside0.mk (blk_below BKr.out hb); replace BKn := Aside0.mk (blk_below BKn.out hb); replace BKo := Aside0.mk (blk_below BKo.out hb); replace HB := Aside0.mk (below_step HB.out hb); clear hb))
         clear hwn_ HWI
         obtain ⟨gY_, eg_, gb_, gl_⟩ := HT.out.form Ydi_
         have GEY := Aside0.mk gb_
         clear gb_ gl_
         subst eg_
         obtain ⟨AsG, csG, hv_, hc_, hC_, hf_⟩ := Go.Proofs.YtnggfglmjdiaaaaOwn.TT.elem HT.out (i := a1_2) Pa1_2.out.1 Ydi_
         have e_ : (Y.getD (a1_2).toNat []) = sG := HSsG.out.symm
         rw [e_] at hv_ hc_ hC_
         clear e_
         have HVsG := Aside0.mk hv_
         have HCsG := Aside0.mk hc_
         have HRsG := Aside0.mk hC_
         have HFsG := Aside0.mk hf_
         clear hv_ hc_ hC_ hf_
         have NXY_gx := Aside0.mk (Go.Proofs.YtnggfglmjdiaaaaOwn.TT.ne HT.out BKx.out (by decide))
         have NXY_gr := Aside0.mk (Go.Proofs.YtnggfglmjdiaaaaOwn.TT.ne HT.out BKr.out (by decide))
         have NXY_gn := Aside0.mk (Go.Proofs.YtnggfglmjdiaaaaOwn.TT.ne HT.out BKn.out (by decide))
         have NXY_go := Aside0.mk (Go.Proofs.YtnggfglmjdiaaaaOwn.TT.ne HT.out BKo.out (by decide))
         have p_a1_2 : 0 ≤ a1_2 := Pa1_2.out.1
         have q_a1_2 : a1_2 < (nY : Int) := Pa1_2.out.2
         replace p_a1_2 := eq_true p_a1_2
         replace q_a1_2 := eq_true q_a1_2
         replace HT := Aside0.mk (HT.out.drew)
         replace BKx := Aside0.mk (blk_drew BKx.out)
         replace BKr := Aside0.mk (blk_drew BKr.out)
         replace BKn := Aside0.mk (blk_drew BKn.out)
         replace BKo := Aside0.mk (blk_drew BKo.out)
         replace HB := Aside0.mk (below_drew1 HB.out)
         replace HVsG := Aside0.mk ((show (w16.drew).cell? ⟨gY_, (a1_2).toNat, none⟩ = some (.slice AsG sG.length csG) from HVsG.out))
         replace HFsG := Aside0.mk ((show (w16.drew).frozen? ⟨gY_, (a1_2).toNat, none⟩ = false from HFsG.out))
         replace HRsG := Aside0.mk ((show Kd.C (Kd.int .i64) (w16.drew) AsG sG.length sG from HRsG.out))
         refine start_ (n := 19) (S := fun w' => w'.cell? ⟨gY_, (a1_2).toNat, none⟩ = some (.slice AsG sG.length csG) ∧ w'.cell? ⟨go, 0, none⟩ = some (.slice (some ⟨gY_, 0, none⟩) nY cY) ∧ w'.cell? ⟨gx, 1, none⟩ = some (.int .i64 a1_1) ∧ w'.cell? ⟨gx, 2, none⟩ = some (.int .i64 a1_2)) (ds := [18]) #[false, false, false, false, false, false, false, false, false, false, false, false, false, false, false, false, false, false, false] Ybb_ rfl rfl ⟨HVsG.out, (blk_cell BKo.out 0).trans rfl, (blk_cell BKx.out 1).trans rfl, (blk_cell BKx.out 2).trans rfl⟩ (fun hHeld => ?_)
         generalize w16.drew = w17 at HT BKx BKr BKn BKo HB HVsG HFsG HRsG hHeld ⊢
         refine pure_ (i := 0) (N := some 117) #[true, false, false, false, false, false, false, false, false, false, false, false, false, false, false, false, false, false, false] rfl rfl Ybb_ (fun _ _ _ h => h) (Or.inl ⟨by rfl, Yba_⟩) Ya_ ?_
         refine pure_ (i := 1) (N := some 118) #[true, true, false, false, false, false, false, false, false, false, false, false, false, false, false, false, false, false, false] rfl rfl Ybb_ (fun _ _ _ h => h) (Or.inl ⟨by rfl, Yba_⟩) Ya_ ?_
         refine pure_ (i := 3) (N := some 120) #[true, true, false, true, false, false, false, false, false, false, false, false, false, false, false, false, false, false, false] rfl rfl Ybb_ (fun _ _ _ h => h) (Or.inl ⟨by rfl, Yba_⟩) Ya_ ?_
         refine pure_ (i := 5) (N := some 122) #[true, true, false, true, false, true, false, false, false, false, false, false, false, false, false, false, false, false, false] rfl rfl Ybb_ (fun _ _ _ h => h) (Or.inl ⟨by rfl, Yba_⟩) Ya_ ?_
         refine pure_ (i := 6) (N := some 123) #[true, true, false, true, false, true, true, false, false, false, false, false, false, false, false, false, false, false, false] rfl rfl Ybb_ (fun _ _ _ h => h) (Or.inl ⟨by rfl, Yba_⟩) Ya_ ?_
         refine pure_ (i := 8) (N := some 125) #[true, true, false, true, false, true, true, false, true, false, false, false, false, false, false, false, false, false, false] rfl rfl Ybb_ (fun _ _ _ h => h) (Or.inl ⟨by rfl, Yba_⟩) Ya_ ?_
         refine pure_ (i := 13) (N := some 130) #[true, true, false, true, false, true, true, false, true, false, false, false, false, true, false, false, false, false, false] rfl rfl Ybb_ (fun _ _ _ h => h) (Or.inl ⟨by rfl, Yba_⟩) Ya_ ?_
         refine take_ (i := 2) (N := some 119) #[true, true, true, true, false, true, true, false, true, false, false, false, false, true, false, false, false, false, false] rfl rfl Ybb_ (fun _ _ _ h => h) (Or.inl ⟨by rfl, Ycg_⟩) hHeld Ya_ ?_
         refine take_ (i := 4) (N := some 121) #[true, true, true, true, true, true, true, false, true, false, false, false, false, true, false, false, false, false, false] rfl rfl Ybb_ (fun _ _ _ h => h) (Or.inl ⟨by rfl, Ycg_⟩) hHeld Ya_ ?_
         refine take_ (i := 7) (N := some 124) #[true, true, true, true, true, true, true, true, true, false, false, false, false, true, false, false, false, false, false] rfl rfl Ybb_ (fun _ _ _ h => h) (Or.inl ⟨by rfl, Ycg_⟩) hHeld Ya_ ?_
         refine take_ (i := 9) (N := some 126) #[true, true, true, true, true, true, true, true, true, true, false, false, false, true, false, false, false, false, false] rfl rfl Ybb_ (fun _ _ _ h => h) (Or.inl ⟨by rfl, Ycg_⟩) hHeld Ya_ ?_
         refine pure_ (i := 10) (N := some 127) #[true, true, true, true, true, true, true, true, true, true, true, false, false, true, false, false, false, false, false] rfl rfl Ybb_ (fun _ _ _ h => h) (Or.inl ⟨by rfl, Yba_⟩) Ya_ ?_
         refine take_ (i := 11) (N := some 128) #[true, true, true, true, true, true, true, true, true, true, true, true, false, true, false, false, false, false, false] rfl rfl Ybb_ (fun _ _ _ h => h) (Or.inl ⟨by rfl, Ycg_⟩) hHeld Ya_ ?_
         refine take_ (i := 14) (N := some 131) #[true, true, true, true, true, true, true, true, true, true, true, true, false, true, true, false, false, false, false] rfl rfl Ybb_ (fun _ _ _ h => h) (Or.inl ⟨by rfl, Ycg_⟩) hHeld Ya_ ?_
         refine join_ (σ := Value × Option Addr × Nat) 3 #[true, true, true, true, true, true, true, true, true, true, true, true, true, true, true, true, false, false, false] (fun s => match s with | ⟨vC, A40, c40⟩ => [(129, vC), (132, .slice A40 ([a1_1] : List Int).length c40)]) (fun s w' => match s with | ⟨vC, A40, c40⟩ => Aside0 (Kd.R (Kd.int .i64) 3 w' w17.heap.size (fun _ => True) vC sC) ∧ Aside0 (Kd.R (Kd.int .i64) 3 w' w17.heap.size (fun _ => True) (.slice A40 ([a1_1] : List Int).length c40) [a1_1]) ∧ Aside0 (Below w17.heap.size w17 w')) ?_ ?_
         rotate_left
         ·intro hCont
          refine two_ (i := 12) (j := 15) (Ni := some 129) (Nj := some 132) #[true, true, true, true, true, true, true, true, true, true, true, true, true, true, true, false, false, false, false] #[true, true, true, true, true, true, true, true, true, true, true, true, false, true, true, true, false, false, false] rfl rfl rfl rfl Ybb_ (by decide) (by decide) (fun K hK => ?_) (fun K hK => ?_)
          ·skip
           have HB2 := Aside0.mk (Below.refl w17.heap.size w17)
           refine goes_ Try.func72 Ybb_ rfl #[.slice AsG sG.length csG] (by rfl) rfl rfl Yfa_ ?_
           with_reducible refine (Dh.calls _ _ sG sC _ (Kd.C_below HRsG.out HB2.out) HCsG.out A3.out).mono ?_
           rintro e W1_ ⟨vC, rfl, ho_, hb_⟩
           refine ⟨_, rfl, ?_⟩
           have HN := Aside0.mk (Kd.R_lower ho_ (below_size HB2.out))
           have m_ := Aside0.mk (below_step HB2.out hb_)
           clear HB2 ho_ hb_
           have HB2 := m_
           clear m_
           refine hK.out _ _ ⟨(HB2.out.cell (World.block_lt_of_cell? _ _ HVsG.out)).trans HVsG.out, (blk_cell (blk_below BKo.out HB2.out) 0).trans rfl, (blk_cell (blk_below BKx.out HB2.out) 1).trans rfl, (blk_cell (blk_below BKx.out HB2.out) 2).trans rfl⟩ (fun hHeld => ?_)
           clear hK K
           refine norm_ (show Act.put _ (some 129) _ = _ from Ya_) ?_
           refine one_ (i := 15) (N := some 132) #[true, true, true, true, true, true, true, true, true, true, true, true, true, true, true, true, false, false, false] rfl rfl Ybb_ (by decide) (fun K hK => ?_)
           refine Kd.Gj (Kd.int .i64) w17.heap.size 3 ?hg (N := 132) ?hd (xs := ([a1_1] : List Int)) (inner := [.int .i64 a1_1]) (ok := fun _ => True) (okp := fun _ => True) ?hr ?hp (fun _ hk => hk) trivial HB2.out (below_size HB2.out) (by simp) ?_; (case hd => rfl); (case hg => rfl); (case hr => first | (go_simp; done) | (go_simp; rfl)); (case hp => exact (Reps.one (show Kd.M (Kd.int .i64) _ _ _ a1_1 [.int .i64 a1_1] from rfl) (Reps.none _ _)))
           intro vL_ W2_ ho hb hg_ hnew_
           obtain ⟨A40, c40, e40_⟩ := Kd.Dc ho
           subst e40_
           have HL := Aside0.mk ho
           replace HN := Aside0.mk (Kd.R_grown HN.out hg_ (fun _ _ h_ => nomatch h_))
           clear HB2
           have HB2 := Aside0.mk hb
           clear hb hg_ hnew_ ho
           refine hK.out _ _ ⟨(HB2.out.cell (World.block_lt_of_cell? _ _ HVsG.out)).trans HVsG.out, (blk_cell (blk_below BKo.out HB2.out) 0).trans rfl, (blk_cell (blk_below BKx.out HB2.out) 1).trans rfl, (blk_cell (blk_below BKx.out HB2.out) 2).trans rfl⟩ (fun hHeld => ?_)
           clear hK K
           refine norm_ (show Act.put _ (some 132) _ = _ from Ya_) ?_
           exact norm_ Yda_ (hCont (vC, A40, c40) _ ⟨HN, HL, HB2⟩)
          ·skip
           have HB2 := Aside0.mk (Below.refl w17.heap.size w17)
           refine Kd.Gj (Kd.int .i64) w17.heap.size 3 ?hg (N := 132) ?hd (xs := ([a1_1] : List Int)) (inner := [.int .i64 a1_1]) (ok := fun _ => True) (okp := fun _ => True) ?hr ?hp (fun _ hk => hk) trivial HB2.out (below_size HB2.out) (by simp) ?_; (case hd => rfl); (case hg => rfl); (case hr => first | (go_simp; done) | (go_simp; rfl)); (case hp => exact (Reps.one (show Kd.M (Kd.int .i64) _ _ _ a1_1 [.int .i64 a1_1] from rfl) (Reps.none _ _)))
           intro vL_ W1_ ho hb hg_ hnew_
           obtain ⟨A40, c40, e40_⟩ := Kd.Dc ho
           subst e40_
           have HL := Aside0.mk ho
           clear HB2
           have HB2 := Aside0.mk hb
           clear hb hg_ hnew_ ho
           refine hK.out _ _ ⟨(HB2.out.cell (World.block_lt_of_cell? _ _ HVsG.out)).trans HVsG.out, (blk_cell (blk_below BKo.out HB2.out) 0).trans rfl, (blk_cell (blk_below BKx.out HB2.out) 1).trans rfl, (blk_cell (blk_below BKx.out HB2.out) 2).trans rfl⟩ (fun hHeld => ?_)
           clear hK K
           refine norm_ (show Act.put _ (some 132) _ = _ from Ya_) ?_
           refine one_ (i := 12) (N := some 129) #[true, true, true, true, true, true, true, true, true, true, true, true, true, true, true, true, false, false, false] rfl rfl Ybb_ (by decide) (fun K hK => ?_)
           refine goes_ Try.func72 Ybb_ rfl #[.slice AsG sG.length csG] (by rfl) rfl rfl Yfa_ ?_
           with_reducible refine (Dh.calls _ _ sG sC _ (Kd.C_below HRsG.out HB2.out) HCsG.out A3.out).mono ?_
           rintro e W2_ ⟨vC, rfl, ho_, hb_⟩
           refine ⟨_, rfl, ?_⟩
           have HN := Aside0.mk (Kd.R_lower ho_ (below_size HB2.out))
           replace HL := Aside0.mk (Kd.Cb HL.out hb_)
           have m_ := Aside0.mk (below_step HB2.out hb_)
           clear HB2 ho_ hb_
           have HB2 := m_
           clear m_
           refine hK.out _ _ ⟨(HB2.out.cell (World.block_lt_of_cell? _ _ HVsG.out)).trans HVsG.out, (blk_cell (blk_below BKo.out HB2.out) 0).trans rfl, (blk_cell (blk_below BKx.out HB2.out) 1).trans rfl, (blk_cell (blk_below BKx.out HB2.out) 2).trans rfl⟩ (fun hHeld => ?_)
           clear hK K
           refine norm_ (show Act.put _ (some 129) _ = _ from Ya_) ?_
           exact norm_ Yda_ (hCont (vC, A40, c40) _ ⟨HN, HL, HB2⟩)
         rintro ⟨vC, A40, c40⟩ W4_ ⟨HN, HL, HB2⟩
         have hHeld : (fun w' => w'.cell? ⟨gY_, (a1_2).toNat, none⟩ = some (.slice AsG sG.length csG) ∧ w'.cell? ⟨go, 0, none⟩ = some (.slice (some ⟨gY_, 0, none⟩) nY cY) ∧ w'.cell? ⟨gx, 1, none⟩ = some (.int .i64 a1_1) ∧ w'.cell? ⟨gx, 2, none⟩ = some (.int .i64 a1_2)) W4_ := ⟨(HB2.out.cell (World.block_lt_of_cell? _ _ HVsG.out)).trans HVsG.out, (blk_cell (blk_below BKo.out HB2.out) 0).trans rfl, (blk_cell (blk_below BKx.out HB2.out) 1).trans rfl, (blk_cell (blk_below BKx.out HB2.out) 2).trans rfl⟩
         refine norm_ (a' := ?_) ?_ ?_
         rotate_left
         ·simp only [Es, Act.put, List.setIfInBounds_toArray, List.set_cons_zero, List.set_cons_succ]
          rfl
         refine one_ (i := 16) (N := some 133) #[true, true, true, true, true, true, true, true, true, true, true, true, true, true, true, true, true, false, false] rfl rfl Ybb_ (by decide) (fun K hK => ?_)
         refine Kd.Gg (Kd.int .i64) (w0 := w17) w17.heap.size (by rfl) (.tmp 129) (.tmp 132) 73 3 (.int .i64 0) 8 rfl Try.underlying73 info3 rfl (by decide) (by omega) vC sC [a1_1] A40 ([a1_1] : List Int).length c40 (fun _ => True) (fun _ => False) rfl rfl HN.out ((Kd.Bo HL.out).2.2) (fun _ _ h => h) (fun _ h => h.elim) (fun _ _ => trivial) HB2.out (below_size HB2.out) Yge_ ?_
         intro v_ w18 ho hb hg hat
         clear hg hat HN HL HB2
         rw [← HSsH.out] at ho
         obtain ⟨AsH, csH, ev_⟩ := Kd.Dc ho
         subst ev_
         have hk_ := (Go.Proofs.YtnggfglmjdiaaaaOwn.TT.put HT.out (below_size HB.out) hb Pa1_2.out.1 Ydi_ ho).1
         have HT2 := Aside0.mk hk_
         clear hk_ ho HT
         have hv_ := (hb.cell (World.block_lt_of_cell? _ _ HVsG.out)).trans HVsG.out
         have hf_ := (World.frozen?_of_block (hb.block _ (World.block_lt_of_cell? _ _ HVsG.out))).trans HFsG.out
         clear HVsG HFsG
         have HVsG := Aside0.mk hv_
         have HFsG := Aside0.mk hf_
         clear hv_ hf_
         replace BKx := Aside0.mk (blk_below BKx.out hb)
         replace BKr := Aside0.mk (blk_below BKr.out hb)
         replace BKn := Aside0.mk (blk_below BKn.out hb)
         replace BKo := Aside0.mk (blk_below BKo.out hb)
         replace HB := Aside0.mk (below_step HB.out hb)
         clear hb
         refine hK.out _ _ ⟨HVsG.out, (blk_cell BKo.out 0).trans rfl, (blk_cell BKx.out 1).trans rfl, (blk_cell BKx.out 2).trans rfl⟩ (fun hHeld => ?_)
         clear hK K
         refine norm_ (show Act.put _ (some 133) _ = _ from Ya_) ?_
         refine pure_ (i := 17) (N := some 134) #[true, true, true, true, true, true, true, true, true, true, true, true, true, true, true, true, true, true, false] rfl rfl Ybb_ (fun _ _ _ h => h) (Or.inl ⟨by rfl, Yba_⟩) Ya_ ?_
         refine last_ (i := 18) (N := none) #[true, true, true, true, true, true, true, true, true, true, true, true, true, true, true, true, true, true, true] rfl rfl Ybb_ (by decide) (fun K hK => ?_)
         have hv_ := HVsG.out
         have hf_ := HFsG.out
         refine Go.Proofs.YtnggfglmjdiaaaaOwn.F6 (w1 := (w18.setCell ⟨gY_, (a1_2).toNat, none⟩ (.slice AsH sH.length csH))) (by rfl) rfl ?_ ?_
         ·first | (go_simp; done) | (go_simp; rfl)
         intro w19 hw
         clear hv_ hf_
         have HT := HT2
         clear HT2
         have hO_ : Go.Proofs.YtnggfglmjdiaaaaOwn.Only w18 w19 gY_ := Ycj_
         have ht_ := HT.out
         rw [← hw] at ht_
         clear HT
         have HT := Aside0.mk ht_
         clear ht_ hw
         replace BKx := Aside0.mk ((hO_.others _ NXY_gx.out).trans BKx.out)
         replace BKr := Aside0.mk ((hO_.others _ NXY_gr.out).trans BKr.out)
         replace BKn := Aside0.mk ((hO_.others _ NXY_gn.out).trans BKn.out)
         replace BKo := Aside0.mk ((hO_.others _ NXY_go.out).trans BKo.out)
         replace HB := Aside0.mk (hO_.below HB.out GEY.out)
         clear hO_
         clear NXY_gx
         clear NXY_gr
         clear NXY_gn
         clear NXY_go
         rw [show Y.set (a1_2).toNat sH = lG from HLlG.out.symm] at HT
         refine hK.out _ _ ?_
         clear hK K
         refine done_ Ybb_ ?_
         clear p_a1_2 q_a1_2 HVsG HFsG HCsG HRsG
         have hy_ := HT.out.reads
         have hb_ := HT.out.swap.reads
         have call_ := Ad.calls k (some ⟨gY_, 0, none⟩) cY lG hh (some ⟨gB_, 0, none⟩) cB lF vv _ hy_.2.2 (hy_.1 ▸ hy_.2.1) hb_.2.2 (hb_.1 ▸ hb_.2.1) A4.out
         rw [← hy_.1, ← hb_.1] at call_
         have CALLV := Aside0.mk call_
         clear call_ hy_ hb_
         clear BKx
         obtain ⟨hzgn_0, hzgn_1, hzgn_2⟩ := cl3_ BKn.out
         obtain ⟨hzgo_0, hzgo_1, hzgo_2⟩ := cl3_ BKo.out
         cases vv with
         | false =>
          simp only [Fq, Bool.false_eq_true, if_false] at h
          simp only [Option.some.injEq, Prod.mk.injEq] at h
          obtain ⟨rfl, rfl, rfl, rfl⟩ := h
          clear BKo
          clear HT
          go_wp2_with (first | (go_at_call 39; (with_reducible refine (CALLV.out).mono ?_); rintro e w20 ⟨rfl, hb⟩; (try clear hzgn_0); (try clear hzgn_1); (try clear hzgn_2); (try clear hzgo_0); (try clear hzgo_1); (try clear hzgo_2); replace BKr := Aside0.mk (blk_below BKr.out hb); replace BKn := Aside0.mk (blk_below BKn.out hb); replace HB := Aside0.mk (below_step HB.out hb); clear hb; obtain ⟨hzgn_0, hzgn_1, hzgn_2⟩ := cl3_ BKn.out) | ((with_reducible refine gate_store (t := 34) (p := 4) rfl ?_); refine Go.Proofs.YtnggfglmjdiaaaaOwn.sto3 (t := 34) (p := 4) (g := gr) (w0 := w) Ybb_ rfl rfl rfl rfl (by rfl) BKr.out HB.out GEgr.out ?_; intro w21 hbx_ hB_ hO_; (try clear hzgn_0); (try clear hzgn_1); (try clear hzgn_2); clear BKr HB hO_; have BKr := Aside0.mk hbx_; have HB := Aside0.mk hB_; clear hbx_ hB_))
          refine bodyPost_ret (Df rfl _ _ gr 34 #[.slice none 0 0, .int .i64 0, .slice none 0 0] (0, 0) _ rfl BKr.out Try.underlying34 rfl Ybb_) rfl ?_
          exact ⟨_, _, rfl, Go.Proofs.YtnggfglmjdiaaaaOwn.TT.nil _ _ _, HB.out⟩
         | true =>
          simp only [Fq, if_true] at h
          simp only [Option.some.injEq, Prod.mk.injEq] at h
          obtain ⟨rfl, rfl, rfl, rfl⟩ := h
          clear BKn
          go_wp2_with (first | (go_at_call 39; (with_reducible refine (CALLV.out).mono ?_); rintro e w22 ⟨rfl, hb⟩; (try clear hzgn_0); (try clear hzgn_1); (try clear hzgn_2); (try clear hzgo_0); (try clear hzgo_1); (try clear hzgo_2); replace HT := Aside0.mk (HT.out.below hb); replace BKr := Aside0.mk (blk_below BKr.out hb); replace BKo := Aside0.mk (blk_below BKo.out hb); replace HB := Aside0.mk (below_step HB.out hb); clear hb; obtain ⟨hzgo_0, hzgo_1, hzgo_2⟩ := cl3_ BKo.out) | ((with_reducible refine gate_store (t := 34) (p := 4) rfl ?_); refine Go.Proofs.YtnggfglmjdiaaaaOwn.sto3 (t := 34) (p := 4) (g := gr) (w0 := w) Ybb_ rfl rfl rfl rfl (by rfl) BKr.out HB.out GEgr.out ?_; intro w23 hbx_ hB_ hO_; (try clear hzgo_0); (try clear hzgo_1); (try clear hzgo_2); replace HT := Aside0.mk (HT.out.only BKr.out (by decide) hO_); clear BKr HB hO_; have BKr := Aside0.mk hbx_; have HB := Aside0.mk hB_; clear hbx_ hB_))
          refine bodyPost_ret (Df rfl _ _ gr 34 #[.slice (some ⟨gY_, 0, none⟩) nY cY, .int .i64 hh, .slice (some ⟨gB_, 0, none⟩) nB cB] (0, 0) _ rfl BKr.out Try.underlying34 rfl Ybb_) rfl ?_
          exact ⟨_, _, rfl, HT.out, HB.out⟩
        ·rw [if_neg cL] at h
         cases h
       ·rw [if_neg cS] at h
        cases h
     ·rw [if_neg c5] at h
      cases h
    ·rw [if_neg c3] at h
     simp only [Option.some.injEq, Prod.mk.injEq] at h
     obtain ⟨rfl, rfl, rfl, rfl⟩ := h
     have d1_ : (q2 == (sT.length : Int) - 1) = false := by simp [c3]
     have d2_ : decide (q2 = (sT.length : Int) - 1) = false := decide_eq_false c3
     have d3_ : (q2 != (sT.length : Int) - 1) = true := by simp [c3]
     clear c3
     clear BKx
     clear BKo
     clear HT
     go_wp2_with (first | (go_at_call 48; (with_reducible refine (spec_l9Find.calls k a0_1 _ _ l0_2 a1_1 q1 q2 _ (Kd.C_below HR0_2.out HB.out) HC0_2.out A2.out).mono ?_); rintro e w24 ⟨rfl, hb⟩; (try clear hzgn_0); (try clear hzgn_1); (try clear hzgn_2); (try clear hzgt_0); (try clear hzgt_1); (try clear hzgt_2); (try clear hzgx_0); (try clear hzgx_1); (try clear hzgx_2); replace BKt := Aside0.mk (blk_below BKt.out hb); replace BKr := Aside0.mk (blk_below BKr.out hb); replace BKn := Aside0.mk (blk_below BKn.out hb); replace HB := Aside0.mk (below_step HB.out hb); have hxt_ : w24.cell? (adT.add q1.toNat) = some (.slice AT sT.length cT) := (HB.out.cell (World.block_lt_of_cell? w _ HXT.out)).trans HXT.out; clear hb; obtain ⟨hzgt_0, hzgt_1, hzgt_2⟩ := cl3_ BKt.out; obtain ⟨hzgn_0, hzgn_1, hzgn_2⟩ := cl3_ BKn.out) | ((with_reducible refine gate_store (t := 34) (p := 4) rfl ?_); refine Go.Proofs.YtnggfglmjdiaaaaOwn.sto3 (t := 34) (p := 4) (g := gr) (w0 := w) Ybb_ rfl rfl rfl rfl (by rfl) BKr.out HB.out GEgr.out ?_; intro w25 hbx_ hB_ hO_; (try clear hzgn_0); (try clear hzgn_1); (try clear hzgn_2); (try clear hzgt_0); (try clear hzgt_1); (try clear hzgt_2); clear BKr HB hO_; have BKr := Aside0.mk hbx_; have HB := Aside0.mk hB_; clear hbx_ hB_))
     refine bodyPost_ret (Df rfl _ _ gr 34 #[.slice none 0 0, .int .i64 0, .slice none 0 0] (0, 0) _ rfl BKr.out Try.underlying34 rfl Ybb_) rfl ?_
     exact ⟨_, _, rfl, Go.Proofs.YtnggfglmjdiaaaaOwn.TT.nil _ _ _, HB.out⟩
   ·rw [if_neg c2] at h
    cases h
 ·rw [if_neg k3] at h
  by_cases k1 : a1_0 = 1
  ·simp only [if_pos k1] at h
   subst k1
   clear k3
   replace h := Option.bind_eq_some_iff.mp h
   obtain ⟨⟨q1, q2⟩, a_, h⟩ := h
   have A2 := Aside0.mk a_
   clear a_
   dsimp only at h
   unfold lmCut at h
   by_cases c1 : q1 < 0
   ·rw [if_pos c1] at h
    simp only [Option.some.injEq, Prod.mk.injEq] at h
    obtain ⟨rfl, rfl, rfl, rfl⟩ := h
    have cb1 : decide (q1 < 0) = true := decide_eq_true c1
    clear c1
    clear BKx
    clear BKo
    clear HT
    go_wp2_with (first | (go_at_call 47; (with_reducible refine (spec_l5Find.calls k _ _ l0_0 a1_1 q1 q2 _ (Kd.C_below HR0_0.out HB.out) HC0_0.out A2.out).mono ?_); rintro e w26 ⟨rfl, hb⟩; (try clear hzgn_0); (try clear hzgn_1); (try clear hzgn_2); (try clear hzgt_0); (try clear hzgt_1); (try clear hzgt_2); (try clear hzgx_0); (try clear hzgx_1); (try clear hzgx_2); replace BKt := Aside0.mk (blk_below BKt.out hb); replace BKr := Aside0.mk (blk_below BKr.out hb); replace BKn := Aside0.mk (blk_below BKn.out hb); replace HB := Aside0.mk (below_step HB.out hb); clear hb; obtain ⟨hzgn_0, hzgn_1, hzgn_2⟩ := cl3_ BKn.out) | ((with_reducible refine gate_store (t := 34) (p := 4) rfl ?_); refine Go.Proofs.YtnggfglmjdiaaaaOwn.sto3 (t := 34) (p := 4) (g := gr) (w0 := w) Ybb_ rfl rfl rfl rfl (by rfl) BKr.out HB.out GEgr.out ?_; intro w27 hbx_ hB_ hO_; (try clear hzgn_0); (try clear hzgn_1); (try clear hzgn_2); clear BKr HB hO_; have BKr := Aside0.mk hbx_; have HB := Aside0.mk hB_; clear hbx_ hB_))
    refine bodyPost_ret (Df rfl _ _ gr 34 #[.slice none 0 0, .int .i64 0, .slice none 0 0] (0, 0) _ rfl BKr.out Try.underlying34 rfl Ybb_) rfl ?_
    exact ⟨_, _, rfl, Go.Proofs.YtnggfglmjdiaaaaOwn.TT.nil _ _ _, HB.out⟩
   ·rw [if_neg c1] at h
    by_cases c2 : q1 < (l0_0.length : Int)
    ·rw [if_pos c2] at h
     have cb1 : decide (q1 < 0) = false := decide_eq_false c1
     have p_ : 0 ≤ q1 := by omega
     obtain ⟨adT, AT, cT, eT, hx_, hl_, hi_⟩ := Cj HR0_0.out q1 p_ c2
     subst eT
     have hlw_ := hi_.2.1
     obtain ⟨sT, hsT⟩ : ∃ z, z = rd_L1 l0_0 q1 := ⟨_, rfl⟩
     rw [← hsT] at h hx_ hlw_
     clear hl_ hi_ hsT
     have HXT := Aside0.mk hx_
     clear hx_
     have hwt_ : wrap64 ((sT.length : Int) - 1) = (sT.length : Int) - 1 := by unfold wrap64; omega
     clear hlw_
     have C1 := Aside0.mk p_
     have C2 := Aside0.mk c2
     have p1_ := eq_true p_
     have q1_ := eq_true c2
     clear p_ c1 c2
     by_cases c3 : q2 = (sT.length : Int) - 1
     ·rw [if_pos c3] at h
      have d1_ : (q2 == (sT.length : Int) - 1) = true := by simp [c3]
      have d2_ : decide (q2 = (sT.length : Int) - 1) = true := decide_eq_true c3
      have d3_ : (q2 != (sT.length : Int) - 1) = false := by simp [c3]
      clear c3
      by_cases c4 : a1_2 = q1
      ·simp only [c4, decide_true, Bool.not_true, Bool.false_eq_true, if_false] at h
       simp only [Option.some.injEq, Prod.mk.injEq] at h
       obtain ⟨rfl, rfl, rfl, rfl⟩ := h
       have e1_ : (a1_2 == q1) = true := by simp [c4]
       have e2_ : decide (a1_2 = q1) = true := decide_eq_true c4
       clear c4
       clear BKo
       clear HT
       go_wp2_with (first | (go_at_call 47; (with_reducible refine (spec_l5Find.calls k _ _ l0_0 a1_1 q1 q2 _ (Kd.C_below HR0_0.out HB.out) HC0_0.out A2.out).mono ?_); rintro e w28 ⟨rfl, hb⟩; (try clear hzgn_0); (try clear hzgn_1); (try clear hzgn_2); (try clear hzgt_0); (try clear hzgt_1); (try clear hzgt_2); (try clear hzgx_0); (try clear hzgx_1); (try clear hzgx_2); replace BKt := Aside0.mk (blk_below BKt.out hb); replace BKx := Aside0.mk (blk_below BKx.out hb); replace BKr := Aside0.mk (blk_below BKr.out hb); replace BKn := Aside0.mk (blk_below BKn.out hb); replace HB := Aside0.mk (below_step HB.out hb); have hxt_ : w28.cell? (adT.add q1.toNat) = some (.slice AT sT.length cT) := (HB.out.cell (World.block_lt_of_cell? w _ HXT.out)).trans HXT.out; clear hb; obtain ⟨hzgt_0, hzgt_1, hzgt_2⟩ := cl3_ BKt.out; obtain ⟨hzgx_0, hzgx_1, hzgx_2⟩ := cl3_ BKx.out; obtain ⟨hzgn_0, hzgn_1, hzgn_2⟩ := cl3_ BKn.out) | ((with_reducible refine gate_store (t := 34) (p := 4) rfl ?_); refine Go.Proofs.YtnggfglmjdiaaaaOwn.sto3 (t := 34) (p := 4) (g := gr) (w0 := w) Ybb_ rfl rfl rfl rfl (by rfl) BKr.out HB.out GEgr.out ?_; intro w29 hbx_ hB_ hO_; (try clear hzgn_0); (try clear hzgn_1); (try clear hzgn_2); (try clear hzgt_0); (try clear hzgt_1); (try clear hzgt_2); (try clear hzgx_0); (try clear hzgx_1); (try clear hzgx_2); clear BKr HB hO_; have BKr := Aside0.mk hbx_; have HB := Aside0.mk hB_; clear hbx_ hB_))
       refine bodyPost_ret (Df rfl _ _ gr 34 #[.slice none 0 0, .int .i64 0, .slice none 0 0] (0, 0) _ rfl BKr.out Try.underlying34 rfl Ybb_) rfl ?_
       exact ⟨_, _, rfl, Go.Proofs.YtnggfglmjdiaaaaOwn.TT.nil _ _ _, HB.out⟩
      ·rw [show (!decide (a1_2 = q1)) = true from by simp [c4], if_pos rfl] at h
       have e1_ : (a1_2 == q1) = false := by simp [c4]
       have e2_ : decide (a1_2 = q1) = false := decide_eq_false c4
       clear c4
       by_cases c5 : 0 ≤ q2 ∧ q1 < (Y.length : Int) ∧ q2 ≤ ((rd_L1 Y q1).length : Int)
       ·rw [if_pos c5] at h
        obtain ⟨sF, hsF⟩ : ∃ z, z = rd_L1 Y q1 := ⟨_, rfl⟩
        rw [← hsF] at c5
        have HSsF := Aside0.mk hsF
        obtain ⟨c5, c6, c7⟩ := c5
        have Pq1 := Aside0.mk (show 0 ≤ q1 ∧ q1 < (nY : Int) from ⟨C1.out, by have := HT.out.reads.1; omega⟩)
        have HMq2 := Aside0.mk (show (q2).toNat ≤ sF.length from by omega)
        have HQ0 := Aside0.mk c5
        have HQ1 := Aside0.mk c7
        clear c5 c6 c7
        obtain ⟨lF, hlF⟩ : ∃ z, z = cutAt Y q1 q2 := ⟨_, rfl⟩
        have HLlF := Aside0.mk (show lF = Y.set (q1).toNat ((Y.getD (q1).toNat []).take (q2).toNat) from hlF)
        rw [← hlF] at h
        (try dsimp only at h)
        clear hlF hsF
        go_upto_region 11 with (first | (go_at_call 47; (with_reducible refine (spec_l5Find.calls k _ _ l0_0 a1_1 q1 q2 _ (Kd.C_below HR0_0.out HB.out) HC0_0.out A2.out).mono ?_); rintro e w30 ⟨rfl, hb⟩; (try clear hzgn_0); (try clear hzgn_1); (try clear hzgn_2); (try clear hzgt_0); (try clear hzgt_1); (try clear hzgt_2); (try clear hzgx_0); (try clear hzgx_1); (try clear hzgx_2); replace HT := Aside0.mk (HT.out.below hb); replace BKt := Aside0.mk (blk_below BKt.out hb); replace BKx := Aside0.mk (blk_below BKx.out hb); replace BKr := Aside0.mk (blk_below BKr.out hb); replace BKn := Aside0.mk (blk_below BKn.out hb); replace BKo := Aside0.mk (blk_below BKo.out hb); replace HB := Aside0.mk (below_step HB.out hb); have hxt_ : w30.cell? (adT.add q1.toNat) = some (.slice AT sT.length cT) := (HB.out.cell (World.block_lt_of_cell? w _ HXT.out)).trans HXT.out; clear hb; obtain ⟨hzgt_0, hzgt_1, hzgt_2⟩ := cl3_ BKt.out; obtain ⟨hzgx_0, hzgx_1, hzgx_2⟩ := cl3_ BKx.out))
        clear hwt_ d1_ d2_ d3_ p1_ q1_
        (try clear hxt_)
        (try clear hzgt_0)
        (try clear hzgt_1)
        (try clear hzgt_2)
        (try clear hzgx_0)
        (try clear hzgx_1)
        (try clear hzgx_2)
        clear BKt
        obtain ⟨gY_, eg_, gb_, gl_⟩ := HT.out.form Yei_
        have GEY := Aside0.mk gb_
        clear gb_ gl_
        subst eg_
        obtain ⟨AsF, csF, hv_, hc_, hC_, hf_⟩ := Go.Proofs.YtnggfglmjdiaaaaOwn.TT.elem HT.out (i := q1) Pq1.out.1 Yei_
        have e_ : (Y.getD (q1).toNat []) = sF := HSsF.out.symm
        rw [e_] at hv_ hc_ hC_
        clear e_
        have HVsF := Aside0.mk hv_
        have HCsF := Aside0.mk hc_
        have HRsF := Aside0.mk hC_
        have HFsF := Aside0.mk hf_
        clear hv_ hc_ hC_ hf_
        have NXY_gx := Aside0.mk (Go.Proofs.YtnggfglmjdiaaaaOwn.TT.ne HT.out BKx.out (by decide))
        have NXY_gr := Aside0.mk (Go.Proofs.YtnggfglmjdiaaaaOwn.TT.ne HT.out BKr.out (by decide))
        have NXY_gn := Aside0.mk (Go.Proofs.YtnggfglmjdiaaaaOwn.TT.ne HT.out BKn.out (by decide))
        have NXY_go := Aside0.mk (Go.Proofs.YtnggfglmjdiaaaaOwn.TT.ne HT.out BKo.out (by decide))
        have p_q1 : 0 ≤ q1 := Pq1.out.1
        have q_q1 : q1 < (nY : Int) := Pq1.out.2
        replace p_q1 := eq_true p_q1
        replace q_q1 := eq_true q_q1
        obtain ⟨i0_, hi0_, _, hsz0_, _⟩ := info_parts info3
        have hcut_ := cut_to (P := Try.prog) 73 3 .i64 Try.underlying73 hi0_ AsF sF.length csF q2 HQ0.out HQ1.out HCsF.out
        replace HT := Aside0.mk (HT.out.drew)
        replace BKx := Aside0.mk (blk_drew BKx.out)
        replace BKr := Aside0.mk (blk_drew BKr.out)
        replace BKn := Aside0.mk (blk_drew BKn.out)
        replace BKo := Aside0.mk (blk_drew BKo.out)
        replace HB := Aside0.mk (below_drew1 HB.out)
        replace HVsF := Aside0.mk ((show (w30.drew).cell? ⟨gY_, (q1).toNat, none⟩ = some (.slice AsF sF.length csF) from HVsF.out))
        replace HFsF := Aside0.mk ((show (w30.drew).frozen? ⟨gY_, (q1).toNat, none⟩ = false from HFsF.out))
        refine start_ (n := 14) (S := fun w' => w'.cell? ⟨gY_, (q1).toNat, none⟩ = some (.slice AsF sF.length csF) ∧ w'.cell? ⟨go, 0, none⟩ = some (.slice (some ⟨gY_, 0, none⟩) nY cY)) (ds := [13]) #[false, false, false, false, false, false, false, false, false, false, false, false, false, false] Ybb_ rfl rfl ⟨HVsF.out, (blk_cell BKo.out 0).trans rfl⟩ (fun hHeld => ?_)
        generalize w30.drew = w31 at HT BKx BKr BKn BKo HB HVsF HFsF hHeld ⊢
        refine pure_ (i := 0) (N := some 88) #[true, false, false, false, false, false, false, false, false, false, false, false, false, false] rfl rfl Ybb_ (fun _ _ _ h => h) (Or.inl ⟨by rfl, Yba_⟩) Ya_ ?_
        refine pure_ (i := 1) (N := some 89) #[true, true, false, false, false, false, false, false, false, false, false, false, false, false] rfl rfl Ybb_ (fun _ _ _ h => h) (Or.inl ⟨by rfl, Yba_⟩) Ya_ ?_
        refine pure_ (i := 3) (N := some 91) #[true, true, false, true, false, false, false, false, false, false, false, false, false, false] rfl rfl Ybb_ (fun _ _ _ h => h) (Or.inl ⟨by rfl, Yba_⟩) Ya_ ?_
        refine pure_ (i := 4) (N := some 92) #[true, true, false, true, true, false, false, false, false, false, false, false, false, false] rfl rfl Ybb_ (fun _ _ _ h => h) (Or.inl ⟨by rfl, Yba_⟩) Ya_ ?_
        refine pure_ (i := 5) (N := some 93) #[true, true, false, true, true, true, false, false, false, false, false, false, false, false] rfl rfl Ybb_ (fun _ _ _ h => h) (Or.inl ⟨by rfl, Yba_⟩) Ya_ ?_
        refine pure_ (i := 7) (N := some 95) #[true, true, false, true, true, true, false, true, false, false, false, false, false, false] rfl rfl Ybb_ (fun _ _ _ h => h) (Or.inl ⟨by rfl, Yba_⟩) Ya_ ?_
        refine pure_ (i := 10) (N := some 98) #[true, true, false, true, true, true, false, true, false, false, true, false, false, false] rfl rfl Ybb_ (fun _ _ _ h => h) (Or.inl ⟨by rfl, Yba_⟩) Ya_ ?_
        refine take_ (i := 2) (N := some 90) #[true, true, true, true, true, true, false, true, false, false, true, false, false, false] rfl rfl Ybb_ (fun _ _ _ h => h) (Or.inl ⟨by rfl, Ydb_⟩) hHeld Ya_ ?_
        refine take_ (i := 6) (N := some 94) #[true, true, true, true, true, true, true, true, false, false, true, false, false, false] rfl rfl Ybb_ (fun _ _ _ h => h) (Or.inl ⟨by rfl, Ydb_⟩) hHeld Ya_ ?_
        refine pure_ (i := 8) (N := some 96) #[true, true, true, true, true, true, true, true, true, false, true, false, false, false] rfl rfl Ybb_ (fun _ _ _ h => h) (Or.inl ⟨by rfl, Yba_⟩) Ya_ ?_
        refine take_ (i := 9) (N := some 97) #[true, true, true, true, true, true, true, true, true, true, true, false, false, false] rfl rfl Ybb_ (fun _ _ _ h => h) (Or.inl ⟨by rfl, Ydb_⟩) hHeld Ya_ ?_
        refine pure_ (i := 11) (N := some 99) #[true, true, true, true, true, true, true, true, true, true, true, true, false, false] rfl rfl Ybb_ (fun _ _ _ h => h) (Or.inl ⟨by rfl, Yba_⟩) Ya_ ?_
        refine pure_ (i := 12) (N := some 100) #[true, true, true, true, true, true, true, true, true, true, true, true, true, false] rfl rfl Ybb_ (fun _ _ _ h => h) (Or.inl ⟨by rfl, Yba_⟩) Ya_ ?_
        refine last_ (i := 13) (N := none) #[true, true, true, true, true, true, true, true, true, true, true, true, true, true] rfl rfl Ybb_ (by decide) (fun K hK => ?_)
        have hv_ := HVsF.out
        have hf_ := HFsF.out
        refine Go.Proofs.YtnggfglmjdiaaaaOwn.F6 (w1 := (w31.setCell ⟨gY_, (q1).toNat, none⟩ (.slice AsF (q2).toNat csF))) (by rfl) rfl ?_ ?_
        ·first | (go_simp; done) | (go_simp; rfl)
        intro w32 hw
        clear hv_ hf_
        have hO_ : Go.Proofs.YtnggfglmjdiaaaaOwn.Only w31 w32 gY_ := Ycj_
        have ht_ := (Go.Proofs.YtnggfglmjdiaaaaOwn.TT.cut HT.out Pq1.out.1 Yei_ HVsF.out Ygd_).1
        rw [← hw] at ht_
        clear HT
        have HT := Aside0.mk ht_
        clear ht_ hw
        replace BKx := Aside0.mk ((hO_.others _ NXY_gx.out).trans BKx.out)
        replace BKr := Aside0.mk ((hO_.others _ NXY_gr.out).trans BKr.out)
        replace BKn := Aside0.mk ((hO_.others _ NXY_gn.out).trans BKn.out)
        replace BKo := Aside0.mk ((hO_.others _ NXY_go.out).trans BKo.out)
        replace HB := Aside0.mk (hO_.below HB.out GEY.out)
        clear hO_
        clear NXY_gx
        clear NXY_gr
        clear NXY_gn
        clear NXY_go
        rw [show Y.set (q1).toNat ((Y.getD (q1).toNat []).take (q2).toNat) = lF from HLlF.out.symm] at HT
        refine hK.out _ _ ?_
        clear hK K
        refine done_ Ybb_ ?_
        clear p_q1 q_q1 HVsF HFsF HCsF HRsF
        clear hcut_ hi0_ hsz0_ HQ0 HQ1 HMq2
        obtain ⟨hzgx_0, hzgx_1, hzgx_2⟩ := cl3_ BKx.out
        obtain ⟨hzgn_0, hzgn_1, hzgn_2⟩ := cl3_ BKn.out
        obtain ⟨hzgo_0, hzgo_1, hzgo_2⟩ := cl3_ BKo.out
        unfold lmPutY at h
        have hwn_ : wrap64 ((nY : Int) - 1) = (nY : Int) - 1 := by have h1_ := HT.out.reads; have h2_ := h1_.2.2.2.1; have h3_ := h1_.1; unfold wrap64; omega
        have HWI := Aside0.mk (show Bi.f a1_2 0 ((nY : Int) - 1) = some (inRows lF a1_2) from by rw [HT.out.reads.1]; exact l1In_f2 _ _ _)
        cases cW : inRows lF a1_2 with
        | false =>
         rw [cW] at HWI
         rw [cW, if_neg (by decide)] at h
         simp only [Option.some.injEq, Prod.mk.injEq] at h
         obtain ⟨rfl, rfl, rfl, rfl⟩ := h
         clear BKx
         clear BKo
         clear HT
         go_wp2_with (first | (go_at_call 71; (with_reducible refine (Bi.calls a1_2 0 ((nY : Int) - 1) false _ HWI.out).mono ?_); rintro e w33 ⟨rfl, hd_⟩; (try clear hzgn_0); (try clear hzgn_1); (try clear hzgn_2); (try clear hzgo_0); (try clear hzgo_1); (try clear hzgo_2); (try clear hzgx_0); (try clear hzgx_1); (try clear hzgx_2); have hb := Drawn0.below hd_; clear hd_; replace BKr := Aside0.mk (blk_below BKr.out hb); replace BKn := Aside0.mk (blk_below BKn.out hb); replace HB := Aside0.mk (below_step HB.out hb); clear hb; obtain ⟨hzgn_0, hzgn_1, hzgn_2⟩ := cl3_ BKn.out) | ((with_reducible refine gate_store (t := 34) (p := 4) rfl ?_); refine Go.Proofs.YtnggfglmjdiaaaaOwn.sto3 (t := 34) (p := 4) (g := gr) (w0 := w) Ybb_ rfl rfl rfl rfl (by rfl) BKr.out HB.out GEgr.out ?_; intro w34 hbx_ hB_ hO_; (try clear hzgn_0); (try clear hzgn_1); (try clear hzgn_2); clear BKr HB hO_; have BKr := Aside0.mk hbx_; have HB := Aside0.mk hB_; clear hbx_ hB_))
         refine bodyPost_ret (Df rfl _ _ gr 34 #[.slice none 0 0, .int .i64 0, .slice none 0 0] (0, 0) _ rfl BKr.out Try.underlying34 rfl Ybb_) rfl ?_
         exact ⟨_, _, rfl, Go.Proofs.YtnggfglmjdiaaaaOwn.TT.nil _ _ _, HB.out⟩
        | true =>
         rw [cW] at HWI
         rw [cW, if_pos rfl] at h
         have Pa1_2 := Aside0.mk (show 0 ≤ a1_2 ∧ a1_2 < (nY : Int) from by have h1_ := inRows_lt cW; have h2_ := HT.out.reads.1; omega)
         clear cW
         obtain ⟨sG, hsG⟩ : ∃ z, z = rd_L1 lF a1_2 := ⟨_, rfl⟩
         rw [← hsG] at h
         have HSsG := Aside0.mk hsG
         clear hsG
         by_cases cS : (Dh.f sG).isSome = true
         ·rw [if_pos cS] at h
          clear cS
          replace h := Option.bind_eq_some_iff.mp h
          obtain ⟨sC, a_, h⟩ := h
          have A3 := Aside0.mk a_
          clear a_
          by_cases cL : sC.length < 17592186044415
          ·rw [if_pos cL] at h
           have HLsC := Aside0.mk cL
           clear cL
           obtain ⟨sH, hsH⟩ : ∃ z, z = sC ++ [a1_1] := ⟨_, rfl⟩
           have HSsH := Aside0.mk hsH
           obtain ⟨lG, hlG⟩ : ∃ z, z = lF.set (a1_2).toNat (sC ++ [a1_1]) := ⟨_, rfl⟩
           have HLlG := Aside0.mk (show lG = lF.set (a1_2).toNat sH from by rw [hlG, hsH])
           rw [← hlG] at h
           clear hlG hsH
           replace h := Option.bind_eq_some_iff.mp h
           obtain ⟨vv, a_, h⟩ := h
           have A4 := Aside0.mk a_
           clear a_
           go_upto_region 18 with (first | (go_at_call 71; (with_reducible refine (Bi.calls a1_2 0 ((nY : Int) - 1) true _ HWI.out).mono ?_); rintro e w35 ⟨rfl, hd_⟩; (try clear hzgn_0); (try clear hzgn_1); (try clear hzgn_2); (try clear hzgo_0); (try clear hzgo_1); (try clear hzgo_2); (try clear hzgx_0); (try clear hzgx_1); (try clear hzgx_2); have hb := Drawn0.below hd_; clear hd_; replace HT := Aside0.mk (HT.out.below hb); replace BKx := Aside0.mk (blk_below BKx.out hb); replace BKr := Aside0.mk (blk_below BKr.out hb); replace BKn := Aside0.mk (blk_below BKn.out hb); replace BKo := Aside0.mk (blk_below BKo.out hb); replace HB := Aside0.mk (below_step HB.out hb); clear hb))
           clear hwn_ HWI
           obtain ⟨gY_, eg_, gb_, gl_⟩ := HT.out.form Ydi_
           have GEY := Aside0.mk gb_
           clear gb_ gl_
           obtain rfl := (Addr.mk.inj (Option.some.inj eg_)).1
           clear eg_
           obtain ⟨AsG, csG, hv_, hc_, hC_, hf_⟩ := Go.Proofs.YtnggfglmjdiaaaaOwn.TT.elem HT.out (i := a1_2) Pa1_2.out.1 Ydi_
           have e_ : (lF.getD (a1_2).toNat []) = sG := HSsG.out.symm
           rw [e_] at hv_ hc_ hC_
           clear e_
           have HVsG := Aside0.mk hv_
           have HCsG := Aside0.mk hc_
           have HRsG := Aside0.mk hC_
           have HFsG := Aside0.mk hf_
           clear hv_ hc_ hC_ hf_
           have NXY_gx := Aside0.mk (Go.Proofs.YtnggfglmjdiaaaaOwn.TT.ne HT.out BKx.out (by decide))
           have NXY_gr := Aside0.mk (Go.Proofs.YtnggfglmjdiaaaaOwn.TT.ne HT.out BKr.out (by decide))
           have NXY_gn := Aside0.mk (Go.Proofs.YtnggfglmjdiaaaaOwn.TT.ne HT.out BKn.out (by decide))
           have NXY_go := Aside0.mk (Go.Proofs.YtnggfglmjdiaaaaOwn.TT.ne HT.out BKo.out (by decide))
           have p_a1_2 : 0 ≤ a1_2 := Pa1_2.out.1
           have q_a1_2 : a1_2 < (nY : Int) := Pa1_2.out.2
           replace p_a1_2 := eq_true p_a1_2
           replace q_a1_2 := eq_true q_a1_2
           replace HT := Aside0.mk (HT.out.drew)
           replace BKx := Aside0.mk (blk_drew BKx.out)
           replace BKr := Aside0.mk (blk_drew BKr.out)
           replace BKn := Aside0.mk (blk_drew BKn.out)
           replace BKo := Aside0.mk (blk_drew BKo.out)
           replace HB := Aside0.mk (below_drew1 HB.out)
           replace HVsG := Aside0.mk ((show (w35.drew).cell? ⟨gY_, (a1_2).toNat, none⟩ = some (.slice AsG sG.length csG) from HVsG.out))
           replace HFsG := Aside0.mk ((show (w35.drew).frozen? ⟨gY_, (a1_2).toNat, none⟩ = false from HFsG.out))
           replace HRsG := Aside0.mk ((show Kd.C (Kd.int .i64) (w35.drew) AsG sG.length sG from HRsG.out))
           refine start_ (n := 19) (S := fun w' => w'.cell? ⟨gY_, (a1_2).toNat, none⟩ = some (.slice AsG sG.length csG) ∧ w'.cell? ⟨go, 0, none⟩ = some (.slice (some ⟨gY_, 0, none⟩) nY cY) ∧ w'.cell? ⟨gx, 1, none⟩ = some (.int .i64 a1_1) ∧ w'.cell? ⟨gx, 2, none⟩ = some (.int .i64 a1_2)) (ds := [18]) #[false, false, false, false, false, false, false, false, false, false, false, false, false, false, false, false, false, false, false] Ybb_ rfl rfl ⟨HVsG.out, (blk_cell BKo.out 0).trans rfl, (blk_cell BKx.out 1).trans rfl, (blk_cell BKx.out 2).trans rfl⟩ (fun hHeld => ?_)
           generalize w35.drew = w36 at HT BKx BKr BKn BKo HB HVsG HFsG HRsG hHeld ⊢
           refine pure_ (i := 0) (N := some 117) #[true, false, false, false, false, false, false, false, false, false, false, false, false, false, false, false, false, false, false] rfl rfl Ybb_ (fun _ _ _ h => h) (Or.inl ⟨by rfl, Yba_⟩) Ya_ ?_
           refine pure_ (i := 1) (N := some 118) #[true, true, false, false, false, false, false, false, false, false, false, false, false, false, false, false, false, false, false] rfl rfl Ybb_ (fun _ _ _ h => h) (Or.inl ⟨by rfl, Yba_⟩) Ya_ ?_
           refine pure_ (i := 3) (N := some 120) #[true, true, false, true, false, false, false, false, false, false, false, false, false, false, false, false, false, false, false] rfl rfl Ybb_ (fun _ _ _ h => h) (Or.inl ⟨by rfl, Yba_⟩) Ya_ ?_
           refine pure_ (i := 5) (N := some 122) #[true, true, false, true, false, true, false, false, false, false, false, false, false, false, false, false, false, false, false] rfl rfl Ybb_ (fun _ _ _ h => h) (Or.inl ⟨by rfl, Yba_⟩) Ya_ ?_
           refine pure_ (i := 6) (N := some 123) #[true, true, false, true, false, true, true, false, false, false, false, false, false, false, false, false, false, false, false] rfl rfl Ybb_ (fun _ _ _ h => h) (Or.inl ⟨by rfl, Yba_⟩) Ya_ ?_
           refine pure_ (i := 8) (N := some 125) #[true, true, false, true, false, true, true, false, true, false, false, false, false, false, false, false, false, false, false] rfl rfl Ybb_ (fun _ _ _ h => h) (Or.inl ⟨by rfl, Yba_⟩) Ya_ ?_
           refine pure_ (i := 13) (N := some 130) #[true, true, false, true, false, true, true, false, true, false, false, false, false, true, false, false, false, false, false] rfl rfl Ybb_ (fun _ _ _ h => h) (Or.inl ⟨by rfl, Yba_⟩) Ya_ ?_
           refine take_ (i := 2) (N := some 119) #[true, true, true, true, false, true, true, false, true, false, false, false, false, true, false, false, false, false, false] rfl rfl Ybb_ (fun _ _ _ h => h) (Or.inl ⟨by rfl, Ycg_⟩) hHeld Ya_ ?_
           refine take_ (i := 4) (N := some 121) #[true, true, true, true, true, true, true, false, true, false, false, false, false, true, false, false, false, false, false] rfl rfl Ybb_ (fun _ _ _ h => h) (Or.inl ⟨by rfl, Ycg_⟩) hHeld Ya_ ?_
           refine take_ (i := 7) (N := some 124) #[true, true, true, true, true, true, true, true, true, false, false, false, false, true, false, false, false, false, false] rfl rfl Ybb_ (fun _ _ _ h => h) (Or.inl ⟨by rfl, Ycg_⟩) hHeld Ya_ ?_
           refine take_ (i := 9) (N := some 126) #[true, true, true, true, true, true, true, true, true, true, false, false, false, true, false, false, false, false, false] rfl rfl Ybb_ (fun _ _ _ h => h) (Or.inl ⟨by rfl, Ycg_⟩) hHeld Ya_ ?_
           refine pure_ (i := 10) (N := some 127) #[true, true, true, true, true, true, true, true, true, true, true, false, false, true, false, false, false, false, false] rfl rfl Ybb_ (fun _ _ _ h => h) (Or.inl ⟨by rfl, Yba_⟩) Ya_ ?_
           refine take_ (i := 11) (N := some 128) #[true, true, true, true, true, true, true, true, true, true, true, true, false, true, false, false, false, false, false] rfl rfl Ybb_ (fun _ _ _ h => h) (Or.inl ⟨by rfl, Ycg_⟩) hHeld Ya_ ?_
           refine take_ (i := 14) (N := some 131) #[true, true, true, true, true, true, true, true, true, true, true, true, false, true, true, false, false, false, false] rfl rfl Ybb_ (fun _ _ _ h => h) (Or.inl ⟨by rfl, Ycg_⟩) hHeld Ya_ ?_
           refine join_ (σ := Value × Option Addr × Nat) 3 #[true, true, true, true, true, true, true, true, true, true, true, true, true, true, true, true, false, false, false] (fun s => match s with | ⟨vC, A40, c40⟩ => [(129, vC), (132, .slice A40 ([a1_1] : List Int).length c40)]) (fun s w' => match s with | ⟨vC, A40, c40⟩ => Aside0 (Kd.R (Kd.int .i64) 3 w' w36.heap.size (fun _ => True) vC sC) ∧ Aside0 (Kd.R (Kd.int .i64) 3 w' w36.heap.size (fun _ => True) (.slice A40 ([a1_1] : List Int).length c40) [a1_1]) ∧ Aside0 (Below w36.heap.size w36 w')) ?_ ?_
           rotate_left
           ·intro hCont
            refine two_ (i := 12) (j := 15) (Ni := some 129) (Nj := some 132) #[true, true, true, true, true, true, true, true, true, true, true, true, true, true, true, false, false, false, false] #[true, true, true, true, true, true, true, true, true, true, true, true, false, true, true, true, false, false, false] rfl rfl rfl rfl Ybb_ (by decide) (by decide) (fun K hK => ?_) (fun K hK => ?_)
            ·skip
             have HB2 := Aside0.mk (Below.refl w36.heap.size w36)
             refine goes_ Try.func72 Ybb_ rfl #[.slice AsG sG.length csG] (by rfl) rfl rfl Yfa_ ?_
             with_reducible refine (Dh.calls _ _ sG sC _ (Kd.C_below HRsG.out HB2.out) HCsG.out A3.out).mono ?_
             rintro e W1_ ⟨vC, rfl, ho_, hb_⟩
             refine ⟨_, rfl, ?_⟩
             have HN := Aside0.mk (Kd.R_lower ho_ (below_size HB2.out))
             have m_ := Aside0.mk (below_step HB2.out hb_)
             clear HB2 ho_ hb_
             have HB2 := m_
             clear m_
             refine hK.out _ _ ⟨(HB2.out.cell (World.block_lt_of_cell? _ _ HVsG.out)).trans HVsG.out, (blk_cell (blk_below BKo.out HB2.out) 0).trans rfl, (blk_cell (blk_below BKx.out HB2.out) 1).trans rfl, (blk_cell (blk_below BKx.out HB2.out) 2).trans rfl⟩ (fun hHeld => ?_)
             clear hK K
             refine norm_ (show Act.put _ (some 129) _ = _ from Ya_) ?_
             refine one_ (i := 15) (N := some 132) #[true, true, true, true, true, true, true, true, true, true, true, true, true, true, true, true, false, false, false] rfl rfl Ybb_ (by decide) (fun K hK => ?_)
             refine Kd.Gj (Kd.int .i64) w36.heap.size 3 ?hg (N := 132) ?hd (xs := ([a1_1] : List Int)) (inner := [.int .i64 a1_1]) (ok := fun _ => True) (okp := fun _ => True) ?hr ?hp (fun _ hk => hk) trivial HB2.out (below_size HB2.out) (by simp) ?_; (case hd => rfl); (case hg => rfl); (case hr => first | (go_simp; done) | (go_simp; rfl)); (case hp => exact (Reps.one (show Kd.M (Kd.int .i64) _ _ _ a1_1 [.int .i64 a1_1] from rfl) (Reps.none _ _)))
             intro vL_ W2_ ho hb hg_ hnew_
             obtain ⟨A40, c40, e40_⟩ := Kd.Dc ho
             subst e40_
             have HL := Aside0.mk ho
             replace HN := Aside0.mk (Kd.R_grown HN.out hg_ (fun _ _ h_ => nomatch h_))
             clear HB2
             have HB2 := Aside0.mk hb
             clear hb hg_ hnew_ ho
             refine hK.out _ _ ⟨(HB2.out.cell (World.block_lt_of_cell? _ _ HVsG.out)).trans HVsG.out, (blk_cell (blk_below BKo.out HB2.out) 0).trans rfl, (blk_cell (blk_below BKx.out HB2.out) 1).trans rfl, (blk_cell (blk_below BKx.out HB2.out) 2).trans rfl⟩ (fun hHeld => ?_)
             clear hK K
             refine norm_ (show Act.put _ (some 132) _ = _ from Ya_) ?_
             exact norm_ Yda_ (hCont (vC, A40, c40) _ ⟨HN, HL, HB2⟩)
            ·skip
             have HB2 := Aside0.mk (Below.refl w36.heap.size w36)
             refine Kd.Gj (Kd.int .i64) w36.heap.size 3 ?hg (N := 132) ?hd (xs := ([a1_1] : List Int)) (inner := [.int .i64 a1_1]) (ok := fun _ => True) (okp := fun _ => True) ?hr ?hp (fun _ hk => hk) trivial HB2.out (below_size HB2.out) (by simp) ?_; (case hd => rfl); (case hg => rfl); (case hr => first | (go_simp; done) | (go_simp; rfl)); (case hp => exact (Reps.one (show Kd.M (Kd.int .i64) _ _ _ a1_1 [.int .i64 a1_1] from rfl) (Reps.none _ _)))
             intro vL_ W1_ ho hb hg_ hnew_
             obtain ⟨A40, c40, e40_⟩ := Kd.Dc ho
             subst e40_
             have HL := Aside0.mk ho
             clear HB2
             have HB2 := Aside0.mk hb
             clear hb hg_ hnew_ ho
             refine hK.out _ _ ⟨(HB2.out.cell (World.block_lt_of_cell? _ _ HVsG.out)).trans HVsG.out, (blk_cell (blk_below BKo.out HB2.out) 0).trans rfl, (blk_cell (blk_below BKx.out HB2.out) 1).trans rfl, (blk_cell (blk_below BKx.out HB2.out) 2).trans rfl⟩ (fun hHeld => ?_)
             clear hK K
             refine norm_ (show Act.put _ (some 132) _ = _ from Ya_) ?_
             refine one_ (i := 12) (N := some 129) #[true, true, true, true, true, true, true, true, true, true, true, true, true, true, true, true, false, false, false] rfl rfl Ybb_ (by decide) (fun K hK => ?_)
             refine goes_ Try.func72 Ybb_ rfl #[.slice AsG sG.length csG] (by rfl) rfl rfl Yfa_ ?_
             with_reducible refine (Dh.calls _ _ sG sC _ (Kd.C_below HRsG.out HB2.out) HCsG.out A3.out).mono ?_
             rintro e W2_ ⟨vC, rfl, ho_, hb_⟩
             refine ⟨_, rfl, ?_⟩
             have HN := Aside0.mk (Kd.R_lower ho_ (below_size HB2.out))
             replace HL := Aside0.mk (Kd.Cb HL.out hb_)
             have m_ := Aside0.mk (below_step HB2.out hb_)
             clear HB2 ho_ hb_
             have HB2 := m_
             clear m_
             refine hK.out _ _ ⟨(HB2.out.cell (World.block_lt_of_cell? _ _ HVsG.out)).trans HVsG.out, (blk_cell (blk_below BKo.out HB2.out) 0).trans rfl, (blk_cell (blk_below BKx.out HB2.out) 1).trans rfl, (blk_cell (blk_below BKx.out HB2.out) 2).trans rfl⟩ (fun hHeld => ?_)
             clear hK K
             refine norm_ (show Act.put _ (some 129) _ = _ from Ya_) ?_
             exact norm_ Yda_ (hCont (vC, A40, c40) _ ⟨HN, HL, HB2⟩)
           rintro ⟨vC, A40, c40⟩ W4_ ⟨HN, HL, HB2⟩
           have hHeld : (fun w' => w'.cell? ⟨gY_, (a1_2).toNat, none⟩ = some (.slice AsG sG.length csG) ∧ w'.cell? ⟨go, 0, none⟩ = some (.slice (some ⟨gY_, 0, none⟩) nY cY) ∧ w'.cell? ⟨gx, 1, none⟩ = some (.int .i64 a1_1) ∧ w'.cell? ⟨gx, 2, none⟩ = some (.int .i64 a1_2)) W4_ := ⟨(HB2.out.cell (World.block_lt_of_cell? _ _ HVsG.out)).trans HVsG.out, (blk_cell (blk_below BKo.out HB2.out) 0).trans rfl, (blk_cell (blk_below BKx.out HB2.out) 1).trans rfl, (blk_cell (blk_below BKx.out HB2.out) 2).trans rfl⟩
           refine norm_ (a' := ?_) ?_ ?_
           rotate_left
           ·simp only [Es, Act.put, List.setIfInBounds_toArray, List.set_cons_zero, List.set_cons_succ]
            rfl
           refine one_ (i := 16) (N := some 133) #[true, true, true, true, true, true, true, true, true, true, true, true, true, true, true, true, true, false, false] rfl rfl Ybb_ (by decide) (fun K hK => ?_)
           refine Kd.Gg (Kd.int .i64) (w0 := w36) w36.heap.size (by rfl) (.tmp 129) (.tmp 132) 73 3 (.int .i64 0) 8 rfl Try.underlying73 info3 rfl (by decide) (by omega) vC sC [a1_1] A40 ([a1_1] : List Int).length c40 (fun _ => True) (fun _ => False) rfl rfl HN.out ((Kd.Bo HL.out).2.2) (fun _ _ h => h) (fun _ h => h.elim) (fun _ _ => trivial) HB2.out (below_size HB2.out) Yge_ ?_
           intro v_ w37 ho hb hg hat
           clear hg hat HN HL HB2
           rw [← HSsH.out] at ho
           obtain ⟨AsH, csH, ev_⟩ := Kd.Dc ho
           subst ev_
           have hk_ := (Go.Proofs.YtnggfglmjdiaaaaOwn.TT.put HT.out (below_size HB.out) hb Pa1_2.out.1 Ydi_ ho).1
           have HT2 := Aside0.mk hk_
           clear hk_ ho HT
           have hv_ := (hb.cell (World.block_lt_of_cell? _ _ HVsG.out)).trans HVsG.out
           have hf_ := (World.frozen?_of_block (hb.block _ (World.block_lt_of_cell? _ _ HVsG.out))).trans HFsG.out
           clear HVsG HFsG
           have HVsG := Aside0.mk hv_
           have HFsG := Aside0.mk hf_
           clear hv_ hf_
           replace BKx := Aside0.mk (blk_below BKx.out hb)
           replace BKr := Aside0.mk (blk_below BKr.out hb)
           replace BKn := Aside0.mk (blk_below BKn.out hb)
           replace BKo := Aside0.mk (blk_below BKo.out hb)
           replace HB := Aside0.mk (below_step HB.out hb)
           clear hb
           refine hK.out _ _ ⟨HVsG.out, (blk_cell BKo.out 0).trans rfl, (blk_cell BKx.out 1).trans rfl, (blk_cell BKx.out 2).trans rfl⟩ (fun hHeld => ?_)
           clear hK K
           refine norm_ (show Act.put _ (some 133) _ = _ from Ya_) ?_
           refine pure_ (i := 17) (N := some 134) #[true, true, true, true, true, true, true, true, true, true, true, true, true, true, true, true, true, true, false] rfl rfl Ybb_ (fun _ _ _ h => h) (Or.inl ⟨by rfl, Yba_⟩) Ya_ ?_
           refine last_ (i := 18) (N := none) #[true, true, true, true, true, true, true, true, true, true, true, true, true, true, true, true, true, true, true] rfl rfl Ybb_ (by decide) (fun K hK => ?_)
           have hv_ := HVsG.out
           have hf_ := HFsG.out
           refine Go.Proofs.YtnggfglmjdiaaaaOwn.F6 (w1 := (w37.setCell ⟨gY_, (a1_2).toNat, none⟩ (.slice AsH sH.length csH))) (by rfl) rfl ?_ ?_
           ·first | (go_simp; done) | (go_simp; rfl)
           intro w38 hw
           clear hv_ hf_
           have HT := HT2
           clear HT2
           have hO_ : Go.Proofs.YtnggfglmjdiaaaaOwn.Only w37 w38 gY_ := Ycj_
           have ht_ := HT.out
           rw [← hw] at ht_
           clear HT
           have HT := Aside0.mk ht_
           clear ht_ hw
           replace BKx := Aside0.mk ((hO_.others _ NXY_gx.out).trans BKx.out)
           replace BKr := Aside0.mk ((hO_.others _ NXY_gr.out).trans BKr.out)
           replace BKn := Aside0.mk ((hO_.others _ NXY_gn.out).trans BKn.out)
           replace BKo := Aside0.mk ((hO_.others _ NXY_go.out).trans BKo.out)
           replace HB := Aside0.mk (hO_.below HB.out GEY.out)
           clear hO_
           clear NXY_gx
           clear NXY_gr
           clear NXY_gn
           clear NXY_go
           rw [show lF.set (a1_2).toNat sH = lG from HLlG.out.symm] at HT
           refine hK.out _ _ ?_
           clear hK K
           refine done_ Ybb_ ?_
           clear p_a1_2 q_a1_2 HVsG HFsG HCsG HRsG
           have hy_ := HT.out.reads
           have hb_ := HT.out.swap.reads
           have call_ := Ad.calls k (some ⟨gY_, 0, none⟩) cY lG hh AB cB B vv _ hy_.2.2 (hy_.1 ▸ hy_.2.1) hb_.2.2 (hb_.1 ▸ hb_.2.1) A4.out
           rw [← hy_.1, ← hb_.1] at call_
           have CALLV := Aside0.mk call_
           clear call_ hy_ hb_
           clear BKx
           obtain ⟨hzgn_0, hzgn_1, hzgn_2⟩ := cl3_ BKn.out
           obtain ⟨hzgo_0, hzgo_1, hzgo_2⟩ := cl3_ BKo.out
           cases vv with
           | false =>
            simp only [Fq, Bool.false_eq_true, if_false] at h
            simp only [Option.some.injEq, Prod.mk.injEq] at h
            obtain ⟨rfl, rfl, rfl, rfl⟩ := h
            clear BKo
            clear HT
            go_wp2_with (first | (go_at_call 39; (with_reducible refine (CALLV.out).mono ?_); rintro e w39 ⟨rfl, hb⟩; (try clear hzgn_0); (try clear hzgn_1); (try clear hzgn_2); (try clear hzgo_0); (try clear hzgo_1); (try clear hzgo_2); replace BKr := Aside0.mk (blk_below BKr.out hb); replace BKn := Aside0.mk (blk_below BKn.out hb); replace HB := Aside0.mk (below_step HB.out hb); clear hb; obtain ⟨hzgn_0, hzgn_1, hzgn_2⟩ := cl3_ BKn.out) | ((with_reducible refine gate_store (t := 34) (p := 4) rfl ?_); refine Go.Proofs.YtnggfglmjdiaaaaOwn.sto3 (t := 34) (p := 4) (g := gr) (w0 := w) Ybb_ rfl rfl rfl rfl (by rfl) BKr.out HB.out GEgr.out ?_; intro w40 hbx_ hB_ hO_; (try clear hzgn_0); (try clear hzgn_1); (try clear hzgn_2); clear BKr HB hO_; have BKr := Aside0.mk hbx_; have HB := Aside0.mk hB_; clear hbx_ hB_))
            refine bodyPost_ret (Df rfl _ _ gr 34 #[.slice none 0 0, .int .i64 0, .slice none 0 0] (0, 0) _ rfl BKr.out Try.underlying34 rfl Ybb_) rfl ?_
            exact ⟨_, _, rfl, Go.Proofs.YtnggfglmjdiaaaaOwn.TT.nil _ _ _, HB.out⟩
           | true =>
            simp only [Fq, if_true] at h
            simp only [Option.some.injEq, Prod.mk.injEq] at h
            obtain ⟨rfl, rfl, rfl, rfl⟩ := h
            clear BKn
            go_wp2_with (first | (go_at_call 39; (with_reducible refine (CALLV.out).mono ?_); rintro e w41 ⟨rfl, hb⟩; (try clear hzgn_0); (try clear hzgn_1); (try clear hzgn_2); (try clear hzgo_0); (try clear hzgo_1); (try clear hzgo_2); replace HT := Aside0.mk (HT.out.below hb); replace BKr := Aside0.mk (blk_below BKr.out hb); replace BKo := Aside0.mk (blk_below BKo.out hb); replace HB := Aside0.mk (below_step HB.out hb); clear hb; obtain ⟨hzgo_0, hzgo_1, hzgo_2⟩ := cl3_ BKo.out) | ((with_reducible refine gate_store (t := 34) (p := 4) rfl ?_); refine Go.Proofs.YtnggfglmjdiaaaaOwn.sto3 (t := 34) (p := 4) (g := gr) (w0 := w) Ybb_ rfl rfl rfl rfl (by rfl) BKr.out HB.out GEgr.out ?_; intro w42 hbx_ hB_ hO_; (try clear hzgo_0); (try clear hzgo_1); (try clear hzgo_2); replace HT := Aside0.mk (HT.out.only BKr.out (by decide) hO_); clear BKr HB hO_; have BKr := Aside0.mk hbx_; have HB := Aside0.mk hB_; clear hbx_ hB_))
            refine bodyPost_ret (Df rfl _ _ gr 34 #[.slice (some ⟨gY_, 0, none⟩) nY cY, .int .i64 hh, .slice AB nB cB] (0, 0) _ rfl BKr.out Try.underlying34 rfl Ybb_) rfl ?_
            exact ⟨_, _, rfl, HT.out, HB.out⟩
          ·rw [if_neg cL] at h
           cases h
         ·rw [if_neg cS] at h
          cases h
       ·rw [if_neg c5] at h
        cases h
     ·rw [if_neg c3] at h
      simp only [Option.some.injEq, Prod.mk.injEq] at h
      obtain ⟨rfl, rfl, rfl, rfl⟩ := h
      have d1_ : (q2 == (sT.length : Int) - 1) = false := by simp [c3]
      have d2_ : decide (q2 = (sT.length : Int) - 1) = false := decide_eq_false c3
      have d3_ : (q2 != (sT.length : Int) - 1) = true := by simp [c3]
      clear c3
      clear BKx
      clear BKo
      clear HT
      go_wp2_with (first | (go_at_call 47; (with_reducible refine (spec_l5Find.calls k _ _ l0_0 a1_1 q1 q2 _ (Kd.C_below HR0_0.out HB.out) HC0_0.out A2.out).mono ?_); rintro e w43 ⟨rfl, hb⟩; (try clear hzgn_0); (try clear hzgn_1); (try clear hzgn_2); (try clear hzgt_0); (try clear hzgt_1); (try clear hzgt_2); (try clear hzgx_0); (try clear hzgx_1); (try clear hzgx_2); replace BKt := Aside0.mk (blk_below BKt.out hb); replace BKr := Aside0.mk (blk_below BKr.out hb); replace BKn := Aside0.mk (blk_below BKn.out hb); replace HB := Aside0.mk (below_step HB.out hb); have hxt_ : w43.cell? (adT.add q1.toNat) = some (.slice AT sT.length cT) := (HB.out.cell (World.block_lt_of_cell? w _ HXT.out)).trans HXT.out; clear hb; obtain ⟨hzgt_0, hzgt_1, hzgt_2⟩ := cl3_ BKt.out; obtain ⟨hzgn_0, hzgn_1, hzgn_2⟩ := cl3_ BKn.out) | ((with_reducible refine gate_store (t := 34) (p := 4) rfl ?_); refine Go.Proofs.YtnggfglmjdiaaaaOwn.sto3 (t := 34) (p := 4) (g := gr) (w0 := w) Ybb_ rfl rfl rfl rfl (by rfl) BKr.out HB.out GEgr.out ?_; intro w44 hbx_ hB_ hO_; (try clear hzgn_0); (try clear hzgn_1); (try clear hzgn_2); (try clear hzgt_0); (try clear hzgt_1); (try clear hzgt_2); clear BKr HB hO_; have BKr := Aside0.mk hbx_; have HB := Aside0.mk hB_; clear hbx_ hB_))
      refine bodyPost_ret (Df rfl _ _ gr 34 #[.slice none 0 0, .int .i64 0, .slice none 0 0] (0, 0) _ rfl BKr.out Try.underlying34 rfl Ybb_) rfl ?_
      exact ⟨_, _, rfl, Go.Proofs.YtnggfglmjdiaaaaOwn.TT.nil _ _ _, HB.out⟩
    ·rw [if_neg c2] at h
     cases h
  ·simp only [if_neg k1] at h
   by_cases k2 : a1_0 = 2
   ·simp only [if_pos k2] at h
    subst k2
    clear k1 k3
    replace h := Option.bind_eq_some_iff.mp h
    obtain ⟨⟨q1, q2⟩, a_, h⟩ := h
    have A2 := Aside0.mk a_
    clear a_
    dsimp only at h
    unfold lmCut at h
    by_cases c1 : q1 < 0
    ·rw [if_pos c1] at h
     simp only [Option.some.injEq, Prod.mk.injEq] at h
     obtain ⟨rfl, rfl, rfl, rfl⟩ := h
     have cb1 : decide (q1 < 0) = true := decide_eq_true c1
     clear c1
     clear BKx
     clear BKo
     clear HT
     go_wp2_with (first | (go_at_call 47; (with_reducible refine (spec_l5Find.calls k _ _ l0_0 a1_1 q1 q2 _ (Kd.C_below HR0_0.out HB.out) HC0_0.out A2.out).mono ?_); rintro e w45 ⟨rfl, hb⟩; (try clear hzgn_0); (try clear hzgn_1); (try clear hzgn_2); (try clear hzgt_0); (try clear hzgt_1); (try clear hzgt_2); (try clear hzgx_0); (try clear hzgx_1); (try clear hzgx_2); replace BKt := Aside0.mk (blk_below BKt.out hb); replace BKr := Aside0.mk (blk_below BKr.out hb); replace BKn := Aside0.mk (blk_below BKn.out hb); replace HB := Aside0.mk (below_step HB.out hb); clear hb; obtain ⟨hzgn_0, hzgn_1, hzgn_2⟩ := cl3_ BKn.out) | ((with_reducible refine gate_store (t := 34) (p := 4) rfl ?_); refine Go.Proofs.YtnggfglmjdiaaaaOwn.sto3 (t := 34) (p := 4) (g := gr) (w0 := w) Ybb_ rfl rfl rfl rfl (by rfl) BKr.out HB.out GEgr.out ?_; intro w46 hbx_ hB_ hO_; (try clear hzgn_0); (try clear hzgn_1); (try clear hzgn_2); clear BKr HB hO_; have BKr := Aside0.mk hbx_; have HB := Aside0.mk hB_; clear hbx_ hB_))
     refine bodyPost_ret (Df rfl _ _ gr 34 #[.slice none 0 0, .int .i64 0, .slice none 0 0] (0, 0) _ rfl BKr.out Try.underlying34 rfl Ybb_) rfl ?_
     exact ⟨_, _, rfl, Go.Proofs.YtnggfglmjdiaaaaOwn.TT.nil _ _ _, HB.out⟩
    ·rw [if_neg c1] at h
     by_cases c2 : q1 < (l0_0.length : Int)
     ·rw [if_pos c2] at h
      have cb1 : decide (q1 < 0) = false := decide_eq_false c1
      have p_ : 0 ≤ q1 := by omega
      obtain ⟨adT, AT, cT, eT, hx_, hl_, hi_⟩ := Cj HR0_0.out q1 p_ c2
      subst eT
      have hlw_ := hi_.2.1
      obtain ⟨sT, hsT⟩ : ∃ z, z = rd_L1 l0_0 q1 := ⟨_, rfl⟩
      rw [← hsT] at h hx_ hlw_
      clear hl_ hi_ hsT
      have HXT := Aside0.mk hx_
      clear hx_
      have hwt_ : wrap64 ((sT.length : Int) - 1) = (sT.length : Int) - 1 := by unfold wrap64; omega
      clear hlw_
      have C1 := Aside0.mk p_
      have C2 := Aside0.mk c2
      have p1_ := eq_true p_
      have q1_ := eq_true c2
      clear p_ c1 c2
      by_cases c3 : q2 = (sT.length : Int) - 1
      ·rw [if_pos c3] at h
       have d1_ : (q2 == (sT.length : Int) - 1) = true := by simp [c3]
       have d2_ : decide (q2 = (sT.length : Int) - 1) = true := decide_eq_true c3
       have d3_ : (q2 != (sT.length : Int) - 1) = false := by simp [c3]
       clear c3
       rw [if_pos rfl] at h
       by_cases c5 : 0 ≤ q2 ∧ q1 < (Y.length : Int) ∧ q2 ≤ ((rd_L1 Y q1).length : Int)
       ·rw [if_pos c5] at h
        obtain ⟨sF, hsF⟩ : ∃ z, z = rd_L1 Y q1 := ⟨_, rfl⟩
        rw [← hsF] at c5
        have HSsF := Aside0.mk hsF
        obtain ⟨c5, c6, c7⟩ := c5
        have Pq1 := Aside0.mk (show 0 ≤ q1 ∧ q1 < (nY : Int) from ⟨C1.out, by have := HT.out.reads.1; omega⟩)
        have HMq2 := Aside0.mk (show (q2).toNat ≤ sF.length from by omega)
        have HQ0 := Aside0.mk c5
        have HQ1 := Aside0.mk c7
        clear c5 c6 c7
        obtain ⟨lF, hlF⟩ : ∃ z, z = cutAt Y q1 q2 := ⟨_, rfl⟩
        have HLlF := Aside0.mk (show lF = Y.set (q1).toNat ((Y.getD (q1).toNat []).take (q2).toNat) from hlF)
        rw [← hlF] at h
        (try dsimp only at h)
        clear hlF hsF
        go_upto_region 11 with (first | (go_at_call 47; (with_reducible refine (spec_l5Find.calls k _ _ l0_0 a1_1 q1 q2 _ (Kd.C_below HR0_0.out HB.out) HC0_0.out A2.out).mono ?_); rintro e w47 ⟨rfl, hb⟩; (try clear hzgn_0); (try clear hzgn_1); (try clear hzgn_2); (try clear hzgt_0); (try clear hzgt_1); (try clear hzgt_2); (try clear hzgx_0); (try clear hzgx_1); (try clear hzgx_2); replace HT := Aside0.mk (HT.out.below hb); replace BKt := Aside0.mk (blk_below BKt.out hb); replace BKx := Aside0.mk (blk_below BKx.out hb); replace BKr := Aside0.mk (blk_below BKr.out hb); replace BKn := Aside0.mk (blk_below BKn.out hb); replace BKo := Aside0.mk (blk_below BKo.out hb); replace HB := Aside0.mk (below_step HB.out hb); have hxt_ : w47.cell? (adT.add q1.toNat) = some (.slice AT sT.length cT) := (HB.out.cell (World.block_lt_of_cell? w _ HXT.out)).trans HXT.out; clear hb; obtain ⟨hzgt_0, hzgt_1, hzgt_2⟩ := cl3_ BKt.out; obtain ⟨hzgx_0, hzgx_1, hzgx_2⟩ := cl3_ BKx.out))
        clear hwt_ d1_ d2_ d3_ p1_ q1_
        (try clear hxt_)
        (try clear hzgt_0)
        (try clear hzgt_1)
        (try clear hzgt_2)
        (try clear hzgx_0)
        (try clear hzgx_1)
        (try clear hzgx_2)
        clear BKt
        obtain ⟨gY_, eg_, gb_, gl_⟩ := HT.out.form Yei_
        have GEY := Aside0.mk gb_
        clear gb_ gl_
        subst eg_
        obtain ⟨AsF, csF, hv_, hc_, hC_, hf_⟩ := Go.Proofs.YtnggfglmjdiaaaaOwn.TT.elem HT.out (i := q1) Pq1.out.1 Yei_
        have e_ : (Y.getD (q1).toNat []) = sF := HSsF.out.symm
        rw [e_] at hv_ hc_ hC_
        clear e_
        have HVsF := Aside0.mk hv_
        have HCsF := Aside0.mk hc_
        have HRsF := Aside0.mk hC_
        have HFsF := Aside0.mk hf_
        clear hv_ hc_ hC_ hf_
        have NXY_gx := Aside0.mk (Go.Proofs.YtnggfglmjdiaaaaOwn.TT.ne HT.out BKx.out (by decide))
        have NXY_gr := Aside0.mk (Go.Proofs.YtnggfglmjdiaaaaOwn.TT.ne HT.out BKr.out (by decide))
        have NXY_gn := Aside0.mk (Go.Proofs.YtnggfglmjdiaaaaOwn.TT.ne HT.out BKn.out (by decide))
        have NXY_go := Aside0.mk (Go.Proofs.YtnggfglmjdiaaaaOwn.TT.ne HT.out BKo.out (by decide))
        have p_q1 : 0 ≤ q1 := Pq1.out.1
        have q_q1 : q1 < (nY : Int) := Pq1.out.2
        replace p_q1 := eq_true p_q1
        replace q_q1 := eq_true q_q1
        obtain ⟨i0_, hi0_, _, hsz0_, _⟩ := info_parts info3
        have hcut_ := cut_to (P := Try.prog) 73 3 .i64 Try.underlying73 hi0_ AsF sF.length csF q2 HQ0.out HQ1.out HCsF.out
        replace HT := Aside0.mk (HT.out.drew)
        replace BKx := Aside0.mk (blk_drew BKx.out)
        replace BKr := Aside0.mk (blk_drew BKr.out)
        replace BKn := Aside0.mk (blk_drew BKn.out)
        replace BKo := Aside0.mk (blk_drew BKo.out)
        replace HB := Aside0.mk (below_drew1 HB.out)
        replace HVsF := Aside0.mk ((show (w47.drew).cell? ⟨gY_, (q1).toNat, none⟩ = some (.slice AsF sF.length csF) from HVsF.out))
        replace HFsF := Aside0.mk ((show (w47.drew).frozen? ⟨gY_, (q1).toNat, none⟩ = false from HFsF.out))
        refine start_ (n := 14) (S := fun w' => w'.cell? ⟨gY_, (q1).toNat, none⟩ = some (.slice AsF sF.length csF) ∧ w'.cell? ⟨go, 0, none⟩ = some (.slice (some ⟨gY_, 0, none⟩) nY cY)) (ds := [13]) #[false, false, false, false, false, false, false, false, false, false, false, false, false, false] Ybb_ rfl rfl ⟨HVsF.out, (blk_cell BKo.out 0).trans rfl⟩ (fun hHeld => ?_)
        generalize w47.drew = w48 at HT BKx BKr BKn BKo HB HVsF HFsF hHeld ⊢
        refine pure_ (i := 0) (N := some 88) #[true, false, false, false, false, false, false, false, false, false, false, false, false, false] rfl rfl Ybb_ (fun _ _ _ h => h) (Or.inl ⟨by rfl, Yba_⟩) Ya_ ?_
        refine pure_ (i := 1) (N := some 89) #[true, true, false, false, false, false, false, false, false, false, false, false, false, false] rfl rfl Ybb_ (fun _ _ _ h => h) (Or.inl ⟨by rfl, Yba_⟩) Ya_ ?_
        refine pure_ (i := 3) (N := some 91) #[true, true, false, true, false, false, false, false, false, false, false, false, false, false] rfl rfl Ybb_ (fun _ _ _ h => h) (Or.inl ⟨by rfl, Yba_⟩) Ya_ ?_
        refine pure_ (i := 4) (N := some 92) #[true, true, false, true, true, false, false, false, false, false, false, false, false, false] rfl rfl Ybb_ (fun _ _ _ h => h) (Or.inl ⟨by rfl, Yba_⟩) Ya_ ?_
        refine pure_ (i := 5) (N := some 93) #[true, true, false, true, true, true, false, false, false, false, false, false, false, false] rfl rfl Ybb_ (fun _ _ _ h => h) (Or.inl ⟨by rfl, Yba_⟩) Ya_ ?_
        refine pure_ (i := 7) (N := some 95) #[true, true, false, true, true, true, false, true, false, false, false, false, false, false] rfl rfl Ybb_ (fun _ _ _ h => h) (Or.inl ⟨by rfl, Yba_⟩) Ya_ ?_
        refine pure_ (i := 10) (N := some 98) #[true, true, false, true, true, true, false, true, false, false, true, false, false, false] rfl rfl Ybb_ (fun _ _ _ h => h) (Or.inl ⟨by rfl, Yba_⟩) Ya_ ?_
        refine take_ (i := 2) (N := some 90) #[true, true, true, true, true, true, false, true, false, false, true, false, false, false] rfl rfl Ybb_ (fun _ _ _ h => h) (Or.inl ⟨by rfl, Ydb_⟩) hHeld Ya_ ?_
        refine take_ (i := 6) (N := some 94) #[true, true, true, true, true, true, true, true, false, false, true, false, false, false] rfl rfl Ybb_ (fun _ _ _ h => h) (Or.inl ⟨by rfl, Ydb_⟩) hHeld Ya_ ?_
        refine pure_ (i := 8) (N := some 96) #[true, true, true, true, true, true, true, true, true, false, true, false, false, false] rfl rfl Ybb_ (fun _ _ _ h => h) (Or.inl ⟨by rfl, Yba_⟩) Ya_ ?_
        refine take_ (i := 9) (N := some 97) #[true, true, true, true, true, true, true, true, true, true, true, false, false, false] rfl rfl Ybb_ (fun _ _ _ h => h) (Or.inl ⟨by rfl, Ydb_⟩) hHeld Ya_ ?_
        refine pure_ (i := 11) (N := some 99) #[true, true, true, true, true, true, true, true, true, true, true, true, false, false] rfl rfl Ybb_ (fun _ _ _ h => h) (Or.inl ⟨by rfl, Yba_⟩) Ya_ ?_
        refine pure_ (i := 12) (N := some 100) #[true, true, true, true, true, true, true, true, true, true, true, true, true, false] rfl rfl Ybb_ (fun _ _ _ h => h) (Or.inl ⟨by rfl, Yba_⟩) Ya_ ?_
        refine last_ (i := 13) (N := none) #[true, true, true, true, true, true, true, true, true, true, true, true, true, true] rfl rfl Ybb_ (by decide) (fun K hK => ?_)
        have hv_ := HVsF.out
        have hf_ := HFsF.out
        refine Go.Proofs.YtnggfglmjdiaaaaOwn.F6 (w1 := (w48.setCell ⟨gY_, (q1).toNat, none⟩ (.slice AsF (q2).toNat csF))) (by rfl) rfl ?_ ?_
        ·first | (go_simp; done) | (go_simp; rfl)
        intro w49 hw
        clear hv_ hf_
        have hO_ : Go.Proofs.YtnggfglmjdiaaaaOwn.Only w48 w49 gY_ := Ycj_
        have ht_ := (Go.Proofs.YtnggfglmjdiaaaaOwn.TT.cut HT.out Pq1.out.1 Yei_ HVsF.out Ygd_).1
        rw [← hw] at ht_
        clear HT
        have HT := Aside0.mk ht_
        clear ht_ hw
        replace BKx := Aside0.mk ((hO_.others _ NXY_gx.out).trans BKx.out)
        replace BKr := Aside0.mk ((hO_.others _ NXY_gr.out).trans BKr.out)
        replace BKn := Aside0.mk ((hO_.others _ NXY_gn.out).trans BKn.out)
        replace BKo := Aside0.mk ((hO_.others _ NXY_go.out).trans BKo.out)
        replace HB := Aside0.mk (hO_.below HB.out GEY.out)
        clear hO_
        clear NXY_gx
        clear NXY_gr
        clear NXY_gn
        clear NXY_go
        rw [show Y.set (q1).toNat ((Y.getD (q1).toNat []).take (q2).toNat) = lF from HLlF.out.symm] at HT
        refine hK.out _ _ ?_
        clear hK K
        refine done_ Ybb_ ?_
        clear p_q1 q_q1 HVsF HFsF HCsF HRsF
        clear hcut_ hi0_ hsz0_ HQ0 HQ1 HMq2
        obtain ⟨hzgx_0, hzgx_1, hzgx_2⟩ := cl3_ BKx.out
        obtain ⟨hzgn_0, hzgn_1, hzgn_2⟩ := cl3_ BKn.out
        obtain ⟨hzgo_0, hzgo_1, hzgo_2⟩ := cl3_ BKo.out
        unfold lmPutB at h
        have hwn_ : wrap64 ((nB : Int) - 1) = (nB : Int) - 1 := by have h1_ := HT.out.swap.reads; have h2_ := h1_.2.2.2.1; have h3_ := h1_.1; unfold wrap64; omega
        have HWI := Aside0.mk (show Bi.f a1_2 0 ((nB : Int) - 1) = some (inRows B a1_2) from by rw [HT.out.swap.reads.1]; exact l1In_f2 _ _ _)
        cases cW : inRows B a1_2 with
        | false =>
         rw [cW] at HWI
         rw [cW, if_neg (by decide)] at h
         simp only [Option.some.injEq, Prod.mk.injEq] at h
         obtain ⟨rfl, rfl, rfl, rfl⟩ := h
         clear BKx
         clear BKo
         clear HT
         go_wp2_with (first | (go_at_call 71; (with_reducible refine (Bi.calls a1_2 0 ((nB : Int) - 1) false _ HWI.out).mono ?_); rintro e w50 ⟨rfl, hd_⟩; (try clear hzgn_0); (try clear hzgn_1); (try clear hzgn_2); (try clear hzgo_0); (try clear hzgo_1); (try clear hzgo_2); (try clear hzgx_0); (try clear hzgx_1); (try clear hzgx_2); have hb := Drawn0.below hd_; clear hd_; replace BKr := Aside0.mk (blk_below BKr.out hb); replace BKn := Aside0.mk (blk_below BKn.out hb); replace HB := Aside0.mk (below_step HB.out hb); clear hb; obtain ⟨hzgn_0, hzgn_1, hzgn_2⟩ := cl3_ BKn.out) | ((with_reducible refine gate_store (t := 34) (p := 4) rfl ?_); refine Go.Proofs.YtnggfglmjdiaaaaOwn.sto3 (t := 34) (p := 4) (g := gr) (w0 := w) Ybb_ rfl rfl rfl rfl (by rfl) BKr.out HB.out GEgr.out ?_; intro w51 hbx_ hB_ hO_; (try clear hzgn_0); (try clear hzgn_1); (try clear hzgn_2); clear BKr HB hO_; have BKr := Aside0.mk hbx_; have HB := Aside0.mk hB_; clear hbx_ hB_))
         refine bodyPost_ret (Df rfl _ _ gr 34 #[.slice none 0 0, .int .i64 0, .slice none 0 0] (0, 0) _ rfl BKr.out Try.underlying34 rfl Ybb_) rfl ?_
         exact ⟨_, _, rfl, Go.Proofs.YtnggfglmjdiaaaaOwn.TT.nil _ _ _, HB.out⟩
        | true =>
         rw [cW] at HWI
         rw [cW, if_pos rfl] at h
         have Pa1_2 := Aside0.mk (show 0 ≤ a1_2 ∧ a1_2 < (nB : Int) from by have h1_ := inRows_lt cW; have h2_ := HT.out.swap.reads.1; omega)
         clear cW
         obtain ⟨sG, hsG⟩ : ∃ z, z = rd_L1 B a1_2 := ⟨_, rfl⟩
         rw [← hsG] at h
         have HSsG := Aside0.mk hsG
         clear hsG
         by_cases cS : (Dh.f sG).isSome = true
         ·rw [if_pos cS] at h
          clear cS
          replace h := Option.bind_eq_some_iff.mp h
          obtain ⟨sC, a_, h⟩ := h
          have A3 := Aside0.mk a_
          clear a_
          by_cases cL : sC.length < 17592186044415
          ·rw [if_pos cL] at h
           have HLsC := Aside0.mk cL
           clear cL
           obtain ⟨sH, hsH⟩ : ∃ z, z = sC ++ [a1_1] := ⟨_, rfl⟩
           have HSsH := Aside0.mk hsH
           obtain ⟨lG, hlG⟩ : ∃ z, z = B.set (a1_2).toNat (sC ++ [a1_1]) := ⟨_, rfl⟩
           have HLlG := Aside0.mk (show lG = B.set (a1_2).toNat sH from by rw [hlG, hsH])
           rw [← hlG] at h
           clear hlG hsH
           replace h := Option.bind_eq_some_iff.mp h
           obtain ⟨vv, a_, h⟩ := h
           have A4 := Aside0.mk a_
           clear a_
           go_upto_region 22 with (first | (go_at_call 71; (with_reducible refine (Bi.calls a1_2 0 ((nB : Int) - 1) true _ HWI.out).mono ?_); rintro e w52 ⟨rfl, hd_⟩; (try clear hzgn_0); (try clear hzgn_1); (try clear hzgn_2); (try clear hzgo_0); (try clear hzgo_1); (try clear hzgo_2); (try clear hzgx_0); (try clear hzgx_1); (try clear hzgx_2); have hb := Drawn0.below hd_; clear hd_; replace HT := Aside0.mk (HT.out.below hb); replace BKx := Aside0.mk (blk_below BKx.out hb); replace BKr := Aside0.mk (blk_below BKr.out hb); replace BKn := Aside0.mk (blk_below BKn.out hb); replace BKo := Aside0.mk (blk_below BKo.out hb); replace HB := Aside0.mk (below_step HB.out hb); clear hb))
           clear hwn_ HWI
           obtain ⟨gB_, eg_, gb_, gl_⟩ := HT.out.swap.form Yfe_
           have GEB := Aside0.mk gb_
           clear gb_ gl_
           subst eg_
           obtain ⟨AsG, csG, hv_, hc_, hC_, hf_⟩ := Go.Proofs.YtnggfglmjdiaaaaOwn.TT.elem HT.out.swap (i := a1_2) Pa1_2.out.1 Yfe_
           have e_ : (B.getD (a1_2).toNat []) = sG := HSsG.out.symm
           rw [e_] at hv_ hc_ hC_
           clear e_
           have HVsG := Aside0.mk hv_
           have HCsG := Aside0.mk hc_
           have HRsG := Aside0.mk hC_
           have HFsG := Aside0.mk hf_
           clear hv_ hc_ hC_ hf_
           have NXB_gx := Aside0.mk (Go.Proofs.YtnggfglmjdiaaaaOwn.TT.ne HT.out.swap BKx.out (by decide))
           have NXB_gr := Aside0.mk (Go.Proofs.YtnggfglmjdiaaaaOwn.TT.ne HT.out.swap BKr.out (by decide))
           have NXB_gn := Aside0.mk (Go.Proofs.YtnggfglmjdiaaaaOwn.TT.ne HT.out.swap BKn.out (by decide))
           have NXB_go := Aside0.mk (Go.Proofs.YtnggfglmjdiaaaaOwn.TT.ne HT.out.swap BKo.out (by decide))
           have p_a1_2 : 0 ≤ a1_2 := Pa1_2.out.1
           have q_a1_2 : a1_2 < (nB : Int) := Pa1_2.out.2
           replace p_a1_2 := eq_true p_a1_2
           replace q_a1_2 := eq_true q_a1_2
           replace HT := Aside0.mk (HT.out.drew)
           replace BKx := Aside0.mk (blk_drew BKx.out)
           replace BKr := Aside0.mk (blk_drew BKr.out)
           replace BKn := Aside0.mk (blk_drew BKn.out)
           replace BKo := Aside0.mk (blk_drew BKo.out)
           replace HB := Aside0.mk (below_drew1 HB.out)
           replace HVsG := Aside0.mk ((show (w52.drew).cell? ⟨gB_, (a1_2).toNat, none⟩ = some (.slice AsG sG.length csG) from HVsG.out))
           replace HFsG := Aside0.mk ((show (w52.drew).frozen? ⟨gB_, (a1_2).toNat, none⟩ = false from HFsG.out))
           replace HRsG := Aside0.mk ((show Kd.C (Kd.int .i64) (w52.drew) AsG sG.length sG from HRsG.out))
           refine start_ (n := 19) (S := fun w' => w'.cell? ⟨gB_, (a1_2).toNat, none⟩ = some (.slice AsG sG.length csG) ∧ w'.cell? ⟨go, 2, none⟩ = some (.slice (some ⟨gB_, 0, none⟩) nB cB) ∧ w'.cell? ⟨gx, 1, none⟩ = some (.int .i64 a1_1) ∧ w'.cell? ⟨gx, 2, none⟩ = some (.int .i64 a1_2)) (ds := [18]) #[false, false, false, false, false, false, false, false, false, false, false, false, false, false, false, false, false, false, false] Ybb_ rfl rfl ⟨HVsG.out, (blk_cell BKo.out 2).trans rfl, (blk_cell BKx.out 1).trans rfl, (blk_cell BKx.out 2).trans rfl⟩ (fun hHeld => ?_)
           generalize w52.drew = w53 at HT BKx BKr BKn BKo HB HVsG HFsG HRsG hHeld ⊢
           refine pure_ (i := 0) (N := some 147) #[true, false, false, false, false, false, false, false, false, false, false, false, false, false, false, false, false, false, false] rfl rfl Ybb_ (fun _ _ _ h => h) (Or.inl ⟨by rfl, Yba_⟩) Ya_ ?_
           refine pure_ (i := 1) (N := some 148) #[true, true, false, false, false, false, false, false, false, false, false, false, false, false, false, false, false, false, false] rfl rfl Ybb_ (fun _ _ _ h => h) (Or.inl ⟨by rfl, Yba_⟩) Ya_ ?_
           refine pure_ (i := 3) (N := some 150) #[true, true, false, true, false, false, false, false, false, false, false, false, false, false, false, false, false, false, false] rfl rfl Ybb_ (fun _ _ _ h => h) (Or.inl ⟨by rfl, Yba_⟩) Ya_ ?_
           refine pure_ (i := 5) (N := some 152) #[true, true, false, true, false, true, false, false, false, false, false, false, false, false, false, false, false, false, false] rfl rfl Ybb_ (fun _ _ _ h => h) (Or.inl ⟨by rfl, Yba_⟩) Ya_ ?_
           refine pure_ (i := 6) (N := some 153) #[true, true, false, true, false, true, true, false, false, false, false, false, false, false, false, false, false, false, false] rfl rfl Ybb_ (fun _ _ _ h => h) (Or.inl ⟨by rfl, Yba_⟩) Ya_ ?_
           refine pure_ (i := 8) (N := some 155) #[true, true, false, true, false, true, true, false, true, false, false, false, false, false, false, false, false, false, false] rfl rfl Ybb_ (fun _ _ _ h => h) (Or.inl ⟨by rfl, Yba_⟩) Ya_ ?_
           refine pure_ (i := 13) (N := some 160) #[true, true, false, true, false, true, true, false, true, false, false, false, false, true, false, false, false, false, false] rfl rfl Ybb_ (fun _ _ _ h => h) (Or.inl ⟨by rfl, Yba_⟩) Ya_ ?_
           refine take_ (i := 2) (N := some 149) #[true, true, true, true, false, true, true, false, true, false, false, false, false, true, false, false, false, false, false] rfl rfl Ybb_ (fun _ _ _ h => h) (Or.inl ⟨by rfl, Ycg_⟩) hHeld Ya_ ?_
           refine take_ (i := 4) (N := some 151) #[true, true, true, true, true, true, true, false, true, false, false, false, false, true, false, false, false, false, false] rfl rfl Ybb_ (fun _ _ _ h => h) (Or.inl ⟨by rfl, Ycg_⟩) hHeld Ya_ ?_
           refine take_ (i := 7) (N := some 154) #[true, true, true, true, true, true, true, true, true, false, false, false, false, true, false, false, false, false, false] rfl rfl Ybb_ (fun _ _ _ h => h) (Or.inl ⟨by rfl, Ycg_⟩) hHeld Ya_ ?_
           refine take_ (i := 9) (N := some 156) #[true, true, true, true, true, true, true, true, true, true, false, false, false, true, false, false, false, false, false] rfl rfl Ybb_ (fun _ _ _ h => h) (Or.inl ⟨by rfl, Ycg_⟩) hHeld Ya_ ?_
           refine pure_ (i := 10) (N := some 157) #[true, true, true, true, true, true, true, true, true, true, true, false, false, true, false, false, false, false, false] rfl rfl Ybb_ (fun _ _ _ h => h) (Or.inl ⟨by rfl, Yba_⟩) Ya_ ?_
           refine take_ (i := 11) (N := some 158) #[true, true, true, true, true, true, true, true, true, true, true, true, false, true, false, false, false, false, false] rfl rfl Ybb_ (fun _ _ _ h => h) (Or.inl ⟨by rfl, Ycg_⟩) hHeld Ya_ ?_
           refine take_ (i := 14) (N := some 161) #[true, true, true, true, true, true, true, true, true, true, true, true, false, true, true, false, false, false, false] rfl rfl Ybb_ (fun _ _ _ h => h) (Or.inl ⟨by rfl, Ycg_⟩) hHeld Ya_ ?_
           refine join_ (σ := Value × Option Addr × Nat) 3 #[true, true, true, true, true, true, true, true, true, true, true, true, true, true, true, true, false, false, false] (fun s => match s with | ⟨vC, A40, c40⟩ => [(159, vC), (162, .slice A40 ([a1_1] : List Int).length c40)]) (fun s w' => match s with | ⟨vC, A40, c40⟩ => Aside0 (Kd.R (Kd.int .i64) 3 w' w53.heap.size (fun _ => True) vC sC) ∧ Aside0 (Kd.R (Kd.int .i64) 3 w' w53.heap.size (fun _ => True) (.slice A40 ([a1_1] : List Int).length c40) [a1_1]) ∧ Aside0 (Below w53.heap.size w53 w')) ?_ ?_
           rotate_left
           ·intro hCont
            refine two_ (i := 12) (j := 15) (Ni := some 159) (Nj := some 162) #[true, true, true, true, true, true, true, true, true, true, true, true, true, true, true, false, false, false, false] #[true, true, true, true, true, true, true, true, true, true, true, true, false, true, true, true, false, false, false] rfl rfl rfl rfl Ybb_ (by decide) (by decide) (fun K hK => ?_) (fun K hK => ?_)
            ·skip
             have HB2 := Aside0.mk (Below.refl w53.heap.size w53)
             refine goes_ Try.func72 Ybb_ rfl #[.slice AsG sG.length csG] (by rfl) rfl rfl Yfa_ ?_
             with_reducible refine (Dh.calls _ _ sG sC _ (Kd.C_below HRsG.out HB2.out) HCsG.out A3.out).mono ?_
             rintro e W1_ ⟨vC, rfl, ho_, hb_⟩
             refine ⟨_, rfl, ?_⟩
             have HN := Aside0.mk (Kd.R_lower ho_ (below_size HB2.out))
             have m_ := Aside0.mk (below_step HB2.out hb_)
             clear HB2 ho_ hb_
             have HB2 := m_
             clear m_
             refine hK.out _ _ ⟨(HB2.out.cell (World.block_lt_of_cell? _ _ HVsG.out)).trans HVsG.out, (blk_cell (blk_below BKo.out HB2.out) 2).trans rfl, (blk_cell (blk_below BKx.out HB2.out) 1).trans rfl, (blk_cell (blk_below BKx.out HB2.out) 2).trans rfl⟩ (fun hHeld => ?_)
             clear hK K
             refine norm_ (show Act.put _ (some 159) _ = _ from Ya_) ?_
             refine one_ (i := 15) (N := some 162) #[true, true, true, true, true, true, true, true, true, true, true, true, true, true, true, true, false, false, false] rfl rfl Ybb_ (by decide) (fun K hK => ?_)
             refine Kd.Gj (Kd.int .i64) w53.heap.size 3 ?hg (N := 162) ?hd (xs := ([a1_1] : List Int)) (inner := [.int .i64 a1_1]) (ok := fun _ => True) (okp := fun _ => True) ?hr ?hp (fun _ hk => hk) trivial HB2.out (below_size HB2.out) (by simp) ?_; (case hd => rfl); (case hg => rfl); (case hr => first | (go_simp; done) | (go_simp; rfl)); (case hp => exact (Reps.one (show Kd.M (Kd.int .i64) _ _ _ a1_1 [.int .i64 a1_1] from rfl) (Reps.none _ _)))
             intro vL_ W2_ ho hb hg_ hnew_
             obtain ⟨A40, c40, e40_⟩ := Kd.Dc ho
             subst e40_
             have HL := Aside0.mk ho
             replace HN := Aside0.mk (Kd.R_grown HN.out hg_ (fun _ _ h_ => nomatch h_))
             clear HB2
             have HB2 := Aside0.mk hb
             clear hb hg_ hnew_ ho
             refine hK.out _ _ ⟨(HB2.out.cell (World.block_lt_of_cell? _ _ HVsG.out)).trans HVsG.out, (blk_cell (blk_below BKo.out HB2.out) 2).trans rfl, (blk_cell (blk_below BKx.out HB2.out) 1).trans rfl, (blk_cell (blk_below BKx.out HB2.out) 2).trans rfl⟩ (fun hHeld => ?_)
             clear hK K
             refine norm_ (show Act.put _ (some 162) _ = _ from Ya_) ?_
             exact norm_ Yda_ (hCont (vC, A40, c40) _ ⟨HN, HL, HB2⟩)
            ·skip
             have HB2 := Aside0.mk (Below.refl w53.heap.size w53)
             refine Kd.Gj (Kd.int .i64) w53.heap.size 3 ?hg (N := 162) ?hd (xs := ([a1_1] : List Int)) (inner := [.int .i64 a1_1]) (ok := fun _ => True) (okp := fun _ => True) ?hr ?hp (fun _ hk => hk) trivial HB2.out (below_size HB2.out) (by simp) ?_; (case hd => rfl); (case hg => rfl); (case hr => first | (go_simp; done) | (go_simp; rfl)); (case hp => exact (Reps.one (show Kd.M (Kd.int .i64) _ _ _ a1_1 [.int .i64 a1_1] from rfl) (Reps.none _ _)))
             intro vL_ W1_ ho hb hg_ hnew_
             obtain ⟨A40, c40, e40_⟩ := Kd.Dc ho
             subst e40_
             have HL := Aside0.mk ho
             clear HB2
             have HB2 := Aside0.mk hb
             clear hb hg_ hnew_ ho
             refine hK.out _ _ ⟨(HB2.out.cell (World.block_lt_of_cell? _ _ HVsG.out)).trans HVsG.out, (blk_cell (blk_below BKo.out HB2.out) 2).trans rfl, (blk_cell (blk_below BKx.out HB2.out) 1).trans rfl, (blk_cell (blk_below BKx.out HB2.out) 2).trans rfl⟩ (fun hHeld => ?_)
             clear hK K
             refine norm_ (show Act.put _ (some 162) _ = _ from Ya_) ?_
             refine one_ (i := 12) (N := some 159) #[true, true, true, true, true, true, true, true, true, true, true, true, true, true, true, true, false, false, false] rfl rfl Ybb_ (by decide) (fun K hK => ?_)
             refine goes_ Try.func72 Ybb_ rfl #[.slice AsG sG.length csG] (by rfl) rfl rfl Yfa_ ?_
             with_reducible refine (Dh.calls _ _ sG sC _ (Kd.C_below HRsG.out HB2.out) HCsG.out A3.out).mono ?_
             rintro e W2_ ⟨vC, rfl, ho_, hb_⟩
             refine ⟨_, rfl, ?_⟩
             have HN := Aside0.mk (Kd.R_lower ho_ (below_size HB2.out))
             replace HL := Aside0.mk (Kd.Cb HL.out hb_)
             have m_ := Aside0.mk (below_step HB2.out hb_)
             clear HB2 ho_ hb_
             have HB2 := m_
             clear m_
             refine hK.out _ _ ⟨(HB2.out.cell (World.block_lt_of_cell? _ _ HVsG.out)).trans HVsG.out, (blk_cell (blk_below BKo.out HB2.out) 2).trans rfl, (blk_cell (blk_below BKx.out HB2.out) 1).trans rfl, (blk_cell (blk_below BKx.out HB2.out) 2).trans rfl⟩ (fun hHeld => ?_)
             clear hK K
             refine norm_ (show Act.put _ (some 159) _ = _ from Ya_) ?_
             exact norm_ Yda_ (hCont (vC, A40, c40) _ ⟨HN, HL, HB2⟩)
           rintro ⟨vC, A40, c40⟩ W4_ ⟨HN, HL, HB2⟩
           have hHeld : (fun w' => w'.cell? ⟨gB_, (a1_2).toNat, none⟩ = some (.slice AsG sG.length csG) ∧ w'.cell? ⟨go, 2, none⟩ = some (.slice (some ⟨gB_, 0, none⟩) nB cB) ∧ w'.cell? ⟨gx, 1, none⟩ = some (.int .i64 a1_1) ∧ w'.cell? ⟨gx, 2, none⟩ = some (.int .i64 a1_2)) W4_ := ⟨(HB2.out.cell (World.block_lt_of_cell? _ _ HVsG.out)).trans HVsG.out, (blk_cell (blk_below BKo.out HB2.out) 2).trans rfl, (blk_cell (blk_below BKx.out HB2.out) 1).trans rfl, (blk_cell (blk_below BKx.out HB2.out) 2).trans rfl⟩
           refine norm_ (a' := ?_) ?_ ?_
           rotate_left
           ·simp only [Es, Act.put, List.setIfInBounds_toArray, List.set_cons_zero, List.set_cons_succ]
            rfl
           refine one_ (i := 16) (N := some 163) #[true, true, true, true, true, true, true, true, true, true, true, true, true, true, true, true, true, false, false] rfl rfl Ybb_ (by decide) (fun K hK => ?_)
           refine Kd.Gg (Kd.int .i64) (w0 := w53) w53.heap.size (by rfl) (.tmp 159) (.tmp 162) 73 3 (.int .i64 0) 8 rfl Try.underlying73 info3 rfl (by decide) (by omega) vC sC [a1_1] A40 ([a1_1] : List Int).length c40 (fun _ => True) (fun _ => False) rfl rfl HN.out ((Kd.Bo HL.out).2.2) (fun _ _ h => h) (fun _ h => h.elim) (fun _ _ => trivial) HB2.out (below_size HB2.out) Yge_ ?_
           intro v_ w54 ho hb hg hat
           clear hg hat HN HL HB2
           rw [← HSsH.out] at ho
           obtain ⟨AsH, csH, ev_⟩ := Kd.Dc ho
           subst ev_
           have hk_ := (Go.Proofs.YtnggfglmjdiaaaaOwn.TT.put HT.out.swap (below_size HB.out) hb Pa1_2.out.1 Yfe_ ho).1
           have HT2 := Aside0.mk hk_
           clear hk_ ho HT
           have hv_ := (hb.cell (World.block_lt_of_cell? _ _ HVsG.out)).trans HVsG.out
           have hf_ := (World.frozen?_of_block (hb.block _ (World.block_lt_of_cell? _ _ HVsG.out))).trans HFsG.out
           clear HVsG HFsG
           have HVsG := Aside0.mk hv_
           have HFsG := Aside0.mk hf_
           clear hv_ hf_
           replace BKx := Aside0.mk (blk_below BKx.out hb)
           replace BKr := Aside0.mk (blk_below BKr.out hb)
           replace BKn := Aside0.mk (blk_below BKn.out hb)
           replace BKo := Aside0.mk (blk_below BKo.out hb)
           replace HB := Aside0.mk (below_step HB.out hb)
           clear hb
           refine hK.out _ _ ⟨HVsG.out, (blk_cell BKo.out 2).trans rfl, (blk_cell BKx.out 1).trans rfl, (blk_cell BKx.out 2).trans rfl⟩ (fun hHeld => ?_)
           clear hK K
           refine norm_ (show Act.put _ (some 163) _ = _ from Ya_) ?_
           refine pure_ (i := 17) (N := some 164) #[true, true, true, true, true, true, true, true, true, true, true, true, true, true, true, true, true, true, false] rfl rfl Ybb_ (fun _ _ _ h => h) (Or.inl ⟨by rfl, Yba_⟩) Ya_ ?_
           refine last_ (i := 18) (N := none) #[true, true, true, true, true, true, true, true, true, true, true, true, true, true, true, true, true, true, true] rfl rfl Ybb_ (by decide) (fun K hK => ?_)
           have hv_ := HVsG.out
           have hf_ := HFsG.out
           refine Go.Proofs.YtnggfglmjdiaaaaOwn.F6 (w1 := (w54.setCell ⟨gB_, (a1_2).toNat, none⟩ (.slice AsH sH.length csH))) (by rfl) rfl ?_ ?_
           ·first | (go_simp; done) | (go_simp; rfl)
           intro w55 hw
           clear hv_ hf_
           have HT := HT2
           clear HT2
           have hO_ : Go.Proofs.YtnggfglmjdiaaaaOwn.Only w54 w55 gB_ := Ycj_
           have ht_ := HT.out.swap
           rw [← hw] at ht_
           clear HT
           have HT := Aside0.mk ht_
           clear ht_ hw
           replace BKx := Aside0.mk ((hO_.others _ NXB_gx.out).trans BKx.out)
           replace BKr := Aside0.mk ((hO_.others _ NXB_gr.out).trans BKr.out)
           replace BKn := Aside0.mk ((hO_.others _ NXB_gn.out).trans BKn.out)
           replace BKo := Aside0.mk ((hO_.others _ NXB_go.out).trans BKo.out)
           replace HB := Aside0.mk (hO_.below HB.out GEB.out)
           clear hO_
           clear NXB_gx
           clear NXB_gr
           clear NXB_gn
           clear NXB_go
           rw [show B.set (a1_2).toNat sH = lG from HLlG.out.symm] at HT
           refine hK.out _ _ ?_
           clear hK K
           refine done_ Ybb_ ?_
           clear p_a1_2 q_a1_2 HVsG HFsG HCsG HRsG
           have hy_ := HT.out.reads
           have hb_ := HT.out.swap.reads
           have call_ := Ad.calls k (some ⟨gY_, 0, none⟩) cY lF hh (some ⟨gB_, 0, none⟩) cB lG vv _ hy_.2.2 (hy_.1 ▸ hy_.2.1) hb_.2.2 (hb_.1 ▸ hb_.2.1) A4.out
           rw [← hy_.1, ← hb_.1] at call_
           have CALLV := Aside0.mk call_
           clear call_ hy_ hb_
           clear BKx
           obtain ⟨hzgn_0, hzgn_1, hzgn_2⟩ := cl3_ BKn.out
           obtain ⟨hzgo_0, hzgo_1, hzgo_2⟩ := cl3_ BKo.out
           cases vv with
           | false =>
            simp only [Fq, Bool.false_eq_true, if_false] at h
            simp only [Option.some.injEq, Prod.mk.injEq] at h
            obtain ⟨rfl, rfl, rfl, rfl⟩ := h
            clear BKo
            clear HT
            go_wp2_with (first | (go_at_call 39; (with_reducible refine (CALLV.out).mono ?_); rintro e w56 ⟨rfl, hb⟩; (try clear hzgn_0); (try clear hzgn_1); (try clear hzgn_2); (try clear hzgo_0); (try clear hzgo_1); (try clear hzgo_2); replace BKr := Aside0.mk (blk_below BKr.out hb); replace BKn := Aside0.mk (blk_below BKn.out hb); replace HB := Aside0.mk (below_step HB.out hb); clear hb; obtain ⟨hzgn_0, hzgn_1, hzgn_2⟩ := cl3_ BKn.out) | ((with_reducible refine gate_store (t := 34) (p := 4) rfl ?_); refine Go.Proofs.YtnggfglmjdiaaaaOwn.sto3 (t := 34) (p := 4) (g := gr) (w0 := w) Ybb_ rfl rfl rfl rfl (by rfl) BKr.out HB.out GEgr.out ?_; intro w57 hbx_ hB_ hO_; (try clear hzgn_0); (try clear hzgn_1); (try clear hzgn_2); clear BKr HB hO_; have BKr := Aside0.mk hbx_; have HB := Aside0.mk hB_; clear hbx_ hB_))
            refine bodyPost_ret (Df rfl _ _ gr 34 #[.slice none 0 0, .int .i64 0, .slice none 0 0] (0, 0) _ rfl BKr.out Try.underlying34 rfl Ybb_) rfl ?_
            exact ⟨_, _, rfl, Go.Proofs.YtnggfglmjdiaaaaOwn.TT.nil _ _ _, HB.out⟩
           | true =>
            simp only [Fq, if_true] at h
            simp only [Option.some.injEq, Prod.mk.injEq] at h
            obtain ⟨rfl, rfl, rfl, rfl⟩ := h
            clear BKn
            go_wp2_with (first | (go_at_call 39; (with_reducible refine (CALLV.out).mono ?_); rintro e w58 ⟨rfl, hb⟩; (try clear hzgn_0); (try clear hzgn_1); (try clear hzgn_2); (try clear hzgo_0); (try clear hzgo_1); (try clear hzgo_2); replace HT := Aside0.mk (HT.out.below hb); replace BKr := Aside0.mk (blk_below BKr.out hb); replace BKo := Aside0.mk (blk_below BKo.out hb); replace HB := Aside0.mk (below_step HB.out hb); clear hb; obtain ⟨hzgo_0, hzgo_1, hzgo_2⟩ := cl3_ BKo.out) | ((with_reducible refine gate_store (t := 34) (p := 4) rfl ?_); refine Go.Proofs.YtnggfglmjdiaaaaOwn.sto3 (t := 34) (p := 4) (g := gr) (w0 := w) Ybb_ rfl rfl rfl rfl (by rfl) BKr.out HB.out GEgr.out ?_; intro w59 hbx_ hB_ hO_; (try clear hzgo_0); (try clear hzgo_1); (try clear hzgo_2); replace HT := Aside0.mk (HT.out.only BKr.out (by decide) hO_); clear BKr HB hO_; have BKr := Aside0.mk hbx_; have HB := Aside0.mk hB_; clear hbx_ hB_))
            refine bodyPost_ret (Df rfl _ _ gr 34 #[.slice (some ⟨gY_, 0, none⟩) nY cY, .int .i64 hh, .slice (some ⟨gB_, 0, none⟩) nB cB] (0, 0) _ rfl BKr.out Try.underlying34 rfl Ybb_) rfl ?_
            exact ⟨_, _, rfl, HT.out, HB.out⟩
          ·rw [if_neg cL] at h
           cases h
         ·rw [if_neg cS] at h
          cases h
       ·rw [if_neg c5] at h
        cases h
      ·rw [if_neg c3] at h
       simp only [Option.some.injEq, Prod.mk.injEq] at h
       obtain ⟨rfl, rfl, rfl, rfl⟩ := h
       have d1_ : (q2 == (sT.length : Int) - 1) = false := by simp [c3]
       have d2_ : decide (q2 = (sT.length : Int) - 1) = false := decide_eq_false c3
       have d3_ : (q2 != (sT.length : Int) - 1) = true := by simp [c3]
       clear c3
       clear BKx
       clear BKo
       clear HT
       go_wp2_with (first | (go_at_call 47; (with_reducible refine (spec_l5Find.calls k _ _ l0_0 a1_1 q1 q2 _ (Kd.C_below HR0_0.out HB.out) HC0_0.out A2.out).mono ?_); rintro e w60 ⟨rfl, hb⟩; (try clear hzgn_0); (try clear hzgn_1); (try clear hzgn_2); (try clear hzgt_0); (try clear hzgt_1); (try clear hzgt_2); (try clear hzgx_0); (try clear hzgx_1); (try clear hzgx_2); replace BKt := Aside0.mk (blk_below BKt.out hb); replace BKr := Aside0.mk (blk_below BKr.out hb); replace BKn := Aside0.mk (blk_below BKn.out hb); replace HB := Aside0.mk (below_step HB.out hb); have hxt_ : w60.cell? (adT.add q1.toNat) = some (.slice AT sT.length cT) := (HB.out.cell (World.block_lt_of_cell? w _ HXT.out)).trans HXT.out; clear hb; obtain ⟨hzgt_0, hzgt_1, hzgt_2⟩ := cl3_ BKt.out; obtain ⟨hzgn_0, hzgn_1, hzgn_2⟩ := cl3_ BKn.out) | ((with_reducible refine gate_store (t := 34) (p := 4) rfl ?_); refine Go.Proofs.YtnggfglmjdiaaaaOwn.sto3 (t := 34) (p := 4) (g := gr) (w0 := w) Ybb_ rfl rfl rfl rfl (by rfl) BKr.out HB.out GEgr.out ?_; intro w61 hbx_ hB_ hO_; (try clear hzgn_0); (try clear hzgn_1); (try clear hzgn_2); (try clear hzgt_0); (try clear hzgt_1); (try clear hzgt_2); clear BKr HB hO_; have BKr := Aside0.mk hbx_; have HB := Aside0.mk hB_; clear hbx_ hB_))
       refine bodyPost_ret (Df rfl _ _ gr 34 #[.slice none 0 0, .int .i64 0, .slice none 0 0] (0, 0) _ rfl BKr.out Try.underlying34 rfl Ybb_) rfl ?_
       exact ⟨_, _, rfl, Go.Proofs.YtnggfglmjdiaaaaOwn.TT.nil _ _ _, HB.out⟩
     ·rw [if_neg c2] at h
      cases h
   ·simp only [if_neg k2] at h
    have m3_ : (a1_0 == 3) = false := by simp [k3]
    have n3_ : decide (a1_0 = 3) = false := decide_eq_false k3
    replace h := Option.bind_eq_some_iff.mp h
    obtain ⟨⟨q1, q2⟩, a_, h⟩ := h
    have A2 := Aside0.mk a_
    clear a_
    dsimp only at h
    unfold lmCut at h
    by_cases c1 : q1 < 0
    ·rw [if_pos c1] at h
     simp only [Option.some.injEq, Prod.mk.injEq] at h
     obtain ⟨rfl, rfl, rfl, rfl⟩ := h
     have cb1 : decide (q1 < 0) = true := decide_eq_true c1
     clear c1
     clear BKx
     clear BKo
     clear HT
     go_wp2_with (first | (go_at_call 47; (with_reducible refine (spec_l5Find.calls k _ _ l0_0 a1_1 q1 q2 _ (Kd.C_below HR0_0.out HB.out) HC0_0.out A2.out).mono ?_); rintro e w62 ⟨rfl, hb⟩; (try clear hzgn_0); (try clear hzgn_1); (try clear hzgn_2); (try clear hzgt_0); (try clear hzgt_1); (try clear hzgt_2); (try clear hzgx_0); (try clear hzgx_1); (try clear hzgx_2); replace BKt := Aside0.mk (blk_below BKt.out hb); replace BKr := Aside0.mk (blk_below BKr.out hb); replace BKn := Aside0.mk (blk_below BKn.out hb); replace HB := Aside0.mk (below_step HB.out hb); clear hb; obtain ⟨hzgn_0, hzgn_1, hzgn_2⟩ := cl3_ BKn.out) | ((with_reducible refine gate_store (t := 34) (p := 4) rfl ?_); refine Go.Proofs.YtnggfglmjdiaaaaOwn.sto3 (t := 34) (p := 4) (g := gr) (w0 := w) Ybb_ rfl rfl rfl rfl (by rfl) BKr.out HB.out GEgr.out ?_; intro w63 hbx_ hB_ hO_; (try clear hzgn_0); (try clear hzgn_1); (try clear hzgn_2); clear BKr HB hO_; have BKr := Aside0.mk hbx_; have HB := Aside0.mk hB_; clear hbx_ hB_))
     refine bodyPost_ret (Df rfl _ _ gr 34 #[.slice none 0 0, .int .i64 0, .slice none 0 0] (0, 0) _ rfl BKr.out Try.underlying34 rfl Ybb_) rfl ?_
     exact ⟨_, _, rfl, Go.Proofs.YtnggfglmjdiaaaaOwn.TT.nil _ _ _, HB.out⟩
    ·rw [if_neg c1] at h
     by_cases c2 : q1 < (l0_0.length : Int)
     ·rw [if_pos c2] at h
      have cb1 : decide (q1 < 0) = false := decide_eq_false c1
      have p_ : 0 ≤ q1 := by omega
      obtain ⟨adT, AT, cT, eT, hx_, hl_, hi_⟩ := Cj HR0_0.out q1 p_ c2
      subst eT
      have hlw_ := hi_.2.1
      obtain ⟨sT, hsT⟩ : ∃ z, z = rd_L1 l0_0 q1 := ⟨_, rfl⟩
      rw [← hsT] at h hx_ hlw_
      clear hl_ hi_ hsT
      have HXT := Aside0.mk hx_
      clear hx_
      have hwt_ : wrap64 ((sT.length : Int) - 1) = (sT.length : Int) - 1 := by unfold wrap64; omega
      clear hlw_
      have C1 := Aside0.mk p_
      have C2 := Aside0.mk c2
      have p1_ := eq_true p_
      have q1_ := eq_true c2
      clear p_ c1 c2
      by_cases c3 : q2 = (sT.length : Int) - 1
      ·rw [if_pos c3] at h
       have d1_ : (q2 == (sT.length : Int) - 1) = true := by simp [c3]
       have d2_ : decide (q2 = (sT.length : Int) - 1) = true := decide_eq_true c3
       have d3_ : (q2 != (sT.length : Int) - 1) = false := by simp [c3]
       clear c3
       rw [if_pos rfl] at h
       by_cases c5 : 0 ≤ q2 ∧ q1 < (Y.length : Int) ∧ q2 ≤ ((rd_L1 Y q1).length : Int)
       ·rw [if_pos c5] at h
        obtain ⟨sF, hsF⟩ : ∃ z, z = rd_L1 Y q1 := ⟨_, rfl⟩
        rw [← hsF] at c5
        have HSsF := Aside0.mk hsF
        obtain ⟨c5, c6, c7⟩ := c5
        have Pq1 := Aside0.mk (show 0 ≤ q1 ∧ q1 < (nY : Int) from ⟨C1.out, by have := HT.out.reads.1; omega⟩)
        have HMq2 := Aside0.mk (show (q2).toNat ≤ sF.length from by omega)
        have HQ0 := Aside0.mk c5
        have HQ1 := Aside0.mk c7
        clear c5 c6 c7
        obtain ⟨lF, hlF⟩ : ∃ z, z = cutAt Y q1 q2 := ⟨_, rfl⟩
        have HLlF := Aside0.mk (show lF = Y.set (q1).toNat ((Y.getD (q1).toNat []).take (q2).toNat) from hlF)
        rw [← hlF] at h
        (try dsimp only at h)
        clear hlF hsF
        go_upto_region 11 with (first | (go_at_call 47; (with_reducible refine (spec_l5Find.calls k _ _ l0_0 a1_1 q1 q2 _ (Kd.C_below HR0_0.out HB.out) HC0_0.out A2.out).mono ?_); rintro e w64 ⟨rfl, hb⟩; (try clear hzgn_0); (try clear hzgn_1); (try clear hzgn_2); (try clear hzgt_0); (try clear hzgt_1); (try clear hzgt_2); (try clear hzgx_0); (try clear hzgx_1); (try clear hzgx_2); replace HT := Aside0.mk (HT.out.below hb); replace BKt := Aside0.mk (blk_below BKt.out hb); replace BKx := Aside0.mk (blk_below BKx.out hb); replace BKr := Aside0.mk (blk_below BKr.out hb); replace BKn := Aside0.mk (blk_below BKn.out hb); replace BKo := Aside0.mk (blk_below BKo.out hb); replace HB := Aside0.mk (below_step HB.out hb); have hxt_ : w64.cell? (adT.add q1.toNat) = some (.slice AT sT.length cT) := (HB.out.cell (World.block_lt_of_cell? w _ HXT.out)).trans HXT.out; clear hb; obtain ⟨hzgt_0, hzgt_1, hzgt_2⟩ := cl3_ BKt.out; obtain ⟨hzgx_0, hzgx_1, hzgx_2⟩ := cl3_ BKx.out))
        clear hwt_ d1_ d2_ d3_ p1_ q1_
        (try clear hxt_)
        (try clear hzgt_0)
        (try clear hzgt_1)
        (try clear hzgt_2)
        (try clear hzgx_0)
        (try clear hzgx_1)
        (try clear hzgx_2)
        clear BKt
        obtain ⟨gY_, eg_, gb_, gl_⟩ := HT.out.form Yei_
        have GEY := Aside0.mk gb_
        clear gb_ gl_
        subst eg_
        obtain ⟨AsF, csF, hv_, hc_, hC_, hf_⟩ := Go.Proofs.YtnggfglmjdiaaaaOwn.TT.elem HT.out (i := q1) Pq1.out.1 Yei_
        have e_ : (Y.getD (q1).toNat []) = sF := HSsF.out.symm
        rw [e_] at hv_ hc_ hC_
        clear e_
        have HVsF := Aside0.mk hv_
        have HCsF := Aside0.mk hc_
        have HRsF := Aside0.mk hC_
        have HFsF := Aside0.mk hf_
        clear hv_ hc_ hC_ hf_
        have NXY_gx := Aside0.mk (Go.Proofs.YtnggfglmjdiaaaaOwn.TT.ne HT.out BKx.out (by decide))
        have NXY_gr := Aside0.mk (Go.Proofs.YtnggfglmjdiaaaaOwn.TT.ne HT.out BKr.out (by decide))
        have NXY_gn := Aside0.mk (Go.Proofs.YtnggfglmjdiaaaaOwn.TT.ne HT.out BKn.out (by decide))
        have NXY_go := Aside0.mk (Go.Proofs.YtnggfglmjdiaaaaOwn.TT.ne HT.out BKo.out (by decide))
        have p_q1 : 0 ≤ q1 := Pq1.out.1
        have q_q1 : q1 < (nY : Int) := Pq1.out.2
        replace p_q1 := eq_true p_q1
        replace q_q1 := eq_true q_q1
        obtain ⟨i0_, hi0_, _, hsz0_, _⟩ := info_parts info3
        have hcut_ := cut_to (P := Try.prog) 73 3 .i64 Try.underlying73 hi0_ AsF sF.length csF q2 HQ0.out HQ1.out HCsF.out
        replace HT := Aside0.mk (HT.out.drew)
        replace BKx := Aside0.mk (blk_drew BKx.out)
        replace BKr := Aside0.mk (blk_drew BKr.out)
        replace BKn := Aside0.mk (blk_drew BKn.out)
        replace BKo := Aside0.mk (blk_drew BKo.out)
        replace HB := Aside0.mk (below_drew1 HB.out)
        replace HVsF := Aside0.mk ((show (w64.drew).cell? ⟨gY_, (q1).toNat, none⟩ = some (.slice AsF sF.length csF) from HVsF.out))
        replace HFsF := Aside0.mk ((show (w64.drew).frozen? ⟨gY_, (q1).toNat, none⟩ = false from HFsF.out))
        refine start_ (n := 14) (S := fun w' => w'.cell? ⟨gY_, (q1).toNat, none⟩ = some (.slice AsF sF.length csF) ∧ w'.cell? ⟨go, 0, none⟩ = some (.slice (some ⟨gY_, 0, none⟩) nY cY)) (ds := [13]) #[false, false, false, false, false, false, false, false, false, false, false, false, false, false] Ybb_ rfl rfl ⟨HVsF.out, (blk_cell BKo.out 0).trans rfl⟩ (fun hHeld => ?_)
        generalize w64.drew = w65 at HT BKx BKr BKn BKo HB HVsF HFsF hHeld ⊢
        refine pure_ (i := 0) (N := some 88) #[true, false, false, false, false, false, false, false, false, false, false, false, false, false] rfl rfl Ybb_ (fun _ _ _ h => h) (Or.inl ⟨by rfl, Yba_⟩) Ya_ ?_
        refine pure_ (i := 1) (N := some 89) #[true, true, false, false, false, false, false, false, false, false, false, false, false, false] rfl rfl Ybb_ (fun _ _ _ h => h) (Or.inl ⟨by rfl, Yba_⟩) Ya_ ?_
        refine pure_ (i := 3) (N := some 91) #[true, true, false, true, false, false, false, false, false, false, false, false, false, false] rfl rfl Ybb_ (fun _ _ _ h => h) (Or.inl ⟨by rfl, Yba_⟩) Ya_ ?_
        refine pure_ (i := 4) (N := some 92) #[true, true, false, true, true, false, false, false, false, false, false, false, false, false] rfl rfl Ybb_ (fun _ _ _ h => h) (Or.inl ⟨by rfl, Yba_⟩) Ya_ ?_
        refine pure_ (i := 5) (N := some 93) #[true, true, false, true, true, true, false, false, false, false, false, false, false, false] rfl rfl Ybb_ (fun _ _ _ h => h) (Or.inl ⟨by rfl, Yba_⟩) Ya_ ?_
        refine pure_ (i := 7) (N := some 95) #[true, true, false, true, true, true, false, true, false, false, false, false, false, false] rfl rfl Ybb_ (fun _ _ _ h => h) (Or.inl ⟨by rfl, Yba_⟩) Ya_ ?_
        refine pure_ (i := 10) (N := some 98) #[true, true, false, true, true, true, false, true, false, false, true, false, false, false] rfl rfl Ybb_ (fun _ _ _ h => h) (Or.inl ⟨by rfl, Yba_⟩) Ya_ ?_
        refine take_ (i := 2) (N := some 90) #[true, true, true, true, true, true, false, true, false, false, true, false, false, false] rfl rfl Ybb_ (fun _ _ _ h => h) (Or.inl ⟨by rfl, Ydb_⟩) hHeld Ya_ ?_
        refine take_ (i := 6) (N := some 94) #[true, true, true, true, true, true, true, true, false, false, true, false, false, false] rfl rfl Ybb_ (fun _ _ _ h => h) (Or.inl ⟨by rfl, Ydb_⟩) hHeld Ya_ ?_
        refine pure_ (i := 8) (N := some 96) #[true, true, true, true, true, true, true, true, true, false, true, false, false, false] rfl rfl Ybb_ (fun _ _ _ h => h) (Or.inl ⟨by rfl, Yba_⟩) Ya_ ?_
        refine take_ (i := 9) (N := some 97) #[true, true, true, true, true, true, true, true, true, true, true, false, false, false] rfl rfl Ybb_ (fun _ _ _ h => h) (Or.inl ⟨by rfl, Ydb_⟩) hHeld Ya_ ?_
        refine pure_ (i := 11) (N := some 99) #[true, true, true, true, true, true, true, true, true, true, true, true, false, false] rfl rfl Ybb_ (fun _ _ _ h => h) (Or.inl ⟨by rfl, Yba_⟩) Ya_ ?_
        refine pure_ (i := 12) (N := some 100) #[true, true, true, true, true, true, true, true, true, true, true, true, true, false] rfl rfl Ybb_ (fun _ _ _ h => h) (Or.inl ⟨by rfl, Yba_⟩) Ya_ ?_
        refine last_ (i := 13) (N := none) #[true, true, true, true, true, true, true, true, true, true, true, true, true, true] rfl rfl Ybb_ (by decide) (fun K hK => ?_)
        have hv_ := HVsF.out
        have hf_ := HFsF.out
        refine Go.Proofs.YtnggfglmjdiaaaaOwn.F6 (w1 := (w65.setCell ⟨gY_, (q1).toNat, none⟩ (.slice AsF (q2).toNat csF))) (by rfl) rfl ?_ ?_
        ·first | (go_simp; done) | (go_simp; rfl)
        intro w66 hw
        clear hv_ hf_
        have hO_ : Go.Proofs.YtnggfglmjdiaaaaOwn.Only w65 w66 gY_ := Ycj_
        have ht_ := (Go.Proofs.YtnggfglmjdiaaaaOwn.TT.cut HT.out Pq1.out.1 Yei_ HVsF.out Ygd_).1
        rw [← hw] at ht_
        clear HT
        have HT := Aside0.mk ht_
        clear ht_ hw
        replace BKx := Aside0.mk ((hO_.others _ NXY_gx.out).trans BKx.out)
        replace BKr := Aside0.mk ((hO_.others _ NXY_gr.out).trans BKr.out)
        replace BKn := Aside0.mk ((hO_.others _ NXY_gn.out).trans BKn.out)
        replace BKo := Aside0.mk ((hO_.others _ NXY_go.out).trans BKo.out)
        replace HB := Aside0.mk (hO_.below HB.out GEY.out)
        clear hO_
        clear NXY_gx
        clear NXY_gr
        clear NXY_gn
        clear NXY_go
        rw [show Y.set (q1).toNat ((Y.getD (q1).toNat []).take (q2).toNat) = lF from HLlF.out.symm] at HT
        refine hK.out _ _ ?_
        clear hK K
        refine done_ Ybb_ ?_
        clear p_q1 q_q1 HVsF HFsF HCsF HRsF
        clear hcut_ hi0_ hsz0_ HQ0 HQ1 HMq2
        obtain ⟨hzgx_0, hzgx_1, hzgx_2⟩ := cl3_ BKx.out
        obtain ⟨hzgn_0, hzgn_1, hzgn_2⟩ := cl3_ BKn.out
        simp only [Option.some.injEq, Prod.mk.injEq] at h
        obtain ⟨rfl, rfl, rfl, rfl⟩ := h
        have d1_ : (a1_0 == 1) = false := by simp [k1]
        have d2_ : (a1_0 == 2) = false := by simp [k2]
        have d3_ : (a1_0 == 3) = false := by simp [k3]
        have e1_ : decide (a1_0 = 1) = false := decide_eq_false k1
        have e2_ : decide (a1_0 = 2) = false := decide_eq_false k2
        have e3_ : decide (a1_0 = 3) = false := decide_eq_false k3
        clear BKx
        clear BKo
        clear HT
        go_wp2_with (first | ((with_reducible refine gate_store (t := 34) (p := 4) rfl ?_); refine Go.Proofs.YtnggfglmjdiaaaaOwn.sto3 (t := 34) (p := 4) (g := gr) (w0 := w) Ybb_ rfl rfl rfl rfl (by rfl) BKr.out HB.out GEgr.out ?_; intro w67 hbx_ hB_ hO_; (try clear hzgn_0); (try clear hzgn_1); (try clear hzgn_2); (try clear hzgx_0); (try clear hzgx_1); (try clear hzgx_2); clear BKr HB hO_; have BKr := Aside0.mk hbx_; have HB := Aside0.mk hB_; clear hbx_ hB_))
        refine bodyPost_ret (Df rfl _ _ gr 34 #[.slice none 0 0, .int .i64 0, .slice none 0 0] (0, 0) _ rfl BKr.out Try.underlying34 rfl Ybb_) rfl ?_
        exact ⟨_, _, rfl, Go.Proofs.YtnggfglmjdiaaaaOwn.TT.nil _ _ _, HB.out⟩
       ·rw [if_neg c5] at h
        cases h
      ·rw [if_neg c3] at h
       simp only [Option.some.injEq, Prod.mk.injEq] at h
       obtain ⟨rfl, rfl, rfl, rfl⟩ := h
       have d1_ : (q2 == (sT.length : Int) - 1) = false := by simp [c3]
       have d2_ : decide (q2 = (sT.length : Int) - 1) = false := decide_eq_false c3
       have d3_ : (q2 != (sT.length : Int) - 1) = true := by simp [c3]
       clear c3
       clear BKx
       clear BKo
       clear HT
       go_wp2_with (first | (go_at_call 47; (with_reducible refine (spec_l5Find.calls k _ _ l0_0 a1_1 q1 q2 _ (Kd.C_below HR0_0.out HB.out) HC0_0.out A2.out).mono ?_); rintro e w68 ⟨rfl, hb⟩; (try clear hzgn_0); (try clear hzgn_1); (try clear hzgn_2); (try clear hzgt_0); (try clear hzgt_1); (try clear hzgt_2); (try clear hzgx_0); (try clear hzgx_1); (try clear hzgx_2); replace BKt := Aside0.mk (blk_below BKt.out hb); replace BKr := Aside0.mk (blk_below BKr.out hb); replace BKn := Aside0.mk (blk_below BKn.out hb); replace HB := Aside0.mk (below_step HB.out hb); have hxt_ : w68.cell? (adT.add q1.toNat) = some (.slice AT sT.length cT) := (HB.out.cell (World.block_lt_of_cell? w _ HXT.out)).trans HXT.out; clear hb; obtain ⟨hzgt_0, hzgt_1, hzgt_2⟩ := cl3_ BKt.out; obtain ⟨hzgn_0, hzgn_1, hzgn_2⟩ := cl3_ BKn.out) | ((with_reducible refine gate_store (t := 34) (p := 4) rfl ?_); refine Go.Proofs.YtnggfglmjdiaaaaOwn.sto3 (t := 34) (p := 4) (g := gr) (w0 := w) Ybb_ rfl rfl rfl rfl (by rfl) BKr.out HB.out GEgr.out ?_; intro w69 hbx_ hB_ hO_; (try clear hzgn_0); (try clear hzgn_1); (try clear hzgn_2); (try clear hzgt_0); (try clear hzgt_1); (try clear hzgt_2); clear BKr HB hO_; have BKr := Aside0.mk hbx_; have HB := Aside0.mk hB_; clear hbx_ hB_))
       refine bodyPost_ret (Df rfl _ _ gr 34 #[.slice none 0 0, .int .i64 0, .slice none 0 0] (0, 0) _ rfl BKr.out Try.underlying34 rfl Ybb_) rfl ?_
       exact ⟨_, _, rfl, Go.Proofs.YtnggfglmjdiaaaaOwn.TT.nil _ _ _, HB.out⟩
     ·rw [if_neg c2] at h
      cases h
theorem spec_l24Make.calls2 (k : Nat) (A0_0 : Option Addr) (c0_0 : Nat) (l0_0 : List (List Int)) (a0_1 : Int) (A0_2 : Option Addr) (c0_2 : Nat) (l0_2 : List (List Int)) (a1_0 a1_1 a1_2 : Int) (r1 : List (List Int)) (r2 : Int) (r3 : List (List Int)) (r4 : Bool) (w : World) (hr0_0 : Kd.C (Kd.slice 3 (Kd.int .i64)) w A0_0 l0_0.length l0_0) (hc0_0 : l0_0.length ≤ c0_0) (hr0_2 : Kd.C (Kd.slice 3 (Kd.int .i64)) w A0_2 l0_2.length l0_2) (hc0_2 : l0_2.length ≤ c0_2) (h : spec_l24Make.f k l0_0 a0_1 l0_2 a1_0 a1_1 a1_2 = some (r1, r2, r3, r4)) :
  Calls Try.prog 51 #[.agg #[.slice A0_0 l0_0.length c0_0, .int .i64 a0_1, .slice A0_2 l0_2.length c0_2], .agg #[.int .i64 a1_0, .int .i64 a1_1, .int .i64 a1_2]] w fun e w' => ∃ (P_ : Nat → Prop) (v0_ v2_ : Value), e = .returned (.tuple #[.agg #[v0_, .int .i64 r2, v2_], .bool r4]) ∧ Kd.S (Kd.slice 3 (Kd.int .i64)) 73 w' w.heap.size (fun k_ => P_ k_) v0_ r1 ∧ Kd.S (Kd.slice 3 (Kd.int .i64)) 73 w' w.heap.size (fun k_ => ¬ P_ k_) v2_ r3 ∧ Below w.heap.size w w' := by
 refine (spec_l24Make.callsT k A0_0 c0_0 l0_0 a0_1 A0_2 c0_2 l0_2 a1_0 a1_1 a1_2 r1 r2 r3 r4 w hr0_0 hc0_0 hr0_2 hc0_2 h).mono ?_
 rintro e w' ⟨v0_, v2_, he, ht, hb⟩
 obtain ⟨P_, h1, h2⟩ := ht.to2
 exact ⟨P_, v0_, v2_, he, h1, h2, hb⟩
theorem spec_l24Make.calls (k : Nat) (A0_0 : Option Addr) (c0_0 : Nat) (l0_0 : List (List Int)) (a0_1 : Int) (A0_2 : Option Addr) (c0_2 : Nat) (l0_2 : List (List Int)) (a1_0 a1_1 a1_2 : Int) (r1 : List (List Int)) (r2 : Int) (r3 : List (List Int)) (r4 : Bool) (w : World) (hr0_0 : Kd.C (Kd.slice 3 (Kd.int .i64)) w A0_0 l0_0.length l0_0) (hc0_0 : l0_0.length ≤ c0_0) (hr0_2 : Kd.C (Kd.slice 3 (Kd.int .i64)) w A0_2 l0_2.length l0_2) (hc0_2 : l0_2.length ≤ c0_2) (h : spec_l24Make.f k l0_0 a0_1 l0_2 a1_0 a1_1 a1_2 = some (r1, r2, r3, r4)) :
  Calls Try.prog 51 #[.agg #[.slice A0_0 l0_0.length c0_0, .int .i64 a0_1, .slice A0_2 l0_2.length c0_2], .agg #[.int .i64 a1_0, .int .i64 a1_1, .int .i64 a1_2]] w fun e w' => ∃ v0_ v2_ : Value, e = .returned (.tuple #[.agg #[v0_, .int .i64 r2, v2_], .bool r4]) ∧ Kd.S (Kd.slice 3 (Kd.int .i64)) 73 w' w.heap.size (fun k_ => some k_ ≠ (v2_ : Value).ownBlock) v0_ r1 ∧ Kd.S (Kd.slice 3 (Kd.int .i64)) 73 w' w.heap.size (fun k_ => some k_ ≠ (v0_ : Value).ownBlock) v2_ r3 ∧ Below w.heap.size w w' := by
 refine (spec_l24Make.calls2 k A0_0 c0_0 l0_0 a0_1 A0_2 c0_2 l0_2 a1_0 a1_1 a1_2 r1 r2 r3 r4 w hr0_0 hc0_0 hr0_2 hc0_2 h).mono ?_
 rintro e w' ⟨P_, v0_, v2_, he, h1, h2, hb⟩
 exact ⟨v0_, v2_, he, Kd.S_mono h1 (fun k_ hk e_ => ((Kd.S_R h2).1 k_ e_.symm) hk), Kd.S_mono h2 (fun k_ hk e_ => hk ((Kd.S_R h1).1 k_ e_.symm)), hb⟩
mutual
def Ag.j0 : Nat → List (S43) → Bool → List (List Int) → Int → List (List Int) → Option ((List (List Int)) × Int × (List (List Int)) × Int × Bool)
 | 0, _, _, _, _, _ => none
 | k + 1, x1, x18, x691000, x691001, x691002 => if x18 = true then (some (([] : List (List Int)), 0, ([] : List (List Int)), 0, false)) else ((spec_l24Own.f k x691000 x691001 x691002).bind fun bt693 => (Ag.l0 k x1 0 bt693.1 bt693.2.1 bt693.2.2))
def Ag.l0 : Nat → List (S43) → Int → List (List Int) → Int → List (List Int) → Option ((List (List Int)) × Int × (List (List Int)) × Int × Bool)
 | 0, _, _, _, _, _ => none
 | k + 1, x1, x8, x701000, x701001, x701002 => if x8 < (x1.length : Int) then (if 0 ≤ x8 then ((spec_l24Make.f k x701000 x701001 x701002 ((Aa x1 x8).f0) ((Aa x1 x8).f1) ((Aa x1 x8).f2)).bind fun bt702 => (if bt702.2.2.2 = true then (Ag.l0 k x1 (wrap64 (x8 + 1)) bt702.1 bt702.2.1 bt702.2.2.1) else (some (x701000, x701001, x701002, x8, true)))) else (none)) else (some (x701000, x701001, x701002, (x1.length : Int), true))
end
def Ag.f (k : Nat) (l0_0 : List (List Int)) (a0_1 : Int) (l0_2 : List (List Int)) (l1 : List (S43)) : Option ((List (List Int)) × Int × (List (List Int)) × Int × Bool) := (Ad.f k l0_0 a0_1 l0_2).bind fun t692 => (if t692 = true then (Ag.j0 k l1 (decide ((l1.length : Int) > 30)) l0_0 a0_1 l0_2) else (Ag.j0 k l1 true l0_0 a0_1 l0_2))
theorem Ag.mono_l : ∀ k, (∀ y0 y1 y2 y3 y4, LeO (Ag.j0 k y0 y1 y2 y3 y4) (Ag.j0 (k + 1) y0 y1 y2 y3 y4)) ∧ (∀ y0 y1 y2 y3 y4, LeO (Ag.l0 k y0 y1 y2 y3 y4) (Ag.l0 (k + 1) y0 y1 y2 y3 y4))
 | 0 => ⟨fun _ _ _ _ _ r h => by simp [Ag.j0] at h, fun _ _ _ _ _ r h => by simp [Ag.l0] at h⟩
 | k + 1 => by
  obtain ⟨ih0, ih1⟩ := Ag.mono_l k
  refine ⟨?_, ?_⟩
  ·intro y0 y1 y2 y3 y4
   unfold Ag.j0
   repeat' first
   | (with_reducible exact ih0 _ _ _ _ _)
   | (with_reducible exact ih1 _ _ _ _ _)
   | (with_reducible exact Ad.mono _ _ _ _)
   | (with_reducible exact spec_l24Make.mono _ _ _ _ _ _ _)
   | (with_reducible exact spec_l24Own.mono _ _ _ _)
   | (with_reducible exact LeO.refl _)
   | (with_reducible exact LeO.none _)
   | (with_reducible refine LeO.ite ?_ ?_)
   | (with_reducible refine LeO.bind ?_ (fun _ => ?_))
   | exact ih0 _ _ _ _ _
   | exact ih1 _ _ _ _ _
   | exact Ad.mono _ _ _ _
   | exact spec_l24Make.mono _ _ _ _ _ _ _
   | exact spec_l24Own.mono _ _ _ _
   | exact LeO.none _
   | refine LeO.ite ?_ ?_
   | refine LeO.bind ?_ (fun _ => ?_)
  ·intro y0 y1 y2 y3 y4
   unfold Ag.l0
   repeat' first
   | (with_reducible exact ih0 _ _ _ _ _)
   | (with_reducible exact ih1 _ _ _ _ _)
   | (with_reducible exact Ad.mono _ _ _ _)
   | (with_reducible exact spec_l24Make.mono _ _ _ _ _ _ _)
   | (with_reducible exact spec_l24Own.mono _ _ _ _)
   | (with_reducible exact LeO.refl _)
   | (with_reducible exact LeO.none _)
   | (with_reducible refine LeO.ite ?_ ?_)
   | (with_reducible refine LeO.bind ?_ (fun _ => ?_))
   | exact ih0 _ _ _ _ _
   | exact ih1 _ _ _ _ _
   | exact Ad.mono _ _ _ _
   | exact spec_l24Make.mono _ _ _ _ _ _ _
   | exact spec_l24Own.mono _ _ _ _
   | exact LeO.none _
   | refine LeO.ite ?_ ?_
   | refine LeO.bind ?_ (fun _ => ?_)
theorem Ag.mono : ∀ a0 a1 a2 a3 k, LeO (Ag.f k a0 a1 a2 a3) (Ag.f (k + 1) a0 a1 a2 a3) := by
 intro a0 a1 a2 a3 k
 obtain ⟨ih0, ih1⟩ := Ag.mono_l k
 unfold Ag.f
 repeat' first
   | (with_reducible exact ih0 _ _ _ _ _)
   | (with_reducible exact ih1 _ _ _ _ _)
   | (with_reducible exact Ad.mono _ _ _ _)
   | (with_reducible exact spec_l24Make.mono _ _ _ _ _ _ _)
   | (with_reducible exact spec_l24Own.mono _ _ _ _)
   | (with_reducible exact LeO.refl _)
   | (with_reducible exact LeO.none _)
   | (with_reducible refine LeO.ite ?_ ?_)
   | (with_reducible refine LeO.bind ?_ (fun _ => ?_))
   | exact ih0 _ _ _ _ _
   | exact ih1 _ _ _ _ _
   | exact Ad.mono _ _ _ _
   | exact spec_l24Make.mono _ _ _ _ _ _ _
   | exact spec_l24Own.mono _ _ _ _
   | exact LeO.none _
   | refine LeO.ite ?_ ?_
   | refine LeO.bind ?_ (fun _ => ?_)
def Ag.T7 : Bool × List (List Nat × List Nat) := (true, [([], []), ([], []), ([], []), ([1, 2], [1, 2]), ([3], [3]), ([0, 4], [0, 4]), ([5], [5]), ([6], [6]), ([6], [6]), ([], []), ([9, 7, 5, 0, 1, 2, 3, 4, 5, 6, 7, 9], [7, 9]), ([8, 10, 0, 1, 2, 3, 4, 5, 6, 7, 8, 9, 10], [8])])
def Ag.B7 : List Nat := [0, 0, 0, 6, 14, 31, 63, 127, 127, 0, 767, 2047]
theorem Ag.tab7 : rtab .any (opsOf Try.f34 7) = Ag.T7 := by kernel_rfl
theorem Ag.bits7 : waitsOk Ag.T7.2 Ag.B7 = true := by kernel_rfl
set_option maxHeartbeats 8000000 in
set_option maxRecDepth 100000 in
theorem Ag.calls (k : Nat) (A0_0 : Option Addr) (c0_0 : Nat) (l0_0 : List (List Int)) (a0_1 : Int) (A0_2 : Option Addr) (c0_2 : Nat) (l0_2 : List (List Int)) (A1 : Option Addr) (c1 : Nat) (l1 : List (S43)) (r1 : List (List Int)) (r2 : Int) (r3 : List (List Int)) (r4 : Int) (r5 : Bool) (w : World) (hr0_0 : Kd.C (Kd.slice 3 (Kd.int .i64)) w A0_0 l0_0.length l0_0) (hc0_0 : l0_0.length ≤ c0_0) (hr0_2 : Kd.C (Kd.slice 3 (Kd.int .i64)) w A0_2 l0_2.length l0_2) (hc0_2 : l0_2.length ≤ c0_2) (hr1 : Kd.C k43 w A1 l1.length l1) (hc1 : l1.length ≤ c1) (h : Ag.f k l0_0 a0_1 l0_2 l1 = some (r1, r2, r3, r4, r5)) :
  Calls Try.prog 34 #[.agg #[.slice A0_0 l0_0.length c0_0, .int .i64 a0_1, .slice A0_2 l0_2.length c0_2], .slice A1 l1.length c1] w fun e w' => ∃ v0_ v2_ : Value, e = .returned (.tuple #[.agg #[v0_, .int .i64 r2, v2_], .int .i64 r4, .bool r5]) ∧ Kd.S (Kd.slice 3 (Kd.int .i64)) 73 w' w.heap.size (fun k_ => some k_ ≠ (v2_ : Value).ownBlock) v0_ r1 ∧ Kd.S (Kd.slice 3 (Kd.int .i64)) 73 w' w.heap.size (fun k_ => some k_ ≠ (v0_ : Value).ownBlock) v2_ r3 ∧ Below w.heap.size w w' := by
 have hu34 := Try.underlying34
 have hu43 := Try.underlying43
 have HR0_0 := Aside0.mk hr0_0
 have HC0_0 := Aside0.mk hc0_0
 clear hr0_0 hc0_0
 have HR0_2 := Aside0.mk hr0_2
 have HC0_2 := Aside0.mk hc0_2
 clear hr0_2 hc0_2
 have HR1 := Aside0.mk hr1
 have HC1 := Aside0.mk hc1
 clear hr1 hc1
 have HB := Aside0.mk (Below.refl w.heap.size w)
 have H : ((Ad.f k l0_0 a0_1 l0_2).bind fun t692 => (if t692 = true then (Ag.j0 k l1 (decide ((l1.length : Int) > 30)) l0_0 a0_1 l0_2) else (Ag.j0 k l1 true l0_0 a0_1 l0_2))) = some (r1, r2, r3, r4, r5) := h
 clear h
 have HC3 := Aside0.mk H
 clear H
 go_enter Try.func34, Try.ntmps34
 go_upto_region 1 with (first | ((with_reducible refine gate_dst (N := 2) rfl ?_); (try (refine gate_guard (by rfl) ?_; dsimp only)); refine box_event (by rfl) (N := 2) (by rfl) (cs := #[.slice A0_0 l0_0.length c0_0, .int .i64 a0_1, .slice A0_2 l0_2.length c0_2]) (t := 34) Ybf_ ?_; intro gb0 hg w4 hbox hb; have BK0 := Aside0.mk (hbox); have GW0 := Aside0.mk ((by rw [hg]; exact (below_size Yb_) : w.heap.size ≤ gb0)); have GE0 := Aside0.mk ((by rw [hg]; exact (below_size Yb_) : w.heap.size ≤ gb0)); replace HB := Aside0.mk (below_step Yb_ hb); clear hb hbox hg) | ((with_reducible refine gate_dst (N := 4) rfl ?_); (try (refine gate_guard (by rfl) ?_; dsimp only)); refine box_event (by rfl) (N := 4) (by rfl) (cs := #[.slice none 0 0, .int .i64 0, .slice none 0 0]) (t := 34) Ybf_ ?_; intro gb1 hg w5 hbox hb; have BK1 := Aside0.mk (hbox); have GW1 := Aside0.mk ((by rw [hg]; exact (below_size Yd_) : w.heap.size ≤ gb1)); have GE1 := Aside0.mk ((by rw [hg]; exact (below_size Yd_) : w.heap.size ≤ gb1)); replace HB := Aside0.mk (below_step Yd_ hb); have NB0_1 := Aside0.mk ((by rw [hg]; exact Nat.ne_of_lt (blk_lt (g := gb0) (o := .cells #[.slice A0_0 l0_0.length c0_0, .int .i64 a0_1, .slice A0_2 l0_2.length c0_2] 34 (0, 0)) Yc_) : gb0 ≠ gb1)); have NB1_0 := Aside0.mk ((by rw [hg]; exact Nat.ne_of_gt (blk_lt (g := gb0) (o := .cells #[.slice A0_0 l0_0.length c0_0, .int .i64 a0_1, .slice A0_2 l0_2.length c0_2] 34 (0, 0)) Yc_) : gb1 ≠ gb0)); replace BK0 := Aside0.mk (blk_below (g := gb0) (o := .cells #[.slice A0_0 l0_0.length c0_0, .int .i64 a0_1, .slice A0_2 l0_2.length c0_2] 34 (0, 0)) Yc_ hb); clear hb hbox hg))
 (try simp only [Act.put, List.setIfInBounds_toArray, List.set_cons_zero, List.set_cons_succ])
 go_cut [18] (fun v18 wc => ∃ (kq : Nat) (x18_2 : Bool), v18 = .bool x18_2 ∧ Aside0 (Ag.j0 kq l1 x18_2 l0_0 a0_1 l0_2 = some (r1, r2, r3, r4, r5)) ∧ Aside0 (kq ≤ k) ∧ Aside0 (wc.heap[gb0]? = some (.cells #[(.slice A0_0 l0_0.length c0_0), .int .i64 a0_1, (.slice A0_2 l0_2.length c0_2)] 34 (0, 0))) ∧ Aside0 (wc.heap[gb1]? = some (.cells #[(.slice none 0 0), .int .i64 0, (.slice none 0 0)] 34 (0, 0))) ∧ Aside0 (Below w.heap.size w wc))
 case first =>
  have H := HC3.out
  clear HC3
  replace H := Option.bind_eq_some_iff.mp H
  obtain ⟨t692, A60, H⟩ := H
  try dsimp only at H
  have A6 := Aside0.mk A60
  clear A60
  by_cases c7 : t692 = true
  ·subst c7
   have H1 : (Ag.j0 k l1 (decide ((l1.length : Int) > 30)) l0_0 a0_1 l0_2) = some (r1, r2, r3, r4, r5) := by rw [if_pos rfl] at H; exact H
   clear H
   have H := H1
   clear H1
   have H' := Aside0.mk H
   clear H
   have hnb8 := NB0_1.out
   have hnc8 := NB1_0.out
   obtain ⟨hcz9_0, hcz9_1, hcz9_2⟩ := cl3_ BK0.out
   obtain ⟨hfz9_0, hfz9_1, hfz9_2⟩ := fz3_ BK0.out
   go_wp2_with (first | (go_at_call 39; (with_reducible refine (Ad.calls k _ _ l0_0 a0_1 _ _ l0_2 true _ ?side1 ?side2 ?side3 ?side4 A6.out).mono ?_); (case side1 => repeat (first | exact (Kd.C_below HR0_0.out HB.out) | (with_reducible refine Kd.C_alloc ?_ _) | (with_reducible refine Kd.C_drewN ?_ _) | (with_reducible refine Kd.C_drew ?_))); (case side2 => exact HC0_0.out); (case side3 => repeat (first | exact (Kd.C_below HR0_2.out HB.out) | (with_reducible refine Kd.C_alloc ?_ _) | (with_reducible refine Kd.C_drewN ?_ _) | (with_reducible refine Kd.C_drew ?_))); (case side4 => exact HC0_2.out); rintro e w10 ⟨rfl, hb⟩; replace BK0 := Aside0.mk (blk_below (g := gb0) (o := .cells #[.slice A0_0 l0_0.length c0_0, .int .i64 a0_1, .slice A0_2 l0_2.length c0_2] 34 (0, 0)) Yc_ hb); replace BK1 := Aside0.mk (blk_below (g := gb1) (o := .cells #[.slice none 0 0, .int .i64 0, .slice none 0 0] 34 (0, 0)) Yg_ hb); replace HB := Aside0.mk (below_step Yf_ hb); (try clear hb); (try clear hb2); (try clear hk); (try clear hi)))
   go_meet
   case rel => exact ⟨_, (decide ((l1.length : Int) > 30)), Ybe_, H', ⟨by first | omega | exact Nat.le_refl _⟩, ⟨by (with_reducible repeat (first | apply blk_drewN | apply blk_drew | apply blk_alloc)); exact BK0.out⟩, ⟨by (with_reducible repeat (first | apply blk_drewN | apply blk_drew | apply blk_alloc)); exact BK1.out⟩, ⟨by repeat (first | (with_reducible first | exact HB.out | apply below_alloc | apply pw_below_drewN | apply below_drew1 | refine below_set ?_ GE0.out | refine below_set ?_ GE1.out) | exact HB.out)⟩⟩
  ·replace c7 := Bool.eq_false_iff.mpr c7
   subst c7
   have H1 : (Ag.j0 k l1 true l0_0 a0_1 l0_2) = some (r1, r2, r3, r4, r5) := by rw [if_neg (show ¬ (false = true) by decide)] at H; exact H
   clear H
   have H := H1
   clear H1
   have H' := Aside0.mk H
   clear H
   have hnb11 := NB0_1.out
   have hnc11 := NB1_0.out
   obtain ⟨hcz12_0, hcz12_1, hcz12_2⟩ := cl3_ BK0.out
   obtain ⟨hfz12_0, hfz12_1, hfz12_2⟩ := fz3_ BK0.out
   go_wp2_with (first | (go_at_call 39; (with_reducible refine (Ad.calls k _ _ l0_0 a0_1 _ _ l0_2 false _ ?side1 ?side2 ?side3 ?side4 A6.out).mono ?_); (case side1 => repeat (first | exact (Kd.C_below HR0_0.out HB.out) | (with_reducible refine Kd.C_alloc ?_ _) | (with_reducible refine Kd.C_drewN ?_ _) | (with_reducible refine Kd.C_drew ?_))); (case side2 => exact HC0_0.out); (case side3 => repeat (first | exact (Kd.C_below HR0_2.out HB.out) | (with_reducible refine Kd.C_alloc ?_ _) | (with_reducible refine Kd.C_drewN ?_ _) | (with_reducible refine Kd.C_drew ?_))); (case side4 => exact HC0_2.out); rintro e w13 ⟨rfl, hb⟩; replace BK0 := Aside0.mk (blk_below (g := gb0) (o := .cells #[.slice A0_0 l0_0.length c0_0, .int .i64 a0_1, .slice A0_2 l0_2.length c0_2] 34 (0, 0)) Yc_ hb); replace BK1 := Aside0.mk (blk_below (g := gb1) (o := .cells #[.slice none 0 0, .int .i64 0, .slice none 0 0] 34 (0, 0)) Yg_ hb); replace HB := Aside0.mk (below_step Yf_ hb); (try clear hb); (try clear hb2); (try clear hk); (try clear hi)))
   go_meet
   case rel => exact ⟨_, (true), Ybe_, H', ⟨by first | omega | exact Nat.le_refl _⟩, ⟨by (with_reducible repeat (first | apply blk_drewN | apply blk_drew | apply blk_alloc)); exact BK0.out⟩, ⟨by (with_reducible repeat (first | apply blk_drewN | apply blk_drew | apply blk_alloc)); exact BK1.out⟩, ⟨by repeat (first | (with_reducible first | exact HB.out | apply below_alloc | apply pw_below_drewN | apply below_drew1 | refine below_set ?_ GE0.out | refine below_set ?_ GE1.out) | exact HB.out)⟩⟩
 case rest =>
  clear HC3
  try clear c1; try clear p2; try clear c3; try clear c7; try clear c8; try clear c11; try clear hcz12_0; try clear hcz12_1; try clear hcz12_2; try clear hcz9_0; try clear hcz9_1; try clear hcz9_2; try clear hfz12_0; try clear hfz12_1; try clear hfz12_2; try clear hfz9_0; try clear hfz9_1; try clear hfz9_2
  obtain ⟨kq, x18_2, rfl, HA, HJ2, BK0, BK1, HB⟩ := hcut
  cases kq with
  | zero => exact absurd HA.out (by simp [Ag.j0])
  | succ kj2 =>
   have H := HA.out
   clear HA
   simp only [Ag.j0] at H
   by_cases c14 : x18_2 = true
   ·subst c14
    have H1 : (some (([] : List (List Int)), 0, ([] : List (List Int)), 0, false)) = some (r1, r2, r3, r4, r5) := by rw [if_pos rfl] at H; exact H
    clear H
    have H := H1
    clear H1
    simp only [Option.some.injEq, Prod.mk.injEq] at H
    obtain ⟨rfl, rfl, rfl, rfl, rfl⟩ := H
    have hnb15 := NB1_0.out
    have hnc15 := NB0_1.out
    obtain ⟨hcz16_0, hcz16_1, hcz16_2⟩ := cl3_ BK1.out
    obtain ⟨hfz16_0, hfz16_1, hfz16_2⟩ := fz3_ BK1.out
    go_wp2
    refine bodyPost_ret (Di rfl _ _ gb1 34 #[.slice none 0 0, .int .i64 0, .slice none 0 0] (0, 0) _ rfl Yde_ Try.underlying34 rfl Ybb_) rfl ?_
    exact ⟨_, _, Yi_, Ych_, Ych_, Yf_⟩
   ·replace c14 := Bool.eq_false_iff.mpr c14
    subst c14
    have H1 : ((spec_l24Own.f kj2 l0_0 a0_1 l0_2).bind fun bt693 => (Ag.l0 kj2 l1 0 bt693.1 bt693.2.1 bt693.2.2)) = some (r1, r2, r3, r4, r5) := by rw [if_neg (show ¬ (false = true) by decide)] at H; exact H
    clear H
    have H := H1
    clear H1
    replace H := Option.bind_eq_some_iff.mp H
    obtain ⟨⟨t693, t696, t697⟩, A170, H⟩ := H
    try dsimp only at H
    have A17 := Aside0.mk A170
    clear A170
    have H' := Aside0.mk H
    clear H
    have hnb18 := NB0_1.out
    have hnc18 := NB1_0.out
    obtain ⟨hcz19_0, hcz19_1, hcz19_2⟩ := cl3_ BK0.out
    obtain ⟨hfz19_0, hfz19_1, hfz19_2⟩ := fz3_ BK0.out
    go_wp2_with (first | (go_at_call 59; (with_reducible refine (spec_l24Own.calls kj2 _ _ l0_0 a0_1 _ _ l0_2 t693 t696 t697 _ ?side1 ?side2 ?side3 ?side4 A17.out).mono ?_); (case side1 => repeat (first | exact (Kd.C_below HR0_0.out HB.out) | (with_reducible refine Kd.C_alloc ?_ _) | (with_reducible refine Kd.C_drewN ?_ _) | (with_reducible refine Kd.C_drew ?_))); (case side2 => exact HC0_0.out); (case side3 => repeat (first | exact (Kd.C_below HR0_2.out HB.out) | (with_reducible refine Kd.C_alloc ?_ _) | (with_reducible refine Kd.C_drewN ?_ _) | (with_reducible refine Kd.C_drew ?_))); (case side4 => exact HC0_2.out); rintro e w20 ⟨v694, v698, rfl, ho0, ho1, hb⟩; have HO695 := Aside0.mk (Kd.S_lower ho0 (below_size Yf_)); have HO699 := Aside0.mk (Kd.S_lower ho1 (below_size Yf_)); replace BK0 := Aside0.mk (blk_below (g := gb0) (o := .cells #[.slice A0_0 l0_0.length c0_0, .int .i64 a0_1, .slice A0_2 l0_2.length c0_2] 34 (0, 0)) Yc_ hb); replace BK1 := Aside0.mk (blk_below (g := gb1) (o := .cells #[.slice none 0 0, .int .i64 0, .slice none 0 0] 34 (0, 0)) Yg_ hb); replace HB := Aside0.mk (below_step Yf_ hb); (try clear hb); (try clear hb2); (try clear hk); (try clear hi); (try clear ho0); (try clear ho1)) | ((with_reducible refine gate_dst (N := 7) rfl ?_); (try (refine gate_guard (by rfl) ?_; dsimp only)); refine box_event (by rfl) (N := 7) (by rfl) (cs := #[.slice none 0 0, .int .i64 0, .slice none 0 0]) (t := 34) Ybf_ ?_; intro gb2 hg w21 hbox hb; replace HO695 := Aside0.mk (Kd.Ac (by (with_reducible repeat (first | apply Kd.S_alloc | apply Kd.S_drewN | apply Kd.S_drew)); exact HO695.out) hb); replace HO699 := Aside0.mk (Kd.Ac (by (with_reducible repeat (first | apply Kd.S_alloc | apply Kd.S_drewN | apply Kd.S_drew)); exact HO699.out) hb); have BK2 := Aside0.mk (hbox); have GW2 := Aside0.mk ((by rw [hg]; exact (below_size Yf_) : w.heap.size ≤ gb2)); have GE2 := Aside0.mk ((by rw [hg]; exact (below_size Yf_) : w.heap.size ≤ gb2)); replace HB := Aside0.mk (below_step Yf_ hb); have NB0_2 := Aside0.mk ((by rw [hg]; exact Nat.ne_of_lt (blk_lt (g := gb0) (o := .cells #[.slice A0_0 l0_0.length c0_0, .int .i64 a0_1, .slice A0_2 l0_2.length c0_2] 34 (0, 0)) Yc_) : gb0 ≠ gb2)); have NB2_0 := Aside0.mk ((by rw [hg]; exact Nat.ne_of_gt (blk_lt (g := gb0) (o := .cells #[.slice A0_0 l0_0.length c0_0, .int .i64 a0_1, .slice A0_2 l0_2.length c0_2] 34 (0, 0)) Yc_) : gb2 ≠ gb0)); replace BK0 := Aside0.mk (blk_below (g := gb0) (o := .cells #[.slice A0_0 l0_0.length c0_0, .int .i64 a0_1, .slice A0_2 l0_2.length c0_2] 34 (0, 0)) Yc_ hb); have NB1_2 := Aside0.mk ((by rw [hg]; exact Nat.ne_of_lt (blk_lt (g := gb1) (o := .cells #[.slice none 0 0, .int .i64 0, .slice none 0 0] 34 (0, 0)) Yg_) : gb1 ≠ gb2)); have NB2_1 := Aside0.mk ((by rw [hg]; exact Nat.ne_of_gt (blk_lt (g := gb1) (o := .cells #[.slice none 0 0, .int .i64 0, .slice none 0 0] 34 (0, 0)) Yg_) : gb2 ≠ gb1)); replace BK1 := Aside0.mk (blk_below (g := gb1) (o := .cells #[.slice none 0 0, .int .i64 0, .slice none 0 0] 34 (0, 0)) Yg_ hb); clear hb hbox hg; obtain ⟨Ao22, co22, eo22⟩ := Kd.S_slice HO695.out; subst eo22; have hnb23 := NB2_0.out; have hnc23 := NB0_2.out; have hnb24 := NB2_1.out; have hnc24 := NB1_2.out; obtain ⟨hcz25_0, hcz25_1, hcz25_2⟩ := cl3_ BK2.out; obtain ⟨hfz25_0, hfz25_1, hfz25_2⟩ := fz3_ BK2.out; obtain ⟨Ao26, co26, eo26⟩ := Kd.S_slice HO699.out; subst eo26))
    go_loopg [8] kj2 (fun kq v8 w' => ∃ (x8_2 : Int) (x692001_2 : Int) (x701000_2 : List (List Int)) (x701001_2 : Int) (x701002_2 : List (List Int)) (u701000 : Value) (u701002 : Value), v8 = .int .i64 x8_2 ∧ Aside0 (Ag.l0 kq l1 x8_2 x701000_2 x701001_2 x701002_2 = some (r1, r2, r3, r4, r5)) ∧ Aside0 (kq ≤ kj2) ∧ Aside0 (Kd.S (Kd.slice 3 (Kd.int .i64)) 73 w' w.heap.size (fun k_ => some k_ ≠ (u701002 : Value).ownBlock) u701000 x701000_2) ∧ Aside0 (Kd.S (Kd.slice 3 (Kd.int .i64)) 73 w' w.heap.size (fun k_ => some k_ ≠ (u701000 : Value).ownBlock) u701002 x701002_2) ∧ Aside0 (w'.heap[gb0]? = some (.cells #[(.slice A0_0 l0_0.length c0_0), .int .i64 a0_1, (.slice A0_2 l0_2.length c0_2)] 34 (0, 0))) ∧ Aside0 (w'.heap[gb1]? = some (.cells #[(.slice none 0 0), .int .i64 x692001_2, (.slice none 0 0)] 34 (0, 0))) ∧ Aside0 (w'.heap[gb2]? = some (.cells #[u701000, .int .i64 x701001_2, u701002] 34 (0, 0))) ∧ Aside0 (Below w.heap.size w w'))
    case atStart => exact ⟨(0), (0), (t693), (t696), (t697), (.slice Ao22 t693.length co22), (.slice Ao26 t697.length co26), Ybe_, H', ⟨Nat.le_refl _⟩, ⟨by (with_reducible repeat (first | apply Kd.S_alloc | apply Kd.S_drewN | apply Kd.S_drew)); exact Kd.S_mono (Kd.S_far (p := ⟨gb2, 2, none⟩) (Kd.S_far (p := ⟨gb2, 1, none⟩) (Kd.S_far (p := ⟨gb2, 0, none⟩) (Kd.S_types HO695.out BK2.out (by decide)) (fun _ hk => hk.2) (.slice Ao22 t693.length co22)) (fun _ hk => hk.2) (.int .i64 t696)) (fun _ hk => hk.2) (.slice Ao26 t697.length co26)) (fun _ hk => hk.1)⟩, ⟨by (with_reducible repeat (first | apply Kd.S_alloc | apply Kd.S_drewN | apply Kd.S_drew)); exact Kd.S_mono (Kd.S_far (p := ⟨gb2, 2, none⟩) (Kd.S_far (p := ⟨gb2, 1, none⟩) (Kd.S_far (p := ⟨gb2, 0, none⟩) (Kd.S_types HO699.out BK2.out (by decide)) (fun _ hk => hk.2) (.slice Ao22 t693.length co22)) (fun _ hk => hk.2) (.int .i64 t696)) (fun _ hk => hk.2) (.slice Ao26 t697.length co26)) (fun _ hk => hk.1)⟩, ⟨by (with_reducible repeat (first | apply blk_drewN | apply blk_drew | apply blk_alloc)); refine Ai ?_ NB0_2.out _; (with_reducible repeat (first | apply blk_drewN | apply blk_drew | apply blk_alloc)); refine Ai ?_ NB0_2.out _; (with_reducible repeat (first | apply blk_drewN | apply blk_drew | apply blk_alloc)); refine Ai ?_ NB0_2.out _; (with_reducible repeat (first | apply blk_drewN | apply blk_drew | apply blk_alloc)); exact BK0.out⟩, ⟨by (with_reducible repeat (first | apply blk_drewN | apply blk_drew | apply blk_alloc)); refine Ai ?_ NB1_2.out _; (with_reducible repeat (first | apply blk_drewN | apply blk_drew | apply blk_alloc)); refine Ai ?_ NB1_2.out _; (with_reducible repeat (first | apply blk_drewN | apply blk_drew | apply blk_alloc)); refine Ai ?_ NB1_2.out _; (with_reducible repeat (first | apply blk_drewN | apply blk_drew | apply blk_alloc)); exact BK1.out⟩, ⟨by (with_reducible repeat (first | apply blk_drewN | apply blk_drew | apply blk_alloc)); refine blk_put (cs := #[.slice Ao22 t693.length co22, .int .i64 t696, .slice none 0 0]) ?_ 2 _ rfl; (with_reducible repeat (first | apply blk_drewN | apply blk_drew | apply blk_alloc)); refine blk_put (cs := #[.slice Ao22 t693.length co22, .int .i64 0, .slice none 0 0]) ?_ 1 _ rfl; (with_reducible repeat (first | apply blk_drewN | apply blk_drew | apply blk_alloc)); refine blk_put (cs := #[.slice none 0 0, .int .i64 0, .slice none 0 0]) ?_ 0 _ rfl; (with_reducible repeat (first | apply blk_drewN | apply blk_drew | apply blk_alloc)); exact BK2.out⟩, ⟨by repeat (first | (with_reducible first | exact HB.out | apply below_alloc | apply pw_below_drewN | apply below_drew1 | refine below_set ?_ GE0.out | refine below_set ?_ GE1.out | refine below_set ?_ GE2.out) | exact HB.out)⟩⟩
    case round =>
     clear H'
     try clear c1; try clear c2; try clear p2; try clear c3; try clear c5; try clear c7; try clear c8; try clear c11; try clear c14; try clear c15; try clear c18; try clear c23; try clear c24; try clear hcz12_0; try clear hcz12_1; try clear hcz12_2; try clear hcz16_0; try clear hcz16_1; try clear hcz16_2; try clear hcz19_0; try clear hcz19_1; try clear hcz19_2; try clear hcz25_0; try clear hcz25_1; try clear hcz25_2; try clear hcz9_0; try clear hcz9_1; try clear hcz9_2; try clear hfz12_0; try clear hfz12_1; try clear hfz12_2; try clear hfz16_0; try clear hfz16_1; try clear hfz16_2; try clear hfz19_0; try clear hfz19_1; try clear hfz19_2; try clear hfz25_0; try clear hfz25_1; try clear hfz25_2; try clear hfz9_0; try clear hfz9_1; try clear hfz9_2; try clear p2
     obtain ⟨x8_2, x692001_2, x701000_2, x701001_2, x701002_2, u701000, u701002, rfl, HA, HK2, HO_701000, HO_701002, BK0, BK1, BK2, HB⟩ := hrel
     cases gk with
     | zero => exact absurd HA.out (by simp [Ag.l0])
     | succ k2 =>
      have H := HA.out
      clear HA
      simp only [Ag.l0] at H
      by_cases c27 : x8_2 < (l1.length : Int)
      ·rw [if_pos c27] at H
       have c27b0 : decide (x8_2 < (l1.length : Int)) = true := decide_eq_true c27
       clear c27
       by_cases c28 : 0 ≤ x8_2
       ·rw [if_pos c28] at H
        have c28b0 : decide (0 ≤ x8_2) = true := decide_eq_true c28
        clear c28
        replace H := Option.bind_eq_some_iff.mp H
        obtain ⟨⟨t702, t705, t706, t709⟩, A290, H⟩ := H
        try dsimp only at H
        have A29 := Aside0.mk A290
        clear A290
        by_cases c30 : t709 = true
        ·subst c30
         have H1 : (Ag.l0 k2 l1 (wrap64 (x8_2 + 1)) t702 t705 t706) = some (r1, r2, r3, r4, r5) := by rw [if_pos rfl] at H; exact H
         clear H
         have H := H1
         clear H1
         have H' := Aside0.mk H
         clear H
         obtain ⟨Ao31, co31, eo31⟩ := Kd.S_slice HO_701000.out
         subst eo31
         obtain ⟨Ao32, co32, eo32⟩ := Kd.S_slice HO_701002.out
         subst eo32
         try go_wp2
         replace HO_701000 := Aside0.mk (Kd.S_drew HO_701000.out)
         replace HO_701002 := Aside0.mk (Kd.S_drew HO_701002.out)
         replace BK0 := Aside0.mk (blk_drew BK0.out)
         replace BK1 := Aside0.mk (blk_drew BK1.out)
         replace BK2 := Aside0.mk (blk_drew BK2.out)
         replace HB := Aside0.mk (below_drew1 HB.out)
         have p701 : 0 ≤ (x8_2 : Int) := of_decide_eq_true Yh_
         have q701 : x8_2 < (l1.length : Int) := of_decide_eq_true Yh_
         obtain ⟨ad701, e701, hx701_0, hx701_1, hx701_2⟩ := E5 HR1.out x8_2 p701 q701
         have hw701_2 := hx701_2
         have hw701_1 := hx701_1
         have hw701_0 := hx701_0
         cases e701
         replace hx701_0 := (HB.out.cell (World.block_lt_of_cell? w _ hx701_0)).trans hx701_0
         replace hx701_1 := (HB.out.cell (World.block_lt_of_cell? w _ hx701_1)).trans hx701_1
         replace hx701_2 := (HB.out.cell (World.block_lt_of_cell? w _ hx701_2)).trans hx701_2
         replace p701 := eq_true p701
         replace q701 := eq_true q701
         refine start_ (n := 12) (S := fun w' => w'.cell? ⟨gb2, 0, none⟩ = some (.slice Ao31 x701000_2.length co31) ∧ w'.cell? ⟨gb2, 1, none⟩ = some (.int .i64 x701001_2) ∧ w'.cell? ⟨gb2, 2, none⟩ = some (.slice Ao32 x701002_2.length co32) ∧ w'.cell? (ad701.add ((x8_2).toNat * 3)) = some (.int .i64 ((Aa l1 x8_2).f0)) ∧ w'.cell? ⟨(ad701.add ((x8_2).toNat * 3)).block, (ad701.add ((x8_2).toNat * 3)).off + 1, none⟩ = some (.int .i64 ((Aa l1 x8_2).f1)) ∧ w'.cell? ⟨(ad701.add ((x8_2).toNat * 3)).block, (ad701.add ((x8_2).toNat * 3)).off + 2, none⟩ = some (.int .i64 ((Aa l1 x8_2).f2))) (ds := []) #[false, false, false, false, false, false, false, false, false, false, false, false] Ybb_ rfl rfl ⟨(blk_cell BK2.out 0).trans rfl, (blk_cell BK2.out 1).trans rfl, (blk_cell BK2.out 2).trans rfl, ((HB.out.cell (World.block_lt_of_cell? w _ hw701_0)).trans hw701_0), ((HB.out.cell (World.block_lt_of_cell? w _ hw701_1)).trans hw701_1), ((HB.out.cell (World.block_lt_of_cell? w _ hw701_2)).trans hw701_2)⟩ (fun hHeld => ?_); refine with_tabW Ag.tab7 Ag.bits7 (fun HT_ HW_ => ?_)
         generalize wr.drew = w33 at HO_701000 HO_701002 BK0 BK1 BK2 HB hx701_0 hx701_1 hx701_2 hHeld ⊢
         refine pure_ (i := 1) (N := some 30) #[false, true, false, false, false, false, false, false, false, false, false, false] rfl rfl (any_of HT_.out Ybb_) (fun _ _ _ h => h) (Or.inl ⟨by rfl, Ybg_⟩) Ya_ ?_
         refine pure_ (i := 2) (N := some 31) #[false, true, true, false, false, false, false, false, false, false, false, false] rfl rfl (any_of HT_.out Ybb_) (fun _ _ _ h => h) (Or.inl ⟨by rfl, Ybg_⟩) Ya_ ?_
         refine pure_ (i := 3) (N := some 32) #[false, true, true, true, false, false, false, false, false, false, false, false] rfl rfl (any_of HT_.out Ybb_) (fun _ _ _ h => h) (Or.inl ⟨by rfl, Ybg_⟩) Ya_ ?_
         refine take_ (i := 0) (N := some 29) #[true, true, true, true, false, false, false, false, false, false, false, false] rfl rfl (take_ofW HT_.out HW_.out Ybb_) (fun _ _ _ h => h) (Or.inl ⟨by rfl, Ydj_⟩) hHeld Ya_ ?_
         refine take_ (i := 4) (N := some 33) #[true, true, true, true, true, false, false, false, false, false, false, false] rfl rfl (take_ofW HT_.out HW_.out Ybb_) (fun _ _ _ h => h) (Or.inl ⟨by rfl, Ydj_⟩) hHeld Ya_ ?_
         refine join_ (σ := Value × Value × Nat) 2 #[true, true, true, true, true, true, true, true, true, true, false, false] (fun s_ => [(34, .tuple #[.agg #[s_.1, .int .i64 t705, s_.2.1], .bool true]), (9, .pointer (some ⟨s_.2.2, 0, none⟩)), (28, .tuple #[.agg #[s_.1, .int .i64 t705, s_.2.1], .bool true]), (35, .agg #[s_.1, .int .i64 t705, s_.2.1]), (36, .bool true)]) (fun s_ w' => (w'.cell? ⟨gb2, 0, none⟩ = some (.slice Ao31 x701000_2.length co31) ∧ w'.cell? ⟨gb2, 1, none⟩ = some (.int .i64 x701001_2) ∧ w'.cell? ⟨gb2, 2, none⟩ = some (.slice Ao32 x701002_2.length co32) ∧ w'.cell? (ad701.add ((x8_2).toNat * 3)) = some (.int .i64 ((Aa l1 x8_2).f0)) ∧ w'.cell? ⟨(ad701.add ((x8_2).toNat * 3)).block, (ad701.add ((x8_2).toNat * 3)).off + 1, none⟩ = some (.int .i64 ((Aa l1 x8_2).f1)) ∧ w'.cell? ⟨(ad701.add ((x8_2).toNat * 3)).block, (ad701.add ((x8_2).toNat * 3)).off + 2, none⟩ = some (.int .i64 ((Aa l1 x8_2).f2))) ∧ (Kd.S (Kd.slice 3 (Kd.int .i64)) 73 w' w.heap.size (fun k_ => some k_ ≠ (s_.2.1 : Value).ownBlock ∧ some k_ ≠ (.slice Ao31 x701000_2.length co31 : Value).ownBlock ∧ some k_ ≠ (.slice Ao32 x701002_2.length co32 : Value).ownBlock) s_.1 t702) ∧ (Kd.S (Kd.slice 3 (Kd.int .i64)) 73 w' w.heap.size (fun k_ => some k_ ≠ (s_.1 : Value).ownBlock ∧ some k_ ≠ (.slice Ao31 x701000_2.length co31 : Value).ownBlock ∧ some k_ ≠ (.slice Ao32 x701002_2.length co32 : Value).ownBlock) s_.2.1 t706) ∧ (Kd.S (Kd.slice 3 (Kd.int .i64)) 73 w' w.heap.size (fun k_ => some k_ ≠ (s_.1 : Value).ownBlock ∧ some k_ ≠ (s_.2.1 : Value).ownBlock ∧ some k_ ≠ (.slice Ao32 x701002_2.length co32 : Value).ownBlock) (.slice Ao31 x701000_2.length co31) x701000_2) ∧ (Kd.S (Kd.slice 3 (Kd.int .i64)) 73 w' w.heap.size (fun k_ => some k_ ≠ (s_.1 : Value).ownBlock ∧ some k_ ≠ (s_.2.1 : Value).ownBlock ∧ some k_ ≠ (.slice Ao31 x701000_2.length co31 : Value).ownBlock) (.slice Ao32 x701002_2.length co32) x701002_2) ∧ (w'.heap[gb0]? = some (.cells #[.slice A0_0 l0_0.length c0_0, .int .i64 a0_1, .slice A0_2 l0_2.length c0_2] 34 (0, 0))) ∧ (w'.heap[gb1]? = some (.cells #[.slice none 0 0, .int .i64 x692001_2, .slice none 0 0] 34 (0, 0))) ∧ (w'.heap[gb2]? = some (.cells #[.slice Ao31 x701000_2.length co31, .int .i64 x701001_2, .slice Ao32 x701002_2.length co32] 34 (0, 0))) ∧ (w'.heap[s_.2.2]? = some (.cells #[.slice none 0 0, .int .i64 0, .slice none 0 0] 34 (0, 0))) ∧ (w.heap.size ≤ s_.2.2) ∧ (w.heap.size ≤ s_.2.2) ∧ (gb0 ≠ s_.2.2) ∧ (s_.2.2 ≠ gb0) ∧ (gb1 ≠ s_.2.2) ∧ (s_.2.2 ≠ gb1) ∧ (gb2 ≠ s_.2.2) ∧ (s_.2.2 ≠ gb2) ∧ (Below w.heap.size w w')) ?_ ?_
         rotate_left
         ·intro hCont
          refine two_ (i := 5) (j := 9) (Ni := some 34) (Nj := some 9) #[true, true, true, true, true, true, false, false, false, false, false, false] #[true, true, true, true, true, false, false, false, false, true, false, false] rfl rfl rfl rfl (two_of HT_.out Ybb_) (by decide) (by decide) (fun K hK => ?_) (fun K hK => ?_)
          ·skip
           refine goes_ Try.func51 Ybb_ rfl #[.agg #[.slice Ao31 x701000_2.length co31, .int .i64 x701001_2, .slice Ao32 x701002_2.length co32], .agg #[.int .i64 ((Aa l1 x8_2).f0), .int .i64 ((Aa l1 x8_2).f1), .int .i64 ((Aa l1 x8_2).f2)]] (by rfl) rfl rfl Yj_ ?_
           with_reducible refine (spec_l24Make.calls k2 _ _ x701000_2 x701001_2 _ _ x701002_2 ((Aa l1 x8_2).f0) ((Aa l1 x8_2).f1) ((Aa l1 x8_2).f2) t702 t705 t706 true _ ?side1 ?side2 ?side3 ?side4 A29.out).mono ?_
           (case side1 => repeat (first | exact (Kd.Af HO_701000.out).2.2 | (with_reducible refine Kd.C_alloc ?_ _) | (with_reducible refine Kd.C_drewN ?_ _) | (with_reducible refine Kd.C_drew ?_)))
           (case side2 => exact (Kd.Af HO_701000.out).2.1)
           (case side3 => repeat (first | exact (Kd.Af HO_701002.out).2.2 | (with_reducible refine Kd.C_alloc ?_ _) | (with_reducible refine Kd.C_drewN ?_ _) | (with_reducible refine Kd.C_drew ?_)))
           (case side4 => exact (Kd.Af HO_701002.out).2.1)
           rintro e w34 ⟨v703, v707, rfl, ho0, ho1, hb⟩
           refine ⟨_, rfl, ?_⟩
           have HO704 := Aside0.mk (Kd.S_lower (Kd.D9 (Kd.D9 ho0 (Kd.S_lt Ycd_)) (Kd.S_lt Yce_)) (below_size Ye_))
           have HO708 := Aside0.mk (Kd.S_lower (Kd.D9 (Kd.D9 ho1 (Kd.S_lt Ycd_)) (Kd.S_lt Yce_)) (below_size Ye_))
           replace HO_701000 := Aside0.mk (Kd.S_mono (Kd.Ea (Kd.Ea (Kd.S_old Ycd_ hb) (Kd.Eb ho0)) (Kd.Eb ho1)) (fun _ h_ => h_.1))
           replace HO_701002 := Aside0.mk (Kd.S_mono (Kd.Ea (Kd.Ea (Kd.S_old Yce_ hb) (Kd.Eb ho0)) (Kd.Eb ho1)) (fun _ h_ => h_.1))
           replace BK0 := Aside0.mk (blk_below (g := gb0) (o := .cells #[.slice A0_0 l0_0.length c0_0, .int .i64 a0_1, .slice A0_2 l0_2.length c0_2] 34 (0, 0)) Yc_ hb)
           replace BK1 := Aside0.mk (blk_below (g := gb1) (o := .cells #[.slice none 0 0, .int .i64 x692001_2, .slice none 0 0] 34 (0, 0)) Yg_ hb)
           replace BK2 := Aside0.mk (blk_below (g := gb2) (o := .cells #[.slice Ao31 x701000_2.length co31, .int .i64 x701001_2, .slice Ao32 x701002_2.length co32] 34 (0, 0)) Ybd_ hb)
           replace HB := Aside0.mk (below_step Ye_ hb)
           (try clear hb)
           (try clear hb2)
           (try clear hk)
           (try clear hi)
           (try clear ho0)
           (try clear ho1)
           refine hK.out _ _ ⟨(blk_cell BK2.out 0).trans rfl, (blk_cell BK2.out 1).trans rfl, (blk_cell BK2.out 2).trans rfl, ((HB.out.cell (World.block_lt_of_cell? w _ hw701_0)).trans hw701_0), ((HB.out.cell (World.block_lt_of_cell? w _ hw701_1)).trans hw701_1), ((HB.out.cell (World.block_lt_of_cell? w _ hw701_2)).trans hw701_2)⟩ (fun hHeld => ?_)
           clear hK K
           refine norm_ (show Act.put _ (some 34) _ = _ from Ya_) ?_
           refine pure_ (i := 6) (N := some 28) #[true, true, true, true, true, true, true, false, false, false, false, false] rfl rfl (any_of HT_.out Ybb_) (fun _ _ _ h => h) (Or.inl ⟨by rfl, Ybg_⟩) Ya_ ?_
           refine pure_ (i := 7) (N := some 35) #[true, true, true, true, true, true, true, true, false, false, false, false] rfl rfl (any_of HT_.out Ybb_) (fun _ _ _ h => h) (Or.inl ⟨by rfl, Ybg_⟩) Ya_ ?_
           refine pure_ (i := 8) (N := some 36) #[true, true, true, true, true, true, true, true, true, false, false, false] rfl rfl (any_of HT_.out Ybb_) (fun _ _ _ h => h) (Or.inl ⟨by rfl, Ybg_⟩) Ya_ ?_
           refine one_ (i := 9) (N := some 9) #[true, true, true, true, true, true, true, true, true, true, false, false] rfl rfl (one_of HT_.out Ybb_) (by decide) (fun K hK => ?_)
           refine box_step ?hg (N := 9) ?hd (cs := #[.slice none 0 0, .int .i64 0, .slice none 0 0]) (t := 34) ?hr ?_; (case hd => rfl); (case hg => rfl); (case hr => first | (go_simp; done) | (go_simp; rfl))
           intro gb3 hg w35 hbox hb
           replace HO_701000 := Aside0.mk (Kd.Ac Ycd_ hb)
           replace HO_701002 := Aside0.mk (Kd.Ac Yce_ hb)
           replace HO704 := Aside0.mk (Kd.Ac Ygi_ hb)
           replace HO708 := Aside0.mk (Kd.Ac Ygj_ hb)
           have BK3 := Aside0.mk (hbox)
           have GW3 := Aside0.mk ((by rw [hg]; exact (below_size Ye_) : w.heap.size ≤ gb3))
           have GE3 := Aside0.mk ((by rw [hg]; exact (below_size Ye_) : w.heap.size ≤ gb3))
           replace HB := Aside0.mk (below_step Ye_ hb)
           have NB0_3 := Aside0.mk ((by rw [hg]; exact Nat.ne_of_lt (blk_lt (g := gb0) (o := .cells #[.slice A0_0 l0_0.length c0_0, .int .i64 a0_1, .slice A0_2 l0_2.length c0_2] 34 (0, 0)) Yc_) : gb0 ≠ gb3))
           have NB3_0 := Aside0.mk ((by rw [hg]; exact Nat.ne_of_gt (blk_lt (g := gb0) (o := .cells #[.slice A0_0 l0_0.length c0_0, .int .i64 a0_1, .slice A0_2 l0_2.length c0_2] 34 (0, 0)) Yc_) : gb3 ≠ gb0))
           replace BK0 := Aside0.mk (blk_below (g := gb0) (o := .cells #[.slice A0_0 l0_0.length c0_0, .int .i64 a0_1, .slice A0_2 l0_2.length c0_2] 34 (0, 0)) Yc_ hb)
           have NB1_3 := Aside0.mk ((by rw [hg]; exact Nat.ne_of_lt (blk_lt (g := gb1) (o := .cells #[.slice none 0 0, .int .i64 x692001_2, .slice none 0 0] 34 (0, 0)) Yg_) : gb1 ≠ gb3))
           have NB3_1 := Aside0.mk ((by rw [hg]; exact Nat.ne_of_gt (blk_lt (g := gb1) (o := .cells #[.slice none 0 0, .int .i64 x692001_2, .slice none 0 0] 34 (0, 0)) Yg_) : gb3 ≠ gb1))
           replace BK1 := Aside0.mk (blk_below (g := gb1) (o := .cells #[.slice none 0 0, .int .i64 x692001_2, .slice none 0 0] 34 (0, 0)) Yg_ hb)
           have NB2_3 := Aside0.mk ((by rw [hg]; exact Nat.ne_of_lt (blk_lt (g := gb2) (o := .cells #[.slice Ao31 x701000_2.length co31, .int .i64 x701001_2, .slice Ao32 x701002_2.length co32] 34 (0, 0)) Ybd_) : gb2 ≠ gb3))
           have NB3_2 := Aside0.mk ((by rw [hg]; exact Nat.ne_of_gt (blk_lt (g := gb2) (o := .cells #[.slice Ao31 x701000_2.length co31, .int .i64 x701001_2, .slice Ao32 x701002_2.length co32] 34 (0, 0)) Ybd_) : gb3 ≠ gb2))
           replace BK2 := Aside0.mk (blk_below (g := gb2) (o := .cells #[.slice Ao31 x701000_2.length co31, .int .i64 x701001_2, .slice Ao32 x701002_2.length co32] 34 (0, 0)) Ybd_ hb)
           clear hb hbox hg
           refine hK.out _ _ ⟨(blk_cell BK2.out 0).trans rfl, (blk_cell BK2.out 1).trans rfl, (blk_cell BK2.out 2).trans rfl, ((HB.out.cell (World.block_lt_of_cell? w _ hw701_0)).trans hw701_0), ((HB.out.cell (World.block_lt_of_cell? w _ hw701_1)).trans hw701_1), ((HB.out.cell (World.block_lt_of_cell? w _ hw701_2)).trans hw701_2)⟩ (fun hHeld => ?_)
           clear hK K
           refine norm_ (show Act.put _ (some 9) _ = _ from Ya_) ?_
           exact norm_ Yda_ (hCont (v703, v707, gb3) _ ⟨hHeld, Yef_, Yeg_, Yed_, Yee_, Yc_, Yg_, Ybd_, Ycf_, GW3.out, GE3.out, NB0_3.out, NB3_0.out, NB1_3.out, NB3_1.out, NB2_3.out, NB3_2.out, Ybc_⟩)
          ·skip
           refine box_step ?hg (N := 9) ?hd (cs := #[.slice none 0 0, .int .i64 0, .slice none 0 0]) (t := 34) ?hr ?_; (case hd => rfl); (case hg => rfl); (case hr => first | (go_simp; done) | (go_simp; rfl))
           intro gb3 hg w34 hbox hb
           replace HO_701000 := Aside0.mk (Kd.Ac Ycd_ hb)
           replace HO_701002 := Aside0.mk (Kd.Ac Yce_ hb)
           have BK3 := Aside0.mk (hbox)
           have GW3 := Aside0.mk ((by rw [hg]; exact (below_size Ye_) : w.heap.size ≤ gb3))
           have GE3 := Aside0.mk ((by rw [hg]; exact (below_size Ye_) : w.heap.size ≤ gb3))
           replace HB := Aside0.mk (below_step Ye_ hb)
           have NB0_3 := Aside0.mk ((by rw [hg]; exact Nat.ne_of_lt (blk_lt (g := gb0) (o := .cells #[.slice A0_0 l0_0.length c0_0, .int .i64 a0_1, .slice A0_2 l0_2.length c0_2] 34 (0, 0)) Yc_) : gb0 ≠ gb3))
           have NB3_0 := Aside0.mk ((by rw [hg]; exact Nat.ne_of_gt (blk_lt (g := gb0) (o := .cells #[.slice A0_0 l0_0.length c0_0, .int .i64 a0_1, .slice A0_2 l0_2.length c0_2] 34 (0, 0)) Yc_) : gb3 ≠ gb0))
           replace BK0 := Aside0.mk (blk_below (g := gb0) (o := .cells #[.slice A0_0 l0_0.length c0_0, .int .i64 a0_1, .slice A0_2 l0_2.length c0_2] 34 (0, 0)) Yc_ hb)
           have NB1_3 := Aside0.mk ((by rw [hg]; exact Nat.ne_of_lt (blk_lt (g := gb1) (o := .cells #[.slice none 0 0, .int .i64 x692001_2, .slice none 0 0] 34 (0, 0)) Yg_) : gb1 ≠ gb3))
           have NB3_1 := Aside0.mk ((by rw [hg]; exact Nat.ne_of_gt (blk_lt (g := gb1) (o := .cells #[.slice none 0 0, .int .i64 x692001_2, .slice none 0 0] 34 (0, 0)) Yg_) : gb3 ≠ gb1))
           replace BK1 := Aside0.mk (blk_below (g := gb1) (o := .cells #[.slice none 0 0, .int .i64 x692001_2, .slice none 0 0] 34 (0, 0)) Yg_ hb)
           have NB2_3 := Aside0.mk ((by rw [hg]; exact Nat.ne_of_lt (blk_lt (g := gb2) (o := .cells #[.slice Ao31 x701000_2.length co31, .int .i64 x701001_2, .slice Ao32 x701002_2.length co32] 34 (0, 0)) Ybd_) : gb2 ≠ gb3))
           have NB3_2 := Aside0.mk ((by rw [hg]; exact Nat.ne_of_gt (blk_lt (g := gb2) (o := .cells #[.slice Ao31 x701000_2.length co31, .int .i64 x701001_2, .slice Ao32 x701002_2.length co32] 34 (0, 0)) Ybd_) : gb3 ≠ gb2))
           replace BK2 := Aside0.mk (blk_below (g := gb2) (o := .cells #[.slice Ao31 x701000_2.length co31, .int .i64 x701001_2, .slice Ao32 x701002_2.length co32] 34 (0, 0)) Ybd_ hb)
           clear hb hbox hg
           refine hK.out _ _ ⟨(blk_cell BK2.out 0).trans rfl, (blk_cell BK2.out 1).trans rfl, (blk_cell BK2.out 2).trans rfl, ((HB.out.cell (World.block_lt_of_cell? w _ hw701_0)).trans hw701_0), ((HB.out.cell (World.block_lt_of_cell? w _ hw701_1)).trans hw701_1), ((HB.out.cell (World.block_lt_of_cell? w _ hw701_2)).trans hw701_2)⟩ (fun hHeld => ?_)
           clear hK K
           refine norm_ (show Act.put _ (some 9) _ = _ from Ya_) ?_
           refine one_ (i := 5) (N := some 34) #[true, true, true, true, true, true, false, false, false, true, false, false] rfl rfl (one_of HT_.out Ybb_) (by decide) (fun K hK => ?_)
           refine goes_ Try.func51 Ybb_ rfl #[.agg #[.slice Ao31 x701000_2.length co31, .int .i64 x701001_2, .slice Ao32 x701002_2.length co32], .agg #[.int .i64 ((Aa l1 x8_2).f0), .int .i64 ((Aa l1 x8_2).f1), .int .i64 ((Aa l1 x8_2).f2)]] (by rfl) rfl rfl Yj_ ?_
           with_reducible refine (spec_l24Make.calls k2 _ _ x701000_2 x701001_2 _ _ x701002_2 ((Aa l1 x8_2).f0) ((Aa l1 x8_2).f1) ((Aa l1 x8_2).f2) t702 t705 t706 true _ ?side1 ?side2 ?side3 ?side4 A29.out).mono ?_
           (case side1 => repeat (first | exact (Kd.Af HO_701000.out).2.2 | (with_reducible refine Kd.C_alloc ?_ _) | (with_reducible refine Kd.C_drewN ?_ _) | (with_reducible refine Kd.C_drew ?_)))
           (case side2 => exact (Kd.Af HO_701000.out).2.1)
           (case side3 => repeat (first | exact (Kd.Af HO_701002.out).2.2 | (with_reducible refine Kd.C_alloc ?_ _) | (with_reducible refine Kd.C_drewN ?_ _) | (with_reducible refine Kd.C_drew ?_)))
           (case side4 => exact (Kd.Af HO_701002.out).2.1)
           rintro e w35 ⟨v703, v707, rfl, ho0, ho1, hb⟩
           refine ⟨_, rfl, ?_⟩
           have HO704 := Aside0.mk (Kd.S_lower (Kd.D9 (Kd.D9 ho0 (Kd.S_lt Ycd_)) (Kd.S_lt Yce_)) (below_size Ybc_))
           have HO708 := Aside0.mk (Kd.S_lower (Kd.D9 (Kd.D9 ho1 (Kd.S_lt Ycd_)) (Kd.S_lt Yce_)) (below_size Ybc_))
           replace HO_701000 := Aside0.mk (Kd.S_mono (Kd.Ea (Kd.Ea (Kd.S_old Ycd_ hb) (Kd.Eb ho0)) (Kd.Eb ho1)) (fun _ h_ => h_.1))
           replace HO_701002 := Aside0.mk (Kd.S_mono (Kd.Ea (Kd.Ea (Kd.S_old Yce_ hb) (Kd.Eb ho0)) (Kd.Eb ho1)) (fun _ h_ => h_.1))
           replace BK0 := Aside0.mk (blk_below (g := gb0) (o := .cells #[.slice A0_0 l0_0.length c0_0, .int .i64 a0_1, .slice A0_2 l0_2.length c0_2] 34 (0, 0)) Yc_ hb)
           replace BK1 := Aside0.mk (blk_below (g := gb1) (o := .cells #[.slice none 0 0, .int .i64 x692001_2, .slice none 0 0] 34 (0, 0)) Yg_ hb)
           replace BK2 := Aside0.mk (blk_below (g := gb2) (o := .cells #[.slice Ao31 x701000_2.length co31, .int .i64 x701001_2, .slice Ao32 x701002_2.length co32] 34 (0, 0)) Ybd_ hb)
           replace BK3 := Aside0.mk (blk_below (g := gb3) (o := .cells #[.slice none 0 0, .int .i64 0, .slice none 0 0] 34 (0, 0)) Ycf_ hb)
           replace HB := Aside0.mk (below_step Ybc_ hb)
           (try clear hb)
           (try clear hb2)
           (try clear hk)
           (try clear hi)
           (try clear ho0)
           (try clear ho1)
           refine hK.out _ _ ⟨(blk_cell BK2.out 0).trans rfl, (blk_cell BK2.out 1).trans rfl, (blk_cell BK2.out 2).trans rfl, ((HB.out.cell (World.block_lt_of_cell? w _ hw701_0)).trans hw701_0), ((HB.out.cell (World.block_lt_of_cell? w _ hw701_1)).trans hw701_1), ((HB.out.cell (World.block_lt_of_cell? w _ hw701_2)).trans hw701_2)⟩ (fun hHeld => ?_)
           clear hK K
           refine norm_ (show Act.put _ (some 34) _ = _ from Ya_) ?_
           refine pure_ (i := 6) (N := some 28) #[true, true, true, true, true, true, true, false, false, true, false, false] rfl rfl (any_of HT_.out Ybb_) (fun _ _ _ h => h) (Or.inl ⟨by rfl, Ybg_⟩) Ya_ ?_
           refine pure_ (i := 7) (N := some 35) #[true, true, true, true, true, true, true, true, false, true, false, false] rfl rfl (any_of HT_.out Ybb_) (fun _ _ _ h => h) (Or.inl ⟨by rfl, Ybg_⟩) Ya_ ?_
           refine pure_ (i := 8) (N := some 36) #[true, true, true, true, true, true, true, true, true, true, false, false] rfl rfl (any_of HT_.out Ybb_) (fun _ _ _ h => h) (Or.inl ⟨by rfl, Ybg_⟩) Ya_ ?_
           exact norm_ Yda_ (hCont (v703, v707, gb3) _ ⟨hHeld, Yef_, Yeg_, Yed_, Yee_, Yc_, Yg_, Ybd_, Ycf_, GW3.out, GE3.out, NB0_3.out, NB3_0.out, NB1_3.out, NB3_1.out, NB2_3.out, NB3_2.out, Ybc_⟩)
         rintro ⟨v703, v707, gb3⟩ w36 ⟨hS_, h0_, h1_, h2_, h3_, h4_, h5_, h6_, h7_, h8_, h9_, h10_, h11_, h12_, h13_, h14_, h15_, h16_⟩
         have n0_ : Aside0 (Kd.S (Kd.slice 3 (Kd.int .i64)) 73 w36 w.heap.size (fun k_ => some k_ ≠ (v707 : Value).ownBlock ∧ some k_ ≠ (.slice Ao31 x701000_2.length co31 : Value).ownBlock ∧ some k_ ≠ (.slice Ao32 x701002_2.length co32 : Value).ownBlock) v703 t702) := ⟨h0_⟩
         have n1_ : Aside0 (Kd.S (Kd.slice 3 (Kd.int .i64)) 73 w36 w.heap.size (fun k_ => some k_ ≠ (v703 : Value).ownBlock ∧ some k_ ≠ (.slice Ao31 x701000_2.length co31 : Value).ownBlock ∧ some k_ ≠ (.slice Ao32 x701002_2.length co32 : Value).ownBlock) v707 t706) := ⟨h1_⟩
         have n2_ : Aside0 (Kd.S (Kd.slice 3 (Kd.int .i64)) 73 w36 w.heap.size (fun k_ => some k_ ≠ (v703 : Value).ownBlock ∧ some k_ ≠ (v707 : Value).ownBlock ∧ some k_ ≠ (.slice Ao32 x701002_2.length co32 : Value).ownBlock) (.slice Ao31 x701000_2.length co31) x701000_2) := ⟨h2_⟩
         have n3_ : Aside0 (Kd.S (Kd.slice 3 (Kd.int .i64)) 73 w36 w.heap.size (fun k_ => some k_ ≠ (v703 : Value).ownBlock ∧ some k_ ≠ (v707 : Value).ownBlock ∧ some k_ ≠ (.slice Ao31 x701000_2.length co31 : Value).ownBlock) (.slice Ao32 x701002_2.length co32) x701002_2) := ⟨h3_⟩
         have n4_ : Aside0 (w36.heap[gb0]? = some (.cells #[.slice A0_0 l0_0.length c0_0, .int .i64 a0_1, .slice A0_2 l0_2.length c0_2] 34 (0, 0))) := ⟨h4_⟩
         have n5_ : Aside0 (w36.heap[gb1]? = some (.cells #[.slice none 0 0, .int .i64 x692001_2, .slice none 0 0] 34 (0, 0))) := ⟨h5_⟩
         have n6_ : Aside0 (w36.heap[gb2]? = some (.cells #[.slice Ao31 x701000_2.length co31, .int .i64 x701001_2, .slice Ao32 x701002_2.length co32] 34 (0, 0))) := ⟨h6_⟩
         have n7_ : Aside0 (w36.heap[gb3]? = some (.cells #[.slice none 0 0, .int .i64 0, .slice none 0 0] 34 (0, 0))) := ⟨h7_⟩
         have n8_ : Aside0 (w.heap.size ≤ gb3) := ⟨h8_⟩
         have n9_ : Aside0 (w.heap.size ≤ gb3) := ⟨h9_⟩
         have n10_ : Aside0 (gb0 ≠ gb3) := ⟨h10_⟩
         have n11_ : Aside0 (gb3 ≠ gb0) := ⟨h11_⟩
         have n12_ : Aside0 (gb1 ≠ gb3) := ⟨h12_⟩
         have n13_ : Aside0 (gb3 ≠ gb1) := ⟨h13_⟩
         have n14_ : Aside0 (gb2 ≠ gb3) := ⟨h14_⟩
         have n15_ : Aside0 (gb3 ≠ gb2) := ⟨h15_⟩
         have n16_ : Aside0 (Below w.heap.size w w36) := ⟨h16_⟩
         clear HO_701000
         clear HO_701002
         clear BK0
         clear BK1
         clear BK2
         clear HB
         clear h0_ h1_ h2_ h3_ h4_ h5_ h6_ h7_ h8_ h9_ h10_ h11_ h12_ h13_ h14_ h15_ h16_
         have HO704 := n0_
         have HO708 := n1_
         have HO_701000 := n2_
         have HO_701002 := n3_
         have BK0 := n4_
         have BK1 := n5_
         have BK2 := n6_
         have BK3 := n7_
         have GW3 := n8_
         have GE3 := n9_
         have NB0_3 := n10_
         have NB3_0 := n11_
         have NB1_3 := n12_
         have NB3_1 := n13_
         have NB2_3 := n14_
         have NB3_2 := n15_
         have HB := n16_
         clear n0_ n1_ n2_ n3_ n4_ n5_ n6_ n7_ n8_ n9_ n10_ n11_ n12_ n13_ n14_ n15_ n16_
         have hHeld : w36.cell? ⟨gb2, 0, none⟩ = some (.slice Ao31 x701000_2.length co31) ∧ w36.cell? ⟨gb2, 1, none⟩ = some (.int .i64 x701001_2) ∧ w36.cell? ⟨gb2, 2, none⟩ = some (.slice Ao32 x701002_2.length co32) ∧ w36.cell? (ad701.add ((x8_2).toNat * 3)) = some (.int .i64 ((Aa l1 x8_2).f0)) ∧ w36.cell? ⟨(ad701.add ((x8_2).toNat * 3)).block, (ad701.add ((x8_2).toNat * 3)).off + 1, none⟩ = some (.int .i64 ((Aa l1 x8_2).f1)) ∧ w36.cell? ⟨(ad701.add ((x8_2).toNat * 3)).block, (ad701.add ((x8_2).toNat * 3)).off + 2, none⟩ = some (.int .i64 ((Aa l1 x8_2).f2)) := hS_
         obtain ⟨Ao37, co37, eo37⟩ := Kd.S_slice HO704.out
         (first | subst eo37 | (injection eo37 with f1_ f2_ f3_; have f4_ := f1_.symm; have f5_ := f3_.symm; clear f1_ f2_ f3_; subst f4_; subst f5_))
         obtain ⟨Ao40, co40, eo40⟩ := Kd.S_slice HO708.out
         (first | subst eo40 | (injection eo40 with f1_ f2_ f3_; have f4_ := f1_.symm; have f5_ := f3_.symm; clear f1_ f2_ f3_; subst f4_; subst f5_))
         refine norm_ (a' := ?_) ?_ ?_
         rotate_left
         ·simp only [Es, Act.put, List.setIfInBounds_toArray, List.set_cons_zero, List.set_cons_succ]
          rfl
         refine one_ (i := 10) (N := none) #[true, true, true, true, true, true, true, true, true, true, true, false] rfl rfl (one_of HT_.out Ybb_) (by decide) (fun K hK => ?_)
         have hs38 : w36.cell? ⟨gb3, 0, none⟩ = some (.slice none 0 0) := (blk_cell BK3.out 0).trans rfl
         have hfs38 := blk_frozen BK3.out 0
         have hns38_0 := NB0_3.out
         have hns38_1 := NB1_3.out
         have hns38_2 := NB2_3.out
         have hms38_0 := NB3_0.out
         have hms38_1 := NB3_1.out
         have hms38_2 := NB3_2.out
         have hs39 : w36.cell? ⟨gb3, 1, none⟩ = some (.int .i64 0) := (blk_cell BK3.out 1).trans rfl
         have hfs39 := blk_frozen BK3.out 1
         have hns39_0 := NB0_3.out
         have hns39_1 := NB1_3.out
         have hns39_2 := NB2_3.out
         have hms39_0 := NB3_0.out
         have hms39_1 := NB3_1.out
         have hms39_2 := NB3_2.out
         have hs41 : w36.cell? ⟨gb3, 2, none⟩ = some (.slice none 0 0) := (blk_cell BK3.out 2).trans rfl
         have hfs41 := blk_frozen BK3.out 2
         have hns41_0 := NB0_3.out
         have hns41_1 := NB1_3.out
         have hns41_2 := NB2_3.out
         have hms41_0 := NB3_0.out
         have hms41_1 := NB3_1.out
         have hms41_2 := NB3_2.out
         refine skip_ (w1 := ?_) (by rfl) rfl ?_ ?_
         rotate_left
         ·go_simp
          rfl
         refine hK.out _ _ ⟨((cell_far (p := ⟨gb3, _, none⟩) NB2_3.out _).trans (((cell_far (p := ⟨gb3, _, none⟩) NB2_3.out _).trans (((cell_far (p := ⟨gb3, _, none⟩) NB2_3.out _).trans (hHeld.1)))))), ((cell_far (p := ⟨gb3, _, none⟩) NB2_3.out _).trans (((cell_far (p := ⟨gb3, _, none⟩) NB2_3.out _).trans (((cell_far (p := ⟨gb3, _, none⟩) NB2_3.out _).trans (hHeld.2.1)))))), ((cell_far (p := ⟨gb3, _, none⟩) NB2_3.out _).trans (((cell_far (p := ⟨gb3, _, none⟩) NB2_3.out _).trans (((cell_far (p := ⟨gb3, _, none⟩) NB2_3.out _).trans (hHeld.2.2.1)))))), ((cell_far (p := ⟨gb3, _, none⟩) Ybh_ _).trans (((cell_far (p := ⟨gb3, _, none⟩) Ybh_ _).trans (((cell_far (p := ⟨gb3, _, none⟩) Ybh_ _).trans (hHeld.2.2.2.1)))))), ((cell_far (p := ⟨gb3, _, none⟩) Ybi_ _).trans (((cell_far (p := ⟨gb3, _, none⟩) Ybi_ _).trans (((cell_far (p := ⟨gb3, _, none⟩) Ybi_ _).trans (hHeld.2.2.2.2.1)))))), ((cell_far (p := ⟨gb3, _, none⟩) Ybj_ _).trans (((cell_far (p := ⟨gb3, _, none⟩) Ybj_ _).trans (((cell_far (p := ⟨gb3, _, none⟩) Ybj_ _).trans (hHeld.2.2.2.2.2))))))⟩ (fun hHeld => ?_)
         clear hK K
         refine pure_ (i := 11) (N := some 10) #[true, true, true, true, true, true, true, true, true, true, true, true] rfl rfl (any_of HT_.out Ybb_) (fun _ _ _ h => h) (Or.inl ⟨by rfl, Ybg_⟩) Ya_ ?_
         refine done_ (done_of HT_.out Ybb_) ?_
         have hnb42 := NB3_0.out
         have hnc42 := NB0_3.out
         have hnb43 := NB3_1.out
         have hnc43 := NB1_3.out
         have hnb44 := NB3_2.out
         have hnc44 := NB2_3.out
         obtain ⟨hcz45_0, hcz45_1, hcz45_2⟩ := cl3_ BK3.out
         obtain ⟨hfz45_0, hfz45_1, hfz45_2⟩ := fz3_ BK3.out
         have hnb46 := NB2_0.out
         have hnc46 := NB0_2.out
         have hnb47 := NB2_1.out
         have hnc47 := NB1_2.out
         obtain ⟨hcz48_0, hcz48_1, hcz48_2⟩ := cl3_ BK2.out
         obtain ⟨hfz48_0, hfz48_1, hfz48_2⟩ := fz3_ BK2.out
         try go_wp2
         go_roundg k2
         case measure => have := HJ2.out; have := HK2.out; omega
         case rel => exact ⟨(wrap64 (x8_2 + 1)), (x692001_2), (t702), (t705), (t706), (.slice Ao37 t702.length co37), (.slice Ao40 t706.length co40), Ybe_, H', ⟨by have := HJ2.out; have := HK2.out; omega⟩, ⟨by (with_reducible repeat (first | apply Kd.S_alloc | apply Kd.S_drewN | apply Kd.S_drew)); exact Kd.S_mono (Kd.S_far (p := ⟨gb2, 2, none⟩) (Kd.S_far (p := ⟨gb2, 1, none⟩) (Kd.S_far (p := ⟨gb2, 0, none⟩) (Kd.S_far (p := ⟨gb3, 2, none⟩) (Kd.S_far (p := ⟨gb3, 1, none⟩) (Kd.S_far (p := ⟨gb3, 0, none⟩) (Kd.S_types (Kd.S_types HO704.out BK3.out (by decide)) BK2.out (by decide)) (fun _ hk => hk.1.2) (.slice Ao37 t702.length co37)) (fun _ hk => hk.1.2) (.int .i64 t705)) (fun _ hk => hk.1.2) (.slice Ao40 t706.length co40)) (fun _ hk => hk.2) (.slice Ao37 t702.length co37)) (fun _ hk => hk.2) (.int .i64 t705)) (fun _ hk => hk.2) (.slice Ao40 t706.length co40)) (fun _ hk => hk.1.1.1)⟩, ⟨by (with_reducible repeat (first | apply Kd.S_alloc | apply Kd.S_drewN | apply Kd.S_drew)); exact Kd.S_mono (Kd.S_far (p := ⟨gb2, 2, none⟩) (Kd.S_far (p := ⟨gb2, 1, none⟩) (Kd.S_far (p := ⟨gb2, 0, none⟩) (Kd.S_far (p := ⟨gb3, 2, none⟩) (Kd.S_far (p := ⟨gb3, 1, none⟩) (Kd.S_far (p := ⟨gb3, 0, none⟩) (Kd.S_types (Kd.S_types HO708.out BK3.out (by decide)) BK2.out (by decide)) (fun _ hk => hk.1.2) (.slice Ao37 t702.length co37)) (fun _ hk => hk.1.2) (.int .i64 t705)) (fun _ hk => hk.1.2) (.slice Ao40 t706.length co40)) (fun _ hk => hk.2) (.slice Ao37 t702.length co37)) (fun _ hk => hk.2) (.int .i64 t705)) (fun _ hk => hk.2) (.slice Ao40 t706.length co40)) (fun _ hk => hk.1.1.1)⟩, ⟨by (with_reducible repeat (first | apply blk_drewN | apply blk_drew | apply blk_alloc)); refine Ai ?_ NB0_2.out _; (with_reducible repeat (first | apply blk_drewN | apply blk_drew | apply blk_alloc)); refine Ai ?_ NB0_2.out _; (with_reducible repeat (first | apply blk_drewN | apply blk_drew | apply blk_alloc)); refine Ai ?_ NB0_2.out _; (with_reducible repeat (first | apply blk_drewN | apply blk_drew | apply blk_alloc)); refine Ai ?_ NB0_3.out _; (with_reducible repeat (first | apply blk_drewN | apply blk_drew | apply blk_alloc)); refine Ai ?_ NB0_3.out _; (with_reducible repeat (first | apply blk_drewN | apply blk_drew | apply blk_alloc)); refine Ai ?_ NB0_3.out _; (with_reducible repeat (first | apply blk_drewN | apply blk_drew | apply blk_alloc)); exact BK0.out⟩, ⟨by (with_reducible repeat (first | apply blk_drewN | apply blk_drew | apply blk_alloc)); refine Ai ?_ NB1_2.out _; (with_reducible repeat (first | apply blk_drewN | apply blk_drew | apply blk_alloc)); refine Ai ?_ NB1_2.out _; (with_reducible repeat (first | apply blk_drewN | apply blk_drew | apply blk_alloc)); refine Ai ?_ NB1_2.out _; (with_reducible repeat (first | apply blk_drewN | apply blk_drew | apply blk_alloc)); refine Ai ?_ NB1_3.out _; (with_reducible repeat (first | apply blk_drewN | apply blk_drew | apply blk_alloc)); refine Ai ?_ NB1_3.out _; (with_reducible repeat (first | apply blk_drewN | apply blk_drew | apply blk_alloc)); refine Ai ?_ NB1_3.out _; (with_reducible repeat (first | apply blk_drewN | apply blk_drew | apply blk_alloc)); exact BK1.out⟩, ⟨by (with_reducible repeat (first | apply blk_drewN | apply blk_drew | apply blk_alloc)); refine blk_put (cs := #[.slice Ao37 t702.length co37, .int .i64 t705, .slice Ao32 x701002_2.length co32]) ?_ 2 _ rfl; (with_reducible repeat (first | apply blk_drewN | apply blk_drew | apply blk_alloc)); refine blk_put (cs := #[.slice Ao37 t702.length co37, .int .i64 x701001_2, .slice Ao32 x701002_2.length co32]) ?_ 1 _ rfl; (with_reducible repeat (first | apply blk_drewN | apply blk_drew | apply blk_alloc)); refine blk_put (cs := #[.slice Ao31 x701000_2.length co31, .int .i64 x701001_2, .slice Ao32 x701002_2.length co32]) ?_ 0 _ rfl; (with_reducible repeat (first | apply blk_drewN | apply blk_drew | apply blk_alloc)); refine Ai ?_ NB2_3.out _; (with_reducible repeat (first | apply blk_drewN | apply blk_drew | apply blk_alloc)); refine Ai ?_ NB2_3.out _; (with_reducible repeat (first | apply blk_drewN | apply blk_drew | apply blk_alloc)); refine Ai ?_ NB2_3.out _; (with_reducible repeat (first | apply blk_drewN | apply blk_drew | apply blk_alloc)); exact BK2.out⟩, ⟨by repeat (first | (with_reducible first | exact HB.out | apply below_alloc | apply pw_below_drewN | apply below_drew1 | refine below_set ?_ GE0.out | refine below_set ?_ GE1.out | refine below_set ?_ GE2.out | refine below_set ?_ GE3.out) | exact HB.out)⟩⟩
        ·replace c30 := Bool.eq_false_iff.mpr c30
         subst c30
         have H1 : (some (x701000_2, x701001_2, x701002_2, x8_2, true)) = some (r1, r2, r3, r4, r5) := by rw [if_neg (show ¬ (false = true) by decide)] at H; exact H
         clear H
         have H := H1
         clear H1
         simp only [Option.some.injEq, Prod.mk.injEq] at H
         obtain ⟨rfl, rfl, rfl, rfl, rfl⟩ := H
         obtain ⟨Ao49, co49, eo49⟩ := Kd.S_slice HO_701000.out
         subst eo49
         obtain ⟨Ao50, co50, eo50⟩ := Kd.S_slice HO_701002.out
         subst eo50
         try go_wp2
         replace HO_701000 := Aside0.mk (Kd.S_drew HO_701000.out)
         replace HO_701002 := Aside0.mk (Kd.S_drew HO_701002.out)
         replace BK0 := Aside0.mk (blk_drew BK0.out)
         replace BK1 := Aside0.mk (blk_drew BK1.out)
         replace BK2 := Aside0.mk (blk_drew BK2.out)
         replace HB := Aside0.mk (below_drew1 HB.out)
         have p701 : 0 ≤ (x8_2 : Int) := of_decide_eq_true Yh_
         have q701 : x8_2 < (l1.length : Int) := of_decide_eq_true Yh_
         obtain ⟨ad701, e701, hx701_0, hx701_1, hx701_2⟩ := E5 HR1.out x8_2 p701 q701
         have hw701_2 := hx701_2
         have hw701_1 := hx701_1
         have hw701_0 := hx701_0
         cases e701
         replace hx701_0 := (HB.out.cell (World.block_lt_of_cell? w _ hx701_0)).trans hx701_0
         replace hx701_1 := (HB.out.cell (World.block_lt_of_cell? w _ hx701_1)).trans hx701_1
         replace hx701_2 := (HB.out.cell (World.block_lt_of_cell? w _ hx701_2)).trans hx701_2
         replace p701 := eq_true p701
         replace q701 := eq_true q701
         refine start_ (n := 12) (S := fun w' => w'.cell? ⟨gb2, 0, none⟩ = some (.slice Ao49 x701000_2.length co49) ∧ w'.cell? ⟨gb2, 1, none⟩ = some (.int .i64 x701001_2) ∧ w'.cell? ⟨gb2, 2, none⟩ = some (.slice Ao50 x701002_2.length co50) ∧ w'.cell? (ad701.add ((x8_2).toNat * 3)) = some (.int .i64 ((Aa l1 x8_2).f0)) ∧ w'.cell? ⟨(ad701.add ((x8_2).toNat * 3)).block, (ad701.add ((x8_2).toNat * 3)).off + 1, none⟩ = some (.int .i64 ((Aa l1 x8_2).f1)) ∧ w'.cell? ⟨(ad701.add ((x8_2).toNat * 3)).block, (ad701.add ((x8_2).toNat * 3)).off + 2, none⟩ = some (.int .i64 ((Aa l1 x8_2).f2))) (ds := []) #[false, false, false, false, false, false, false, false, false, false, false, false] Ybb_ rfl rfl ⟨(blk_cell BK2.out 0).trans rfl, (blk_cell BK2.out 1).trans rfl, (blk_cell BK2.out 2).trans rfl, ((HB.out.cell (World.block_lt_of_cell? w _ hw701_0)).trans hw701_0), ((HB.out.cell (World.block_lt_of_cell? w _ hw701_1)).trans hw701_1), ((HB.out.cell (World.block_lt_of_cell? w _ hw701_2)).trans hw701_2)⟩ (fun hHeld => ?_); refine with_tabW Ag.tab7 Ag.bits7 (fun HT_ HW_ => ?_)
         generalize wr.drew = w51 at HO_701000 HO_701002 BK0 BK1 BK2 HB hx701_0 hx701_1 hx701_2 hHeld ⊢
         refine pure_ (i := 1) (N := some 30) #[false, true, false, false, false, false, false, false, false, false, false, false] rfl rfl (any_of HT_.out Ybb_) (fun _ _ _ h => h) (Or.inl ⟨by rfl, Ybg_⟩) Ya_ ?_
         refine pure_ (i := 2) (N := some 31) #[false, true, true, false, false, false, false, false, false, false, false, false] rfl rfl (any_of HT_.out Ybb_) (fun _ _ _ h => h) (Or.inl ⟨by rfl, Ybg_⟩) Ya_ ?_
         refine pure_ (i := 3) (N := some 32) #[false, true, true, true, false, false, false, false, false, false, false, false] rfl rfl (any_of HT_.out Ybb_) (fun _ _ _ h => h) (Or.inl ⟨by rfl, Ybg_⟩) Ya_ ?_
         refine take_ (i := 0) (N := some 29) #[true, true, true, true, false, false, false, false, false, false, false, false] rfl rfl (take_ofW HT_.out HW_.out Ybb_) (fun _ _ _ h => h) (Or.inl ⟨by rfl, Ydj_⟩) hHeld Ya_ ?_
         refine take_ (i := 4) (N := some 33) #[true, true, true, true, true, false, false, false, false, false, false, false] rfl rfl (take_ofW HT_.out HW_.out Ybb_) (fun _ _ _ h => h) (Or.inl ⟨by rfl, Ydj_⟩) hHeld Ya_ ?_
         refine join_ (σ := Value × Value × Nat) 2 #[true, true, true, true, true, true, true, true, true, true, false, false] (fun s_ => [(34, .tuple #[.agg #[s_.1, .int .i64 t705, s_.2.1], .bool false]), (9, .pointer (some ⟨s_.2.2, 0, none⟩)), (28, .tuple #[.agg #[s_.1, .int .i64 t705, s_.2.1], .bool false]), (35, .agg #[s_.1, .int .i64 t705, s_.2.1]), (36, .bool false)]) (fun s_ w' => (w'.cell? ⟨gb2, 0, none⟩ = some (.slice Ao49 x701000_2.length co49) ∧ w'.cell? ⟨gb2, 1, none⟩ = some (.int .i64 x701001_2) ∧ w'.cell? ⟨gb2, 2, none⟩ = some (.slice Ao50 x701002_2.length co50) ∧ w'.cell? (ad701.add ((x8_2).toNat * 3)) = some (.int .i64 ((Aa l1 x8_2).f0)) ∧ w'.cell? ⟨(ad701.add ((x8_2).toNat * 3)).block, (ad701.add ((x8_2).toNat * 3)).off + 1, none⟩ = some (.int .i64 ((Aa l1 x8_2).f1)) ∧ w'.cell? ⟨(ad701.add ((x8_2).toNat * 3)).block, (ad701.add ((x8_2).toNat * 3)).off + 2, none⟩ = some (.int .i64 ((Aa l1 x8_2).f2))) ∧ (Kd.S (Kd.slice 3 (Kd.int .i64)) 73 w' w.heap.size (fun k_ => some k_ ≠ (s_.2.1 : Value).ownBlock ∧ some k_ ≠ (.slice Ao49 x701000_2.length co49 : Value).ownBlock ∧ some k_ ≠ (.slice Ao50 x701002_2.length co50 : Value).ownBlock) s_.1 t702) ∧ (Kd.S (Kd.slice 3 (Kd.int .i64)) 73 w' w.heap.size (fun k_ => some k_ ≠ (s_.1 : Value).ownBlock ∧ some k_ ≠ (.slice Ao49 x701000_2.length co49 : Value).ownBlock ∧ some k_ ≠ (.slice Ao50 x701002_2.length co50 : Value).ownBlock) s_.2.1 t706) ∧ (Kd.S (Kd.slice 3 (Kd.int .i64)) 73 w' w.heap.size (fun k_ => some k_ ≠ (s_.1 : Value).ownBlock ∧ some k_ ≠ (s_.2.1 : Value).ownBlock ∧ some k_ ≠ (.slice Ao50 x701002_2.length co50 : Value).ownBlock) (.slice Ao49 x701000_2.length co49) x701000_2) ∧ (Kd.S (Kd.slice 3 (Kd.int .i64)) 73 w' w.heap.size (fun k_ => some k_ ≠ (s_.1 : Value).ownBlock ∧ some k_ ≠ (s_.2.1 : Value).ownBlock ∧ some k_ ≠ (.slice Ao49 x701000_2.length co49 : Value).ownBlock) (.slice Ao50 x701002_2.length co50) x701002_2) ∧ (w'.heap[gb0]? = some (.cells #[.slice A0_0 l0_0.length c0_0, .int .i64 a0_1, .slice A0_2 l0_2.length c0_2] 34 (0, 0))) ∧ (w'.heap[gb1]? = some (.cells #[.slice none 0 0, .int .i64 x692001_2, .slice none 0 0] 34 (0, 0))) ∧ (w'.heap[gb2]? = some (.cells #[.slice Ao49 x701000_2.length co49, .int .i64 x701001_2, .slice Ao50 x701002_2.length co50] 34 (0, 0))) ∧ (w'.heap[s_.2.2]? = some (.cells #[.slice none 0 0, .int .i64 0, .slice none 0 0] 34 (0, 0))) ∧ (w.heap.size ≤ s_.2.2) ∧ (w.heap.size ≤ s_.2.2) ∧ (gb0 ≠ s_.2.2) ∧ (s_.2.2 ≠ gb0) ∧ (gb1 ≠ s_.2.2) ∧ (s_.2.2 ≠ gb1) ∧ (gb2 ≠ s_.2.2) ∧ (s_.2.2 ≠ gb2) ∧ (Below w.heap.size w w')) ?_ ?_
         rotate_left
         ·intro hCont
          refine two_ (i := 5) (j := 9) (Ni := some 34) (Nj := some 9) #[true, true, true, true, true, true, false, false, false, false, false, false] #[true, true, true, true, true, false, false, false, false, true, false, false] rfl rfl rfl rfl (two_of HT_.out Ybb_) (by decide) (by decide) (fun K hK => ?_) (fun K hK => ?_)
          ·skip
           refine goes_ Try.func51 Ybb_ rfl #[.agg #[.slice Ao49 x701000_2.length co49, .int .i64 x701001_2, .slice Ao50 x701002_2.length co50], .agg #[.int .i64 ((Aa l1 x8_2).f0), .int .i64 ((Aa l1 x8_2).f1), .int .i64 ((Aa l1 x8_2).f2)]] (by rfl) rfl rfl Yj_ ?_
           with_reducible refine (spec_l24Make.calls k2 _ _ x701000_2 x701001_2 _ _ x701002_2 ((Aa l1 x8_2).f0) ((Aa l1 x8_2).f1) ((Aa l1 x8_2).f2) t702 t705 t706 false _ ?side1 ?side2 ?side3 ?side4 A29.out).mono ?_
           (case side1 => repeat (first | exact (Kd.Af HO_701000.out).2.2 | (with_reducible refine Kd.C_alloc ?_ _) | (with_reducible refine Kd.C_drewN ?_ _) | (with_reducible refine Kd.C_drew ?_)))
           (case side2 => exact (Kd.Af HO_701000.out).2.1)
           (case side3 => repeat (first | exact (Kd.Af HO_701002.out).2.2 | (with_reducible refine Kd.C_alloc ?_ _) | (with_reducible refine Kd.C_drewN ?_ _) | (with_reducible refine Kd.C_drew ?_)))
           (case side4 => exact (Kd.Af HO_701002.out).2.1)
           rintro e w52 ⟨v703, v707, rfl, ho0, ho1, hb⟩
           refine ⟨_, rfl, ?_⟩
           have HO704 := Aside0.mk (Kd.S_lower (Kd.D9 (Kd.D9 ho0 (Kd.S_lt Ycd_)) (Kd.S_lt Yce_)) (below_size Ye_))
           have HO708 := Aside0.mk (Kd.S_lower (Kd.D9 (Kd.D9 ho1 (Kd.S_lt Ycd_)) (Kd.S_lt Yce_)) (below_size Ye_))
           replace HO_701000 := Aside0.mk (Kd.S_mono (Kd.Ea (Kd.Ea (Kd.S_old Ycd_ hb) (Kd.Eb ho0)) (Kd.Eb ho1)) (fun _ h_ => h_.1))
           replace HO_701002 := Aside0.mk (Kd.S_mono (Kd.Ea (Kd.Ea (Kd.S_old Yce_ hb) (Kd.Eb ho0)) (Kd.Eb ho1)) (fun _ h_ => h_.1))
           replace BK0 := Aside0.mk (blk_below (g := gb0) (o := .cells #[.slice A0_0 l0_0.length c0_0, .int .i64 a0_1, .slice A0_2 l0_2.length c0_2] 34 (0, 0)) Yc_ hb)
           replace BK1 := Aside0.mk (blk_below (g := gb1) (o := .cells #[.slice none 0 0, .int .i64 x692001_2, .slice none 0 0] 34 (0, 0)) Yg_ hb)
           replace BK2 := Aside0.mk (blk_below (g := gb2) (o := .cells #[.slice Ao49 x701000_2.length co49, .int .i64 x701001_2, .slice Ao50 x701002_2.length co50] 34 (0, 0)) Ybd_ hb)
           replace HB := Aside0.mk (below_step Ye_ hb)
           (try clear hb)
           (try clear hb2)
           (try clear hk)
           (try clear hi)
           (try clear ho0)
           (try clear ho1)
           refine hK.out _ _ ⟨(blk_cell BK2.out 0).trans rfl, (blk_cell BK2.out 1).trans rfl, (blk_cell BK2.out 2).trans rfl, ((HB.out.cell (World.block_lt_of_cell? w _ hw701_0)).trans hw701_0), ((HB.out.cell (World.block_lt_of_cell? w _ hw701_1)).trans hw701_1), ((HB.out.cell (World.block_lt_of_cell? w _ hw701_2)).trans hw701_2)⟩ (fun hHeld => ?_)
           clear hK K
           refine norm_ (show Act.put _ (some 34) _ = _ from Ya_) ?_
           refine pure_ (i := 6) (N := some 28) #[true, true, true, true, true, true, true, false, false, false, false, false] rfl rfl (any_of HT_.out Ybb_) (fun _ _ _ h => h) (Or.inl ⟨by rfl, Ybg_⟩) Ya_ ?_
           refine pure_ (i := 7) (N := some 35) #[true, true, true, true, true, true, true, true, false, false, false, false] rfl rfl (any_of HT_.out Ybb_) (fun _ _ _ h => h) (Or.inl ⟨by rfl, Ybg_⟩) Ya_ ?_
           refine pure_ (i := 8) (N := some 36) #[true, true, true, true, true, true, true, true, true, false, false, false] rfl rfl (any_of HT_.out Ybb_) (fun _ _ _ h => h) (Or.inl ⟨by rfl, Ybg_⟩) Ya_ ?_
           refine one_ (i := 9) (N := some 9) #[true, true, true, true, true, true, true, true, true, true, false, false] rfl rfl (one_of HT_.out Ybb_) (by decide) (fun K hK => ?_)
           refine box_step ?hg (N := 9) ?hd (cs := #[.slice none 0 0, .int .i64 0, .slice none 0 0]) (t := 34) ?hr ?_; (case hd => rfl); (case hg => rfl); (case hr => first | (go_simp; done) | (go_simp; rfl))
           intro gb3 hg w53 hbox hb
           replace HO_701000 := Aside0.mk (Kd.Ac Ycd_ hb)
           replace HO_701002 := Aside0.mk (Kd.Ac Yce_ hb)
           replace HO704 := Aside0.mk (Kd.Ac Ygi_ hb)
           replace HO708 := Aside0.mk (Kd.Ac Ygj_ hb)
           have BK3 := Aside0.mk (hbox)
           have GW3 := Aside0.mk ((by rw [hg]; exact (below_size Ye_) : w.heap.size ≤ gb3))
           have GE3 := Aside0.mk ((by rw [hg]; exact (below_size Ye_) : w.heap.size ≤ gb3))
           replace HB := Aside0.mk (below_step Ye_ hb)
           have NB0_3 := Aside0.mk ((by rw [hg]; exact Nat.ne_of_lt (blk_lt (g := gb0) (o := .cells #[.slice A0_0 l0_0.length c0_0, .int .i64 a0_1, .slice A0_2 l0_2.length c0_2] 34 (0, 0)) Yc_) : gb0 ≠ gb3))
           have NB3_0 := Aside0.mk ((by rw [hg]; exact Nat.ne_of_gt (blk_lt (g := gb0) (o := .cells #[.slice A0_0 l0_0.length c0_0, .int .i64 a0_1, .slice A0_2 l0_2.length c0_2] 34 (0, 0)) Yc_) : gb3 ≠ gb0))
           replace BK0 := Aside0.mk (blk_below (g := gb0) (o := .cells #[.slice A0_0 l0_0.length c0_0, .int .i64 a0_1, .slice A0_2 l0_2.length c0_2] 34 (0, 0)) Yc_ hb)
           have NB1_3 := Aside0.mk ((by rw [hg]; exact Nat.ne_of_lt (blk_lt (g := gb1) (o := .cells #[.slice none 0 0, .int .i64 x692001_2, .slice none 0 0] 34 (0, 0)) Yg_) : gb1 ≠ gb3))
           have NB3_1 := Aside0.mk ((by rw [hg]; exact Nat.ne_of_gt (blk_lt (g := gb1) (o := .cells #[.slice none 0 0, .int .i64 x692001_2, .slice none 0 0] 34 (0, 0)) Yg_) : gb3 ≠ gb1))
           replace BK1 := Aside0.mk (blk_below (g := gb1) (o := .cells #[.slice none 0 0, .int .i64 x692001_2, .slice none 0 0] 34 (0, 0)) Yg_ hb)
           have NB2_3 := Aside0.mk ((by rw [hg]; exact Nat.ne_of_lt (blk_lt (g := gb2) (o := .cells #[.slice Ao49 x701000_2.length co49, .int .i64 x701001_2, .slice Ao50 x701002_2.length co50] 34 (0, 0)) Ybd_) : gb2 ≠ gb3))
           have NB3_2 := Aside0.mk ((by rw [hg]; exact Nat.ne_of_gt (blk_lt (g := gb2) (o := .cells #[.slice Ao49 x701000_2.length co49, .int .i64 x701001_2, .slice Ao50 x701002_2.length co50] 34 (0, 0)) Ybd_) : gb3 ≠ gb2))
           replace BK2 := Aside0.mk (blk_below (g := gb2) (o := .cells #[.slice Ao49 x701000_2.length co49, .int .i64 x701001_2, .slice Ao50 x701002_2.length co50] 34 (0, 0)) Ybd_ hb)
           clear hb hbox hg
           refine hK.out _ _ ⟨(blk_cell BK2.out 0).trans rfl, (blk_cell BK2.out 1).trans rfl, (blk_cell BK2.out 2).trans rfl, ((HB.out.cell (World.block_lt_of_cell? w _ hw701_0)).trans hw701_0), ((HB.out.cell (World.block_lt_of_cell? w _ hw701_1)).trans hw701_1), ((HB.out.cell (World.block_lt_of_cell? w _ hw701_2)).trans hw701_2)⟩ (fun hHeld => ?_)
           clear hK K
           refine norm_ (show Act.put _ (some 9) _ = _ from Ya_) ?_
           exact norm_ Yda_ (hCont (v703, v707, gb3) _ ⟨hHeld, Yef_, Yeg_, Yed_, Yee_, Yc_, Yg_, Ybd_, Ycf_, GW3.out, GE3.out, NB0_3.out, NB3_0.out, NB1_3.out, NB3_1.out, NB2_3.out, NB3_2.out, Ybc_⟩)
          ·skip
           refine box_step ?hg (N := 9) ?hd (cs := #[.slice none 0 0, .int .i64 0, .slice none 0 0]) (t := 34) ?hr ?_; (case hd => rfl); (case hg => rfl); (case hr => first | (go_simp; done) | (go_simp; rfl))
           intro gb3 hg w52 hbox hb
           replace HO_701000 := Aside0.mk (Kd.Ac Ycd_ hb)
           replace HO_701002 := Aside0.mk (Kd.Ac Yce_ hb)
           have BK3 := Aside0.mk (hbox)
           have GW3 := Aside0.mk ((by rw [hg]; exact (below_size Ye_) : w.heap.size ≤ gb3))
           have GE3 := Aside0.mk ((by rw [hg]; exact (below_size Ye_) : w.heap.size ≤ gb3))
           replace HB := Aside0.mk (below_step Ye_ hb)
           have NB0_3 := Aside0.mk ((by rw [hg]; exact Nat.ne_of_lt (blk_lt (g := gb0) (o := .cells #[.slice A0_0 l0_0.length c0_0, .int .i64 a0_1, .slice A0_2 l0_2.length c0_2] 34 (0, 0)) Yc_) : gb0 ≠ gb3))
           have NB3_0 := Aside0.mk ((by rw [hg]; exact Nat.ne_of_gt (blk_lt (g := gb0) (o := .cells #[.slice A0_0 l0_0.length c0_0, .int .i64 a0_1, .slice A0_2 l0_2.length c0_2] 34 (0, 0)) Yc_) : gb3 ≠ gb0))
           replace BK0 := Aside0.mk (blk_below (g := gb0) (o := .cells #[.slice A0_0 l0_0.length c0_0, .int .i64 a0_1, .slice A0_2 l0_2.length c0_2] 34 (0, 0)) Yc_ hb)
           have NB1_3 := Aside0.mk ((by rw [hg]; exact Nat.ne_of_lt (blk_lt (g := gb1) (o := .cells #[.slice none 0 0, .int .i64 x692001_2, .slice none 0 0] 34 (0, 0)) Yg_) : gb1 ≠ gb3))
           have NB3_1 := Aside0.mk ((by rw [hg]; exact Nat.ne_of_gt (blk_lt (g := gb1) (o := .cells #[.slice none 0 0, .int .i64 x692001_2, .slice none 0 0] 34 (0, 0)) Yg_) : gb3 ≠ gb1))
           replace BK1 := Aside0.mk (blk_below (g := gb1) (o := .cells #[.slice none 0 0, .int .i64 x692001_2, .slice none 0 0] 34 (0, 0)) Yg_ hb)
           have NB2_3 := Aside0.mk ((by rw [hg]; exact Nat.ne_of_lt (blk_lt (g := gb2) (o := .cells #[.slice Ao49 x701000_2.length co49, .int .i64 x701001_2, .slice Ao50 x701002_2.length co50] 34 (0, 0)) Ybd_) : gb2 ≠ gb3))
           have NB3_2 := Aside0.mk ((by rw [hg]; exact Nat.ne_of_gt (blk_lt (g := gb2) (o := .cells #[.slice Ao49 x701000_2.length co49, .int .i64 x701001_2, .slice Ao50 x701002_2.length co50] 34 (0, 0)) Ybd_) : gb3 ≠ gb2))
           replace BK2 := Aside0.mk (blk_below (g := gb2) (o := .cells #[.slice Ao49 x701000_2.length co49, .int .i64 x701001_2, .slice Ao50 x701002_2.length co50] 34 (0, 0)) Ybd_ hb)
           clear hb hbox hg
           refine hK.out _ _ ⟨(blk_cell BK2.out 0).trans rfl, (blk_cell BK2.out 1).trans rfl, (blk_cell BK2.out 2).trans rfl, ((HB.out.cell (World.block_lt_of_cell? w _ hw701_0)).trans hw701_0), ((HB.out.cell (World.block_lt_of_cell? w _ hw701_1)).trans hw701_1), ((HB.out.cell (World.block_lt_of_cell? w _ hw701_2)).trans hw701_2)⟩ (fun hHeld => ?_)
           clear hK K
           refine norm_ (show Act.put _ (some 9) _ = _ from Ya_) ?_
           refine one_ (i := 5) (N := some 34) #[true, true, true, true, true, true, false, false, false, true, false, false] rfl rfl (one_of HT_.out Ybb_) (by decide) (fun K hK => ?_)
           refine goes_ Try.func51 Ybb_ rfl #[.agg #[.slice Ao49 x701000_2.length co49, .int .i64 x701001_2, .slice Ao50 x701002_2.length co50], .agg #[.int .i64 ((Aa l1 x8_2).f0), .int .i64 ((Aa l1 x8_2).f1), .int .i64 ((Aa l1 x8_2).f2)]] (by rfl) rfl rfl Yj_ ?_
           with_reducible refine (spec_l24Make.calls k2 _ _ x701000_2 x701001_2 _ _ x701002_2 ((Aa l1 x8_2).f0) ((Aa l1 x8_2).f1) ((Aa l1 x8_2).f2) t702 t705 t706 false _ ?side1 ?side2 ?side3 ?side4 A29.out).mono ?_
           (case side1 => repeat (first | exact (Kd.Af HO_701000.out).2.2 | (with_reducible refine Kd.C_alloc ?_ _) | (with_reducible refine Kd.C_drewN ?_ _) | (with_reducible refine Kd.C_drew ?_)))
           (case side2 => exact (Kd.Af HO_701000.out).2.1)
           (case side3 => repeat (first | exact (Kd.Af HO_701002.out).2.2 | (with_reducible refine Kd.C_alloc ?_ _) | (with_reducible refine Kd.C_drewN ?_ _) | (with_reducible refine Kd.C_drew ?_)))
           (case side4 => exact (Kd.Af HO_701002.out).2.1)
           rintro e w53 ⟨v703, v707, rfl, ho0, ho1, hb⟩
           refine ⟨_, rfl, ?_⟩
           have HO704 := Aside0.mk (Kd.S_lower (Kd.D9 (Kd.D9 ho0 (Kd.S_lt Ycd_)) (Kd.S_lt Yce_)) (below_size Ybc_))
           have HO708 := Aside0.mk (Kd.S_lower (Kd.D9 (Kd.D9 ho1 (Kd.S_lt Ycd_)) (Kd.S_lt Yce_)) (below_size Ybc_))
           replace HO_701000 := Aside0.mk (Kd.S_mono (Kd.Ea (Kd.Ea (Kd.S_old Ycd_ hb) (Kd.Eb ho0)) (Kd.Eb ho1)) (fun _ h_ => h_.1))
           replace HO_701002 := Aside0.mk (Kd.S_mono (Kd.Ea (Kd.Ea (Kd.S_old Yce_ hb) (Kd.Eb ho0)) (Kd.Eb ho1)) (fun _ h_ => h_.1))
           replace BK0 := Aside0.mk (blk_below (g := gb0) (o := .cells #[.slice A0_0 l0_0.length c0_0, .int .i64 a0_1, .slice A0_2 l0_2.length c0_2] 34 (0, 0)) Yc_ hb)
           replace BK1 := Aside0.mk (blk_below (g := gb1) (o := .cells #[.slice none 0 0, .int .i64 x692001_2, .slice none 0 0] 34 (0, 0)) Yg_ hb)
           replace BK2 := Aside0.mk (blk_below (g := gb2) (o := .cells #[.slice Ao49 x701000_2.length co49, .int .i64 x701001_2, .slice Ao50 x701002_2.length co50] 34 (0, 0)) Ybd_ hb)
           replace BK3 := Aside0.mk (blk_below (g := gb3) (o := .cells #[.slice none 0 0, .int .i64 0, .slice none 0 0] 34 (0, 0)) Ycf_ hb)
           replace HB := Aside0.mk (below_step Ybc_ hb)
           (try clear hb)
           (try clear hb2)
           (try clear hk)
           (try clear hi)
           (try clear ho0)
           (try clear ho1)
           refine hK.out _ _ ⟨(blk_cell BK2.out 0).trans rfl, (blk_cell BK2.out 1).trans rfl, (blk_cell BK2.out 2).trans rfl, ((HB.out.cell (World.block_lt_of_cell? w _ hw701_0)).trans hw701_0), ((HB.out.cell (World.block_lt_of_cell? w _ hw701_1)).trans hw701_1), ((HB.out.cell (World.block_lt_of_cell? w _ hw701_2)).trans hw701_2)⟩ (fun hHeld => ?_)
           clear hK K
           refine norm_ (show Act.put _ (some 34) _ = _ from Ya_) ?_
           refine pure_ (i := 6) (N := some 28) #[true, true, true, true, true, true, true, false, false, true, false, false] rfl rfl (any_of HT_.out Ybb_) (fun _ _ _ h => h) (Or.inl ⟨by rfl, Ybg_⟩) Ya_ ?_
           refine pure_ (i := 7) (N := some 35) #[true, true, true, true, true, true, true, true, false, true, false, false] rfl rfl (any_of HT_.out Ybb_) (fun _ _ _ h => h) (Or.inl ⟨by rfl, Ybg_⟩) Ya_ ?_
           refine pure_ (i := 8) (N := some 36) #[true, true, true, true, true, true, true, true, true, true, false, false] rfl rfl (any_of HT_.out Ybb_) (fun _ _ _ h => h) (Or.inl ⟨by rfl, Ybg_⟩) Ya_ ?_
           exact norm_ Yda_ (hCont (v703, v707, gb3) _ ⟨hHeld, Yef_, Yeg_, Yed_, Yee_, Yc_, Yg_, Ybd_, Ycf_, GW3.out, GE3.out, NB0_3.out, NB3_0.out, NB1_3.out, NB3_1.out, NB2_3.out, NB3_2.out, Ybc_⟩)
         rintro ⟨v703, v707, gb3⟩ w54 ⟨hS_, h0_, h1_, h2_, h3_, h4_, h5_, h6_, h7_, h8_, h9_, h10_, h11_, h12_, h13_, h14_, h15_, h16_⟩
         have n0_ : Aside0 (Kd.S (Kd.slice 3 (Kd.int .i64)) 73 w54 w.heap.size (fun k_ => some k_ ≠ (v707 : Value).ownBlock ∧ some k_ ≠ (.slice Ao49 x701000_2.length co49 : Value).ownBlock ∧ some k_ ≠ (.slice Ao50 x701002_2.length co50 : Value).ownBlock) v703 t702) := ⟨h0_⟩
         have n1_ : Aside0 (Kd.S (Kd.slice 3 (Kd.int .i64)) 73 w54 w.heap.size (fun k_ => some k_ ≠ (v703 : Value).ownBlock ∧ some k_ ≠ (.slice Ao49 x701000_2.length co49 : Value).ownBlock ∧ some k_ ≠ (.slice Ao50 x701002_2.length co50 : Value).ownBlock) v707 t706) := ⟨h1_⟩
         have n2_ : Aside0 (Kd.S (Kd.slice 3 (Kd.int .i64)) 73 w54 w.heap.size (fun k_ => some k_ ≠ (v703 : Value).ownBlock ∧ some k_ ≠ (v707 : Value).ownBlock ∧ some k_ ≠ (.slice Ao50 x701002_2.length co50 : Value).ownBlock) (.slice Ao49 x701000_2.length co49) x701000_2) := ⟨h2_⟩
         have n3_ : Aside0 (Kd.S (Kd.slice 3 (Kd.int .i64)) 73 w54 w.heap.size (fun k_ => some k_ ≠ (v703 : Value).ownBlock ∧ some k_ ≠ (v707 : Value).ownBlock ∧ some k_ ≠ (.slice Ao49 x701000_2.length co49 : Value).ownBlock) (.slice Ao50 x701002_2.length co50) x701002_2) := ⟨h3_⟩
         have n4_ : Aside0 (w54.heap[gb0]? = some (.cells #[.slice A0_0 l0_0.length c0_0, .int .i64 a0_1, .slice A0_2 l0_2.length c0_2] 34 (0, 0))) := ⟨h4_⟩
         have n5_ : Aside0 (w54.heap[gb1]? = some (.cells #[.slice none 0 0, .int .i64 x692001_2, .slice none 0 0] 34 (0, 0))) := ⟨h5_⟩
         have n6_ : Aside0 (w54.heap[gb2]? = some (.cells #[.slice Ao49 x701000_2.length co49, .int .i64 x701001_2, .slice Ao50 x701002_2.length co50] 34 (0, 0))) := ⟨h6_⟩
         have n7_ : Aside0 (w54.heap[gb3]? = some (.cells #[.slice none 0 0, .int .i64 0, .slice none 0 0] 34 (0, 0))) := ⟨h7_⟩
         have n8_ : Aside0 (w.heap.size ≤ gb3) := ⟨h8_⟩
         have n9_ : Aside0 (w.heap.size ≤ gb3) := ⟨h9_⟩
         have n10_ : Aside0 (gb0 ≠ gb3) := ⟨h10_⟩
         have n11_ : Aside0 (gb3 ≠ gb0) := ⟨h11_⟩
         have n12_ : Aside0 (gb1 ≠ gb3) := ⟨h12_⟩
         have n13_ : Aside0 (gb3 ≠ gb1) := ⟨h13_⟩
         have n14_ : Aside0 (gb2 ≠ gb3) := ⟨h14_⟩
         have n15_ : Aside0 (gb3 ≠ gb2) := ⟨h15_⟩
         have n16_ : Aside0 (Below w.heap.size w w54) := ⟨h16_⟩
         clear HO_701000
         clear HO_701002
         clear BK0
         clear BK1
         clear BK2
         clear HB
         clear h0_ h1_ h2_ h3_ h4_ h5_ h6_ h7_ h8_ h9_ h10_ h11_ h12_ h13_ h14_ h15_ h16_
         have HO704 := n0_
         have HO708 := n1_
         have HO_701000 := n2_
         have HO_701002 := n3_
         have BK0 := n4_
         have BK1 := n5_
         have BK2 := n6_
         have BK3 := n7_
         have GW3 := n8_
         have GE3 := n9_
         have NB0_3 := n10_
         have NB3_0 := n11_
         have NB1_3 := n12_
         have NB3_1 := n13_
         have NB2_3 := n14_
         have NB3_2 := n15_
         have HB := n16_
         clear n0_ n1_ n2_ n3_ n4_ n5_ n6_ n7_ n8_ n9_ n10_ n11_ n12_ n13_ n14_ n15_ n16_
         have hHeld : w54.cell? ⟨gb2, 0, none⟩ = some (.slice Ao49 x701000_2.length co49) ∧ w54.cell? ⟨gb2, 1, none⟩ = some (.int .i64 x701001_2) ∧ w54.cell? ⟨gb2, 2, none⟩ = some (.slice Ao50 x701002_2.length co50) ∧ w54.cell? (ad701.add ((x8_2).toNat * 3)) = some (.int .i64 ((Aa l1 x8_2).f0)) ∧ w54.cell? ⟨(ad701.add ((x8_2).toNat * 3)).block, (ad701.add ((x8_2).toNat * 3)).off + 1, none⟩ = some (.int .i64 ((Aa l1 x8_2).f1)) ∧ w54.cell? ⟨(ad701.add ((x8_2).toNat * 3)).block, (ad701.add ((x8_2).toNat * 3)).off + 2, none⟩ = some (.int .i64 ((Aa l1 x8_2).f2)) := hS_
         obtain ⟨Ao55, co55, eo55⟩ := Kd.S_slice HO704.out
         (first | subst eo55 | (injection eo55 with f1_ f2_ f3_; have f4_ := f1_.symm; have f5_ := f3_.symm; clear f1_ f2_ f3_; subst f4_; subst f5_))
         obtain ⟨Ao58, co58, eo58⟩ := Kd.S_slice HO708.out
         (first | subst eo58 | (injection eo58 with f1_ f2_ f3_; have f4_ := f1_.symm; have f5_ := f3_.symm; clear f1_ f2_ f3_; subst f4_; subst f5_))
         refine norm_ (a' := ?_) ?_ ?_
         rotate_left
         ·simp only [Es, Act.put, List.setIfInBounds_toArray, List.set_cons_zero, List.set_cons_succ]
          rfl
         refine one_ (i := 10) (N := none) #[true, true, true, true, true, true, true, true, true, true, true, false] rfl rfl (one_of HT_.out Ybb_) (by decide) (fun K hK => ?_)
         have hs56 : w54.cell? ⟨gb3, 0, none⟩ = some (.slice none 0 0) := (blk_cell BK3.out 0).trans rfl
         have hfs56 := blk_frozen BK3.out 0
         have hns56_0 := NB0_3.out
         have hns56_1 := NB1_3.out
         have hns56_2 := NB2_3.out
         have hms56_0 := NB3_0.out
         have hms56_1 := NB3_1.out
         have hms56_2 := NB3_2.out
         have hs57 : w54.cell? ⟨gb3, 1, none⟩ = some (.int .i64 0) := (blk_cell BK3.out 1).trans rfl
         have hfs57 := blk_frozen BK3.out 1
         have hns57_0 := NB0_3.out
         have hns57_1 := NB1_3.out
         have hns57_2 := NB2_3.out
         have hms57_0 := NB3_0.out
         have hms57_1 := NB3_1.out
         have hms57_2 := NB3_2.out
         have hs59 : w54.cell? ⟨gb3, 2, none⟩ = some (.slice none 0 0) := (blk_cell BK3.out 2).trans rfl
         have hfs59 := blk_frozen BK3.out 2
         have hns59_0 := NB0_3.out
         have hns59_1 := NB1_3.out
         have hns59_2 := NB2_3.out
         have hms59_0 := NB3_0.out
         have hms59_1 := NB3_1.out
         have hms59_2 := NB3_2.out
         refine skip_ (w1 := ?_) (by rfl) rfl ?_ ?_
         rotate_left
         ·go_simp
          rfl
         refine hK.out _ _ ⟨((cell_far (p := ⟨gb3, _, none⟩) NB2_3.out _).trans (((cell_far (p := ⟨gb3, _, none⟩) NB2_3.out _).trans (((cell_far (p := ⟨gb3, _, none⟩) NB2_3.out _).trans (hHeld.1)))))), ((cell_far (p := ⟨gb3, _, none⟩) NB2_3.out _).trans (((cell_far (p := ⟨gb3, _, none⟩) NB2_3.out _).trans (((cell_far (p := ⟨gb3, _, none⟩) NB2_3.out _).trans (hHeld.2.1)))))), ((cell_far (p := ⟨gb3, _, none⟩) NB2_3.out _).trans (((cell_far (p := ⟨gb3, _, none⟩) NB2_3.out _).trans (((cell_far (p := ⟨gb3, _, none⟩) NB2_3.out _).trans (hHeld.2.2.1)))))), ((cell_far (p := ⟨gb3, _, none⟩) Ybh_ _).trans (((cell_far (p := ⟨gb3, _, none⟩) Ybh_ _).trans (((cell_far (p := ⟨gb3, _, none⟩) Ybh_ _).trans (hHeld.2.2.2.1)))))), ((cell_far (p := ⟨gb3, _, none⟩) Ybi_ _).trans (((cell_far (p := ⟨gb3, _, none⟩) Ybi_ _).trans (((cell_far (p := ⟨gb3, _, none⟩) Ybi_ _).trans (hHeld.2.2.2.2.1)))))), ((cell_far (p := ⟨gb3, _, none⟩) Ybj_ _).trans (((cell_far (p := ⟨gb3, _, none⟩) Ybj_ _).trans (((cell_far (p := ⟨gb3, _, none⟩) Ybj_ _).trans (hHeld.2.2.2.2.2))))))⟩ (fun hHeld => ?_)
         clear hK K
         refine pure_ (i := 11) (N := some 10) #[true, true, true, true, true, true, true, true, true, true, true, true] rfl rfl (any_of HT_.out Ybb_) (fun _ _ _ h => h) (Or.inl ⟨by rfl, Ybg_⟩) Ya_ ?_
         refine done_ (done_of HT_.out Ybb_) ?_
         have hnb60 := NB2_0.out
         have hnc60 := NB0_2.out
         have hnb61 := NB2_1.out
         have hnc61 := NB1_2.out
         have hnb62 := NB2_3.out
         have hnc62 := NB3_2.out
         obtain ⟨hcz63_0, hcz63_1, hcz63_2⟩ := cl3_ BK2.out
         obtain ⟨hfz63_0, hfz63_1, hfz63_2⟩ := fz3_ BK2.out
         have hnb64 := NB1_0.out
         have hnc64 := NB0_1.out
         have hnb65 := NB1_3.out
         have hnc65 := NB3_1.out
         obtain ⟨hcz66_0, hcz66_1, hcz66_2⟩ := cl3_ BK1.out
         obtain ⟨hfz66_0, hfz66_1, hfz66_2⟩ := fz3_ BK1.out
         try go_wp2
         refine bodyPost_ret (Di rfl _ _ gb1 34 #[.slice Ao49 x701000_2.length co49, .int .i64 x701001_2, .slice Ao50 x701002_2.length co50] (0, 0) _ rfl (by (with_reducible repeat (first | apply blk_drewN | apply blk_drew | apply blk_alloc)); refine blk_put (cs := #[.slice Ao49 x701000_2.length co49, .int .i64 x701001_2, .slice none 0 0]) ?_ 2 _ rfl; (with_reducible repeat (first | apply blk_drewN | apply blk_drew | apply blk_alloc)); refine blk_put (cs := #[.slice Ao49 x701000_2.length co49, .int .i64 x692001_2, .slice none 0 0]) ?_ 1 _ rfl; (with_reducible repeat (first | apply blk_drewN | apply blk_drew | apply blk_alloc)); refine blk_put (cs := #[.slice none 0 0, .int .i64 x692001_2, .slice none 0 0]) ?_ 0 _ rfl; (with_reducible repeat (first | apply blk_drewN | apply blk_drew | apply blk_alloc)); refine Ai ?_ NB1_3.out _; (with_reducible repeat (first | apply blk_drewN | apply blk_drew | apply blk_alloc)); refine Ai ?_ NB1_3.out _; (with_reducible repeat (first | apply blk_drewN | apply blk_drew | apply blk_alloc)); refine Ai ?_ NB1_3.out _; (with_reducible repeat (first | apply blk_drewN | apply blk_drew | apply blk_alloc)); exact BK1.out) Try.underlying34 rfl Ybb_) rfl ?_
         exact ⟨_, _, Yi_, (by (with_reducible repeat (first | apply Kd.S_alloc | apply Kd.S_drewN | apply Kd.S_drew)); exact Kd.S_mono (Kd.S_far (p := ⟨gb1, 2, none⟩) (Kd.S_far (p := ⟨gb1, 1, none⟩) (Kd.S_far (p := ⟨gb1, 0, none⟩) (Kd.S_far (p := ⟨gb3, 2, none⟩) (Kd.S_far (p := ⟨gb3, 1, none⟩) (Kd.S_far (p := ⟨gb3, 0, none⟩) (Kd.S_types (Kd.S_types HO_701000.out BK3.out (by decide)) BK1.out (by decide)) (fun _ hk => hk.1.2) (.slice Ao55 t702.length co55)) (fun _ hk => hk.1.2) (.int .i64 t705)) (fun _ hk => hk.1.2) (.slice Ao58 t706.length co58)) (fun _ hk => hk.2) (.slice Ao49 x701000_2.length co49)) (fun _ hk => hk.2) (.int .i64 x701001_2)) (fun _ hk => hk.2) (.slice Ao50 x701002_2.length co50)) (fun _ hk => hk.1.1.2.2)), (by (with_reducible repeat (first | apply Kd.S_alloc | apply Kd.S_drewN | apply Kd.S_drew)); exact Kd.S_mono (Kd.S_far (p := ⟨gb1, 2, none⟩) (Kd.S_far (p := ⟨gb1, 1, none⟩) (Kd.S_far (p := ⟨gb1, 0, none⟩) (Kd.S_far (p := ⟨gb3, 2, none⟩) (Kd.S_far (p := ⟨gb3, 1, none⟩) (Kd.S_far (p := ⟨gb3, 0, none⟩) (Kd.S_types (Kd.S_types HO_701002.out BK3.out (by decide)) BK1.out (by decide)) (fun _ hk => hk.1.2) (.slice Ao55 t702.length co55)) (fun _ hk => hk.1.2) (.int .i64 t705)) (fun _ hk => hk.1.2) (.slice Ao58 t706.length co58)) (fun _ hk => hk.2) (.slice Ao49 x701000_2.length co49)) (fun _ hk => hk.2) (.int .i64 x701001_2)) (fun _ hk => hk.2) (.slice Ao50 x701002_2.length co50)) (fun _ hk => hk.1.1.2.2)), Ybc_⟩
       ·rw [if_neg c28] at H
        exact absurd H (by simp)
      ·rw [if_neg c27] at H
       have c27b0 : decide (x8_2 < (l1.length : Int)) = false := decide_eq_false c27
       clear c27
       simp only [Option.some.injEq, Prod.mk.injEq] at H
       obtain ⟨rfl, rfl, rfl, rfl, rfl⟩ := H
       have hnb67 := NB2_0.out
       have hnc67 := NB0_2.out
       have hnb68 := NB2_1.out
       have hnc68 := NB1_2.out
       obtain ⟨hcz69_0, hcz69_1, hcz69_2⟩ := cl3_ BK2.out
       obtain ⟨hfz69_0, hfz69_1, hfz69_2⟩ := fz3_ BK2.out
       obtain ⟨Ao70, co70, eo70⟩ := Kd.S_slice HO_701000.out
       subst eo70
       have hnb71 := NB1_0.out
       have hnc71 := NB0_1.out
       obtain ⟨hcz72_0, hcz72_1, hcz72_2⟩ := cl3_ BK1.out
       obtain ⟨hfz72_0, hfz72_1, hfz72_2⟩ := fz3_ BK1.out
       obtain ⟨Ao73, co73, eo73⟩ := Kd.S_slice HO_701002.out
       subst eo73
       go_wp2
       refine bodyPost_ret (Di rfl _ _ gb1 34 #[.slice Ao70 x701000_2.length co70, .int .i64 x701001_2, .slice Ao73 x701002_2.length co73] (0, 0) _ rfl (by (with_reducible repeat (first | apply blk_drewN | apply blk_drew | apply blk_alloc)); refine blk_put (cs := #[.slice Ao70 x701000_2.length co70, .int .i64 x701001_2, .slice none 0 0]) ?_ 2 _ rfl; (with_reducible repeat (first | apply blk_drewN | apply blk_drew | apply blk_alloc)); refine blk_put (cs := #[.slice Ao70 x701000_2.length co70, .int .i64 x692001_2, .slice none 0 0]) ?_ 1 _ rfl; (with_reducible repeat (first | apply blk_drewN | apply blk_drew | apply blk_alloc)); refine blk_put (cs := #[.slice none 0 0, .int .i64 x692001_2, .slice none 0 0]) ?_ 0 _ rfl; (with_reducible repeat (first | apply blk_drewN | apply blk_drew | apply blk_alloc)); exact BK1.out) Try.underlying34 rfl Ybb_) rfl ?_
       exact ⟨_, _, Yi_, (by (with_reducible repeat (first | apply Kd.S_alloc | apply Kd.S_drewN | apply Kd.S_drew)); exact Kd.S_mono (Kd.S_far (p := ⟨gb1, 2, none⟩) (Kd.S_far (p := ⟨gb1, 1, none⟩) (Kd.S_far (p := ⟨gb1, 0, none⟩) (Kd.S_types HO_701000.out BK1.out (by decide)) (fun _ hk => hk.2) (.slice Ao70 x701000_2.length co70)) (fun _ hk => hk.2) (.int .i64 x701001_2)) (fun _ hk => hk.2) (.slice Ao73 x701002_2.length co73)) (fun _ hk => hk.1)), (by (with_reducible repeat (first | apply Kd.S_alloc | apply Kd.S_drewN | apply Kd.S_drew)); exact Kd.S_mono (Kd.S_far (p := ⟨gb1, 2, none⟩) (Kd.S_far (p := ⟨gb1, 1, none⟩) (Kd.S_far (p := ⟨gb1, 0, none⟩) (Kd.S_types HO_701002.out BK1.out (by decide)) (fun _ hk => hk.2) (.slice Ao70 x701000_2.length co70)) (fun _ hk => hk.2) (.int .i64 x701001_2)) (fun _ hk => hk.2) (.slice Ao73 x701002_2.length co73)) (fun _ hk => hk.1)), Ye_⟩
def Gi.f (a0_0 : Int) (a0_1 : Int) (a0_2 : Int) : Option (Int × Int × Int) := some (a0_0, a0_1, a0_2)
set_option maxHeartbeats 8000000 in
set_option maxRecDepth 100000 in
theorem Gi.calls (a0_0 : Int) (a0_1 : Int) (a0_2 : Int) (r1 : Int) (r2 : Int) (r3 : Int) (w : World) (h : Gi.f a0_0 a0_1 a0_2 = some (r1, r2, r3)) :
  Calls Try.prog 18 #[.agg #[.int .i64 a0_0, .int .i64 a0_1, .int .i64 a0_2]] w fun e w' => e = .returned (.agg #[.int .i64 r1, .int .i64 r2, .int .i64 r3]) ∧ Below w.heap.size w w' := by
 have hu42 := Try.underlying42
 have hu43 := Try.underlying43
 have HB := Aside0.mk (Below.refl w.heap.size w)
 have H : (some (a0_0, a0_1, a0_2)) = some (r1, r2, r3) := h
 clear h
 simp only [Option.some.injEq, Prod.mk.injEq] at H
 obtain ⟨rfl, rfl, rfl⟩ := H
 go_enter Try.func18, Try.ntmps18
 go_wp2_with (first | ((with_reducible refine gate_dst (N := 1) rfl ?_); refine box_event (by rfl) (N := 1) (by rfl) (cs := #[.int .i64 a0_0, .int .i64 a0_1, .int .i64 a0_2]) (t := 42) Ybf_ ?_; intro gb0 hg w2 hbox hb; have BK0 := Aside0.mk (hbox); have GW0 := Aside0.mk ((by rw [hg]; exact (below_size Yb_) : w.heap.size ≤ gb0)); have GE0 := Aside0.mk ((by rw [hg]; exact (below_size Yb_) : w.heap.size ≤ gb0)); replace HB := Aside0.mk (below_step Yb_ hb); clear hb hbox hg) | ((with_reducible refine gate_dst (N := 2) rfl ?_); refine box_event (by rfl) (N := 2) (by rfl) (cs := #[.int .i64 0, .int .i64 0, .int .i64 0]) (t := 43) Ybf_ ?_; intro gb1 hg w3 hbox hb; have BK1 := Aside0.mk (hbox); have GW1 := Aside0.mk ((by rw [hg]; exact (below_size Yd_) : w.heap.size ≤ gb1)); have GE1 := Aside0.mk ((by rw [hg]; exact (below_size Yd_) : w.heap.size ≤ gb1)); replace HB := Aside0.mk (below_step Yd_ hb); have NB0_1 := Aside0.mk ((by rw [hg]; exact Nat.ne_of_lt (blk_lt (g := gb0) (o := .cells #[.int .i64 a0_0, .int .i64 a0_1, .int .i64 a0_2] 42 (0, 0)) Yc_) : gb0 ≠ gb1)); have NB1_0 := Aside0.mk ((by rw [hg]; exact Nat.ne_of_gt (blk_lt (g := gb0) (o := .cells #[.int .i64 a0_0, .int .i64 a0_1, .int .i64 a0_2] 42 (0, 0)) Yc_) : gb1 ≠ gb0)); replace BK0 := Aside0.mk (blk_below (g := gb0) (o := .cells #[.int .i64 a0_0, .int .i64 a0_1, .int .i64 a0_2] 42 (0, 0)) Yc_ hb); clear hb hbox hg) | ((with_reducible refine gate_dst (N := 3) rfl ?_); refine box_event (by rfl) (N := 3) (by rfl) (cs := #[.int .i64 0, .int .i64 0, .int .i64 0]) (t := 43) Ybf_ ?_; intro gb2 hg w4 hbox hb; have BK2 := Aside0.mk (hbox); have GW2 := Aside0.mk ((by rw [hg]; exact (below_size Yf_) : w.heap.size ≤ gb2)); have GE2 := Aside0.mk ((by rw [hg]; exact (below_size Yf_) : w.heap.size ≤ gb2)); replace HB := Aside0.mk (below_step Yf_ hb); have NB0_2 := Aside0.mk ((by rw [hg]; exact Nat.ne_of_lt (blk_lt (g := gb0) (o := .cells #[.int .i64 a0_0, .int .i64 a0_1, .int .i64 a0_2] 42 (0, 0)) Yc_) : gb0 ≠ gb2)); have NB2_0 := Aside0.mk ((by rw [hg]; exact Nat.ne_of_gt (blk_lt (g := gb0) (o := .cells #[.int .i64 a0_0, .int .i64 a0_1, .int .i64 a0_2] 42 (0, 0)) Yc_) : gb2 ≠ gb0)); replace BK0 := Aside0.mk (blk_below (g := gb0) (o := .cells #[.int .i64 a0_0, .int .i64 a0_1, .int .i64 a0_2] 42 (0, 0)) Yc_ hb); have NB1_2 := Aside0.mk ((by rw [hg]; exact Nat.ne_of_lt (blk_lt (g := gb1) (o := .cells #[.int .i64 0, .int .i64 0, .int .i64 0] 43 (0, 0)) Yg_) : gb1 ≠ gb2)); have NB2_1 := Aside0.mk ((by rw [hg]; exact Nat.ne_of_gt (blk_lt (g := gb1) (o := .cells #[.int .i64 0, .int .i64 0, .int .i64 0] 43 (0, 0)) Yg_) : gb2 ≠ gb1)); replace BK1 := Aside0.mk (blk_below (g := gb1) (o := .cells #[.int .i64 0, .int .i64 0, .int .i64 0] 43 (0, 0)) Yg_ hb); clear hb hbox hg; have hnb5 := NB0_1.out; have hnc5 := NB1_0.out; have hnb6 := NB0_2.out; have hnc6 := NB2_0.out; obtain ⟨hcz7_0, hcz7_1, hcz7_2⟩ := cl3_ BK0.out; obtain ⟨hfz7_0, hfz7_1, hfz7_2⟩ := fz3_ BK0.out; have hnb8 := NB2_1.out; have hnc8 := NB1_2.out; obtain ⟨hcz9_0, hcz9_1, hcz9_2⟩ := cl3_ BK2.out; obtain ⟨hfz9_0, hfz9_1, hfz9_2⟩ := fz3_ BK2.out; obtain ⟨hcz10_0, hcz10_1, hcz10_2⟩ := cl3_ BK1.out; obtain ⟨hfz10_0, hfz10_1, hfz10_2⟩ := fz3_ BK1.out))
 refine bodyPost_ret (results_cell_row rfl _ _ gb1 43 #[.int .i64 a0_0, .int .i64 a0_1, .int .i64 a0_2] (0, 0) _ rfl (by (with_reducible repeat (first | apply blk_drewN | apply blk_drew | apply blk_alloc)); refine blk_put (cs := #[.int .i64 a0_0, .int .i64 a0_1, .int .i64 0]) ?_ 2 _ rfl; (with_reducible repeat (first | apply blk_drewN | apply blk_drew | apply blk_alloc)); refine blk_put (cs := #[.int .i64 a0_0, .int .i64 0, .int .i64 0]) ?_ 1 _ rfl; (with_reducible repeat (first | apply blk_drewN | apply blk_drew | apply blk_alloc)); refine blk_put (cs := #[.int .i64 0, .int .i64 0, .int .i64 0]) ?_ 0 _ rfl; (with_reducible repeat (first | apply blk_drewN | apply blk_drew | apply blk_alloc)); refine Ai ?_ NB1_2.out _; (with_reducible repeat (first | apply blk_drewN | apply blk_drew | apply blk_alloc)); refine Ai ?_ NB1_2.out _; (with_reducible repeat (first | apply blk_drewN | apply blk_drew | apply blk_alloc)); refine Ai ?_ NB1_2.out _; (with_reducible repeat (first | apply blk_drewN | apply blk_drew | apply blk_alloc)); exact BK1.out) Try.underlying43 rfl Ybb_) rfl ?_
 exact ⟨Yi_, Ye_⟩
def Aw.l0 : Nat → List (S42) → List (S43) → Int → Option ((List (S43)))
 | 0, _, _, _ => none
 | k + 1, x0, x3, x4 => if x4 < (x0.length : Int) then (if 0 ≤ x4 then ((Gi.f ((Fj x0 x4).f0) ((Fj x0 x4).f1) ((Fj x0 x4).f2)).bind fun bt715 => (if x4 < (x3.length : Int) then (Aw.l0 k x0 (x3.set (x4 : Int).toNat (⟨bt715.1, bt715.2.1, bt715.2.2⟩ : S43)) (wrap64 (x4 + 1))) else (none))) else (none)) else (some x3)
def Aw.f (k : Nat) (l0 : List (S42)) : Option ((List (S43))) := if 0 ≤ (l0.length : Int) then (if ((l0.length : Int) : Int).toNat ≤ 11728124029610 then (Aw.l0 k l0 (List.replicate ((l0.length : Int) : Int).toNat z43) 0) else (none)) else (none)
theorem Aw.mono_l : ∀ k, (∀ y0 y1 y2, LeO (Aw.l0 k y0 y1 y2) (Aw.l0 (k + 1) y0 y1 y2))
 | 0 => fun _ _ _ r h => by simp [Aw.l0] at h
 | k + 1 => by
  have ih0 := Aw.mono_l k
  ·intro y0 y1 y2
   unfold Aw.l0
   repeat' first
   | (with_reducible exact ih0 _ _ _)
   | (with_reducible exact LeO.refl _)
   | (with_reducible exact LeO.none _)
   | (with_reducible refine LeO.ite ?_ ?_)
   | (with_reducible refine LeO.bind ?_ (fun _ => ?_))
   | exact ih0 _ _ _
   | exact LeO.none _
   | refine LeO.ite ?_ ?_
   | refine LeO.bind ?_ (fun _ => ?_)
theorem Aw.mono : ∀ a0 k, LeO (Aw.f k a0) (Aw.f (k + 1) a0) := by
 intro a0 k
 have ih0 := Aw.mono_l k
 unfold Aw.f
 repeat' first
   | (with_reducible exact ih0 _ _ _)
   | (with_reducible exact LeO.refl _)
   | (with_reducible exact LeO.none _)
   | (with_reducible refine LeO.ite ?_ ?_)
   | (with_reducible refine LeO.bind ?_ (fun _ => ?_))
   | exact ih0 _ _ _
   | exact LeO.none _
   | refine LeO.ite ?_ ?_
   | refine LeO.bind ?_ (fun _ => ?_)
set_option maxHeartbeats 8000000 in
set_option maxRecDepth 100000 in
theorem Aw.calls (k : Nat) (A0 : Option Addr) (c0 : Nat) (l0 : List (S42)) (r : List (S43)) (w : World) (hr0 : Kd.C k42 w A0 l0.length l0) (hc0 : l0.length ≤ c0) (h : Aw.f k l0 = some r) :
  Calls Try.prog 35 #[.slice A0 l0.length c0] w fun e w' => ∃ v0_ : Value, e = .returned (v0_) ∧ Kd.R k43 43 w' w.heap.size (fun _ => True) v0_ r ∧ Below w.heap.size w w' := by
 have hu42 := Try.underlying42
 have hu43 := Try.underlying43
 have HR0 := Aside0.mk hr0
 have HC0 := Aside0.mk hc0
 clear hr0 hc0
 have HB := Aside0.mk (Below.refl w.heap.size w)
 have H : (if 0 ≤ (l0.length : Int) then (if ((l0.length : Int) : Int).toNat ≤ 11728124029610 then (Aw.l0 k l0 (List.replicate ((l0.length : Int) : Int).toNat z43) 0) else (none)) else (none)) = some r := h
 clear h
 by_cases c2 : 0 ≤ (l0.length : Int)
 ·rw [if_pos c2] at H
  have c2b0 := eq_true c2
  have c2b1 : decide (0 ≤ (l0.length : Int)) = true := decide_eq_true c2
  clear c2
  by_cases c3 : ((l0.length : Int) : Int).toNat ≤ 11728124029610
  ·rw [if_pos c3] at H
   have c3b0 := eq_true c3
   have c3b1 : decide (((l0.length : Int) : Int).toNat ≤ 11728124029610) = true := decide_eq_true c3
   clear c3
   obtain ⟨y711, hy711⟩ : ∃ y_ : List (S43), y_ = (List.replicate ((l0.length : Int) : Int).toNat z43) := ⟨_, rfl⟩
   replace H : (Aw.l0 k l0 y711 0) = some r := by first | (rw [hy711]; with_reducible exact H) | (have H2_ := (Option.bind_some _ _).symm.trans H; rw [hy711]; with_reducible exact H2_) | (have H2_ := (Option.bind_some _ _).symm.trans H; with_reducible exact H2_) | with_reducible exact H | (rw [hy711]; exact H) | exact H
   have Ny711 := Aside0.mk hy711
   clear hy711
   have H' := Aside0.mk H
   clear H
   go_enter Try.func35, Try.ntmps35
   go_wp2_with (first | ((with_reducible refine gate_dst (N := 7) rfl ?_); refine Kd.R_make k43 _ 43 rfl (N := 7) rfl 52 _ _ rfl (l0.length : Int) rfl rfl Try.underlying52 (.agg #[(.int .i64 0), (.int .i64 0), (.int .i64 0)]) 24 info43 rfl (by decide) (by omega) z43 (ok := fun _ => True) (okp := fun _ => True) (k43_mkM _ _ _ z43 ) (fun _ hk => hk) trivial (of_decide_eq_true Yh_) (Nat.le_trans (Nat.mul_le_mul_right _ (of_decide_eq_true Yh_ : (l0.length : Int).toNat ≤ 11728124029610)) (by omega)) (Below.refl _ _) (Nat.le_refl _) ?_; intro v712 w4 ho5 hb hg_ hnew_; clear hg_ hnew_; (first | rw [← Ny711.out] at ho5 | (simp only [Int.reduceToNat] at ho5; rw [← Ny711.out] at ho5)); have HO713 := Aside0.mk (Kd.R_lower ho5 (below_size Yb_)); replace HB := Aside0.mk (below_step Yb_ hb); clear hb ho5))
   go_loopg [4] k (fun kq v4 w' => ∃ (x3_1 : List (S43)) (x4_1 : Int), v4 = .int .i64 x4_1 ∧ Aside0 (Aw.l0 kq l0 x3_1 x4_1 = some r) ∧ Aside0 (kq ≤ k) ∧ Aside0 (Kd.R k43 43 w' w.heap.size (fun _ => True) v712 x3_1) ∧ Aside0 (Below w.heap.size w w'))
   case atStart => exact ⟨(y711), (0), Ybe_, H', ⟨Nat.le_refl _⟩, ⟨by (with_reducible repeat (first | apply Kd.R_alloc | apply Kd.R_drewN | apply Kd.R_drew)); exact HO713.out⟩, ⟨by repeat (first | (with_reducible first | exact HB.out | apply below_alloc | apply pw_below_drewN | apply below_drew1) | exact HB.out)⟩⟩
   case round =>
    clear H'
    try clear c2; try clear c2b0; try clear c2b1; try clear p2; try clear c3; try clear c3b0; try clear c3b1
    obtain ⟨x3_1, x4_1, rfl, HA, HK1, HO_3, HB⟩ := hrel
    cases gk with
    | zero => exact absurd HA.out (by simp [Aw.l0])
    | succ k1 =>
     have H := HA.out
     clear HA
     simp only [Aw.l0] at H
     by_cases c6 : x4_1 < (l0.length : Int)
     ·rw [if_pos c6] at H
      have c6b0 : decide (x4_1 < (l0.length : Int)) = true := decide_eq_true c6
      clear c6
      by_cases c7 : 0 ≤ x4_1
      ·rw [if_pos c7] at H
       have c7b0 : decide (0 ≤ x4_1) = true := decide_eq_true c7
       clear c7
       replace H := Option.bind_eq_some_iff.mp H
       obtain ⟨⟨t715, t716, t717⟩, A80, H⟩ := H
       try dsimp only at H
       have A8 := Aside0.mk A80
       clear A80
       by_cases c9 : x4_1 < (x3_1.length : Int)
       ·rw [if_pos c9] at H
        have c9b0 : decide (x4_1 < (x3_1.length : Int)) = true := decide_eq_true c9
        clear c9
        obtain ⟨y718, hy718⟩ : ∃ y_ : List (S43), y_ = (x3_1.set (x4_1 : Int).toNat (⟨t715, t716, t717⟩ : S43)) := ⟨_, rfl⟩
        replace H : (Aw.l0 k1 l0 y718 (wrap64 (x4_1 + 1))) = some r := by first | (rw [hy718]; with_reducible exact H) | (have H2_ := (Option.bind_some _ _).symm.trans H; rw [hy718]; with_reducible exact H2_) | (have H2_ := (Option.bind_some _ _).symm.trans H; with_reducible exact H2_) | with_reducible exact H | (rw [hy718]; exact H) | exact H
        have Ny718 := Aside0.mk hy718
        clear hy718
        have H' := Aside0.mk H
        clear H
        have p714 : 0 ≤ (x4_1 : Int) := of_decide_eq_true Yh_
        have q714 : x4_1 < (l0.length : Int) := of_decide_eq_true Yh_
        obtain ⟨ad714, e714, hx714_0, hx714_1, hx714_2⟩ := at_T42 HR0.out x4_1 p714 q714
        cases e714
        replace hx714_0 := (HB.out.cell (World.block_lt_of_cell? w _ hx714_0)).trans hx714_0
        replace hx714_1 := (HB.out.cell (World.block_lt_of_cell? w _ hx714_1)).trans hx714_1
        replace hx714_2 := (HB.out.cell (World.block_lt_of_cell? w _ hx714_2)).trans hx714_2
        replace p714 := eq_true p714
        replace q714 := eq_true q714
        go_wp2_with (first | (go_at_call 18; (with_reducible refine (Gi.calls ((Fj l0 x4_1).f0) ((Fj l0 x4_1).f1) ((Fj l0 x4_1).f2) t715 t716 t717 _ A8.out).mono ?_); rintro e w11 ⟨rfl, hb⟩; replace HO_3 := Aside0.mk (Kd.Cb Ydc_ hb); replace HB := Aside0.mk (below_step Yb_ hb); (try clear hb); (try clear hb2); (try clear hk); (try clear hi); have p10 : 0 ≤ (x4_1 : Int) := of_decide_eq_true Yh_; have q10 : (x4_1 : Int) < ((x3_1.length : Int) : Int) := of_decide_eq_true Yh_; obtain ⟨go10, co10, eo10, gb10, gl10, cl10, HG10⟩ := Kd.R_form HO_3.out (by omega); (first | cases eo10 | (injection eo10 with ea_ en_ ec_; (first | subst ea_ | (injection ea_ with ea_; subst ea_)); subst ec_; clear en_)); have GB10 := Aside0.mk gb10; have GG10 := Aside0.mk HG10; clear gb10 gl10 HG10; obtain ⟨ce10, hcl10, hM10, hcc10, hfr10⟩ := Kd.R_elem HO_3.out z43 (x4_1 : Int) p10 q10; obtain rfl := F7 hM10; have hx10_0 : w11.cell? ⟨go10, (x4_1 : Int).toNat * 3, none⟩ = some (.int .i64 ((Aa x3_1 x4_1).f0)) := hcc10 0 _ rfl; have hx10_1 : w11.cell? ⟨go10, (x4_1 : Int).toNat * 3 + 1, none⟩ = some (.int .i64 ((Aa x3_1 x4_1).f1)) := hcc10 1 _ rfl; have hx10_2 : w11.cell? ⟨go10, (x4_1 : Int).toNat * 3 + 2, none⟩ = some (.int .i64 ((Aa x3_1 x4_1).f2)) := hcc10 2 _ rfl; have hf10_0 : w11.frozen? ⟨go10, (x4_1 : Int).toNat * 3, none⟩ = false := hfr10 0; have hf10_1 : w11.frozen? ⟨go10, (x4_1 : Int).toNat * 3 + 1, none⟩ = false := hfr10 1; have hf10_2 : w11.frozen? ⟨go10, (x4_1 : Int).toNat * 3 + 2, none⟩ = false := hfr10 2; (try clear hcl10); (try clear hcc10); (try clear hfr10); (try clear hM10); replace p10 := eq_true p10; replace q10 := eq_true q10; have HX12 := Aside0.mk (show Kd.R k43 43 w11 w.heap.size (fun _ => True) (.slice (some ⟨go10, 0, none⟩) x3_1.length co10) x3_1 from Ydc_); obtain ⟨ce12, hcl12, hM12, hcc12, hfr12⟩ := Kd.R_elem HX12.out z43 (x4_1 : Int) (of_decide_eq_true Yh_) (by have h_ : (x4_1 : Int) < ((x3_1.length : Int) : Int) := of_decide_eq_true Yh_; first | exact h_ | (have e_ := (Kd.Bo HO_3.out).1; omega) | simpa using h_); obtain rfl := F7 hM12; have HP12 := Kd.R_seg HX12.out (x4_1 : Int) (of_decide_eq_true Yh_) (by have h_ : (x4_1 : Int) < ((x3_1.length : Int) : Int) := of_decide_eq_true Yh_; first | exact h_ | (have e_ := (Kd.Bo HO_3.out).1; omega) | simpa using h_) (seg := [.int .i64 t715, .int .i64 t716, .int .i64 t717]) (j := 0) hcl12 hcc12 (show 3 ≤ 3 from by decide) (x' := (⟨t715, t716, t717⟩ : S43)) (k43_mkM _ _ _ (⟨t715, t716, t717⟩ : S43) ) (fun _ hk => hk); have hx12_0 := hcc12 0 _ rfl; (try simp only [show (k43).sz = 3 from rfl, Nat.mul_one, Nat.add_zero] at hx12_0); have hf12_0 := hfr12 0; (try simp only [show (k43).sz = 3 from rfl, Nat.mul_one, Nat.add_zero] at hf12_0); have hx12_1 := hcc12 1 _ rfl; (try simp only [show (k43).sz = 3 from rfl, Nat.mul_one, Nat.add_zero] at hx12_1); have hf12_1 := hfr12 1; (try simp only [show (k43).sz = 3 from rfl, Nat.mul_one, Nat.add_zero] at hf12_1); have hx12_2 := hcc12 2 _ rfl; (try simp only [show (k43).sz = 3 from rfl, Nat.mul_one, Nat.add_zero] at hx12_2); have hf12_2 := hfr12 2; (try simp only [show (k43).sz = 3 from rfl, Nat.mul_one, Nat.add_zero] at hf12_2); clear hcl12 hcc12 hfr12 hM12) | ((with_reducible refine gate_store (t := 43) (p := 21) rfl ?_); refine Ei (t := 43) (p := 21) (v := ?vo_w13) (w1 := (((w11.setCell ⟨go10, (x4_1 : Int).toNat * 3, none⟩ (.int .i64 t715)).setCell ⟨go10, (x4_1 : Int).toNat * 3 + 1, none⟩ (.int .i64 t716)).setCell ⟨go10, (x4_1 : Int).toNat * 3 + 2, none⟩ (.int .i64 t717))) ?hg ?ho ?hn ?hr ?_; (case ho => rfl); (case hg => rfl); (case hn => rfl); (case hr => first | (go_simp; done) | (go_simp; rfl)); intro w13 hw; have hg : w11.grownBy w13 (some go10) := (by rw [hw]; exact HP12.2); have hp_ : Kd.R k43 43 w13 w.heap.size (fun _ => True) (.slice (some ⟨go10, 0, none⟩) x3_1.length co10) y718 := (by rw [hw, Ny718.out]; exact HP12.1); clear HP12; replace HO_3 := Aside0.mk (hp_); replace HB := Aside0.mk ((by rw [hw]; exact below_set (below_set (below_set (HB.out) GB10.out) GB10.out) GB10.out : Below w.heap.size w w13)); clear hg hw hp_))
        go_roundg k1
        case measure => have := HK1.out; omega
        case rel => exact ⟨(y718), (wrap64 (x4_1 + 1)), Ybe_, H', ⟨by have := HK1.out; omega⟩, ⟨by (with_reducible repeat (first | apply Kd.R_alloc | apply Kd.R_drewN | apply Kd.R_drew)); exact HO_3.out⟩, ⟨by repeat (first | (with_reducible first | exact HB.out | apply below_alloc | apply pw_below_drewN | apply below_drew1) | exact HB.out)⟩⟩
       ·rw [if_neg c9] at H
        exact absurd H (by simp)
      ·rw [if_neg c7] at H
       exact absurd H (by simp)
     ·rw [if_neg c6] at H
      have c6b0 : decide (x4_1 < (l0.length : Int)) = false := decide_eq_false c6
      clear c6
      obtain rfl := Option.some.inj H
      go_wp2
      go_ret
      exact ⟨_, Yi_, Ydc_, Yb_⟩
  ·rw [if_neg c3] at H
   exact absurd H (by simp)
 ·rw [if_neg c2] at H
  exact absurd H (by simp)
end Go.Proofs.Ytnggfglmjdiaaaa.X

