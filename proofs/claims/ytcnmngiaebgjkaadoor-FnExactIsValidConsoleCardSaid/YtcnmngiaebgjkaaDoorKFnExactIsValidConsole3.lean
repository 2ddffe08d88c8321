/- Texts that the proof of the law FnExactIsValidConsole leans on, part 4 of 6. -/
import Derived.WalkKit
import Derived.Maps.OwnOps
import Derived.Maps.Views
import Derived.Deep.Draws
import Derived.Shelf.Small.Utf8
import Derived.Shelf.Small.Strs
import Derived.Shelf.Strconv.Itoa0
import Derived.Shelf.Strconv.Itoa1
import Derived.Shelf.LaysM
import Derived.Shelf.Strconv.Itoa2
import Derived.Shelf.Strconv.Itoa3
import Derived.Shelf.Strings.Search1
import Derived.Shelf.Strings.Search2
import Derived.Shelf.Strings.Search3
import Derived.Shelf.Strings.Cut
import Derived.Shelf.Strings.Shaped
import Derived.Shelf.Strings.Runes
import Derived.Shelf.Strings.IndexAny
import Derived.Shelf.Strings.AsciiSet
import Derived.Shelf.Strings.IndexAnyAll
import Derived.Test.YtcnmngiaebgjkaaDoorProg
import Derived.Test.YtcnmngiaebgjkaaDoorKFnExactIsValidConsole1
import Derived.Test.YtcnmngiaebgjkaaDoorKFnExactIsValidConsole2
set_option linter.unusedVariables false
set_option linter.unusedSimpArgs false
namespace Go.Proofs.YtcnmngiaebgjkaaDoor.X
open Go.RowKit Go.Proofs.YtcnmngiaebgjkaaDoorW.PrintWords Go.Proofs.YtcnmngiaebgjkaaDoorW.PrintLast Go.Proofs.YtcnmngiaebgjkaaDoorW.PrintMore
attribute [local go_sem] Dn Dk D5 Dz Cj Cm Dj Dl
open Go.Proofs.YtcnmngiaebgjkaaDoorG
def Gi.f (k : Nat) (l0_0 : List (List Int)) (a0_1 : Int) (l0_2 : List (List Int)) : Option ((List (List Int)) × Int × (List (List Int))) := (Hu.f k l0_0).bind fun t247 => ((Hw.f k a0_1 l0_2).bind fun bt250 => (some (t247, bt250.1, bt250.2)))
theorem Gi.mono : ∀ a0 a1 a2 k, LeO (Gi.f k a0 a1 a2) (Gi.f (k + 1) a0 a1 a2) := by
  intro a0 a1 a2 k
  unfold Gi.f
  repeat' first
      | (with_reducible exact Hw.mono _ _ _)
      | (with_reducible exact Hu.mono _ _)
      | (with_reducible exact LeO.refl _)
      | (with_reducible exact LeO.none _)
      | (with_reducible refine LeO.ite ?_ ?_)
      | (with_reducible refine LeO.bind ?_ (fun _ => ?_))
      | exact Hw.mono _ _ _
      | exact Hu.mono _ _
      | exact LeO.none _
      | refine LeO.ite ?_ ?_
      | refine LeO.bind ?_ (fun _ => ?_)
set_option maxHeartbeats 8000000 in
set_option maxRecDepth 100000 in
theorem Gi.calls (k : Nat) (A0_0 : Option Addr) (c0_0 : Nat) (l0_0 : List (List Int)) (a0_1 : Int) (A0_2 : Option Addr) (c0_2 : Nat) (l0_2 : List (List Int)) (r1 : List (List Int)) (r2 : Int) (r3 : List (List Int)) (w : World) (hr0_0 : Kd.C (Kd.slice 3 (Kd.int .i64)) w A0_0 l0_0.length l0_0) (hc0_0 : l0_0.length ≤ c0_0) (hr0_2 : Kd.C (Kd.slice 3 (Kd.int .i64)) w A0_2 l0_2.length l0_2) (hc0_2 : l0_2.length ≤ c0_2) (h : Gi.f k l0_0 a0_1 l0_2 = some (r1, r2, r3)) :
    Calls Tryd.prog 12 #[.agg #[.slice A0_0 l0_0.length c0_0, .int .i64 a0_1, .slice A0_2 l0_2.length c0_2]] w fun e w' => ∃ v0_ v2_ : Value, e = .returned (.agg #[v0_, .int .i64 r2, v2_]) ∧ Kd.S (Kd.slice 3 (Kd.int .i64)) 59 w' w.heap.size (fun k_ => some k_ ≠ (v2_ : Value).ownBlock) v0_ r1 ∧ Kd.S (Kd.slice 3 (Kd.int .i64)) 59 w' w.heap.size (fun k_ => some k_ ≠ (v0_ : Value).ownBlock) v2_ r3 ∧ Below w.heap.size w w' := by
  have hu28 := Tryd.underlying28
  have hu38 := Tryd.underlying38
  have hu24 := Tryd.underlying24
  have hu35 := Tryd.underlying35
  have hu26 := Tryd.underlying26
  have hu36 := Tryd.underlying36
  have HR0_0 := Ac.mk hr0_0
  have HC0_0 := Ac.mk hc0_0
  clear hr0_0 hc0_0
  have HR0_2 := Ac.mk hr0_2
  have HC0_2 := Ac.mk hc0_2
  clear hr0_2 hc0_2
  have HB := Ac.mk (Below.refl w.heap.size w)
  have H : ((Hu.f k l0_0).bind fun t247 => ((Hw.f k a0_1 l0_2).bind fun bt250 => (some (t247, bt250.1, bt250.2)))) = some (r1, r2, r3) := h
  clear h
  replace H := Option.bind_eq_some_iff.mp H
  obtain ⟨t247, A20, H⟩ := H
  replace H : ((Hw.f k a0_1 l0_2).bind fun bt250 => (some (t247, bt250.1, bt250.2))) = some (r1, r2, r3) := H
  have A2 := Ac.mk A20
  clear A20
  replace H := Option.bind_eq_some_iff.mp H
  obtain ⟨⟨t250, t251⟩, A30, H⟩ := H
  replace H : (some (t247, t250, t251)) = some (r1, r2, r3) := H
  have A3 := Ac.mk A30
  clear A30
  simp only [Option.some.injEq, Prod.mk.injEq] at H
  obtain ⟨rfl, rfl, rfl⟩ := H
  go_enter Tryd.func12, Tryd.ntmps12
  go_wp2_with (first | ((with_reducible refine Bd (N := 1) rfl ?_); refine Bc ?hg (N := 1) ?hd (cs := #[.slice A0_0 l0_0.length c0_0, .int .i64 a0_1, .slice A0_2 l0_2.length c0_2]) (t := 28) ?hr ?_; (case hd => rfl); (case hg => rfl); (case hr => first | (go_simp; done) | (go_simp; rfl)); intro gb244 hg w4 hbox hb; have n0_ := Ac.mk (Ap (by repeat (first | (with_reducible first | exact HB.out | apply Ad | apply Aa | apply Ae) | exact HB.out)) hb); have n1_ := Ac.mk (hbox); have n2_ := Ac.mk ((by rw [hg]; exact (Am (by repeat (first | (with_reducible first | exact HB.out | apply Ad | apply Aa | apply Ae) | exact HB.out))) : w.heap.size ≤ gb244)); have n3_ := Ac.mk ((by rw [hg]; exact (Am (by repeat (first | (with_reducible first | exact HB.out | apply Ad | apply Aa | apply Ae) | exact HB.out))) : w.heap.size ≤ gb244)); clear HB; have HB := n0_; have BK244 := n1_; have GW244 := n2_; have GE244 := n3_; clear n0_ n1_ n2_ n3_; clear hb hbox hg) | ((with_reducible refine Bd (N := 2) rfl ?_); refine Bc ?hg (N := 2) ?hd (cs := #[.slice none 0 0, .int .i64 0, .slice none 0 0]) (t := 38) ?hr ?_; (case hd => rfl); (case hg => rfl); (case hr => first | (go_simp; done) | (go_simp; rfl)); intro gb245 hg w5 hbox hb; have n0_ := Ac.mk (Az (g := gb244) (o := .cells #[.slice A0_0 l0_0.length c0_0, .int .i64 a0_1, .slice A0_2 l0_2.length c0_2] 28 (0, 0)) (by (with_reducible repeat (first | refine Aj ?_ _ | refine Ak ?_ | refine Ai ?_ _)); exact BK244.out) hb); have n1_ := Ac.mk (Ap (by repeat (first | (with_reducible first | exact HB.out | apply Ad | apply Aa | apply Ae | refine Ah ?_ GE244.out) | exact HB.out)) hb); have n2_ := Ac.mk (hbox); have n3_ := Ac.mk ((by rw [hg]; exact (Am (by repeat (first | (with_reducible first | exact HB.out | apply Ad | apply Aa | apply Ae | refine Ah ?_ GE244.out) | exact HB.out))) : w.heap.size ≤ gb245)); have n4_ := Ac.mk ((by rw [hg]; exact (Am (by repeat (first | (with_reducible first | exact HB.out | apply Ad | apply Aa | apply Ae | refine Ah ?_ GE244.out) | exact HB.out))) : w.heap.size ≤ gb245)); have n5_ := Ac.mk ((by rw [hg]; exact Nat.ne_of_lt (Dv (g := gb244) (o := .cells #[.slice A0_0 l0_0.length c0_0, .int .i64 a0_1, .slice A0_2 l0_2.length c0_2] 28 (0, 0)) (by (with_reducible repeat (first | refine Aj ?_ _ | refine Ak ?_ | refine Ai ?_ _)); exact BK244.out)) : gb244 ≠ gb245)); have n6_ := Ac.mk ((by rw [hg]; exact Nat.ne_of_gt (Dv (g := gb244) (o := .cells #[.slice A0_0 l0_0.length c0_0, .int .i64 a0_1, .slice A0_2 l0_2.length c0_2] 28 (0, 0)) (by (with_reducible repeat (first | refine Aj ?_ _ | refine Ak ?_ | refine Ai ?_ _)); exact BK244.out)) : gb245 ≠ gb244)); clear BK244; clear HB; have BK244 := n0_; have HB := n1_; have BK245 := n2_; have GW245 := n3_; have GE245 := n4_; have NB244_245 := n5_; have NB245_244 := n6_; clear n0_ n1_ n2_ n3_ n4_ n5_ n6_; clear hb hbox hg) | ((with_reducible refine Bd (N := 3) rfl ?_); refine Bc ?hg (N := 3) ?hd (cs := #[.slice none 0 0, .int .i64 0, .slice none 0 0]) (t := 38) ?hr ?_; (case hd => rfl); (case hg => rfl); (case hr => first | (go_simp; done) | (go_simp; rfl)); intro gb246 hg w6 hbox hb; have n0_ := Ac.mk (Az (g := gb244) (o := .cells #[.slice A0_0 l0_0.length c0_0, .int .i64 a0_1, .slice A0_2 l0_2.length c0_2] 28 (0, 0)) (by (with_reducible repeat (first | refine Aj ?_ _ | refine Ak ?_ | refine Ai ?_ _)); exact BK244.out) hb); have n1_ := Ac.mk (Az (g := gb245) (o := .cells #[.slice none 0 0, .int .i64 0, .slice none 0 0] 38 (0, 0)) (by (with_reducible repeat (first | refine Aj ?_ _ | refine Ak ?_ | refine Ai ?_ _)); exact BK245.out) hb); have n2_ := Ac.mk (Ap (by repeat (first | (with_reducible first | exact HB.out | apply Ad | apply Aa | apply Ae | refine Ah ?_ GE244.out | refine Ah ?_ GE245.out) | exact HB.out)) hb); have n3_ := Ac.mk (hbox); have n4_ := Ac.mk ((by rw [hg]; exact (Am (by repeat (first | (with_reducible first | exact HB.out | apply Ad | apply Aa | apply Ae | refine Ah ?_ GE244.out | refine Ah ?_ GE245.out) | exact HB.out))) : w.heap.size ≤ gb246)); have n5_ := Ac.mk ((by rw [hg]; exact (Am (by repeat (first | (with_reducible first | exact HB.out | apply Ad | apply Aa | apply Ae | refine Ah ?_ GE244.out | refine Ah ?_ GE245.out) | exact HB.out))) : w.heap.size ≤ gb246)); have n6_ := Ac.mk ((by rw [hg]; exact Nat.ne_of_lt (Dv (g := gb244) (o := .cells #[.slice A0_0 l0_0.length c0_0, .int .i64 a0_1, .slice A0_2 l0_2.length c0_2] 28 (0, 0)) (by (with_reducible repeat (first | refine Aj ?_ _ | refine Ak ?_ | refine Ai ?_ _)); exact BK244.out)) : gb244 ≠ gb246)); have n7_ := Ac.mk ((by rw [hg]; exact Nat.ne_of_gt (Dv (g := gb244) (o := .cells #[.slice A0_0 l0_0.length c0_0, .int .i64 a0_1, .slice A0_2 l0_2.length c0_2] 28 (0, 0)) (by (with_reducible repeat (first | refine Aj ?_ _ | refine Ak ?_ | refine Ai ?_ _)); exact BK244.out)) : gb246 ≠ gb244)); have n8_ := Ac.mk ((by rw [hg]; exact Nat.ne_of_lt (Dv (g := gb245) (o := .cells #[.slice none 0 0, .int .i64 0, .slice none 0 0] 38 (0, 0)) (by (with_reducible repeat (first | refine Aj ?_ _ | refine Ak ?_ | refine Ai ?_ _)); exact BK245.out)) : gb245 ≠ gb246)); have n9_ := Ac.mk ((by rw [hg]; exact Nat.ne_of_gt (Dv (g := gb245) (o := .cells #[.slice none 0 0, .int .i64 0, .slice none 0 0] 38 (0, 0)) (by (with_reducible repeat (first | refine Aj ?_ _ | refine Ak ?_ | refine Ai ?_ _)); exact BK245.out)) : gb246 ≠ gb245)); clear BK244; clear BK245; clear HB; have BK244 := n0_; have BK245 := n1_; have HB := n2_; have BK246 := n3_; have GW246 := n4_; have GE246 := n5_; have NB244_246 := n6_; have NB246_244 := n7_; have NB245_246 := n8_; have NB246_245 := n9_; clear n0_ n1_ n2_ n3_ n4_ n5_ n6_ n7_ n8_ n9_; clear hb hbox hg; have hnb7 := NB244_245.out; have hnc7 := NB245_244.out; have hnb8 := NB244_246.out; have hnc8 := NB246_244.out; have hcz9_0 : w6.cell? ⟨gb244, 0, none⟩ = some (.slice A0_0 l0_0.length c0_0) := (Ag BK244.out 0).trans rfl; have hcz9_1 : w6.cell? ⟨gb244, 1, none⟩ = some (.int .i64 a0_1) := (Ag BK244.out 1).trans rfl; have hcz9_2 : w6.cell? ⟨gb244, 2, none⟩ = some (.slice A0_2 l0_2.length c0_2) := (Ag BK244.out 2).trans rfl; have hfz9_0 := Af BK244.out 0; have hfz9_1 := Af BK244.out 1; have hfz9_2 := Af BK244.out 2) | ((with_reducible refine Aw (f := 22) rfl ?_); refine Be (some 6) rfl rfl Tryd.func22 (by kernel_rfl) rfl #[.agg #[.slice A0_0 l0_0.length c0_0]] rfl (by (try simp only [List.map_toArray, List.map_cons, List.map_nil]); first | done | rfl | (simp only [List.length_drop, List.length_take]; rfl)) ?_; (with_reducible refine (Hu.calls k _ _ l0_0 t247 _ ?side1 ?side2 A2.out).mono ?_); (case side1 => repeat (first | exact (Kd.C9 HR0_0.out HB.out) | (with_reducible refine Kd.Bl ?_ _) | (with_reducible refine Kd.Bj ?_ _) | (with_reducible refine Kd.Ce ?_))); (case side2 => exact HC0_0.out); rintro e w10 ⟨v248, rfl, ho0, hb⟩; refine ⟨_, rfl, ?_⟩; have n0_ := Ac.mk (Kd.Ik ho0 (Am (by repeat (first | (with_reducible first | exact HB.out | apply Ad | apply Aa | apply Ae | refine Ah ?_ GE244.out | refine Ah ?_ GE245.out | refine Ah ?_ GE246.out) | exact HB.out)))); have n1_ := Ac.mk (Az (g := gb244) (o := .cells #[.slice A0_0 l0_0.length c0_0, .int .i64 a0_1, .slice A0_2 l0_2.length c0_2] 28 (0, 0)) (by (with_reducible repeat (first | refine Aj ?_ _ | refine Ak ?_ | refine Ai ?_ _)); exact BK244.out) hb); have n2_ := Ac.mk (Az (g := gb245) (o := .cells #[.slice none 0 0, .int .i64 0, .slice none 0 0] 38 (0, 0)) (by (with_reducible repeat (first | refine Aj ?_ _ | refine Ak ?_ | refine Ai ?_ _)); exact BK245.out) hb); have n3_ := Ac.mk (Az (g := gb246) (o := .cells #[.slice none 0 0, .int .i64 0, .slice none 0 0] 38 (0, 0)) (by (with_reducible repeat (first | refine Aj ?_ _ | refine Ak ?_ | refine Ai ?_ _)); exact BK246.out) hb); have n4_ := Ac.mk (Ap (by repeat (first | (with_reducible first | exact HB.out | apply Ad | apply Aa | apply Ae | refine Ah ?_ GE244.out | refine Ah ?_ GE245.out | refine Ah ?_ GE246.out) | exact HB.out)) hb); clear BK244; clear BK245; clear BK246; clear HB; have HO249 := n0_; have BK244 := n1_; have BK245 := n2_; have BK246 := n3_; have HB := n4_; clear n0_ n1_ n2_ n3_ n4_; (try clear hb); (try clear hb2); (try clear hk); (try clear hi); (try clear ho0); obtain ⟨Ao11, co11, eo11⟩ := Kd.Iu HO249.out; subst eo11; have hnb12 := NB246_245.out; have hnc12 := NB245_246.out; have hcz13_0 : w10.cell? ⟨gb246, 0, none⟩ = some (.slice none 0 0) := (Ag BK246.out 0).trans rfl; have hcz13_1 : w10.cell? ⟨gb246, 1, none⟩ = some (.int .i64 0) := (Ag BK246.out 1).trans rfl; have hcz13_2 : w10.cell? ⟨gb246, 2, none⟩ = some (.slice none 0 0) := (Ag BK246.out 2).trans rfl; have hfz13_0 := Af BK246.out 0; have hfz13_1 := Af BK246.out 1; have hfz13_2 := Af BK246.out 2; have hcz14_0 : w10.cell? ⟨gb244, 0, none⟩ = some (.slice A0_0 l0_0.length c0_0) := (Ag BK244.out 0).trans rfl; have hcz14_1 : w10.cell? ⟨gb244, 1, none⟩ = some (.int .i64 a0_1) := (Ag BK244.out 1).trans rfl; have hcz14_2 : w10.cell? ⟨gb244, 2, none⟩ = some (.slice A0_2 l0_2.length c0_2) := (Ag BK244.out 2).trans rfl; have hfz14_0 := Af BK244.out 0; have hfz14_1 := Af BK244.out 1; have hfz14_2 := Af BK244.out 2) | ((with_reducible refine Aw (f := 23) rfl ?_); refine Be (some 10) rfl rfl Tryd.func23 (by kernel_rfl) rfl #[.agg #[.int .i64 a0_1, .slice A0_2 l0_2.length c0_2]] rfl (by (try simp only [List.map_toArray, List.map_cons, List.map_nil]); first | done | rfl | (simp only [List.length_drop, List.length_take]; rfl)) ?_; (with_reducible refine (Hw.calls k a0_1 _ _ l0_2 t250 t251 _ ?side1 ?side2 A3.out).mono ?_); (case side1 => exact Kd.C9 HR0_2.out (by repeat (first | (with_reducible first | exact HB.out | apply Ad | apply Aa | apply Ae | refine Ah ?_ GE244.out | refine Ah ?_ GE245.out | refine Ah ?_ GE246.out) | exact HB.out))); (case side2 => exact HC0_2.out); rintro e w15 ⟨v252, rfl, ho0, hb⟩; refine ⟨_, rfl, ?_⟩; have n0_ := Ac.mk (Kd.S_elder' (by (with_reducible repeat (first | apply Kd.Ey | apply Kd.Ew | apply Kd.Ez)); exact (Kd.Gy (Kd.Eo (p := ⟨gb246, 0, none⟩) (Kd.G8 HO249.out BK246.out (by decide)) (fun _ hk => hk.2) (.slice Ao11 t247.length co11)) (fun _ h_ => h_.1))) (Kd.I8 ho0) hb); have n1_ := Ac.mk (Kd.Ik (Kd.I7 ho0 (Kd.S_lt (by (with_reducible repeat (first | apply Kd.Ey | apply Kd.Ew | apply Kd.Ez)); exact (Kd.Gy (Kd.Eo (p := ⟨gb246, 0, none⟩) (Kd.G8 HO249.out BK246.out (by decide)) (fun _ hk => hk.2) (.slice Ao11 t247.length co11)) (fun _ h_ => h_.1))))) (Am (by repeat (first | (with_reducible first | exact HB.out | apply Ad | apply Aa | apply Ae | refine Ah ?_ GE244.out | refine Ah ?_ GE245.out | refine Ah ?_ GE246.out) | exact HB.out)))); have n2_ := Ac.mk (Az (g := gb244) (o := .cells #[.slice A0_0 l0_0.length c0_0, .int .i64 a0_1, .slice A0_2 l0_2.length c0_2] 28 (0, 0)) (by (with_reducible repeat (first | refine Aj ?_ _ | refine Ak ?_ | refine Ai ?_ _)); refine Fa ?_ NB244_246.out _; (with_reducible repeat (first | refine Aj ?_ _ | refine Ak ?_ | refine Ai ?_ _)); exact BK244.out) hb); have n3_ := Ac.mk (Az (g := gb245) (o := .cells #[.slice none 0 0, .int .i64 0, .slice none 0 0] 38 (0, 0)) (by (with_reducible repeat (first | refine Aj ?_ _ | refine Ak ?_ | refine Ai ?_ _)); refine Fa ?_ NB245_246.out _; (with_reducible repeat (first | refine Aj ?_ _ | refine Ak ?_ | refine Ai ?_ _)); exact BK245.out) hb); have n4_ := Ac.mk (Az (g := gb246) (o := .cells #[.slice Ao11 t247.length co11, .int .i64 0, .slice none 0 0] 38 (0, 0)) (by (with_reducible repeat (first | refine Aj ?_ _ | refine Ak ?_ | refine Ai ?_ _)); refine Ed (cs := #[.slice none 0 0, .int .i64 0, .slice none 0 0]) ?_ 0 _ rfl; (with_reducible repeat (first | refine Aj ?_ _ | refine Ak ?_ | refine Ai ?_ _)); exact BK246.out) hb); have n5_ := Ac.mk (Ap (by repeat (first | (with_reducible first | exact HB.out | apply Ad | apply Aa | apply Ae | refine Ah ?_ GE244.out | refine Ah ?_ GE245.out | refine Ah ?_ GE246.out) | exact HB.out)) hb); clear HO249; clear BK244; clear BK245; clear BK246; clear HB; have HO249 := n0_; have HO253 := n1_; have BK244 := n2_; have BK245 := n3_; have BK246 := n4_; have HB := n5_; clear n0_ n1_ n2_ n3_ n4_ n5_; (try clear hb); (try clear hb2); (try clear hk); (try clear hi); (try clear ho0); have hcz16_0 : w15.cell? ⟨gb246, 0, none⟩ = some (.slice Ao11 t247.length co11) := (Ag BK246.out 0).trans rfl; have hcz16_1 : w15.cell? ⟨gb246, 1, none⟩ = some (.int .i64 0) := (Ag BK246.out 1).trans rfl; have hcz16_2 : w15.cell? ⟨gb246, 2, none⟩ = some (.slice none 0 0) := (Ag BK246.out 2).trans rfl; have hfz16_0 := Af BK246.out 0; have hfz16_1 := Af BK246.out 1; have hfz16_2 := Af BK246.out 2; obtain ⟨Ao17, co17, eo17⟩ := Kd.Iu HO253.out; subst eo17; have hcz18_0 : w15.cell? ⟨gb245, 0, none⟩ = some (.slice none 0 0) := (Ag BK245.out 0).trans rfl; have hcz18_1 : w15.cell? ⟨gb245, 1, none⟩ = some (.int .i64 0) := (Ag BK245.out 1).trans rfl; have hcz18_2 : w15.cell? ⟨gb245, 2, none⟩ = some (.slice none 0 0) := (Ag BK245.out 2).trans rfl; have hfz18_0 := Af BK245.out 0; have hfz18_1 := Af BK245.out 1; have hfz18_2 := Af BK245.out 2))
  refine bodyPost_ret (results_cell_row rfl _ _ gb245 38 #[.slice Ao11 t247.length co11, .int .i64 t250, .slice Ao17 t251.length co17] (0, 0) _ rfl (by (with_reducible repeat (first | refine Aj ?_ _ | refine Ak ?_ | refine Ai ?_ _)); refine Ed (cs := #[.slice Ao11 t247.length co11, .int .i64 t250, .slice none 0 0]) ?_ 2 _ rfl; (with_reducible repeat (first | refine Aj ?_ _ | refine Ak ?_ | refine Ai ?_ _)); refine Ed (cs := #[.slice Ao11 t247.length co11, .int .i64 0, .slice none 0 0]) ?_ 1 _ rfl; (with_reducible repeat (first | refine Aj ?_ _ | refine Ak ?_ | refine Ai ?_ _)); refine Ed (cs := #[.slice none 0 0, .int .i64 0, .slice none 0 0]) ?_ 0 _ rfl; (with_reducible repeat (first | refine Aj ?_ _ | refine Ak ?_ | refine Ai ?_ _)); refine Fa ?_ NB245_246.out _; (with_reducible repeat (first | refine Aj ?_ _ | refine Ak ?_ | refine Ai ?_ _)); refine Fa ?_ NB245_246.out _; (with_reducible repeat (first | refine Aj ?_ _ | refine Ak ?_ | refine Ai ?_ _)); exact BK245.out) Tryd.underlying38 rfl (by kernel_rfl)) rfl ?_
  exact ⟨_, _, by first | rfl | (simp [Aq, Au] <;> rfl) | (simp [*, Aq, Au] <;> rfl), by (with_reducible repeat (first | apply Kd.Ey | apply Kd.Ew | apply Kd.Ez)); exact Kd.Gy (Kd.Eo (p := ⟨gb245, 2, none⟩) (Kd.Eo (p := ⟨gb245, 1, none⟩) (Kd.Eo (p := ⟨gb245, 0, none⟩) (Kd.Eo (p := ⟨gb246, 2, none⟩) (Kd.Eo (p := ⟨gb246, 1, none⟩) (Kd.G8 (Kd.G8 HO249.out BK246.out (by decide)) BK245.out (by decide)) (fun _ hk => hk.1.2) (.int .i64 t250)) (fun _ hk => hk.1.2) (.slice Ao17 t251.length co17)) (fun _ hk => hk.2) (.slice Ao11 t247.length co11)) (fun _ hk => hk.2) (.int .i64 t250)) (fun _ hk => hk.2) (.slice Ao17 t251.length co17)) (fun _ hk => hk.1.1.2), by (with_reducible repeat (first | apply Kd.Ey | apply Kd.Ew | apply Kd.Ez)); exact Kd.Gy (Kd.Eo (p := ⟨gb245, 2, none⟩) (Kd.Eo (p := ⟨gb245, 1, none⟩) (Kd.Eo (p := ⟨gb245, 0, none⟩) (Kd.Eo (p := ⟨gb246, 2, none⟩) (Kd.Eo (p := ⟨gb246, 1, none⟩) (Kd.G8 (Kd.G8 HO253.out BK246.out (by decide)) BK245.out (by decide)) (fun _ hk => hk.1.2) (.int .i64 t250)) (fun _ hk => hk.1.2) (.slice Ao17 t251.length co17)) (fun _ hk => hk.2) (.slice Ao11 t247.length co11)) (fun _ hk => hk.2) (.int .i64 t250)) (fun _ hk => hk.2) (.slice Ao17 t251.length co17)) (fun _ hk => hk.1.1.2), by repeat (first | (with_reducible first | exact HB.out | apply Ad | apply Aa | apply Ae | refine Ah ?_ GE244.out | refine Ah ?_ GE245.out | refine Ah ?_ GE246.out) | exact HB.out)⟩
end Go.Proofs.YtcnmngiaebgjkaaDoor.X

namespace Go.Proofs.YtcnmngiaebgjkaaDoor.X
open Go.RowKit Go.Proofs.YtcnmngiaebgjkaaDoorW.PrintWords Go.Proofs.YtcnmngiaebgjkaaDoorW.PrintLast Go.Proofs.YtcnmngiaebgjkaaDoorW.PrintMore
attribute [local go_sem] Dn Dk D5 Dz Cj Cm Dj Dl
open Go.Proofs.YtcnmngiaebgjkaaDoorG
def Jg.f (a0_0 : ByteArray) (a0_1 : ByteArray) (a0_2 : Int) : Option (ByteArray × ByteArray × Int) := some (a0_0, a0_1, a0_2)
set_option maxHeartbeats 8000000 in
set_option maxRecDepth 100000 in
theorem Jg.calls (a0_0 : ByteArray) (a0_1 : ByteArray) (a0_2 : Int) (r1 : ByteArray) (r2 : ByteArray) (r3 : Int) (w : World) (h : Jg.f a0_0 a0_1 a0_2 = some (r1, r2, r3)) :
    Calls Tryd.prog 13 #[.agg #[.string a0_0, .string a0_1, .int .i64 a0_2]] w fun e w' => e = .returned (.agg #[.string r1, .string r2, .int .i64 r3]) ∧ Below w.heap.size w w' := by
  have hu30 := Tryd.underlying30
  have hu39 := Tryd.underlying39
  have HB := Ac.mk (Below.refl w.heap.size w)
  have H : (some (a0_0, a0_1, a0_2)) = some (r1, r2, r3) := h
  clear h
  simp only [Option.some.injEq, Prod.mk.injEq] at H
  obtain ⟨rfl, rfl, rfl⟩ := H
  go_enter Tryd.func13, Tryd.ntmps13
  go_wp2_with (first | ((with_reducible refine Bd (N := 1) rfl ?_); refine Bc ?hg (N := 1) ?hd (cs := #[.string a0_0, .string a0_1, .int .i64 a0_2]) (t := 30) ?hr ?_; (case hd => rfl); (case hg => rfl); (case hr => first | (go_simp; done) | (go_simp; rfl)); intro gb254 hg w2 hbox hb; have n0_ := Ac.mk (Ap (by repeat (first | (with_reducible first | exact HB.out | apply Ad | apply Aa | apply Ae) | exact HB.out)) hb); have n1_ := Ac.mk (hbox); have n2_ := Ac.mk ((by rw [hg]; exact (Am (by repeat (first | (with_reducible first | exact HB.out | apply Ad | apply Aa | apply Ae) | exact HB.out))) : w.heap.size ≤ gb254)); have n3_ := Ac.mk ((by rw [hg]; exact (Am (by repeat (first | (with_reducible first | exact HB.out | apply Ad | apply Aa | apply Ae) | exact HB.out))) : w.heap.size ≤ gb254)); clear HB; have HB := n0_; have BK254 := n1_; have GW254 := n2_; have GE254 := n3_; clear n0_ n1_ n2_ n3_; clear hb hbox hg) | ((with_reducible refine Bd (N := 2) rfl ?_); refine Bc ?hg (N := 2) ?hd (cs := #[.string (⟨#[]⟩ : ByteArray), .string (⟨#[]⟩ : ByteArray), .int .i64 0]) (t := 39) ?hr ?_; (case hd => rfl); (case hg => rfl); (case hr => first | (go_simp; done) | (go_simp; rfl)); intro gb255 hg w3 hbox hb; have n0_ := Ac.mk (Az (g := gb254) (o := .cells #[.string a0_0, .string a0_1, .int .i64 a0_2] 30 (0, 0)) (by (with_reducible repeat (first | refine Aj ?_ _ | refine Ak ?_ | refine Ai ?_ _)); exact BK254.out) hb); have n1_ := Ac.mk (Ap (by repeat (first | (with_reducible first | exact HB.out | apply Ad | apply Aa | apply Ae | refine Ah ?_ GE254.out) | exact HB.out)) hb); have n2_ := Ac.mk (hbox); have n3_ := Ac.mk ((by rw [hg]; exact (Am (by repeat (first | (with_reducible first | exact HB.out | apply Ad | apply Aa | apply Ae | refine Ah ?_ GE254.out) | exact HB.out))) : w.heap.size ≤ gb255)); have n4_ := Ac.mk ((by rw [hg]; exact (Am (by repeat (first | (with_reducible first | exact HB.out | apply Ad | apply Aa | apply Ae | refine Ah ?_ GE254.out) | exact HB.out))) : w.heap.size ≤ gb255)); have n5_ := Ac.mk ((by rw [hg]; exact Nat.ne_of_lt (Dv (g := gb254) (o := .cells #[.string a0_0, .string a0_1, .int .i64 a0_2] 30 (0, 0)) (by (with_reducible repeat (first | refine Aj ?_ _ | refine Ak ?_ | refine Ai ?_ _)); exact BK254.out)) : gb254 ≠ gb255)); have n6_ := Ac.mk ((by rw [hg]; exact Nat.ne_of_gt (Dv (g := gb254) (o := .cells #[.string a0_0, .string a0_1, .int .i64 a0_2] 30 (0, 0)) (by (with_reducible repeat (first | refine Aj ?_ _ | refine Ak ?_ | refine Ai ?_ _)); exact BK254.out)) : gb255 ≠ gb254)); clear BK254; clear HB; have BK254 := n0_; have HB := n1_; have BK255 := n2_; have GW255 := n3_; have GE255 := n4_; have NB254_255 := n5_; have NB255_254 := n6_; clear n0_ n1_ n2_ n3_ n4_ n5_ n6_; clear hb hbox hg) | ((with_reducible refine Bd (N := 3) rfl ?_); refine Bc ?hg (N := 3) ?hd (cs := #[.string (⟨#[]⟩ : ByteArray), .string (⟨#[]⟩ : ByteArray), .int .i64 0]) (t := 39) ?hr ?_; (case hd => rfl); (case hg => rfl); (case hr => first | (go_simp; done) | (go_simp; rfl)); intro gb256 hg w4 hbox hb; have n0_ := Ac.mk (Az (g := gb254) (o := .cells #[.string a0_0, .string a0_1, .int .i64 a0_2] 30 (0, 0)) (by (with_reducible repeat (first | refine Aj ?_ _ | refine Ak ?_ | refine Ai ?_ _)); exact BK254.out) hb); have n1_ := Ac.mk (Az (g := gb255) (o := .cells #[.string (⟨#[]⟩ : ByteArray), .string (⟨#[]⟩ : ByteArray), .int .i64 0] 39 (0, 0)) (by (with_reducible repeat (first | refine Aj ?_ _ | refine Ak ?_ | refine Ai ?_ _)); exact BK255.out) hb); have n2_ := Ac.mk (Ap (by repeat (first | (with_reducible first | exact HB.out | apply Ad | apply Aa | apply Ae | refine Ah ?_ GE254.out | refine Ah ?_ GE255.out) | exact HB.out)) hb); have n3_ := Ac.mk (hbox); have n4_ := Ac.mk ((by rw [hg]; exact (Am (by repeat (first | (with_reducible first | exact HB.out | apply Ad | apply Aa | apply Ae | refine Ah ?_ GE254.out | refine Ah ?_ GE255.out) | exact HB.out))) : w.heap.size ≤ gb256)); have n5_ := Ac.mk ((by rw [hg]; exact (Am (by repeat (first | (with_reducible first | exact HB.out | apply Ad | apply Aa | apply Ae | refine Ah ?_ GE254.out | refine Ah ?_ GE255.out) | exact HB.out))) : w.heap.size ≤ gb256)); have n6_ := Ac.mk ((by rw [hg]; exact Nat.ne_of_lt (Dv (g := gb254) (o := .cells #[.string a0_0, .string a0_1, .int .i64 a0_2] 30 (0, 0)) (by (with_reducible repeat (first | refine Aj ?_ _ | refine Ak ?_ | refine Ai ?_ _)); exact BK254.out)) : gb254 ≠ gb256)); have n7_ := Ac.mk ((by rw [hg]; exact Nat.ne_of_gt (Dv (g := gb254) (o := .cells #[.string a0_0, .string a0_1, .int .i64 a0_2] 30 (0, 0)) (by (with_reducible repeat (first | refine Aj ?_ _ | refine Ak ?_ | refine Ai ?_ _)); exact BK254.out)) : gb256 ≠ gb254)); have n8_ := Ac.mk ((by rw [hg]; exact Nat.ne_of_lt (Dv (g := gb255) (o := .cells #[.string (⟨#[]⟩ : ByteArray), .string (⟨#[]⟩ : ByteArray), .int .i64 0] 39 (0, 0)) (by (with_reducible repeat (first | refine Aj ?_ _ | refine Ak ?_ | refine Ai ?_ _)); exact BK255.out)) : gb255 ≠ gb256)); have n9_ := Ac.mk ((by rw [hg]; exact Nat.ne_of_gt (Dv (g := gb255) (o := .cells #[.string (⟨#[]⟩ : ByteArray), .string (⟨#[]⟩ : ByteArray), .int .i64 0] 39 (0, 0)) (by (with_reducible repeat (first | refine Aj ?_ _ | refine Ak ?_ | refine Ai ?_ _)); exact BK255.out)) : gb256 ≠ gb255)); clear BK254; clear BK255; clear HB; have BK254 := n0_; have BK255 := n1_; have HB := n2_; have BK256 := n3_; have GW256 := n4_; have GE256 := n5_; have NB254_256 := n6_; have NB256_254 := n7_; have NB255_256 := n8_; have NB256_255 := n9_; clear n0_ n1_ n2_ n3_ n4_ n5_ n6_ n7_ n8_ n9_; clear hb hbox hg; have hnb5 := NB254_255.out; have hnc5 := NB255_254.out; have hnb6 := NB254_256.out; have hnc6 := NB256_254.out; have hcz7_0 : w4.cell? ⟨gb254, 0, none⟩ = some (.string a0_0) := (Ag BK254.out 0).trans rfl; have hcz7_1 : w4.cell? ⟨gb254, 1, none⟩ = some (.string a0_1) := (Ag BK254.out 1).trans rfl; have hcz7_2 : w4.cell? ⟨gb254, 2, none⟩ = some (.int .i64 a0_2) := (Ag BK254.out 2).trans rfl; have hfz7_0 := Af BK254.out 0; have hfz7_1 := Af BK254.out 1; have hfz7_2 := Af BK254.out 2; have hnb8 := NB256_255.out; have hnc8 := NB255_256.out; have hcz9_0 : w4.cell? ⟨gb256, 0, none⟩ = some (.string (⟨#[]⟩ : ByteArray)) := (Ag BK256.out 0).trans rfl; have hcz9_1 : w4.cell? ⟨gb256, 1, none⟩ = some (.string (⟨#[]⟩ : ByteArray)) := (Ag BK256.out 1).trans rfl; have hcz9_2 : w4.cell? ⟨gb256, 2, none⟩ = some (.int .i64 0) := (Ag BK256.out 2).trans rfl; have hfz9_0 := Af BK256.out 0; have hfz9_1 := Af BK256.out 1; have hfz9_2 := Af BK256.out 2; have hcz10_0 : w4.cell? ⟨gb255, 0, none⟩ = some (.string (⟨#[]⟩ : ByteArray)) := (Ag BK255.out 0).trans rfl; have hcz10_1 : w4.cell? ⟨gb255, 1, none⟩ = some (.string (⟨#[]⟩ : ByteArray)) := (Ag BK255.out 1).trans rfl; have hcz10_2 : w4.cell? ⟨gb255, 2, none⟩ = some (.int .i64 0) := (Ag BK255.out 2).trans rfl; have hfz10_0 := Af BK255.out 0; have hfz10_1 := Af BK255.out 1; have hfz10_2 := Af BK255.out 2))
  refine bodyPost_ret (results_cell_row rfl _ _ gb255 39 #[.string a0_0, .string a0_1, .int .i64 a0_2] (0, 0) _ rfl (by (with_reducible repeat (first | refine Aj ?_ _ | refine Ak ?_ | refine Ai ?_ _)); refine Ed (cs := #[.string a0_0, .string a0_1, .int .i64 0]) ?_ 2 _ rfl; (with_reducible repeat (first | refine Aj ?_ _ | refine Ak ?_ | refine Ai ?_ _)); refine Ed (cs := #[.string a0_0, .string (⟨#[]⟩ : ByteArray), .int .i64 0]) ?_ 1 _ rfl; (with_reducible repeat (first | refine Aj ?_ _ | refine Ak ?_ | refine Ai ?_ _)); refine Ed (cs := #[.string (⟨#[]⟩ : ByteArray), .string (⟨#[]⟩ : ByteArray), .int .i64 0]) ?_ 0 _ rfl; (with_reducible repeat (first | refine Aj ?_ _ | refine Ak ?_ | refine Ai ?_ _)); refine Fa ?_ NB255_256.out _; (with_reducible repeat (first | refine Aj ?_ _ | refine Ak ?_ | refine Ai ?_ _)); refine Fa ?_ NB255_256.out _; (with_reducible repeat (first | refine Aj ?_ _ | refine Ak ?_ | refine Ai ?_ _)); refine Fa ?_ NB255_256.out _; (with_reducible repeat (first | refine Aj ?_ _ | refine Ak ?_ | refine Ai ?_ _)); exact BK255.out) Tryd.underlying39 rfl (by kernel_rfl)) rfl ?_
  exact ⟨by first | rfl | (simp [Aq, Au] <;> rfl) | (simp [*, Aq, Au] <;> rfl), by repeat (first | (with_reducible first | exact HB.out | apply Ad | apply Aa | apply Ae | refine Ah ?_ GE254.out | refine Ah ?_ GE255.out | refine Ah ?_ GE256.out) | exact HB.out)⟩
end Go.Proofs.YtcnmngiaebgjkaaDoor.X

namespace Go.Proofs.YtcnmngiaebgjkaaDoor.X
open Go.RowKit Go.Proofs.YtcnmngiaebgjkaaDoorW.PrintWords Go.Proofs.YtcnmngiaebgjkaaDoorW.PrintLast Go.Proofs.YtcnmngiaebgjkaaDoorW.PrintMore
attribute [local go_sem] Dn Dk D5 Dz Cj Cm Dj Dl
open Go.Proofs.YtcnmngiaebgjkaaDoorG
def En.f (k : Nat) (l0_0 : List (List Int)) (a0_1 : Int) (l0_2 : List (List Int)) (a0_3 : ByteArray) (a0_4 : ByteArray) (a0_5 : Int) : Option ((List (List Int)) × Int × (List (List Int)) × ByteArray × ByteArray × Int) := (Gi.f k l0_0 a0_1 l0_2).bind fun bt260 => ((Jg.f a0_3 a0_4 a0_5).bind fun bt267 => (some (bt260.1, bt260.2.1, bt260.2.2, bt267.1, bt267.2.1, bt267.2.2)))
theorem En.mono : ∀ a0 a1 a2 a3 a4 a5 k, LeO (En.f k a0 a1 a2 a3 a4 a5) (En.f (k + 1) a0 a1 a2 a3 a4 a5) := by
  intro a0 a1 a2 a3 a4 a5 k
  unfold En.f
  repeat' first
      | (with_reducible exact Gi.mono _ _ _ _)
      | (with_reducible exact LeO.refl _)
      | (with_reducible exact LeO.none _)
      | (with_reducible refine LeO.ite ?_ ?_)
      | (with_reducible refine LeO.bind ?_ (fun _ => ?_))
      | exact Gi.mono _ _ _ _
      | exact LeO.none _
      | refine LeO.ite ?_ ?_
      | refine LeO.bind ?_ (fun _ => ?_)
set_option maxHeartbeats 8000000 in
set_option maxRecDepth 100000 in
theorem En.calls (k : Nat) (A0_0 : Option Addr) (c0_0 : Nat) (l0_0 : List (List Int)) (a0_1 : Int) (A0_2 : Option Addr) (c0_2 : Nat) (l0_2 : List (List Int)) (a0_3 : ByteArray) (a0_4 : ByteArray) (a0_5 : Int) (r1 : List (List Int)) (r2 : Int) (r3 : List (List Int)) (r4 : ByteArray) (r5 : ByteArray) (r6 : Int) (w : World) (hr0_0 : Kd.C (Kd.slice 3 (Kd.int .i64)) w A0_0 l0_0.length l0_0) (hc0_0 : l0_0.length ≤ c0_0) (hr0_2 : Kd.C (Kd.slice 3 (Kd.int .i64)) w A0_2 l0_2.length l0_2) (hc0_2 : l0_2.length ≤ c0_2) (h : En.f k l0_0 a0_1 l0_2 a0_3 a0_4 a0_5 = some (r1, r2, r3, r4, r5, r6)) :
    Calls Tryd.prog 6 #[.agg #[.slice A0_0 l0_0.length c0_0, .int .i64 a0_1, .slice A0_2 l0_2.length c0_2, .string a0_3, .string a0_4, .int .i64 a0_5]] w fun e w' => ∃ v0_ v2_ : Value, e = .returned (.agg #[v0_, .int .i64 r2, v2_, .string r4, .string r5, .int .i64 r6]) ∧ Kd.S (Kd.slice 3 (Kd.int .i64)) 59 w' w.heap.size (fun k_ => some k_ ≠ (v2_ : Value).ownBlock) v0_ r1 ∧ Kd.S (Kd.slice 3 (Kd.int .i64)) 59 w' w.heap.size (fun k_ => some k_ ≠ (v0_ : Value).ownBlock) v2_ r3 ∧ Below w.heap.size w w' := by
  have hu32 := Tryd.underlying32
  have hu41 := Tryd.underlying41
  have hu28 := Tryd.underlying28
  have hu38 := Tryd.underlying38
  have hu30 := Tryd.underlying30
  have hu39 := Tryd.underlying39
  have HR0_0 := Ac.mk hr0_0
  have HC0_0 := Ac.mk hc0_0
  clear hr0_0 hc0_0
  have HR0_2 := Ac.mk hr0_2
  have HC0_2 := Ac.mk hc0_2
  clear hr0_2 hc0_2
  have HB := Ac.mk (Below.refl w.heap.size w)
  have H : ((Gi.f k l0_0 a0_1 l0_2).bind fun bt260 => ((Jg.f a0_3 a0_4 a0_5).bind fun bt267 => (some (bt260.1, bt260.2.1, bt260.2.2, bt267.1, bt267.2.1, bt267.2.2)))) = some (r1, r2, r3, r4, r5, r6) := h
  clear h
  replace H := Option.bind_eq_some_iff.mp H
  obtain ⟨⟨t260, t263, t264⟩, A20, H⟩ := H
  replace H : ((Jg.f a0_3 a0_4 a0_5).bind fun bt267 => (some (t260, t263, t264, bt267.1, bt267.2.1, bt267.2.2))) = some (r1, r2, r3, r4, r5, r6) := H
  have A2 := Ac.mk A20
  clear A20
  replace H := Option.bind_eq_some_iff.mp H
  obtain ⟨⟨t267, t268, t269⟩, A30, H⟩ := H
  replace H : (some (t260, t263, t264, t267, t268, t269)) = some (r1, r2, r3, r4, r5, r6) := H
  have A3 := Ac.mk A30
  clear A30
  simp only [Option.some.injEq, Prod.mk.injEq] at H
  obtain ⟨rfl, rfl, rfl, rfl, rfl, rfl⟩ := H
  go_enter Tryd.func6, Tryd.ntmps6
  go_wp2_with (first | ((with_reducible refine Bd (N := 1) rfl ?_); refine Bc ?hg (N := 1) ?hd (cs := #[.slice A0_0 l0_0.length c0_0, .int .i64 a0_1, .slice A0_2 l0_2.length c0_2, .string a0_3, .string a0_4, .int .i64 a0_5]) (t := 32) ?hr ?_; (case hd => rfl); (case hg => rfl); (case hr => first | (go_simp; done) | (go_simp; rfl)); intro gb257 hg w4 hbox hb; have n0_ := Ac.mk (Ap (by repeat (first | (with_reducible first | exact HB.out | apply Ad | apply Aa | apply Ae) | exact HB.out)) hb); have n1_ := Ac.mk (hbox); have n2_ := Ac.mk ((by rw [hg]; exact (Am (by repeat (first | (with_reducible first | exact HB.out | apply Ad | apply Aa | apply Ae) | exact HB.out))) : w.heap.size ≤ gb257)); have n3_ := Ac.mk ((by rw [hg]; exact (Am (by repeat (first | (with_reducible first | exact HB.out | apply Ad | apply Aa | apply Ae) | exact HB.out))) : w.heap.size ≤ gb257)); clear HB; have HB := n0_; have BK257 := n1_; have GW257 := n2_; have GE257 := n3_; clear n0_ n1_ n2_ n3_; clear hb hbox hg) | ((with_reducible refine Bd (N := 2) rfl ?_); refine Bc ?hg (N := 2) ?hd (cs := #[.slice none 0 0, .int .i64 0, .slice none 0 0, .string (⟨#[]⟩ : ByteArray), .string (⟨#[]⟩ : ByteArray), .int .i64 0]) (t := 41) ?hr ?_; (case hd => rfl); (case hg => rfl); (case hr => first | (go_simp; done) | (go_simp; rfl)); intro gb258 hg w5 hbox hb; have n0_ := Ac.mk (Az (g := gb257) (o := .cells #[.slice A0_0 l0_0.length c0_0, .int .i64 a0_1, .slice A0_2 l0_2.length c0_2, .string a0_3, .string a0_4, .int .i64 a0_5] 32 (0, 0)) (by (with_reducible repeat (first | refine Aj ?_ _ | refine Ak ?_ | refine Ai ?_ _)); exact BK257.out) hb); have n1_ := Ac.mk (Ap (by repeat (first | (with_reducible first | exact HB.out | apply Ad | apply Aa | apply Ae | refine Ah ?_ GE257.out) | exact HB.out)) hb); have n2_ := Ac.mk (hbox); have n3_ := Ac.mk ((by rw [hg]; exact (Am (by repeat (first | (with_reducible first | exact HB.out | apply Ad | apply Aa | apply Ae | refine Ah ?_ GE257.out) | exact HB.out))) : w.heap.size ≤ gb258)); have n4_ := Ac.mk ((by rw [hg]; exact (Am (by repeat (first | (with_reducible first | exact HB.out | apply Ad | apply Aa | apply Ae | refine Ah ?_ GE257.out) | exact HB.out))) : w.heap.size ≤ gb258)); have n5_ := Ac.mk ((by rw [hg]; exact Nat.ne_of_lt (Dv (g := gb257) (o := .cells #[.slice A0_0 l0_0.length c0_0, .int .i64 a0_1, .slice A0_2 l0_2.length c0_2, .string a0_3, .string a0_4, .int .i64 a0_5] 32 (0, 0)) (by (with_reducible repeat (first | refine Aj ?_ _ | refine Ak ?_ | refine Ai ?_ _)); exact BK257.out)) : gb257 ≠ gb258)); have n6_ := Ac.mk ((by rw [hg]; exact Nat.ne_of_gt (Dv (g := gb257) (o := .cells #[.slice A0_0 l0_0.length c0_0, .int .i64 a0_1, .slice A0_2 l0_2.length c0_2, .string a0_3, .string a0_4, .int .i64 a0_5] 32 (0, 0)) (by (with_reducible repeat (first | refine Aj ?_ _ | refine Ak ?_ | refine Ai ?_ _)); exact BK257.out)) : gb258 ≠ gb257)); clear BK257; clear HB; have BK257 := n0_; have HB := n1_; have BK258 := n2_; have GW258 := n3_; have GE258 := n4_; have NB257_258 := n5_; have NB258_257 := n6_; clear n0_ n1_ n2_ n3_ n4_ n5_ n6_; clear hb hbox hg) | ((with_reducible refine Bd (N := 3) rfl ?_); refine Bc ?hg (N := 3) ?hd (cs := #[.slice none 0 0, .int .i64 0, .slice none 0 0, .string (⟨#[]⟩ : ByteArray), .string (⟨#[]⟩ : ByteArray), .int .i64 0]) (t := 41) ?hr ?_; (case hd => rfl); (case hg => rfl); (case hr => first | (go_simp; done) | (go_simp; rfl)); intro gb259 hg w6 hbox hb; have n0_ := Ac.mk (Az (g := gb257) (o := .cells #[.slice A0_0 l0_0.length c0_0, .int .i64 a0_1, .slice A0_2 l0_2.length c0_2, .string a0_3, .string a0_4, .int .i64 a0_5] 32 (0, 0)) (by (with_reducible repeat (first | refine Aj ?_ _ | refine Ak ?_ | refine Ai ?_ _)); exact BK257.out) hb); have n1_ := Ac.mk (Az (g := gb258) (o := .cells #[.slice none 0 0, .int .i64 0, .slice none 0 0, .string (⟨#[]⟩ : ByteArray), .string (⟨#[]⟩ : ByteArray), .int .i64 0] 41 (0, 0)) (by (with_reducible repeat (first | refine Aj ?_ _ | refine Ak ?_ | refine Ai ?_ _)); exact BK258.out) hb); have n2_ := Ac.mk (Ap (by repeat (first | (with_reducible first | exact HB.out | apply Ad | apply Aa | apply Ae | refine Ah ?_ GE257.out | refine Ah ?_ GE258.out) | exact HB.out)) hb); have n3_ := Ac.mk (hbox); have n4_ := Ac.mk ((by rw [hg]; exact (Am (by repeat (first | (with_reducible first | exact HB.out | apply Ad | apply Aa | apply Ae | refine Ah ?_ GE257.out | refine Ah ?_ GE258.out) | exact HB.out))) : w.heap.size ≤ gb259)); have n5_ := Ac.mk ((by rw [hg]; exact (Am (by repeat (first | (with_reducible first | exact HB.out | apply Ad | apply Aa | apply Ae | refine Ah ?_ GE257.out | refine Ah ?_ GE258.out) | exact HB.out))) : w.heap.size ≤ gb259)); have n6_ := Ac.mk ((by rw [hg]; exact Nat.ne_of_lt (Dv (g := gb257) (o := .cells #[.slice A0_0 l0_0.length c0_0, .int .i64 a0_1, .slice A0_2 l0_2.length c0_2, .string a0_3, .string a0_4, .int .i64 a0_5] 32 (0, 0)) (by (with_reducible repeat (first | refine Aj ?_ _ | refine Ak ?_ | refine Ai ?_ _)); exact BK257.out)) : gb257 ≠ gb259)); have n7_ := Ac.mk ((by rw [hg]; exact Nat.ne_of_gt (Dv (g := gb257) (o := .cells #[.slice A0_0 l0_0.length c0_0, .int .i64 a0_1, .slice A0_2 l0_2.length c0_2, .string a0_3, .string a0_4, .int .i64 a0_5] 32 (0, 0)) (by (with_reducible repeat (first | refine Aj ?_ _ | refine Ak ?_ | refine Ai ?_ _)); exact BK257.out)) : gb259 ≠ gb257)); have n8_ := Ac.mk ((by rw [hg]; exact Nat.ne_of_lt (Dv (g := gb258) (o := .cells #[.slice none 0 0, .int .i64 0, .slice none 0 0, .string (⟨#[]⟩ : ByteArray), .string (⟨#[]⟩ : ByteArray), .int .i64 0] 41 (0, 0)) (by (with_reducible repeat (first | refine Aj ?_ _ | refine Ak ?_ | refine Ai ?_ _)); exact BK258.out)) : gb258 ≠ gb259)); have n9_ := Ac.mk ((by rw [hg]; exact Nat.ne_of_gt (Dv (g := gb258) (o := .cells #[.slice none 0 0, .int .i64 0, .slice none 0 0, .string (⟨#[]⟩ : ByteArray), .string (⟨#[]⟩ : ByteArray), .int .i64 0] 41 (0, 0)) (by (with_reducible repeat (first | refine Aj ?_ _ | refine Ak ?_ | refine Ai ?_ _)); exact BK258.out)) : gb259 ≠ gb258)); clear BK257; clear BK258; clear HB; have BK257 := n0_; have BK258 := n1_; have HB := n2_; have BK259 := n3_; have GW259 := n4_; have GE259 := n5_; have NB257_259 := n6_; have NB259_257 := n7_; have NB258_259 := n8_; have NB259_258 := n9_; clear n0_ n1_ n2_ n3_ n4_ n5_ n6_ n7_ n8_ n9_; clear hb hbox hg; have hnb7 := NB257_258.out; have hnc7 := NB258_257.out; have hnb8 := NB257_259.out; have hnc8 := NB259_257.out; have hcz9_0 : w6.cell? ⟨gb257, 0, none⟩ = some (.slice A0_0 l0_0.length c0_0) := (Ag BK257.out 0).trans rfl; have hcz9_1 : w6.cell? ⟨gb257, 1, none⟩ = some (.int .i64 a0_1) := (Ag BK257.out 1).trans rfl; have hcz9_2 : w6.cell? ⟨gb257, 2, none⟩ = some (.slice A0_2 l0_2.length c0_2) := (Ag BK257.out 2).trans rfl; have hcz9_3 : w6.cell? ⟨gb257, 3, none⟩ = some (.string a0_3) := (Ag BK257.out 3).trans rfl; have hcz9_4 : w6.cell? ⟨gb257, 4, none⟩ = some (.string a0_4) := (Ag BK257.out 4).trans rfl; have hcz9_5 : w6.cell? ⟨gb257, 5, none⟩ = some (.int .i64 a0_5) := (Ag BK257.out 5).trans rfl; have hfz9_0 := Af BK257.out 0; have hfz9_1 := Af BK257.out 1; have hfz9_2 := Af BK257.out 2; have hfz9_3 := Af BK257.out 3; have hfz9_4 := Af BK257.out 4; have hfz9_5 := Af BK257.out 5) | ((with_reducible refine Aw (f := 12) rfl ?_); refine Be (some 6) rfl rfl Tryd.func12 (by kernel_rfl) rfl #[.agg #[.slice A0_0 l0_0.length c0_0, .int .i64 a0_1, .slice A0_2 l0_2.length c0_2]] rfl (by (try simp only [List.map_toArray, List.map_cons, List.map_nil]); first | done | rfl | (simp only [List.length_drop, List.length_take]; rfl)) ?_; (with_reducible refine (Gi.calls k _ _ l0_0 a0_1 _ _ l0_2 t260 t263 t264 _ ?side1 ?side2 ?side3 ?side4 A2.out).mono ?_); (case side1 => repeat (first | exact (Kd.C9 HR0_0.out HB.out) | (with_reducible refine Kd.Bl ?_ _) | (with_reducible refine Kd.Bj ?_ _) | (with_reducible refine Kd.Ce ?_))); (case side2 => exact HC0_0.out); (case side3 => repeat (first | exact (Kd.C9 HR0_2.out HB.out) | (with_reducible refine Kd.Bl ?_ _) | (with_reducible refine Kd.Bj ?_ _) | (with_reducible refine Kd.Ce ?_))); (case side4 => exact HC0_2.out); rintro e w10 ⟨v261, v265, rfl, ho0, ho1, hb⟩; refine ⟨_, rfl, ?_⟩; have n0_ := Ac.mk (Kd.Ik ho0 (Am (by repeat (first | (with_reducible first | exact HB.out | apply Ad | apply Aa | apply Ae | refine Ah ?_ GE257.out | refine Ah ?_ GE258.out | refine Ah ?_ GE259.out) | exact HB.out)))); have n1_ := Ac.mk (Kd.Ik ho1 (Am (by repeat (first | (with_reducible first | exact HB.out | apply Ad | apply Aa | apply Ae | refine Ah ?_ GE257.out | refine Ah ?_ GE258.out | refine Ah ?_ GE259.out) | exact HB.out)))); have n2_ := Ac.mk (Az (g := gb257) (o := .cells #[.slice A0_0 l0_0.length c0_0, .int .i64 a0_1, .slice A0_2 l0_2.length c0_2, .string a0_3, .string a0_4, .int .i64 a0_5] 32 (0, 0)) (by (with_reducible repeat (first | refine Aj ?_ _ | refine Ak ?_ | refine Ai ?_ _)); exact BK257.out) hb); have n3_ := Ac.mk (Az (g := gb258) (o := .cells #[.slice none 0 0, .int .i64 0, .slice none 0 0, .string (⟨#[]⟩ : ByteArray), .string (⟨#[]⟩ : ByteArray), .int .i64 0] 41 (0, 0)) (by (with_reducible repeat (first | refine Aj ?_ _ | refine Ak ?_ | refine Ai ?_ _)); exact BK258.out) hb); have n4_ := Ac.mk (Az (g := gb259) (o := .cells #[.slice none 0 0, .int .i64 0, .slice none 0 0, .string (⟨#[]⟩ : ByteArray), .string (⟨#[]⟩ : ByteArray), .int .i64 0] 41 (0, 0)) (by (with_reducible repeat (first | refine Aj ?_ _ | refine Ak ?_ | refine Ai ?_ _)); exact BK259.out) hb); have n5_ := Ac.mk (Ap (by repeat (first | (with_reducible first | exact HB.out | apply Ad | apply Aa | apply Ae | refine Ah ?_ GE257.out | refine Ah ?_ GE258.out | refine Ah ?_ GE259.out) | exact HB.out)) hb); clear BK257; clear BK258; clear BK259; clear HB; have HO262 := n0_; have HO266 := n1_; have BK257 := n2_; have BK258 := n3_; have BK259 := n4_; have HB := n5_; clear n0_ n1_ n2_ n3_ n4_ n5_; (try clear hb); (try clear hb2); (try clear hk); (try clear hi); (try clear ho0); (try clear ho1); obtain ⟨Ao11, co11, eo11⟩ := Kd.Iu HO262.out; subst eo11; have hnb12 := NB259_258.out; have hnc12 := NB258_259.out; have hcz13_0 : w10.cell? ⟨gb259, 0, none⟩ = some (.slice none 0 0) := (Ag BK259.out 0).trans rfl; have hcz13_1 : w10.cell? ⟨gb259, 1, none⟩ = some (.int .i64 0) := (Ag BK259.out 1).trans rfl; have hcz13_2 : w10.cell? ⟨gb259, 2, none⟩ = some (.slice none 0 0) := (Ag BK259.out 2).trans rfl; have hcz13_3 : w10.cell? ⟨gb259, 3, none⟩ = some (.string (⟨#[]⟩ : ByteArray)) := (Ag BK259.out 3).trans rfl; have hcz13_4 : w10.cell? ⟨gb259, 4, none⟩ = some (.string (⟨#[]⟩ : ByteArray)) := (Ag BK259.out 4).trans rfl; have hcz13_5 : w10.cell? ⟨gb259, 5, none⟩ = some (.int .i64 0) := (Ag BK259.out 5).trans rfl; have hfz13_0 := Af BK259.out 0; have hfz13_1 := Af BK259.out 1; have hfz13_2 := Af BK259.out 2; have hfz13_3 := Af BK259.out 3; have hfz13_4 := Af BK259.out 4; have hfz13_5 := Af BK259.out 5; obtain ⟨Ao14, co14, eo14⟩ := Kd.Iu HO266.out; subst eo14; have hcz15_0 : w10.cell? ⟨gb257, 0, none⟩ = some (.slice A0_0 l0_0.length c0_0) := (Ag BK257.out 0).trans rfl; have hcz15_1 : w10.cell? ⟨gb257, 1, none⟩ = some (.int .i64 a0_1) := (Ag BK257.out 1).trans rfl; have hcz15_2 : w10.cell? ⟨gb257, 2, none⟩ = some (.slice A0_2 l0_2.length c0_2) := (Ag BK257.out 2).trans rfl; have hcz15_3 : w10.cell? ⟨gb257, 3, none⟩ = some (.string a0_3) := (Ag BK257.out 3).trans rfl; have hcz15_4 : w10.cell? ⟨gb257, 4, none⟩ = some (.string a0_4) := (Ag BK257.out 4).trans rfl; have hcz15_5 : w10.cell? ⟨gb257, 5, none⟩ = some (.int .i64 a0_5) := (Ag BK257.out 5).trans rfl; have hfz15_0 := Af BK257.out 0; have hfz15_1 := Af BK257.out 1; have hfz15_2 := Af BK257.out 2; have hfz15_3 := Af BK257.out 3; have hfz15_4 := Af BK257.out 4; have hfz15_5 := Af BK257.out 5) | ((with_reducible refine Aw (f := 13) rfl ?_); refine Be (some 10) rfl rfl Tryd.func13 (by kernel_rfl) rfl #[.agg #[.string a0_3, .string a0_4, .int .i64 a0_5]] rfl (by (try simp only [List.map_toArray, List.map_cons, List.map_nil]); first | done | rfl | (simp only [List.length_drop, List.length_take]; rfl)) ?_; (with_reducible refine (Jg.calls a0_3 a0_4 a0_5 t267 t268 t269 _ A3.out).mono ?_); rintro e w16 ⟨rfl, hb⟩; refine ⟨_, rfl, ?_⟩; have n0_ := Ac.mk (Kd.G9 (by (with_reducible repeat (first | apply Kd.Ey | apply Kd.Ew | apply Kd.Ez)); exact (Kd.Gy (Kd.Eo (p := ⟨gb259, 2, none⟩) (Kd.Eo (p := ⟨gb259, 1, none⟩) (Kd.Eo (p := ⟨gb259, 0, none⟩) (Kd.G8 HO262.out BK259.out (by decide)) (fun _ hk => hk.2) (.slice Ao11 t260.length co11)) (fun _ hk => hk.2) (.int .i64 t263)) (fun _ hk => hk.2) (.slice Ao14 t264.length co14)) (fun _ h_ => h_.1))) hb); have n1_ := Ac.mk (Kd.G9 (by (with_reducible repeat (first | apply Kd.Ey | apply Kd.Ew | apply Kd.Ez)); exact (Kd.Gy (Kd.Eo (p := ⟨gb259, 2, none⟩) (Kd.Eo (p := ⟨gb259, 1, none⟩) (Kd.Eo (p := ⟨gb259, 0, none⟩) (Kd.G8 HO266.out BK259.out (by decide)) (fun _ hk => hk.2) (.slice Ao11 t260.length co11)) (fun _ hk => hk.2) (.int .i64 t263)) (fun _ hk => hk.2) (.slice Ao14 t264.length co14)) (fun _ h_ => h_.1))) hb); have n2_ := Ac.mk (Az (g := gb257) (o := .cells #[.slice A0_0 l0_0.length c0_0, .int .i64 a0_1, .slice A0_2 l0_2.length c0_2, .string a0_3, .string a0_4, .int .i64 a0_5] 32 (0, 0)) (by (with_reducible repeat (first | refine Aj ?_ _ | refine Ak ?_ | refine Ai ?_ _)); refine Fa ?_ NB257_259.out _; (with_reducible repeat (first | refine Aj ?_ _ | refine Ak ?_ | refine Ai ?_ _)); refine Fa ?_ NB257_259.out _; (with_reducible repeat (first | refine Aj ?_ _ | refine Ak ?_ | refine Ai ?_ _)); refine Fa ?_ NB257_259.out _; (with_reducible repeat (first | refine Aj ?_ _ | refine Ak ?_ | refine Ai ?_ _)); exact BK257.out) hb); have n3_ := Ac.mk (Az (g := gb258) (o := .cells #[.slice none 0 0, .int .i64 0, .slice none 0 0, .string (⟨#[]⟩ : ByteArray), .string (⟨#[]⟩ : ByteArray), .int .i64 0] 41 (0, 0)) (by (with_reducible repeat (first | refine Aj ?_ _ | refine Ak ?_ | refine Ai ?_ _)); refine Fa ?_ NB258_259.out _; (with_reducible repeat (first | refine Aj ?_ _ | refine Ak ?_ | refine Ai ?_ _)); refine Fa ?_ NB258_259.out _; (with_reducible repeat (first | refine Aj ?_ _ | refine Ak ?_ | refine Ai ?_ _)); refine Fa ?_ NB258_259.out _; (with_reducible repeat (first | refine Aj ?_ _ | refine Ak ?_ | refine Ai ?_ _)); exact BK258.out) hb); have n4_ := Ac.mk (Az (g := gb259) (o := .cells #[.slice Ao11 t260.length co11, .int .i64 t263, .slice Ao14 t264.length co14, .string (⟨#[]⟩ : ByteArray), .string (⟨#[]⟩ : ByteArray), .int .i64 0] 41 (0, 0)) (by (with_reducible repeat (first | refine Aj ?_ _ | refine Ak ?_ | refine Ai ?_ _)); refine Ed (cs := #[.slice Ao11 t260.length co11, .int .i64 t263, .slice none 0 0, .string (⟨#[]⟩ : ByteArray), .string (⟨#[]⟩ : ByteArray), .int .i64 0]) ?_ 2 _ rfl; (with_reducible repeat (first | refine Aj ?_ _ | refine Ak ?_ | refine Ai ?_ _)); refine Ed (cs := #[.slice Ao11 t260.length co11, .int .i64 0, .slice none 0 0, .string (⟨#[]⟩ : ByteArray), .string (⟨#[]⟩ : ByteArray), .int .i64 0]) ?_ 1 _ rfl; (with_reducible repeat (first | refine Aj ?_ _ | refine Ak ?_ | refine Ai ?_ _)); refine Ed (cs := #[.slice none 0 0, .int .i64 0, .slice none 0 0, .string (⟨#[]⟩ : ByteArray), .string (⟨#[]⟩ : ByteArray), .int .i64 0]) ?_ 0 _ rfl; (with_reducible repeat (first | refine Aj ?_ _ | refine Ak ?_ | refine Ai ?_ _)); exact BK259.out) hb); have n5_ := Ac.mk (Ap (by repeat (first | (with_reducible first | exact HB.out | apply Ad | apply Aa | apply Ae | refine Ah ?_ GE257.out | refine Ah ?_ GE258.out | refine Ah ?_ GE259.out) | exact HB.out)) hb); clear HO262; clear HO266; clear BK257; clear BK258; clear BK259; clear HB; have HO262 := n0_; have HO266 := n1_; have BK257 := n2_; have BK258 := n3_; have BK259 := n4_; have HB := n5_; clear n0_ n1_ n2_ n3_ n4_ n5_; (try clear hb); (try clear hb2); (try clear hk); (try clear hi); have hcz17_0 : w16.cell? ⟨gb259, 0, none⟩ = some (.slice Ao11 t260.length co11) := (Ag BK259.out 0).trans rfl; have hcz17_1 : w16.cell? ⟨gb259, 1, none⟩ = some (.int .i64 t263) := (Ag BK259.out 1).trans rfl; have hcz17_2 : w16.cell? ⟨gb259, 2, none⟩ = some (.slice Ao14 t264.length co14) := (Ag BK259.out 2).trans rfl; have hcz17_3 : w16.cell? ⟨gb259, 3, none⟩ = some (.string (⟨#[]⟩ : ByteArray)) := (Ag BK259.out 3).trans rfl; have hcz17_4 : w16.cell? ⟨gb259, 4, none⟩ = some (.string (⟨#[]⟩ : ByteArray)) := (Ag BK259.out 4).trans rfl; have hcz17_5 : w16.cell? ⟨gb259, 5, none⟩ = some (.int .i64 0) := (Ag BK259.out 5).trans rfl; have hfz17_0 := Af BK259.out 0; have hfz17_1 := Af BK259.out 1; have hfz17_2 := Af BK259.out 2; have hfz17_3 := Af BK259.out 3; have hfz17_4 := Af BK259.out 4; have hfz17_5 := Af BK259.out 5; have hcz18_0 : w16.cell? ⟨gb258, 0, none⟩ = some (.slice none 0 0) := (Ag BK258.out 0).trans rfl; have hcz18_1 : w16.cell? ⟨gb258, 1, none⟩ = some (.int .i64 0) := (Ag BK258.out 1).trans rfl; have hcz18_2 : w16.cell? ⟨gb258, 2, none⟩ = some (.slice none 0 0) := (Ag BK258.out 2).trans rfl; have hcz18_3 : w16.cell? ⟨gb258, 3, none⟩ = some (.string (⟨#[]⟩ : ByteArray)) := (Ag BK258.out 3).trans rfl; have hcz18_4 : w16.cell? ⟨gb258, 4, none⟩ = some (.string (⟨#[]⟩ : ByteArray)) := (Ag BK258.out 4).trans rfl; have hcz18_5 : w16.cell? ⟨gb258, 5, none⟩ = some (.int .i64 0) := (Ag BK258.out 5).trans rfl; have hfz18_0 := Af BK258.out 0; have hfz18_1 := Af BK258.out 1; have hfz18_2 := Af BK258.out 2; have hfz18_3 := Af BK258.out 3; have hfz18_4 := Af BK258.out 4; have hfz18_5 := Af BK258.out 5))
  refine bodyPost_ret (results_cell_row rfl _ _ gb258 41 #[.slice Ao11 t260.length co11, .int .i64 t263, .slice Ao14 t264.length co14, .string t267, .string t268, .int .i64 t269] (0, 0) _ rfl (by (with_reducible repeat (first | refine Aj ?_ _ | refine Ak ?_ | refine Ai ?_ _)); refine Ed (cs := #[.slice Ao11 t260.length co11, .int .i64 t263, .slice Ao14 t264.length co14, .string t267, .string t268, .int .i64 0]) ?_ 5 _ rfl; (with_reducible repeat (first | refine Aj ?_ _ | refine Ak ?_ | refine Ai ?_ _)); refine Ed (cs := #[.slice Ao11 t260.length co11, .int .i64 t263, .slice Ao14 t264.length co14, .string t267, .string (⟨#[]⟩ : ByteArray), .int .i64 0]) ?_ 4 _ rfl; (with_reducible repeat (first | refine Aj ?_ _ | refine Ak ?_ | refine Ai ?_ _)); refine Ed (cs := #[.slice Ao11 t260.length co11, .int .i64 t263, .slice Ao14 t264.length co14, .string (⟨#[]⟩ : ByteArray), .string (⟨#[]⟩ : ByteArray), .int .i64 0]) ?_ 3 _ rfl; (with_reducible repeat (first | refine Aj ?_ _ | refine Ak ?_ | refine Ai ?_ _)); refine Ed (cs := #[.slice Ao11 t260.length co11, .int .i64 t263, .slice none 0 0, .string (⟨#[]⟩ : ByteArray), .string (⟨#[]⟩ : ByteArray), .int .i64 0]) ?_ 2 _ rfl; (with_reducible repeat (first | refine Aj ?_ _ | refine Ak ?_ | refine Ai ?_ _)); refine Ed (cs := #[.slice Ao11 t260.length co11, .int .i64 0, .slice none 0 0, .string (⟨#[]⟩ : ByteArray), .string (⟨#[]⟩ : ByteArray), .int .i64 0]) ?_ 1 _ rfl; (with_reducible repeat (first | refine Aj ?_ _ | refine Ak ?_ | refine Ai ?_ _)); refine Ed (cs := #[.slice none 0 0, .int .i64 0, .slice none 0 0, .string (⟨#[]⟩ : ByteArray), .string (⟨#[]⟩ : ByteArray), .int .i64 0]) ?_ 0 _ rfl; (with_reducible repeat (first | refine Aj ?_ _ | refine Ak ?_ | refine Ai ?_ _)); refine Fa ?_ NB258_259.out _; (with_reducible repeat (first | refine Aj ?_ _ | refine Ak ?_ | refine Ai ?_ _)); refine Fa ?_ NB258_259.out _; (with_reducible repeat (first | refine Aj ?_ _ | refine Ak ?_ | refine Ai ?_ _)); refine Fa ?_ NB258_259.out _; (with_reducible repeat (first | refine Aj ?_ _ | refine Ak ?_ | refine Ai ?_ _)); exact BK258.out) Tryd.underlying41 rfl (by kernel_rfl)) rfl ?_
  exact ⟨_, _, by first | rfl | (simp [Aq, Au] <;> rfl) | (simp [*, Aq, Au] <;> rfl), by (with_reducible repeat (first | apply Kd.Ey | apply Kd.Ew | apply Kd.Ez)); exact Kd.Gy (Kd.Eo (p := ⟨gb258, 5, none⟩) (Kd.Eo (p := ⟨gb258, 4, none⟩) (Kd.Eo (p := ⟨gb258, 3, none⟩) (Kd.Eo (p := ⟨gb258, 2, none⟩) (Kd.Eo (p := ⟨gb258, 1, none⟩) (Kd.Eo (p := ⟨gb258, 0, none⟩) (Kd.Eo (p := ⟨gb259, 5, none⟩) (Kd.Eo (p := ⟨gb259, 4, none⟩) (Kd.Eo (p := ⟨gb259, 3, none⟩) (Kd.G8 (Kd.G8 HO262.out BK259.out (by decide)) BK258.out (by decide)) (fun _ hk => hk.1.2) (.string t267)) (fun _ hk => hk.1.2) (.string t268)) (fun _ hk => hk.1.2) (.int .i64 t269)) (fun _ hk => hk.2) (.slice Ao11 t260.length co11)) (fun _ hk => hk.2) (.int .i64 t263)) (fun _ hk => hk.2) (.slice Ao14 t264.length co14)) (fun _ hk => hk.2) (.string t267)) (fun _ hk => hk.2) (.string t268)) (fun _ hk => hk.2) (.int .i64 t269)) (fun _ hk => hk.1.1), by (with_reducible repeat (first | apply Kd.Ey | apply Kd.Ew | apply Kd.Ez)); exact Kd.Gy (Kd.Eo (p := ⟨gb258, 5, none⟩) (Kd.Eo (p := ⟨gb258, 4, none⟩) (Kd.Eo (p := ⟨gb258, 3, none⟩) (Kd.Eo (p := ⟨gb258, 2, none⟩) (Kd.Eo (p := ⟨gb258, 1, none⟩) (Kd.Eo (p := ⟨gb258, 0, none⟩) (Kd.Eo (p := ⟨gb259, 5, none⟩) (Kd.Eo (p := ⟨gb259, 4, none⟩) (Kd.Eo (p := ⟨gb259, 3, none⟩) (Kd.G8 (Kd.G8 HO266.out BK259.out (by decide)) BK258.out (by decide)) (fun _ hk => hk.1.2) (.string t267)) (fun _ hk => hk.1.2) (.string t268)) (fun _ hk => hk.1.2) (.int .i64 t269)) (fun _ hk => hk.2) (.slice Ao11 t260.length co11)) (fun _ hk => hk.2) (.int .i64 t263)) (fun _ hk => hk.2) (.slice Ao14 t264.length co14)) (fun _ hk => hk.2) (.string t267)) (fun _ hk => hk.2) (.string t268)) (fun _ hk => hk.2) (.int .i64 t269)) (fun _ hk => hk.1.1), by repeat (first | (with_reducible first | exact HB.out | apply Ad | apply Aa | apply Ae | refine Ah ?_ GE257.out | refine Ah ?_ GE258.out | refine Ah ?_ GE259.out) | exact HB.out)⟩
end Go.Proofs.YtcnmngiaebgjkaaDoor.X

namespace Go.Proofs.YtcnmngiaebgjkaaDoor.X
open Go.RowKit Go.Proofs.YtcnmngiaebgjkaaDoorW.PrintWords Go.Proofs.YtcnmngiaebgjkaaDoorW.PrintLast Go.Proofs.YtcnmngiaebgjkaaDoorW.PrintMore
attribute [local go_sem] Dn Dk D5 Dz Cj Cm Dj Dl
open Go.Proofs.YtcnmngiaebgjkaaDoorG
def Fe.f (a0 : Int) (a1 : Int) (a2 : Int) : Option (Bool) := if a0 ≥ a1 then (some (decide (a0 ≤ a2))) else (some false)
set_option maxHeartbeats 8000000 in
set_option maxRecDepth 100000 in
theorem Fe.calls (a0 : Int) (a1 : Int) (a2 : Int) (r : Bool) (w : World) (h : Fe.f a0 a1 a2 = some r) :
    Calls Tryd.prog 36 #[.int .i64 a0, .int .i64 a1, .int .i64 a2] w fun e w' => e = .returned (.bool r) ∧ Bg w w' := by
  have H : (if a0 ≥ a1 then (some (decide (a0 ≤ a2))) else (some false)) = some r := h
  clear h
  by_cases c4 : a0 ≥ a1
  · rw [if_pos c4] at H
    have c4b0 : decide (a1 ≤ a0) = true := decide_eq_true c4
    clear c4
    obtain rfl := Option.some.inj H
    go_enter Tryd.func36, Tryd.ntmps36
    go_wp2
    go_ret
    exact ⟨by first | rfl | (simp; done) | (simp [*]; done), by repeat (first | exact Bg.refl _ | apply Bg.step)⟩
  · rw [if_neg c4] at H
    have c4b0 : decide (a1 ≤ a0) = false := decide_eq_false c4
    clear c4
    obtain rfl := Option.some.inj H
    go_enter Tryd.func36, Tryd.ntmps36
    go_wp2
    go_ret
    exact ⟨by first | rfl | (simp; done) | (simp [*]; done), by repeat (first | exact Bg.refl _ | apply Bg.step)⟩
end Go.Proofs.YtcnmngiaebgjkaaDoor.X

namespace Go.Proofs.YtcnmngiaebgjkaaDoorMp
open Go Go.RowKit Go.Maps
theorem plainElem_bool_inv {H : Type} {P : Program} {e : TypeId} (he : P.underlying e = some .bool) {v : Value} {d : DataW H} {ps : List MemPlace} (h : plainElem (H := H) P e v = some (d, ps)) : ∃ c : Bool, v = .bool c ∧ d = .lit (.bool c) ∧ ps = [] := by
  unfold plainElem at h
  rw [he] at h
  cases v <;> simp at h
  rename_i c
  exact ⟨c, rfl, h.1.symm, h.2⟩
theorem lookup_bool {H : Type} {P : Program} {w : World} {k t e : TypeId} {b n : Nat} {D : DataW H} (h : w.ownsMap P k (plainElem P e) b n D) (K : Keyed P k) (ht : P.underlying t = some (.map k e)) (he : P.underlying e = some .bool) (hz : (zeroValue e).run P w = .ok (.bool false) w)
    {key : Value} {kl : Lit} (hkey : keyOf P k key = some kl) : ∃ c : Bool, (Instr.lookup t (.map (some b)) key false).run P w = .ok (.bool c) w ∧ D.atKey kl (.lit (.bool false)) = .lit (.bool c) := by
  obtain ⟨v, ps, hrun, hv⟩ := h.lookup K ht hz (plainElem_bool he false) hkey
  obtain ⟨c, rfl, hc, _⟩ := plainElem_bool_inv he hv
  exact ⟨c, hrun, hc⟩
/-- Block b is a map keyed by ints in which just the keys of S are told as true. -/
def Cf (P : Program) (k e : TypeId) (w : World) (b : Nat) (S : List Int) : Prop :=
  ∃ D : DataW Unit, w.ownsMap P k (plainElem P e) b S.length D ∧ IsMap D ∧ ∀ x : Int, D.atKey (.int .i64 x) (.lit (.bool false)) = .lit (.bool (decide (x ∈ S)))
variable {P : Program} {k e : TypeId} {w w' : World} {b : Nat} {S : List Int}
theorem Cf.made (P : Program) (k e : TypeId) (w : World) : Cf P k e (w.alloc (.map #[] 0)) w.heap.size [] :=
  ⟨.map [], World.ownsMap_made _ _ _ _, ⟨[], rfl⟩, fun x => by simp [DataW.atKey]⟩
theorem Cf.lt (h : Cf P k e w b S) : b < w.heap.size := h.choose_spec.1.lt
theorem Cf.block (h : Cf P k e w b S) (hb : w'.heap[b]? = w.heap[b]?) : Cf P k e w' b S := by
  obtain ⟨D, ⟨es, clock, h0, F, hs, hD⟩, hm, hx⟩ := h
  exact ⟨D, ⟨es, clock, hb.trans h0, F, hs, hD⟩, hm, hx⟩
theorem Cf.below (h : Cf P k e w b S) (hb : Below w.heap.size w w') : Cf P k e w' b S := h.block (hb.block b h.lt)
theorem Cf.alloc (h : Cf P k e w b S) (o : Obj) : Cf P k e (w.alloc o) b S := h.below ((Below.refl _ _).alloc (Nat.le_refl _) _)
theorem Cf.drew (h : Cf P k e w b S) : Cf P k e w.drew b S := h.block rfl
theorem Cf.drewN (h : Cf P k e w b S) (n : Nat) : Cf P k e (w.drewN n) b S := h.block rfl
theorem Cf.grown {row : Option Nat} (h : Cf P k e w b S) (hg : w.grownBy w' row) (hne : some b ≠ row) : Cf P k e w' b S := h.block (hg.block b h.lt hne)
theorem Cf.setCell (h : Cf P k e w b S) {p : Addr} (u : Value) (hne : b ≠ p.block) : Cf P k e (w.setCell p u) b S := h.block (Below.heap_setCell w p u b hne)
theorem Cf.look {t : TypeId} (h : Cf P k e w b S) (hk : P.underlying k = some (.int .i64)) (ht : P.underlying t = some (.map k e)) (he : P.underlying e = some .bool) (hz : (zeroValue e).run P w = .ok (.bool false) w) {x : Int} (hx : (Lit.int .i64 x).wf = true) :
    (Instr.lookup t (.map (some b)) (.int .i64 x) false).run P w = .ok (.bool (decide (x ∈ S))) w := by
  obtain ⟨D, ho, _, hat⟩ := h
  obtain ⟨c, hrun, hc⟩ := lookup_bool ho (int_keyed hk) ht he hz (keyOf_int_mk hk hx)
  rw [hat x] at hc
  simp only [DataW.lit.injEq, Lit.bool.injEq] at hc
  rw [hrun, hc]
theorem Cf.put {t : TypeId} (h : Cf P k e w b S) (hk : P.underlying k = some (.int .i64)) (ht : P.underlying t = some (.map k e)) (he : P.underlying e = some .bool) (hn : S.length < maxLen) {x : Int} (hx : (Lit.int .i64 x).wf = true) :
    ∃ w', (Instr.mapUpdate t (.map (some b)) (.int .i64 x) (.bool true)).run P w = .ok () w' ∧ Cf P k e w' b (S ++ [x]) ∧ w.grownBy w' (some b) := by
  obtain ⟨D, ho, hm, hat⟩ := h
  obtain ⟨w', hrun, ho', hg⟩ := ho.update (int_keyed hk) ht hn (keyOf_int_mk hk hx) (plainElem_bool he true)
  refine ⟨w', hrun, ⟨_, by rw [List.length_append]; exact ho', hm.put _ _, fun y => ?_⟩, hg⟩
  by_cases hy : y = x
  · subst hy
    rw [atKey_put_same hm (by first | exact trivial | simp [WideAt.IsKeyLit])]
    simp
  · rw [atKey_put_other (by simpa using hy), hat y]
    simp [hy]
theorem Jf {ops : Array Oper} {rest : List Oper} {o : Oper} {a : Act} {Q : Exit → Act → World → Prop} (w : World)
    (hg : o.guard = none) (m x v : Operand) (t : TypeId) (hop : o.op = Op.mapUpdate t m x v ∨ o.op = Op.insert t m x v) (k e : TypeId) (hk : P.underlying k = some (.int .i64)) (ht : P.underlying t = some (.map k e)) (he : P.underlying e = some .bool) (b : Nat) (S : List Int) (hn : S.length < maxLen)
    (hm : a.eval m = .map (some b)) (h : Cf P k e w b S) (key : Int) (hx : a.eval x = .int .i64 key) (hv : a.eval v = .bool true) (hwf : (Lit.int .i64 key).wf = true)
    (hK : ∀ w', Cf P k e w' b (S ++ [key]) → w.grownBy w' (some b) → wpList P ops Q rest (a.put o.dst undef) w') : wpList P ops Q (o :: rest) a w := by
  refine wpList_plain hg fun K' hK' => ?_
  obtain ⟨w', hrun, r1, r2⟩ := h.put hk ht he hn hwf
  unfold Oper.wp
  rcases hop with hop | hop <;> simp [execOp, hop, hm, hx, hv, hrun, Result.andThen] <;> exact hK' _ _ (hK w' r1 r2)
theorem wf_i64 {x : Int} (h0 : -9223372036854775808 ≤ x) (h1 : x ≤ 9223372036854775807) : (Lit.int .i64 x).wf = true := by
  simp [Lit.wf, IntKind.min, IntKind.max, IntKind.signed, IntKind.bits]; omega
end Go.Proofs.YtcnmngiaebgjkaaDoorMp

namespace Go.Proofs.YtcnmngiaebgjkaaDoor.X
open Go.RowKit Go.Proofs.YtcnmngiaebgjkaaDoorW.PrintWords Go.Proofs.YtcnmngiaebgjkaaDoorW.PrintLast Go.Proofs.YtcnmngiaebgjkaaDoorW.PrintMore
attribute [local go_sem] Dn Dk D5 Dz Cj Cm Dj Dl
open Go.Proofs.YtcnmngiaebgjkaaDoorG
-- NEEDS impl_within.calls
/-- A row's numbers, put to those seen; none if one is out of range or was seen. -/
def goodRow : List Int → List Int → Option (List Int)
  | S, [] => some S
  | S, n :: r => if 1 ≤ n ∧ n ≤ 99 ∧ ¬ n ∈ S then goodRow (S ++ [n]) r else none
def Hq (m : Int) : List Int → List (List Int) → Bool
  | _, [] => true
  | S, s :: r => if (s.length : Int) > m then false else match goodRow S s with | none => false | some S2 => Hq m S2 r
def Ip (m : Int) (S : List Int) (s : List Int) (r : List (List Int)) : Bool := match goodRow S s with | none => false | some S2 => Hq m S2 r
theorem Jo (m : Int) (S : List Int) (r : List (List Int)) : Ip m S [] r = Hq m S r := rfl
theorem Jl (m : Int) (S : List Int) (n : Int) (s : List Int) (r : List (List Int)) (h1 : 1 ≤ n) (h2 : n ≤ 99) (h3 : decide (n ∈ S) = false) : Ip m S (n :: s) r = Ip m (S ++ [n]) s r := by
  unfold Ip; rw [goodRow, if_pos ⟨h1, h2, of_decide_eq_false h3⟩]
theorem Ii (m : Int) (S : List Int) (n : Int) (s : List Int) (r : List (List Int)) (h : ¬ (1 ≤ n ∧ n ≤ 99) ∨ decide (n ∈ S) = true) : Ip m S (n :: s) r = false := by
  unfold Ip; rw [goodRow, if_neg (fun z => h.elim (fun a => a ⟨z.1, z.2.1⟩) (fun a => z.2.2 (of_decide_eq_true a)))]
theorem Jk (m : Int) (S : List Int) (s : List Int) (r : List (List Int)) (h : (s.length : Int) > m) : Hq m S (s :: r) = false := by rw [Hq, if_pos h]
theorem goodRows_in (m : Int) (S : List Int) (s : List Int) (r : List (List Int)) (h : ¬ (s.length : Int) > m) : Hq m S (s :: r) = Ip m S s r := by rw [Hq, if_neg h]; rfl
theorem within_f (a b c : Int) : Fe.f a b c = some (decide (b ≤ a) && decide (a ≤ c)) := by
  unfold Fe.f
  by_cases h : a ≥ b
  · rw [if_pos h]; simp [show b ≤ a from h]
  · rw [if_neg h]; simp [show ¬ b ≤ a from h]
theorem zeroB_ (w : World) : (zeroValue 4).run Tryd.prog w = .ok (.bool false) w := by kernel_rfl
theorem row_at (l : List (List Int)) (i : Nat) (h : i < l.length) : Bo l (i : Int) = l[i] := by simp [Bo, List.getD_eq_getElem?_getD, List.getElem?_eq_getElem h]
theorem num_at (l : List Int) (i : Nat) (h : i < l.length) : rd l (i : Int) = l[i] := by simp [rd, List.getD_eq_getElem?_getD, List.getElem?_eq_getElem h]
def Hr.f (l0_0 : List (List Int)) : Option Bool := some ((decide (1 ≤ (l0_0.length : Int)) && decide ((l0_0.length : Int) ≤ 6)) && Hq 4 [] l0_0)
set_option maxHeartbeats 8000000 in
set_option maxRecDepth 100000 in
theorem Hr.calls (A0_0 : Option Addr) (c0_0 : Nat) (l0_0 : List (List Int)) (r : Bool) (w : World) (hr : Kd.C (Kd.slice 3 (Kd.int .i64)) w A0_0 l0_0.length l0_0) (hc : l0_0.length ≤ c0_0) (h : Hr.f l0_0 = some r) :
    Calls Tryd.prog 24 #[.agg #[.slice A0_0 l0_0.length c0_0]] w fun e w' => e = .returned (.bool r) ∧ Below w.heap.size w w' := by
  have hu := Tryd.underlying35
  have HR := Ac.mk hr
  clear hr hc
  have HB := Ac.mk (Below.refl w.heap.size w)
  have hmm := @run_makeMap Tryd.prog
  have hL0 : l0_0.length ≤ 9223372036854775807 := HR.out.2.1
  simp only [Hr.f, Option.some.injEq] at h
  have g0 : Fe.f (l0_0.length : Int) 1 6 = some (decide (1 ≤ (l0_0.length : Int)) && decide ((l0_0.length : Int) ≤ 6)) := within_f _ _ _
  have G0 := Ac.mk g0
  clear g0
  cases e0 : (decide (1 ≤ (l0_0.length : Int)) && decide ((l0_0.length : Int) ≤ 6)) with
  | false =>
    have HF := Ac.mk (show r = false by rw [← h]; simp [e0])
    clear h
    rw [e0] at G0
    clear e0
    obtain rfl := HF.out
    go_enter Tryd.func24, Tryd.ntmps24
    go_wp2_with (first | ((with_reducible refine Bd (N := 1) rfl ?_); refine Bc ?hg (N := 1) ?hd (cs := #[.slice A0_0 l0_0.length c0_0]) (t := 35) ?hr ?_; (case hd => rfl); (case hg => rfl); (case hr => first | (go_simp; done) | (go_simp; rfl)); intro gb hg w1 hbox hb; have n0_ := Ac.mk (Ap (by repeat (first | (with_reducible first | exact HB.out | apply Ad | apply Aa | apply Ae) | exact HB.out)) hb); have n3_ := Ac.mk hbox; have GWS := Ac.mk (Nat.le_trans (Am (by repeat (first | (with_reducible first | exact HB.out | apply Ad | apply Aa | apply Ae) | exact HB.out))) hb.size); clear HB; have HB := n0_; have BK := n3_; clear n0_ n3_ hb hbox hg; have hcz0 : w1.cell? ⟨gb, 0, none⟩ = some (.slice A0_0 l0_0.length c0_0) := (Ag BK.out 0).trans rfl; have hca0 : ∀ (nn : Nat) (oo : Obj), ((w1.drewN nn).alloc oo).cell? ⟨gb, 0, none⟩ = some (.slice A0_0 l0_0.length c0_0) := fun nn oo => (Ag (Ai (Aj BK.out nn) oo) 0).trans rfl) | ((with_reducible refine Aw (f := 36) rfl ?_); (try (refine Eb (by rfl) ?_; dsimp only)); refine Be (some 11) rfl rfl Tryd.func36 (by kernel_rfl) rfl #[.int .i64 (l0_0.length : Int), .int .i64 1, .int .i64 6] rfl (by (try simp only [List.map_toArray, List.map_cons, List.map_nil]); first | done | rfl | (simp only [List.length_drop, List.length_take]; rfl)) ?_; (with_reducible refine (Fe.calls (l0_0.length : Int) 1 6 false _ G0.out).mono ?_); rintro e w' ⟨rfl, ⟨nd, rfl⟩⟩; refine ⟨_, rfl, ?_⟩))
    go_ret
    exact ⟨rfl, by repeat (first | (with_reducible first | exact HB.out | apply Ad | apply Aa | apply Ae) | exact HB.out)⟩
  | true =>
    have HG := Ac.mk (show Hq 4 [] l0_0 = r by rw [← h]; simp [e0])
    clear h
    have hL6 : l0_0.length ≤ 6 := by simp at e0; omega
    rw [e0] at G0
    clear e0
    have HL6 := Ac.mk hL6
    clear hL6
    go_enter Tryd.func24, Tryd.ntmps24
    go_wp2_with (first | ((with_reducible refine Bd (N := 1) rfl ?_); refine Bc ?hg (N := 1) ?hd (cs := #[.slice A0_0 l0_0.length c0_0]) (t := 35) ?hr ?_; (case hd => rfl); (case hg => rfl); (case hr => first | (go_simp; done) | (go_simp; rfl)); intro gb hg w1 hbox hb; have n0_ := Ac.mk (Ap (by repeat (first | (with_reducible first | exact HB.out | apply Ad | apply Aa | apply Ae) | exact HB.out)) hb); have n3_ := Ac.mk hbox; have GWS := Ac.mk (Nat.le_trans (Am (by repeat (first | (with_reducible first | exact HB.out | apply Ad | apply Aa | apply Ae) | exact HB.out))) hb.size); clear HB; have HB := n0_; have BK := n3_; clear n0_ n3_ hb hbox hg; have hcz0 : w1.cell? ⟨gb, 0, none⟩ = some (.slice A0_0 l0_0.length c0_0) := (Ag BK.out 0).trans rfl; have hca0 : ∀ (nn : Nat) (oo : Obj), ((w1.drewN nn).alloc oo).cell? ⟨gb, 0, none⟩ = some (.slice A0_0 l0_0.length c0_0) := fun nn oo => (Ag (Ai (Aj BK.out nn) oo) 0).trans rfl) | ((with_reducible refine Aw (f := 36) rfl ?_); (try (refine Eb (by rfl) ?_; dsimp only)); refine Be (some 11) rfl rfl Tryd.func36 (by kernel_rfl) rfl #[.int .i64 (l0_0.length : Int), .int .i64 1, .int .i64 6] rfl (by (try simp only [List.map_toArray, List.map_cons, List.map_nil]); first | done | rfl | (simp only [List.length_drop, List.length_take]; rfl)) ?_; (with_reducible refine (Fe.calls (l0_0.length : Int) 1 6 true _ G0.out).mono ?_); rintro e w' ⟨rfl, ⟨nd, rfl⟩⟩; refine ⟨_, rfl, ?_⟩))
    clear hmm
    have hBK1 := Ag BK.out 0
    have HLT := Ac.mk (Dv BK.out)
    clear hBK1
    go_loopg [17] l0_0.length (fun gg v17 w' => ∃ (i : Nat) (S : List Int), v17 = .int .i64 (i : Int) ∧ Ac (i ≤ l0_0.length ∧ l0_0.length - i ≤ gg ∧ S.length ≤ 4 * i) ∧ Ac (Hq 4 S (l0_0.drop i) = r) ∧ Ac (Go.Proofs.YtcnmngiaebgjkaaDoorMp.Cf Tryd.prog 3 4 w' w1.heap.size S) ∧ Ac (w'.heap[gb]? = some (.cells #[.slice A0_0 l0_0.length c0_0] 35 (0, 0))) ∧ Ac (Below w.heap.size w w'))
    case atStart => exact ⟨0, [], rfl, ⟨by omega, by omega, by simp⟩, HG, ⟨Go.Proofs.YtcnmngiaebgjkaaDoorMp.Cf.made _ _ _ _⟩, ⟨by (with_reducible repeat (first | refine Aj ?_ _ | refine Ak ?_ | refine Ai ?_ _)); exact BK.out⟩, ⟨by repeat (first | (with_reducible first | exact HB.out | apply Ad | apply Aa | apply Ae) | exact HB.out)⟩⟩
    case round =>
      clear HG HB BK hcz0 hca0
      obtain ⟨i, S, rfl, HI, HG, HM, BK, HB⟩ := hrel
      have hi := HI.out
      by_cases c1 : i < l0_0.length
      · have c1b : decide ((i : Int) < (l0_0.length : Int)) = true := decide_eq_true (by omega)
        have c1c : decide (i < l0_0.length) = true := decide_eq_true c1
        obtain ⟨ad, Ar, cr, er, hx, hcl, hrr⟩ := Gm HR.out (i : Int) (by omega) (by omega)
        cases er
        replace hx := (HB.out.cell (World.block_lt_of_cell? w _ hx)).trans hx
        rw [row_at l0_0 i c1] at hx hcl hrr
        rw [Int.toNat_natCast] at hx
        have HRR := Ac.mk hrr
        have hdr : l0_0.drop i = l0_0[i] :: l0_0.drop (i + 1) := List.drop_eq_getElem_cons c1
        rw [hdr] at HG
        obtain ⟨row, hrow⟩ : ∃ row, row = l0_0[i] := ⟨_, rfl⟩
        rw [← hrow] at HG hx HRR
        clear hrr hcl hdr hrow
        have C1 := Ac.mk c1
        have HV := Ac.mk (show wrap64 ((i : Int) + 1) = (i : Int) + 1 by unfold wrap64; omega)
        have hr9 : row.length ≤ 9223372036854775807 := HRR.out.2.1
        have pi : (0 ≤ (i : Int)) = True := eq_true (by omega)
        have qi : ((i : Int) < (l0_0.length : Int)) = True := eq_true (by omega)
        have qi2 : (i < l0_0.length) = True := eq_true c1
        clear c1 hi
        have hcy0 : wr.cell? ⟨gb, 0, none⟩ = some (.slice (some ad) l0_0.length c0_0) := (Ag BK.out 0).trans rfl
        by_cases c2 : (row.length : Int) > 4
        · have HF := Ac.mk (HG.out.symm.trans (Jk 4 S row _ c2))
          have c2b : decide (4 < (row.length : Int)) = true := decide_eq_true c2
          have c2c : decide (4 < row.length) = true := decide_eq_true (by omega)
          clear c2
          obtain rfl := HF.out
          go_wp2
          go_ret
          exact ⟨rfl, by repeat (first | (with_reducible first | exact HB.out | apply Ad | apply Aa | apply Ae) | exact HB.out)⟩
        · have HG2 := Ac.mk ((goodRows_in 4 S row _ c2).symm.trans HG.out)
          have c2b : decide (4 < (row.length : Int)) = false := decide_eq_false c2
          have c2c : decide (4 < row.length) = false := decide_eq_false (by omega)
          have hr4 : row.length ≤ 4 := by omega
          have HR4 := Ac.mk hr4
          clear hr4 c2 HG
          go_wp2
          clear c2b c2c
          go_loopg [26] row.length (fun gg v26 w' => ∃ (k : Nat) (S2 : List Int), v26 = .int .i64 (k : Int) ∧ Ac (k ≤ row.length ∧ row.length - k ≤ gg ∧ S2.length ≤ 4 * i + k) ∧ Ac (Ip 4 S2 (row.drop k) (l0_0.drop (i + 1)) = r) ∧ Ac (Go.Proofs.YtcnmngiaebgjkaaDoorMp.Cf Tryd.prog 3 4 w' w1.heap.size S2) ∧ Ac (w'.heap[gb]? = some (.cells #[.slice (some ad) l0_0.length c0_0] 35 (0, 0))) ∧ Ac (Below w.heap.size w w'))
          case atStart => exact ⟨0, S, rfl, ⟨by omega, by omega, by have := HI.out; omega⟩, HG2, ⟨by (with_reducible repeat (first | apply Go.Proofs.YtcnmngiaebgjkaaDoorMp.Cf.alloc | apply Go.Proofs.YtcnmngiaebgjkaaDoorMp.Cf.drewN | apply Go.Proofs.YtcnmngiaebgjkaaDoorMp.Cf.drew)); exact HM.out⟩, ⟨by (with_reducible repeat (first | refine Aj ?_ _ | refine Ak ?_ | refine Ai ?_ _)); exact BK.out⟩, ⟨by repeat (first | (with_reducible first | exact HB.out | apply Ad | apply Aa | apply Ae) | exact HB.out)⟩⟩
          case round =>
            clear HG2 HM HB BK hx hcy0
            obtain ⟨k, S2, rfl, HK, HG, HM, BK, HB⟩ := hrel
            have hk := HK.out
            by_cases c3 : k < row.length
            · have c3b : decide ((k : Int) < (row.length : Int)) = true := decide_eq_true (by omega)
              have c3c : decide (k < row.length) = true := decide_eq_true c3
              obtain ⟨ad2, e2, hy⟩ := Kd.Ho HRR.out (k : Int) (by omega) (by omega)
              cases e2
              replace hy := (HB.out.cell (World.block_lt_of_cell? w _ hy)).trans hy
              rw [num_at row k c3] at hy
              rw [Int.toNat_natCast] at hy
              have hdr : row.drop k = row[k] :: row.drop (k + 1) := List.drop_eq_getElem_cons c3
              rw [hdr] at HG
              obtain ⟨n, hn⟩ : ∃ n, n = row[k] := ⟨_, rfl⟩
              rw [← hn] at HG hy
              clear hdr hn
              have C3 := Ac.mk c3
              have HW := Ac.mk (show wrap64 ((k : Int) + 1) = (k : Int) + 1 by unfold wrap64; omega)
              have pk : (0 ≤ (k : Int)) = True := eq_true (by omega)
              have qk : ((k : Int) < (row.length : Int)) = True := eq_true (by omega)
              have qk2 : (k < row.length) = True := eq_true c3
              clear c3 hk
              have GW := Ac.mk (within_f n 1 99)
              cases c4 : (decide (1 ≤ n) && decide (n ≤ 99)) with
              | false =>
                have HF := Ac.mk (HG.out.symm.trans (Ii 4 S2 n _ _ (.inl (fun z => by simp [z.1, z.2] at c4))))
                rw [c4] at GW
                clear c4
                obtain rfl := HF.out
                go_wp2_with (first | ((with_reducible refine Aw (f := 36) rfl ?_); (try (refine Eb (by rfl) ?_; dsimp only)); refine Be (some 31) rfl rfl Tryd.func36 (by kernel_rfl) rfl #[.int .i64 n, .int .i64 1, .int .i64 99] rfl (by (try simp only [List.map_toArray, List.map_cons, List.map_nil]); first | done | rfl | (simp only [List.length_drop, List.length_take]; rfl)) ?_; (with_reducible refine (Fe.calls n 1 99 false _ GW.out).mono ?_); rintro e w' ⟨rfl, ⟨nd, rfl⟩⟩; refine ⟨_, rfl, ?_⟩))
                go_ret
                exact ⟨rfl, by repeat (first | (with_reducible first | exact HB.out | apply Ad | apply Aa | apply Ae) | exact HB.out)⟩
              | true =>
                have hn1 : 1 ≤ n ∧ n ≤ 99 := by simpa using c4
                have HN := Ac.mk hn1
                clear hn1
                rw [c4] at GW
                clear c4
                have hlk := fun nn => (Go.Proofs.YtcnmngiaebgjkaaDoorMp.Cf.drewN HM.out nn).look (t := 72) Tryd.underlying3 Tryd.underlying72 Tryd.underlying4 (zeroB_ _) (x := n) (Go.Proofs.YtcnmngiaebgjkaaDoorMp.wf_i64 (by have := HN.out; omega) (by have := HN.out; omega))
                cases c5 : decide (n ∈ S2) with
                | true =>
                  have HF := Ac.mk (HG.out.symm.trans (Ii 4 S2 n _ _ (.inr c5)))
                  rw [c5] at hlk
                  clear c5
                  obtain rfl := HF.out
                  go_wp2_with (first | ((with_reducible refine Aw (f := 36) rfl ?_); (try (refine Eb (by rfl) ?_; dsimp only)); refine Be (some 31) rfl rfl Tryd.func36 (by kernel_rfl) rfl #[.int .i64 n, .int .i64 1, .int .i64 99] rfl (by (try simp only [List.map_toArray, List.map_cons, List.map_nil]); first | done | rfl | (simp only [List.length_drop, List.length_take]; rfl)) ?_; (with_reducible refine (Fe.calls n 1 99 true _ GW.out).mono ?_); rintro e w' ⟨rfl, ⟨nd, rfl⟩⟩; refine ⟨_, rfl, ?_⟩))
                  go_ret
                  exact ⟨rfl, by repeat (first | (with_reducible first | exact HB.out | apply Ad | apply Aa | apply Ae) | exact HB.out)⟩
                | false =>
                  have HG3 := Ac.mk ((Jl 4 S2 n _ _ HN.out.1 HN.out.2 c5).symm.trans HG.out)
                  rw [c5] at hlk
                  clear c5 HG
                  go_wp2_with (first | ((with_reducible refine Aw (f := 36) rfl ?_); (try (refine Eb (by rfl) ?_; dsimp only)); refine Be (some 31) rfl rfl Tryd.func36 (by kernel_rfl) rfl #[.int .i64 n, .int .i64 1, .int .i64 99] rfl (by (try simp only [List.map_toArray, List.map_cons, List.map_nil]); first | done | rfl | (simp only [List.length_drop, List.length_take]; rfl)) ?_; (with_reducible refine (Fe.calls n 1 99 true _ GW.out).mono ?_); rintro e w' ⟨rfl, ⟨nd, rfl⟩⟩; refine ⟨_, rfl, ?_⟩) | (at_mapUpdate; refine Go.Proofs.YtcnmngiaebgjkaaDoorMp.Jf _ rfl _ _ _ 72 (.inl rfl) 3 4 Tryd.underlying3 Tryd.underlying72 Tryd.underlying4 w1.heap.size S2 (by have := HK.out; have := C1.out; have := HL6.out; have := HR4.out; unfold maxLen; omega) rfl (by (with_reducible repeat (first | apply Go.Proofs.YtcnmngiaebgjkaaDoorMp.Cf.alloc | apply Go.Proofs.YtcnmngiaebgjkaaDoorMp.Cf.drewN | apply Go.Proofs.YtcnmngiaebgjkaaDoorMp.Cf.drew)); exact HM.out) n rfl rfl (Go.Proofs.YtcnmngiaebgjkaaDoorMp.wf_i64 (by have := HN.out; omega) (by have := HN.out; omega)) ?_; intro w8 hs8 hg8; have n0_ := Ac.mk hs8; have n1_ := Ac.mk (Jc (by (with_reducible repeat (first | refine Aj ?_ _ | refine Ak ?_ | refine Ai ?_ _)); exact BK.out) hg8 (by have := HLT.out; intro e_; injection e_ with e_; omega)); have n2_ := Ac.mk (Below.grown (by repeat (first | (with_reducible first | exact HB.out | apply Ad | apply Aa | apply Ae) | exact HB.out)) hg8 (Am (by repeat (first | (with_reducible first | exact HB.out | apply Ad | apply Aa | apply Ae) | exact HB.out))) (fun j hj => by cases hj; exact GWS.out)); clear HM BK HB; have HM := n0_; have BK := n1_; have HB := n2_; clear n0_ n1_ n2_ hs8 hg8))
                  go_roundg (row.length - (k + 1))
                  case measure => have := HK.out; have := C3.out; omega
                  case rel => exact ⟨k + 1, S2 ++ [n], by rw [HW.out]; rfl, ⟨by have := C3.out; omega, by omega, by have := HK.out; simp; omega⟩, HG3, ⟨by (with_reducible repeat (first | apply Go.Proofs.YtcnmngiaebgjkaaDoorMp.Cf.alloc | apply Go.Proofs.YtcnmngiaebgjkaaDoorMp.Cf.drewN | apply Go.Proofs.YtcnmngiaebgjkaaDoorMp.Cf.drew)); exact HM.out⟩, ⟨by (with_reducible repeat (first | refine Aj ?_ _ | refine Ak ?_ | refine Ai ?_ _)); exact BK.out⟩, ⟨by repeat (first | (with_reducible first | exact HB.out | apply Ad | apply Aa | apply Ae) | exact HB.out)⟩⟩
            · have c3b : decide ((k : Int) < (row.length : Int)) = false := decide_eq_false (by omega)
              have c3c : decide (k < row.length) = false := decide_eq_false c3
              have hdr : row.drop k = [] := List.drop_of_length_le (by omega)
              rw [hdr, Jo] at HG
              have HKE := Ac.mk (show k = row.length by omega)
              clear hdr c3 hk
              go_wp2
              go_roundg (l0_0.length - (i + 1))
              case measure => have := HI.out; have := C1.out; omega
              case rel => exact ⟨i + 1, S2, by rw [HV.out]; rfl, ⟨by have := C1.out; omega, by omega, by have := HK.out; have := HR4.out; omega⟩, HG, ⟨by (with_reducible repeat (first | apply Go.Proofs.YtcnmngiaebgjkaaDoorMp.Cf.alloc | apply Go.Proofs.YtcnmngiaebgjkaaDoorMp.Cf.drewN | apply Go.Proofs.YtcnmngiaebgjkaaDoorMp.Cf.drew)); exact HM.out⟩, ⟨by (with_reducible repeat (first | refine Aj ?_ _ | refine Ak ?_ | refine Ai ?_ _)); exact BK.out⟩, ⟨by repeat (first | (with_reducible first | exact HB.out | apply Ad | apply Aa | apply Ae) | exact HB.out)⟩⟩
      · have c1b : decide ((i : Int) < (l0_0.length : Int)) = false := decide_eq_false (by omega)
        have c1c : decide (i < l0_0.length) = false := decide_eq_false c1
        have hdr : l0_0.drop i = [] := List.drop_of_length_le (by omega)
        rw [hdr] at HG
        clear hdr c1 hi
        obtain rfl := HG.out
        go_wp2
        go_ret
        exact ⟨rfl, by repeat (first | (with_reducible first | exact HB.out | apply Ad | apply Aa | apply Ae) | exact HB.out)⟩
def Hg.f (a0_0 : Int) (l0_1 : List (List Int)) : Option Bool := some ((decide (1 ≤ a0_0) && decide (a0_0 ≤ 4)) && (decide (1 ≤ (l0_1.length : Int)) && decide ((l0_1.length : Int) ≤ 5)) && Hq a0_0 [] l0_1)
set_option maxHeartbeats 8000000 in
set_option maxRecDepth 100000 in
theorem Hg.calls (a0_0 : Int) (A0_1 : Option Addr) (c0_1 : Nat) (l0_1 : List (List Int)) (r : Bool) (w : World) (hr : Kd.C (Kd.slice 3 (Kd.int .i64)) w A0_1 l0_1.length l0_1) (hc : l0_1.length ≤ c0_1) (h : Hg.f a0_0 l0_1 = some r) :
    Calls Tryd.prog 25 #[.agg #[.int .i64 a0_0, .slice A0_1 l0_1.length c0_1]] w fun e w' => e = .returned (.bool r) ∧ Below w.heap.size w w' := by
  have hu := Tryd.underlying36
  have HR := Ac.mk hr
  clear hr hc
  have HB := Ac.mk (Below.refl w.heap.size w)
  have hmm := @run_makeMap Tryd.prog
  have hL0 : l0_1.length ≤ 9223372036854775807 := HR.out.2.1
  simp only [Hg.f, Option.some.injEq] at h
  have g0 : Fe.f a0_0 1 4 = some (decide (1 ≤ a0_0) && decide (a0_0 ≤ 4)) := within_f _ _ _
  have G0 := Ac.mk g0
  clear g0
  have g1 : Fe.f (l0_1.length : Int) 1 5 = some (decide (1 ≤ (l0_1.length : Int)) && decide ((l0_1.length : Int) ≤ 5)) := within_f _ _ _
  have G1 := Ac.mk g1
  clear g1
  cases e0 : (decide (1 ≤ a0_0) && decide (a0_0 ≤ 4)) with
  | false =>
    have HF := Ac.mk (show r = false by rw [← h]; simp [e0])
    clear h
    rw [e0] at G0
    clear e0
    obtain rfl := HF.out
    go_enter Tryd.func25, Tryd.ntmps25
    go_wp2_with (first | ((with_reducible refine Bd (N := 1) rfl ?_); refine Bc ?hg (N := 1) ?hd (cs := #[.int .i64 a0_0, .slice A0_1 l0_1.length c0_1]) (t := 36) ?hr ?_; (case hd => rfl); (case hg => rfl); (case hr => first | (go_simp; done) | (go_simp; rfl)); intro gb hg w1 hbox hb; have n0_ := Ac.mk (Ap (by repeat (first | (with_reducible first | exact HB.out | apply Ad | apply Aa | apply Ae) | exact HB.out)) hb); have n3_ := Ac.mk hbox; have GWS := Ac.mk (Nat.le_trans (Am (by repeat (first | (with_reducible first | exact HB.out | apply Ad | apply Aa | apply Ae) | exact HB.out))) hb.size); clear HB; have HB := n0_; have BK := n3_; clear n0_ n3_ hb hbox hg; have hcz0 : w1.cell? ⟨gb, 0, none⟩ = some (.int .i64 a0_0) := (Ag BK.out 0).trans rfl; have hcz1 : w1.cell? ⟨gb, 1, none⟩ = some (.slice A0_1 l0_1.length c0_1) := (Ag BK.out 1).trans rfl; have hca0 : ∀ (nn : Nat) (oo : Obj), ((w1.drewN nn).alloc oo).cell? ⟨gb, 0, none⟩ = some (.int .i64 a0_0) := fun nn oo => (Ag (Ai (Aj BK.out nn) oo) 0).trans rfl; have hca1 : ∀ (nn : Nat) (oo : Obj), ((w1.drewN nn).alloc oo).cell? ⟨gb, 1, none⟩ = some (.slice A0_1 l0_1.length c0_1) := fun nn oo => (Ag (Ai (Aj BK.out nn) oo) 1).trans rfl) | ((with_reducible refine Aw (f := 36) rfl ?_); (try (refine Eb (by rfl) ?_; dsimp only)); refine Be (some 10) rfl rfl Tryd.func36 (by kernel_rfl) rfl #[.int .i64 a0_0, .int .i64 1, .int .i64 4] rfl (by (try simp only [List.map_toArray, List.map_cons, List.map_nil]); first | done | rfl | (simp only [List.length_drop, List.length_take]; rfl)) ?_; (with_reducible refine (Fe.calls a0_0 1 4 false _ G0.out).mono ?_); rintro e w' ⟨rfl, ⟨nd, rfl⟩⟩; refine ⟨_, rfl, ?_⟩))
    go_ret
    exact ⟨rfl, by repeat (first | (with_reducible first | exact HB.out | apply Ad | apply Aa | apply Ae) | exact HB.out)⟩
  | true =>
    cases e1 : (decide (1 ≤ (l0_1.length : Int)) && decide ((l0_1.length : Int) ≤ 5)) with
    | false =>
      have HF := Ac.mk (show r = false by rw [← h]; simp [e0, e1])
      clear h
      rw [e0] at G0
      rw [e1] at G1
      clear e0 e1
      obtain rfl := HF.out
      go_enter Tryd.func25, Tryd.ntmps25
      go_wp2_with (first | ((with_reducible refine Bd (N := 1) rfl ?_); refine Bc ?hg (N := 1) ?hd (cs := #[.int .i64 a0_0, .slice A0_1 l0_1.length c0_1]) (t := 36) ?hr ?_; (case hd => rfl); (case hg => rfl); (case hr => first | (go_simp; done) | (go_simp; rfl)); intro gb hg w1 hbox hb; have n0_ := Ac.mk (Ap (by repeat (first | (with_reducible first | exact HB.out | apply Ad | apply Aa | apply Ae) | exact HB.out)) hb); have n3_ := Ac.mk hbox; have GWS := Ac.mk (Nat.le_trans (Am (by repeat (first | (with_reducible first | exact HB.out | apply Ad | apply Aa | apply Ae) | exact HB.out))) hb.size); clear HB; have HB := n0_; have BK := n3_; clear n0_ n3_ hb hbox hg; have hcz0 : w1.cell? ⟨gb, 0, none⟩ = some (.int .i64 a0_0) := (Ag BK.out 0).trans rfl; have hcz1 : w1.cell? ⟨gb, 1, none⟩ = some (.slice A0_1 l0_1.length c0_1) := (Ag BK.out 1).trans rfl; have hca0 : ∀ (nn : Nat) (oo : Obj), ((w1.drewN nn).alloc oo).cell? ⟨gb, 0, none⟩ = some (.int .i64 a0_0) := fun nn oo => (Ag (Ai (Aj BK.out nn) oo) 0).trans rfl; have hca1 : ∀ (nn : Nat) (oo : Obj), ((w1.drewN nn).alloc oo).cell? ⟨gb, 1, none⟩ = some (.slice A0_1 l0_1.length c0_1) := fun nn oo => (Ag (Ai (Aj BK.out nn) oo) 1).trans rfl) | ((with_reducible refine Aw (f := 36) rfl ?_); (try (refine Eb (by rfl) ?_; dsimp only)); refine Be (some 10) rfl rfl Tryd.func36 (by kernel_rfl) rfl #[.int .i64 a0_0, .int .i64 1, .int .i64 4] rfl (by (try simp only [List.map_toArray, List.map_cons, List.map_nil]); first | done | rfl | (simp only [List.length_drop, List.length_take]; rfl)) ?_; (with_reducible refine (Fe.calls a0_0 1 4 true _ G0.out).mono ?_); rintro e w' ⟨rfl, ⟨nd, rfl⟩⟩; refine ⟨_, rfl, ?_⟩) | ((with_reducible refine Aw (f := 36) rfl ?_); (try (refine Eb (by rfl) ?_; dsimp only)); refine Be (some 16) rfl rfl Tryd.func36 (by kernel_rfl) rfl #[.int .i64 (l0_1.length : Int), .int .i64 1, .int .i64 5] rfl (by (try simp only [List.map_toArray, List.map_cons, List.map_nil]); first | done | rfl | (simp only [List.length_drop, List.length_take]; rfl)) ?_; (with_reducible refine (Fe.calls (l0_1.length : Int) 1 5 false _ G1.out).mono ?_); rintro e w' ⟨rfl, ⟨nd, rfl⟩⟩; refine ⟨_, rfl, ?_⟩))
      go_ret
      exact ⟨rfl, by repeat (first | (with_reducible first | exact HB.out | apply Ad | apply Aa | apply Ae) | exact HB.out)⟩
    | true =>
      have HG := Ac.mk (show Hq a0_0 [] l0_1 = r by rw [← h]; simp [e0, e1])
      clear h
      have hm4 : (a0_0 : Int) ≤ 4 := by simp at e0; omega
      have hL6 : l0_1.length ≤ 6 := by simp at e1; omega
      rw [e0] at G0
      rw [e1] at G1
      clear e0 e1
      have HL6 := Ac.mk hL6
      clear hL6
      have HM4 := Ac.mk hm4
      clear hm4
      go_enter Tryd.func25, Tryd.ntmps25
      go_wp2_with (first | ((with_reducible refine Bd (N := 1) rfl ?_); refine Bc ?hg (N := 1) ?hd (cs := #[.int .i64 a0_0, .slice A0_1 l0_1.length c0_1]) (t := 36) ?hr ?_; (case hd => rfl); (case hg => rfl); (case hr => first | (go_simp; done) | (go_simp; rfl)); intro gb hg w1 hbox hb; have n0_ := Ac.mk (Ap (by repeat (first | (with_reducible first | exact HB.out | apply Ad | apply Aa | apply Ae) | exact HB.out)) hb); have n3_ := Ac.mk hbox; have GWS := Ac.mk (Nat.le_trans (Am (by repeat (first | (with_reducible first | exact HB.out | apply Ad | apply Aa | apply Ae) | exact HB.out))) hb.size); clear HB; have HB := n0_; have BK := n3_; clear n0_ n3_ hb hbox hg; have hcz0 : w1.cell? ⟨gb, 0, none⟩ = some (.int .i64 a0_0) := (Ag BK.out 0).trans rfl; have hcz1 : w1.cell? ⟨gb, 1, none⟩ = some (.slice A0_1 l0_1.length c0_1) := (Ag BK.out 1).trans rfl; have hca0 : ∀ (nn : Nat) (oo : Obj), ((w1.drewN nn).alloc oo).cell? ⟨gb, 0, none⟩ = some (.int .i64 a0_0) := fun nn oo => (Ag (Ai (Aj BK.out nn) oo) 0).trans rfl; have hca1 : ∀ (nn : Nat) (oo : Obj), ((w1.drewN nn).alloc oo).cell? ⟨gb, 1, none⟩ = some (.slice A0_1 l0_1.length c0_1) := fun nn oo => (Ag (Ai (Aj BK.out nn) oo) 1).trans rfl) | ((with_reducible refine Aw (f := 36) rfl ?_); (try (refine Eb (by rfl) ?_; dsimp only)); refine Be (some 10) rfl rfl Tryd.func36 (by kernel_rfl) rfl #[.int .i64 a0_0, .int .i64 1, .int .i64 4] rfl (by (try simp only [List.map_toArray, List.map_cons, List.map_nil]); first | done | rfl | (simp only [List.length_drop, List.length_take]; rfl)) ?_; (with_reducible refine (Fe.calls a0_0 1 4 true _ G0.out).mono ?_); rintro e w' ⟨rfl, ⟨nd, rfl⟩⟩; refine ⟨_, rfl, ?_⟩) | ((with_reducible refine Aw (f := 36) rfl ?_); (try (refine Eb (by rfl) ?_; dsimp only)); refine Be (some 16) rfl rfl Tryd.func36 (by kernel_rfl) rfl #[.int .i64 (l0_1.length : Int), .int .i64 1, .int .i64 5] rfl (by (try simp only [List.map_toArray, List.map_cons, List.map_nil]); first | done | rfl | (simp only [List.length_drop, List.length_take]; rfl)) ?_; (with_reducible refine (Fe.calls (l0_1.length : Int) 1 5 true _ G1.out).mono ?_); rintro e w' ⟨rfl, ⟨nd, rfl⟩⟩; refine ⟨_, rfl, ?_⟩))
      clear hmm
      have hBK1 := Ag BK.out 0
      have HLT := Ac.mk (Dv BK.out)
      clear hBK1
      go_loopg [23] l0_1.length (fun gg v23 w' => ∃ (i : Nat) (S : List Int), v23 = .int .i64 (i : Int) ∧ Ac (i ≤ l0_1.length ∧ l0_1.length - i ≤ gg ∧ S.length ≤ 4 * i) ∧ Ac (Hq a0_0 S (l0_1.drop i) = r) ∧ Ac (Go.Proofs.YtcnmngiaebgjkaaDoorMp.Cf Tryd.prog 3 4 w' w1.heap.size S) ∧ Ac (w'.heap[gb]? = some (.cells #[.int .i64 a0_0, .slice A0_1 l0_1.length c0_1] 36 (0, 0))) ∧ Ac (Below w.heap.size w w'))
      case atStart => exact ⟨0, [], rfl, ⟨by omega, by omega, by simp⟩, HG, ⟨Go.Proofs.YtcnmngiaebgjkaaDoorMp.Cf.made _ _ _ _⟩, ⟨by (with_reducible repeat (first | refine Aj ?_ _ | refine Ak ?_ | refine Ai ?_ _)); exact BK.out⟩, ⟨by repeat (first | (with_reducible first | exact HB.out | apply Ad | apply Aa | apply Ae) | exact HB.out)⟩⟩
      case round =>
        clear HG HB BK hcz0 hca0 hcz1 hca1
        obtain ⟨i, S, rfl, HI, HG, HM, BK, HB⟩ := hrel
        have hi := HI.out
        by_cases c1 : i < l0_1.length
        · have c1b : decide ((i : Int) < (l0_1.length : Int)) = true := decide_eq_true (by omega)
          have c1c : decide (i < l0_1.length) = true := decide_eq_true c1
          obtain ⟨ad, Ar, cr, er, hx, hcl, hrr⟩ := Gm HR.out (i : Int) (by omega) (by omega)
          cases er
          replace hx := (HB.out.cell (World.block_lt_of_cell? w _ hx)).trans hx
          rw [row_at l0_1 i c1] at hx hcl hrr
          rw [Int.toNat_natCast] at hx
          have HRR := Ac.mk hrr
          have hdr : l0_1.drop i = l0_1[i] :: l0_1.drop (i + 1) := List.drop_eq_getElem_cons c1
          rw [hdr] at HG
          obtain ⟨row, hrow⟩ : ∃ row, row = l0_1[i] := ⟨_, rfl⟩
          rw [← hrow] at HG hx HRR
          clear hrr hcl hdr hrow
          have C1 := Ac.mk c1
          have HV := Ac.mk (show wrap64 ((i : Int) + 1) = (i : Int) + 1 by unfold wrap64; omega)
          have hr9 : row.length ≤ 9223372036854775807 := HRR.out.2.1
          have pi : (0 ≤ (i : Int)) = True := eq_true (by omega)
          have qi : ((i : Int) < (l0_1.length : Int)) = True := eq_true (by omega)
          have qi2 : (i < l0_1.length) = True := eq_true c1
          clear c1 hi
          have hcy0 : wr.cell? ⟨gb, 0, none⟩ = some (.int .i64 a0_0) := (Ag BK.out 0).trans rfl
          have hcy1 : wr.cell? ⟨gb, 1, none⟩ = some (.slice (some ad) l0_1.length c0_1) := (Ag BK.out 1).trans rfl
          by_cases c2 : (row.length : Int) > a0_0
          · have HF := Ac.mk (HG.out.symm.trans (Jk a0_0 S row _ c2))
            have c2b : decide (a0_0 < (row.length : Int)) = true := decide_eq_true c2
            clear c2
            obtain rfl := HF.out
            go_wp2
            go_ret
            exact ⟨rfl, by repeat (first | (with_reducible first | exact HB.out | apply Ad | apply Aa | apply Ae) | exact HB.out)⟩
          · have HG2 := Ac.mk ((goodRows_in a0_0 S row _ c2).symm.trans HG.out)
            have c2b : decide (a0_0 < (row.length : Int)) = false := decide_eq_false c2
            have hr4 : row.length ≤ 4 := by have := HM4.out; omega
            have HR4 := Ac.mk hr4
            clear hr4 c2 HG
            go_wp2
            clear c2b
            go_loopg [34] row.length (fun gg v34 w' => ∃ (k : Nat) (S2 : List Int), v34 = .int .i64 (k : Int) ∧ Ac (k ≤ row.length ∧ row.length - k ≤ gg ∧ S2.length ≤ 4 * i + k) ∧ Ac (Ip a0_0 S2 (row.drop k) (l0_1.drop (i + 1)) = r) ∧ Ac (Go.Proofs.YtcnmngiaebgjkaaDoorMp.Cf Tryd.prog 3 4 w' w1.heap.size S2) ∧ Ac (w'.heap[gb]? = some (.cells #[.int .i64 a0_0, .slice (some ad) l0_1.length c0_1] 36 (0, 0))) ∧ Ac (Below w.heap.size w w'))
            case atStart => exact ⟨0, S, rfl, ⟨by omega, by omega, by have := HI.out; omega⟩, HG2, ⟨by (with_reducible repeat (first | apply Go.Proofs.YtcnmngiaebgjkaaDoorMp.Cf.alloc | apply Go.Proofs.YtcnmngiaebgjkaaDoorMp.Cf.drewN | apply Go.Proofs.YtcnmngiaebgjkaaDoorMp.Cf.drew)); exact HM.out⟩, ⟨by (with_reducible repeat (first | refine Aj ?_ _ | refine Ak ?_ | refine Ai ?_ _)); exact BK.out⟩, ⟨by repeat (first | (with_reducible first | exact HB.out | apply Ad | apply Aa | apply Ae) | exact HB.out)⟩⟩
            case round =>
              clear HG2 HM HB BK hx hcy0 hcy1
              obtain ⟨k, S2, rfl, HK, HG, HM, BK, HB⟩ := hrel
              have hk := HK.out
              by_cases c3 : k < row.length
              · have c3b : decide ((k : Int) < (row.length : Int)) = true := decide_eq_true (by omega)
                have c3c : decide (k < row.length) = true := decide_eq_true c3
                obtain ⟨ad2, e2, hy⟩ := Kd.Ho HRR.out (k : Int) (by omega) (by omega)
                cases e2
                replace hy := (HB.out.cell (World.block_lt_of_cell? w _ hy)).trans hy
                rw [num_at row k c3] at hy
                rw [Int.toNat_natCast] at hy
                have hdr : row.drop k = row[k] :: row.drop (k + 1) := List.drop_eq_getElem_cons c3
                rw [hdr] at HG
                obtain ⟨n, hn⟩ : ∃ n, n = row[k] := ⟨_, rfl⟩
                rw [← hn] at HG hy
                clear hdr hn
                have C3 := Ac.mk c3
                have HW := Ac.mk (show wrap64 ((k : Int) + 1) = (k : Int) + 1 by unfold wrap64; omega)
                have pk : (0 ≤ (k : Int)) = True := eq_true (by omega)
                have qk : ((k : Int) < (row.length : Int)) = True := eq_true (by omega)
                have qk2 : (k < row.length) = True := eq_true c3
                clear c3 hk
                have GW := Ac.mk (within_f n 1 99)
                cases c4 : (decide (1 ≤ n) && decide (n ≤ 99)) with
                | false =>
                  have HF := Ac.mk (HG.out.symm.trans (Ii a0_0 S2 n _ _ (.inl (fun z => by simp [z.1, z.2] at c4))))
                  rw [c4] at GW
                  clear c4
                  obtain rfl := HF.out
                  go_wp2_with (first | ((with_reducible refine Aw (f := 36) rfl ?_); (try (refine Eb (by rfl) ?_; dsimp only)); refine Be (some 39) rfl rfl Tryd.func36 (by kernel_rfl) rfl #[.int .i64 n, .int .i64 1, .int .i64 99] rfl (by (try simp only [List.map_toArray, List.map_cons, List.map_nil]); first | done | rfl | (simp only [List.length_drop, List.length_take]; rfl)) ?_; (with_reducible refine (Fe.calls n 1 99 false _ GW.out).mono ?_); rintro e w' ⟨rfl, ⟨nd, rfl⟩⟩; refine ⟨_, rfl, ?_⟩))
                  go_ret
                  exact ⟨rfl, by repeat (first | (with_reducible first | exact HB.out | apply Ad | apply Aa | apply Ae) | exact HB.out)⟩
                | true =>
                  have hn1 : 1 ≤ n ∧ n ≤ 99 := by simpa using c4
                  have HN := Ac.mk hn1
                  clear hn1
                  rw [c4] at GW
                  clear c4
                  have hlk := fun nn => (Go.Proofs.YtcnmngiaebgjkaaDoorMp.Cf.drewN HM.out nn).look (t := 72) Tryd.underlying3 Tryd.underlying72 Tryd.underlying4 (zeroB_ _) (x := n) (Go.Proofs.YtcnmngiaebgjkaaDoorMp.wf_i64 (by have := HN.out; omega) (by have := HN.out; omega))
                  cases c5 : decide (n ∈ S2) with
                  | true =>
                    have HF := Ac.mk (HG.out.symm.trans (Ii a0_0 S2 n _ _ (.inr c5)))
                    rw [c5] at hlk
                    clear c5
                    obtain rfl := HF.out
                    go_wp2_with (first | ((with_reducible refine Aw (f := 36) rfl ?_); (try (refine Eb (by rfl) ?_; dsimp only)); refine Be (some 39) rfl rfl Tryd.func36 (by kernel_rfl) rfl #[.int .i64 n, .int .i64 1, .int .i64 99] rfl (by (try simp only [List.map_toArray, List.map_cons, List.map_nil]); first | done | rfl | (simp only [List.length_drop, List.length_take]; rfl)) ?_; (with_reducible refine (Fe.calls n 1 99 true _ GW.out).mono ?_); rintro e w' ⟨rfl, ⟨nd, rfl⟩⟩; refine ⟨_, rfl, ?_⟩))
                    go_ret
                    exact ⟨rfl, by repeat (first | (with_reducible first | exact HB.out | apply Ad | apply Aa | apply Ae) | exact HB.out)⟩
                  | false =>
                    have HG3 := Ac.mk ((Jl a0_0 S2 n _ _ HN.out.1 HN.out.2 c5).symm.trans HG.out)
                    rw [c5] at hlk
                    clear c5 HG
                    go_wp2_with (first | ((with_reducible refine Aw (f := 36) rfl ?_); (try (refine Eb (by rfl) ?_; dsimp only)); refine Be (some 39) rfl rfl Tryd.func36 (by kernel_rfl) rfl #[.int .i64 n, .int .i64 1, .int .i64 99] rfl (by (try simp only [List.map_toArray, List.map_cons, List.map_nil]); first | done | rfl | (simp only [List.length_drop, List.length_take]; rfl)) ?_; (with_reducible refine (Fe.calls n 1 99 true _ GW.out).mono ?_); rintro e w' ⟨rfl, ⟨nd, rfl⟩⟩; refine ⟨_, rfl, ?_⟩) | (at_mapUpdate; refine Go.Proofs.YtcnmngiaebgjkaaDoorMp.Jf _ rfl _ _ _ 72 (.inl rfl) 3 4 Tryd.underlying3 Tryd.underlying72 Tryd.underlying4 w1.heap.size S2 (by have := HK.out; have := C1.out; have := HL6.out; have := HR4.out; unfold maxLen; omega) rfl (by (with_reducible repeat (first | apply Go.Proofs.YtcnmngiaebgjkaaDoorMp.Cf.alloc | apply Go.Proofs.YtcnmngiaebgjkaaDoorMp.Cf.drewN | apply Go.Proofs.YtcnmngiaebgjkaaDoorMp.Cf.drew)); exact HM.out) n rfl rfl (Go.Proofs.YtcnmngiaebgjkaaDoorMp.wf_i64 (by have := HN.out; omega) (by have := HN.out; omega)) ?_; intro w8 hs8 hg8; have n0_ := Ac.mk hs8; have n1_ := Ac.mk (Jc (by (with_reducible repeat (first | refine Aj ?_ _ | refine Ak ?_ | refine Ai ?_ _)); exact BK.out) hg8 (by have := HLT.out; intro e_; injection e_ with e_; omega)); have n2_ := Ac.mk (Below.grown (by repeat (first | (with_reducible first | exact HB.out | apply Ad | apply Aa | apply Ae) | exact HB.out)) hg8 (Am (by repeat (first | (with_reducible first | exact HB.out | apply Ad | apply Aa | apply Ae) | exact HB.out))) (fun j hj => by cases hj; exact GWS.out)); clear HM BK HB; have HM := n0_; have BK := n1_; have HB := n2_; clear n0_ n1_ n2_ hs8 hg8))
                    go_roundg (row.length - (k + 1))
                    case measure => have := HK.out; have := C3.out; omega
                    case rel => exact ⟨k + 1, S2 ++ [n], by rw [HW.out]; rfl, ⟨by have := C3.out; omega, by omega, by have := HK.out; simp; omega⟩, HG3, ⟨by (with_reducible repeat (first | apply Go.Proofs.YtcnmngiaebgjkaaDoorMp.Cf.alloc | apply Go.Proofs.YtcnmngiaebgjkaaDoorMp.Cf.drewN | apply Go.Proofs.YtcnmngiaebgjkaaDoorMp.Cf.drew)); exact HM.out⟩, ⟨by (with_reducible repeat (first | refine Aj ?_ _ | refine Ak ?_ | refine Ai ?_ _)); exact BK.out⟩, ⟨by repeat (first | (with_reducible first | exact HB.out | apply Ad | apply Aa | apply Ae) | exact HB.out)⟩⟩
              · have c3b : decide ((k : Int) < (row.length : Int)) = false := decide_eq_false (by omega)
                have c3c : decide (k < row.length) = false := decide_eq_false c3
                have hdr : row.drop k = [] := List.drop_of_length_le (by omega)
                rw [hdr, Jo] at HG
                have HKE := Ac.mk (show k = row.length by omega)
                clear hdr c3 hk
                go_wp2
                go_roundg (l0_1.length - (i + 1))
                case measure => have := HI.out; have := C1.out; omega
                case rel => exact ⟨i + 1, S2, by rw [HV.out]; rfl, ⟨by have := C1.out; omega, by omega, by have := HK.out; have := HR4.out; omega⟩, HG, ⟨by (with_reducible repeat (first | apply Go.Proofs.YtcnmngiaebgjkaaDoorMp.Cf.alloc | apply Go.Proofs.YtcnmngiaebgjkaaDoorMp.Cf.drewN | apply Go.Proofs.YtcnmngiaebgjkaaDoorMp.Cf.drew)); exact HM.out⟩, ⟨by (with_reducible repeat (first | refine Aj ?_ _ | refine Ak ?_ | refine Ai ?_ _)); exact BK.out⟩, ⟨by repeat (first | (with_reducible first | exact HB.out | apply Ad | apply Aa | apply Ae) | exact HB.out)⟩⟩
        · have c1b : decide ((i : Int) < (l0_1.length : Int)) = false := decide_eq_false (by omega)
          have c1c : decide (i < l0_1.length) = false := decide_eq_false c1
          have hdr : l0_1.drop i = [] := List.drop_of_length_le (by omega)
          rw [hdr] at HG
          clear hdr c1 hi
          obtain rfl := HG.out
          go_wp2
          go_ret
          exact ⟨rfl, by repeat (first | (with_reducible first | exact HB.out | apply Ad | apply Aa | apply Ae) | exact HB.out)⟩
end Go.Proofs.YtcnmngiaebgjkaaDoor.X

namespace Go.Proofs.YtcnmngiaebgjkaaDoor.X
open Go.RowKit Go.Proofs.YtcnmngiaebgjkaaDoorW.PrintWords Go.Proofs.YtcnmngiaebgjkaaDoorW.PrintLast Go.Proofs.YtcnmngiaebgjkaaDoorW.PrintMore
attribute [local go_sem] Dn Dk D5 Dz Cj Cm Dj Dl
open Go.Proofs.YtcnmngiaebgjkaaDoorG
def Bv.l0 : Nat → List Int → Int → Int → Int → Option (Int)
  | 0, _, _, _, _ => none
  | k + 1, x0, x1, x7, x8 => if x8 < x7 then (if 0 ≤ x8 then (if x8 < (x0.length : Int) then (if x1 = (rd x0 x8) then (some x8) else (Bv.l0 k x0 x1 x7 (wrap64 (x8 + 1)))) else (none)) else (none)) else (some (-1))
def Bv.f (k : Nat) (l0 : List Int) (a1 : Int) : Option (Int) := Bv.l0 k l0 a1 (l0.length : Int) 0
theorem Bv.Ei : ∀ k, (∀ y0 y1 y2 y3, LeO (Bv.l0 k y0 y1 y2 y3) (Bv.l0 (k + 1) y0 y1 y2 y3))
  | 0 => fun _ _ _ _ r h => by simp [Bv.l0] at h
  | k + 1 => by
    have ih0 := Bv.Ei k
    · intro y0 y1 y2 y3
      unfold Bv.l0
      repeat' first
      | (with_reducible exact ih0 _ _ _ _)
      | (with_reducible exact LeO.refl _)
      | (with_reducible exact LeO.none _)
      | (with_reducible refine LeO.ite ?_ ?_)
      | (with_reducible refine LeO.bind ?_ (fun _ => ?_))
      | exact ih0 _ _ _ _
      | exact LeO.none _
      | refine LeO.ite ?_ ?_
      | refine LeO.bind ?_ (fun _ => ?_)
theorem Bv.mono : ∀ a0 a1 k, LeO (Bv.f k a0 a1) (Bv.f (k + 1) a0 a1) := by
  intro a0 a1 k
  have ih0 := Bv.Ei k
  unfold Bv.f
  repeat' first
      | (with_reducible exact ih0 _ _ _ _)
      | (with_reducible exact LeO.refl _)
      | (with_reducible exact LeO.none _)
      | (with_reducible refine LeO.ite ?_ ?_)
      | (with_reducible refine LeO.bind ?_ (fun _ => ?_))
      | exact ih0 _ _ _ _
      | exact LeO.none _
      | refine LeO.ite ?_ ?_
      | refine LeO.bind ?_ (fun _ => ?_)
set_option maxHeartbeats 8000000 in
set_option maxRecDepth 100000 in
theorem Bv.calls (k : Nat) (A0 : Option Addr) (c0 : Nat) (l0 : List Int) (a1 : Int) (r : Int) (w : World) (hr0 : Kd.C (Kd.int .i64) w A0 l0.length l0) (hc0 : l0.length ≤ c0) (h : Bv.f k l0 a1 = some r) :
    Calls Tryd.prog 37 #[.slice A0 l0.length c0, .int .i64 a1] w fun e w' => e = .returned (.int .i64 r) ∧ Bg w w' := by
  have HR0 := Ac.mk hr0
  have HC0 := Ac.mk hc0
  clear hr0 hc0
  have H : (Bv.l0 k l0 a1 (l0.length : Int) 0) = some r := h
  clear h
  have H' := Ac.mk H
  clear H
  go_enter Tryd.func37, Tryd.ntmps37
  go_wp2
  go_loopg [8] k (fun kq v8 w' => ∃ (x8_1 : Int), v8 = .int .i64 x8_1 ∧ Ac (Bv.l0 kq l0 a1 (l0.length : Int) x8_1 = some r) ∧ Ac (kq ≤ k) ∧ Bg w w')
  case atStart => exact ⟨(0), (by first | rfl | (simp; done) | (simp [*]; done)), H', ⟨Nat.le_refl _⟩, by repeat (first | exact Bg.refl _ | apply Bg.step)⟩
  case round =>
    clear H'
    try clear p2
    obtain ⟨x8_1, rfl, HA, HK1, ⟨m1, rfl⟩⟩ := hrel
    cases gk with
    | zero => exact absurd HA.out (by simp [Bv.l0])
    | succ k1 =>
      have H := HA.out
      clear HA
      simp only [Bv.l0] at H
      by_cases c3 : x8_1 < (l0.length : Int)
      · rw [if_pos c3] at H
        have c3b0 : decide (x8_1 < (l0.length : Int)) = true := decide_eq_true c3
        clear c3
        by_cases c4 : 0 ≤ x8_1
        · rw [if_pos c4] at H
          have c4b0 : decide (0 ≤ x8_1) = true := decide_eq_true c4
          clear c4
          by_cases c5 : x8_1 < (l0.length : Int)
          · rw [if_pos c5] at H
            have c5b0 : decide (x8_1 < (l0.length : Int)) = true := decide_eq_true c5
            clear c5
            by_cases c6 : a1 = (rd l0 x8_1)
            · rw [if_pos c6] at H
              have c6b0 : (a1 == (rd l0 x8_1)) = true := beq_iff_eq.mpr c6
              have c6b1 : (a1 != (rd l0 x8_1)) = false := bne_eq_false_iff_eq.mpr c6
              clear c6
              obtain rfl := Option.some.inj H
              have p270 : 0 ≤ (x8_1 : Int) := of_decide_eq_true (by first | (with_reducible assumption) | assumption)
              have q270 : x8_1 < (l0.length : Int) := of_decide_eq_true (by first | (with_reducible assumption) | assumption)
              obtain ⟨ad270, e270, hx270_0⟩ := Kd.Ho HR0.out x8_1 p270 q270
              cases e270
              replace p270 := eq_true p270
              replace q270 := eq_true q270
              go_wp2
              go_ret
              exact ⟨by first | rfl | (simp; done) | (simp [*]; done), by repeat (first | exact Bg.refl _ | apply Bg.step)⟩
            · rw [if_neg c6] at H
              have c6b0 : (a1 == (rd l0 x8_1)) = false := beq_eq_false_iff_ne.mpr c6
              have c6b1 : (a1 != (rd l0 x8_1)) = true := bne_iff_ne.mpr c6
              have H' := Ac.mk H
              clear H
              have p270 : 0 ≤ (x8_1 : Int) := of_decide_eq_true (by first | (with_reducible assumption) | assumption)
              have q270 : x8_1 < (l0.length : Int) := of_decide_eq_true (by first | (with_reducible assumption) | assumption)
              obtain ⟨ad270, e270, hx270_0⟩ := Kd.Ho HR0.out x8_1 p270 q270
              cases e270
              replace p270 := eq_true p270
              replace q270 := eq_true q270
              go_wp2
              go_roundg k1
              case measure => have := HK1.out; omega
              case rel => exact ⟨(wrap64 (x8_1 + 1)), (by first | rfl | (simp; done) | (simp [*]; done)), H', ⟨by have := HK1.out; omega⟩, by repeat (first | exact Bg.refl _ | apply Bg.step)⟩
          · rw [if_neg c5] at H
            exact absurd H (by simp)
        · rw [if_neg c4] at H
          exact absurd H (by simp)
      · rw [if_neg c3] at H
        have c3b0 : decide (x8_1 < (l0.length : Int)) = false := decide_eq_false c3
        clear c3
        obtain rfl := Option.some.inj H
        go_wp2
        go_ret
        exact ⟨by first | rfl | (simp; done) | (simp [*]; done), by repeat (first | exact Bg.refl _ | apply Bg.step)⟩
end Go.Proofs.YtcnmngiaebgjkaaDoor.X

namespace Go.Proofs.YtcnmngiaebgjkaaDoor.X
open Go.RowKit Go.Proofs.YtcnmngiaebgjkaaDoorW.PrintWords Go.Proofs.YtcnmngiaebgjkaaDoorW.PrintLast Go.Proofs.YtcnmngiaebgjkaaDoorW.PrintMore
attribute [local go_sem] Dn Dk D5 Dz Cj Cm Dj Dl
open Go.Proofs.YtcnmngiaebgjkaaDoorG
def D8.l0 : Nat → Int → List (List Int) → Int → Int → Option (Int × Int)
  | 0, _, _, _, _ => none
  | k + 1, x1, x10, x11, x12 => if x12 < x11 then (if 0 ≤ x12 then (if x12 < (x10.length : Int) then ((Bv.f k (Bo x10 x12) x1).bind fun t273 => (if t273 ≥ 0 then (some (x12, t273)) else (D8.l0 k x1 x10 x11 (wrap64 (x12 + 1))))) else (none)) else (none)) else (some ((-1), (-1)))
def D8.f (k : Nat) (l0_0 : List (List Int)) (a1 : Int) : Option (Int × Int) := D8.l0 k a1 l0_0 (l0_0.length : Int) 0
theorem D8.Ei : ∀ k, (∀ y0 y1 y2 y3, LeO (D8.l0 k y0 y1 y2 y3) (D8.l0 (k + 1) y0 y1 y2 y3))
  | 0 => fun _ _ _ _ r h => by simp [D8.l0] at h
  | k + 1 => by
    have ih0 := D8.Ei k
    · intro y0 y1 y2 y3
      unfold D8.l0
      repeat' first
      | (with_reducible exact ih0 _ _ _ _)
      | (with_reducible exact Bv.mono _ _ _)
      | (with_reducible exact LeO.refl _)
      | (with_reducible exact LeO.none _)
      | (with_reducible refine LeO.ite ?_ ?_)
      | (with_reducible refine LeO.bind ?_ (fun _ => ?_))
      | exact ih0 _ _ _ _
      | exact Bv.mono _ _ _
      | exact LeO.none _
      | refine LeO.ite ?_ ?_
      | refine LeO.bind ?_ (fun _ => ?_)
theorem D8.mono : ∀ a0 a1 k, LeO (D8.f k a0 a1) (D8.f (k + 1) a0 a1) := by
  intro a0 a1 k
  have ih0 := D8.Ei k
  unfold D8.f
  repeat' first
      | (with_reducible exact ih0 _ _ _ _)
      | (with_reducible exact Bv.mono _ _ _)
      | (with_reducible exact LeO.refl _)
      | (with_reducible exact LeO.none _)
      | (with_reducible refine LeO.ite ?_ ?_)
      | (with_reducible refine LeO.bind ?_ (fun _ => ?_))
      | exact ih0 _ _ _ _
      | exact Bv.mono _ _ _
      | exact LeO.none _
      | refine LeO.ite ?_ ?_
      | refine LeO.bind ?_ (fun _ => ?_)
set_option maxHeartbeats 8000000 in
set_option maxRecDepth 100000 in
theorem D8.calls (k : Nat) (A0_0 : Option Addr) (c0_0 : Nat) (l0_0 : List (List Int)) (a1 : Int) (r1 : Int) (r2 : Int) (w : World) (hr0_0 : Kd.C (Kd.slice 3 (Kd.int .i64)) w A0_0 l0_0.length l0_0) (hc0_0 : l0_0.length ≤ c0_0) (h : D8.f k l0_0 a1 = some (r1, r2)) :
    Calls Tryd.prog 26 #[.agg #[.slice A0_0 l0_0.length c0_0], .int .i64 a1] w fun e w' => e = .returned (.tuple #[.int .i64 r1, .int .i64 r2]) ∧ Below w.heap.size w w' := by
  have hu35 := Tryd.underlying35
  have HR0_0 := Ac.mk hr0_0
  have HC0_0 := Ac.mk hc0_0
  clear hr0_0 hc0_0
  have HB := Ac.mk (Below.refl w.heap.size w)
  have H : (D8.l0 k a1 l0_0 (l0_0.length : Int) 0) = some (r1, r2) := h
  clear h
  have H' := Ac.mk H
  clear H
  go_enter Tryd.func26, Tryd.ntmps26
  go_wp2_with (first | ((with_reducible refine Bd (N := 2) rfl ?_); refine Bc ?hg (N := 2) ?hd (cs := #[.slice A0_0 l0_0.length c0_0]) (t := 35) ?hr ?_; (case hd => rfl); (case hg => rfl); (case hr => first | (go_simp; done) | (go_simp; rfl)); intro gb271 hg w3 hbox hb; have n0_ := Ac.mk (Ap (by repeat (first | (with_reducible first | exact HB.out | apply Ad | apply Aa | apply Ae) | exact HB.out)) hb); have n1_ := Ac.mk (hbox); have n2_ := Ac.mk ((by rw [hg]; exact (Am (by repeat (first | (with_reducible first | exact HB.out | apply Ad | apply Aa | apply Ae) | exact HB.out))) : w.heap.size ≤ gb271)); have n3_ := Ac.mk ((by rw [hg]; exact (Am (by repeat (first | (with_reducible first | exact HB.out | apply Ad | apply Aa | apply Ae) | exact HB.out))) : w.heap.size ≤ gb271)); clear HB; have HB := n0_; have BK271 := n1_; have GW271 := n2_; have GE271 := n3_; clear n0_ n1_ n2_ n3_; clear hb hbox hg; have hcz4_0 : w3.cell? ⟨gb271, 0, none⟩ = some (.slice A0_0 l0_0.length c0_0) := (Ag BK271.out 0).trans rfl; have hfz4_0 := Af BK271.out 0))
  go_loopg [12] k (fun kq v12 w' => ∃ (x12_1 : Int), v12 = .int .i64 x12_1 ∧ Ac (D8.l0 kq a1 l0_0 (l0_0.length : Int) x12_1 = some (r1, r2)) ∧ Ac (kq ≤ k) ∧ Ac (w'.heap[gb271]? = some (.cells #[(.slice A0_0 l0_0.length c0_0)] 35 (0, 0))) ∧ Ac (Below w.heap.size w w'))
  case atStart => exact ⟨(0), (by first | rfl | (simp; done) | (simp [*]; done)), H', ⟨Nat.le_refl _⟩, ⟨by (with_reducible repeat (first | refine Aj ?_ _ | refine Ak ?_ | refine Ai ?_ _)); exact BK271.out⟩, ⟨by repeat (first | (with_reducible first | exact HB.out | apply Ad | apply Aa | apply Ae | refine Ah ?_ GE271.out) | exact HB.out)⟩⟩
  case round =>
    clear H'
    try clear c2
    try clear p2
    try clear hcz4_0
    try clear hfz4_0
    obtain ⟨x12_1, rfl, HA, HK1, BK271, HB⟩ := hrel
    cases gk with
    | zero => exact absurd HA.out (by simp [D8.l0])
    | succ k1 =>
      have H := HA.out
      clear HA
      simp only [D8.l0] at H
      by_cases c5 : x12_1 < (l0_0.length : Int)
      · rw [if_pos c5] at H
        have c5b0 : decide (x12_1 < (l0_0.length : Int)) = true := decide_eq_true c5
        clear c5
        by_cases c6 : 0 ≤ x12_1
        · rw [if_pos c6] at H
          have c6b0 : decide (0 ≤ x12_1) = true := decide_eq_true c6
          clear c6
          by_cases c7 : x12_1 < (l0_0.length : Int)
          · rw [if_pos c7] at H
            have c7b0 : decide (x12_1 < (l0_0.length : Int)) = true := decide_eq_true c7
            clear c7
            replace H := Option.bind_eq_some_iff.mp H
            obtain ⟨t273, A80, H⟩ := H
            replace H : (if t273 ≥ 0 then (some (x12_1, t273)) else (D8.l0 k1 a1 l0_0 (l0_0.length : Int) (wrap64 (x12_1 + 1)))) = some (r1, r2) := H
            have A8 := Ac.mk A80
            clear A80
            by_cases c9 : t273 ≥ 0
            · rw [if_pos c9] at H
              have c9b0 : decide (0 ≤ t273) = true := decide_eq_true c9
              clear c9
              simp only [Option.some.injEq, Prod.mk.injEq] at H
              obtain ⟨rfl, rfl⟩ := H
              have p272 : 0 ≤ (x12_1 : Int) := of_decide_eq_true (by first | (with_reducible assumption) | assumption)
              have q272 : x12_1 < (l0_0.length : Int) := of_decide_eq_true (by first | (with_reducible assumption) | assumption)
              obtain ⟨ad272, A272_0, c272_0, e272, hx272_0, hl272_0, hi272_0⟩ := Gm HR0_0.out x12_1 p272 q272
              cases e272
              replace hx272_0 := (HB.out.cell (World.block_lt_of_cell? w _ hx272_0)).trans hx272_0
              have HR272_0 := Ac.mk hi272_0
              have HC272_0 := Ac.mk hl272_0
              clear hi272_0 hl272_0
              replace p272 := eq_true p272
              replace q272 := eq_true q272
              go_wp2_with (first | ((with_reducible refine Aw (f := 37) rfl ?_); refine Be (some 19) rfl rfl Tryd.func37 (by kernel_rfl) rfl #[.slice A272_0 (Bo l0_0 x12_1).length c272_0, .int .i64 a1] rfl (by (try simp only [List.map_toArray, List.map_cons, List.map_nil]); first | done | rfl | (simp only [List.length_drop, List.length_take]; rfl)) ?_; (with_reducible refine (Bv.calls k1 _ _ (Bo l0_0 x12_1) a1 t273 _ ?side1 ?side2 A8.out).mono ?_); (case side1 => repeat (first | exact (Kd.C9 HR272_0.out HB.out) | (with_reducible refine Kd.Bl ?_ _) | (with_reducible refine Kd.Bj ?_ _) | (with_reducible refine Kd.Ce ?_))); (case side2 => exact HC272_0.out); rintro e w' ⟨rfl, ⟨nd, rfl⟩⟩; refine ⟨_, rfl, ?_⟩))
              go_ret2
              exact ⟨by first | rfl | (simp [Aq, Au] <;> rfl) | (simp [*, Aq, Au] <;> rfl), by repeat (first | (with_reducible first | exact HB.out | apply Ad | apply Aa | apply Ae | refine Ah ?_ GE271.out) | exact HB.out)⟩
            · rw [if_neg c9] at H
              have c9b0 : decide (0 ≤ t273) = false := decide_eq_false c9
              clear c9
              have H' := Ac.mk H
              clear H
              have p272 : 0 ≤ (x12_1 : Int) := of_decide_eq_true (by first | (with_reducible assumption) | assumption)
              have q272 : x12_1 < (l0_0.length : Int) := of_decide_eq_true (by first | (with_reducible assumption) | assumption)
              obtain ⟨ad272, A272_0, c272_0, e272, hx272_0, hl272_0, hi272_0⟩ := Gm HR0_0.out x12_1 p272 q272
              cases e272
              replace hx272_0 := (HB.out.cell (World.block_lt_of_cell? w _ hx272_0)).trans hx272_0
              have HR272_0 := Ac.mk hi272_0
              have HC272_0 := Ac.mk hl272_0
              clear hi272_0 hl272_0
              replace p272 := eq_true p272
              replace q272 := eq_true q272
              go_wp2_with (first | ((with_reducible refine Aw (f := 37) rfl ?_); refine Be (some 19) rfl rfl Tryd.func37 (by kernel_rfl) rfl #[.slice A272_0 (Bo l0_0 x12_1).length c272_0, .int .i64 a1] rfl (by (try simp only [List.map_toArray, List.map_cons, List.map_nil]); first | done | rfl | (simp only [List.length_drop, List.length_take]; rfl)) ?_; (with_reducible refine (Bv.calls k1 _ _ (Bo l0_0 x12_1) a1 t273 _ ?side1 ?side2 A8.out).mono ?_); (case side1 => repeat (first | exact (Kd.C9 HR272_0.out HB.out) | (with_reducible refine Kd.Bl ?_ _) | (with_reducible refine Kd.Bj ?_ _) | (with_reducible refine Kd.Ce ?_))); (case side2 => exact HC272_0.out); rintro e w' ⟨rfl, ⟨nd, rfl⟩⟩; refine ⟨_, rfl, ?_⟩))
              go_roundg k1
              case measure => have := HK1.out; omega
              case rel => exact ⟨(wrap64 (x12_1 + 1)), (by first | rfl | (simp; done) | (simp [*]; done)), H', ⟨by have := HK1.out; omega⟩, ⟨by (with_reducible repeat (first | refine Aj ?_ _ | refine Ak ?_ | refine Ai ?_ _)); exact BK271.out⟩, ⟨by repeat (first | (with_reducible first | exact HB.out | apply Ad | apply Aa | apply Ae | refine Ah ?_ GE271.out) | exact HB.out)⟩⟩
          · rw [if_neg c7] at H
            exact absurd H (by simp)
        · rw [if_neg c6] at H
          exact absurd H (by simp)
      · rw [if_neg c5] at H
        have c5b0 : decide (x12_1 < (l0_0.length : Int)) = false := decide_eq_false c5
        clear c5
        simp only [Option.some.injEq, Prod.mk.injEq] at H
        obtain ⟨rfl, rfl⟩ := H
        go_wp2
        go_ret2
        exact ⟨by first | rfl | (simp [Aq, Au] <;> rfl) | (simp [*, Aq, Au] <;> rfl), by repeat (first | (with_reducible first | exact HB.out | apply Ad | apply Aa | apply Ae | refine Ah ?_ GE271.out) | exact HB.out)⟩
end Go.Proofs.YtcnmngiaebgjkaaDoor.X

namespace Go.Proofs.YtcnmngiaebgjkaaDoor.X
open Go.RowKit Go.Proofs.YtcnmngiaebgjkaaDoorW.PrintWords Go.Proofs.YtcnmngiaebgjkaaDoorW.PrintLast Go.Proofs.YtcnmngiaebgjkaaDoorW.PrintMore
attribute [local go_sem] Dn Dk D5 Dz Cj Cm Dj Dl
open Go.Proofs.YtcnmngiaebgjkaaDoorG
mutual
def Ba.j0 : Nat → Bool → List (List Int) → Int → List (List Int) → Option (Bool)
  | 0, _, _, _, _ => none
  | k + 1, x18, x275000, x275001, x275002 => if x18 = true then (some false) else (Ba.l0 k x275002 (x275002.length : Int) 0 x275000 x275001 x275002)
def Ba.l0 : Nat → List (List Int) → Int → Int → List (List Int) → Int → List (List Int) → Option (Bool)
  | 0, _, _, _, _, _, _ => none
  | k + 1, x21, x22, x23, x275000, x275001, x275002 => if x23 < x22 then (if 0 ≤ x23 then (if x23 < (x21.length : Int) then (Ba.l1 k x21 x22 x23 (Bo x21 x23) ((Bo x21 x23).length : Int) 0 x275000 x275001 x275002) else (none)) else (none)) else (some true)
def Ba.l1 : Nat → List (List Int) → Int → Int → List Int → Int → Int → List (List Int) → Int → List (List Int) → Option (Bool)
  | 0, _, _, _, _, _, _, _, _, _ => none
  | k + 1, x21, x22, x23, x27, x28, x29, x275000, x275001, x275002 => if x29 < x28 then (if 0 ≤ x29 then (if x29 < (x27.length : Int) then ((D8.f k x275000 (rd x27 x29)).bind fun bt279 => (if bt279.1 ≥ 0 then (some false) else (Ba.l1 k x21 x22 x23 x27 x28 (wrap64 (x29 + 1)) x275000 x275001 x275002))) else (none)) else (none)) else (Ba.l0 k x21 x22 (wrap64 (x23 + 1)) x275000 x275001 x275002)
end
def Ba.f (k : Nat) (l0_0 : List (List Int)) (a0_1 : Int) (l0_2 : List (List Int)) : Option (Bool) := (Hr.f l0_0).bind fun t275 => (if t275 = true then ((Hg.f a0_1 l0_2).bind fun t276 => (Ba.j0 k (!t276) l0_0 a0_1 l0_2)) else (Ba.j0 k true l0_0 a0_1 l0_2))
theorem Ba.Ei : ∀ k, (∀ y0 y1 y2 y3, LeO (Ba.j0 k y0 y1 y2 y3) (Ba.j0 (k + 1) y0 y1 y2 y3)) ∧ (∀ y0 y1 y2 y3 y4 y5, LeO (Ba.l0 k y0 y1 y2 y3 y4 y5) (Ba.l0 (k + 1) y0 y1 y2 y3 y4 y5)) ∧ (∀ y0 y1 y2 y3 y4 y5 y6 y7 y8, LeO (Ba.l1 k y0 y1 y2 y3 y4 y5 y6 y7 y8) (Ba.l1 (k + 1) y0 y1 y2 y3 y4 y5 y6 y7 y8))
  | 0 => ⟨fun _ _ _ _ r h => by simp [Ba.j0] at h, fun _ _ _ _ _ _ r h => by simp [Ba.l0] at h, fun _ _ _ _ _ _ _ _ _ r h => by simp [Ba.l1] at h⟩
  | k + 1 => by
    obtain ⟨ih0, ih1, ih2⟩ := Ba.Ei k
    refine ⟨?_, ?_, ?_⟩
    · intro y0 y1 y2 y3
      unfold Ba.j0
      repeat' first
      | (with_reducible exact ih0 _ _ _ _)
      | (with_reducible exact ih1 _ _ _ _ _ _)
      | (with_reducible exact ih2 _ _ _ _ _ _ _ _ _)
      | (with_reducible exact D8.mono _ _ _)
      | (with_reducible exact LeO.refl _)
      | (with_reducible exact LeO.none _)
      | (with_reducible refine LeO.ite ?_ ?_)
      | (with_reducible refine LeO.bind ?_ (fun _ => ?_))
      | exact ih0 _ _ _ _
      | exact ih1 _ _ _ _ _ _
      | exact ih2 _ _ _ _ _ _ _ _ _
      | exact D8.mono _ _ _
      | exact LeO.none _
      | refine LeO.ite ?_ ?_
      | refine LeO.bind ?_ (fun _ => ?_)
    · intro y0 y1 y2 y3 y4 y5
      unfold Ba.l0
      repeat' first
      | (with_reducible exact ih0 _ _ _ _)
      | (with_reducible exact ih1 _ _ _ _ _ _)
      | (with_reducible exact ih2 _ _ _ _ _ _ _ _ _)
      | (with_reducible exact D8.mono _ _ _)
      | (with_reducible exact LeO.refl _)
      | (with_reducible exact LeO.none _)
      | (with_reducible refine LeO.ite ?_ ?_)
      | (with_reducible refine LeO.bind ?_ (fun _ => ?_))
      | exact ih0 _ _ _ _
      | exact ih1 _ _ _ _ _ _
      | exact ih2 _ _ _ _ _ _ _ _ _
      | exact D8.mono _ _ _
      | exact LeO.none _
      | refine LeO.ite ?_ ?_
      | refine LeO.bind ?_ (fun _ => ?_)
    · intro y0 y1 y2 y3 y4 y5 y6 y7 y8
      unfold Ba.l1
      repeat' first
      | (with_reducible exact ih0 _ _ _ _)
      | (with_reducible exact ih1 _ _ _ _ _ _)
      | (with_reducible exact ih2 _ _ _ _ _ _ _ _ _)
      | (with_reducible exact D8.mono _ _ _)
      | (with_reducible exact LeO.refl _)
      | (with_reducible exact LeO.none _)
      | (with_reducible refine LeO.ite ?_ ?_)
      | (with_reducible refine LeO.bind ?_ (fun _ => ?_))
      | exact ih0 _ _ _ _
      | exact ih1 _ _ _ _ _ _
      | exact ih2 _ _ _ _ _ _ _ _ _
      | exact D8.mono _ _ _
      | exact LeO.none _
      | refine LeO.ite ?_ ?_
      | refine LeO.bind ?_ (fun _ => ?_)
theorem Ba.mono : ∀ a0 a1 a2 k, LeO (Ba.f k a0 a1 a2) (Ba.f (k + 1) a0 a1 a2) := by
  intro a0 a1 a2 k
  obtain ⟨ih0, ih1, ih2⟩ := Ba.Ei k
  unfold Ba.f
  repeat' first
      | (with_reducible exact ih0 _ _ _ _)
      | (with_reducible exact ih1 _ _ _ _ _ _)
      | (with_reducible exact ih2 _ _ _ _ _ _ _ _ _)
      | (with_reducible exact D8.mono _ _ _)
      | (with_reducible exact LeO.refl _)
      | (with_reducible exact LeO.none _)
      | (with_reducible refine LeO.ite ?_ ?_)
      | (with_reducible refine LeO.bind ?_ (fun _ => ?_))
      | exact ih0 _ _ _ _
      | exact ih1 _ _ _ _ _ _
      | exact ih2 _ _ _ _ _ _ _ _ _
      | exact D8.mono _ _ _
      | exact LeO.none _
      | refine LeO.ite ?_ ?_
      | refine LeO.bind ?_ (fun _ => ?_)
set_option maxHeartbeats 8000000 in
set_option maxRecDepth 100000 in
theorem Ba.calls (k : Nat) (A0_0 : Option Addr) (c0_0 : Nat) (l0_0 : List (List Int)) (a0_1 : Int) (A0_2 : Option Addr) (c0_2 : Nat) (l0_2 : List (List Int)) (r : Bool) (w : World) (hr0_0 : Kd.C (Kd.slice 3 (Kd.int .i64)) w A0_0 l0_0.length l0_0) (hc0_0 : l0_0.length ≤ c0_0) (hr0_2 : Kd.C (Kd.slice 3 (Kd.int .i64)) w A0_2 l0_2.length l0_2) (hc0_2 : l0_2.length ≤ c0_2) (h : Ba.f k l0_0 a0_1 l0_2 = some r) :
    Calls Tryd.prog 14 #[.agg #[.slice A0_0 l0_0.length c0_0, .int .i64 a0_1, .slice A0_2 l0_2.length c0_2]] w fun e w' => e = .returned (.bool r) ∧ Below w.heap.size w w' := by
  have hu38 := Tryd.underlying38
  have hu35 := Tryd.underlying35
  have hu36 := Tryd.underlying36
  have HR0_0 := Ac.mk hr0_0
  have HC0_0 := Ac.mk hc0_0
  clear hr0_0 hc0_0
  have HR0_2 := Ac.mk hr0_2
  have HC0_2 := Ac.mk hc0_2
  clear hr0_2 hc0_2
  have HB := Ac.mk (Below.refl w.heap.size w)
  have H : ((Hr.f l0_0).bind fun t275 => (if t275 = true then ((Hg.f a0_1 l0_2).bind fun t276 => (Ba.j0 k (!t276) l0_0 a0_1 l0_2)) else (Ba.j0 k true l0_0 a0_1 l0_2))) = some r := h
  clear h
  have HC2 := Ac.mk H
  clear H
  go_enter Tryd.func14, Tryd.ntmps14
  go_upto_region 1 with (first | ((with_reducible refine Bd (N := 1) rfl ?_); refine Bc ?hg (N := 1) ?hd (cs := #[.slice A0_0 l0_0.length c0_0, .int .i64 a0_1, .slice A0_2 l0_2.length c0_2]) (t := 38) ?hr ?_; (case hd => rfl); (case hg => rfl); (case hr => first | (go_simp; done) | (go_simp; rfl)); intro gb274 hg w3 hbox hb; have n0_ := Ac.mk (Ap (by repeat (first | (with_reducible first | exact HB.out | apply Ad | apply Aa | apply Ae) | exact HB.out)) hb); have n1_ := Ac.mk (hbox); have n2_ := Ac.mk ((by rw [hg]; exact (Am (by repeat (first | (with_reducible first | exact HB.out | apply Ad | apply Aa | apply Ae) | exact HB.out))) : w.heap.size ≤ gb274)); have n3_ := Ac.mk ((by rw [hg]; exact (Am (by repeat (first | (with_reducible first | exact HB.out | apply Ad | apply Aa | apply Ae) | exact HB.out))) : w.heap.size ≤ gb274)); clear HB; have HB := n0_; have BK274 := n1_; have GW274 := n2_; have GE274 := n3_; clear n0_ n1_ n2_ n3_; clear hb hbox hg))
  (try simp only [Act.put, List.setIfInBounds_toArray, List.set_cons_zero, List.set_cons_succ])
  go_cut [18] (fun v18 wc => ∃ (kq : Nat) (x18_1 : Bool), v18 = .bool x18_1 ∧ Ac (Ba.j0 kq x18_1 l0_0 a0_1 l0_2 = some r) ∧ Ac (kq ≤ k) ∧ Ac (wc.heap[gb274]? = some (.cells #[(.slice A0_0 l0_0.length c0_0), .int .i64 a0_1, (.slice A0_2 l0_2.length c0_2)] 38 (0, 0))) ∧ Ac (Below w.heap.size w wc))
  case first =>
    have H := HC2.out
    clear HC2
    replace H := Option.bind_eq_some_iff.mp H
    obtain ⟨t275, A40, H⟩ := H
    replace H : (if t275 = true then ((Hg.f a0_1 l0_2).bind fun t276 => (Ba.j0 k (!t276) l0_0 a0_1 l0_2)) else (Ba.j0 k true l0_0 a0_1 l0_2)) = some r := H
    have A4 := Ac.mk A40
    clear A40
    by_cases c5 : t275 = true
    · subst c5
      have H1 : ((Hg.f a0_1 l0_2).bind fun t276 => (Ba.j0 k (!t276) l0_0 a0_1 l0_2)) = some r := by rw [if_pos rfl] at H; exact H
      clear H
      have H := H1
      clear H1
      replace H := Option.bind_eq_some_iff.mp H
      obtain ⟨t276, A60, H⟩ := H
      replace H : (Ba.j0 k (!t276) l0_0 a0_1 l0_2) = some r := H
      have A6 := Ac.mk A60
      clear A60
      have H' := Ac.mk H
      clear H
      have hcz7_0 : w3.cell? ⟨gb274, 0, none⟩ = some (.slice A0_0 l0_0.length c0_0) := (Ag BK274.out 0).trans rfl
      have hcz7_1 : w3.cell? ⟨gb274, 1, none⟩ = some (.int .i64 a0_1) := (Ag BK274.out 1).trans rfl
      have hcz7_2 : w3.cell? ⟨gb274, 2, none⟩ = some (.slice A0_2 l0_2.length c0_2) := (Ag BK274.out 2).trans rfl
      have hfz7_0 := Af BK274.out 0
      have hfz7_1 := Af BK274.out 1
      have hfz7_2 := Af BK274.out 2
      go_wp2_with (first | ((with_reducible refine Aw (f := 24) rfl ?_); refine Be (some 11) rfl rfl Tryd.func24 (by kernel_rfl) rfl #[.agg #[.slice A0_0 l0_0.length c0_0]] rfl (by (try simp only [List.map_toArray, List.map_cons, List.map_nil]); first | done | rfl | (simp only [List.length_drop, List.length_take]; rfl)) ?_; (with_reducible refine (Hr.calls _ _ l0_0 true _ ?side1 ?side2 A4.out).mono ?_); (case side1 => repeat (first | exact (Kd.C9 HR0_0.out HB.out) | (with_reducible refine Kd.Bl ?_ _) | (with_reducible refine Kd.Bj ?_ _) | (with_reducible refine Kd.Ce ?_))); (case side2 => exact HC0_0.out); rintro e w8 ⟨rfl, hb⟩; refine ⟨_, rfl, ?_⟩; have n0_ := Ac.mk (Az (g := gb274) (o := .cells #[.slice A0_0 l0_0.length c0_0, .int .i64 a0_1, .slice A0_2 l0_2.length c0_2] 38 (0, 0)) (by (with_reducible repeat (first | refine Aj ?_ _ | refine Ak ?_ | refine Ai ?_ _)); exact BK274.out) hb); have n1_ := Ac.mk (Ap (by repeat (first | (with_reducible first | exact HB.out | apply Ad | apply Aa | apply Ae | refine Ah ?_ GE274.out) | exact HB.out)) hb); clear BK274; clear HB; have BK274 := n0_; have HB := n1_; clear n0_ n1_; (try clear hb); (try clear hb2); (try clear hk); (try clear hi); have hcz9_0 : w8.cell? ⟨gb274, 0, none⟩ = some (.slice A0_0 l0_0.length c0_0) := (Ag BK274.out 0).trans rfl; have hcz9_1 : w8.cell? ⟨gb274, 1, none⟩ = some (.int .i64 a0_1) := (Ag BK274.out 1).trans rfl; have hcz9_2 : w8.cell? ⟨gb274, 2, none⟩ = some (.slice A0_2 l0_2.length c0_2) := (Ag BK274.out 2).trans rfl; have hfz9_0 := Af BK274.out 0; have hfz9_1 := Af BK274.out 1; have hfz9_2 := Af BK274.out 2) | (go_at_call 25; (with_reducible refine (Hg.calls a0_1 _ _ l0_2 t276 _ ?side1 ?side2 A6.out).mono ?_); (case side1 => repeat (first | exact (Kd.C9 HR0_2.out HB.out) | (with_reducible refine Kd.Bl ?_ _) | (with_reducible refine Kd.Bj ?_ _) | (with_reducible refine Kd.Ce ?_))); (case side2 => exact HC0_2.out); rintro e w10 ⟨rfl, hb⟩; have n0_ := Ac.mk (Az (g := gb274) (o := .cells #[.slice A0_0 l0_0.length c0_0, .int .i64 a0_1, .slice A0_2 l0_2.length c0_2] 38 (0, 0)) (by (with_reducible repeat (first | refine Aj ?_ _ | refine Ak ?_ | refine Ai ?_ _)); exact BK274.out) hb); have n1_ := Ac.mk (Ap (by repeat (first | (with_reducible first | exact HB.out | apply Ad | apply Aa | apply Ae | refine Ah ?_ GE274.out) | exact HB.out)) hb); clear BK274; clear HB; have BK274 := n0_; have HB := n1_; clear n0_ n1_; (try clear hb); (try clear hb2); (try clear hk); (try clear hi)))
      go_meet
      case rel => exact ⟨_, (!t276), (by first | rfl | (simp; done) | (simp [*]; done)), H', ⟨by first | omega | exact Nat.le_refl _⟩, ⟨by (with_reducible repeat (first | refine Aj ?_ _ | refine Ak ?_ | refine Ai ?_ _)); exact BK274.out⟩, ⟨by repeat (first | (with_reducible first | exact HB.out | apply Ad | apply Aa | apply Ae | refine Ah ?_ GE274.out) | exact HB.out)⟩⟩
    · replace c5 := Bool.eq_false_iff.mpr c5
      subst c5
      have H1 : (Ba.j0 k true l0_0 a0_1 l0_2) = some r := by rw [if_neg (show ¬ (false = true) by decide)] at H; exact H
      clear H
      have H := H1
      clear H1
      have H' := Ac.mk H
      clear H
      have hcz11_0 : w3.cell? ⟨gb274, 0, none⟩ = some (.slice A0_0 l0_0.length c0_0) := (Ag BK274.out 0).trans rfl
      have hcz11_1 : w3.cell? ⟨gb274, 1, none⟩ = some (.int .i64 a0_1) := (Ag BK274.out 1).trans rfl
      have hcz11_2 : w3.cell? ⟨gb274, 2, none⟩ = some (.slice A0_2 l0_2.length c0_2) := (Ag BK274.out 2).trans rfl
      have hfz11_0 := Af BK274.out 0
      have hfz11_1 := Af BK274.out 1
      have hfz11_2 := Af BK274.out 2
      go_wp2_with (first | ((with_reducible refine Aw (f := 24) rfl ?_); refine Be (some 11) rfl rfl Tryd.func24 (by kernel_rfl) rfl #[.agg #[.slice A0_0 l0_0.length c0_0]] rfl (by (try simp only [List.map_toArray, List.map_cons, List.map_nil]); first | done | rfl | (simp only [List.length_drop, List.length_take]; rfl)) ?_; (with_reducible refine (Hr.calls _ _ l0_0 false _ ?side1 ?side2 A4.out).mono ?_); (case side1 => repeat (first | exact (Kd.C9 HR0_0.out HB.out) | (with_reducible refine Kd.Bl ?_ _) | (with_reducible refine Kd.Bj ?_ _) | (with_reducible refine Kd.Ce ?_))); (case side2 => exact HC0_0.out); rintro e w12 ⟨rfl, hb⟩; refine ⟨_, rfl, ?_⟩; have n0_ := Ac.mk (Az (g := gb274) (o := .cells #[.slice A0_0 l0_0.length c0_0, .int .i64 a0_1, .slice A0_2 l0_2.length c0_2] 38 (0, 0)) (by (with_reducible repeat (first | refine Aj ?_ _ | refine Ak ?_ | refine Ai ?_ _)); exact BK274.out) hb); have n1_ := Ac.mk (Ap (by repeat (first | (with_reducible first | exact HB.out | apply Ad | apply Aa | apply Ae | refine Ah ?_ GE274.out) | exact HB.out)) hb); clear BK274; clear HB; have BK274 := n0_; have HB := n1_; clear n0_ n1_; (try clear hb); (try clear hb2); (try clear hk); (try clear hi)))
      go_meet
      case rel => exact ⟨_, (true), (by first | rfl | (simp; done) | (simp [*]; done)), H', ⟨by first | omega | exact Nat.le_refl _⟩, ⟨by (with_reducible repeat (first | refine Aj ?_ _ | refine Ak ?_ | refine Ai ?_ _)); exact BK274.out⟩, ⟨by repeat (first | (with_reducible first | exact HB.out | apply Ad | apply Aa | apply Ae | refine Ah ?_ GE274.out) | exact HB.out)⟩⟩
  case rest =>
    clear HC2
    try clear c1
    try clear c2
    try clear p2
    try clear c5
    try clear hcz11_0
    try clear hcz11_1
    try clear hcz11_2
    try clear hcz7_0
    try clear hcz7_1
    try clear hcz7_2
    try clear hcz9_0
    try clear hcz9_1
    try clear hcz9_2
    try clear hfz11_0
    try clear hfz11_1
    try clear hfz11_2
    try clear hfz7_0
    try clear hfz7_1
    try clear hfz7_2
    try clear hfz9_0
    try clear hfz9_1
    try clear hfz9_2
    obtain ⟨kq, x18_1, rfl, HA, HJ1, BK274, HB⟩ := hcut
    cases kq with
    | zero => exact absurd HA.out (by simp [Ba.j0])
    | succ kj1 =>
      have H := HA.out
      clear HA
      simp only [Ba.j0] at H
      by_cases c13 : x18_1 = true
      · subst c13
        have H1 : (some false) = some r := by rw [if_pos rfl] at H; exact H
        clear H
        have H := H1
        clear H1
        obtain rfl := Option.some.inj H
        go_wp2
        go_ret
        exact ⟨by first | rfl | (simp [Aq, Au] <;> rfl) | (simp [*, Aq, Au] <;> rfl), by repeat (first | (with_reducible first | exact HB.out | apply Ad | apply Aa | apply Ae | refine Ah ?_ GE274.out) | exact HB.out)⟩
      · replace c13 := Bool.eq_false_iff.mpr c13
        subst c13
        have H1 : (Ba.l0 kj1 l0_2 (l0_2.length : Int) 0 l0_0 a0_1 l0_2) = some r := by rw [if_neg (show ¬ (false = true) by decide)] at H; exact H
        clear H
        have H := H1
        clear H1
        have H' := Ac.mk H
        clear H
        have hcz14_0 : wc.cell? ⟨gb274, 0, none⟩ = some (.slice A0_0 l0_0.length c0_0) := (Ag BK274.out 0).trans rfl
        have hcz14_1 : wc.cell? ⟨gb274, 1, none⟩ = some (.int .i64 a0_1) := (Ag BK274.out 1).trans rfl
        have hcz14_2 : wc.cell? ⟨gb274, 2, none⟩ = some (.slice A0_2 l0_2.length c0_2) := (Ag BK274.out 2).trans rfl
        have hfz14_0 := Af BK274.out 0
        have hfz14_1 := Af BK274.out 1
        have hfz14_2 := Af BK274.out 2
        go_wp2
        go_loopg [23] kj1 (fun kq v23 w' => ∃ (x23_2 : Int), v23 = .int .i64 x23_2 ∧ Ac (Ba.l0 kq l0_2 (l0_2.length : Int) x23_2 l0_0 a0_1 l0_2 = some r) ∧ Ac (kq ≤ kj1) ∧ Ac (w'.heap[gb274]? = some (.cells #[(.slice A0_0 l0_0.length c0_0), .int .i64 a0_1, (.slice A0_2 l0_2.length c0_2)] 38 (0, 0))) ∧ Ac (Below w.heap.size w w'))
        case atStart => exact ⟨(0), (by first | rfl | (simp; done) | (simp [*]; done)), H', ⟨Nat.le_refl _⟩, ⟨by (with_reducible repeat (first | refine Aj ?_ _ | refine Ak ?_ | refine Ai ?_ _)); exact BK274.out⟩, ⟨by repeat (first | (with_reducible first | exact HB.out | apply Ad | apply Aa | apply Ae | refine Ah ?_ GE274.out) | exact HB.out)⟩⟩
        case round =>
          clear H'
          try clear c1
          try clear c2
          try clear p2
          try clear c5
          try clear c13
          try clear c14
          try clear hcz11_0
          try clear hcz11_1
          try clear hcz11_2
          try clear hcz14_0
          try clear hcz14_1
          try clear hcz14_2
          try clear hcz7_0
          try clear hcz7_1
          try clear hcz7_2
          try clear hcz9_0
          try clear hcz9_1
          try clear hcz9_2
          try clear hfz11_0
          try clear hfz11_1
          try clear hfz11_2
          try clear hfz14_0
          try clear hfz14_1
          try clear hfz14_2
          try clear hfz7_0
          try clear hfz7_1
          try clear hfz7_2
          try clear hfz9_0
          try clear hfz9_1
          try clear hfz9_2
          try clear p2
          obtain ⟨x23_2, rfl, HA, HK2, BK274, HB⟩ := hrel
          cases gk with
          | zero => exact absurd HA.out (by simp [Ba.l0])
          | succ k2 =>
            have H := HA.out
            clear HA
            simp only [Ba.l0] at H
            by_cases c15 : x23_2 < (l0_2.length : Int)
            · rw [if_pos c15] at H
              have c15b0 : decide (x23_2 < (l0_2.length : Int)) = true := decide_eq_true c15
              clear c15
              by_cases c16 : 0 ≤ x23_2
              · rw [if_pos c16] at H
                have c16b0 : decide (0 ≤ x23_2) = true := decide_eq_true c16
                clear c16
                by_cases c17 : x23_2 < (l0_2.length : Int)
                · rw [if_pos c17] at H
                  have c17b0 : decide (x23_2 < (l0_2.length : Int)) = true := decide_eq_true c17
                  clear c17
                  have H' := Ac.mk H
                  clear H
                  have p277 : 0 ≤ (x23_2 : Int) := of_decide_eq_true (by first | (with_reducible assumption) | assumption)
                  have q277 : x23_2 < (l0_2.length : Int) := of_decide_eq_true (by first | (with_reducible assumption) | assumption)
                  obtain ⟨ad277, A277_0, c277_0, e277, hx277_0, hl277_0, hi277_0⟩ := Gm HR0_2.out x23_2 p277 q277
                  cases e277
                  replace hx277_0 := (HB.out.cell (World.block_lt_of_cell? w _ hx277_0)).trans hx277_0
                  have HR277_0 := Ac.mk hi277_0
                  have HC277_0 := Ac.mk hl277_0
                  clear hi277_0 hl277_0
                  replace p277 := eq_true p277
                  replace q277 := eq_true q277
                  go_wp2
                  go_loopg [29] k2 (fun kq v29 w' => ∃ (x29_3 : Int), v29 = .int .i64 x29_3 ∧ Ac (Ba.l1 kq l0_2 (l0_2.length : Int) x23_2 (Bo l0_2 x23_2) ((Bo l0_2 x23_2).length : Int) x29_3 l0_0 a0_1 l0_2 = some r) ∧ Ac (kq ≤ k2) ∧ Ac (w'.heap[gb274]? = some (.cells #[(.slice A0_0 l0_0.length c0_0), .int .i64 a0_1, (.slice (some ad277) l0_2.length c0_2)] 38 (0, 0))) ∧ Ac (Below w.heap.size w w'))
                  case atStart => exact ⟨(0), (by first | rfl | (simp; done) | (simp [*]; done)), H', ⟨Nat.le_refl _⟩, ⟨by (with_reducible repeat (first | refine Aj ?_ _ | refine Ak ?_ | refine Ai ?_ _)); exact BK274.out⟩, ⟨by repeat (first | (with_reducible first | exact HB.out | apply Ad | apply Aa | apply Ae | refine Ah ?_ GE274.out) | exact HB.out)⟩⟩
                  case round =>
                    clear H'
                    try clear c1
                    try clear c2
                    try clear p2
                    try clear q2
                    try clear hx2
                    try clear c5
                    try clear c13
                    try clear c14
                    try clear c15
                    try clear c15b0
                    try clear c16
                    try clear c16b0
                    try clear c17
                    try clear c17b0
                    try clear hcz11_0
                    try clear hcz11_1
                    try clear hcz11_2
                    try clear hcz14_0
                    try clear hcz14_1
                    try clear hcz14_2
                    try clear hcz7_0
                    try clear hcz7_1
                    try clear hcz7_2
                    try clear hcz9_0
                    try clear hcz9_1
                    try clear hcz9_2
                    try clear hfz11_0
                    try clear hfz11_1
                    try clear hfz11_2
                    try clear hfz14_0
                    try clear hfz14_1
                    try clear hfz14_2
                    try clear hfz7_0
                    try clear hfz7_1
                    try clear hfz7_2
                    try clear hfz9_0
                    try clear hfz9_1
                    try clear hfz9_2
                    try clear hx277_0
                    try clear p2
                    try clear p277
                    try clear q277
                    obtain ⟨x29_3, rfl, HA, HK3, BK274, HB⟩ := hrel
                    cases gk with
                    | zero => exact absurd HA.out (by simp [Ba.l1])
                    | succ k3 =>
                      have H := HA.out
                      clear HA
                      simp only [Ba.l1] at H
                      by_cases c18 : x29_3 < ((Bo l0_2 x23_2).length : Int)
                      · rw [if_pos c18] at H
                        have c18b0 : decide (x29_3 < ((Bo l0_2 x23_2).length : Int)) = true := decide_eq_true c18
                        clear c18
                        by_cases c19 : 0 ≤ x29_3
                        · rw [if_pos c19] at H
                          have c19b0 : decide (0 ≤ x29_3) = true := decide_eq_true c19
                          clear c19
                          by_cases c20 : x29_3 < ((Bo l0_2 x23_2).length : Int)
                          · rw [if_pos c20] at H
                            have c20b0 : decide (x29_3 < ((Bo l0_2 x23_2).length : Int)) = true := decide_eq_true c20
                            clear c20
                            replace H := Option.bind_eq_some_iff.mp H
                            obtain ⟨⟨t279, t280⟩, A210, H⟩ := H
                            replace H : (if t279 ≥ 0 then (some false) else (Ba.l1 k3 l0_2 (l0_2.length : Int) x23_2 (Bo l0_2 x23_2) ((Bo l0_2 x23_2).length : Int) (wrap64 (x29_3 + 1)) l0_0 a0_1 l0_2)) = some r := H
                            have A21 := Ac.mk A210
                            clear A210
                            by_cases c22 : t279 ≥ 0
                            · rw [if_pos c22] at H
                              have c22b0 : decide (0 ≤ t279) = true := decide_eq_true c22
                              clear c22
                              obtain rfl := Option.some.inj H
                              have p278 : 0 ≤ (x29_3 : Int) := of_decide_eq_true (by first | (with_reducible assumption) | assumption)
                              have q278 : x29_3 < ((Bo l0_2 x23_2).length : Int) := of_decide_eq_true (by first | (with_reducible assumption) | assumption)
                              obtain ⟨ad278, e278, hx278_0⟩ := Kd.Ho HR277_0.out x29_3 p278 q278
                              cases e278
                              replace hx278_0 := (HB.out.cell (World.block_lt_of_cell? w _ hx278_0)).trans hx278_0
                              replace p278 := eq_true p278
                              replace q278 := eq_true q278
                              have hcz23_0 : wr.cell? ⟨gb274, 0, none⟩ = some (.slice A0_0 l0_0.length c0_0) := (Ag BK274.out 0).trans rfl
                              have hcz23_1 : wr.cell? ⟨gb274, 1, none⟩ = some (.int .i64 a0_1) := (Ag BK274.out 1).trans rfl
                              have hcz23_2 : wr.cell? ⟨gb274, 2, none⟩ = some (.slice (some ad277) l0_2.length c0_2) := (Ag BK274.out 2).trans rfl
                              have hfz23_0 := Af BK274.out 0
                              have hfz23_1 := Af BK274.out 1
                              have hfz23_2 := Af BK274.out 2
                              go_wp2_with (first | ((with_reducible refine Aw (f := 26) rfl ?_); refine Be (some 37) rfl rfl Tryd.func26 (by kernel_rfl) rfl #[.agg #[.slice A0_0 l0_0.length c0_0], .int .i64 (rd (Bo l0_2 x23_2) x29_3)] rfl (by (try simp only [List.map_toArray, List.map_cons, List.map_nil]); first | done | rfl | (simp only [List.length_drop, List.length_take]; rfl)) ?_; (with_reducible refine (D8.calls k3 _ _ l0_0 (rd (Bo l0_2 x23_2) x29_3) t279 t280 _ ?side1 ?side2 A21.out).mono ?_); (case side1 => repeat (first | exact (Kd.C9 HR0_0.out HB.out) | (with_reducible refine Kd.Bl ?_ _) | (with_reducible refine Kd.Bj ?_ _) | (with_reducible refine Kd.Ce ?_))); (case side2 => exact HC0_0.out); rintro e w24 ⟨rfl, hb⟩; refine ⟨_, rfl, ?_⟩; have n0_ := Ac.mk (Az (g := gb274) (o := .cells #[.slice A0_0 l0_0.length c0_0, .int .i64 a0_1, .slice (some ad277) l0_2.length c0_2] 38 (0, 0)) (by (with_reducible repeat (first | refine Aj ?_ _ | refine Ak ?_ | refine Ai ?_ _)); exact BK274.out) hb); have n1_ := Ac.mk (Ap (by repeat (first | (with_reducible first | exact HB.out | apply Ad | apply Aa | apply Ae | refine Ah ?_ GE274.out) | exact HB.out)) hb); clear BK274; clear HB; have BK274 := n0_; have HB := n1_; clear n0_ n1_; (try clear hb); (try clear hb2); (try clear hk); (try clear hi)))
                              go_ret
                              exact ⟨by first | rfl | (simp [Aq, Au] <;> rfl) | (simp [*, Aq, Au] <;> rfl), by repeat (first | (with_reducible first | exact HB.out | apply Ad | apply Aa | apply Ae | refine Ah ?_ GE274.out) | exact HB.out)⟩
                            · rw [if_neg c22] at H
                              have c22b0 : decide (0 ≤ t279) = false := decide_eq_false c22
                              clear c22
                              have H' := Ac.mk H
                              clear H
                              have p278 : 0 ≤ (x29_3 : Int) := of_decide_eq_true (by first | (with_reducible assumption) | assumption)
                              have q278 : x29_3 < ((Bo l0_2 x23_2).length : Int) := of_decide_eq_true (by first | (with_reducible assumption) | assumption)
                              obtain ⟨ad278, e278, hx278_0⟩ := Kd.Ho HR277_0.out x29_3 p278 q278
                              cases e278
                              replace hx278_0 := (HB.out.cell (World.block_lt_of_cell? w _ hx278_0)).trans hx278_0
                              replace p278 := eq_true p278
                              replace q278 := eq_true q278
                              have hcz25_0 : wr.cell? ⟨gb274, 0, none⟩ = some (.slice A0_0 l0_0.length c0_0) := (Ag BK274.out 0).trans rfl
                              have hcz25_1 : wr.cell? ⟨gb274, 1, none⟩ = some (.int .i64 a0_1) := (Ag BK274.out 1).trans rfl
                              have hcz25_2 : wr.cell? ⟨gb274, 2, none⟩ = some (.slice (some ad277) l0_2.length c0_2) := (Ag BK274.out 2).trans rfl
                              have hfz25_0 := Af BK274.out 0
                              have hfz25_1 := Af BK274.out 1
                              have hfz25_2 := Af BK274.out 2
                              go_wp2_with (first | ((with_reducible refine Aw (f := 26) rfl ?_); refine Be (some 37) rfl rfl Tryd.func26 (by kernel_rfl) rfl #[.agg #[.slice A0_0 l0_0.length c0_0], .int .i64 (rd (Bo l0_2 x23_2) x29_3)] rfl (by (try simp only [List.map_toArray, List.map_cons, List.map_nil]); first | done | rfl | (simp only [List.length_drop, List.length_take]; rfl)) ?_; (with_reducible refine (D8.calls k3 _ _ l0_0 (rd (Bo l0_2 x23_2) x29_3) t279 t280 _ ?side1 ?side2 A21.out).mono ?_); (case side1 => repeat (first | exact (Kd.C9 HR0_0.out HB.out) | (with_reducible refine Kd.Bl ?_ _) | (with_reducible refine Kd.Bj ?_ _) | (with_reducible refine Kd.Ce ?_))); (case side2 => exact HC0_0.out); rintro e w26 ⟨rfl, hb⟩; refine ⟨_, rfl, ?_⟩; have n0_ := Ac.mk (Az (g := gb274) (o := .cells #[.slice A0_0 l0_0.length c0_0, .int .i64 a0_1, .slice (some ad277) l0_2.length c0_2] 38 (0, 0)) (by (with_reducible repeat (first | refine Aj ?_ _ | refine Ak ?_ | refine Ai ?_ _)); exact BK274.out) hb); have n1_ := Ac.mk (Ap (by repeat (first | (with_reducible first | exact HB.out | apply Ad | apply Aa | apply Ae | refine Ah ?_ GE274.out) | exact HB.out)) hb); clear BK274; clear HB; have BK274 := n0_; have HB := n1_; clear n0_ n1_; (try clear hb); (try clear hb2); (try clear hk); (try clear hi)))
                              go_roundg k3
                              case measure => have := HJ1.out; have := HK2.out; have := HK3.out; omega
                              case rel => exact ⟨(wrap64 (x29_3 + 1)), (by first | rfl | (simp; done) | (simp [*]; done)), H', ⟨by have := HJ1.out; have := HK2.out; have := HK3.out; omega⟩, ⟨by (with_reducible repeat (first | refine Aj ?_ _ | refine Ak ?_ | refine Ai ?_ _)); exact BK274.out⟩, ⟨by repeat (first | (with_reducible first | exact HB.out | apply Ad | apply Aa | apply Ae | refine Ah ?_ GE274.out) | exact HB.out)⟩⟩
                          · rw [if_neg c20] at H
                            exact absurd H (by simp)
                        · rw [if_neg c19] at H
                          exact absurd H (by simp)
                      · rw [if_neg c18] at H
                        have c18b0 : decide (x29_3 < ((Bo l0_2 x23_2).length : Int)) = false := decide_eq_false c18
                        clear c18
                        have H' := Ac.mk H
                        clear H
                        go_wp2
                        go_roundg k3
                        case measure => have := HJ1.out; have := HK2.out; have := HK3.out; omega
                        case rel => exact ⟨(wrap64 (x23_2 + 1)), (by first | rfl | (simp; done) | (simp [*]; done)), H', ⟨by have := HJ1.out; have := HK2.out; have := HK3.out; omega⟩, ⟨by (with_reducible repeat (first | refine Aj ?_ _ | refine Ak ?_ | refine Ai ?_ _)); exact BK274.out⟩, ⟨by repeat (first | (with_reducible first | exact HB.out | apply Ad | apply Aa | apply Ae | refine Ah ?_ GE274.out) | exact HB.out)⟩⟩
                · rw [if_neg c17] at H
                  exact absurd H (by simp)
              · rw [if_neg c16] at H
                exact absurd H (by simp)
            · rw [if_neg c15] at H
              have c15b0 : decide (x23_2 < (l0_2.length : Int)) = false := decide_eq_false c15
              clear c15
              obtain rfl := Option.some.inj H
              go_wp2
              go_ret
              exact ⟨by first | rfl | (simp [Aq, Au] <;> rfl) | (simp [*, Aq, Au] <;> rfl), by repeat (first | (with_reducible first | exact HB.out | apply Ad | apply Aa | apply Ae | refine Ah ?_ GE274.out) | exact HB.out)⟩
end Go.Proofs.YtcnmngiaebgjkaaDoor.X

namespace Go.Proofs
open Go.Shelf
def Tryd.laysM171_ren : Go.Shelf.Ren := ⟨fun | 171 => 63 | 243 => 71 | 246 => 78 | 283 => 82 | 284 => 83 | 285 => 84 | 286 => 85 | 129 => 91 | 317 => 90 | 318 => 92 | 319 => 93 | 320 => 94 | 337 => 97 | 338 => 98 | n => n, fun | 3 => 3 | 9 => 9 | 2 => 2 | 4 => 4 | 171 => 112 | 0 => 0 | 53 => 113 | 37 => 116 | 5 => 5 | 173 => 117 | 212 => 127 | 51 => 109 | 20 => 20 | 213 => 128 | 46 => 107 | 232 => 133 | 233 => 134 | n => n, fun | 17 => 1 | 18 => 2 | 19 => 3 | n => n⟩
theorem Tryd.laysM171 : Go.Proofs.LaysM.n171 Tryd.prog Tryd.laysM171_ren := {
  mixed := by kernel_rfl
  f129 := Tryd.func91.trans (congrArg some (by kernel_rfl))
  f171 := Tryd.func63.trans (congrArg some (by kernel_rfl))
  f243 := Tryd.func71.trans (congrArg some (by kernel_rfl))
  f246 := Tryd.func78.trans (congrArg some (by kernel_rfl))
  f283 := Tryd.func82.trans (congrArg some (by kernel_rfl))
  f284 := Tryd.func83.trans (congrArg some (by kernel_rfl))
  f285 := Tryd.func84.trans (congrArg some (by kernel_rfl))
  f286 := Tryd.func85.trans (congrArg some (by kernel_rfl))
  f317 := Tryd.func90.trans (congrArg some (by kernel_rfl))
  f318 := Tryd.func92.trans (congrArg some (by kernel_rfl))
  f319 := Tryd.func93.trans (congrArg some (by kernel_rfl))
  f320 := Tryd.func94.trans (congrArg some (by kernel_rfl))
  f337 := Tryd.func97.trans (congrArg some (by kernel_rfl))
  f338 := Tryd.func98.trans (congrArg some (by kernel_rfl))
  t0 := Tryd.underlying0
  a0 := Tryd.isAgg0
  z0 := Tryd.sizeOf0
  v0 := Tryd.zeroValue0
  t2 := Tryd.underlying2
  a2 := Tryd.isAgg2
  z2 := Tryd.sizeOf2
  v2 := Tryd.zeroValue2
  t3 := Tryd.underlying3
  a3 := Tryd.isAgg3
  z3 := Tryd.sizeOf3
  v3 := Tryd.zeroValue3
  t4 := Tryd.underlying4
  a4 := Tryd.isAgg4
  z4 := Tryd.sizeOf4
  v4 := Tryd.zeroValue4
  t5 := Tryd.underlying5
  a5 := Tryd.isAgg5
  z5 := Tryd.sizeOf5
  v5 := Tryd.zeroValue5
  t9 := Tryd.underlying9
  a9 := Tryd.isAgg9
  z9 := Tryd.sizeOf9
  v9 := Tryd.zeroValue9
  t20 := Tryd.underlying20
  a20 := Tryd.isAgg20
  z20 := Tryd.sizeOf20
  v20 := Tryd.zeroValue20
  t37 := Tryd.underlying116
  a37 := Tryd.isAgg116
  z37 := Tryd.sizeOf116
  v37 := Tryd.zeroValue116
  t46 := Tryd.underlying107
  a46 := Tryd.isAgg107
  z46 := Tryd.sizeOf107
  v46 := Tryd.zeroValue107
  t51 := Tryd.underlying109
  a51 := Tryd.isAgg109
  z51 := Tryd.sizeOf109
  v51 := Tryd.zeroValue109
  t53 := Tryd.underlying113
  a53 := Tryd.isAgg113
  z53 := Tryd.sizeOf113
  v53 := Tryd.zeroValue113
  t171 := Tryd.underlying112
  a171 := Tryd.isAgg112
  z171 := Tryd.sizeOf112
  v171 := Tryd.zeroValue112
  t173 := Tryd.underlying117
  a173 := Tryd.isAgg117
  z173 := Tryd.sizeOf117
  v173 := Tryd.zeroValue117
  t212 := Tryd.underlying127
  a212 := Tryd.isAgg127
  z212 := Tryd.sizeOf127
  v212 := Tryd.zeroValue127
  t213 := Tryd.underlying128
  a213 := Tryd.isAgg128
  z213 := Tryd.sizeOf128
  t232 := Tryd.underlying133
  a232 := Tryd.isAgg133
  z232 := Tryd.sizeOf133
  v232 := Tryd.zeroValue133
  t233 := Tryd.underlying134
  a233 := Tryd.isAgg134
  z233 := Tryd.sizeOf134
  v233 := Tryd.zeroValue134
  g17 := by kernel_rfl
  g18 := by kernel_rfl
  g19 := by kernel_rfl
  i0 := by kernel_rfl
  i2 := by kernel_rfl
  i3 := by kernel_rfl
  i4 := by kernel_rfl
  i5 := by kernel_rfl
  i9 := by kernel_rfl
  i20 := by kernel_rfl
  i37 := by kernel_rfl
  i46 := by kernel_rfl
  i51 := by kernel_rfl
  i53 := by kernel_rfl
  i171 := by kernel_rfl
  i173 := by kernel_rfl
  i212 := by kernel_rfl
  i232 := by kernel_rfl
  i233 := by kernel_rfl
  m17 := by kernel_rfl
  m18 := by kernel_rfl
  m19 := by kernel_rfl }
open Go.RowKit Go.Sort Go.Lib in
/-- strconv.Itoa: "Itoa is equivalent to FormatInt(int64(i), 10).": i's DECIMAL NUMERAL ('Lib.itoa': a '-' where i is negative, then the digits), FOR EVERY int. The world behind the call: the world before it, new blocks behind the heap (the library's 'var a [24]byte'), draws. (LAID: no walk: one application.) -/
theorem Tryd.strconv_Itoa (n : Int) (h0 : -9223372036854775808 ≤ n) (h1 : n ≤ 9223372036854775807) (w : World) (htab : Lib.TabIs Tryd.prog w "internal/strconv.uint64pow10" .u64 Lib.pow10Tab) :
    Calls Tryd.prog 63 #[.int .i64 n] w fun e w' => e = .returned (.string ⟨(Lib.itoa n).toArray⟩) ∧ ∃ k os, w' = grow (w.drewN k) os := Any.strconv_Itoa Tryd.laysM171 n h0 h1 w htab
def Tryd.lays219_ren : Go.Shelf.Ren := ⟨fun | 219 => 67 | 217 => 73 | 225 => 74 | 224 => 75 | 267 => 76 | 266 => 80 | 314 => 81 | n => n, fun | 9 => 9 | 3 => 3 | 4 => 4 | 5 => 5 | 46 => 107 | 146 => 110 | 51 => 109 | n => n, fun | 1 => 0 | n => n⟩
theorem Tryd.lays219 : Go.Proofs.Lays.n219 Tryd.prog Tryd.lays219_ren := {
  mixed := by kernel_rfl
  f217 := Tryd.func73.trans (congrArg some (by kernel_rfl))
  f219 := Tryd.func67.trans (congrArg some (by kernel_rfl))
  f224 := Tryd.func75.trans (congrArg some (by kernel_rfl))
  f225 := Tryd.func74.trans (congrArg some (by kernel_rfl))
  f266 := Tryd.func80.trans (congrArg some (by kernel_rfl))
  f267 := Tryd.func76.trans (congrArg some (by kernel_rfl))
  f314 := Tryd.func81.trans (congrArg some (by kernel_rfl))
  t3 := Tryd.underlying3
  a3 := Tryd.isAgg3
  z3 := Tryd.sizeOf3
  v3 := Tryd.zeroValue3
  t4 := Tryd.underlying4
  a4 := Tryd.isAgg4
  z4 := Tryd.sizeOf4
  v4 := Tryd.zeroValue4
  t5 := Tryd.underlying5
  a5 := Tryd.isAgg5
  z5 := Tryd.sizeOf5
  v5 := Tryd.zeroValue5
  t9 := Tryd.underlying9
  a9 := Tryd.isAgg9
  z9 := Tryd.sizeOf9
  v9 := Tryd.zeroValue9
  t46 := Tryd.underlying107
  a46 := Tryd.isAgg107
  z46 := Tryd.sizeOf107
  v46 := Tryd.zeroValue107
  t51 := Tryd.underlying109
  a51 := Tryd.isAgg109
  z51 := Tryd.sizeOf109
  v51 := Tryd.zeroValue109
  t146 := Tryd.underlying110
  a146 := Tryd.isAgg110
  z146 := Tryd.sizeOf110
  v146 := Tryd.zeroValue110
  g1 := by kernel_rfl }
open Go.RowKit Go.Lib in
/-- internal/stringslite.Index (what strings.Index calls) AT A substr OF ONE BYTE c: IT RETURNS 'Lib.indexByte s c'; the world is as it was. (LAID: no walk: one application.) -/
theorem Tryd.stringslite_Index_one (s : ByteArray) (c : UInt8) (w : World) :
    Calls Tryd.prog 67 #[.string s, .string ⟨#[c]⟩] w fun e w' => e = .returned (.int .i64 (Lib.indexByte s.data.toList c)) ∧ w' = w := Any.stringslite_Index_one Tryd.lays219 s c w
open Go.RowKit Go.Lib in
/-- internal/stringslite.Index (what strings.Index calls) AT A substr OF WHATEVER LENGTH: IT RETURNS 'Lib.index s substr'; the world is as it was. 'm': what internal/bytealg.MaxLen holds: whatever. (LAID: no walk: one application.) -/
theorem Tryd.stringslite_Index (s sub : ByteArray) (m : Int) (w : World) (hs : s.size < 4294967281) (hm : w.cell? ⟨0, 0, none⟩ = some (.int .i64 m)) :
    Calls Tryd.prog 67 #[.string s, .string sub] w fun e w' => e = .returned (.int .i64 (Lib.index s.data.toList sub.data.toList)) ∧ w' = w := Any.stringslite_Index Tryd.lays219 s sub m w hs hm
def Tryd.lays143_ren : Go.Shelf.Ren := ⟨fun | 143 => 77 | 219 => 67 | 217 => 73 | 225 => 74 | 224 => 75 | 267 => 76 | 266 => 80 | 314 => 81 | n => n, fun | 9 => 9 | 3 => 3 | 4 => 4 | 5 => 5 | 46 => 107 | 146 => 110 | 51 => 109 | n => n, fun | 1 => 0 | n => n⟩
theorem Tryd.lays143 : Go.Proofs.Lays.n143 Tryd.prog Tryd.lays143_ren := {
  mixed := by kernel_rfl
  f143 := Tryd.func77.trans (congrArg some (by kernel_rfl))
  f217 := Tryd.func73.trans (congrArg some (by kernel_rfl))
  f219 := Tryd.func67.trans (congrArg some (by kernel_rfl))
  f224 := Tryd.func75.trans (congrArg some (by kernel_rfl))
  f225 := Tryd.func74.trans (congrArg some (by kernel_rfl))
  f266 := Tryd.func80.trans (congrArg some (by kernel_rfl))
  f267 := Tryd.func76.trans (congrArg some (by kernel_rfl))
  f314 := Tryd.func81.trans (congrArg some (by kernel_rfl))
  t3 := Tryd.underlying3
  a3 := Tryd.isAgg3
  z3 := Tryd.sizeOf3
  v3 := Tryd.zeroValue3
  t4 := Tryd.underlying4
  a4 := Tryd.isAgg4
  z4 := Tryd.sizeOf4
  v4 := Tryd.zeroValue4
  t5 := Tryd.underlying5
  a5 := Tryd.isAgg5
  z5 := Tryd.sizeOf5
  v5 := Tryd.zeroValue5
  t9 := Tryd.underlying9
  a9 := Tryd.isAgg9
  z9 := Tryd.sizeOf9
  v9 := Tryd.zeroValue9
  t46 := Tryd.underlying107
  a46 := Tryd.isAgg107
  z46 := Tryd.sizeOf107
  v46 := Tryd.zeroValue107
  t51 := Tryd.underlying109
  a51 := Tryd.isAgg109
  z51 := Tryd.sizeOf109
  v51 := Tryd.zeroValue109
  t146 := Tryd.underlying110
  a146 := Tryd.isAgg110
  z146 := Tryd.sizeOf110
  v146 := Tryd.zeroValue110
  g1 := by kernel_rfl }
open Go.RowKit Go.Lib in
/-- strings.Index: "Index returns the index of the first instance of substr in s, or -1 if substr is not present in s.": IT RETURNS 'Lib.index s substr'; the world is as it was. (LAID: no walk: one application.) -/
theorem Tryd.strings_Index (s sub : ByteArray) (m : Int) (w : World) (hs : s.size < 4294967281) (hm : w.cell? ⟨0, 0, none⟩ = some (.int .i64 m)) :
    Calls Tryd.prog 77 #[.string s, .string sub] w fun e w' => e = .returned (.int .i64 (Lib.index s.data.toList sub.data.toList)) ∧ w' = w := Any.strings_Index Tryd.lays143 s sub m w hs hm
def Tryd.lays144_ren : Go.Shelf.Ren := ⟨fun | 144 => 69 | 143 => 77 | 219 => 67 | 217 => 73 | 225 => 74 | 224 => 75 | 267 => 76 | 266 => 80 | 314 => 81 | n => n, fun | 9 => 9 | 4 => 4 | 3 => 3 | 5 => 5 | 46 => 107 | 146 => 110 | 51 => 109 | n => n, fun | 1 => 0 | n => n⟩
theorem Tryd.lays144 : Go.Proofs.Lays.n144 Tryd.prog Tryd.lays144_ren := {
  mixed := by kernel_rfl
  f143 := Tryd.func77.trans (congrArg some (by kernel_rfl))
  f144 := Tryd.func69.trans (congrArg some (by kernel_rfl))
  f217 := Tryd.func73.trans (congrArg some (by kernel_rfl))
  f219 := Tryd.func67.trans (congrArg some (by kernel_rfl))
  f224 := Tryd.func75.trans (congrArg some (by kernel_rfl))
  f225 := Tryd.func74.trans (congrArg some (by kernel_rfl))
  f266 := Tryd.func80.trans (congrArg some (by kernel_rfl))
  f267 := Tryd.func76.trans (congrArg some (by kernel_rfl))
  f314 := Tryd.func81.trans (congrArg some (by kernel_rfl))
  t3 := Tryd.underlying3
  a3 := Tryd.isAgg3
  z3 := Tryd.sizeOf3
  v3 := Tryd.zeroValue3
  t4 := Tryd.underlying4
  a4 := Tryd.isAgg4
  z4 := Tryd.sizeOf4
  v4 := Tryd.zeroValue4
  t5 := Tryd.underlying5
  a5 := Tryd.isAgg5
  z5 := Tryd.sizeOf5
  v5 := Tryd.zeroValue5
  t9 := Tryd.underlying9
  a9 := Tryd.isAgg9
  z9 := Tryd.sizeOf9
  v9 := Tryd.zeroValue9
  t46 := Tryd.underlying107
  a46 := Tryd.isAgg107
  z46 := Tryd.sizeOf107
  v46 := Tryd.zeroValue107
  t51 := Tryd.underlying109
  a51 := Tryd.isAgg109
  z51 := Tryd.sizeOf109
  v51 := Tryd.zeroValue109
  t146 := Tryd.underlying110
  a146 := Tryd.isAgg110
  z146 := Tryd.sizeOf110
  v146 := Tryd.zeroValue110
  g1 := by kernel_rfl }
open Go.RowKit Go.Lib in
/-- strings.Contains: "Contains reports whether substr is within s.": IT RETURNS 'Lib.contains s substr'; the world is as it was. (LAID: no walk: one application.) -/
theorem Tryd.strings_Contains (s sub : ByteArray) (m : Int) (w : World) (hs : s.size < 4294967281) (hm : w.cell? ⟨0, 0, none⟩ = some (.int .i64 m)) :
    Calls Tryd.prog 69 #[.string s, .string sub] w fun e w' => e = .returned (.bool (Lib.contains s.data.toList sub.data.toList)) ∧ w' = w := Any.strings_Contains Tryd.lays144 s sub m w hs hm
def Tryd.lays220_ren : Go.Shelf.Ren := ⟨fun | 220 => 60 | 219 => 67 | 217 => 73 | 225 => 74 | 224 => 75 | 267 => 76 | 266 => 80 | 314 => 81 | n => n, fun | 9 => 9 | 4 => 4 | 3 => 3 | 5 => 5 | 46 => 107 | 146 => 110 | 51 => 109 | n => n, fun | 1 => 0 | n => n⟩
theorem Tryd.lays220 : Go.Proofs.Lays.n220 Tryd.prog Tryd.lays220_ren := {
  mixed := by kernel_rfl
  f217 := Tryd.func73.trans (congrArg some (by kernel_rfl))
  f219 := Tryd.func67.trans (congrArg some (by kernel_rfl))
  f220 := Tryd.func60.trans (congrArg some (by kernel_rfl))
  f224 := Tryd.func75.trans (congrArg some (by kernel_rfl))
  f225 := Tryd.func74.trans (congrArg some (by kernel_rfl))
  f266 := Tryd.func80.trans (congrArg some (by kernel_rfl))
  f267 := Tryd.func76.trans (congrArg some (by kernel_rfl))
  f314 := Tryd.func81.trans (congrArg some (by kernel_rfl))
  t3 := Tryd.underlying3
  a3 := Tryd.isAgg3
  z3 := Tryd.sizeOf3
  v3 := Tryd.zeroValue3
  t4 := Tryd.underlying4
  a4 := Tryd.isAgg4
  z4 := Tryd.sizeOf4
  v4 := Tryd.zeroValue4
  t5 := Tryd.underlying5
  a5 := Tryd.isAgg5
  z5 := Tryd.sizeOf5
  v5 := Tryd.zeroValue5
  t9 := Tryd.underlying9
  a9 := Tryd.isAgg9
  z9 := Tryd.sizeOf9
  v9 := Tryd.zeroValue9
  t46 := Tryd.underlying107
  a46 := Tryd.isAgg107
  z46 := Tryd.sizeOf107
  v46 := Tryd.zeroValue107
  t51 := Tryd.underlying109
  a51 := Tryd.isAgg109
  z51 := Tryd.sizeOf109
  v51 := Tryd.zeroValue109
  t146 := Tryd.underlying110
  a146 := Tryd.isAgg110
  z146 := Tryd.sizeOf110
  v146 := Tryd.zeroValue110
  g1 := by kernel_rfl }
open Go.RowKit Go.Lib in
/-- internal/stringslite.Cut (what strings.Cut calls): IT RETURNS 'Lib.cut s sep'; the world is as it was but for the count of draws. (LAID: no walk: one application.) -/
theorem Tryd.stringslite_Cut (s sep : ByteArray) (m : Int) (w : World) (hs : s.size < 4294967281) (hm : w.cell? ⟨0, 0, none⟩ = some (.int .i64 m)) :
    Calls Tryd.prog 60 #[.string s, .string sep] w fun e w' => e = .returned (.tuple #[.string ⟨(Lib.cut s.data.toList sep.data.toList).1.toArray⟩, .string ⟨(Lib.cut s.data.toList sep.data.toList).2.1.toArray⟩, .bool (Lib.cut s.data.toList sep.data.toList).2.2]) ∧ ∃ n, w' = w.drewN n := Any.stringslite_Cut Tryd.lays220 s sep m w hs hm
def Tryd.lays145_ren : Go.Shelf.Ren := ⟨fun | 145 => 51 | 220 => 60 | 219 => 67 | 217 => 73 | 225 => 74 | 224 => 75 | 267 => 76 | 266 => 80 | 314 => 81 | n => n, fun | 9 => 9 | 4 => 4 | 59 => 91 | 3 => 3 | 5 => 5 | 46 => 107 | 146 => 110 | 51 => 109 | n => n, fun | 1 => 0 | n => n⟩
theorem Tryd.lays145 : Go.Proofs.Lays.n145 Tryd.prog Tryd.lays145_ren := {
  mixed := by kernel_rfl
  f145 := Tryd.func51.trans (congrArg some (by kernel_rfl))
  f217 := Tryd.func73.trans (congrArg some (by kernel_rfl))
  f219 := Tryd.func67.trans (congrArg some (by kernel_rfl))
  f220 := Tryd.func60.trans (congrArg some (by kernel_rfl))
  f224 := Tryd.func75.trans (congrArg some (by kernel_rfl))
  f225 := Tryd.func74.trans (congrArg some (by kernel_rfl))
  f266 := Tryd.func80.trans (congrArg some (by kernel_rfl))
  f267 := Tryd.func76.trans (congrArg some (by kernel_rfl))
  f314 := Tryd.func81.trans (congrArg some (by kernel_rfl))
  t3 := Tryd.underlying3
  a3 := Tryd.isAgg3
  z3 := Tryd.sizeOf3
  v3 := Tryd.zeroValue3
  t4 := Tryd.underlying4
  a4 := Tryd.isAgg4
  z4 := Tryd.sizeOf4
  v4 := Tryd.zeroValue4
  t5 := Tryd.underlying5
  a5 := Tryd.isAgg5
  z5 := Tryd.sizeOf5
  v5 := Tryd.zeroValue5
  t9 := Tryd.underlying9
  a9 := Tryd.isAgg9
  z9 := Tryd.sizeOf9
  v9 := Tryd.zeroValue9
  t46 := Tryd.underlying107
  a46 := Tryd.isAgg107
  z46 := Tryd.sizeOf107
  v46 := Tryd.zeroValue107
  t51 := Tryd.underlying109
  a51 := Tryd.isAgg109
  z51 := Tryd.sizeOf109
  v51 := Tryd.zeroValue109
  t59 := Tryd.underlying91
  a59 := Tryd.isAgg91
  z59 := Tryd.sizeOf91
  v59 := Tryd.zeroValue91
  t146 := Tryd.underlying110
  a146 := Tryd.isAgg110
  z146 := Tryd.sizeOf110
  v146 := Tryd.zeroValue110
  g1 := by kernel_rfl }
open Go.RowKit Go.Lib in
/-- strings.Cut: "Cut slices s around the first instance of sep, returning the text before and after sep. The found result reports whether sep appears in s. If sep does not appear in s, cut returns s, "", false.": IT RETURNS 'Lib.cut s sep'; the world is as it was but for the count of draws. (LAID: no walk: one application.) -/
theorem Tryd.strings_Cut (s sep : ByteArray) (m : Int) (w : World) (hs : s.size < 4294967281) (hm : w.cell? ⟨0, 0, none⟩ = some (.int .i64 m)) :
    Calls Tryd.prog 51 #[.string s, .string sep] w fun e w' => e = .returned (.tuple #[.string ⟨(Lib.cut s.data.toList sep.data.toList).1.toArray⟩, .string ⟨(Lib.cut s.data.toList sep.data.toList).2.1.toArray⟩, .bool (Lib.cut s.data.toList sep.data.toList).2.2]) ∧ ∃ n, w' = w.drewN n := Any.strings_Cut Tryd.lays145 s sep m w hs hm
def Tryd.lays150_ren : Go.Shelf.Ren := ⟨fun | 150 => 72 | 153 => 79 | 152 => 86 | 226 => 87 | 227 => 88 | 228 => 89 | 137 => 95 | 119 => 96 | 224 => 75 | 225 => 74 | 217 => 73 | 266 => 80 | n => n, fun | 9 => 9 | 4 => 4 | 3 => 3 | 5 => 5 | 21 => 21 | 117 => 123 | 116 => 122 | 0 => 0 | 46 => 107 | 124 => 131 | n => n, fun | n => n⟩
theorem Tryd.lays150 : Go.Proofs.Lays.n150 Tryd.prog Tryd.lays150_ren := {
  mixed := by kernel_rfl
  f119 := Tryd.func96.trans (congrArg some (by kernel_rfl))
  f137 := Tryd.func95.trans (congrArg some (by kernel_rfl))
  f150 := Tryd.func72.trans (congrArg some (by kernel_rfl))
  f152 := Tryd.func86.trans (congrArg some (by kernel_rfl))
  f153 := Tryd.func79.trans (congrArg some (by kernel_rfl))
  f217 := Tryd.func73.trans (congrArg some (by kernel_rfl))
  f224 := Tryd.func75.trans (congrArg some (by kernel_rfl))
  f225 := Tryd.func74.trans (congrArg some (by kernel_rfl))
  f226 := Tryd.func87.trans (congrArg some (by kernel_rfl))
  f227 := Tryd.func88.trans (congrArg some (by kernel_rfl))
  f228 := Tryd.func89.trans (congrArg some (by kernel_rfl))
  f266 := Tryd.func80.trans (congrArg some (by kernel_rfl))
  t0 := Tryd.underlying0
  a0 := Tryd.isAgg0
  z0 := Tryd.sizeOf0
  v0 := Tryd.zeroValue0
  t3 := Tryd.underlying3
  a3 := Tryd.isAgg3
  z3 := Tryd.sizeOf3
  v3 := Tryd.zeroValue3
  t4 := Tryd.underlying4
  a4 := Tryd.isAgg4
  z4 := Tryd.sizeOf4
  v4 := Tryd.zeroValue4
  t5 := Tryd.underlying5
  a5 := Tryd.isAgg5
  z5 := Tryd.sizeOf5
  v5 := Tryd.zeroValue5
  t9 := Tryd.underlying9
  a9 := Tryd.isAgg9
  z9 := Tryd.sizeOf9
  v9 := Tryd.zeroValue9
  t21 := Tryd.underlying21
  a21 := Tryd.isAgg21
  z21 := Tryd.sizeOf21
  v21 := Tryd.zeroValue21
  t46 := Tryd.underlying107
  a46 := Tryd.isAgg107
  z46 := Tryd.sizeOf107
  v46 := Tryd.zeroValue107
  t116 := Tryd.underlying122
  a116 := Tryd.isAgg122
  z116 := Tryd.sizeOf122
  t117 := Tryd.underlying123
  a117 := Tryd.isAgg123
  z117 := Tryd.sizeOf123
  v117 := Tryd.zeroValue123
  t124 := Tryd.underlying131
  a124 := Tryd.isAgg131
  z124 := Tryd.sizeOf131
  v124 := Tryd.zeroValue131 }
open Go.RowKit Go.Lib in
/-- strings.ContainsAny ON ASCII BYTES. (LAID: no walk: one application.) -/
theorem Tryd.strings_ContainsAny (hv116 : ∀ w, (zeroValue 122).run Tryd.prog w = .ok (.agg (Array.replicate 256 (.bool false))) w) (s chars : ByteArray) (w : World) (hs : s.size < 4294967281) (hcs : chars.size < 4294967281) (has : ∀ (j : Nat) b, s.data.toList[j]? = some b → b.toNat < 128) (hac : ∀ (j : Nat) b, chars.data.toList[j]? = some b → b.toNat < 128) :
    Calls Tryd.prog 72 #[.string s, .string chars] w fun e w' => e = .returned (.bool (Lib.containsAny s.data.toList chars.data.toList)) ∧ Below w.heap.size w w' := Any.strings_ContainsAny Tryd.lays150 hv116 (by kernel_rfl) s chars w hs hcs has hac
open Go.RowKit Go.Lib in
theorem Tryd.strings_ContainsAny_laid (s chars : ByteArray) (w : World) (hs : s.size < 4294967281) (hcs : chars.size < 4294967281) (has : ∀ (j : Nat) b, s.data.toList[j]? = some b → b.toNat < 128) (hac : ∀ (j : Nat) b, chars.data.toList[j]? = some b → b.toNat < 128) :
    Calls Tryd.prog 72 #[.string s, .string chars] w fun e w' => e = .returned (.bool (Lib.containsAny s.data.toList chars.data.toList)) ∧ Below w.heap.size w w' := Any.strings_ContainsAny_laid Tryd.lays150 (by kernel_rfl) s chars w hs hcs has hac
end Go.Proofs

namespace Go.Proofs.YtcnmngiaebgjkaaDoor.X
open Go.RowKit Go.Proofs.YtcnmngiaebgjkaaDoorW.PrintWords Go.Proofs.YtcnmngiaebgjkaaDoorW.PrintLast Go.Proofs.YtcnmngiaebgjkaaDoorW.PrintMore
attribute [local go_sem] Dn Dk D5 Dz Cj Cm Dj Dl
open Go.Proofs.YtcnmngiaebgjkaaDoorG
/-- Of a text of one byte alone. -/
def stringslite_Index.f (a0 : ByteArray) (a1 : ByteArray) : Option Int := match a1.data.toList with | [c] => some (Lib.indexByte a0.data.toList c) | _ => none
theorem stringslite_Index.calls (a0 : ByteArray) (a1 : ByteArray) (r : Int) (w : World) (h : stringslite_Index.f a0 a1 = some r) :
    Calls Tryd.prog 67 #[.string a0, .string a1] w fun e w' => e = .returned (.int .i64 r) ∧ Bg w w' := by
  unfold stringslite_Index.f at h
  split at h
  · rename_i c hc
    simp only [Option.some.injEq] at h
    subst h
    obtain rfl : a1 = ⟨#[c]⟩ := by
      cases a1 with
      | mk d =>
        congr 1
        exact Array.toList_inj.1 hc
    refine (Go.Proofs.Tryd.stringslite_Index_one a0 c w).mono ?_
    rintro e w' ⟨rfl, rfl⟩
    exact ⟨rfl, Bg.refl _⟩
  · cases h
end Go.Proofs.YtcnmngiaebgjkaaDoor.X

namespace Go.Proofs.YtcnmngiaebgjkaaDoor.X
open Go.RowKit Go.Proofs.YtcnmngiaebgjkaaDoorW.PrintWords Go.Proofs.YtcnmngiaebgjkaaDoorW.PrintLast Go.Proofs.YtcnmngiaebgjkaaDoorW.PrintMore
attribute [local go_sem] Dn Dk D5 Dz Cj Cm Dj Dl
open Go.Proofs.YtcnmngiaebgjkaaDoorG
def stringslite_Cut.f (a0 : ByteArray) (a1 : ByteArray) : Option (ByteArray × ByteArray × Bool) := (stringslite_Index.f a0 a1).bind fun t283 => (if t283 ≥ 0 then (if 0 ≤ t283 then (if t283 ≤ (a0.size : Int) then (if 0 ≤ (wrap64 (t283 + (a1.size : Int))) then (if (wrap64 (t283 + (a1.size : Int))) ≤ (a0.size : Int) then (some (a0.extract 0 (t283 : Int).toNat, a0.extract ((wrap64 (t283 + (a1.size : Int))) : Int).toNat a0.size, true)) else (none)) else (none)) else (none)) else (none)) else (some (a0, (⟨#[]⟩ : ByteArray), false)))
set_option maxHeartbeats 8000000 in
set_option maxRecDepth 100000 in
theorem stringslite_Cut.calls (a0 : ByteArray) (a1 : ByteArray) (r1 : ByteArray) (r2 : ByteArray) (r3 : Bool) (w : World) (h : stringslite_Cut.f a0 a1 = some (r1, r2, r3)) :
    Calls Tryd.prog 60 #[.string a0, .string a1] w fun e w' => e = .returned (.tuple #[.string r1, .string r2, .bool r3]) ∧ Bg w w' := by
  have H : ((stringslite_Index.f a0 a1).bind fun t283 => (if t283 ≥ 0 then (if 0 ≤ t283 then (if t283 ≤ (a0.size : Int) then (if 0 ≤ (wrap64 (t283 + (a1.size : Int))) then (if (wrap64 (t283 + (a1.size : Int))) ≤ (a0.size : Int) then (some (a0.extract 0 (t283 : Int).toNat, a0.extract ((wrap64 (t283 + (a1.size : Int))) : Int).toNat a0.size, true)) else (none)) else (none)) else (none)) else (none)) else (some (a0, (⟨#[]⟩ : ByteArray), false)))) = some (r1, r2, r3) := h
  clear h
  replace H := Option.bind_eq_some_iff.mp H
  obtain ⟨t283, A30, H⟩ := H
  replace H : (if t283 ≥ 0 then (if 0 ≤ t283 then (if t283 ≤ (a0.size : Int) then (if 0 ≤ (wrap64 (t283 + (a1.size : Int))) then (if (wrap64 (t283 + (a1.size : Int))) ≤ (a0.size : Int) then (some (a0.extract 0 (t283 : Int).toNat, a0.extract ((wrap64 (t283 + (a1.size : Int))) : Int).toNat a0.size, true)) else (none)) else (none)) else (none)) else (none)) else (some (a0, (⟨#[]⟩ : ByteArray), false))) = some (r1, r2, r3) := H
  have A3 := Ac.mk A30
  clear A30
  by_cases c4 : t283 ≥ 0
  · rw [if_pos c4] at H
    have c4b0 : decide (0 ≤ t283) = true := decide_eq_true c4
    clear c4
    by_cases c5 : 0 ≤ t283
    · rw [if_pos c5] at H
      have c5b0 := eq_true c5
      have c5b1 : decide (0 ≤ t283) = true := decide_eq_true c5
      clear c5
      by_cases c6 : t283 ≤ (a0.size : Int)
      · rw [if_pos c6] at H
        have c6b0 := eq_true c6
        have c6b1 : decide (t283 ≤ (a0.size : Int)) = true := decide_eq_true c6
        clear c6
        obtain ⟨ji7, hji7⟩ : ∃ j_ : Int, (wrap64 (t283 + (a1.size : Int))) = j_ := ⟨_, rfl⟩
        replace H : (if 0 ≤ (ji7) then (if (ji7) ≤ (a0.size : Int) then (some (a0.extract 0 (t283 : Int).toNat, a0.extract ((ji7) : Int).toNat a0.size, true)) else (none)) else (none)) = some (r1, r2, r3) := by first | (rw [hji7] at H; exact H) | (simp only [hji7] at H ⊢; exact H)
        (try rw [hji7] at A3)
        have hji7w : (IntKind.i64.wrap (t283 + (a1.size : Int))) = ji7 := (Dp _).trans hji7
        by_cases c8 : 0 ≤ (ji7)
        · rw [if_pos c8] at H
          have c8b0 := eq_true c8
          have c8b1 : decide (0 ≤ (ji7)) = true := decide_eq_true c8
          clear c8
          by_cases c9 : (ji7) ≤ (a0.size : Int)
          · rw [if_pos c9] at H
            have c9b0 := eq_true c9
            have c9b1 : decide ((ji7) ≤ (a0.size : Int)) = true := decide_eq_true c9
            clear c9
            simp only [Option.some.injEq, Prod.mk.injEq] at H
            obtain ⟨rfl, rfl, rfl⟩ := H
            go_enter Tryd.func60, Tryd.ntmps60
            go_wp2_with (first | (go_at_call 67; (with_reducible refine (stringslite_Index.calls a0 a1 t283 _ A3.out).mono ?_); rintro e w' ⟨rfl, ⟨nd, rfl⟩⟩; (try first | exact ⟨rfl, _, World.drewN_drewN _ _ _⟩ | exact ⟨rfl, _, Eq.trans (World.drewN_drewN _ _ _) (congrArg (World.drewN _) (Nat.add_assoc _ _ _))⟩)))
            repeat (go_quiet (first | (go_at_call 67; (with_reducible refine (stringslite_Index.calls a0 a1 t283 _ A3.out).mono ?_); rintro e w' ⟨rfl, ⟨nd, rfl⟩⟩; (try first | exact ⟨rfl, _, World.drewN_drewN _ _ _⟩ | exact ⟨rfl, _, Eq.trans (World.drewN_drewN _ _ _) (congrArg (World.drewN _) (Nat.add_assoc _ _ _))⟩))); try go_wp2_with (first | (go_at_call 67; (with_reducible refine (stringslite_Index.calls a0 a1 t283 _ A3.out).mono ?_); rintro e w' ⟨rfl, ⟨nd, rfl⟩⟩; (try first | exact ⟨rfl, _, World.drewN_drewN _ _ _⟩ | exact ⟨rfl, _, Eq.trans (World.drewN_drewN _ _ _) (congrArg (World.drewN _) (Nat.add_assoc _ _ _))⟩))))
            go_ret3
            exact ⟨by first | rfl | (simp; done) | (simp only [← hji7] <;> (first | rfl | simp)) | (simp [*]; done), by repeat (first | exact Bg.refl _ | apply Bg.step)⟩
          · rw [if_neg c9] at H
            exact absurd H (by simp)
        · rw [if_neg c8] at H
          exact absurd H (by simp)
      · rw [if_neg c6] at H
        exact absurd H (by simp)
    · rw [if_neg c5] at H
      exact absurd H (by simp)
  · rw [if_neg c4] at H
    have c4b0 : decide (0 ≤ t283) = false := decide_eq_false c4
    clear c4
    simp only [Option.some.injEq, Prod.mk.injEq] at H
    obtain ⟨rfl, rfl, rfl⟩ := H
    go_enter Tryd.func60, Tryd.ntmps60
    go_wp2_with (first | (go_at_call 67; (with_reducible refine (stringslite_Index.calls a0 a1 t283 _ A3.out).mono ?_); rintro e w' ⟨rfl, ⟨nd, rfl⟩⟩; (try first | exact ⟨rfl, _, World.drewN_drewN _ _ _⟩ | exact ⟨rfl, _, Eq.trans (World.drewN_drewN _ _ _) (congrArg (World.drewN _) (Nat.add_assoc _ _ _))⟩)))
    repeat (go_quiet (first | (go_at_call 67; (with_reducible refine (stringslite_Index.calls a0 a1 t283 _ A3.out).mono ?_); rintro e w' ⟨rfl, ⟨nd, rfl⟩⟩; (try first | exact ⟨rfl, _, World.drewN_drewN _ _ _⟩ | exact ⟨rfl, _, Eq.trans (World.drewN_drewN _ _ _) (congrArg (World.drewN _) (Nat.add_assoc _ _ _))⟩))); try go_wp2_with (first | (go_at_call 67; (with_reducible refine (stringslite_Index.calls a0 a1 t283 _ A3.out).mono ?_); rintro e w' ⟨rfl, ⟨nd, rfl⟩⟩; (try first | exact ⟨rfl, _, World.drewN_drewN _ _ _⟩ | exact ⟨rfl, _, Eq.trans (World.drewN_drewN _ _ _) (congrArg (World.drewN _) (Nat.add_assoc _ _ _))⟩))))
    go_ret3
    exact ⟨by first | rfl | (simp; done) | (simp [*]; done), by repeat (first | exact Bg.refl _ | apply Bg.step)⟩
end Go.Proofs.YtcnmngiaebgjkaaDoor.X

namespace Go.Proofs.YtcnmngiaebgjkaaDoor.X
open Go.RowKit Go.Proofs.YtcnmngiaebgjkaaDoorW.PrintWords Go.Proofs.YtcnmngiaebgjkaaDoorW.PrintLast Go.Proofs.YtcnmngiaebgjkaaDoorW.PrintMore
attribute [local go_sem] Dn Dk D5 Dz Cj Cm Dj Dl
open Go.Proofs.YtcnmngiaebgjkaaDoorG
def strings_Cut.f (a0 : ByteArray) (a1 : ByteArray) : Option (ByteArray × ByteArray × Bool) := (stringslite_Cut.f a0 a1).bind fun bt284 => (some (bt284.1, bt284.2.1, bt284.2.2))
set_option maxHeartbeats 8000000 in
set_option maxRecDepth 100000 in
theorem strings_Cut.calls (a0 : ByteArray) (a1 : ByteArray) (r1 : ByteArray) (r2 : ByteArray) (r3 : Bool) (w : World) (h : strings_Cut.f a0 a1 = some (r1, r2, r3)) :
    Calls Tryd.prog 51 #[.string a0, .string a1] w fun e w' => e = .returned (.tuple #[.string r1, .string r2, .bool r3]) ∧ Bg w w' := by
  have H : ((stringslite_Cut.f a0 a1).bind fun bt284 => (some (bt284.1, bt284.2.1, bt284.2.2))) = some (r1, r2, r3) := h
  clear h
  replace H := Option.bind_eq_some_iff.mp H
  obtain ⟨⟨t284, t285, t286⟩, A30, H⟩ := H
  replace H : (some (t284, t285, t286)) = some (r1, r2, r3) := H
  have A3 := Ac.mk A30
  clear A30
  simp only [Option.some.injEq, Prod.mk.injEq] at H
  obtain ⟨rfl, rfl, rfl⟩ := H
  go_enter Tryd.func51, Tryd.ntmps51
  go_wp2_with (first | ((with_reducible refine Aw (f := 60) rfl ?_); refine Be (some 9) rfl rfl Tryd.func60 (by kernel_rfl) rfl #[.string a0, .string a1] rfl (by (try simp only [List.map_toArray, List.map_cons, List.map_nil]); first | done | rfl | (simp only [List.length_drop, List.length_take]; rfl)) ?_; (with_reducible refine (stringslite_Cut.calls a0 a1 t284 t285 t286 _ A3.out).mono ?_); rintro e w' ⟨rfl, ⟨nd, rfl⟩⟩; refine ⟨_, rfl, ?_⟩))
  go_ret3
  exact ⟨by first | rfl | (simp; done) | (simp [*]; done), by repeat (first | exact Bg.refl _ | apply Bg.step)⟩
end Go.Proofs.YtcnmngiaebgjkaaDoor.X

namespace Go.Proofs.YtcnmngiaebgjkaaDoor.X
open Go.RowKit Go.Proofs.YtcnmngiaebgjkaaDoorW.PrintWords Go.Proofs.YtcnmngiaebgjkaaDoorW.PrintLast Go.Proofs.YtcnmngiaebgjkaaDoorW.PrintMore
attribute [local go_sem] Dn Dk D5 Dz Cj Cm Dj Dl
open Go.Proofs.YtcnmngiaebgjkaaDoorG
def H5.f (a0 : Int) : Option ByteArray := if -9223372036854775808 ≤ a0 ∧ a0 ≤ 9223372036854775807 then some ⟨(Lib.itoa a0).toArray⟩ else none
theorem H5.calls (a0 : Int) (r : ByteArray) (w : World) (hG : Gf w) (h : H5.f a0 = some r) :
    Calls Tryd.prog 63 #[.int .i64 a0] w fun e w' => e = .returned (.string r) ∧ Below w.heap.size w w' := by
  unfold H5.f at h
  split at h
  · rename_i hc
    simp only [Option.some.injEq] at h
    subst h
    refine (Go.Proofs.Tryd.strconv_Itoa a0 hc.1 hc.2 w hG.2).mono ?_
    rintro e w' ⟨rfl, k, os, rfl⟩
    exact ⟨rfl, Lib.below_grow _ w (Nat.le_refl _) k os⟩
  · cases h
end Go.Proofs.YtcnmngiaebgjkaaDoor.X

namespace Go.Proofs.YtcnmngiaebgjkaaDoor.X
open Go.RowKit Go.Proofs.YtcnmngiaebgjkaaDoorW.PrintWords Go.Proofs.YtcnmngiaebgjkaaDoorW.PrintLast Go.Proofs.YtcnmngiaebgjkaaDoorW.PrintMore
attribute [local go_sem] Dn Dk D5 Dz Cj Cm Dj Dl
open Go.Proofs.YtcnmngiaebgjkaaDoorG
def Fb.f (a0 : Int) : Option (ByteArray) := (H5.f a0).bind fun t306 => (some t306)
set_option maxHeartbeats 8000000 in
set_option maxRecDepth 100000 in
theorem Fb.calls (a0 : Int) (r : ByteArray) (w : World) (hG : Gf w) (h : Fb.f a0 = some r) :
    Calls Tryd.prog 54 #[.int .i64 a0] w fun e w' => e = .returned (.string r) ∧ Below w.heap.size w w' := by
  have HGL := Ac.mk hG
  clear hG
  have HB := Ac.mk (Below.refl w.heap.size w)
  have H : ((H5.f a0).bind fun t306 => (some t306)) = some r := h
  clear h
  replace H := Option.bind_eq_some_iff.mp H
  obtain ⟨t306, A20, H⟩ := H
  replace H : (some t306) = some r := H
  have A2 := Ac.mk A20
  clear A20
  obtain rfl := Option.some.inj H
  go_enter Tryd.func54, Tryd.ntmps54
  go_wp2_with (first | ((with_reducible refine Aw (f := 63) rfl ?_); refine Be (some 4) rfl rfl Tryd.func63 (by kernel_rfl) rfl #[.int .i64 a0] rfl (by (try simp only [List.map_toArray, List.map_cons, List.map_nil]); first | done | rfl | (simp only [List.length_drop, List.length_take]; rfl)) ?_; (with_reducible refine (H5.calls a0 t306 _ ?side1 A2.out).mono ?_); (case side1 => exact Gf.below HGL.out (by repeat (first | (with_reducible first | exact HB.out | apply Ad | apply Aa | apply Ae) | exact HB.out))); rintro e w3 ⟨rfl, hb⟩; refine ⟨_, rfl, ?_⟩; have n0_ := Ac.mk (Ap (by repeat (first | (with_reducible first | exact HB.out | apply Ad | apply Aa | apply Ae) | exact HB.out)) hb); clear HB; have HB := n0_; clear n0_; (try clear hb); (try clear hb2); (try clear hk); (try clear hi)))
  go_ret
  exact ⟨by first | rfl | (simp [Aq, Au] <;> rfl) | (simp [*, Aq, Au] <;> rfl), by repeat (first | (with_reducible first | exact HB.out | apply Ad | apply Aa | apply Ae) | exact HB.out)⟩
end Go.Proofs.YtcnmngiaebgjkaaDoor.X

namespace Go.Proofs.YtcnmngiaebgjkaaDoor.X
open Go.RowKit Go.Proofs.YtcnmngiaebgjkaaDoorW.PrintWords Go.Proofs.YtcnmngiaebgjkaaDoorW.PrintLast Go.Proofs.YtcnmngiaebgjkaaDoorW.PrintMore
attribute [local go_sem] Dn Dk D5 Dz Cj Cm Dj Dl
open Go.Proofs.YtcnmngiaebgjkaaDoorG
def Ec.l0 : Nat → ByteArray → Int → Int → Int → Option (Int × Bool)
  | 0, _, _, _, _ => none
  | k + 1, x0, x4, x10, x11 => if x11 < x10 then (if 0 ≤ x11 then (if x11 < (x0.size : Int) then (Ec.l0 k x0 (Int.tmod (wrap64 ((wrap64 ((wrap64 (41 * x4)) + (wrap64 (bt x0 x11)))) + 1)) 999979) x10 (wrap64 (x11 + 1))) else (none)) else (none)) else (some (x4, true))
def Ec.f (k : Nat) (a0 : ByteArray) : Option (Int × Bool) := if (a0.size : Int) > 4000 then (some (0, false)) else (Ec.l0 k a0 7 (a0.size : Int) 0)
theorem Ec.Ei : ∀ k, (∀ y0 y1 y2 y3, LeO (Ec.l0 k y0 y1 y2 y3) (Ec.l0 (k + 1) y0 y1 y2 y3))
  | 0 => fun _ _ _ _ r h => by simp [Ec.l0] at h
  | k + 1 => by
    have ih0 := Ec.Ei k
    · intro y0 y1 y2 y3
      unfold Ec.l0
      repeat' first
      | (with_reducible exact ih0 _ _ _ _)
      | (with_reducible exact LeO.refl _)
      | (with_reducible exact LeO.none _)
      | (with_reducible refine LeO.ite ?_ ?_)
      | (with_reducible refine LeO.bind ?_ (fun _ => ?_))
      | exact ih0 _ _ _ _
      | exact LeO.none _
      | refine LeO.ite ?_ ?_
      | refine LeO.bind ?_ (fun _ => ?_)
theorem Ec.mono : ∀ a0 k, LeO (Ec.f k a0) (Ec.f (k + 1) a0) := by
  intro a0 k
  have ih0 := Ec.Ei k
  unfold Ec.f
  repeat' first
      | (with_reducible exact ih0 _ _ _ _)
      | (with_reducible exact LeO.refl _)
      | (with_reducible exact LeO.none _)
      | (with_reducible refine LeO.ite ?_ ?_)
      | (with_reducible refine LeO.bind ?_ (fun _ => ?_))
      | exact ih0 _ _ _ _
      | exact LeO.none _
      | refine LeO.ite ?_ ?_
      | refine LeO.bind ?_ (fun _ => ?_)
set_option maxHeartbeats 8000000 in
set_option maxRecDepth 100000 in
theorem Ec.calls (k : Nat) (a0 : ByteArray) (r1 : Int) (r2 : Bool) (w : World) (h : Ec.f k a0 = some (r1, r2)) :
    Calls Tryd.prog 68 #[.string a0] w fun e w' => e = .returned (.tuple #[.int .i64 r1, .bool r2]) ∧ Bg w w' := by
  have H : (if (a0.size : Int) > 4000 then (some (0, false)) else (Ec.l0 k a0 7 (a0.size : Int) 0)) = some (r1, r2) := h
  clear h
  by_cases c2 : (a0.size : Int) > 4000
  · rw [if_pos c2] at H
    have c2b0 : decide (4000 < (a0.size : Int)) = true := decide_eq_true c2
    have c2b1 : decide (4000 < a0.size) = true := decide_eq_true (by omega)
    clear c2
    simp only [Option.some.injEq, Prod.mk.injEq] at H
    obtain ⟨rfl, rfl⟩ := H
    go_enter Tryd.func68, Tryd.ntmps68
    go_wp2
    go_ret2
    exact ⟨by first | rfl | (simp; done) | (simp [*]; done), by repeat (first | exact Bg.refl _ | apply Bg.step)⟩
  · rw [if_neg c2] at H
    have c2b0 : decide (4000 < (a0.size : Int)) = false := decide_eq_false c2
    have c2b1 : decide (4000 < a0.size) = false := decide_eq_false (by omega)
    clear c2
    have H' := Ac.mk H
    clear H
    go_enter Tryd.func68, Tryd.ntmps68
    go_wp2
    go_loopg [4, 11] k (fun kq v4 v11 w' => ∃ (x4_1 : Int) (x11_1 : Int), v4 = .int .i64 x4_1 ∧ v11 = .int .i64 x11_1 ∧ Ac (Ec.l0 kq a0 x4_1 (a0.size : Int) x11_1 = some (r1, r2)) ∧ Ac (kq ≤ k) ∧ Bg w w')
    case atStart => exact ⟨(7), (0), (by first | rfl | (simp; done) | (simp [*]; done)), (by first | rfl | (simp; done) | (simp [*]; done)), H', ⟨Nat.le_refl _⟩, by repeat (first | exact Bg.refl _ | apply Bg.step)⟩
    case round =>
      clear H'
      try clear c2
      try clear c2b0
      try clear c2b1
      try clear p2
      obtain ⟨x4_1, x11_1, rfl, rfl, HA, HK1, ⟨m1, rfl⟩⟩ := hrel
      cases gk with
      | zero => exact absurd HA.out (by simp [Ec.l0])
      | succ k1 =>
        have H := HA.out
        clear HA
        simp only [Ec.l0] at H
        by_cases c3 : x11_1 < (a0.size : Int)
        · rw [if_pos c3] at H
          have c3b0 : decide (x11_1 < (a0.size : Int)) = true := decide_eq_true c3
          clear c3
          by_cases c4 : 0 ≤ x11_1
          · rw [if_pos c4] at H
            have c4b0 : decide (0 ≤ x11_1) = true := decide_eq_true c4
            clear c4
            by_cases c5 : x11_1 < (a0.size : Int)
            · rw [if_pos c5] at H
              have c5b0 : decide (x11_1 < (a0.size : Int)) = true := decide_eq_true c5
              clear c5
              have H' := Ac.mk H
              clear H
              have p6 : 0 ≤ (x11_1 : Int) := of_decide_eq_true (by first | (with_reducible assumption) | assumption)
              have q6 : x11_1 < (a0.size : Int) := of_decide_eq_true (by first | (with_reducible assumption) | assumption)
              have hx6 := bt_at a0 x11_1
              replace p6 := eq_true p6
              replace q6 := eq_true q6
              go_wp2
              go_roundg k1
              case measure => have := HK1.out; omega
              case rel => exact ⟨(Int.tmod (wrap64 ((wrap64 ((wrap64 (41 * x4_1)) + (wrap64 (bt a0 x11_1)))) + 1)) 999979), (wrap64 (x11_1 + 1)), (by first | rfl | (simp; done) | (simp [*]; done)), (by first | rfl | (simp; done) | (simp [*]; done)), H', ⟨by have := HK1.out; omega⟩, by repeat (first | exact Bg.refl _ | apply Bg.step)⟩
            · rw [if_neg c5] at H
              exact absurd H (by simp)
          · rw [if_neg c4] at H
            exact absurd H (by simp)
        · rw [if_neg c3] at H
          have c3b0 : decide (x11_1 < (a0.size : Int)) = false := decide_eq_false c3
          clear c3
          simp only [Option.some.injEq, Prod.mk.injEq] at H
          obtain ⟨rfl, rfl⟩ := H
          go_wp2
          go_ret2
          exact ⟨by first | rfl | (simp; done) | (simp [*]; done), by repeat (first | exact Bg.refl _ | apply Bg.step)⟩
end Go.Proofs.YtcnmngiaebgjkaaDoor.X

namespace Go.Proofs.YtcnmngiaebgjkaaDoor.X
open Go.RowKit Go.Proofs.YtcnmngiaebgjkaaDoorW.PrintWords Go.Proofs.YtcnmngiaebgjkaaDoorW.PrintLast Go.Proofs.YtcnmngiaebgjkaaDoorW.PrintMore
attribute [local go_sem] Dn Dk D5 Dz Cj Cm Dj Dl
open Go.Proofs.YtcnmngiaebgjkaaDoorG
def strings_Index.f (a0 : ByteArray) (a1 : ByteArray) : Option (Int) := (stringslite_Index.f a0 a1).bind fun t307 => (some t307)
set_option maxHeartbeats 8000000 in
set_option maxRecDepth 100000 in
theorem strings_Index.calls (a0 : ByteArray) (a1 : ByteArray) (r : Int) (w : World) (h : strings_Index.f a0 a1 = some r) :
    Calls Tryd.prog 77 #[.string a0, .string a1] w fun e w' => e = .returned (.int .i64 r) ∧ Bg w w' := by
  have H : ((stringslite_Index.f a0 a1).bind fun t307 => (some t307)) = some r := h
  clear h
  replace H := Option.bind_eq_some_iff.mp H
  obtain ⟨t307, A30, H⟩ := H
  replace H : (some t307) = some r := H
  have A3 := Ac.mk A30
  clear A30
  obtain rfl := Option.some.inj H
  go_enter Tryd.func77, Tryd.ntmps77
  go_wp2_with (first | ((with_reducible refine Aw (f := 67) rfl ?_); refine Be (some 7) rfl rfl Tryd.func67 (by kernel_rfl) rfl #[.string a0, .string a1] rfl (by (try simp only [List.map_toArray, List.map_cons, List.map_nil]); first | done | rfl | (simp only [List.length_drop, List.length_take]; rfl)) ?_; (with_reducible refine (stringslite_Index.calls a0 a1 t307 _ A3.out).mono ?_); rintro e w' ⟨rfl, ⟨nd, rfl⟩⟩; refine ⟨_, rfl, ?_⟩))
  go_ret
  exact ⟨by first | rfl | (simp; done) | (simp [*]; done), by repeat (first | exact Bg.refl _ | apply Bg.step)⟩
end Go.Proofs.YtcnmngiaebgjkaaDoor.X

namespace Go.Proofs.YtcnmngiaebgjkaaDoor.X
open Go.RowKit Go.Proofs.YtcnmngiaebgjkaaDoorW.PrintWords Go.Proofs.YtcnmngiaebgjkaaDoorW.PrintLast Go.Proofs.YtcnmngiaebgjkaaDoorW.PrintMore
attribute [local go_sem] Dn Dk D5 Dz Cj Cm Dj Dl
open Go.Proofs.YtcnmngiaebgjkaaDoorG
def strings_Contains.f (a0 : ByteArray) (a1 : ByteArray) : Option (Bool) := (strings_Index.f a0 a1).bind fun t308 => (some (decide (t308 ≥ 0)))
set_option maxHeartbeats 8000000 in
set_option maxRecDepth 100000 in
theorem strings_Contains.calls (a0 : ByteArray) (a1 : ByteArray) (r : Bool) (w : World) (h : strings_Contains.f a0 a1 = some r) :
    Calls Tryd.prog 69 #[.string a0, .string a1] w fun e w' => e = .returned (.bool r) ∧ Bg w w' := by
  have H : ((strings_Index.f a0 a1).bind fun t308 => (some (decide (t308 ≥ 0)))) = some r := h
  clear h
  replace H := Option.bind_eq_some_iff.mp H
  obtain ⟨t308, A30, H⟩ := H
  replace H : (some (decide (t308 ≥ 0))) = some r := H
  have A3 := Ac.mk A30
  clear A30
  obtain rfl := Option.some.inj H
  go_enter Tryd.func69, Tryd.ntmps69
  go_wp2_with (first | ((with_reducible refine Aw (f := 77) rfl ?_); refine Be (some 7) rfl rfl Tryd.func77 (by kernel_rfl) rfl #[.string a0, .string a1] rfl (by (try simp only [List.map_toArray, List.map_cons, List.map_nil]); first | done | rfl | (simp only [List.length_drop, List.length_take]; rfl)) ?_; (with_reducible refine (strings_Index.calls a0 a1 t308 _ A3.out).mono ?_); rintro e w' ⟨rfl, ⟨nd, rfl⟩⟩; refine ⟨_, rfl, ?_⟩))
  go_ret
  exact ⟨by first | rfl | (simp; done) | (simp [*]; done), by repeat (first | exact Bg.refl _ | apply Bg.step)⟩
end Go.Proofs.YtcnmngiaebgjkaaDoor.X

namespace Go.Proofs.YtcnmngiaebgjkaaDoor.X
open Go.RowKit Go.Proofs.YtcnmngiaebgjkaaDoorW.PrintWords Go.Proofs.YtcnmngiaebgjkaaDoorW.PrintLast Go.Proofs.YtcnmngiaebgjkaaDoorW.PrintMore
attribute [local go_sem] Dn Dk D5 Dz Cj Cm Dj Dl
open Go.Proofs.YtcnmngiaebgjkaaDoorG
def D6.f (k : Nat) (a0 : ByteArray) : Option (ByteArray × Bool) := (Ec.f k a0).bind fun bt309 => (if a0.size + 1 ≤ 9223372036854775807 then ((Fb.f bt309.1).bind fun t311 => (if (a0 ++ (⟨#[35]⟩ : ByteArray)).size + t311.size ≤ 9223372036854775807 then (if bt309.2 = true then ((strings_Contains.f a0 (⟨#[35]⟩ : ByteArray)).bind fun t312 => (if t312 = true then (some ((⟨#[]⟩ : ByteArray), false)) else (if (((a0 ++ (⟨#[35]⟩ : ByteArray)) ++ t311).size : Int) > 4000 then (some ((⟨#[]⟩ : ByteArray), false)) else (some ((a0 ++ (⟨#[35]⟩ : ByteArray)) ++ t311, true))))) else (some ((⟨#[]⟩ : ByteArray), false))) else (none))) else (none))
theorem D6.mono : ∀ a0 k, LeO (D6.f k a0) (D6.f (k + 1) a0) := by
  intro a0 k
  unfold D6.f
  repeat' first
      | (with_reducible exact Ec.mono _ _)
      | (with_reducible exact LeO.refl _)
      | (with_reducible exact LeO.none _)
      | (with_reducible refine LeO.ite ?_ ?_)
      | (with_reducible refine LeO.bind ?_ (fun _ => ?_))
      | exact Ec.mono _ _
      | exact LeO.none _
      | refine LeO.ite ?_ ?_
      | refine LeO.bind ?_ (fun _ => ?_)
set_option maxHeartbeats 8000000 in
set_option maxRecDepth 100000 in
theorem D6.calls (k : Nat) (a0 : ByteArray) (r1 : ByteArray) (r2 : Bool) (w : World) (hG : Gf w) (h : D6.f k a0 = some (r1, r2)) :
    Calls Tryd.prog 61 #[.string a0] w fun e w' => e = .returned (.tuple #[.string r1, .bool r2]) ∧ Below w.heap.size w w' := by
  have HGL := Ac.mk hG
  clear hG
  have HB := Ac.mk (Below.refl w.heap.size w)
  have H : ((Ec.f k a0).bind fun bt309 => (if a0.size + 1 ≤ 9223372036854775807 then ((Fb.f bt309.1).bind fun t311 => (if (a0 ++ (⟨#[35]⟩ : ByteArray)).size + t311.size ≤ 9223372036854775807 then (if bt309.2 = true then ((strings_Contains.f a0 (⟨#[35]⟩ : ByteArray)).bind fun t312 => (if t312 = true then (some ((⟨#[]⟩ : ByteArray), false)) else (if (((a0 ++ (⟨#[35]⟩ : ByteArray)) ++ t311).size : Int) > 4000 then (some ((⟨#[]⟩ : ByteArray), false)) else (some ((a0 ++ (⟨#[35]⟩ : ByteArray)) ++ t311, true))))) else (some ((⟨#[]⟩ : ByteArray), false))) else (none))) else (none))) = some (r1, r2) := h
  clear h
  replace H := Option.bind_eq_some_iff.mp H
  obtain ⟨⟨t309, t310⟩, A20, H⟩ := H
  replace H : (if a0.size + 1 ≤ 9223372036854775807 then ((Fb.f t309).bind fun t311 => (if (a0 ++ (⟨#[35]⟩ : ByteArray)).size + t311.size ≤ 9223372036854775807 then (if t310 = true then ((strings_Contains.f a0 (⟨#[35]⟩ : ByteArray)).bind fun t312 => (if t312 = true then (some ((⟨#[]⟩ : ByteArray), false)) else (if (((a0 ++ (⟨#[35]⟩ : ByteArray)) ++ t311).size : Int) > 4000 then (some ((⟨#[]⟩ : ByteArray), false)) else (some ((a0 ++ (⟨#[35]⟩ : ByteArray)) ++ t311, true))))) else (some ((⟨#[]⟩ : ByteArray), false))) else (none))) else (none)) = some (r1, r2) := H
  have A2 := Ac.mk A20
  clear A20
  by_cases c3 : a0.size + 1 ≤ 9223372036854775807
  · rw [if_pos c3] at H
    have c3b0 := eq_true c3
    have c3b1 : decide (a0.size + 1 ≤ 9223372036854775807) = true := decide_eq_true c3
    try have c3b2 : (9223372036854775807 < a0.size + 1) = False := eq_false (Nat.not_lt.2 c3)
    replace H := Option.bind_eq_some_iff.mp H
    obtain ⟨t311, A40, H⟩ := H
    replace H : (if (a0 ++ (⟨#[35]⟩ : ByteArray)).size + t311.size ≤ 9223372036854775807 then (if t310 = true then ((strings_Contains.f a0 (⟨#[35]⟩ : ByteArray)).bind fun t312 => (if t312 = true then (some ((⟨#[]⟩ : ByteArray), false)) else (if (((a0 ++ (⟨#[35]⟩ : ByteArray)) ++ t311).size : Int) > 4000 then (some ((⟨#[]⟩ : ByteArray), false)) else (some ((a0 ++ (⟨#[35]⟩ : ByteArray)) ++ t311, true))))) else (some ((⟨#[]⟩ : ByteArray), false))) else (none)) = some (r1, r2) := H
    have A4 := Ac.mk A40
    clear A40
    by_cases c5 : (a0 ++ (⟨#[35]⟩ : ByteArray)).size + t311.size ≤ 9223372036854775807
    · rw [if_pos c5] at H
      have c5b0 := eq_true c5
      have c5b1 : decide ((a0 ++ (⟨#[35]⟩ : ByteArray)).size + t311.size ≤ 9223372036854775807) = true := decide_eq_true c5
      try have c5b2 : (9223372036854775807 < (a0 ++ (⟨#[35]⟩ : ByteArray)).size + t311.size) = False := eq_false (Nat.not_lt.2 c5)
      have c5z0 : (⟨#[35]⟩ : ByteArray).size = 1 := rfl
      have c5b3 := c5
      try simp only [ByteArray.size_extract, ByteArray.size_append, c5z0] at c5b3
      have c5b4 := eq_false (Nat.not_lt.2 c5b3)
      by_cases c6 : t310 = true
      · subst c6
        have H1 : ((strings_Contains.f a0 (⟨#[35]⟩ : ByteArray)).bind fun t312 => (if t312 = true then (some ((⟨#[]⟩ : ByteArray), false)) else (if (((a0 ++ (⟨#[35]⟩ : ByteArray)) ++ t311).size : Int) > 4000 then (some ((⟨#[]⟩ : ByteArray), false)) else (some ((a0 ++ (⟨#[35]⟩ : ByteArray)) ++ t311, true))))) = some (r1, r2) := by rw [if_pos rfl] at H; exact H
        clear H
        have H := H1
        clear H1
        replace H := Option.bind_eq_some_iff.mp H
        obtain ⟨t312, A70, H⟩ := H
        replace H : (if t312 = true then (some ((⟨#[]⟩ : ByteArray), false)) else (if (((a0 ++ (⟨#[35]⟩ : ByteArray)) ++ t311).size : Int) > 4000 then (some ((⟨#[]⟩ : ByteArray), false)) else (some ((a0 ++ (⟨#[35]⟩ : ByteArray)) ++ t311, true)))) = some (r1, r2) := H
        have A7 := Ac.mk A70
        clear A70
        by_cases c8 : t312 = true
        · subst c8
          have H1 : (some ((⟨#[]⟩ : ByteArray), false)) = some (r1, r2) := by rw [if_pos rfl] at H; exact H
          clear H
          have H := H1
          clear H1
          simp only [Option.some.injEq, Prod.mk.injEq] at H
          obtain ⟨rfl, rfl⟩ := H
          go_enter Tryd.func61, Tryd.ntmps61
          go_wp2_with (first | ((with_reducible refine Aw (f := 68) rfl ?_); refine Be (some 9) rfl rfl Tryd.func68 (by kernel_rfl) rfl #[.string a0] rfl (by (try simp only [List.map_toArray, List.map_cons, List.map_nil]); first | done | rfl | (simp only [List.length_drop, List.length_take]; rfl)) ?_; (with_reducible refine (Ec.calls k a0 t309 true _ A2.out).mono ?_); rintro e w' ⟨rfl, ⟨nd, rfl⟩⟩; refine ⟨_, rfl, ?_⟩) | ((with_reducible refine Aw (f := 54) rfl ?_); refine Be (some 15) rfl rfl Tryd.func54 (by kernel_rfl) rfl #[.int .i64 t309] rfl (by (try simp only [List.map_toArray, List.map_cons, List.map_nil]); first | done | rfl | (simp only [List.length_drop, List.length_take]; rfl)) ?_; (with_reducible refine (Fb.calls t309 t311 _ ?side1 A4.out).mono ?_); (case side1 => exact Gf.below HGL.out (by repeat (first | (with_reducible first | exact HB.out | apply Ad | apply Aa | apply Ae) | exact HB.out))); rintro e w9 ⟨rfl, hb⟩; refine ⟨_, rfl, ?_⟩; have n0_ := Ac.mk (Ap (by repeat (first | (with_reducible first | exact HB.out | apply Ad | apply Aa | apply Ae) | exact HB.out)) hb); clear HB; have HB := n0_; clear n0_; (try clear hb); (try clear hb2); (try clear hk); (try clear hi)) | (go_at_call 69; (with_reducible refine (strings_Contains.calls a0 (⟨#[35]⟩ : ByteArray) true _ A7.out).mono ?_); rintro e w' ⟨rfl, ⟨nd, rfl⟩⟩))
          go_ret2
          exact ⟨by first | rfl | (simp [Aq, Au] <;> rfl) | (simp [*, Aq, Au] <;> rfl), by repeat (first | (with_reducible first | exact HB.out | apply Ad | apply Aa | apply Ae) | exact HB.out)⟩
        · replace c8 := Bool.eq_false_iff.mpr c8
          subst c8
          have H1 : (if (((a0 ++ (⟨#[35]⟩ : ByteArray)) ++ t311).size : Int) > 4000 then (some ((⟨#[]⟩ : ByteArray), false)) else (some ((a0 ++ (⟨#[35]⟩ : ByteArray)) ++ t311, true))) = some (r1, r2) := by rw [if_neg (show ¬ (false = true) by decide)] at H; exact H
          clear H
          have H := H1
          clear H1
          by_cases c10 : (((a0 ++ (⟨#[35]⟩ : ByteArray)) ++ t311).size : Int) > 4000
          · rw [if_pos c10] at H
            have c10b0 : decide (4000 < (((a0 ++ (⟨#[35]⟩ : ByteArray)) ++ t311).size : Int)) = true := decide_eq_true c10
            have c10b5 := c10b0
            try simp at c10b5
            have c10b1 : decide (4000 < ((a0 ++ (⟨#[35]⟩ : ByteArray)) ++ t311).size) = true := decide_eq_true (by omega)
            clear c10
            simp only [Option.some.injEq, Prod.mk.injEq] at H
            obtain ⟨rfl, rfl⟩ := H
            go_enter Tryd.func61, Tryd.ntmps61
            go_wp2_with (first | ((with_reducible refine Aw (f := 68) rfl ?_); refine Be (some 9) rfl rfl Tryd.func68 (by kernel_rfl) rfl #[.string a0] rfl (by (try simp only [List.map_toArray, List.map_cons, List.map_nil]); first | done | rfl | (simp only [List.length_drop, List.length_take]; rfl)) ?_; (with_reducible refine (Ec.calls k a0 t309 true _ A2.out).mono ?_); rintro e w' ⟨rfl, ⟨nd, rfl⟩⟩; refine ⟨_, rfl, ?_⟩) | ((with_reducible refine Aw (f := 54) rfl ?_); refine Be (some 15) rfl rfl Tryd.func54 (by kernel_rfl) rfl #[.int .i64 t309] rfl (by (try simp only [List.map_toArray, List.map_cons, List.map_nil]); first | done | rfl | (simp only [List.length_drop, List.length_take]; rfl)) ?_; (with_reducible refine (Fb.calls t309 t311 _ ?side1 A4.out).mono ?_); (case side1 => exact Gf.below HGL.out (by repeat (first | (with_reducible first | exact HB.out | apply Ad | apply Aa | apply Ae) | exact HB.out))); rintro e w11 ⟨rfl, hb⟩; refine ⟨_, rfl, ?_⟩; have n0_ := Ac.mk (Ap (by repeat (first | (with_reducible first | exact HB.out | apply Ad | apply Aa | apply Ae) | exact HB.out)) hb); clear HB; have HB := n0_; clear n0_; (try clear hb); (try clear hb2); (try clear hk); (try clear hi)) | (go_at_call 69; (with_reducible refine (strings_Contains.calls a0 (⟨#[35]⟩ : ByteArray) false _ A7.out).mono ?_); rintro e w' ⟨rfl, ⟨nd, rfl⟩⟩))
            go_ret2
            exact ⟨by first | rfl | (simp [Aq, Au] <;> rfl) | (simp [*, Aq, Au] <;> rfl), by repeat (first | (with_reducible first | exact HB.out | apply Ad | apply Aa | apply Ae) | exact HB.out)⟩
          · rw [if_neg c10] at H
            have c10b0 : decide (4000 < (((a0 ++ (⟨#[35]⟩ : ByteArray)) ++ t311).size : Int)) = false := decide_eq_false c10
            have c10b5 := c10b0
            try simp at c10b5
            have c10b1 : decide (4000 < ((a0 ++ (⟨#[35]⟩ : ByteArray)) ++ t311).size) = false := decide_eq_false (by omega)
            clear c10
            simp only [Option.some.injEq, Prod.mk.injEq] at H
            obtain ⟨rfl, rfl⟩ := H
            go_enter Tryd.func61, Tryd.ntmps61
            go_wp2_with (first | ((with_reducible refine Aw (f := 68) rfl ?_); refine Be (some 9) rfl rfl Tryd.func68 (by kernel_rfl) rfl #[.string a0] rfl (by (try simp only [List.map_toArray, List.map_cons, List.map_nil]); first | done | rfl | (simp only [List.length_drop, List.length_take]; rfl)) ?_; (with_reducible refine (Ec.calls k a0 t309 true _ A2.out).mono ?_); rintro e w' ⟨rfl, ⟨nd, rfl⟩⟩; refine ⟨_, rfl, ?_⟩) | ((with_reducible refine Aw (f := 54) rfl ?_); refine Be (some 15) rfl rfl Tryd.func54 (by kernel_rfl) rfl #[.int .i64 t309] rfl (by (try simp only [List.map_toArray, List.map_cons, List.map_nil]); first | done | rfl | (simp only [List.length_drop, List.length_take]; rfl)) ?_; (with_reducible refine (Fb.calls t309 t311 _ ?side1 A4.out).mono ?_); (case side1 => exact Gf.below HGL.out (by repeat (first | (with_reducible first | exact HB.out | apply Ad | apply Aa | apply Ae) | exact HB.out))); rintro e w12 ⟨rfl, hb⟩; refine ⟨_, rfl, ?_⟩; have n0_ := Ac.mk (Ap (by repeat (first | (with_reducible first | exact HB.out | apply Ad | apply Aa | apply Ae) | exact HB.out)) hb); clear HB; have HB := n0_; clear n0_; (try clear hb); (try clear hb2); (try clear hk); (try clear hi)) | (go_at_call 69; (with_reducible refine (strings_Contains.calls a0 (⟨#[35]⟩ : ByteArray) false _ A7.out).mono ?_); rintro e w' ⟨rfl, ⟨nd, rfl⟩⟩))
            go_ret2
            exact ⟨by first | rfl | (simp [Aq, Au] <;> rfl) | (simp [*, Aq, Au] <;> rfl), by repeat (first | (with_reducible first | exact HB.out | apply Ad | apply Aa | apply Ae) | exact HB.out)⟩
      · replace c6 := Bool.eq_false_iff.mpr c6
        subst c6
        have H1 : (some ((⟨#[]⟩ : ByteArray), false)) = some (r1, r2) := by rw [if_neg (show ¬ (false = true) by decide)] at H; exact H
        clear H
        have H := H1
        clear H1
        simp only [Option.some.injEq, Prod.mk.injEq] at H
        obtain ⟨rfl, rfl⟩ := H
        go_enter Tryd.func61, Tryd.ntmps61
        go_wp2_with (first | ((with_reducible refine Aw (f := 68) rfl ?_); refine Be (some 9) rfl rfl Tryd.func68 (by kernel_rfl) rfl #[.string a0] rfl (by (try simp only [List.map_toArray, List.map_cons, List.map_nil]); first | done | rfl | (simp only [List.length_drop, List.length_take]; rfl)) ?_; (with_reducible refine (Ec.calls k a0 t309 false _ A2.out).mono ?_); rintro e w' ⟨rfl, ⟨nd, rfl⟩⟩; refine ⟨_, rfl, ?_⟩) | ((with_reducible refine Aw (f := 54) rfl ?_); refine Be (some 15) rfl rfl Tryd.func54 (by kernel_rfl) rfl #[.int .i64 t309] rfl (by (try simp only [List.map_toArray, List.map_cons, List.map_nil]); first | done | rfl | (simp only [List.length_drop, List.length_take]; rfl)) ?_; (with_reducible refine (Fb.calls t309 t311 _ ?side1 A4.out).mono ?_); (case side1 => exact Gf.below HGL.out (by repeat (first | (with_reducible first | exact HB.out | apply Ad | apply Aa | apply Ae) | exact HB.out))); rintro e w13 ⟨rfl, hb⟩; refine ⟨_, rfl, ?_⟩; have n0_ := Ac.mk (Ap (by repeat (first | (with_reducible first | exact HB.out | apply Ad | apply Aa | apply Ae) | exact HB.out)) hb); clear HB; have HB := n0_; clear n0_; (try clear hb); (try clear hb2); (try clear hk); (try clear hi)))
        go_ret2
        exact ⟨by first | rfl | (simp [Aq, Au] <;> rfl) | (simp [*, Aq, Au] <;> rfl), by repeat (first | (with_reducible first | exact HB.out | apply Ad | apply Aa | apply Ae) | exact HB.out)⟩
    · rw [if_neg c5] at H
      exact absurd H (by simp)
  · rw [if_neg c3] at H
    exact absurd H (by simp)
end Go.Proofs.YtcnmngiaebgjkaaDoor.X

namespace Go.Proofs.YtcnmngiaebgjkaaDoor.X
open Go.RowKit Go.Proofs.YtcnmngiaebgjkaaDoorW.PrintWords Go.Proofs.YtcnmngiaebgjkaaDoorW.PrintLast Go.Proofs.YtcnmngiaebgjkaaDoorW.PrintMore
attribute [local go_sem] Dn Dk D5 Dz Cj Cm Dj Dl
open Go.Proofs.YtcnmngiaebgjkaaDoorG
def Ej.f (k : Nat) (a0 : ByteArray) : Option (ByteArray × Bool) := (strings_Cut.f a0 (⟨#[35]⟩ : ByteArray)).bind fun bt313 => ((D6.f k bt313.1).bind fun bt316 => (if bt316.2 = true then (if bt316.1.toList = a0.toList then (some (bt313.1, true)) else (some ((⟨#[]⟩ : ByteArray), false))) else (some ((⟨#[]⟩ : ByteArray), false))))
theorem Ej.mono : ∀ a0 k, LeO (Ej.f k a0) (Ej.f (k + 1) a0) := by
  intro a0 k
  unfold Ej.f
  repeat' first
      | (with_reducible exact D6.mono _ _)
      | (with_reducible exact LeO.refl _)
      | (with_reducible exact LeO.none _)
      | (with_reducible refine LeO.ite ?_ ?_)
      | (with_reducible refine LeO.bind ?_ (fun _ => ?_))
      | exact D6.mono _ _
      | exact LeO.none _
      | refine LeO.ite ?_ ?_
      | refine LeO.bind ?_ (fun _ => ?_)
set_option maxHeartbeats 8000000 in
set_option maxRecDepth 100000 in
theorem Ej.calls (k : Nat) (a0 : ByteArray) (r1 : ByteArray) (r2 : Bool) (w : World) (hG : Gf w) (h : Ej.f k a0 = some (r1, r2)) :
    Calls Tryd.prog 52 #[.string a0] w fun e w' => e = .returned (.tuple #[.string r1, .bool r2]) ∧ Below w.heap.size w w' := by
  have HGL := Ac.mk hG
  clear hG
  have HB := Ac.mk (Below.refl w.heap.size w)
  have H : ((strings_Cut.f a0 (⟨#[35]⟩ : ByteArray)).bind fun bt313 => ((D6.f k bt313.1).bind fun bt316 => (if bt316.2 = true then (if bt316.1.toList = a0.toList then (some (bt313.1, true)) else (some ((⟨#[]⟩ : ByteArray), false))) else (some ((⟨#[]⟩ : ByteArray), false))))) = some (r1, r2) := h
  clear h
  replace H := Option.bind_eq_some_iff.mp H
  obtain ⟨⟨t313, t314, t315⟩, A20, H⟩ := H
  replace H : ((D6.f k t313).bind fun bt316 => (if bt316.2 = true then (if bt316.1.toList = a0.toList then (some (t313, true)) else (some ((⟨#[]⟩ : ByteArray), false))) else (some ((⟨#[]⟩ : ByteArray), false)))) = some (r1, r2) := H
  have A2 := Ac.mk A20
  clear A20
  replace H := Option.bind_eq_some_iff.mp H
  obtain ⟨⟨t316, t317⟩, A30, H⟩ := H
  replace H : (if t317 = true then (if t316.toList = a0.toList then (some (t313, true)) else (some ((⟨#[]⟩ : ByteArray), false))) else (some ((⟨#[]⟩ : ByteArray), false))) = some (r1, r2) := H
  have A3 := Ac.mk A30
  clear A30
  by_cases c4 : t317 = true
  · subst c4
    have H1 : (if t316.toList = a0.toList then (some (t313, true)) else (some ((⟨#[]⟩ : ByteArray), false))) = some (r1, r2) := by rw [if_pos rfl] at H; exact H
    clear H
    have H := H1
    clear H1
    by_cases c5 : t316.toList = a0.toList
    · rw [if_pos c5] at H
      have c5b0 : (t316.toList == a0.toList) = true := beq_iff_eq.mpr c5
      have c5b1 : (t316.toList != a0.toList) = false := bne_eq_false_iff_eq.mpr c5
      clear c5
      simp only [Option.some.injEq, Prod.mk.injEq] at H
      obtain ⟨rfl, rfl⟩ := H
      go_enter Tryd.func52, Tryd.ntmps52
      go_wp2_with (first | ((with_reducible refine Aw (f := 51) rfl ?_); refine Be (some 11) rfl rfl Tryd.func51 (by kernel_rfl) rfl #[.string a0, .string (⟨#[35]⟩ : ByteArray)] rfl (by (try simp only [List.map_toArray, List.map_cons, List.map_nil]); first | done | rfl | (simp only [List.length_drop, List.length_take]; rfl)) ?_; (with_reducible refine (strings_Cut.calls a0 (⟨#[35]⟩ : ByteArray) t313 t314 t315 _ A2.out).mono ?_); rintro e w' ⟨rfl, ⟨nd, rfl⟩⟩; refine ⟨_, rfl, ?_⟩) | ((with_reducible refine Aw (f := 61) rfl ?_); refine Be (some 17) rfl rfl Tryd.func61 (by kernel_rfl) rfl #[.string t313] rfl (by (try simp only [List.map_toArray, List.map_cons, List.map_nil]); first | done | rfl | (simp only [List.length_drop, List.length_take]; rfl)) ?_; (with_reducible refine (D6.calls k t313 t316 true _ ?side1 A3.out).mono ?_); (case side1 => exact Gf.below HGL.out (by repeat (first | (with_reducible first | exact HB.out | apply Ad | apply Aa | apply Ae) | exact HB.out))); rintro e w6 ⟨rfl, hb⟩; refine ⟨_, rfl, ?_⟩; have n0_ := Ac.mk (Ap (by repeat (first | (with_reducible first | exact HB.out | apply Ad | apply Aa | apply Ae) | exact HB.out)) hb); clear HB; have HB := n0_; clear n0_; (try clear hb); (try clear hb2); (try clear hk); (try clear hi)))
      go_ret2
      exact ⟨by first | rfl | (simp [Aq, Au] <;> rfl) | (simp [*, Aq, Au] <;> rfl), by repeat (first | (with_reducible first | exact HB.out | apply Ad | apply Aa | apply Ae) | exact HB.out)⟩
    · rw [if_neg c5] at H
      have c5b0 : (t316.toList == a0.toList) = false := beq_eq_false_iff_ne.mpr c5
      have c5b1 : (t316.toList != a0.toList) = true := bne_iff_ne.mpr c5
      simp only [Option.some.injEq, Prod.mk.injEq] at H
      obtain ⟨rfl, rfl⟩ := H
      go_enter Tryd.func52, Tryd.ntmps52
      go_wp2_with (first | ((with_reducible refine Aw (f := 51) rfl ?_); refine Be (some 11) rfl rfl Tryd.func51 (by kernel_rfl) rfl #[.string a0, .string (⟨#[35]⟩ : ByteArray)] rfl (by (try simp only [List.map_toArray, List.map_cons, List.map_nil]); first | done | rfl | (simp only [List.length_drop, List.length_take]; rfl)) ?_; (with_reducible refine (strings_Cut.calls a0 (⟨#[35]⟩ : ByteArray) t313 t314 t315 _ A2.out).mono ?_); rintro e w' ⟨rfl, ⟨nd, rfl⟩⟩; refine ⟨_, rfl, ?_⟩) | ((with_reducible refine Aw (f := 61) rfl ?_); refine Be (some 17) rfl rfl Tryd.func61 (by kernel_rfl) rfl #[.string t313] rfl (by (try simp only [List.map_toArray, List.map_cons, List.map_nil]); first | done | rfl | (simp only [List.length_drop, List.length_take]; rfl)) ?_; (with_reducible refine (D6.calls k t313 t316 true _ ?side1 A3.out).mono ?_); (case side1 => exact Gf.below HGL.out (by repeat (first | (with_reducible first | exact HB.out | apply Ad | apply Aa | apply Ae) | exact HB.out))); rintro e w7 ⟨rfl, hb⟩; refine ⟨_, rfl, ?_⟩; have n0_ := Ac.mk (Ap (by repeat (first | (with_reducible first | exact HB.out | apply Ad | apply Aa | apply Ae) | exact HB.out)) hb); clear HB; have HB := n0_; clear n0_; (try clear hb); (try clear hb2); (try clear hk); (try clear hi)))
      go_ret2
      exact ⟨by first | rfl | (simp [Aq, Au] <;> rfl) | (simp [*, Aq, Au] <;> rfl), by repeat (first | (with_reducible first | exact HB.out | apply Ad | apply Aa | apply Ae) | exact HB.out)⟩
  · replace c4 := Bool.eq_false_iff.mpr c4
    subst c4
    have H1 : (some ((⟨#[]⟩ : ByteArray), false)) = some (r1, r2) := by rw [if_neg (show ¬ (false = true) by decide)] at H; exact H
    clear H
    have H := H1
    clear H1
    simp only [Option.some.injEq, Prod.mk.injEq] at H
    obtain ⟨rfl, rfl⟩ := H
    go_enter Tryd.func52, Tryd.ntmps52
    go_wp2_with (first | ((with_reducible refine Aw (f := 51) rfl ?_); refine Be (some 11) rfl rfl Tryd.func51 (by kernel_rfl) rfl #[.string a0, .string (⟨#[35]⟩ : ByteArray)] rfl (by (try simp only [List.map_toArray, List.map_cons, List.map_nil]); first | done | rfl | (simp only [List.length_drop, List.length_take]; rfl)) ?_; (with_reducible refine (strings_Cut.calls a0 (⟨#[35]⟩ : ByteArray) t313 t314 t315 _ A2.out).mono ?_); rintro e w' ⟨rfl, ⟨nd, rfl⟩⟩; refine ⟨_, rfl, ?_⟩) | ((with_reducible refine Aw (f := 61) rfl ?_); refine Be (some 17) rfl rfl Tryd.func61 (by kernel_rfl) rfl #[.string t313] rfl (by (try simp only [List.map_toArray, List.map_cons, List.map_nil]); first | done | rfl | (simp only [List.length_drop, List.length_take]; rfl)) ?_; (with_reducible refine (D6.calls k t313 t316 false _ ?side1 A3.out).mono ?_); (case side1 => exact Gf.below HGL.out (by repeat (first | (with_reducible first | exact HB.out | apply Ad | apply Aa | apply Ae) | exact HB.out))); rintro e w8 ⟨rfl, hb⟩; refine ⟨_, rfl, ?_⟩; have n0_ := Ac.mk (Ap (by repeat (first | (with_reducible first | exact HB.out | apply Ad | apply Aa | apply Ae) | exact HB.out)) hb); clear HB; have HB := n0_; clear n0_; (try clear hb); (try clear hb2); (try clear hk); (try clear hi)))
    go_ret2
    exact ⟨by first | rfl | (simp [Aq, Au] <;> rfl) | (simp [*, Aq, Au] <;> rfl), by repeat (first | (with_reducible first | exact HB.out | apply Ad | apply Aa | apply Ae) | exact HB.out)⟩
end Go.Proofs.YtcnmngiaebgjkaaDoor.X

namespace Go.Proofs.YtcnmngiaebgjkaaDoor.X
open Go.RowKit Go.Proofs.YtcnmngiaebgjkaaDoorW.PrintWords Go.Proofs.YtcnmngiaebgjkaaDoorW.PrintLast Go.Proofs.YtcnmngiaebgjkaaDoorW.PrintMore
attribute [local go_sem] Dn Dk D5 Dz Cj Cm Dj Dl
open Go.Proofs.YtcnmngiaebgjkaaDoorG
def stringslite_HasPrefix.f (a0 : ByteArray) (a1 : ByteArray) : Option (Bool) := if (a0.size : Int) ≥ (a1.size : Int) then (if 0 ≤ (a1.size : Int) then (if (a1.size : Int) ≤ (a0.size : Int) then (some ((a0.extract 0 ((a1.size : Int) : Int).toNat).toList == a1.toList)) else (none)) else (none)) else (some false)
set_option maxHeartbeats 8000000 in
set_option maxRecDepth 100000 in
theorem stringslite_HasPrefix.calls (a0 : ByteArray) (a1 : ByteArray) (r : Bool) (w : World) (h : stringslite_HasPrefix.f a0 a1 = some r) :
    Calls Tryd.prog 70 #[.string a0, .string a1] w fun e w' => e = .returned (.bool r) ∧ Bg w w' := by
  have H : (if (a0.size : Int) ≥ (a1.size : Int) then (if 0 ≤ (a1.size : Int) then (if (a1.size : Int) ≤ (a0.size : Int) then (some ((a0.extract 0 ((a1.size : Int) : Int).toNat).toList == a1.toList)) else (none)) else (none)) else (some false)) = some r := h
  clear h
  by_cases c3 : (a0.size : Int) ≥ (a1.size : Int)
  · rw [if_pos c3] at H
    have c3b0 : decide ((a1.size : Int) ≤ (a0.size : Int)) = true := decide_eq_true c3
    have c3b1 : decide (a1.size ≤ a0.size) = true := decide_eq_true (Int.ofNat_le.mp c3)
    clear c3
    by_cases c4 : 0 ≤ (a1.size : Int)
    · rw [if_pos c4] at H
      have c4b0 := eq_true c4
      have c4b1 : decide (0 ≤ (a1.size : Int)) = true := decide_eq_true c4
      clear c4
      by_cases c5 : (a1.size : Int) ≤ (a0.size : Int)
      · rw [if_pos c5] at H
        have c5b0 := eq_true c5
        have c5b1 : decide ((a1.size : Int) ≤ (a0.size : Int)) = true := decide_eq_true c5
        clear c5
        obtain rfl := Option.some.inj H
        go_enter Tryd.func70, Tryd.ntmps70
        go_wp2
        go_ret
        exact ⟨by first | rfl | (simp; done) | (simp [*]; done), by repeat (first | exact Bg.refl _ | apply Bg.step)⟩
      · rw [if_neg c5] at H
        exact absurd H (by simp)
    · rw [if_neg c4] at H
      exact absurd H (by simp)
  · rw [if_neg c3] at H
    have c3b0 : decide ((a1.size : Int) ≤ (a0.size : Int)) = false := decide_eq_false c3
    have c3b1 : decide (a1.size ≤ a0.size) = false := decide_eq_false (fun h => c3 (Int.ofNat_le.mpr h))
    clear c3
    obtain rfl := Option.some.inj H
    go_enter Tryd.func70, Tryd.ntmps70
    go_wp2
    go_ret
    exact ⟨by first | rfl | (simp; done) | (simp [*]; done), by repeat (first | exact Bg.refl _ | apply Bg.step)⟩
end Go.Proofs.YtcnmngiaebgjkaaDoor.X

namespace Go.Proofs.YtcnmngiaebgjkaaDoor.X
open Go.RowKit Go.Proofs.YtcnmngiaebgjkaaDoorW.PrintWords Go.Proofs.YtcnmngiaebgjkaaDoorW.PrintLast Go.Proofs.YtcnmngiaebgjkaaDoorW.PrintMore
attribute [local go_sem] Dn Dk D5 Dz Cj Cm Dj Dl
open Go.Proofs.YtcnmngiaebgjkaaDoorG
def stringslite_CutPrefix.f (a0 : ByteArray) (a1 : ByteArray) : Option (ByteArray × Bool) := (stringslite_HasPrefix.f a0 a1).bind fun t318 => (if t318 = true then (if 0 ≤ (a1.size : Int) then (if (a1.size : Int) ≤ (a0.size : Int) then (some (a0.extract ((a1.size : Int) : Int).toNat a0.size, true)) else (none)) else (none)) else (some (a0, false)))
set_option maxHeartbeats 8000000 in
set_option maxRecDepth 100000 in
theorem stringslite_CutPrefix.calls (a0 : ByteArray) (a1 : ByteArray) (r1 : ByteArray) (r2 : Bool) (w : World) (h : stringslite_CutPrefix.f a0 a1 = some (r1, r2)) :
    Calls Tryd.prog 62 #[.string a0, .string a1] w fun e w' => e = .returned (.tuple #[.string r1, .bool r2]) ∧ Bg w w' := by
  have H : ((stringslite_HasPrefix.f a0 a1).bind fun t318 => (if t318 = true then (if 0 ≤ (a1.size : Int) then (if (a1.size : Int) ≤ (a0.size : Int) then (some (a0.extract ((a1.size : Int) : Int).toNat a0.size, true)) else (none)) else (none)) else (some (a0, false)))) = some (r1, r2) := h
  clear h
  replace H := Option.bind_eq_some_iff.mp H
  obtain ⟨t318, A30, H⟩ := H
  replace H : (if t318 = true then (if 0 ≤ (a1.size : Int) then (if (a1.size : Int) ≤ (a0.size : Int) then (some (a0.extract ((a1.size : Int) : Int).toNat a0.size, true)) else (none)) else (none)) else (some (a0, false))) = some (r1, r2) := H
  have A3 := Ac.mk A30
  clear A30
  by_cases c4 : t318 = true
  · subst c4
    have H1 : (if 0 ≤ (a1.size : Int) then (if (a1.size : Int) ≤ (a0.size : Int) then (some (a0.extract ((a1.size : Int) : Int).toNat a0.size, true)) else (none)) else (none)) = some (r1, r2) := by rw [if_pos rfl] at H; exact H
    clear H
    have H := H1
    clear H1
    by_cases c5 : 0 ≤ (a1.size : Int)
    · rw [if_pos c5] at H
      have c5b0 := eq_true c5
      have c5b1 : decide (0 ≤ (a1.size : Int)) = true := decide_eq_true c5
      clear c5
      by_cases c6 : (a1.size : Int) ≤ (a0.size : Int)
      · rw [if_pos c6] at H
        have c6b0 := eq_true c6
        have c6b1 : decide ((a1.size : Int) ≤ (a0.size : Int)) = true := decide_eq_true c6
        clear c6
        simp only [Option.some.injEq, Prod.mk.injEq] at H
        obtain ⟨rfl, rfl⟩ := H
        go_enter Tryd.func62, Tryd.ntmps62
        go_wp2_with (first | ((with_reducible refine Aw (f := 70) rfl ?_); refine Be (some 8) rfl rfl Tryd.func70 (by kernel_rfl) rfl #[.string a0, .string a1] rfl (by (try simp only [List.map_toArray, List.map_cons, List.map_nil]); first | done | rfl | (simp only [List.length_drop, List.length_take]; rfl)) ?_; (with_reducible refine (stringslite_HasPrefix.calls a0 a1 true _ A3.out).mono ?_); rintro e w' ⟨rfl, ⟨nd, rfl⟩⟩; refine ⟨_, rfl, ?_⟩))
        go_ret2
        exact ⟨by first | rfl | (simp; done) | (simp [*]; done), by repeat (first | exact Bg.refl _ | apply Bg.step)⟩
      · rw [if_neg c6] at H
        exact absurd H (by simp)
    · rw [if_neg c5] at H
      exact absurd H (by simp)
  · replace c4 := Bool.eq_false_iff.mpr c4
    subst c4
    have H1 : (some (a0, false)) = some (r1, r2) := by rw [if_neg (show ¬ (false = true) by decide)] at H; exact H
    clear H
    have H := H1
    clear H1
    simp only [Option.some.injEq, Prod.mk.injEq] at H
    obtain ⟨rfl, rfl⟩ := H
    go_enter Tryd.func62, Tryd.ntmps62
    go_wp2_with (first | ((with_reducible refine Aw (f := 70) rfl ?_); refine Be (some 8) rfl rfl Tryd.func70 (by kernel_rfl) rfl #[.string a0, .string a1] rfl (by (try simp only [List.map_toArray, List.map_cons, List.map_nil]); first | done | rfl | (simp only [List.length_drop, List.length_take]; rfl)) ?_; (with_reducible refine (stringslite_HasPrefix.calls a0 a1 false _ A3.out).mono ?_); rintro e w' ⟨rfl, ⟨nd, rfl⟩⟩; refine ⟨_, rfl, ?_⟩))
    go_ret2
    exact ⟨by first | rfl | (simp; done) | (simp [*]; done), by repeat (first | exact Bg.refl _ | apply Bg.step)⟩
end Go.Proofs.YtcnmngiaebgjkaaDoor.X

namespace Go.Proofs.YtcnmngiaebgjkaaDoor.X
open Go.RowKit Go.Proofs.YtcnmngiaebgjkaaDoorW.PrintWords Go.Proofs.YtcnmngiaebgjkaaDoorW.PrintLast Go.Proofs.YtcnmngiaebgjkaaDoorW.PrintMore
attribute [local go_sem] Dn Dk D5 Dz Cj Cm Dj Dl
open Go.Proofs.YtcnmngiaebgjkaaDoorG
def strings_CutPrefix.f (a0 : ByteArray) (a1 : ByteArray) : Option (ByteArray × Bool) := (stringslite_CutPrefix.f a0 a1).bind fun bt319 => (some (bt319.1, bt319.2))
set_option maxHeartbeats 8000000 in
set_option maxRecDepth 100000 in
theorem strings_CutPrefix.calls (a0 : ByteArray) (a1 : ByteArray) (r1 : ByteArray) (r2 : Bool) (w : World) (h : strings_CutPrefix.f a0 a1 = some (r1, r2)) :
    Calls Tryd.prog 53 #[.string a0, .string a1] w fun e w' => e = .returned (.tuple #[.string r1, .bool r2]) ∧ Bg w w' := by
  have H : ((stringslite_CutPrefix.f a0 a1).bind fun bt319 => (some (bt319.1, bt319.2))) = some (r1, r2) := h
  clear h
  replace H := Option.bind_eq_some_iff.mp H
  obtain ⟨⟨t319, t320⟩, A30, H⟩ := H
  replace H : (some (t319, t320)) = some (r1, r2) := H
  have A3 := Ac.mk A30
  clear A30
  simp only [Option.some.injEq, Prod.mk.injEq] at H
  obtain ⟨rfl, rfl⟩ := H
  go_enter Tryd.func53, Tryd.ntmps53
  go_wp2_with (first | ((with_reducible refine Aw (f := 62) rfl ?_); refine Be (some 8) rfl rfl Tryd.func62 (by kernel_rfl) rfl #[.string a0, .string a1] rfl (by (try simp only [List.map_toArray, List.map_cons, List.map_nil]); first | done | rfl | (simp only [List.length_drop, List.length_take]; rfl)) ?_; (with_reducible refine (stringslite_CutPrefix.calls a0 a1 t319 t320 _ A3.out).mono ?_); rintro e w' ⟨rfl, ⟨nd, rfl⟩⟩; refine ⟨_, rfl, ?_⟩))
  go_ret2
  exact ⟨by first | rfl | (simp; done) | (simp [*]; done), by repeat (first | exact Bg.refl _ | apply Bg.step)⟩
end Go.Proofs.YtcnmngiaebgjkaaDoor.X

namespace Go.Proofs.YtcnmngiaebgjkaaDoor.X
open Go.RowKit Go.Proofs.YtcnmngiaebgjkaaDoorW.PrintWords Go.Proofs.YtcnmngiaebgjkaaDoorW.PrintLast Go.Proofs.YtcnmngiaebgjkaaDoorW.PrintMore
attribute [local go_sem] Dn Dk D5 Dz Cj Cm Dj Dl
open Go.Proofs.YtcnmngiaebgjkaaDoorG
/-- Of ASCII texts alone, as the library's contract has it. -/
def asciiB (s : ByteArray) : Bool := decide (s.size < 4294967281) && s.data.toList.all fun b => decide (b.toNat < 128)
theorem asciiB_at {s : ByteArray} (h : asciiB s = true) : s.size < 4294967281 ∧ ∀ (j : Nat) (b : UInt8), s.data.toList[j]? = some b → b.toNat < 128 := by
  simp only [asciiB, Bool.and_eq_true, decide_eq_true_eq, List.all_eq_true] at h
  exact ⟨h.1, fun j b hb => h.2 b (List.mem_of_getElem? hb)⟩
def strings_ContainsAny.f (a0 : ByteArray) (a1 : ByteArray) : Option Bool := if asciiB a0 = true ∧ asciiB a1 = true then some (Lib.containsAny a0.data.toList a1.data.toList) else none
theorem strings_ContainsAny.calls (a0 : ByteArray) (a1 : ByteArray) (r : Bool) (w : World) (h : strings_ContainsAny.f a0 a1 = some r) :
    Calls Tryd.prog 72 #[.string a0, .string a1] w fun e w' => e = .returned (.bool r) ∧ Below w.heap.size w w' := by
  unfold strings_ContainsAny.f at h
  split at h
  · rename_i hc
    simp only [Option.some.injEq] at h
    subst h
    exact Go.Proofs.Tryd.strings_ContainsAny_laid a0 a1 w (asciiB_at hc.1).1 (asciiB_at hc.2).1 (asciiB_at hc.1).2 (asciiB_at hc.2).2
  · cases h
end Go.Proofs.YtcnmngiaebgjkaaDoor.X

namespace Go.Proofs.YtcnmngiaebgjkaaDoor.X
open Go.RowKit Go.Proofs.YtcnmngiaebgjkaaDoorW.PrintWords Go.Proofs.YtcnmngiaebgjkaaDoorW.PrintLast Go.Proofs.YtcnmngiaebgjkaaDoorW.PrintMore
attribute [local go_sem] Dn Dk D5 Dz Cj Cm Dj Dl
open Go.Proofs.YtcnmngiaebgjkaaDoorG
def Ci.l0 : Nat → ByteArray → ByteArray → Int → Int → Option (Bool)
  | 0, _, _, _, _ => none
  | k + 1, x0, x1, x7, x8 => if x8 < x7 then (if 0 ≤ x8 then (if x8 < (x0.size : Int) then (if (bt x0 x8) < 32 then (some false) else (if (bt x0 x8) > 126 then (some false) else (Ci.l0 k x0 x1 x7 (wrap64 (x8 + 1))))) else (none)) else (none)) else ((strings_ContainsAny.f x0 x1).bind fun t321 => (some (!t321)))
def Ci.f (k : Nat) (a0 : ByteArray) (a1 : ByteArray) : Option (Bool) := Ci.l0 k a0 a1 (a0.size : Int) 0
theorem Ci.Ei : ∀ k, (∀ y0 y1 y2 y3, LeO (Ci.l0 k y0 y1 y2 y3) (Ci.l0 (k + 1) y0 y1 y2 y3))
  | 0 => fun _ _ _ _ r h => by simp [Ci.l0] at h
  | k + 1 => by
    have ih0 := Ci.Ei k
    · intro y0 y1 y2 y3
      unfold Ci.l0
      repeat' first
      | (with_reducible exact ih0 _ _ _ _)
      | (with_reducible exact LeO.refl _)
      | (with_reducible exact LeO.none _)
      | (with_reducible refine LeO.ite ?_ ?_)
      | (with_reducible refine LeO.bind ?_ (fun _ => ?_))
      | exact ih0 _ _ _ _
      | exact LeO.none _
      | refine LeO.ite ?_ ?_
      | refine LeO.bind ?_ (fun _ => ?_)
theorem Ci.mono : ∀ a0 a1 k, LeO (Ci.f k a0 a1) (Ci.f (k + 1) a0 a1) := by
  intro a0 a1 k
  have ih0 := Ci.Ei k
  unfold Ci.f
  repeat' first
      | (with_reducible exact ih0 _ _ _ _)
      | (with_reducible exact LeO.refl _)
      | (with_reducible exact LeO.none _)
      | (with_reducible refine LeO.ite ?_ ?_)
      | (with_reducible refine LeO.bind ?_ (fun _ => ?_))
      | exact ih0 _ _ _ _
      | exact LeO.none _
      | refine LeO.ite ?_ ?_
      | refine LeO.bind ?_ (fun _ => ?_)
set_option maxHeartbeats 8000000 in
set_option maxRecDepth 100000 in
theorem Ci.calls (k : Nat) (a0 : ByteArray) (a1 : ByteArray) (r : Bool) (w : World) (h : Ci.f k a0 a1 = some r) :
    Calls Tryd.prog 65 #[.string a0, .string a1] w fun e w' => e = .returned (.bool r) ∧ Below w.heap.size w w' := by
  have HB := Ac.mk (Below.refl w.heap.size w)
  have H : (Ci.l0 k a0 a1 (a0.size : Int) 0) = some r := h
  clear h
  have H' := Ac.mk H
  clear H
  go_enter Tryd.func65, Tryd.ntmps65
  go_wp2
  go_loopg [8] k (fun kq v8 w' => ∃ (x8_1 : Int), v8 = .int .i64 x8_1 ∧ Ac (Ci.l0 kq a0 a1 (a0.size : Int) x8_1 = some r) ∧ Ac (kq ≤ k) ∧ Ac (Below w.heap.size w w'))
  case atStart => exact ⟨(0), (by first | rfl | (simp; done) | (simp [*]; done)), H', ⟨Nat.le_refl _⟩, ⟨by repeat (first | (with_reducible first | exact HB.out | apply Ad | apply Aa | apply Ae) | exact HB.out)⟩⟩
  case round =>
    clear H'
    try clear p2
    obtain ⟨x8_1, rfl, HA, HK1, HB⟩ := hrel
    cases gk with
    | zero => exact absurd HA.out (by simp [Ci.l0])
    | succ k1 =>
      have H := HA.out
      clear HA
      simp only [Ci.l0] at H
      by_cases c3 : x8_1 < (a0.size : Int)
      · rw [if_pos c3] at H
        have c3b0 : decide (x8_1 < (a0.size : Int)) = true := decide_eq_true c3
        clear c3
        by_cases c4 : 0 ≤ x8_1
        · rw [if_pos c4] at H
          have c4b0 : decide (0 ≤ x8_1) = true := decide_eq_true c4
          clear c4
          by_cases c5 : x8_1 < (a0.size : Int)
          · rw [if_pos c5] at H
            have c5b0 : decide (x8_1 < (a0.size : Int)) = true := decide_eq_true c5
            clear c5
            by_cases c7 : (bt a0 x8_1) < 32
            · rw [if_pos c7] at H
              have c7b0 : decide ((bt a0 x8_1) < 32) = true := decide_eq_true c7
              clear c7
              obtain rfl := Option.some.inj H
              have p6 : 0 ≤ (x8_1 : Int) := of_decide_eq_true (by first | (with_reducible assumption) | assumption)
              have q6 : x8_1 < (a0.size : Int) := of_decide_eq_true (by first | (with_reducible assumption) | assumption)
              have hx6 := bt_at a0 x8_1
              replace p6 := eq_true p6
              replace q6 := eq_true q6
              go_wp2
              go_ret
              exact ⟨by first | rfl | (simp [Aq, Au] <;> rfl) | (simp [*, Aq, Au] <;> rfl), by repeat (first | (with_reducible first | exact HB.out | apply Ad | apply Aa | apply Ae) | exact HB.out)⟩
            · rw [if_neg c7] at H
              have c7b0 : decide ((bt a0 x8_1) < 32) = false := decide_eq_false c7
              clear c7
              by_cases c9 : (bt a0 x8_1) > 126
              · rw [if_pos c9] at H
                have c9b0 : decide (126 < (bt a0 x8_1)) = true := decide_eq_true c9
                clear c9
                obtain rfl := Option.some.inj H
                have p6 : 0 ≤ (x8_1 : Int) := of_decide_eq_true (by first | (with_reducible assumption) | assumption)
                have q6 : x8_1 < (a0.size : Int) := of_decide_eq_true (by first | (with_reducible assumption) | assumption)
                have hx6 := bt_at a0 x8_1
                replace p6 := eq_true p6
                replace q6 := eq_true q6
                have p8 : 0 ≤ (x8_1 : Int) := of_decide_eq_true (by first | (with_reducible assumption) | assumption)
                have q8 : x8_1 < (a0.size : Int) := of_decide_eq_true (by first | (with_reducible assumption) | assumption)
                have hx8 := bt_at a0 x8_1
                replace p8 := eq_true p8
                replace q8 := eq_true q8
                go_wp2
                go_ret
                exact ⟨by first | rfl | (simp [Aq, Au] <;> rfl) | (simp [*, Aq, Au] <;> rfl), by repeat (first | (with_reducible first | exact HB.out | apply Ad | apply Aa | apply Ae) | exact HB.out)⟩
              · rw [if_neg c9] at H
                have c9b0 : decide (126 < (bt a0 x8_1)) = false := decide_eq_false c9
                clear c9
                have H' := Ac.mk H
                clear H
                have p6 : 0 ≤ (x8_1 : Int) := of_decide_eq_true (by first | (with_reducible assumption) | assumption)
                have q6 : x8_1 < (a0.size : Int) := of_decide_eq_true (by first | (with_reducible assumption) | assumption)
                have hx6 := bt_at a0 x8_1
                replace p6 := eq_true p6
                replace q6 := eq_true q6
                have p8 : 0 ≤ (x8_1 : Int) := of_decide_eq_true (by first | (with_reducible assumption) | assumption)
                have q8 : x8_1 < (a0.size : Int) := of_decide_eq_true (by first | (with_reducible assumption) | assumption)
                have hx8 := bt_at a0 x8_1
                replace p8 := eq_true p8
                replace q8 := eq_true q8
                go_wp2
                go_roundg k1
                case measure => have := HK1.out; omega
                case rel => exact ⟨(wrap64 (x8_1 + 1)), (by first | rfl | (simp; done) | (simp [*]; done)), H', ⟨by have := HK1.out; omega⟩, ⟨by repeat (first | (with_reducible first | exact HB.out | apply Ad | apply Aa | apply Ae) | exact HB.out)⟩⟩
          · rw [if_neg c5] at H
            exact absurd H (by simp)
        · rw [if_neg c4] at H
          exact absurd H (by simp)
      · rw [if_neg c3] at H
        have c3b0 : decide (x8_1 < (a0.size : Int)) = false := decide_eq_false c3
        clear c3
        replace H := Option.bind_eq_some_iff.mp H
        obtain ⟨t321, A100, H⟩ := H
        replace H : (some (!t321)) = some r := H
        have A10 := Ac.mk A100
        clear A100
        obtain rfl := Option.some.inj H
        go_wp2_with (first | ((with_reducible refine Aw (f := 72) rfl ?_); refine Be (some 24) rfl rfl Tryd.func72 (by kernel_rfl) rfl #[.string a0, .string a1] rfl (by (try simp only [List.map_toArray, List.map_cons, List.map_nil]); first | done | rfl | (simp only [List.length_drop, List.length_take]; rfl)) ?_; (with_reducible refine (strings_ContainsAny.calls a0 a1 t321 _ A10.out).mono ?_); rintro e w11 ⟨rfl, hb⟩; refine ⟨_, rfl, ?_⟩; have n0_ := Ac.mk (Ap (by repeat (first | (with_reducible first | exact HB.out | apply Ad | apply Aa | apply Ae) | exact HB.out)) hb); clear HB; have HB := n0_; clear n0_; (try clear hb); (try clear hb2); (try clear hk); (try clear hi)))
        go_ret
        exact ⟨by first | rfl | (simp [Aq, Au] <;> rfl) | (simp [*, Aq, Au] <;> rfl), by repeat (first | (with_reducible first | exact HB.out | apply Ad | apply Aa | apply Ae) | exact HB.out)⟩
end Go.Proofs.YtcnmngiaebgjkaaDoor.X

namespace Go.Proofs.YtcnmngiaebgjkaaDoor.X
open Go.RowKit Go.Proofs.YtcnmngiaebgjkaaDoorW.PrintWords Go.Proofs.YtcnmngiaebgjkaaDoorW.PrintLast Go.Proofs.YtcnmngiaebgjkaaDoorW.PrintMore
attribute [local go_sem] Dn Dk D5 Dz Cj Cm Dj Dl
open Go.Proofs.YtcnmngiaebgjkaaDoorG
def F9.f (k : Nat) (a0 : ByteArray) : Option (Bool) := (Fe.f (a0.size : Int) 1 160).bind fun t322 => (if t322 = true then ((Ci.f k a0 (⟨#[35, 64]⟩ : ByteArray)).bind fun t323 => (some t323)) else (some false))
theorem F9.mono : ∀ a0 k, LeO (F9.f k a0) (F9.f (k + 1) a0) := by
  intro a0 k
  unfold F9.f
  repeat' first
      | (with_reducible exact Ci.mono _ _ _)
      | (with_reducible exact LeO.refl _)
      | (with_reducible exact LeO.none _)
      | (with_reducible refine LeO.ite ?_ ?_)
      | (with_reducible refine LeO.bind ?_ (fun _ => ?_))
      | exact Ci.mono _ _ _
      | exact LeO.none _
      | refine LeO.ite ?_ ?_
      | refine LeO.bind ?_ (fun _ => ?_)
set_option maxHeartbeats 8000000 in
set_option maxRecDepth 100000 in
theorem F9.calls (k : Nat) (a0 : ByteArray) (r : Bool) (w : World) (h : F9.f k a0 = some r) :
    Calls Tryd.prog 64 #[.string a0] w fun e w' => e = .returned (.bool r) ∧ Below w.heap.size w w' := by
  have HB := Ac.mk (Below.refl w.heap.size w)
  have H : ((Fe.f (a0.size : Int) 1 160).bind fun t322 => (if t322 = true then ((Ci.f k a0 (⟨#[35, 64]⟩ : ByteArray)).bind fun t323 => (some t323)) else (some false))) = some r := h
  clear h
  replace H := Option.bind_eq_some_iff.mp H
  obtain ⟨t322, A20, H⟩ := H
  replace H : (if t322 = true then ((Ci.f k a0 (⟨#[35, 64]⟩ : ByteArray)).bind fun t323 => (some t323)) else (some false)) = some r := H
  have A2 := Ac.mk A20
  clear A20
  by_cases c3 : t322 = true
  · subst c3
    have H1 : ((Ci.f k a0 (⟨#[35, 64]⟩ : ByteArray)).bind fun t323 => (some t323)) = some r := by rw [if_pos rfl] at H; exact H
    clear H
    have H := H1
    clear H1
    replace H := Option.bind_eq_some_iff.mp H
    obtain ⟨t323, A40, H⟩ := H
    replace H : (some t323) = some r := H
    have A4 := Ac.mk A40
    clear A40
    obtain rfl := Option.some.inj H
    go_enter Tryd.func64, Tryd.ntmps64
    go_wp2_with (first | ((with_reducible refine Aw (f := 36) rfl ?_); refine Be (some 5) rfl rfl Tryd.func36 (by kernel_rfl) rfl #[.int .i64 (a0.size : Int), .int .i64 1, .int .i64 160] rfl (by (try simp only [List.map_toArray, List.map_cons, List.map_nil]); first | done | rfl | (simp only [List.length_drop, List.length_take]; rfl)) ?_; (with_reducible refine (Fe.calls (a0.size : Int) 1 160 true _ A2.out).mono ?_); rintro e w' ⟨rfl, ⟨nd, rfl⟩⟩; refine ⟨_, rfl, ?_⟩) | (go_at_call 65; (with_reducible refine (Ci.calls k a0 (⟨#[35, 64]⟩ : ByteArray) t323 _ A4.out).mono ?_); rintro e w5 ⟨rfl, hb⟩; have n0_ := Ac.mk (Ap (by repeat (first | (with_reducible first | exact HB.out | apply Ad | apply Aa | apply Ae) | exact HB.out)) hb); clear HB; have HB := n0_; clear n0_; (try clear hb); (try clear hb2); (try clear hk); (try clear hi)))
    go_ret
    exact ⟨by first | rfl | (simp [Aq, Au] <;> rfl) | (simp [*, Aq, Au] <;> rfl), by repeat (first | (with_reducible first | exact HB.out | apply Ad | apply Aa | apply Ae) | exact HB.out)⟩
  · replace c3 := Bool.eq_false_iff.mpr c3
    subst c3
    have H1 : (some false) = some r := by rw [if_neg (show ¬ (false = true) by decide)] at H; exact H
    clear H
    have H := H1
    clear H1
    obtain rfl := Option.some.inj H
    go_enter Tryd.func64, Tryd.ntmps64
    go_wp2_with (first | ((with_reducible refine Aw (f := 36) rfl ?_); refine Be (some 5) rfl rfl Tryd.func36 (by kernel_rfl) rfl #[.int .i64 (a0.size : Int), .int .i64 1, .int .i64 160] rfl (by (try simp only [List.map_toArray, List.map_cons, List.map_nil]); first | done | rfl | (simp only [List.length_drop, List.length_take]; rfl)) ?_; (with_reducible refine (Fe.calls (a0.size : Int) 1 160 false _ A2.out).mono ?_); rintro e w' ⟨rfl, ⟨nd, rfl⟩⟩; refine ⟨_, rfl, ?_⟩))
    go_ret
    exact ⟨by first | rfl | (simp [Aq, Au] <;> rfl) | (simp [*, Aq, Au] <;> rfl), by repeat (first | (with_reducible first | exact HB.out | apply Ad | apply Aa | apply Ae) | exact HB.out)⟩
end Go.Proofs.YtcnmngiaebgjkaaDoor.X

namespace Go.Proofs.YtcnmngiaebgjkaaDoor.X
open Go.RowKit Go.Proofs.YtcnmngiaebgjkaaDoorW.PrintWords Go.Proofs.YtcnmngiaebgjkaaDoorW.PrintLast Go.Proofs.YtcnmngiaebgjkaaDoorW.PrintMore
attribute [local go_sem] Dn Dk D5 Dz Cj Cm Dj Dl
open Go.Proofs.YtcnmngiaebgjkaaDoorG
def Ee.f (k : Nat) (a0_0 : ByteArray) (a0_1 : ByteArray) : Option (Bool) := (F9.f k a0_0).bind fun t325 => (if t325 = true then (if (a0_1.size : Int) ≤ 200 then ((Ci.f k a0_1 (⟨#[35]⟩ : ByteArray)).bind fun t326 => (some t326)) else (some false)) else (some false))
theorem Ee.mono : ∀ a0 a1 k, LeO (Ee.f k a0 a1) (Ee.f (k + 1) a0 a1) := by
  intro a0 a1 k
  unfold Ee.f
  repeat' first
      | (with_reducible exact F9.mono _ _)
      | (with_reducible exact Ci.mono _ _ _)
      | (with_reducible exact LeO.refl _)
      | (with_reducible exact LeO.none _)
      | (with_reducible refine LeO.ite ?_ ?_)
      | (with_reducible refine LeO.bind ?_ (fun _ => ?_))
      | exact F9.mono _ _
      | exact Ci.mono _ _ _
      | exact LeO.none _
      | refine LeO.ite ?_ ?_
      | refine LeO.bind ?_ (fun _ => ?_)
set_option maxHeartbeats 8000000 in
set_option maxRecDepth 100000 in
theorem Ee.calls (k : Nat) (a0_0 : ByteArray) (a0_1 : ByteArray) (r : Bool) (w : World) (h : Ee.f k a0_0 a0_1 = some r) :
    Calls Tryd.prog 55 #[.agg #[.string a0_0, .string a0_1]] w fun e w' => e = .returned (.bool r) ∧ Below w.heap.size w w' := by
  have hu81 := Tryd.underlying81
  have HB := Ac.mk (Below.refl w.heap.size w)
  have H : ((F9.f k a0_0).bind fun t325 => (if t325 = true then (if (a0_1.size : Int) ≤ 200 then ((Ci.f k a0_1 (⟨#[35]⟩ : ByteArray)).bind fun t326 => (some t326)) else (some false)) else (some false))) = some r := h
  clear h
  replace H := Option.bind_eq_some_iff.mp H
  obtain ⟨t325, A20, H⟩ := H
  replace H : (if t325 = true then (if (a0_1.size : Int) ≤ 200 then ((Ci.f k a0_1 (⟨#[35]⟩ : ByteArray)).bind fun t326 => (some t326)) else (some false)) else (some false)) = some r := H
  have A2 := Ac.mk A20
  clear A20
  by_cases c3 : t325 = true
  · subst c3
    have H1 : (if (a0_1.size : Int) ≤ 200 then ((Ci.f k a0_1 (⟨#[35]⟩ : ByteArray)).bind fun t326 => (some t326)) else (some false)) = some r := by rw [if_pos rfl] at H; exact H
    clear H
    have H := H1
    clear H1
    by_cases c4 : (a0_1.size : Int) ≤ 200
    · rw [if_pos c4] at H
      have c4b0 : decide ((a0_1.size : Int) ≤ 200) = true := decide_eq_true c4
      have c4b1 : decide (a0_1.size ≤ 200) = true := decide_eq_true (by omega)
      clear c4
      replace H := Option.bind_eq_some_iff.mp H
      obtain ⟨t326, A50, H⟩ := H
      replace H : (some t326) = some r := H
      have A5 := Ac.mk A50
      clear A50
      obtain rfl := Option.some.inj H
      go_enter Tryd.func55, Tryd.ntmps55
      go_wp2_with (first | ((with_reducible refine Bd (N := 1) rfl ?_); (try (refine Eb (by rfl) ?_; dsimp only)); refine Bc ?hg (N := 1) ?hd (cs := #[.string a0_0, .string a0_1]) (t := 81) ?hr ?_; (case hd => rfl); (case hg => rfl); (case hr => first | (go_simp; done) | (go_simp; rfl)); intro gb324 hg w6 hbox hb; have n0_ := Ac.mk (Ap (by repeat (first | (with_reducible first | exact HB.out | apply Ad | apply Aa | apply Ae) | exact HB.out)) hb); have n1_ := Ac.mk (hbox); have n2_ := Ac.mk ((by rw [hg]; exact (Am (by repeat (first | (with_reducible first | exact HB.out | apply Ad | apply Aa | apply Ae) | exact HB.out))) : w.heap.size ≤ gb324)); have n3_ := Ac.mk ((by rw [hg]; exact (Am (by repeat (first | (with_reducible first | exact HB.out | apply Ad | apply Aa | apply Ae) | exact HB.out))) : w.heap.size ≤ gb324)); clear HB; have HB := n0_; have BK324 := n1_; have GW324 := n2_; have GE324 := n3_; clear n0_ n1_ n2_ n3_; clear hb hbox hg; have hcz7_0 : w6.cell? ⟨gb324, 0, none⟩ = some (.string a0_0) := (Ag BK324.out 0).trans rfl; have hcz7_1 : w6.cell? ⟨gb324, 1, none⟩ = some (.string a0_1) := (Ag BK324.out 1).trans rfl; have hfz7_0 := Af BK324.out 0; have hfz7_1 := Af BK324.out 1) | ((with_reducible refine Aw (f := 64) rfl ?_); refine Be (some 5) rfl rfl Tryd.func64 (by kernel_rfl) rfl #[.string a0_0] rfl (by (try simp only [List.map_toArray, List.map_cons, List.map_nil]); first | done | rfl | (simp only [List.length_drop, List.length_take]; rfl)) ?_; (with_reducible refine (F9.calls k a0_0 true _ A2.out).mono ?_); rintro e w8 ⟨rfl, hb⟩; refine ⟨_, rfl, ?_⟩; have n0_ := Ac.mk (Az (g := gb324) (o := .cells #[.string a0_0, .string a0_1] 81 (0, 0)) (by (with_reducible repeat (first | refine Aj ?_ _ | refine Ak ?_ | refine Ai ?_ _)); exact BK324.out) hb); have n1_ := Ac.mk (Ap (by repeat (first | (with_reducible first | exact HB.out | apply Ad | apply Aa | apply Ae | refine Ah ?_ GE324.out) | exact HB.out)) hb); clear BK324; clear HB; have BK324 := n0_; have HB := n1_; clear n0_ n1_; (try clear hb); (try clear hb2); (try clear hk); (try clear hi); have hcz9_0 : w8.cell? ⟨gb324, 0, none⟩ = some (.string a0_0) := (Ag BK324.out 0).trans rfl; have hcz9_1 : w8.cell? ⟨gb324, 1, none⟩ = some (.string a0_1) := (Ag BK324.out 1).trans rfl; have hfz9_0 := Af BK324.out 0; have hfz9_1 := Af BK324.out 1) | (go_at_call 65; (with_reducible refine (Ci.calls k a0_1 (⟨#[35]⟩ : ByteArray) t326 _ A5.out).mono ?_); rintro e w10 ⟨rfl, hb⟩; have n0_ := Ac.mk (Az (g := gb324) (o := .cells #[.string a0_0, .string a0_1] 81 (0, 0)) (by (with_reducible repeat (first | refine Aj ?_ _ | refine Ak ?_ | refine Ai ?_ _)); exact BK324.out) hb); have n1_ := Ac.mk (Ap (by repeat (first | (with_reducible first | exact HB.out | apply Ad | apply Aa | apply Ae | refine Ah ?_ GE324.out) | exact HB.out)) hb); clear BK324; clear HB; have BK324 := n0_; have HB := n1_; clear n0_ n1_; (try clear hb); (try clear hb2); (try clear hk); (try clear hi)))
      go_ret
      exact ⟨by first | rfl | (simp [Aq, Au] <;> rfl) | (simp [*, Aq, Au] <;> rfl), by repeat (first | (with_reducible first | exact HB.out | apply Ad | apply Aa | apply Ae | refine Ah ?_ GE324.out) | exact HB.out)⟩
    · rw [if_neg c4] at H
      have c4b0 : decide ((a0_1.size : Int) ≤ 200) = false := decide_eq_false c4
      have c4b1 : decide (a0_1.size ≤ 200) = false := decide_eq_false (by omega)
      clear c4
      obtain rfl := Option.some.inj H
      go_enter Tryd.func55, Tryd.ntmps55
      go_wp2_with (first | ((with_reducible refine Bd (N := 1) rfl ?_); (try (refine Eb (by rfl) ?_; dsimp only)); refine Bc ?hg (N := 1) ?hd (cs := #[.string a0_0, .string a0_1]) (t := 81) ?hr ?_; (case hd => rfl); (case hg => rfl); (case hr => first | (go_simp; done) | (go_simp; rfl)); intro gb324 hg w11 hbox hb; have n0_ := Ac.mk (Ap (by repeat (first | (with_reducible first | exact HB.out | apply Ad | apply Aa | apply Ae) | exact HB.out)) hb); have n1_ := Ac.mk (hbox); have n2_ := Ac.mk ((by rw [hg]; exact (Am (by repeat (first | (with_reducible first | exact HB.out | apply Ad | apply Aa | apply Ae) | exact HB.out))) : w.heap.size ≤ gb324)); have n3_ := Ac.mk ((by rw [hg]; exact (Am (by repeat (first | (with_reducible first | exact HB.out | apply Ad | apply Aa | apply Ae) | exact HB.out))) : w.heap.size ≤ gb324)); clear HB; have HB := n0_; have BK324 := n1_; have GW324 := n2_; have GE324 := n3_; clear n0_ n1_ n2_ n3_; clear hb hbox hg; have hcz12_0 : w11.cell? ⟨gb324, 0, none⟩ = some (.string a0_0) := (Ag BK324.out 0).trans rfl; have hcz12_1 : w11.cell? ⟨gb324, 1, none⟩ = some (.string a0_1) := (Ag BK324.out 1).trans rfl; have hfz12_0 := Af BK324.out 0; have hfz12_1 := Af BK324.out 1) | ((with_reducible refine Aw (f := 64) rfl ?_); refine Be (some 5) rfl rfl Tryd.func64 (by kernel_rfl) rfl #[.string a0_0] rfl (by (try simp only [List.map_toArray, List.map_cons, List.map_nil]); first | done | rfl | (simp only [List.length_drop, List.length_take]; rfl)) ?_; (with_reducible refine (F9.calls k a0_0 true _ A2.out).mono ?_); rintro e w13 ⟨rfl, hb⟩; refine ⟨_, rfl, ?_⟩; have n0_ := Ac.mk (Az (g := gb324) (o := .cells #[.string a0_0, .string a0_1] 81 (0, 0)) (by (with_reducible repeat (first | refine Aj ?_ _ | refine Ak ?_ | refine Ai ?_ _)); exact BK324.out) hb); have n1_ := Ac.mk (Ap (by repeat (first | (with_reducible first | exact HB.out | apply Ad | apply Aa | apply Ae | refine Ah ?_ GE324.out) | exact HB.out)) hb); clear BK324; clear HB; have BK324 := n0_; have HB := n1_; clear n0_ n1_; (try clear hb); (try clear hb2); (try clear hk); (try clear hi); have hcz14_0 : w13.cell? ⟨gb324, 0, none⟩ = some (.string a0_0) := (Ag BK324.out 0).trans rfl; have hcz14_1 : w13.cell? ⟨gb324, 1, none⟩ = some (.string a0_1) := (Ag BK324.out 1).trans rfl; have hfz14_0 := Af BK324.out 0; have hfz14_1 := Af BK324.out 1))
      go_ret
      exact ⟨by first | rfl | (simp [Aq, Au] <;> rfl) | (simp [*, Aq, Au] <;> rfl), by repeat (first | (with_reducible first | exact HB.out | apply Ad | apply Aa | apply Ae | refine Ah ?_ GE324.out) | exact HB.out)⟩
  · replace c3 := Bool.eq_false_iff.mpr c3
    subst c3
    have H1 : (some false) = some r := by rw [if_neg (show ¬ (false = true) by decide)] at H; exact H
    clear H
    have H := H1
    clear H1
    obtain rfl := Option.some.inj H
    go_enter Tryd.func55, Tryd.ntmps55
    go_wp2_with (first | ((with_reducible refine Bd (N := 1) rfl ?_); (try (refine Eb (by rfl) ?_; dsimp only)); refine Bc ?hg (N := 1) ?hd (cs := #[.string a0_0, .string a0_1]) (t := 81) ?hr ?_; (case hd => rfl); (case hg => rfl); (case hr => first | (go_simp; done) | (go_simp; rfl)); intro gb324 hg w15 hbox hb; have n0_ := Ac.mk (Ap (by repeat (first | (with_reducible first | exact HB.out | apply Ad | apply Aa | apply Ae) | exact HB.out)) hb); have n1_ := Ac.mk (hbox); have n2_ := Ac.mk ((by rw [hg]; exact (Am (by repeat (first | (with_reducible first | exact HB.out | apply Ad | apply Aa | apply Ae) | exact HB.out))) : w.heap.size ≤ gb324)); have n3_ := Ac.mk ((by rw [hg]; exact (Am (by repeat (first | (with_reducible first | exact HB.out | apply Ad | apply Aa | apply Ae) | exact HB.out))) : w.heap.size ≤ gb324)); clear HB; have HB := n0_; have BK324 := n1_; have GW324 := n2_; have GE324 := n3_; clear n0_ n1_ n2_ n3_; clear hb hbox hg; have hcz16_0 : w15.cell? ⟨gb324, 0, none⟩ = some (.string a0_0) := (Ag BK324.out 0).trans rfl; have hcz16_1 : w15.cell? ⟨gb324, 1, none⟩ = some (.string a0_1) := (Ag BK324.out 1).trans rfl; have hfz16_0 := Af BK324.out 0; have hfz16_1 := Af BK324.out 1) | ((with_reducible refine Aw (f := 64) rfl ?_); refine Be (some 5) rfl rfl Tryd.func64 (by kernel_rfl) rfl #[.string a0_0] rfl (by (try simp only [List.map_toArray, List.map_cons, List.map_nil]); first | done | rfl | (simp only [List.length_drop, List.length_take]; rfl)) ?_; (with_reducible refine (F9.calls k a0_0 false _ A2.out).mono ?_); rintro e w17 ⟨rfl, hb⟩; refine ⟨_, rfl, ?_⟩; have n0_ := Ac.mk (Az (g := gb324) (o := .cells #[.string a0_0, .string a0_1] 81 (0, 0)) (by (with_reducible repeat (first | refine Aj ?_ _ | refine Ak ?_ | refine Ai ?_ _)); exact BK324.out) hb); have n1_ := Ac.mk (Ap (by repeat (first | (with_reducible first | exact HB.out | apply Ad | apply Aa | apply Ae | refine Ah ?_ GE324.out) | exact HB.out)) hb); clear BK324; clear HB; have BK324 := n0_; have HB := n1_; clear n0_ n1_; (try clear hb); (try clear hb2); (try clear hk); (try clear hi)))
    go_ret
    exact ⟨by first | rfl | (simp [Aq, Au] <;> rfl) | (simp [*, Aq, Au] <;> rfl), by repeat (first | (with_reducible first | exact HB.out | apply Ad | apply Aa | apply Ae | refine Ah ?_ GE324.out) | exact HB.out)⟩
end Go.Proofs.YtcnmngiaebgjkaaDoor.X

namespace Go.Proofs.YtcnmngiaebgjkaaDoor.X
open Go.RowKit Go.Proofs.YtcnmngiaebgjkaaDoorW.PrintWords Go.Proofs.YtcnmngiaebgjkaaDoorW.PrintLast Go.Proofs.YtcnmngiaebgjkaaDoorW.PrintMore
attribute [local go_sem] Dn Dk D5 Dz Cj Cm Dj Dl
open Go.Proofs.YtcnmngiaebgjkaaDoorG
def Dc.f (k : Nat) (a0 : Int) (a1_0 : ByteArray) (a1_1 : ByteArray) : Option (ByteArray) := (Fb.f a0).bind fun t328 => (if t328.size + 1 ≤ 9223372036854775807 then (if (t328 ++ (⟨#[32]⟩ : ByteArray)).size + a1_0.size ≤ 9223372036854775807 then (if ((t328 ++ (⟨#[32]⟩ : ByteArray)) ++ a1_0).size + 1 ≤ 9223372036854775807 then (if (((t328 ++ (⟨#[32]⟩ : ByteArray)) ++ a1_0) ++ (⟨#[64]⟩ : ByteArray)).size + a1_1.size ≤ 9223372036854775807 then ((D6.f k ((((t328 ++ (⟨#[32]⟩ : ByteArray)) ++ a1_0) ++ (⟨#[64]⟩ : ByteArray)) ++ a1_1)).bind fun bt329 => (if bt329.1.size + 1 ≤ 9223372036854775807 then (some (bt329.1 ++ (⟨#[10]⟩ : ByteArray))) else (none))) else (none)) else (none)) else (none)) else (none))
theorem Dc.mono : ∀ a0 a1 a2 k, LeO (Dc.f k a0 a1 a2) (Dc.f (k + 1) a0 a1 a2) := by
  intro a0 a1 a2 k
  unfold Dc.f
  repeat' first
      | (with_reducible exact D6.mono _ _)
      | (with_reducible exact LeO.refl _)
      | (with_reducible exact LeO.none _)
      | (with_reducible refine LeO.ite ?_ ?_)
      | (with_reducible refine LeO.bind ?_ (fun _ => ?_))
      | exact D6.mono _ _
      | exact LeO.none _
      | refine LeO.ite ?_ ?_
      | refine LeO.bind ?_ (fun _ => ?_)
def Dc.T1 : Bool × List (List Nat × List Nat) := (true, [([], []), ([0], [0]), ([1], [1]), ([], []), ([3], [3]), ([2, 4], [2, 4]), ([5], [5]), ([], []), ([7], [7]), ([6, 8], [6, 8]), ([9, 1], [9]), ([10], [10]), ([11], [11]), ([11], [11]), ([12, 10, 0, 1, 2, 3, 4, 5, 6, 7, 8, 9, 10, 11, 12], [12]), ([13, 14, 0, 1, 2, 3, 4, 5, 6, 7, 8, 9, 10, 11, 12, 13, 14], [13])])
def Dc.B1 : List Nat := [0, 1, 3, 0, 8, 31, 63, 0, 128, 511, 1023, 2047, 4095, 4095, 8191, 32767]
theorem Dc.tab1 : rtab .any (opsOf Tryd.f56 1) = Dc.T1 := by kernel_rfl
theorem Dc.bits1 : waitsOk Dc.T1.2 Dc.B1 = true := by kernel_rfl
set_option maxHeartbeats 8000000 in
set_option maxRecDepth 100000 in
theorem Dc.calls (k : Nat) (a0 : Int) (a1_0 : ByteArray) (a1_1 : ByteArray) (r : ByteArray) (w : World) (hG : Gf w) (h : Dc.f k a0 a1_0 a1_1 = some r) :
    Calls Tryd.prog 56 #[.int .i64 a0, .agg #[.string a1_0, .string a1_1]] w fun e w' => e = .returned (.string r) ∧ Below w.heap.size w w' := by
  have hu81 := Tryd.underlying81
  have HGL := Ac.mk hG
  clear hG
  have HB := Ac.mk (Below.refl w.heap.size w)
  have H : ((Fb.f a0).bind fun t328 => (if t328.size + 1 ≤ 9223372036854775807 then (if (t328 ++ (⟨#[32]⟩ : ByteArray)).size + a1_0.size ≤ 9223372036854775807 then (if ((t328 ++ (⟨#[32]⟩ : ByteArray)) ++ a1_0).size + 1 ≤ 9223372036854775807 then (if (((t328 ++ (⟨#[32]⟩ : ByteArray)) ++ a1_0) ++ (⟨#[64]⟩ : ByteArray)).size + a1_1.size ≤ 9223372036854775807 then ((D6.f k ((((t328 ++ (⟨#[32]⟩ : ByteArray)) ++ a1_0) ++ (⟨#[64]⟩ : ByteArray)) ++ a1_1)).bind fun bt329 => (if bt329.1.size + 1 ≤ 9223372036854775807 then (some (bt329.1 ++ (⟨#[10]⟩ : ByteArray))) else (none))) else (none)) else (none)) else (none)) else (none))) = some r := h
  clear h
  replace H := Option.bind_eq_some_iff.mp H
  obtain ⟨t328, A30, H⟩ := H
  replace H : (if t328.size + 1 ≤ 9223372036854775807 then (if (t328 ++ (⟨#[32]⟩ : ByteArray)).size + a1_0.size ≤ 9223372036854775807 then (if ((t328 ++ (⟨#[32]⟩ : ByteArray)) ++ a1_0).size + 1 ≤ 9223372036854775807 then (if (((t328 ++ (⟨#[32]⟩ : ByteArray)) ++ a1_0) ++ (⟨#[64]⟩ : ByteArray)).size + a1_1.size ≤ 9223372036854775807 then ((D6.f k ((((t328 ++ (⟨#[32]⟩ : ByteArray)) ++ a1_0) ++ (⟨#[64]⟩ : ByteArray)) ++ a1_1)).bind fun bt329 => (if bt329.1.size + 1 ≤ 9223372036854775807 then (some (bt329.1 ++ (⟨#[10]⟩ : ByteArray))) else (none))) else (none)) else (none)) else (none)) else (none)) = some r := H
  have A3 := Ac.mk A30
  clear A30
  by_cases c4 : t328.size + 1 ≤ 9223372036854775807
  · rw [if_pos c4] at H
    have c4b0 := eq_true c4
    have c4b1 : decide (t328.size + 1 ≤ 9223372036854775807) = true := decide_eq_true c4
    try have c4b2 : (9223372036854775807 < t328.size + 1) = False := eq_false (Nat.not_lt.2 c4)
    by_cases c5 : (t328 ++ (⟨#[32]⟩ : ByteArray)).size + a1_0.size ≤ 9223372036854775807
    · rw [if_pos c5] at H
      have c5b0 := eq_true c5
      have c5b1 : decide ((t328 ++ (⟨#[32]⟩ : ByteArray)).size + a1_0.size ≤ 9223372036854775807) = true := decide_eq_true c5
      try have c5b2 : (9223372036854775807 < (t328 ++ (⟨#[32]⟩ : ByteArray)).size + a1_0.size) = False := eq_false (Nat.not_lt.2 c5)
      have c5z0 : (⟨#[32]⟩ : ByteArray).size = 1 := rfl
      have c5b3 := c5
      try simp only [ByteArray.size_extract, ByteArray.size_append, c5z0] at c5b3
      have c5b4 := eq_false (Nat.not_lt.2 c5b3)
      by_cases c6 : ((t328 ++ (⟨#[32]⟩ : ByteArray)) ++ a1_0).size + 1 ≤ 9223372036854775807
      · rw [if_pos c6] at H
        have c6b0 := eq_true c6
        have c6b1 : decide (((t328 ++ (⟨#[32]⟩ : ByteArray)) ++ a1_0).size + 1 ≤ 9223372036854775807) = true := decide_eq_true c6
        try have c6b2 : (9223372036854775807 < ((t328 ++ (⟨#[32]⟩ : ByteArray)) ++ a1_0).size + 1) = False := eq_false (Nat.not_lt.2 c6)
        have c6z0 : (⟨#[32]⟩ : ByteArray).size = 1 := rfl
        have c6b3 := c6
        try simp only [ByteArray.size_extract, ByteArray.size_append, c6z0] at c6b3
        have c6b4 := eq_false (Nat.not_lt.2 c6b3)
        by_cases c7 : (((t328 ++ (⟨#[32]⟩ : ByteArray)) ++ a1_0) ++ (⟨#[64]⟩ : ByteArray)).size + a1_1.size ≤ 9223372036854775807
        · rw [if_pos c7] at H
          have c7b0 := eq_true c7
          have c7b1 : decide ((((t328 ++ (⟨#[32]⟩ : ByteArray)) ++ a1_0) ++ (⟨#[64]⟩ : ByteArray)).size + a1_1.size ≤ 9223372036854775807) = true := decide_eq_true c7
          try have c7b2 : (9223372036854775807 < (((t328 ++ (⟨#[32]⟩ : ByteArray)) ++ a1_0) ++ (⟨#[64]⟩ : ByteArray)).size + a1_1.size) = False := eq_false (Nat.not_lt.2 c7)
          have c7z0 : (⟨#[32]⟩ : ByteArray).size = 1 := rfl
          have c7z1 : (⟨#[64]⟩ : ByteArray).size = 1 := rfl
          have c7b3 := c7
          try simp only [ByteArray.size_extract, ByteArray.size_append, c7z0, c7z1] at c7b3
          have c7b4 := eq_false (Nat.not_lt.2 c7b3)
          replace H := Option.bind_eq_some_iff.mp H
          obtain ⟨⟨t329, t330⟩, A80, H⟩ := H
          replace H : (if t329.size + 1 ≤ 9223372036854775807 then (some (t329 ++ (⟨#[10]⟩ : ByteArray))) else (none)) = some r := H
          have A8 := Ac.mk A80
          clear A80
          by_cases c9 : t329.size + 1 ≤ 9223372036854775807
          · rw [if_pos c9] at H
            have c9b0 := eq_true c9
            have c9b1 : decide (t329.size + 1 ≤ 9223372036854775807) = true := decide_eq_true c9
            try have c9b2 : (9223372036854775807 < t329.size + 1) = False := eq_false (Nat.not_lt.2 c9)
            obtain rfl := Option.some.inj H
            go_enter Tryd.func56, Tryd.ntmps56
            try go_wp2_with (first | ((with_reducible refine Bd (N := 3) rfl ?_); refine Bc ?hg (N := 3) ?hd (cs := #[.string a1_0, .string a1_1]) (t := 81) ?hr ?_; (case hd => rfl); (case hg => rfl); (case hr => first | (go_simp; done) | (go_simp; rfl)); intro gb327 hg w10 hbox hb; have n0_ := Ac.mk (Ap (by repeat (first | (with_reducible first | exact HB.out | apply Ad | apply Aa | apply Ae) | exact HB.out)) hb); have n1_ := Ac.mk (hbox); have n2_ := Ac.mk ((by rw [hg]; exact (Am (by repeat (first | (with_reducible first | exact HB.out | apply Ad | apply Aa | apply Ae) | exact HB.out))) : w.heap.size ≤ gb327)); have n3_ := Ac.mk ((by rw [hg]; exact (Am (by repeat (first | (with_reducible first | exact HB.out | apply Ad | apply Aa | apply Ae) | exact HB.out))) : w.heap.size ≤ gb327)); clear HB; have HB := n0_; have BK327 := n1_; have GW327 := n2_; have GE327 := n3_; clear n0_ n1_ n2_ n3_; clear hb hbox hg))
            have n0_ := Ac.mk (Ak BK327.out)
            have n1_ := Ac.mk (Ae HB.out)
            clear BK327
            clear HB
            have BK327 := n0_
            have HB := n1_
            clear n0_ n1_
            refine start_ (n := 16) (S := fun w' => w'.cell? ⟨gb327, 0, none⟩ = some (.string a1_0) ∧ w'.cell? ⟨gb327, 1, none⟩ = some (.string a1_1)) (ds := []) #[false, false, false, false, false, false, false, false, false, false, false, false, false, false, false, false] (by kernel_rfl) rfl rfl ⟨(Ag BK327.out 0).trans rfl, (Ag BK327.out 1).trans rfl⟩ (fun hHeld => ?_); refine Jd Dc.tab1 Dc.bits1 (fun HT_ HW_ => ?_)
            generalize w10.drew = w11 at BK327 HB hHeld ⊢
            refine Eu (i := 0) (N := some 8) (v := ?_) (a' := ?_) #[true, false, false, false, false, false, false, false, false, false, false, false, false, false, false, false] rfl rfl (Eh HT_.out (by kernel_rfl)) (fun _ _ _ h => h) (Or.inl ⟨by rfl, ?_⟩) ?_ ?_
            rotate_left
            · intro w'
              go_simp
              first | with_reducible rfl | (rw [if_neg (by omega)]; try with_reducible rfl)
            rotate_left
            · simp only [Act.put, List.setIfInBounds_toArray, List.set_cons_zero, List.set_cons_succ, Dp, Dt]
              rfl
            refine Eu (i := 3) (N := some 11) (v := ?_) (a' := ?_) #[true, false, false, true, false, false, false, false, false, false, false, false, false, false, false, false] rfl rfl (Eh HT_.out (by kernel_rfl)) (fun _ _ _ h => h) (Or.inl ⟨by rfl, ?_⟩) ?_ ?_
            rotate_left
            · intro w'
              go_simp
              first | with_reducible rfl | (rw [if_neg (by omega)]; try with_reducible rfl)
            rotate_left
            · simp only [Act.put, List.setIfInBounds_toArray, List.set_cons_zero, List.set_cons_succ, Dp, Dt]
              rfl
            refine Eu (i := 7) (N := some 15) (v := ?_) (a' := ?_) #[true, false, false, true, false, false, false, true, false, false, false, false, false, false, false, false] rfl rfl (Eh HT_.out (by kernel_rfl)) (fun _ _ _ h => h) (Or.inl ⟨by rfl, ?_⟩) ?_ ?_
            rotate_left
            · intro w'
              go_simp
              first | with_reducible rfl | (rw [if_neg (by omega)]; try with_reducible rfl)
            rotate_left
            · simp only [Act.put, List.setIfInBounds_toArray, List.set_cons_zero, List.set_cons_succ, Dp, Dt]
              rfl
            refine Ib (i := 4) (N := some 12) (v := ?_) (a' := ?_) #[true, false, false, true, true, false, false, true, false, false, false, false, false, false, false, false] rfl rfl (Ht HT_.out HW_.out (by kernel_rfl)) (fun _ _ _ h => h) (Or.inl ⟨by rfl, ?_⟩) hHeld ?_ ?_
            rotate_left
            · rintro w' ⟨s0, s1⟩
              go_simp
              first | with_reducible rfl | (rw [if_neg (by omega)]; try with_reducible rfl)
            rotate_left
            · simp only [Act.put, List.setIfInBounds_toArray, List.set_cons_zero, List.set_cons_succ, Dp, Dt]
              rfl
            refine Ib (i := 8) (N := some 16) (v := ?_) (a' := ?_) #[true, false, false, true, true, false, false, true, true, false, false, false, false, false, false, false] rfl rfl (Ht HT_.out HW_.out (by kernel_rfl)) (fun _ _ _ h => h) (Or.inl ⟨by rfl, ?_⟩) hHeld ?_ ?_
            rotate_left
            · rintro w' ⟨s0, s1⟩
              go_simp
              first | with_reducible rfl | (rw [if_neg (by omega)]; try with_reducible rfl)
            rotate_left
            · simp only [Act.put, List.setIfInBounds_toArray, List.set_cons_zero, List.set_cons_succ, Dp, Dt]
              rfl
            refine one_ (i := 1) (N := some 9) #[true, true, false, true, true, false, false, true, true, false, false, false, false, false, false, false] rfl rfl (one_of HT_.out (by kernel_rfl)) (by decide) (fun K hK => ?_)
            refine goes_ Tryd.func54 (by kernel_rfl) rfl #[.int .i64 a0] (by rfl) rfl rfl (by (try simp only [List.map_toArray, List.map_cons, List.map_nil]); first | done | rfl | (simp only [List.length_drop, List.length_take]; rfl)) ?_
            with_reducible refine (Fb.calls a0 t328 _ ?side1 A3.out).mono ?_
            (case side1 => exact Gf.below HGL.out (by repeat (first | (with_reducible first | exact HB.out | apply Ad | apply Aa | apply Ae | refine Ah ?_ GE327.out) | exact HB.out)))
            rintro e w12 ⟨rfl, hb⟩
            refine ⟨_, rfl, ?_⟩
            have n0_ := Ac.mk (Az (g := gb327) (o := .cells #[.string a1_0, .string a1_1] 81 (0, 0)) (by (with_reducible repeat (first | refine Aj ?_ _ | refine Ak ?_ | refine Ai ?_ _)); exact BK327.out) hb)
            have n1_ := Ac.mk (Ap (by repeat (first | (with_reducible first | exact HB.out | apply Ad | apply Aa | apply Ae | refine Ah ?_ GE327.out) | exact HB.out)) hb)
            clear BK327
            clear HB
            have BK327 := n0_
            have HB := n1_
            clear n0_ n1_
            (try clear hb)
            (try clear hb2)
            (try clear hk)
            (try clear hi)
            refine hK.out _ _ ⟨(Ag BK327.out 0).trans rfl, (Ag BK327.out 1).trans rfl⟩ (fun hHeld => ?_)
            clear hK K
            refine norm_ (a' := ?_) ?_ ?_
            rotate_left
            · show Act.put _ (some 9) _ = _
              simp only [Act.put, List.setIfInBounds_toArray, List.set_cons_zero, List.set_cons_succ, Dp, Dt]
              rfl
            refine Eu (i := 2) (N := some 10) (v := ?_) (a' := ?_) #[true, true, true, true, true, false, false, true, true, false, false, false, false, false, false, false] rfl rfl (Eh HT_.out (by kernel_rfl)) (fun _ _ _ h => h) (Or.inl ⟨by rfl, ?_⟩) ?_ ?_
            rotate_left
            · intro w'
              go_simp
              first | with_reducible rfl | (rw [if_neg (by omega)]; try with_reducible rfl)
            rotate_left
            · simp only [Act.put, List.setIfInBounds_toArray, List.set_cons_zero, List.set_cons_succ, Dp, Dt]
              rfl
            refine Eu (i := 5) (N := some 13) (v := ?_) (a' := ?_) #[true, true, true, true, true, true, false, true, true, false, false, false, false, false, false, false] rfl rfl (Eh HT_.out (by kernel_rfl)) (fun _ _ _ h => h) (Or.inl ⟨by rfl, ?_⟩) ?_ ?_
            rotate_left
            · intro w'
              go_simp
              first | with_reducible rfl | (rw [if_neg (by omega)]; try with_reducible rfl)
            rotate_left
            · simp only [Act.put, List.setIfInBounds_toArray, List.set_cons_zero, List.set_cons_succ, Dp, Dt]
              rfl
            refine Eu (i := 6) (N := some 14) (v := ?_) (a' := ?_) #[true, true, true, true, true, true, true, true, true, false, false, false, false, false, false, false] rfl rfl (Eh HT_.out (by kernel_rfl)) (fun _ _ _ h => h) (Or.inl ⟨by rfl, ?_⟩) ?_ ?_
            rotate_left
            · intro w'
              go_simp
              first | with_reducible rfl | (rw [if_neg (by omega)]; try with_reducible rfl)
            rotate_left
            · simp only [Act.put, List.setIfInBounds_toArray, List.set_cons_zero, List.set_cons_succ, Dp, Dt]
              rfl
            refine Eu (i := 9) (N := some 17) (v := ?_) (a' := ?_) #[true, true, true, true, true, true, true, true, true, true, false, false, false, false, false, false] rfl rfl (Eh HT_.out (by kernel_rfl)) (fun _ _ _ h => h) (Or.inl ⟨by rfl, ?_⟩) ?_ ?_
            rotate_left
            · intro w'
              go_simp
              first | with_reducible rfl | (rw [if_neg (by omega)]; try with_reducible rfl)
            rotate_left
            · simp only [Act.put, List.setIfInBounds_toArray, List.set_cons_zero, List.set_cons_succ, Dp, Dt]
              rfl
            refine one_ (i := 10) (N := some 18) #[true, true, true, true, true, true, true, true, true, true, true, false, false, false, false, false] rfl rfl (one_of HT_.out (by kernel_rfl)) (by decide) (fun K hK => ?_)
            refine goes_ Tryd.func61 (by kernel_rfl) rfl #[.string ((((t328 ++ (⟨#[32]⟩ : ByteArray)) ++ a1_0) ++ (⟨#[64]⟩ : ByteArray)) ++ a1_1)] (by rfl) rfl rfl (by (try simp only [List.map_toArray, List.map_cons, List.map_nil]); first | done | rfl | (simp only [List.length_drop, List.length_take]; rfl)) ?_
            with_reducible refine (D6.calls k ((((t328 ++ (⟨#[32]⟩ : ByteArray)) ++ a1_0) ++ (⟨#[64]⟩ : ByteArray)) ++ a1_1) t329 t330 _ ?side1 A8.out).mono ?_
            (case side1 => exact Gf.below HGL.out (by repeat (first | (with_reducible first | exact HB.out | apply Ad | apply Aa | apply Ae | refine Ah ?_ GE327.out) | exact HB.out)))
            rintro e w13 ⟨rfl, hb⟩
            refine ⟨_, rfl, ?_⟩
            have n0_ := Ac.mk (Az (g := gb327) (o := .cells #[.string a1_0, .string a1_1] 81 (0, 0)) (by (with_reducible repeat (first | refine Aj ?_ _ | refine Ak ?_ | refine Ai ?_ _)); exact BK327.out) hb)
            have n1_ := Ac.mk (Ap (by repeat (first | (with_reducible first | exact HB.out | apply Ad | apply Aa | apply Ae | refine Ah ?_ GE327.out) | exact HB.out)) hb)
            clear BK327
            clear HB
            have BK327 := n0_
            have HB := n1_
            clear n0_ n1_
            (try clear hb)
            (try clear hb2)
            (try clear hk)
            (try clear hi)
            refine hK.out _ _ ⟨(Ag BK327.out 0).trans rfl, (Ag BK327.out 1).trans rfl⟩ (fun hHeld => ?_)
            clear hK K
            refine norm_ (a' := ?_) ?_ ?_
            rotate_left
            · show Act.put _ (some 18) _ = _
              simp only [Act.put, List.setIfInBounds_toArray, List.set_cons_zero, List.set_cons_succ, Dp, Dt]
              rfl
            refine Eu (i := 11) (N := some 7) (v := ?_) (a' := ?_) #[true, true, true, true, true, true, true, true, true, true, true, true, false, false, false, false] rfl rfl (Eh HT_.out (by kernel_rfl)) (fun _ _ _ h => h) (Or.inl ⟨by rfl, ?_⟩) ?_ ?_
            rotate_left
            · intro w'
              go_simp
              first | with_reducible rfl | (rw [if_neg (by omega)]; try with_reducible rfl)
            rotate_left
            · simp only [Act.put, List.setIfInBounds_toArray, List.set_cons_zero, List.set_cons_succ, Dp, Dt]
              rfl
            refine Eu (i := 12) (N := some 19) (v := ?_) (a' := ?_) #[true, true, true, true, true, true, true, true, true, true, true, true, true, false, false, false] rfl rfl (Eh HT_.out (by kernel_rfl)) (fun _ _ _ h => h) (Or.inl ⟨by rfl, ?_⟩) ?_ ?_
            rotate_left
            · intro w'
              go_simp
              first | with_reducible rfl | (rw [if_neg (by omega)]; try with_reducible rfl)
            rotate_left
            · simp only [Act.put, List.setIfInBounds_toArray, List.set_cons_zero, List.set_cons_succ, Dp, Dt]
              rfl
            refine Eu (i := 13) (N := some 20) (v := ?_) (a' := ?_) #[true, true, true, true, true, true, true, true, true, true, true, true, true, true, false, false] rfl rfl (Eh HT_.out (by kernel_rfl)) (fun _ _ _ h => h) (Or.inl ⟨by rfl, ?_⟩) ?_ ?_
            rotate_left
            · intro w'
              go_simp
              first | with_reducible rfl | (rw [if_neg (by omega)]; try with_reducible rfl)
            rotate_left
            · simp only [Act.put, List.setIfInBounds_toArray, List.set_cons_zero, List.set_cons_succ, Dp, Dt]
              rfl
            refine Eu (i := 14) (N := some 5) (v := ?_) (a' := ?_) #[true, true, true, true, true, true, true, true, true, true, true, true, true, true, true, false] rfl rfl (Eh HT_.out (by kernel_rfl)) (fun _ _ _ h => h) (Or.inl ⟨by rfl, ?_⟩) ?_ ?_
            rotate_left
            · intro w'
              go_simp
              first | with_reducible rfl | (rw [if_neg (by omega)]; try with_reducible rfl)
            rotate_left
            · simp only [Act.put, List.setIfInBounds_toArray, List.set_cons_zero, List.set_cons_succ, Dp, Dt]
              rfl
            refine Eu (i := 15) (N := some 6) (v := ?_) (a' := ?_) #[true, true, true, true, true, true, true, true, true, true, true, true, true, true, true, true] rfl rfl (Eh HT_.out (by kernel_rfl)) (fun _ _ _ h => h) (Or.inl ⟨by rfl, ?_⟩) ?_ ?_
            rotate_left
            · intro w'
              go_simp
              first | with_reducible rfl | (rw [if_neg (by omega)]; try with_reducible rfl)
            rotate_left
            · simp only [Act.put, List.setIfInBounds_toArray, List.set_cons_zero, List.set_cons_succ, Dp, Dt]
              rfl
            refine done_ (done_of HT_.out (by kernel_rfl)) ?_
            try go_wp2
            go_ret
            exact ⟨by first | rfl | (simp [Aq, Au] <;> rfl) | (simp [*, Aq, Au] <;> rfl), by repeat (first | (with_reducible first | exact HB.out | apply Ad | apply Aa | apply Ae | refine Ah ?_ GE327.out) | exact HB.out)⟩
          · rw [if_neg c9] at H
            exact absurd H (by simp)
        · rw [if_neg c7] at H
          exact absurd H (by simp)
      · rw [if_neg c6] at H
        exact absurd H (by simp)
    · rw [if_neg c5] at H
      exact absurd H (by simp)
  · rw [if_neg c4] at H
    exact absurd H (by simp)
end Go.Proofs.YtcnmngiaebgjkaaDoor.X

