/- Texts that the proof of the law FnNotes leans on, part 4 of 6. -/
import Derived.Shelf.Strings.Builder1
import Derived.Shelf.Strings.Builder2
import Derived.Shelf.Strings.OnBuilder
import Derived.Shelf.Small.Wraps
import Derived.Shelf.Strings.BuilderF
import Derived.Shelf.Strings.BuilderK
import Derived.Shelf.Strings.Builder2Cap
import Derived.Shelf.Strconv.Atoi
import Derived.Shelf.Strconv.Itoa0
import Derived.Shelf.Strconv.Itoa1
import Derived.Shelf.LaysM
import Derived.Shelf.Strconv.Itoa2
import Derived.Shelf.Strconv.Itoa3
import Derived.Shelf.Strconv.AtoiErrFast
import Derived.Shelf.Strconv.ParseIntEmpty
import Derived.Shelf.Strconv.AtoiFail
import Derived.Shelf.Strconv.Clone
import Derived.Shelf.Strconv.SyntaxError
import Derived.Shelf.LaysC
import Derived.Shelf.Strconv.ToError
import Derived.Shelf.Strconv.AtoiErr
import Derived.Shelf.Strconv.ErrVar
import Derived.Shelf.Strconv.Lower
import Derived.Shelf.Strconv.ParseUint10
import Derived.Shelf.Strconv.ParseUint10Empty
import Derived.Shelf.Strconv.ParseUint10Any
import Derived.Shelf.Strconv.ParseInt10
import Derived.Shelf.Strconv.AtoiLong
import Derived.Shelf.Strconv.AtoiInnerAll
import Derived.Shelf.Strconv.RangeError
import Derived.Shelf.Strconv.ToErrorRange
import Derived.Shelf.Strconv.AtoiAll
import Derived.Shelf.Strconv.ErrVarAll
import Derived.Shelf.Strconv.ParseUintEmpty
import Derived.Shelf.Strconv.ParseUint10b64
import Derived.Shelf.Strconv.ParseUint10b32
import Derived.Shelf.Strconv.ParseUint10b16
import Derived.Shelf.Strconv.ParseUint10b8
import Derived.Shelf.Strconv.ParseUint10At
import Derived.Shelf.Strconv.ParseInt10At64
import Derived.Shelf.Strconv.ParseInt10At32
import Derived.Shelf.Strconv.ParseInt10At16
import Derived.Shelf.Strconv.ParseInt10At8
import Derived.Shelf.Strconv.ParseInt10All
import Derived.Shelf.Strings.Search1
import Derived.Shelf.Strings.Search2
import Derived.Shelf.Strings.Cut
import Derived.Shelf.Strings.Shaped
import Derived.Shelf.Strings.Prefix
import Derived.Shelf.Strings.FieldsFuncAny
import Derived.Shelf.Strings.FieldsFuncGrows
import Derived.Shelf.Strings.BuilderCap
import Derived.Test.YtghnljoaklmakaaGreatDoorProg
import Derived.Shelf.Abstract
import Derived.Test.YtghnljoaklmakaaGreatDoorKFnNotes1
import Derived.Test.YtghnljoaklmakaaGreatDoorKFnNotes2
set_option linter.unusedVariables false
set_option linter.unusedSimpArgs false
namespace Go.Proofs.YtghnljoaklmakaaGreatDoor.X
open Go.RowKit Go.Proofs.YtghnljoaklmakaaGreatDoorW.PrintWords Go.Proofs.YtghnljoaklmakaaGreatDoorW.PrintLast Go.Proofs.YtghnljoaklmakaaGreatDoorW.PrintMore
attribute [local go_sem] Ei Eh Ez Ey D7 D6 Ej Eg
open Go.Proofs.YtghnljoaklmakaaGreatDoorG
mutual
def Bf.l0 : Nat → List (S25) → Int → List Int → Int → Int → Option ((List (S25)) × Int × Int)
 | 0, _, _, _, _, _ => none
 | k + 1, x3, x4, x1000, x1001, x1002 => if x4 > 0 then ((Bh.f k x1000 x1001 x1002).bind fun bt416 => (if bt416.1 = 2 then ((Fq.f x1000 bt416.2.2.2.2.1 bt416.2.2.2.2.2 2).bind fun bt423 => (Bf.j1 k x3 x4 bt423.1 x1000 bt423.2.1 bt423.2.2 bt416.1 bt416.2.1 bt416.2.2.1 bt416.2.2.2.1)) else (Bf.j1 k x3 x4 false x1000 bt416.2.2.2.2.1 bt416.2.2.2.2.2 bt416.1 bt416.2.1 bt416.2.2.1 bt416.2.2.2.1))) else ((Fq.f x1000 x1001 x1002 40).bind fun bt439 => (if bt439.1 = true then (Bf.l1 k x3 x1000 bt439.2.1 bt439.2.2) else (some (x3, bt439.2.1, bt439.2.2))))
def Bf.j1 : Nat → List (S25) → Int → Bool → List Int → Int → Int → Int → ByteArray → Int → Int → Option ((List (S25)) × Int × Int)
 | 0, _, _, _, _, _, _, _, _, _, _ => none
 | k + 1, x3, x4, x22, x1000, x1001, x1002, x423000, x423001, x423002, x423003 => if x22 = true then ((Ea.f k x3 (x3.length : Int) x423001).bind fun t426 => (if t426 ≥ 0 then (if t426 = x423003 then (if x3.length < 3518437208883 then (Bf.l0 k (x3 ++ [(⟨x423000, x423001, x423002, x423003⟩ : S25)]) (wrap64 (x4 - 1)) x1000 x1001 x1002) else (none)) else (if x3.length < 3518437208883 then (Bf.l0 k (x3 ++ [(⟨x423000, x423001, t426, x423003⟩ : S25)]) (wrap64 (x4 - 1)) x1000 x1001 x1002) else (none))) else (if x3.length < 3518437208883 then (Bf.l0 k (x3 ++ [(⟨x423000, x423001, x423002, x423003⟩ : S25)]) (wrap64 (x4 - 1)) x1000 x1001 x1002) else (none)))) else (if x3.length < 3518437208883 then (Bf.l0 k (x3 ++ [(⟨x423000, x423001, x423002, x423003⟩ : S25)]) (wrap64 (x4 - 1)) x1000 x1001 x1002) else (none))
def Bf.l1 : Nat → List (S25) → List Int → Int → Int → Option ((List (S25)) × Int × Int)
 | 0, _, _, _, _ => none
 | k + 1, x3, x1000, x1001, x1002 => (Cj.f x1000 x1001 x1002 2).bind fun bt442 => (if (x3.length : Int) < (wrap64 (10 + bt442.1)) then ((E5.f k x1000 bt442.2.1 bt442.2.2).bind fun bt445 => (if x3.length < 3518437208883 then (Bf.l1 k (x3 ++ [(⟨1, bt445.1, 2, 0⟩ : S25)]) x1000 bt445.2.1 bt445.2.2) else (none))) else (some (x3, bt442.2.1, bt442.2.2)))
end
def Bf.f (k : Nat) (s0_0 : List Int) (s0_1 : Int) (s0_2 : Int) : Option ((List (S25)) × Int × Int) := (Cj.f s0_0 s0_1 s0_2 6).bind fun bt413 => (Bf.l0 k (([] : List (S25))) bt413.1 s0_0 bt413.2.1 bt413.2.2)
theorem Bf.Fa : ∀ k, (∀ y0 y1 y2 y3 y4, LeO (Bf.l0 k y0 y1 y2 y3 y4) (Bf.l0 (k + 1) y0 y1 y2 y3 y4)) ∧ (∀ y0 y1 y2 y3 y4 y5 y6 y7 y8 y9, LeO (Bf.j1 k y0 y1 y2 y3 y4 y5 y6 y7 y8 y9) (Bf.j1 (k + 1) y0 y1 y2 y3 y4 y5 y6 y7 y8 y9)) ∧ (∀ y0 y1 y2 y3, LeO (Bf.l1 k y0 y1 y2 y3) (Bf.l1 (k + 1) y0 y1 y2 y3))
 | 0 => ⟨fun _ _ _ _ _ r h => by simp [Bf.l0] at h, fun _ _ _ _ _ _ _ _ _ _ r h => by simp [Bf.j1] at h, fun _ _ _ _ r h => by simp [Bf.l1] at h⟩
 | k + 1 => by
  obtain ⟨ih0, ih1, ih2⟩ := Bf.Fa k
  refine ⟨?_, ?_, ?_⟩
  ·intro y0 y1 y2 y3 y4
   unfold Bf.l0
   repeat' first
   | (with_reducible exact ih0 _ _ _ _ _)
   | (with_reducible exact ih1 _ _ _ _ _ _ _ _ _ _)
   | (with_reducible exact ih2 _ _ _ _)
   | (with_reducible exact E5.mono _ _ _ _)
   | (with_reducible exact Bh.mono _ _ _ _)
   | (with_reducible exact Ea.mono _ _ _ _)
   | (with_reducible exact LeO.refl _)
   | (with_reducible exact LeO.none _)
   | (with_reducible refine LeO.ite ?_ ?_)
   | (with_reducible refine LeO.bind ?_ (fun _ => ?_))
   | exact ih0 _ _ _ _ _
   | exact ih1 _ _ _ _ _ _ _ _ _ _
   | exact ih2 _ _ _ _
   | exact E5.mono _ _ _ _
   | exact Bh.mono _ _ _ _
   | exact Ea.mono _ _ _ _
   | exact LeO.none _
   | refine LeO.ite ?_ ?_
   | refine LeO.bind ?_ (fun _ => ?_)
  ·intro y0 y1 y2 y3 y4 y5 y6 y7 y8 y9
   unfold Bf.j1
   repeat' first
   | (with_reducible exact ih0 _ _ _ _ _)
   | (with_reducible exact ih1 _ _ _ _ _ _ _ _ _ _)
   | (with_reducible exact ih2 _ _ _ _)
   | (with_reducible exact E5.mono _ _ _ _)
   | (with_reducible exact Bh.mono _ _ _ _)
   | (with_reducible exact Ea.mono _ _ _ _)
   | (with_reducible exact LeO.refl _)
   | (with_reducible exact LeO.none _)
   | (with_reducible refine LeO.ite ?_ ?_)
   | (with_reducible refine LeO.bind ?_ (fun _ => ?_))
   | exact ih0 _ _ _ _ _
   | exact ih1 _ _ _ _ _ _ _ _ _ _
   | exact ih2 _ _ _ _
   | exact E5.mono _ _ _ _
   | exact Bh.mono _ _ _ _
   | exact Ea.mono _ _ _ _
   | exact LeO.none _
   | refine LeO.ite ?_ ?_
   | refine LeO.bind ?_ (fun _ => ?_)
  ·intro y0 y1 y2 y3
   unfold Bf.l1
   repeat' first
   | (with_reducible exact ih0 _ _ _ _ _)
   | (with_reducible exact ih1 _ _ _ _ _ _ _ _ _ _)
   | (with_reducible exact ih2 _ _ _ _)
   | (with_reducible exact E5.mono _ _ _ _)
   | (with_reducible exact Bh.mono _ _ _ _)
   | (with_reducible exact Ea.mono _ _ _ _)
   | (with_reducible exact LeO.refl _)
   | (with_reducible exact LeO.none _)
   | (with_reducible refine LeO.ite ?_ ?_)
   | (with_reducible refine LeO.bind ?_ (fun _ => ?_))
   | exact ih0 _ _ _ _ _
   | exact ih1 _ _ _ _ _ _ _ _ _ _
   | exact ih2 _ _ _ _
   | exact E5.mono _ _ _ _
   | exact Bh.mono _ _ _ _
   | exact Ea.mono _ _ _ _
   | exact LeO.none _
   | refine LeO.ite ?_ ?_
   | refine LeO.bind ?_ (fun _ => ?_)
theorem Bf.mono : ∀ a0 a1 a2 k, LeO (Bf.f k a0 a1 a2) (Bf.f (k + 1) a0 a1 a2) := by
 intro a0 a1 a2 k
 obtain ⟨ih0, ih1, ih2⟩ := Bf.Fa k
 unfold Bf.f
 repeat' first
   | (with_reducible exact ih0 _ _ _ _ _)
   | (with_reducible exact ih1 _ _ _ _ _ _ _ _ _ _)
   | (with_reducible exact ih2 _ _ _ _)
   | (with_reducible exact E5.mono _ _ _ _)
   | (with_reducible exact Bh.mono _ _ _ _)
   | (with_reducible exact Ea.mono _ _ _ _)
   | (with_reducible exact LeO.refl _)
   | (with_reducible exact LeO.none _)
   | (with_reducible refine LeO.ite ?_ ?_)
   | (with_reducible refine LeO.bind ?_ (fun _ => ?_))
   | exact ih0 _ _ _ _ _
   | exact ih1 _ _ _ _ _ _ _ _ _ _
   | exact ih2 _ _ _ _
   | exact E5.mono _ _ _ _
   | exact Bh.mono _ _ _ _
   | exact Ea.mono _ _ _ _
   | exact LeO.none _
   | refine LeO.ite ?_ ?_
   | refine LeO.bind ?_ (fun _ => ?_)
set_option maxHeartbeats 8000000 in
set_option maxRecDepth 100000 in
theorem Bf.calls (k : Nat) (g : Nat) (s0_0 : List Int) (s0_1 : Int) (s0_2 : Int) (r1 : List (S25)) (r2 : Int) (r3 : Int) (w0 w : World) (hI : Aj w0 w g s0_0 s0_1 s0_2) (hB : Below w0.heap.size w0 w) (h : Bf.f k s0_0 s0_1 s0_2 = some (r1, r2, r3)) :
  Calls Tryz.prog 33 #[.pointer (some ⟨g, 0, none⟩)] w fun e w' => ∃ v0_ : Value, e = .returned (v0_) ∧ Kd.R k25 25 w' w.heap.size (fun _ => True) v0_ r1 ∧ Aj w0 w' g s0_0 r2 r3 ∧ Below w0.heap.size w0 w' ∧ A8 w w' g none := by
 have hu25 := Tryz.underlying25
 have HI0 := Ac.mk hI
 have HK := Ac.mk (A8.refl w g none)
 have HL := Ac.mk hB.size
 clear hI
 have HW0 := Ac.mk hB.size
 have HB := Ac.mk hB
 clear hB
 have H : ((Cj.f s0_0 s0_1 s0_2 6).bind fun bt413 => (Bf.l0 k (([] : List (S25))) bt413.1 s0_0 bt413.2.1 bt413.2.2)) = some (r1, r2, r3) := h
 clear h
 obtain ⟨y410, hy410⟩ : ∃ y_ : List (S25), y_ = (([] : List (S25))) := ⟨_, rfl⟩
 replace H : ((Cj.f s0_0 s0_1 s0_2 6).bind fun bt413 => (Bf.l0 k y410 bt413.1 s0_0 bt413.2.1 bt413.2.2)) = some (r1, r2, r3) := by first | (rw [hy410]; with_reducible exact H) | (have H2_ := (Option.bind_some _ _).symm.trans H; rw [hy410]; with_reducible exact H2_) | (have H2_ := (Option.bind_some _ _).symm.trans H; with_reducible exact H2_) | with_reducible exact H | (rw [hy410]; exact H) | exact H
 have Ny410 := Ac.mk hy410
 clear hy410
 replace H := Option.bind_eq_some_iff.mp H
 obtain ⟨⟨t413, t414, t415⟩, A20, H⟩ := H
 try dsimp only at H
 have A2 := Ac.mk A20
 clear A20
 have H' := Ac.mk H
 clear H
 go_enter Tryz.func33, Tryz.ntmps33
 go_wp2_with (first | ((with_reducible refine Dl (N := 7) rfl ?_); refine Kd.Hz k25 _ 25 ?hg (N := 7) ?hd (xs := ([] : List (S25))) (inner := []) (ok := fun _ => True) (okp := fun _ => True) ?hr ?hp (fun _ hk => hk) trivial (Below.refl _ _) (Nat.le_refl _) (by simp) ?_; (case hd => rfl); (case hg => rfl); (case hr => first | (go_simp; done) | (go_simp; rfl)); (case hp => exact (Ed.none _ _)); intro v411 w3 ho4 hb hg_ hnew_; clear hg_ hnew_; (first | rw [← Ny410.out] at ho4 | (simp only [Int.reduceToNat] at ho4; rw [← Ny410.out] at ho4)); have n0_ := Ac.mk (Kd.Gg ho4 (Gt (w := w) (g := g) (row := none) Yh_)); have n1_ := Ac.mk (Aj.below Ycj_ hb); have n2_ := Ac.mk (A8.trans Yh_ (A8.of_below hb g none) (.inl rfl)); have n3_ := Ac.mk (Ar Yda_ hb); clear HI0; clear HK; clear HB; have HO412 := n0_; have HI0 := n1_; have HK := n2_; have HB := n3_; clear n0_ n1_ n2_ n3_; clear hb ho4) | ((with_reducible refine Ap (f := 49) rfl ?_); refine Bj (some 9) rfl rfl Tryz.func49 (by kernel_rfl) rfl #[.pointer (some ⟨g, 0, none⟩), .int .i64 6] rfl Ya_ ?_; (with_reducible refine (Cj.calls g s0_0 s0_1 s0_2 6 t413 t414 t415 w0 _ ?side1 ?side2 A2.out).mono ?_); (case side1 => repeat (first | (with_reducible first | exact HI0.out | apply Aj.alloc | apply Aj.drewN | apply Aj.drew | apply Aj.Dv | apply Aj.Du) | exact HI0.out)); (case side2 => repeat (first | (with_reducible first | exact HB.out | apply Ae | apply Aa | apply Ad | refine Am ?_ (Aj.ge HI0.out)) | exact HB.out)); rintro e w5 ⟨rfl, hi, hb, hk⟩; refine ⟨_, rfl, ?_⟩; have n0_ := Ac.mk (Kd.R_mono (Kd.Hr (Aj.apart (show Aj w0 _ g s0_0 s0_1 s0_2 from by repeat (first | (with_reducible first | exact HI0.out | apply Aj.alloc | apply Aj.drewN | apply Aj.drew | apply Aj.Dv | apply Aj.Du) | exact HI0.out)) (by (with_reducible repeat (first | apply Kd.Cb | apply Kd.Bz | apply Kd.Cm)); exact HO412.out) (by decide)) hk (fun _ h => h.2)) (fun _ h => h.1)); have n1_ := Ac.mk (A8.trans Yh_ hk (.inl rfl)); have n2_ := Ac.mk (hb); have n3_ := Ac.mk (hi); clear HO412; clear HK; clear HB; clear HI0; have HO412 := n0_; have HK := n1_; have HB := n2_; have HI0 := n3_; clear n0_ n1_ n2_ n3_; (try clear hb); (try clear hb2); (try clear hk); (try clear hi)))
 go_loopg [3, 4] k (fun kq v3 v4 w' => ∃ (x3_1 : List (S25)) (x4_1 : Int) (x1001_1 : Int) (x1002_1 : Int), v4 = .int .i64 x4_1 ∧ Ac (Bf.l0 kq x3_1 x4_1 s0_0 x1001_1 x1002_1 = some (r1, r2, r3)) ∧ Ac (kq ≤ k) ∧ Ac (Kd.R k25 25 w' w.heap.size (fun _ => True) v3 x3_1) ∧ Ac (Aj w0 w' g s0_0 x1001_1 x1002_1) ∧ Ac (A8 w w' g none) ∧ Ac (Below w0.heap.size w0 w'))
 case atStart => exact ⟨(y410), (t413), (t414), (t415), Yf_, H', ⟨Nat.le_refl _⟩, ⟨by (with_reducible repeat (first | apply Kd.Cb | apply Kd.Bz | apply Kd.Cm)); exact HO412.out⟩, ⟨by repeat (first | (with_reducible first | exact HI0.out | apply Aj.alloc | apply Aj.drewN | apply Aj.drew | apply Aj.Dv | apply Aj.Du) | exact HI0.out)⟩, ⟨by repeat (first | (with_reducible first | exact HK.out | apply A8.Eo | apply Bq | apply Ce | apply Bv) | exact HK.out)⟩, ⟨by repeat (first | (with_reducible first | exact HB.out | apply Ae | apply Aa | apply Ad | refine Am ?_ (Aj.ge HI0.out)) | exact HB.out)⟩⟩
 case round =>
  clear H'
  try clear p2; try clear c3; try clear c4
  obtain ⟨x3_1, x4_1, x1001_1, x1002_1, rfl, HA, HK1, HO_3, HI0, HK, HB⟩ := hrel
  cases gk with
  | zero => exact absurd HA.out (by simp [Bf.l0])
  | succ k1 =>
   have H := HA.out
   clear HA
   simp only [Bf.l0] at H
   by_cases c6 : x4_1 > 0
   ·rw [if_pos c6] at H
    have c6b0 : decide (0 < x4_1) = true := decide_eq_true c6
    clear c6
    replace H := Option.bind_eq_some_iff.mp H
    obtain ⟨⟨t416, t417, t418, t419, t420, t421⟩, A70, H⟩ := H
    try dsimp only at H
    have A7 := Ac.mk A70
    clear A70
    have HC8 := Ac.mk H
    clear H
    go_upto_region 6 with (first | ((with_reducible refine Ap (f := 27) rfl ?_); refine Bj (some 15) rfl rfl Tryz.func27 (by kernel_rfl) rfl #[.pointer (some ⟨g, 0, none⟩)] rfl Ya_ ?_; (with_reducible refine (Bh.calls k1 g s0_0 x1001_1 x1002_1 t416 t417 t418 t419 t420 t421 w0 _ ?side1 ?side2 A7.out).mono ?_); (case side1 => repeat (first | (with_reducible first | exact HI0.out | apply Aj.alloc | apply Aj.drewN | apply Aj.drew | apply Aj.Dv | apply Aj.Du) | exact HI0.out)); (case side2 => repeat (first | (with_reducible first | exact HB.out | apply Ae | apply Aa | apply Ad | refine Am ?_ (Aj.ge HI0.out)) | exact HB.out)); rintro e w9 ⟨rfl, hi, hb, hk⟩; refine ⟨_, rfl, ?_⟩; have n0_ := Ac.mk (Kd.R_mono (Kd.Hr (Aj.apart (show Aj w0 _ g s0_0 x1001_1 x1002_1 from by repeat (first | (with_reducible first | exact HI0.out | apply Aj.alloc | apply Aj.drewN | apply Aj.drew | apply Aj.Dv | apply Aj.Du) | exact HI0.out)) Ycc_ (by decide)) hk (fun _ h => h.2)) (fun _ h => h.1)); have n1_ := Ac.mk (A8.trans Yh_ hk (.inl rfl)); have n2_ := Ac.mk (hb); have n3_ := Ac.mk (hi); clear HO_3; clear HK; clear HB; clear HI0; have HO_3 := n0_; have HK := n1_; have HB := n2_; have HI0 := n3_; clear n0_ n1_ n2_ n3_; (try clear hb); (try clear hb2); (try clear hk); (try clear hi)) | ((with_reducible refine Dl (N := 5) rfl ?_); refine Dz ?hg (N := 5) ?hd (cs := #[.int .i64 0, .string (⟨#[]⟩ : ByteArray), .int .i64 0, .int .i64 0]) (t := 25) ?hr ?_; (case hd => rfl); (case hg => rfl); (case hr => first | (go_simp; done) | (go_simp; rfl)); intro gb422 hg w10 hbox hb; have n0_ := Ac.mk (Kd.Fe (Kd.Ie Ycc_ gb422 (Nat.le_of_eq hg.symm)) hb); have n1_ := Ac.mk (Aj.below Ycj_ hb); have n2_ := Ac.mk (A8.trans Yh_ (A8.of_below hb g none) (.inl rfl)); have n3_ := Ac.mk (Ar Yda_ hb); have n4_ := Ac.mk (hbox); have n5_ := Ac.mk ((by rw [hg]; exact (Gt (w := w) (g := g) (row := none) Yh_) : w.heap.size ≤ gb422)); have n6_ := Ac.mk ((Nat.le_trans HW0.out (by rw [hg]; exact (Gt (w := w) (g := g) (row := none) Yh_) : w.heap.size ≤ gb422) : w0.heap.size ≤ gb422)); have n7_ := Ac.mk ((by rw [hg]; exact Nat.ne_of_lt (Aj.lt (show Aj w0 _ g s0_0 t420 t421 from by repeat (first | (with_reducible first | exact HI0.out | apply Aj.alloc | apply Aj.drewN | apply Aj.drew | apply Aj.Dv | apply Aj.Du) | exact HI0.out))) : g ≠ gb422)); have n8_ := Ac.mk ((by rw [hg]; exact Nat.ne_of_gt (Aj.lt (show Aj w0 _ g s0_0 t420 t421 from by repeat (first | (with_reducible first | exact HI0.out | apply Aj.alloc | apply Aj.drewN | apply Aj.drew | apply Aj.Dv | apply Aj.Du) | exact HI0.out))) : gb422 ≠ g)); clear HO_3; clear HI0; clear HK; clear HB; have HO_3 := n0_; have HI0 := n1_; have HK := n2_; have HB := n3_; have BK422 := n4_; have GW422 := n5_; have GE422 := n6_; have NB0_422 := n7_; have NB422_0 := n8_; clear n0_ n1_ n2_ n3_ n4_ n5_ n6_ n7_ n8_; clear hb hbox hg; have hnb11 := NB422_0.out; have hnc11 := NB0_422.out; have hcz12_0 : w10.cell? ⟨gb422, 0, none⟩ = some (.int .i64 0) := (Ak BK422.out 0).trans rfl; have hcz12_1 : w10.cell? ⟨gb422, 1, none⟩ = some (.string (⟨#[]⟩ : ByteArray)) := (Ak BK422.out 1).trans rfl; have hcz12_2 : w10.cell? ⟨gb422, 2, none⟩ = some (.int .i64 0) := (Ak BK422.out 2).trans rfl; have hcz12_3 : w10.cell? ⟨gb422, 3, none⟩ = some (.int .i64 0) := (Ak BK422.out 3).trans rfl; have hfz12_0 := Ai BK422.out 0; have hfz12_1 := Ai BK422.out 1; have hfz12_2 := Ai BK422.out 2; have hfz12_3 := Ai BK422.out 3))
    (try simp only [Act.put, List.setIfInBounds_toArray, List.set_cons_zero, List.set_cons_succ])
    go_cut [22] (fun v22 wc => ∃ (kq : Nat) (x22_7 : Bool) (x1001_7 : Int) (x1002_7 : Int), v22 = .bool x22_7 ∧ Ac (Bf.j1 kq x3_1 x4_1 x22_7 s0_0 x1001_7 x1002_7 t416 t417 t418 t419 = some (r1, r2, r3)) ∧ Ac (kq ≤ k1) ∧ Ac (Kd.R k25 25 wc w.heap.size (fun k_ => k_ ≠ gb422) u3 x3_1) ∧ Ac (wc.heap[gb422]? = some (.cells #[.int .i64 t416, .string t417, .int .i64 t418, .int .i64 t419] 25 (0, 0))) ∧ Ac (Aj w0 wc g s0_0 x1001_7 x1002_7) ∧ Ac (A8 w wc g none) ∧ Ac (Below w0.heap.size w0 wc))
    case first =>
     have H := HC8.out
     clear HC8
     by_cases c13 : t416 = 2
     ·rw [if_pos c13] at H
      have c13b0 : (t416 == 2) = true := beq_iff_eq.mpr c13
      have c13b1 : (t416 != 2) = false := bne_eq_false_iff_eq.mpr c13
      clear c13
      (first | rw [c13b0] | (simp only [Dw, Dy]; rw [c13b0]) | skip)
      replace H := Option.bind_eq_some_iff.mp H
      obtain ⟨⟨t423, t424, t425⟩, A140, H⟩ := H
      try dsimp only at H
      have A14 := Ac.mk A140
      clear A140
      have H' := Ac.mk H
      clear H
      have hnb15 := NB422_0.out
      have hnc15 := NB0_422.out
      have hcz16_0 : w10.cell? ⟨gb422, 0, none⟩ = some (.int .i64 0) := (Ak BK422.out 0).trans rfl
      have hcz16_1 : w10.cell? ⟨gb422, 1, none⟩ = some (.string (⟨#[]⟩ : ByteArray)) := (Ak BK422.out 1).trans rfl
      have hcz16_2 : w10.cell? ⟨gb422, 2, none⟩ = some (.int .i64 0) := (Ak BK422.out 2).trans rfl
      have hcz16_3 : w10.cell? ⟨gb422, 3, none⟩ = some (.int .i64 0) := (Ak BK422.out 3).trans rfl
      have hfz16_0 := Ai BK422.out 0
      have hfz16_1 := Ai BK422.out 1
      have hfz16_2 := Ai BK422.out 2
      have hfz16_3 := Ai BK422.out 3
      go_wp2_with (first | (go_at_call 28; (with_reducible refine (Fq.calls g s0_0 t420 t421 2 t423 t424 t425 w0 _ ?side1 ?side2 A14.out).mono ?_); (case side1 => repeat (first | (with_reducible first | exact HI0.out | apply Aj.alloc | apply Aj.drewN | apply Aj.drew | apply Aj.Dv | apply Aj.Du | refine Aj.far ?_ NB0_422.out _) | exact HI0.out)); (case side2 => repeat (first | (with_reducible first | exact HB.out | apply Ae | apply Aa | apply Ad | refine Am ?_ (Aj.ge HI0.out) | refine Am ?_ GE422.out) | exact HB.out)); rintro e w17 ⟨rfl, hi, hb, hk⟩; have n0_ := Ac.mk (Kd.R_mono (Kd.Hr (Aj.apart (show Aj w0 _ g s0_0 t420 t421 from by repeat (first | (with_reducible first | exact HI0.out | apply Aj.alloc | apply Aj.drewN | apply Aj.drew | apply Aj.Dv | apply Aj.Du | refine Aj.far ?_ NB0_422.out _) | exact HI0.out)) (by (with_reducible repeat (first | apply Kd.Cb | apply Kd.Bz | apply Kd.Cm)); exact (Kd.R_mono (Kd.F9 (p := ⟨gb422, 3, none⟩) (Kd.F9 (p := ⟨gb422, 2, none⟩) (Kd.F9 (p := ⟨gb422, 1, none⟩) (Kd.F9 (p := ⟨gb422, 0, none⟩) (Kd.R_mono HO_3.out (fun k_ hk => (⟨hk, hk.2⟩ : _ ∧ k_ ≠ gb422))) (fun _ hk => hk.2) (.int .i64 t416)) (fun _ hk => hk.2) (.string t417)) (fun _ hk => hk.2) (.int .i64 t418)) (fun _ hk => hk.2) (.int .i64 t419)) (fun _ h_ => h_.1))) (by decide)) hk (fun _ h => h.2)) (fun _ h => h.1)); have n1_ := Ac.mk (A8.blk hk (g' := gb422) (o := .cells #[.int .i64 t416, .string t417, .int .i64 t418, .int .i64 t419] 25 (0, 0)) (by (with_reducible repeat (first | refine Ag ?_ _ | refine Ah ?_ | refine Af ?_ _)); refine Be (cs := #[.int .i64 t416, .string t417, .int .i64 t418, .int .i64 0]) ?_ 3 _ rfl; (with_reducible repeat (first | refine Ag ?_ _ | refine Ah ?_ | refine Af ?_ _)); refine Be (cs := #[.int .i64 t416, .string t417, .int .i64 0, .int .i64 0]) ?_ 2 _ rfl; (with_reducible repeat (first | refine Ag ?_ _ | refine Ah ?_ | refine Af ?_ _)); refine Be (cs := #[.int .i64 t416, .string (⟨#[]⟩ : ByteArray), .int .i64 0, .int .i64 0]) ?_ 1 _ rfl; (with_reducible repeat (first | refine Ag ?_ _ | refine Ah ?_ | refine Af ?_ _)); refine Be (cs := #[.int .i64 0, .string (⟨#[]⟩ : ByteArray), .int .i64 0, .int .i64 0]) ?_ 0 _ rfl; (with_reducible repeat (first | refine Ag ?_ _ | refine Ah ?_ | refine Af ?_ _)); exact BK422.out) NB422_0.out (by simp)); have n2_ := Ac.mk (A8.trans Yce_ hk (.inl rfl)); have n3_ := Ac.mk (hb); have n4_ := Ac.mk (hi); clear HO_3; clear BK422; clear HK; clear HB; clear HI0; have HO_3 := n0_; have BK422 := n1_; have HK := n2_; have HB := n3_; have HI0 := n4_; clear n0_ n1_ n2_ n3_ n4_; (try clear hb); (try clear hb2); (try clear hk); (try clear hi)))
      go_meet
      case rel => exact ⟨_, (t423), (t424), (t425), Yf_, H', ⟨by have := HK1.out; first | omega | exact Nat.le_refl _⟩, ⟨by (with_reducible repeat (first | apply Kd.Cb | apply Kd.Bz | apply Kd.Cm)); exact Kd.R_mono HO_3.out (fun _ hk => hk.2)⟩, ⟨by (with_reducible repeat (first | refine Ag ?_ _ | refine Ah ?_ | refine Af ?_ _)); exact BK422.out⟩, ⟨by repeat (first | (with_reducible first | exact HI0.out | apply Aj.alloc | apply Aj.drewN | apply Aj.drew | apply Aj.Dv | apply Aj.Du | refine Aj.far ?_ NB0_422.out _) | exact HI0.out)⟩, ⟨by repeat (first | (with_reducible first | exact HK.out | apply A8.Eo | apply Bq | apply Ce | apply Bv | refine Dk ?_ GW422.out _) | exact HK.out)⟩, ⟨by repeat (first | (with_reducible first | exact HB.out | apply Ae | apply Aa | apply Ad | refine Am ?_ (Aj.ge HI0.out) | refine Am ?_ GE422.out) | exact HB.out)⟩⟩
     ·rw [if_neg c13] at H
      have c13b0 : (t416 == 2) = false := beq_eq_false_iff_ne.mpr c13
      have c13b1 : (t416 != 2) = true := bne_iff_ne.mpr c13
      (first | rw [c13b0] | (simp only [Dw, Dy]; rw [c13b0]) | skip)
      have H' := Ac.mk H
      clear H
      have hnb18 := NB422_0.out
      have hnc18 := NB0_422.out
      have hcz19_0 : w10.cell? ⟨gb422, 0, none⟩ = some (.int .i64 0) := (Ak BK422.out 0).trans rfl
      have hcz19_1 : w10.cell? ⟨gb422, 1, none⟩ = some (.string (⟨#[]⟩ : ByteArray)) := (Ak BK422.out 1).trans rfl
      have hcz19_2 : w10.cell? ⟨gb422, 2, none⟩ = some (.int .i64 0) := (Ak BK422.out 2).trans rfl
      have hcz19_3 : w10.cell? ⟨gb422, 3, none⟩ = some (.int .i64 0) := (Ak BK422.out 3).trans rfl
      have hfz19_0 := Ai BK422.out 0
      have hfz19_1 := Ai BK422.out 1
      have hfz19_2 := Ai BK422.out 2
      have hfz19_3 := Ai BK422.out 3
      go_wp2
      go_meet
      case rel => exact ⟨_, (false), (t420), (t421), Yf_, H', ⟨by have := HK1.out; first | omega | exact Nat.le_refl _⟩, ⟨by (with_reducible repeat (first | apply Kd.Cb | apply Kd.Bz | apply Kd.Cm)); exact Kd.R_mono (Kd.F9 (p := ⟨gb422, 3, none⟩) (Kd.F9 (p := ⟨gb422, 2, none⟩) (Kd.F9 (p := ⟨gb422, 1, none⟩) (Kd.F9 (p := ⟨gb422, 0, none⟩) (Kd.R_mono HO_3.out (fun k_ hk => (⟨hk, hk.2⟩ : _ ∧ k_ ≠ gb422))) (fun _ hk => hk.2) (.int .i64 t416)) (fun _ hk => hk.2) (.string t417)) (fun _ hk => hk.2) (.int .i64 t418)) (fun _ hk => hk.2) (.int .i64 t419)) (fun _ hk => hk.1.2)⟩, ⟨by (with_reducible repeat (first | refine Ag ?_ _ | refine Ah ?_ | refine Af ?_ _)); refine Be (cs := #[.int .i64 t416, .string t417, .int .i64 t418, .int .i64 0]) ?_ 3 _ rfl; (with_reducible repeat (first | refine Ag ?_ _ | refine Ah ?_ | refine Af ?_ _)); refine Be (cs := #[.int .i64 t416, .string t417, .int .i64 0, .int .i64 0]) ?_ 2 _ rfl; (with_reducible repeat (first | refine Ag ?_ _ | refine Ah ?_ | refine Af ?_ _)); refine Be (cs := #[.int .i64 t416, .string (⟨#[]⟩ : ByteArray), .int .i64 0, .int .i64 0]) ?_ 1 _ rfl; (with_reducible repeat (first | refine Ag ?_ _ | refine Ah ?_ | refine Af ?_ _)); refine Be (cs := #[.int .i64 0, .string (⟨#[]⟩ : ByteArray), .int .i64 0, .int .i64 0]) ?_ 0 _ rfl; (with_reducible repeat (first | refine Ag ?_ _ | refine Ah ?_ | refine Af ?_ _)); exact BK422.out⟩, ⟨by repeat (first | (with_reducible first | exact HI0.out | apply Aj.alloc | apply Aj.drewN | apply Aj.drew | apply Aj.Dv | apply Aj.Du | refine Aj.far ?_ NB0_422.out _) | exact HI0.out)⟩, ⟨by repeat (first | (with_reducible first | exact HK.out | apply A8.Eo | apply Bq | apply Ce | apply Bv | refine Dk ?_ GW422.out _) | exact HK.out)⟩, ⟨by repeat (first | (with_reducible first | exact HB.out | apply Ae | apply Aa | apply Ad | refine Am ?_ (Aj.ge HI0.out) | refine Am ?_ GE422.out) | exact HB.out)⟩⟩
    case rest =>
     clear HC8
     try clear c1; try clear c2; try clear p2; try clear c3; try clear c4; try clear c6; try clear c6b0; try clear c11; try clear c13; try clear c13b0; try clear c13b1; try clear c15; try clear c18; try clear hcz12_0; try clear hcz12_1; try clear hcz12_2; try clear hcz12_3; try clear hcz16_0; try clear hcz16_1; try clear hcz16_2; try clear hcz16_3; try clear hcz19_0; try clear hcz19_1; try clear hcz19_2; try clear hcz19_3; try clear hfz12_0; try clear hfz12_1; try clear hfz12_2; try clear hfz12_3; try clear hfz16_0; try clear hfz16_1; try clear hfz16_2; try clear hfz16_3; try clear hfz19_0; try clear hfz19_1; try clear hfz19_2; try clear hfz19_3; try clear p2
     obtain ⟨kq, x22_7, x1001_7, x1002_7, rfl, HA, HJ7, HO_3, BK422, HI0, HK, HB⟩ := hcut
     cases kq with
     | zero => exact absurd HA.out (by simp [Bf.j1])
     | succ kj7 =>
      have H := HA.out
      clear HA
      simp only [Bf.j1] at H
      by_cases c20 : x22_7 = true
      ·subst c20
       have H1 : ((Ea.f kj7 x3_1 (x3_1.length : Int) t417).bind fun t426 => (if t426 ≥ 0 then (if t426 = t419 then (if x3_1.length < 3518437208883 then (Bf.l0 kj7 (x3_1 ++ [(⟨t416, t417, t418, t419⟩ : S25)]) (wrap64 (x4_1 - 1)) s0_0 x1001_7 x1002_7) else (none)) else (if x3_1.length < 3518437208883 then (Bf.l0 kj7 (x3_1 ++ [(⟨t416, t417, t426, t419⟩ : S25)]) (wrap64 (x4_1 - 1)) s0_0 x1001_7 x1002_7) else (none))) else (if x3_1.length < 3518437208883 then (Bf.l0 kj7 (x3_1 ++ [(⟨t416, t417, t418, t419⟩ : S25)]) (wrap64 (x4_1 - 1)) s0_0 x1001_7 x1002_7) else (none)))) = some (r1, r2, r3) := by rw [if_pos rfl] at H; exact H
       clear H
       have H := H1
       clear H1
       replace H := Option.bind_eq_some_iff.mp H
       obtain ⟨t426, A210, H⟩ := H
       try dsimp only at H
       have A21 := Ac.mk A210
       clear A210
       by_cases c22 : t426 ≥ 0
       ·rw [if_pos c22] at H
        have c22b0 : decide (0 ≤ t426) = true := decide_eq_true c22
        clear c22
        by_cases c23 : t426 = t419
        ·rw [if_pos c23] at H
         have c23b0 : (t426 == t419) = true := beq_iff_eq.mpr c23
         have c23b1 : (t426 != t419) = false := bne_eq_false_iff_eq.mpr c23
         clear c23
         by_cases c24 : x3_1.length < 3518437208883
         ·rw [if_pos c24] at H
          have LMc24 := Ac.mk c24
          clear c24
          obtain ⟨y427, hy427⟩ : ∃ y_ : List (S25), y_ = (x3_1 ++ [(⟨t416, t417, t418, t419⟩ : S25)]) := ⟨_, rfl⟩
          replace H : (Bf.l0 kj7 y427 (wrap64 (x4_1 - 1)) s0_0 x1001_7 x1002_7) = some (r1, r2, r3) := by first | (rw [hy427]; with_reducible exact H) | (have H2_ := (Option.bind_some _ _).symm.trans H; rw [hy427]; with_reducible exact H2_) | (have H2_ := (Option.bind_some _ _).symm.trans H; with_reducible exact H2_) | with_reducible exact H | (rw [hy427]; exact H) | exact H
          have Ny427 := Ac.mk hy427
          clear hy427
          have H' := Ac.mk H
          clear H
          obtain ⟨Ao25, co25, eo25⟩ := Kd.Gh HO_3.out
          subst eo25
          have hnb26 := NB422_0.out
          have hnc26 := NB0_422.out
          have hcz27_0 : wc.cell? ⟨gb422, 0, none⟩ = some (.int .i64 t416) := (Ak BK422.out 0).trans rfl
          have hcz27_1 : wc.cell? ⟨gb422, 1, none⟩ = some (.string t417) := (Ak BK422.out 1).trans rfl
          have hcz27_2 : wc.cell? ⟨gb422, 2, none⟩ = some (.int .i64 t418) := (Ak BK422.out 2).trans rfl
          have hcz27_3 : wc.cell? ⟨gb422, 3, none⟩ = some (.int .i64 t419) := (Ak BK422.out 3).trans rfl
          have hfz27_0 := Ai BK422.out 0
          have hfz27_1 := Ai BK422.out 1
          have hfz27_2 := Ai BK422.out 2
          have hfz27_3 := Ai BK422.out 3
          go_wp2_with (first | ((with_reducible refine Ap (f := 54) rfl ?_); refine Bj (some 28) rfl rfl Tryz.func54 (by kernel_rfl) rfl #[.slice Ao25 x3_1.length co25, .int .i64 (x3_1.length : Int), .string t417] rfl Ya_ ?_; (with_reducible refine (Ea.calls kj7 _ _ x3_1 (x3_1.length : Int) t417 t426 _ ?side1 ?side2 A21.out).mono ?_); (case side1 => repeat (first | exact (Kd.Ec HO_3.out).2.2 | (with_reducible refine Kd.F5 ?_ _) | (with_reducible refine Kd.F6 ?_ _) | (with_reducible refine Kd.Gj ?_))); (case side2 => exact (Kd.Ec HO_3.out).2.1); rintro e w' ⟨rfl, ⟨nd, rfl⟩⟩; refine ⟨_, rfl, ?_⟩) | ((with_reducible refine Gz (b := .append) (xs := #[.tmp 39, .tmp 41]) rfl ?_); at_builtin; refine Kd.Ia k25 w.heap.size rfl (.tmp 39) (.tmp 41) 33 25 (.agg #[(.int .i64 0), (.string ⟨#[]⟩), (.int .i64 0), (.int .i64 0)]) 40 rfl Tryz.underlying33 info25 rfl (by decide) (by omega) (.slice Ao25 x3_1.length co25) x3_1 (⟨t416, t417, t418, t419⟩ : S25) [.int .i64 t416, .string t417, .int .i64 t418, .int .i64 t419] (fun k_ => k_ ≠ gb422) (fun _ => False) rfl rfl ?aP (fun _ hk => hk.elim) ?aF ?aO (Below.refl _ _) ?aS ?aL ?_; (case aP => exact Ic _ _ _ (⟨t416, t417, t418, t419⟩ : S25)); (case aF => exact (fun k_ hk => Kd.freshB (g := gb422) (o := .cells #[.int .i64 t416, .string t417, .int .i64 t418, .int .i64 t419] 25 (0, 0)) Yde_ k_ hk)); (case aO => exact Ycc_); (case aS => exact (Gt (w := w) (g := g) (row := none) Yce_)); (case aL => have := LMc24.out; omega); intro v428 w28 ho hb hg hat; rw [← Ny427.out] at ho; have n0_ := Ac.mk (Ib (g := gb422) (o := .cells #[.int .i64 t416, .string t417, .int .i64 t418, .int .i64 t419] 25 (0, 0)) Yde_ hg (Kd.R_away HO_3.out (fun _ hk => hk))); have n1_ := Ac.mk (Aj.grown Ydg_ hg (Aj.own_ne HI0.out HO_3.out (by decide))); have n2_ := Ac.mk (I7 Ydd_ HL.out hb); have n3_ := Ac.mk (A8.trans Yce_ (A8.of_grown hg g) (Kd.R_base2 HO_3.out)); have n4_ := Ac.mk (ho); clear BK422; clear HI0; clear HB; clear HK; clear HO_3; have BK422 := n0_; have HI0 := n1_; have HB := n2_; have HK := n3_; have HO429 := n4_; clear n0_ n1_ n2_ n3_ n4_; clear ho hb hg hat))
          go_roundg kj7
          case measure => have := HK1.out; have := HJ7.out; omega
          case rel => exact ⟨(y427), (wrap64 (x4_1 - 1)), (x1001_7), (x1002_7), Yf_, H', ⟨by have := HK1.out; have := HJ7.out; omega⟩, ⟨by (with_reducible repeat (first | apply Kd.Cb | apply Kd.Bz | apply Kd.Cm)); exact Kd.R_mono HO429.out (fun _ hk => trivial)⟩, ⟨by repeat (first | (with_reducible first | exact HI0.out | apply Aj.alloc | apply Aj.drewN | apply Aj.drew | apply Aj.Dv | apply Aj.Du | refine Aj.far ?_ NB0_422.out _) | exact HI0.out)⟩, ⟨by repeat (first | (with_reducible first | exact HK.out | apply A8.Eo | apply Bq | apply Ce | apply Bv | refine Dk ?_ GW422.out _) | exact HK.out)⟩, ⟨by repeat (first | (with_reducible first | exact HB.out | apply Ae | apply Aa | apply Ad | refine Am ?_ (Aj.ge HI0.out) | refine Am ?_ GE422.out) | exact HB.out)⟩⟩
         ·rw [if_neg c24] at H
          exact absurd H (by simp)
        ·rw [if_neg c23] at H
         have c23b0 : (t426 == t419) = false := beq_eq_false_iff_ne.mpr c23
         have c23b1 : (t426 != t419) = true := bne_iff_ne.mpr c23
         by_cases c29 : x3_1.length < 3518437208883
         ·rw [if_pos c29] at H
          have LMc29 := Ac.mk c29
          clear c29
          obtain ⟨y430, hy430⟩ : ∃ y_ : List (S25), y_ = (x3_1 ++ [(⟨t416, t417, t426, t419⟩ : S25)]) := ⟨_, rfl⟩
          replace H : (Bf.l0 kj7 y430 (wrap64 (x4_1 - 1)) s0_0 x1001_7 x1002_7) = some (r1, r2, r3) := by first | (rw [hy430]; with_reducible exact H) | (have H2_ := (Option.bind_some _ _).symm.trans H; rw [hy430]; with_reducible exact H2_) | (have H2_ := (Option.bind_some _ _).symm.trans H; with_reducible exact H2_) | with_reducible exact H | (rw [hy430]; exact H) | exact H
          have Ny430 := Ac.mk hy430
          clear hy430
          have H' := Ac.mk H
          clear H
          obtain ⟨Ao30, co30, eo30⟩ := Kd.Gh HO_3.out
          subst eo30
          have hnb31 := NB422_0.out
          have hnc31 := NB0_422.out
          have hcz32_0 : wc.cell? ⟨gb422, 0, none⟩ = some (.int .i64 t416) := (Ak BK422.out 0).trans rfl
          have hcz32_1 : wc.cell? ⟨gb422, 1, none⟩ = some (.string t417) := (Ak BK422.out 1).trans rfl
          have hcz32_2 : wc.cell? ⟨gb422, 2, none⟩ = some (.int .i64 t418) := (Ak BK422.out 2).trans rfl
          have hcz32_3 : wc.cell? ⟨gb422, 3, none⟩ = some (.int .i64 t419) := (Ak BK422.out 3).trans rfl
          have hfz32_0 := Ai BK422.out 0
          have hfz32_1 := Ai BK422.out 1
          have hfz32_2 := Ai BK422.out 2
          have hfz32_3 := Ai BK422.out 3
          go_wp2_with (first | ((with_reducible refine Ap (f := 54) rfl ?_); refine Bj (some 28) rfl rfl Tryz.func54 (by kernel_rfl) rfl #[.slice Ao30 x3_1.length co30, .int .i64 (x3_1.length : Int), .string t417] rfl Ya_ ?_; (with_reducible refine (Ea.calls kj7 _ _ x3_1 (x3_1.length : Int) t417 t426 _ ?side1 ?side2 A21.out).mono ?_); (case side1 => repeat (first | exact (Kd.Ec HO_3.out).2.2 | (with_reducible refine Kd.F5 ?_ _) | (with_reducible refine Kd.F6 ?_ _) | (with_reducible refine Kd.Gj ?_))); (case side2 => exact (Kd.Ec HO_3.out).2.1); rintro e w' ⟨rfl, ⟨nd, rfl⟩⟩; refine ⟨_, rfl, ?_⟩; (try (rw [drewN_self wc]; generalize hq_ : World.drewN wc _ = wc; have n0_ : Ac (Kd.R k25 25 wc w.heap.size (fun k_ => k_ ≠ gb422) (.slice Ao30 x3_1.length co30) x3_1) := ⟨by rw [← hq_]; exact Ycc_⟩; have n1_ : Ac (wc.heap[gb422]? = some (.cells #[.int .i64 t416, .string t417, .int .i64 t418, .int .i64 t419] 25 (0, 0))) := ⟨by rw [← hq_]; exact Yde_⟩; have n2_ : Ac (Aj w0 wc g s0_0 x1001_7 x1002_7) := ⟨by rw [← hq_]; exact Ydg_⟩; have n3_ : Ac (A8 w wc g none) := ⟨by rw [← hq_]; exact Yce_⟩; have n4_ : Ac (Below w0.heap.size w0 wc) := ⟨by rw [← hq_]; exact Ydd_⟩; clear HO_3 BK422 HI0 HK HB hq_; have HO_3 := n0_; have BK422 := n1_; have HI0 := n2_; have HK := n3_; have HB := n4_; clear n0_ n1_ n2_ n3_ n4_; have hcq_0 : wc.cell? ⟨gb422, 0, none⟩ = some (.int .i64 t416) := (Ak BK422.out 0).trans rfl; have hfq_0 := Ai BK422.out 0; have hcq_1 : wc.cell? ⟨gb422, 1, none⟩ = some (.string t417) := (Ak BK422.out 1).trans rfl; have hfq_1 := Ai BK422.out 1; have hcq_2 : wc.cell? ⟨gb422, 2, none⟩ = some (.int .i64 t418) := (Ak BK422.out 2).trans rfl; have hfq_2 := Ai BK422.out 2; have hcq_3 : wc.cell? ⟨gb422, 3, none⟩ = some (.int .i64 t419) := (Ak BK422.out 3).trans rfl; have hfq_3 := Ai BK422.out 3))) | ((with_reducible refine Gz (b := .append) (xs := #[.tmp 39, .tmp 41]) rfl ?_); at_builtin; refine Kd.Ia k25 w.heap.size rfl (.tmp 39) (.tmp 41) 33 25 (.agg #[(.int .i64 0), (.string ⟨#[]⟩), (.int .i64 0), (.int .i64 0)]) 40 rfl Tryz.underlying33 info25 rfl (by decide) (by omega) (.slice Ao30 x3_1.length co30) x3_1 (⟨t416, t417, t426, t419⟩ : S25) [.int .i64 t416, .string t417, .int .i64 t426, .int .i64 t419] (fun k_ => k_ ≠ gb422) (fun _ => False) rfl Yeh_ ?aP (fun _ hk => hk.elim) ?aF ?aO (Below.refl _ _) ?aS ?aL ?_; (case aP => exact Ic _ _ _ (⟨t416, t417, t426, t419⟩ : S25)); (case aF => exact (fun k_ hk => Kd.freshB (g := gb422) (o := .cells #[.int .i64 t416, .string t417, .int .i64 t426, .int .i64 t419] 25 (0, 0)) Yeb_ k_ hk)); (case aO => exact (by (with_reducible repeat (first | apply Kd.Cb | apply Kd.Bz | apply Kd.Cm)); exact Kd.R_mono (Kd.F9 (p := ⟨gb422, 2, none⟩) (Kd.R_mono HO_3.out (fun k_ hk => (⟨hk, hk⟩ : _ ∧ k_ ≠ gb422))) (fun _ hk => hk.2) (.int .i64 t426)) (fun _ hk => hk.1))); (case aS => exact (Gt (w := w) (g := g) (row := none) Yce_)); (case aL => have := LMc29.out; omega); intro v431 w33 ho hb hg hat; rw [← Ny430.out] at ho; have n0_ := Ac.mk (Ib (g := gb422) (o := .cells #[.int .i64 t416, .string t417, .int .i64 t426, .int .i64 t419] 25 (0, 0)) Yeb_ hg (Kd.R_away HO_3.out (fun _ hk => hk))); have n1_ := Ac.mk (Aj.grown (Aj.far HI0.out NB0_422.out _) hg (Aj.own_ne HI0.out HO_3.out (by decide))); have n2_ := Ac.mk (I7 Ydd_ HL.out hb); have n3_ := Ac.mk (A8.trans Yce_ (A8.of_grown hg g) (Kd.R_base2 HO_3.out)); have n4_ := Ac.mk (ho); clear BK422; clear HI0; clear HB; clear HK; clear HO_3; have BK422 := n0_; have HI0 := n1_; have HB := n2_; have HK := n3_; have HO432 := n4_; clear n0_ n1_ n2_ n3_ n4_; clear ho hb hg hat))
          go_roundg kj7
          case measure => have := HK1.out; have := HJ7.out; omega
          case rel => exact ⟨(y430), (wrap64 (x4_1 - 1)), (x1001_7), (x1002_7), Yf_, H', ⟨by have := HK1.out; have := HJ7.out; omega⟩, ⟨by (with_reducible repeat (first | apply Kd.Cb | apply Kd.Bz | apply Kd.Cm)); exact Kd.R_mono HO432.out (fun _ hk => trivial)⟩, ⟨by repeat (first | (with_reducible first | exact HI0.out | apply Aj.alloc | apply Aj.drewN | apply Aj.drew | apply Aj.Dv | apply Aj.Du | refine Aj.far ?_ NB0_422.out _) | exact HI0.out)⟩, ⟨by repeat (first | (with_reducible first | exact HK.out | apply A8.Eo | apply Bq | apply Ce | apply Bv | refine Dk ?_ GW422.out _) | exact HK.out)⟩, ⟨by repeat (first | (with_reducible first | exact HB.out | apply Ae | apply Aa | apply Ad | refine Am ?_ (Aj.ge HI0.out) | refine Am ?_ GE422.out) | exact HB.out)⟩⟩
         ·rw [if_neg c29] at H
          exact absurd H (by simp)
       ·rw [if_neg c22] at H
        have c22b0 : decide (0 ≤ t426) = false := decide_eq_false c22
        clear c22
        by_cases c34 : x3_1.length < 3518437208883
        ·rw [if_pos c34] at H
         have LMc34 := Ac.mk c34
         clear c34
         obtain ⟨y433, hy433⟩ : ∃ y_ : List (S25), y_ = (x3_1 ++ [(⟨t416, t417, t418, t419⟩ : S25)]) := ⟨_, rfl⟩
         replace H : (Bf.l0 kj7 y433 (wrap64 (x4_1 - 1)) s0_0 x1001_7 x1002_7) = some (r1, r2, r3) := by first | (rw [hy433]; with_reducible exact H) | (have H2_ := (Option.bind_some _ _).symm.trans H; rw [hy433]; with_reducible exact H2_) | (have H2_ := (Option.bind_some _ _).symm.trans H; with_reducible exact H2_) | with_reducible exact H | (rw [hy433]; exact H) | exact H
         have Ny433 := Ac.mk hy433
         clear hy433
         have H' := Ac.mk H
         clear H
         obtain ⟨Ao35, co35, eo35⟩ := Kd.Gh HO_3.out
         subst eo35
         have hnb36 := NB422_0.out
         have hnc36 := NB0_422.out
         have hcz37_0 : wc.cell? ⟨gb422, 0, none⟩ = some (.int .i64 t416) := (Ak BK422.out 0).trans rfl
         have hcz37_1 : wc.cell? ⟨gb422, 1, none⟩ = some (.string t417) := (Ak BK422.out 1).trans rfl
         have hcz37_2 : wc.cell? ⟨gb422, 2, none⟩ = some (.int .i64 t418) := (Ak BK422.out 2).trans rfl
         have hcz37_3 : wc.cell? ⟨gb422, 3, none⟩ = some (.int .i64 t419) := (Ak BK422.out 3).trans rfl
         have hfz37_0 := Ai BK422.out 0
         have hfz37_1 := Ai BK422.out 1
         have hfz37_2 := Ai BK422.out 2
         have hfz37_3 := Ai BK422.out 3
         go_wp2_with (first | ((with_reducible refine Ap (f := 54) rfl ?_); refine Bj (some 28) rfl rfl Tryz.func54 (by kernel_rfl) rfl #[.slice Ao35 x3_1.length co35, .int .i64 (x3_1.length : Int), .string t417] rfl Ya_ ?_; (with_reducible refine (Ea.calls kj7 _ _ x3_1 (x3_1.length : Int) t417 t426 _ ?side1 ?side2 A21.out).mono ?_); (case side1 => repeat (first | exact (Kd.Ec HO_3.out).2.2 | (with_reducible refine Kd.F5 ?_ _) | (with_reducible refine Kd.F6 ?_ _) | (with_reducible refine Kd.Gj ?_))); (case side2 => exact (Kd.Ec HO_3.out).2.1); rintro e w' ⟨rfl, ⟨nd, rfl⟩⟩; refine ⟨_, rfl, ?_⟩) | ((with_reducible refine Gz (b := .append) (xs := #[.tmp 39, .tmp 41]) rfl ?_); at_builtin; refine Kd.Ia k25 w.heap.size rfl (.tmp 39) (.tmp 41) 33 25 (.agg #[(.int .i64 0), (.string ⟨#[]⟩), (.int .i64 0), (.int .i64 0)]) 40 rfl Tryz.underlying33 info25 rfl (by decide) (by omega) (.slice Ao35 x3_1.length co35) x3_1 (⟨t416, t417, t418, t419⟩ : S25) [.int .i64 t416, .string t417, .int .i64 t418, .int .i64 t419] (fun k_ => k_ ≠ gb422) (fun _ => False) rfl rfl ?aP (fun _ hk => hk.elim) ?aF ?aO (Below.refl _ _) ?aS ?aL ?_; (case aP => exact Ic _ _ _ (⟨t416, t417, t418, t419⟩ : S25)); (case aF => exact (fun k_ hk => Kd.freshB (g := gb422) (o := .cells #[.int .i64 t416, .string t417, .int .i64 t418, .int .i64 t419] 25 (0, 0)) Yde_ k_ hk)); (case aO => exact Ycc_); (case aS => exact (Gt (w := w) (g := g) (row := none) Yce_)); (case aL => have := LMc34.out; omega); intro v434 w38 ho hb hg hat; rw [← Ny433.out] at ho; have n0_ := Ac.mk (Ib (g := gb422) (o := .cells #[.int .i64 t416, .string t417, .int .i64 t418, .int .i64 t419] 25 (0, 0)) Yde_ hg (Kd.R_away HO_3.out (fun _ hk => hk))); have n1_ := Ac.mk (Aj.grown Ydg_ hg (Aj.own_ne HI0.out HO_3.out (by decide))); have n2_ := Ac.mk (I7 Ydd_ HL.out hb); have n3_ := Ac.mk (A8.trans Yce_ (A8.of_grown hg g) (Kd.R_base2 HO_3.out)); have n4_ := Ac.mk (ho); clear BK422; clear HI0; clear HB; clear HK; clear HO_3; have BK422 := n0_; have HI0 := n1_; have HB := n2_; have HK := n3_; have HO435 := n4_; clear n0_ n1_ n2_ n3_ n4_; clear ho hb hg hat))
         go_roundg kj7
         case measure => have := HK1.out; have := HJ7.out; omega
         case rel => exact ⟨(y433), (wrap64 (x4_1 - 1)), (x1001_7), (x1002_7), Yf_, H', ⟨by have := HK1.out; have := HJ7.out; omega⟩, ⟨by (with_reducible repeat (first | apply Kd.Cb | apply Kd.Bz | apply Kd.Cm)); exact Kd.R_mono HO435.out (fun _ hk => trivial)⟩, ⟨by repeat (first | (with_reducible first | exact HI0.out | apply Aj.alloc | apply Aj.drewN | apply Aj.drew | apply Aj.Dv | apply Aj.Du | refine Aj.far ?_ NB0_422.out _) | exact HI0.out)⟩, ⟨by repeat (first | (with_reducible first | exact HK.out | apply A8.Eo | apply Bq | apply Ce | apply Bv | refine Dk ?_ GW422.out _) | exact HK.out)⟩, ⟨by repeat (first | (with_reducible first | exact HB.out | apply Ae | apply Aa | apply Ad | refine Am ?_ (Aj.ge HI0.out) | refine Am ?_ GE422.out) | exact HB.out)⟩⟩
        ·rw [if_neg c34] at H
         exact absurd H (by simp)
      ·replace c20 := Bool.eq_false_iff.mpr c20
       subst c20
       have H1 : (if x3_1.length < 3518437208883 then (Bf.l0 kj7 (x3_1 ++ [(⟨t416, t417, t418, t419⟩ : S25)]) (wrap64 (x4_1 - 1)) s0_0 x1001_7 x1002_7) else (none)) = some (r1, r2, r3) := by rw [if_neg (show ¬ (false = true) by decide)] at H; exact H
       clear H
       have H := H1
       clear H1
       by_cases c39 : x3_1.length < 3518437208883
       ·rw [if_pos c39] at H
        have LMc39 := Ac.mk c39
        clear c39
        obtain ⟨y436, hy436⟩ : ∃ y_ : List (S25), y_ = (x3_1 ++ [(⟨t416, t417, t418, t419⟩ : S25)]) := ⟨_, rfl⟩
        replace H : (Bf.l0 kj7 y436 (wrap64 (x4_1 - 1)) s0_0 x1001_7 x1002_7) = some (r1, r2, r3) := by first | (rw [hy436]; with_reducible exact H) | (have H2_ := (Option.bind_some _ _).symm.trans H; rw [hy436]; with_reducible exact H2_) | (have H2_ := (Option.bind_some _ _).symm.trans H; with_reducible exact H2_) | with_reducible exact H | (rw [hy436]; exact H) | exact H
        have Ny436 := Ac.mk hy436
        clear hy436
        have H' := Ac.mk H
        clear H
        have hnb40 := NB422_0.out
        have hnc40 := NB0_422.out
        have hcz41_0 : wc.cell? ⟨gb422, 0, none⟩ = some (.int .i64 t416) := (Ak BK422.out 0).trans rfl
        have hcz41_1 : wc.cell? ⟨gb422, 1, none⟩ = some (.string t417) := (Ak BK422.out 1).trans rfl
        have hcz41_2 : wc.cell? ⟨gb422, 2, none⟩ = some (.int .i64 t418) := (Ak BK422.out 2).trans rfl
        have hcz41_3 : wc.cell? ⟨gb422, 3, none⟩ = some (.int .i64 t419) := (Ak BK422.out 3).trans rfl
        have hfz41_0 := Ai BK422.out 0
        have hfz41_1 := Ai BK422.out 1
        have hfz41_2 := Ai BK422.out 2
        have hfz41_3 := Ai BK422.out 3
        go_wp2_with (first | ((with_reducible refine Gz (b := .append) (xs := #[.tmp 39, .tmp 41]) rfl ?_); at_builtin; refine Kd.Ia k25 w.heap.size rfl (.tmp 39) (.tmp 41) 33 25 (.agg #[(.int .i64 0), (.string ⟨#[]⟩), (.int .i64 0), (.int .i64 0)]) 40 rfl Tryz.underlying33 info25 rfl (by decide) (by omega) u3 x3_1 (⟨t416, t417, t418, t419⟩ : S25) [.int .i64 t416, .string t417, .int .i64 t418, .int .i64 t419] (fun k_ => k_ ≠ gb422) (fun _ => False) rfl rfl ?aP (fun _ hk => hk.elim) ?aF ?aO (Below.refl _ _) ?aS ?aL ?_; (case aP => exact Ic _ _ _ (⟨t416, t417, t418, t419⟩ : S25)); (case aF => exact (fun k_ hk => Kd.freshB (g := gb422) (o := .cells #[.int .i64 t416, .string t417, .int .i64 t418, .int .i64 t419] 25 (0, 0)) Yde_ k_ hk)); (case aO => exact Ycc_); (case aS => exact (Gt (w := w) (g := g) (row := none) Yce_)); (case aL => have := LMc39.out; omega); intro v437 w42 ho hb hg hat; rw [← Ny436.out] at ho; have n0_ := Ac.mk (Ib (g := gb422) (o := .cells #[.int .i64 t416, .string t417, .int .i64 t418, .int .i64 t419] 25 (0, 0)) Yde_ hg (Kd.R_away HO_3.out (fun _ hk => hk))); have n1_ := Ac.mk (Aj.grown Ydg_ hg (Aj.own_ne HI0.out HO_3.out (by decide))); have n2_ := Ac.mk (I7 Ydd_ HL.out hb); have n3_ := Ac.mk (A8.trans Yce_ (A8.of_grown hg g) (Kd.R_base2 HO_3.out)); have n4_ := Ac.mk (ho); clear BK422; clear HI0; clear HB; clear HK; clear HO_3; have BK422 := n0_; have HI0 := n1_; have HB := n2_; have HK := n3_; have HO438 := n4_; clear n0_ n1_ n2_ n3_ n4_; clear ho hb hg hat))
        go_roundg kj7
        case measure => have := HK1.out; have := HJ7.out; omega
        case rel => exact ⟨(y436), (wrap64 (x4_1 - 1)), (x1001_7), (x1002_7), Yf_, H', ⟨by have := HK1.out; have := HJ7.out; omega⟩, ⟨by (with_reducible repeat (first | apply Kd.Cb | apply Kd.Bz | apply Kd.Cm)); exact Kd.R_mono HO438.out (fun _ hk => trivial)⟩, ⟨by repeat (first | (with_reducible first | exact HI0.out | apply Aj.alloc | apply Aj.drewN | apply Aj.drew | apply Aj.Dv | apply Aj.Du | refine Aj.far ?_ NB0_422.out _) | exact HI0.out)⟩, ⟨by repeat (first | (with_reducible first | exact HK.out | apply A8.Eo | apply Bq | apply Ce | apply Bv | refine Dk ?_ GW422.out _) | exact HK.out)⟩, ⟨by repeat (first | (with_reducible first | exact HB.out | apply Ae | apply Aa | apply Ad | refine Am ?_ (Aj.ge HI0.out) | refine Am ?_ GE422.out) | exact HB.out)⟩⟩
       ·rw [if_neg c39] at H
        exact absurd H (by simp)
   ·rw [if_neg c6] at H
    have c6b0 : decide (0 < x4_1) = false := decide_eq_false c6
    clear c6
    replace H := Option.bind_eq_some_iff.mp H
    obtain ⟨⟨t439, t440, t441⟩, A430, H⟩ := H
    try dsimp only at H
    have A43 := Ac.mk A430
    clear A430
    by_cases c44 : t439 = true
    ·subst c44
     have H1 : (Bf.l1 k1 x3_1 s0_0 t440 t441) = some (r1, r2, r3) := by rw [if_pos rfl] at H; exact H
     clear H
     have H := H1
     clear H1
     have H' := Ac.mk H
     clear H
     go_wp2_with (first | ((with_reducible refine Ap (f := 28) rfl ?_); refine Bj (some 44) rfl rfl Tryz.func28 (by kernel_rfl) rfl #[.pointer (some ⟨g, 0, none⟩), .int .i64 40] rfl Ya_ ?_; (with_reducible refine (Fq.calls g s0_0 x1001_1 x1002_1 40 true t440 t441 w0 _ ?side1 ?side2 A43.out).mono ?_); (case side1 => repeat (first | (with_reducible first | exact HI0.out | apply Aj.alloc | apply Aj.drewN | apply Aj.drew | apply Aj.Dv | apply Aj.Du) | exact HI0.out)); (case side2 => repeat (first | (with_reducible first | exact HB.out | apply Ae | apply Aa | apply Ad | refine Am ?_ (Aj.ge HI0.out)) | exact HB.out)); rintro e w45 ⟨rfl, hi, hb, hk⟩; refine ⟨_, rfl, ?_⟩; have n0_ := Ac.mk (Kd.R_mono (Kd.Hr (Aj.apart (show Aj w0 _ g s0_0 x1001_1 x1002_1 from by repeat (first | (with_reducible first | exact HI0.out | apply Aj.alloc | apply Aj.drewN | apply Aj.drew | apply Aj.Dv | apply Aj.Du) | exact HI0.out)) Ycc_ (by decide)) hk (fun _ h => h.2)) (fun _ h => h.1)); have n1_ := Ac.mk (A8.trans Yh_ hk (.inl rfl)); have n2_ := Ac.mk (hb); have n3_ := Ac.mk (hi); clear HO_3; clear HK; clear HB; clear HI0; have HO_3 := n0_; have HK := n1_; have HB := n2_; have HI0 := n3_; clear n0_ n1_ n2_ n3_; (try clear hb); (try clear hb2); (try clear hk); (try clear hi)))
     (try simp only [Act.put, List.setIfInBounds_toArray, List.set_cons_zero, List.set_cons_succ])
     go_loopg [3] k1 (fun kq v3 w' => ∃ (x3_2 : List (S25)) (x1001_2 : Int) (x1002_2 : Int), Ac (Bf.l1 kq x3_2 s0_0 x1001_2 x1002_2 = some (r1, r2, r3)) ∧ Ac (kq ≤ k1) ∧ Ac (Kd.R k25 25 w' w.heap.size (fun _ => True) v3 x3_2) ∧ Ac (Aj w0 w' g s0_0 x1001_2 x1002_2) ∧ Ac (A8 w w' g none) ∧ Ac (Below w0.heap.size w0 w'))
     case atStart => exact ⟨(x3_1), (t440), (t441), H', ⟨Nat.le_refl _⟩, ⟨by (with_reducible repeat (first | apply Kd.Cb | apply Kd.Bz | apply Kd.Cm)); exact HO_3.out⟩, ⟨by repeat (first | (with_reducible first | exact HI0.out | apply Aj.alloc | apply Aj.drewN | apply Aj.drew | apply Aj.Dv | apply Aj.Du) | exact HI0.out)⟩, ⟨by repeat (first | (with_reducible first | exact HK.out | apply A8.Eo | apply Bq | apply Ce | apply Bv) | exact HK.out)⟩, ⟨by repeat (first | (with_reducible first | exact HB.out | apply Ae | apply Aa | apply Ad | refine Am ?_ (Aj.ge HI0.out)) | exact HB.out)⟩⟩
     case round =>
      clear H'
      try clear c1; try clear c2; try clear p2; try clear c3; try clear c4; try clear c5; try clear c6; try clear c6b0; try clear p6; try clear c11; try clear c13; try clear c13b0; try clear c13b1; try clear c15; try clear c18; try clear c20; try clear c22; try clear c22b0; try clear c23; try clear c23b0; try clear c23b1; try clear c24; try clear c26; try clear c27; try clear c28; try clear c29; try clear c31; try clear c33; try clear c34; try clear c36; try clear c39; try clear c40; try clear c44; try clear hcz12_0; try clear hcz12_1; try clear hcz12_2; try clear hcz12_3; try clear hcz16_0; try clear hcz16_1; try clear hcz16_2; try clear hcz16_3; try clear hcz19_0; try clear hcz19_1; try clear hcz19_2; try clear hcz19_3; try clear hcz27_0; try clear hcz27_1; try clear hcz27_2; try clear hcz27_3; try clear hcz32_0; try clear hcz32_1; try clear hcz32_2; try clear hcz32_3; try clear hcz37_0; try clear hcz37_1; try clear hcz37_2; try clear hcz37_3; try clear hcz41_0; try clear hcz41_1; try clear hcz41_2; try clear hcz41_3; try clear hfz12_0; try clear hfz12_1; try clear hfz12_2; try clear hfz12_3; try clear hfz16_0; try clear hfz16_1; try clear hfz16_2; try clear hfz16_3; try clear hfz19_0; try clear hfz19_1; try clear hfz19_2; try clear hfz19_3; try clear hfz27_0; try clear hfz27_1; try clear hfz27_2; try clear hfz27_3; try clear hfz32_0; try clear hfz32_1; try clear hfz32_2; try clear hfz32_3; try clear hfz37_0; try clear hfz37_1; try clear hfz37_2; try clear hfz37_3; try clear hfz41_0; try clear hfz41_1; try clear hfz41_2; try clear hfz41_3; try clear p2
      obtain ⟨x3_2, x1001_2, x1002_2, HA, HK2, HO_3, HI0, HK, HB⟩ := hrel
      cases gk with
      | zero => exact absurd HA.out (by simp [Bf.l1])
      | succ k2 =>
       have H := HA.out
       clear HA
       simp only [Bf.l1] at H
       replace H := Option.bind_eq_some_iff.mp H
       obtain ⟨⟨t442, t443, t444⟩, A460, H⟩ := H
       try dsimp only at H
       have A46 := Ac.mk A460
       clear A460
       by_cases c47 : (x3_2.length : Int) < (wrap64 (10 + t442))
       ·rw [if_pos c47] at H
        have c47b0 : decide ((x3_2.length : Int) < (wrap64 (10 + t442))) = true := decide_eq_true c47
        clear c47
        replace H := Option.bind_eq_some_iff.mp H
        obtain ⟨⟨t445, t446, t447⟩, A480, H⟩ := H
        try dsimp only at H
        have A48 := Ac.mk A480
        clear A480
        by_cases c49 : x3_2.length < 3518437208883
        ·rw [if_pos c49] at H
         have LMc49 := Ac.mk c49
         clear c49
         obtain ⟨y448, hy448⟩ : ∃ y_ : List (S25), y_ = (x3_2 ++ [(⟨1, t445, 2, 0⟩ : S25)]) := ⟨_, rfl⟩
         replace H : (Bf.l1 k2 y448 s0_0 t446 t447) = some (r1, r2, r3) := by first | (rw [hy448]; with_reducible exact H) | (have H2_ := (Option.bind_some _ _).symm.trans H; rw [hy448]; with_reducible exact H2_) | (have H2_ := (Option.bind_some _ _).symm.trans H; with_reducible exact H2_) | with_reducible exact H | (rw [hy448]; exact H) | exact H
         have Ny448 := Ac.mk hy448
         clear hy448
         have H' := Ac.mk H
         clear H
         obtain ⟨Ao50, co50, eo50⟩ := Kd.Gh HO_3.out
         subst eo50
         go_wp2_with (first | ((with_reducible refine Ap (f := 49) rfl ?_); refine Bj (some 48) rfl rfl Tryz.func49 (by kernel_rfl) rfl #[.pointer (some ⟨g, 0, none⟩), .int .i64 2] rfl Ya_ ?_; (with_reducible refine (Cj.calls g s0_0 x1001_2 x1002_2 2 t442 t443 t444 w0 _ ?side1 ?side2 A46.out).mono ?_); (case side1 => repeat (first | (with_reducible first | exact HI0.out | apply Aj.alloc | apply Aj.drewN | apply Aj.drew | apply Aj.Dv | apply Aj.Du) | exact HI0.out)); (case side2 => repeat (first | (with_reducible first | exact HB.out | apply Ae | apply Aa | apply Ad | refine Am ?_ (Aj.ge HI0.out)) | exact HB.out)); rintro e w51 ⟨rfl, hi, hb, hk⟩; refine ⟨_, rfl, ?_⟩; have n0_ := Ac.mk (Kd.R_mono (Kd.Hr (Aj.apart (show Aj w0 _ g s0_0 x1001_2 x1002_2 from by repeat (first | (with_reducible first | exact HI0.out | apply Aj.alloc | apply Aj.drewN | apply Aj.drew | apply Aj.Dv | apply Aj.Du) | exact HI0.out)) Ycc_ (by decide)) hk (fun _ h => h.2)) (fun _ h => h.1)); have n1_ := Ac.mk (A8.trans Yh_ hk (.inl rfl)); have n2_ := Ac.mk (hb); have n3_ := Ac.mk (hi); clear HO_3; clear HK; clear HB; clear HI0; have HO_3 := n0_; have HK := n1_; have HB := n2_; have HI0 := n3_; clear n0_ n1_ n2_ n3_; (try clear hb); (try clear hb2); (try clear hk); (try clear hi)) | ((with_reducible refine Ap (f := 50) rfl ?_); refine Bj (some 53) rfl rfl Tryz.func50 (by kernel_rfl) rfl #[.pointer (some ⟨g, 0, none⟩)] rfl Ya_ ?_; (with_reducible refine (E5.calls k2 g s0_0 t443 t444 t445 t446 t447 w0 _ ?side1 ?side2 A48.out).mono ?_); (case side1 => repeat (first | (with_reducible first | exact HI0.out | apply Aj.alloc | apply Aj.drewN | apply Aj.drew | apply Aj.Dv | apply Aj.Du) | exact HI0.out)); (case side2 => repeat (first | (with_reducible first | exact HB.out | apply Ae | apply Aa | apply Ad | refine Am ?_ (Aj.ge HI0.out)) | exact HB.out)); rintro e w52 ⟨rfl, hi, hb, hk⟩; refine ⟨_, rfl, ?_⟩; have n0_ := Ac.mk (Kd.R_mono (Kd.Hr (Aj.apart (show Aj w0 _ g s0_0 t443 t444 from by repeat (first | (with_reducible first | exact HI0.out | apply Aj.alloc | apply Aj.drewN | apply Aj.drew | apply Aj.Dv | apply Aj.Du) | exact HI0.out)) Ycc_ (by decide)) hk (fun _ h => h.2)) (fun _ h => h.1)); have n1_ := Ac.mk (A8.trans Yh_ hk (.inl rfl)); have n2_ := Ac.mk (hb); have n3_ := Ac.mk (hi); clear HO_3; clear HK; clear HB; clear HI0; have HO_3 := n0_; have HK := n1_; have HB := n2_; have HI0 := n3_; clear n0_ n1_ n2_ n3_; (try clear hb); (try clear hb2); (try clear hk); (try clear hi)) | ((with_reducible refine Gz (b := .append) (xs := #[.tmp 51, .tmp 55]) rfl ?_); at_builtin; refine Kd.Ia k25 w.heap.size rfl (.tmp 51) (.tmp 55) 33 25 (.agg #[(.int .i64 0), (.string ⟨#[]⟩), (.int .i64 0), (.int .i64 0)]) 40 rfl Tryz.underlying33 info25 rfl (by decide) (by omega) (.slice Ao50 x3_2.length co50) x3_2 (⟨1, t445, 2, 0⟩ : S25) [.int .i64 1, .string t445, .int .i64 2, .int .i64 0] (fun _ => True) (fun _ => False) rfl rfl ?aP (fun _ hk => hk.elim) ?aF ?aO (Below.refl _ _) ?aS ?aL ?_; (case aP => exact Ic _ _ _ (⟨1, t445, 2, 0⟩ : S25)); (case aF => exact (fun _ _ => trivial)); (case aO => exact Ycc_); (case aS => exact (Gt (w := w) (g := g) (row := none) Yh_)); (case aL => have := LMc49.out; omega); intro v449 w53 ho hb hg hat; rw [← Ny448.out] at ho; have n0_ := Ac.mk (Aj.grown Ycj_ hg (Aj.own_ne HI0.out HO_3.out (by decide))); have n1_ := Ac.mk (I7 Yda_ HL.out hb); have n2_ := Ac.mk (A8.trans Yh_ (A8.of_grown hg g) (Kd.R_base2 HO_3.out)); have n3_ := Ac.mk (ho); clear HI0; clear HB; clear HK; clear HO_3; have HI0 := n0_; have HB := n1_; have HK := n2_; have HO450 := n3_; clear n0_ n1_ n2_ n3_; clear ho hb hg hat))
         go_roundg k2
         case measure => have := HK1.out; have := HK2.out; omega
         case rel => exact ⟨(y448), (t446), (t447), H', ⟨by have := HK1.out; have := HK2.out; omega⟩, ⟨by (with_reducible repeat (first | apply Kd.Cb | apply Kd.Bz | apply Kd.Cm)); exact HO450.out⟩, ⟨by repeat (first | (with_reducible first | exact HI0.out | apply Aj.alloc | apply Aj.drewN | apply Aj.drew | apply Aj.Dv | apply Aj.Du) | exact HI0.out)⟩, ⟨by repeat (first | (with_reducible first | exact HK.out | apply A8.Eo | apply Bq | apply Ce | apply Bv) | exact HK.out)⟩, ⟨by repeat (first | (with_reducible first | exact HB.out | apply Ae | apply Aa | apply Ad | refine Am ?_ (Aj.ge HI0.out)) | exact HB.out)⟩⟩
        ·rw [if_neg c49] at H
         exact absurd H (by simp)
       ·rw [if_neg c47] at H
        have c47b0 : decide ((x3_2.length : Int) < (wrap64 (10 + t442))) = false := decide_eq_false c47
        clear c47
        simp only [Option.some.injEq, Prod.mk.injEq] at H
        obtain ⟨rfl, rfl, rfl⟩ := H
        obtain ⟨Ao54, co54, eo54⟩ := Kd.Gh HO_3.out
        subst eo54
        go_wp2_with (first | ((with_reducible refine Ap (f := 49) rfl ?_); refine Bj (some 48) rfl rfl Tryz.func49 (by kernel_rfl) rfl #[.pointer (some ⟨g, 0, none⟩), .int .i64 2] rfl Ya_ ?_; (with_reducible refine (Cj.calls g s0_0 x1001_2 x1002_2 2 t442 t443 t444 w0 _ ?side1 ?side2 A46.out).mono ?_); (case side1 => repeat (first | (with_reducible first | exact HI0.out | apply Aj.alloc | apply Aj.drewN | apply Aj.drew | apply Aj.Dv | apply Aj.Du) | exact HI0.out)); (case side2 => repeat (first | (with_reducible first | exact HB.out | apply Ae | apply Aa | apply Ad | refine Am ?_ (Aj.ge HI0.out)) | exact HB.out)); rintro e w55 ⟨rfl, hi, hb, hk⟩; refine ⟨_, rfl, ?_⟩; have n0_ := Ac.mk (Kd.R_mono (Kd.Hr (Aj.apart (show Aj w0 _ g s0_0 x1001_2 x1002_2 from by repeat (first | (with_reducible first | exact HI0.out | apply Aj.alloc | apply Aj.drewN | apply Aj.drew | apply Aj.Dv | apply Aj.Du) | exact HI0.out)) Ycc_ (by decide)) hk (fun _ h => h.2)) (fun _ h => h.1)); have n1_ := Ac.mk (A8.trans Yh_ hk (.inl rfl)); have n2_ := Ac.mk (hb); have n3_ := Ac.mk (hi); clear HO_3; clear HK; clear HB; clear HI0; have HO_3 := n0_; have HK := n1_; have HB := n2_; have HI0 := n3_; clear n0_ n1_ n2_ n3_; (try clear hb); (try clear hb2); (try clear hk); (try clear hi)))
        go_ret
        exact ⟨_, by first | rfl | (simp [Au, Aw] <;> rfl) | (simp [*, Au, Aw] <;> rfl), by (with_reducible repeat (first | apply Kd.Cb | apply Kd.Bz | apply Kd.Cm)); exact HO_3.out, by repeat (first | (with_reducible first | exact HI0.out | apply Aj.alloc | apply Aj.drewN | apply Aj.drew | apply Aj.Dv | apply Aj.Du) | exact HI0.out), by repeat (first | (with_reducible first | exact HB.out | apply Ae | apply Aa | apply Ad | refine Am ?_ (Aj.ge HI0.out)) | exact HB.out), by repeat (first | (with_reducible first | exact HK.out | apply A8.Eo | apply Bq | apply Ce | apply Bv) | exact HK.out)⟩
    ·replace c44 := Bool.eq_false_iff.mpr c44
     subst c44
     have H1 : (some (x3_1, t440, t441)) = some (r1, r2, r3) := by rw [if_neg (show ¬ (false = true) by decide)] at H; exact H
     clear H
     have H := H1
     clear H1
     simp only [Option.some.injEq, Prod.mk.injEq] at H
     obtain ⟨rfl, rfl, rfl⟩ := H
     go_wp2_with (first | ((with_reducible refine Ap (f := 28) rfl ?_); refine Bj (some 44) rfl rfl Tryz.func28 (by kernel_rfl) rfl #[.pointer (some ⟨g, 0, none⟩), .int .i64 40] rfl Ya_ ?_; (with_reducible refine (Fq.calls g s0_0 x1001_1 x1002_1 40 false t440 t441 w0 _ ?side1 ?side2 A43.out).mono ?_); (case side1 => repeat (first | (with_reducible first | exact HI0.out | apply Aj.alloc | apply Aj.drewN | apply Aj.drew | apply Aj.Dv | apply Aj.Du) | exact HI0.out)); (case side2 => repeat (first | (with_reducible first | exact HB.out | apply Ae | apply Aa | apply Ad | refine Am ?_ (Aj.ge HI0.out)) | exact HB.out)); rintro e w56 ⟨rfl, hi, hb, hk⟩; refine ⟨_, rfl, ?_⟩; have n0_ := Ac.mk (Kd.R_mono (Kd.Hr (Aj.apart (show Aj w0 _ g s0_0 x1001_1 x1002_1 from by repeat (first | (with_reducible first | exact HI0.out | apply Aj.alloc | apply Aj.drewN | apply Aj.drew | apply Aj.Dv | apply Aj.Du) | exact HI0.out)) Ycc_ (by decide)) hk (fun _ h => h.2)) (fun _ h => h.1)); have n1_ := Ac.mk (A8.trans Yh_ hk (.inl rfl)); have n2_ := Ac.mk (hb); have n3_ := Ac.mk (hi); clear HO_3; clear HK; clear HB; clear HI0; have HO_3 := n0_; have HK := n1_; have HB := n2_; have HI0 := n3_; clear n0_ n1_ n2_ n3_; (try clear hb); (try clear hb2); (try clear hk); (try clear hi)))
     go_ret
     exact ⟨_, by first | rfl | (simp [Au, Aw] <;> rfl) | (simp [*, Au, Aw] <;> rfl), by (with_reducible repeat (first | apply Kd.Cb | apply Kd.Bz | apply Kd.Cm)); exact HO_3.out, by repeat (first | (with_reducible first | exact HI0.out | apply Aj.alloc | apply Aj.drewN | apply Aj.drew | apply Aj.Dv | apply Aj.Du) | exact HI0.out), by repeat (first | (with_reducible first | exact HB.out | apply Ae | apply Aa | apply Ad | refine Am ?_ (Aj.ge HI0.out)) | exact HB.out), by repeat (first | (with_reducible first | exact HK.out | apply A8.Eo | apply Bq | apply Ce | apply Bv) | exact HK.out)⟩
def Eu.f (k : Nat) (l0 : List Int) : Option ((List (S25))) := (Bf.f k l0 0 0).bind fun bt452 => (some bt452.1)
theorem Eu.mono : ∀ a0 k, LeO (Eu.f k a0) (Eu.f (k + 1) a0) := by
 intro a0 k
 unfold Eu.f
 repeat' first
   | (with_reducible exact Bf.mono _ _ _ _)
   | (with_reducible exact LeO.refl _)
   | (with_reducible exact LeO.none _)
   | (with_reducible refine LeO.ite ?_ ?_)
   | (with_reducible refine LeO.bind ?_ (fun _ => ?_))
   | exact Bf.mono _ _ _ _
   | exact LeO.none _
   | refine LeO.ite ?_ ?_
   | refine LeO.bind ?_ (fun _ => ?_)
set_option maxHeartbeats 8000000 in
set_option maxRecDepth 100000 in
theorem Eu.calls (k : Nat) (A0 : Option Addr) (c0 : Nat) (l0 : List Int) (r : List (S25)) (w : World) (hr0 : Kd.C (Kd.int .u8) w A0 l0.length l0) (hc0 : l0.length ≤ c0) (h : Eu.f k l0 = some r) :
  Calls Tryz.prog 12 #[.slice A0 l0.length c0] w fun e w' => ∃ v0_ : Value, e = .returned (v0_) ∧ Kd.R k25 25 w' w.heap.size (fun _ => True) v0_ r ∧ Below w.heap.size w w' := by
 have hu48 := Tryz.underlying48
 have HR0 := Ac.mk hr0
 have HC0 := Ac.mk hc0
 clear hr0 hc0
 have HB := Ac.mk (Below.refl w.heap.size w)
 have H : ((Bf.f k l0 0 0).bind fun bt452 => (some bt452.1)) = some r := h
 clear h
 replace H := Option.bind_eq_some_iff.mp H
 obtain ⟨⟨t452, t455, t456⟩, A20, H⟩ := H
 try dsimp only at H
 have A2 := Ac.mk A20
 clear A20
 obtain rfl := Option.some.inj H
 go_enter Tryz.func12, Tryz.ntmps12
 go_wp2_with (first | ((with_reducible refine Dl (N := 6) rfl ?_); refine Dz ?hg (N := 6) ?hd (cs := #[.slice A0 l0.length c0, .int .i64 0, .int .u64 0]) (t := 48) ?hr ?_; (case hd => rfl); (case hg => rfl); (case hr => first | (go_simp; done) | (go_simp; rfl)); intro gb0 hg w3 hbox hb; have n0_ := Ac.mk (Ar Yb_ hb); have n1_ := Ac.mk ((by rw [hg]; exact (Ba Yb_) : w.heap.size ≤ gb0)); have n2_ := Ac.mk ((by rw [hg]; exact (Ba Yb_) : w.heap.size ≤ gb0)); have n3_ := Ac.mk ((⟨_, _, hbox, (by rw [hg]; exact (Ba Yb_)), HR0.out⟩ : Aj w w3 gb0 l0 0 0)); clear HB; have HB := n0_; have GW0 := n1_; have GE0 := n2_; have HI451 := n3_; clear n0_ n1_ n2_ n3_; clear hb hbox hg) | ((with_reducible refine Ap (f := 33) rfl ?_); refine Bj (some 8) rfl rfl Tryz.func33 (by kernel_rfl) rfl #[.pointer (some ⟨gb0, 0, none⟩)] rfl Ya_ ?_; (with_reducible refine (Bf.calls k gb0 l0 0 0 t452 t455 t456 w _ ?side1 ?side2 A2.out).mono ?_); (case side1 => repeat (first | (with_reducible first | exact HI451.out | apply Aj.alloc | apply Aj.drewN | apply Aj.drew | apply Aj.Dv | apply Aj.Du) | exact HI451.out)); (case side2 => repeat (first | (with_reducible first | exact HB.out | apply Ae | apply Aa | apply Ad | refine Am ?_ (Aj.ge HI451.out)) | exact HB.out)); rintro e w4 ⟨v453, rfl, ho0, hi, hb, hk⟩; refine ⟨_, rfl, ?_⟩; have n0_ := Ac.mk (Kd.Gg ho0 (Ba (by repeat (first | (with_reducible first | exact HB.out | apply Ae | apply Aa | apply Ad | refine Am ?_ (Aj.ge HI451.out)) | exact HB.out)))); have n1_ := Ac.mk (hb); have n2_ := Ac.mk (hi); clear HB; clear HI451; have HO454 := n0_; have HB := n1_; have HI451 := n2_; clear n0_ n1_ n2_; (try clear hb); (try clear hb2); (try clear hk); (try clear hi); (try clear ho0)))
 go_ret
 exact ⟨_, by first | rfl | (simp [Au, Aw] <;> rfl) | (simp [*, Au, Aw] <;> rfl), by (with_reducible repeat (first | apply Kd.Cb | apply Kd.Bz | apply Kd.Cm)); exact HO454.out, by repeat (first | (with_reducible first | exact HB.out | apply Ae | apply Aa | apply Ad | refine Am ?_ (Aj.ge HI451.out)) | exact HB.out)⟩
end Go.Proofs.YtghnljoaklmakaaGreatDoor.X

namespace Go.Proofs
open Go.Shelf
def Tryz.lays156_ren : Go.Shelf.Ren := ⟨fun | 156 => 35 | 165 => 57 | 166 => 58 | 169 => 59 | 240 => 68 | 241 => 69 | 276 => 74 | 277 => 75 | n => n, fun | 31 => 57 | 9 => 9 | 3 => 3 | 4 => 4 | 0 => 0 | 20 => 20 | 72 => 77 | 76 => 81 | 70 => 75 | 37 => 22 | 75 => 80 | 127 => 90 | 164 => 93 | 5 => 5 | 80 => 69 | n => n, fun | n => n⟩
theorem Tryz.lays156 : Go.Proofs.Lays.n156 Tryz.prog Tryz.lays156_ren := {
  mixed := by kernel_rfl
  f156 := Tryz.func35.trans (congrArg some (by kernel_rfl))
  f165 := Tryz.func57.trans (congrArg some (by kernel_rfl))
  f166 := Tryz.func58.trans (congrArg some (by kernel_rfl))
  f169 := Tryz.func59.trans (congrArg some (by kernel_rfl))
  f240 := Tryz.func68.trans (congrArg some (by kernel_rfl))
  f241 := Tryz.func69.trans (congrArg some (by kernel_rfl))
  f276 := Tryz.func74.trans (congrArg some (by kernel_rfl))
  f277 := Tryz.func75.trans (congrArg some (by kernel_rfl))
  t0 := Tryz.underlying0
  a0 := Tryz.isAgg0
  z0 := Tryz.sizeOf0
  v0 := Tryz.zeroValue0
  t3 := Tryz.underlying3
  a3 := Tryz.isAgg3
  z3 := Tryz.sizeOf3
  v3 := Tryz.zeroValue3
  t4 := Tryz.underlying4
  a4 := Tryz.isAgg4
  z4 := Tryz.sizeOf4
  v4 := Tryz.zeroValue4
  t9 := Tryz.underlying9
  a9 := Tryz.isAgg9
  z9 := Tryz.sizeOf9
  v9 := Tryz.zeroValue9
  t20 := Tryz.underlying20
  a20 := Tryz.isAgg20
  z20 := Tryz.sizeOf20
  v20 := Tryz.zeroValue20
  t31 := Tryz.underlying57
  a31 := Tryz.isAgg57
  z31 := Tryz.sizeOf57
  v31 := Tryz.zeroValue57
  t37 := Tryz.underlying22
  a37 := Tryz.isAgg22
  z37 := Tryz.sizeOf22
  v37 := Tryz.zeroValue22
  t70 := Tryz.underlying75
  a70 := Tryz.isAgg75
  z70 := Tryz.sizeOf75
  v70 := Tryz.zeroValue75
  t72 := Tryz.underlying77
  a72 := Tryz.isAgg77
  z72 := Tryz.sizeOf77
  v72 := Tryz.zeroValue77
  t75 := Tryz.underlying80
  a75 := Tryz.isAgg80
  z75 := Tryz.sizeOf80
  v75 := Tryz.zeroValue80
  t76 := Tryz.underlying81
  a76 := Tryz.isAgg81
  z76 := Tryz.sizeOf81
  v76 := Tryz.zeroValue81
  t127 := Tryz.underlying90
  a127 := Tryz.isAgg90
  z127 := Tryz.sizeOf90
  v127 := Tryz.zeroValue90
  t164 := Tryz.underlying93
  a164 := Tryz.isAgg93
  z164 := Tryz.sizeOf93
  v164 := Tryz.zeroValue93 }
theorem Tryz.Builder_Extra_156 : Builder.Extra Tryz.prog Tryz.lays156_ren := {
  sizeBuilder := by kernel_rfl
  liesBuilder := by kernel_rfl
  t5 := Tryz.underlying5
  a5 := Tryz.isAgg5
  z5 := Tryz.sizeOf5
  v5 := Tryz.zeroValue5
  infoByte := by kernel_rfl
  cellsByte := by kernel_rfl
  sizeByte := by kernel_rfl
  neB5 := by decide }
open Go.RowKit in
/-- No element: the empty string; the world is as it was. (Whatever the slice's address and capacity: a nil slice too.) (LAID: no walk: one application.) -/
theorem Tryz.strings_Join_none (a : Option Addr) (c : Nat) (sep : ByteArray) (w : World) :
    Calls Tryz.prog 35 #[.slice a 0 c, .string sep] w fun e w' => e = .returned (.string ⟨#[]⟩) ∧ w' = w := Any.strings_Join_none Tryz.lays156 Tryz.Builder_Extra_156 a c sep w
open Go.RowKit in
/-- strings.Join: "Join concatenates the elements of its first argument to create a single string. The separator string sep is placed between elements in the resulting string.": HOWEVER MANY ELEMENTS. Below the heap's end the world is as it was. (LAID: no walk: one application.) -/
theorem Tryz.strings_Join (bk o c : Nat) (xs : List ByteArray) (sep : ByteArray) (w : World) (hcells : ∀ (j : Nat) x, xs[j]? = some x → w.cell? ⟨bk, o + j, none⟩ = some (.string x)) (hbk : bk < w.heap.size) (hN : xs.length ≤ 140737488355328) (hcap : xs.length ≤ c) (hlen : (Lib.join (xs.map (·.data.toList)) sep.data.toList).length ≤ 140737488355328) :
    Calls Tryz.prog 35 #[.slice (some ⟨bk, o, none⟩) xs.length c, .string sep] w fun e w' => e = .returned (.string ⟨(Lib.join (xs.map (·.data.toList)) sep.data.toList).toArray⟩) ∧ Below w.heap.size w w' := Any.strings_Join Tryz.lays156 Tryz.Builder_Extra_156 bk o c xs sep w hcells hbk hN hcap hlen
def Tryz.lays210_ren : Go.Shelf.Ren := ⟨fun | 210 => 45 | 206 => 64 | n => n, fun | 9 => 9 | 4 => 4 | 3 => 3 | n => n, fun | n => n⟩
theorem Tryz.lays210 : Go.Proofs.Lays.n210 Tryz.prog Tryz.lays210_ren := {
  mixed := by kernel_rfl
  f206 := Tryz.func64.trans (congrArg some (by kernel_rfl))
  f210 := Tryz.func45.trans (congrArg some (by kernel_rfl))
  t3 := Tryz.underlying3
  a3 := Tryz.isAgg3
  z3 := Tryz.sizeOf3
  v3 := Tryz.zeroValue3
  t4 := Tryz.underlying4
  a4 := Tryz.isAgg4
  z4 := Tryz.sizeOf4
  v4 := Tryz.zeroValue4
  t9 := Tryz.underlying9
  a9 := Tryz.isAgg9
  z9 := Tryz.sizeOf9
  v9 := Tryz.zeroValue9 }
open Go.RowKit in
/-- internal/stringslite.CutPrefix (what strings.CutPrefix calls). (LAID: no walk: one application.) -/
theorem Tryz.stringslite_CutPrefix (s p : ByteArray) (w : World) :
    Calls Tryz.prog 45 #[.string s, .string p] w fun e w' => e = .returned (.tuple #[.string ⟨(Lib.trimPrefix s.data.toList p.data.toList).toArray⟩, .bool (Lib.hasPrefix s.data.toList p.data.toList)]) ∧ w' = w := Any.stringslite_CutPrefix Tryz.lays210 s p w
def Tryz.lays103_ren : Go.Shelf.Ren := ⟨fun | 103 => 25 | 210 => 45 | 206 => 64 | n => n, fun | 9 => 9 | 4 => 4 | 24 => 27 | 3 => 3 | n => n, fun | n => n⟩
theorem Tryz.lays103 : Go.Proofs.Lays.n103 Tryz.prog Tryz.lays103_ren := {
  mixed := by kernel_rfl
  f103 := Tryz.func25.trans (congrArg some (by kernel_rfl))
  f206 := Tryz.func64.trans (congrArg some (by kernel_rfl))
  f210 := Tryz.func45.trans (congrArg some (by kernel_rfl))
  t3 := Tryz.underlying3
  a3 := Tryz.isAgg3
  z3 := Tryz.sizeOf3
  v3 := Tryz.zeroValue3
  t4 := Tryz.underlying4
  a4 := Tryz.isAgg4
  z4 := Tryz.sizeOf4
  v4 := Tryz.zeroValue4
  t9 := Tryz.underlying9
  a9 := Tryz.isAgg9
  z9 := Tryz.sizeOf9
  v9 := Tryz.zeroValue9
  t24 := Tryz.underlying27
  a24 := Tryz.isAgg27
  z24 := Tryz.sizeOf27
  v24 := Tryz.zeroValue27 }
open Go.RowKit in
/-- strings.CutPrefix: "CutPrefix returns s without the provided leading prefix string and reports whether it found the prefix. If s doesn't start with prefix, CutPrefix returns s, false. If prefix is the empty string, CutPrefix returns s, true.": IT RETURNS '(Lib.trimPrefix s p, Lib.hasPrefix s p)'; the world is as it was. (LAID: no walk: one application.) -/
theorem Tryz.strings_CutPrefix (s p : ByteArray) (w : World) :
    Calls Tryz.prog 25 #[.string s, .string p] w fun e w' => e = .returned (.tuple #[.string ⟨(Lib.trimPrefix s.data.toList p.data.toList).toArray⟩, .bool (Lib.hasPrefix s.data.toList p.data.toList)]) ∧ w' = w := Any.strings_CutPrefix Tryz.lays103 s p w
def Tryz.laysM171_ren : Go.Shelf.Ren := ⟨fun | 171 => 61 | 243 => 71 | 246 => 80 | 283 => 88 | 284 => 89 | 285 => 90 | 286 => 91 | 129 => 96 | 317 => 95 | 318 => 97 | 319 => 98 | 320 => 99 | 337 => 102 | 338 => 103 | n => n, fun | 3 => 3 | 9 => 9 | 2 => 2 | 4 => 4 | 171 => 107 | 0 => 0 | 53 => 46 | 37 => 22 | 5 => 5 | 173 => 110 | 212 => 119 | 51 => 104 | 20 => 20 | 213 => 120 | 46 => 72 | 232 => 127 | 233 => 128 | n => n, fun | 17 => 3 | 18 => 4 | 19 => 5 | n => n⟩
theorem Tryz.laysM171 : Go.Proofs.LaysM.n171 Tryz.prog Tryz.laysM171_ren := {
  mixed := by kernel_rfl
  f129 := Tryz.func96.trans (congrArg some (by kernel_rfl))
  f171 := Tryz.func61.trans (congrArg some (by kernel_rfl))
  f243 := Tryz.func71.trans (congrArg some (by kernel_rfl))
  f246 := Tryz.func80.trans (congrArg some (by kernel_rfl))
  f283 := Tryz.func88.trans (congrArg some (by kernel_rfl))
  f284 := Tryz.func89.trans (congrArg some (by kernel_rfl))
  f285 := Tryz.func90.trans (congrArg some (by kernel_rfl))
  f286 := Tryz.func91.trans (congrArg some (by kernel_rfl))
  f317 := Tryz.func95.trans (congrArg some (by kernel_rfl))
  f318 := Tryz.func97.trans (congrArg some (by kernel_rfl))
  f319 := Tryz.func98.trans (congrArg some (by kernel_rfl))
  f320 := Tryz.func99.trans (congrArg some (by kernel_rfl))
  f337 := Tryz.func102.trans (congrArg some (by kernel_rfl))
  f338 := Tryz.func103.trans (congrArg some (by kernel_rfl))
  t0 := Tryz.underlying0
  a0 := Tryz.isAgg0
  z0 := Tryz.sizeOf0
  v0 := Tryz.zeroValue0
  t2 := Tryz.underlying2
  a2 := Tryz.isAgg2
  z2 := Tryz.sizeOf2
  v2 := Tryz.zeroValue2
  t3 := Tryz.underlying3
  a3 := Tryz.isAgg3
  z3 := Tryz.sizeOf3
  v3 := Tryz.zeroValue3
  t4 := Tryz.underlying4
  a4 := Tryz.isAgg4
  z4 := Tryz.sizeOf4
  v4 := Tryz.zeroValue4
  t5 := Tryz.underlying5
  a5 := Tryz.isAgg5
  z5 := Tryz.sizeOf5
  v5 := Tryz.zeroValue5
  t9 := Tryz.underlying9
  a9 := Tryz.isAgg9
  z9 := Tryz.sizeOf9
  v9 := Tryz.zeroValue9
  t20 := Tryz.underlying20
  a20 := Tryz.isAgg20
  z20 := Tryz.sizeOf20
  v20 := Tryz.zeroValue20
  t37 := Tryz.underlying22
  a37 := Tryz.isAgg22
  z37 := Tryz.sizeOf22
  v37 := Tryz.zeroValue22
  t46 := Tryz.underlying72
  a46 := Tryz.isAgg72
  z46 := Tryz.sizeOf72
  v46 := Tryz.zeroValue72
  t51 := Tryz.underlying104
  a51 := Tryz.isAgg104
  z51 := Tryz.sizeOf104
  v51 := Tryz.zeroValue104
  t53 := Tryz.underlying46
  a53 := Tryz.isAgg46
  z53 := Tryz.sizeOf46
  v53 := Tryz.zeroValue46
  t171 := Tryz.underlying107
  a171 := Tryz.isAgg107
  z171 := Tryz.sizeOf107
  v171 := Tryz.zeroValue107
  t173 := Tryz.underlying110
  a173 := Tryz.isAgg110
  z173 := Tryz.sizeOf110
  v173 := Tryz.zeroValue110
  t212 := Tryz.underlying119
  a212 := Tryz.isAgg119
  z212 := Tryz.sizeOf119
  v212 := Tryz.zeroValue119
  t213 := Tryz.underlying120
  a213 := Tryz.isAgg120
  z213 := Tryz.sizeOf120
  t232 := Tryz.underlying127
  a232 := Tryz.isAgg127
  z232 := Tryz.sizeOf127
  v232 := Tryz.zeroValue127
  t233 := Tryz.underlying128
  a233 := Tryz.isAgg128
  z233 := Tryz.sizeOf128
  v233 := Tryz.zeroValue128
  g17 := by kernel_rfl
  g18 := by kernel_rfl
  g19 := by kernel_rfl
  i0 := by kernel_rfl
  i2 := by kernel_rfl
  i3 := by kernel_rfl
  i4 := by kernel_rfl
  i5 := by kernel_rfl
  i9 := by kernel_rfl
  i20 := by kernel_rfl
  i37 := by kernel_rfl
  i46 := by kernel_rfl
  i51 := by kernel_rfl
  i53 := by kernel_rfl
  i171 := by kernel_rfl
  i173 := by kernel_rfl
  i212 := by kernel_rfl
  i232 := by kernel_rfl
  i233 := by kernel_rfl
  m17 := by kernel_rfl
  m18 := by kernel_rfl
  m19 := by kernel_rfl }
open Go.RowKit Go.Sort Go.Lib in
/-- strconv.Itoa: "Itoa is equivalent to FormatInt(int64(i), 10).": i's DECIMAL NUMERAL ('Lib.itoa': a '-' where i is negative, then the digits), FOR EVERY int. The world behind the call: the world before it, new blocks behind the heap (the library's 'var a [24]byte'), draws. (LAID: no walk: one application.) -/
theorem Tryz.strconv_Itoa (n : Int) (h0 : -9223372036854775808 ≤ n) (h1 : n ≤ 9223372036854775807) (w : World) (htab : Lib.TabIs Tryz.prog w "internal/strconv.uint64pow10" .u64 Lib.pow10Tab) :
    Calls Tryz.prog 61 #[.int .i64 n] w fun e w' => e = .returned (.string ⟨(Lib.itoa n).toArray⟩) ∧ ∃ k os, w' = grow (w.drewN k) os := Any.strconv_Itoa Tryz.laysM171 n h0 h1 w htab
def Tryz.laysC172_ren : Go.Shelf.Ren := ⟨fun | 172 => 65 | 244 => 72 | 245 => 73 | 247 => 81 | 279 => 82 | 280 => 83 | 281 => 84 | 282 => 85 | 287 => 92 | 316 => 93 | 171 => 61 | 205 => 94 | 321 => 100 | 322 => 101 | 243 => 71 | 246 => 80 | 283 => 88 | 284 => 89 | 285 => 90 | 286 => 91 | 129 => 96 | 317 => 95 | 318 => 97 | 319 => 98 | 320 => 99 | 337 => 102 | 338 => 103 | n => n, fun | 9 => 9 | 3 => 3 | 75 => 80 | 76 => 81 | 4 => 4 | 5 => 5 | 167 => 98 | 37 => 22 | 0 => 0 | 85 => 99 | 2 => 2 | 168 => 101 | 53 => 46 | 175 => 112 | 46 => 72 | 210 => 116 | 127 => 90 | 145 => 125 | 143 => 123 | 21 => 21 | 171 => 107 | 173 => 110 | 212 => 119 | 51 => 104 | 20 => 20 | 213 => 120 | 232 => 127 | 233 => 128 | 80 => 69 | n => n, fun | 15 => 1 | 16 => 2 | 17 => 3 | 18 => 4 | 19 => 5 | n => n⟩
theorem Tryz.laysC172 : Go.Proofs.LaysC.n172 Tryz.prog Tryz.laysC172_ren := {
  mixed := by kernel_rfl
  f129 := Tryz.func96.trans (congrArg some (by kernel_rfl))
  f171 := Tryz.func61.trans (congrArg some (by kernel_rfl))
  f172 := Tryz.func65.trans (congrArg some (by kernel_rfl))
  f205 := Tryz.func94.trans (congrArg some (by kernel_rfl))
  f243 := Tryz.func71.trans (congrArg some (by kernel_rfl))
  f244 := Tryz.func72.trans (congrArg some (by kernel_rfl))
  f245 := Tryz.func73.trans (congrArg some (by kernel_rfl))
  f246 := Tryz.func80.trans (congrArg some (by kernel_rfl))
  f247 := Tryz.func81.trans (congrArg some (by kernel_rfl))
  f279 := Tryz.func82.trans (congrArg some (by kernel_rfl))
  f280 := Tryz.func83.trans (congrArg some (by kernel_rfl))
  f281 := Tryz.func84.trans (congrArg some (by kernel_rfl))
  f282 := Tryz.func85.trans (congrArg some (by kernel_rfl))
  f283 := Tryz.func88.trans (congrArg some (by kernel_rfl))
  f284 := Tryz.func89.trans (congrArg some (by kernel_rfl))
  f285 := Tryz.func90.trans (congrArg some (by kernel_rfl))
  f286 := Tryz.func91.trans (congrArg some (by kernel_rfl))
  f287 := Tryz.func92.trans (congrArg some (by kernel_rfl))
  f316 := Tryz.func93.trans (congrArg some (by kernel_rfl))
  f317 := Tryz.func95.trans (congrArg some (by kernel_rfl))
  f318 := Tryz.func97.trans (congrArg some (by kernel_rfl))
  f319 := Tryz.func98.trans (congrArg some (by kernel_rfl))
  f320 := Tryz.func99.trans (congrArg some (by kernel_rfl))
  f321 := Tryz.func100.trans (congrArg some (by kernel_rfl))
  f322 := Tryz.func101.trans (congrArg some (by kernel_rfl))
  f337 := Tryz.func102.trans (congrArg some (by kernel_rfl))
  f338 := Tryz.func103.trans (congrArg some (by kernel_rfl))
  t0 := Tryz.underlying0
  a0 := Tryz.isAgg0
  z0 := Tryz.sizeOf0
  v0 := Tryz.zeroValue0
  t2 := Tryz.underlying2
  a2 := Tryz.isAgg2
  z2 := Tryz.sizeOf2
  v2 := Tryz.zeroValue2
  t3 := Tryz.underlying3
  a3 := Tryz.isAgg3
  z3 := Tryz.sizeOf3
  v3 := Tryz.zeroValue3
  t4 := Tryz.underlying4
  a4 := Tryz.isAgg4
  z4 := Tryz.sizeOf4
  v4 := Tryz.zeroValue4
  t5 := Tryz.underlying5
  a5 := Tryz.isAgg5
  z5 := Tryz.sizeOf5
  v5 := Tryz.zeroValue5
  t9 := Tryz.underlying9
  a9 := Tryz.isAgg9
  z9 := Tryz.sizeOf9
  v9 := Tryz.zeroValue9
  t20 := Tryz.underlying20
  a20 := Tryz.isAgg20
  z20 := Tryz.sizeOf20
  v20 := Tryz.zeroValue20
  t21 := Tryz.underlying21
  a21 := Tryz.isAgg21
  z21 := Tryz.sizeOf21
  v21 := Tryz.zeroValue21
  t37 := Tryz.underlying22
  a37 := Tryz.isAgg22
  z37 := Tryz.sizeOf22
  v37 := Tryz.zeroValue22
  t46 := Tryz.underlying72
  a46 := Tryz.isAgg72
  z46 := Tryz.sizeOf72
  v46 := Tryz.zeroValue72
  t51 := Tryz.underlying104
  a51 := Tryz.isAgg104
  z51 := Tryz.sizeOf104
  v51 := Tryz.zeroValue104
  t53 := Tryz.underlying46
  a53 := Tryz.isAgg46
  z53 := Tryz.sizeOf46
  v53 := Tryz.zeroValue46
  t75 := Tryz.underlying80
  a75 := Tryz.isAgg80
  z75 := Tryz.sizeOf80
  v75 := Tryz.zeroValue80
  t76 := Tryz.underlying81
  a76 := Tryz.isAgg81
  z76 := Tryz.sizeOf81
  v76 := Tryz.zeroValue81
  t85 := Tryz.underlying99
  a85 := Tryz.isAgg99
  z85 := Tryz.sizeOf99
  v85 := Tryz.zeroValue99
  t127 := Tryz.underlying90
  a127 := Tryz.isAgg90
  z127 := Tryz.sizeOf90
  v127 := Tryz.zeroValue90
  t143 := Tryz.underlying123
  a143 := Tryz.isAgg123
  z143 := Tryz.sizeOf123
  v143 := Tryz.zeroValue123
  t145 := Tryz.underlying125
  a145 := Tryz.isAgg125
  z145 := Tryz.sizeOf125
  v145 := Tryz.zeroValue125
  t167 := Tryz.underlying98
  a167 := Tryz.isAgg98
  z167 := Tryz.sizeOf98
  v167 := Tryz.zeroValue98
  t168 := Tryz.underlying101
  a168 := Tryz.isAgg101
  z168 := Tryz.sizeOf101
  v168 := Tryz.zeroValue101
  t171 := Tryz.underlying107
  a171 := Tryz.isAgg107
  z171 := Tryz.sizeOf107
  v171 := Tryz.zeroValue107
  t173 := Tryz.underlying110
  a173 := Tryz.isAgg110
  z173 := Tryz.sizeOf110
  v173 := Tryz.zeroValue110
  t175 := Tryz.underlying112
  a175 := Tryz.isAgg112
  z175 := Tryz.sizeOf112
  v175 := Tryz.zeroValue112
  t210 := Tryz.underlying116
  a210 := Tryz.isAgg116
  z210 := Tryz.sizeOf116
  v210 := Tryz.zeroValue116
  t212 := Tryz.underlying119
  a212 := Tryz.isAgg119
  z212 := Tryz.sizeOf119
  v212 := Tryz.zeroValue119
  t213 := Tryz.underlying120
  a213 := Tryz.isAgg120
  z213 := Tryz.sizeOf120
  t232 := Tryz.underlying127
  a232 := Tryz.isAgg127
  z232 := Tryz.sizeOf127
  v232 := Tryz.zeroValue127
  t233 := Tryz.underlying128
  a233 := Tryz.isAgg128
  z233 := Tryz.sizeOf128
  v233 := Tryz.zeroValue128
  g15 := by kernel_rfl
  g16 := by kernel_rfl
  g17 := by kernel_rfl
  g18 := by kernel_rfl
  g19 := by kernel_rfl
  t80 := Tryz.underlying69
  a80 := Tryz.isAgg69
  z80 := Tryz.sizeOf69
  v80 := Tryz.zeroValue69
  i0 := by kernel_rfl
  i2 := by kernel_rfl
  i3 := by kernel_rfl
  i4 := by kernel_rfl
  i5 := by kernel_rfl
  i9 := by kernel_rfl
  i20 := by kernel_rfl
  i21 := by kernel_rfl
  i37 := by kernel_rfl
  i46 := by kernel_rfl
  i51 := by kernel_rfl
  i53 := by kernel_rfl
  i75 := by kernel_rfl
  i76 := by kernel_rfl
  i80 := by kernel_rfl
  i85 := by kernel_rfl
  i127 := by kernel_rfl
  i143 := by kernel_rfl
  i145 := by kernel_rfl
  i167 := by kernel_rfl
  i168 := by kernel_rfl
  i171 := by kernel_rfl
  i173 := by kernel_rfl
  i175 := by kernel_rfl
  i210 := by kernel_rfl
  i212 := by kernel_rfl
  i232 := by kernel_rfl
  i233 := by kernel_rfl
  m15 := by kernel_rfl
  m16 := by kernel_rfl
  m17 := by kernel_rfl
  m18 := by kernel_rfl
  m19 := by kernel_rfl
  c0 := by kernel_rfl
  c2 := by kernel_rfl
  c3 := by kernel_rfl
  c4 := by kernel_rfl
  c5 := by kernel_rfl
  c9 := by kernel_rfl
  c20 := by kernel_rfl
  c21 := by kernel_rfl
  c37 := by kernel_rfl
  c46 := by kernel_rfl
  c51 := by kernel_rfl
  c53 := by kernel_rfl
  c75 := by kernel_rfl
  c76 := by kernel_rfl
  c80 := by kernel_rfl
  c85 := by kernel_rfl
  c127 := by kernel_rfl
  c143 := by kernel_rfl
  c145 := by kernel_rfl
  c167 := by kernel_rfl
  c168 := by kernel_rfl
  c171 := by kernel_rfl
  c173 := by kernel_rfl
  c175 := by kernel_rfl
  c210 := by kernel_rfl
  c212 := by kernel_rfl
  c213 := by kernel_rfl
  c232 := by kernel_rfl
  c233 := by kernel_rfl }
open Go.RowKit in
/-- strconv.Atoi, AT EVERY STRING THAT SPELLS AN int ('Lib.atoiAll .. = .ok v'; of whatever length: leading zeros count): v, AND NO ERROR. The world: as it was, or with the one new row that '[]byte(..)' lays. (LAID: no walk: one application.) -/
theorem Tryz.strconv_Atoi_ok (s : ByteArray) (hmax : s.size ≤ 9223372036854775806) (v : Int) (h : Lib.atoiAll s.data.toList = .ok v) (w : World) :
    Calls Tryz.prog 65 #[.string s] w fun e w' => e = .returned (.tuple #[.int .i64 v, .nilIface]) ∧ (w' = w ∨ ∃ t, w' = Lib.bytesWorld w 5 t) := Any.strconv_Atoi_ok Tryz.laysC172 s hmax v h w
open Go.RowKit in
theorem Tryz.strconv_Atoi_range_var (s : ByteArray) (hlim : s.size ≤ 281474976710656) (h : Lib.atoiAll s.data.toList = .range) (tp : TypeId) (p : Value) (w : World) (hvar : w.var? Tryz.prog "strconv.ErrRange" = some #[.iface tp p]) :
    Calls Tryz.prog 65 #[.string s] w fun e w' => ∃ N, e = .returned (.tuple #[.int .i64 (Lib.atoiSat s.data.toList), .iface 101 (.pointer (some ⟨N, 0, none⟩))]) ∧ w.heap.size ≤ N ∧ w'.heap[N]? = some (.cells #[.string ⟨#[65, 116, 111, 105]⟩, .string s, .iface tp p] 116 (0, 0)) ∧ Below w.heap.size w w' := Any.strconv_Atoi_range_var Tryz.laysC172 s hlim h tp p w hvar
def Tryz.lays219_ren : Go.Shelf.Ren := ⟨fun | 219 => 70 | 217 => 76 | 225 => 77 | 224 => 78 | 267 => 79 | 266 => 86 | 314 => 87 | n => n, fun | 9 => 9 | 3 => 3 | 4 => 4 | 5 => 5 | 46 => 72 | 146 => 105 | 51 => 104 | n => n, fun | 1 => 0 | n => n⟩
theorem Tryz.lays219 : Go.Proofs.Lays.n219 Tryz.prog Tryz.lays219_ren := {
  mixed := by kernel_rfl
  f217 := Tryz.func76.trans (congrArg some (by kernel_rfl))
  f219 := Tryz.func70.trans (congrArg some (by kernel_rfl))
  f224 := Tryz.func78.trans (congrArg some (by kernel_rfl))
  f225 := Tryz.func77.trans (congrArg some (by kernel_rfl))
  f266 := Tryz.func86.trans (congrArg some (by kernel_rfl))
  f267 := Tryz.func79.trans (congrArg some (by kernel_rfl))
  f314 := Tryz.func87.trans (congrArg some (by kernel_rfl))
  t3 := Tryz.underlying3
  a3 := Tryz.isAgg3
  z3 := Tryz.sizeOf3
  v3 := Tryz.zeroValue3
  t4 := Tryz.underlying4
  a4 := Tryz.isAgg4
  z4 := Tryz.sizeOf4
  v4 := Tryz.zeroValue4
  t5 := Tryz.underlying5
  a5 := Tryz.isAgg5
  z5 := Tryz.sizeOf5
  v5 := Tryz.zeroValue5
  t9 := Tryz.underlying9
  a9 := Tryz.isAgg9
  z9 := Tryz.sizeOf9
  v9 := Tryz.zeroValue9
  t46 := Tryz.underlying72
  a46 := Tryz.isAgg72
  z46 := Tryz.sizeOf72
  v46 := Tryz.zeroValue72
  t51 := Tryz.underlying104
  a51 := Tryz.isAgg104
  z51 := Tryz.sizeOf104
  v51 := Tryz.zeroValue104
  t146 := Tryz.underlying105
  a146 := Tryz.isAgg105
  z146 := Tryz.sizeOf105
  v146 := Tryz.zeroValue105
  g1 := by kernel_rfl }
open Go.RowKit Go.Lib in
/-- internal/stringslite.Index (what strings.Index calls) AT A substr OF WHATEVER LENGTH: IT RETURNS 'Lib.index s substr'; the world is as it was. 'm': what internal/bytealg.MaxLen holds: whatever. (LAID: no walk: one application.) -/
theorem Tryz.stringslite_Index (s sub : ByteArray) (m : Int) (w : World) (hs : s.size < 4294967281) (hm : w.cell? ⟨0, 0, none⟩ = some (.int .i64 m)) :
    Calls Tryz.prog 70 #[.string s, .string sub] w fun e w' => e = .returned (.int .i64 (Lib.index s.data.toList sub.data.toList)) ∧ w' = w := Any.stringslite_Index Tryz.lays219 s sub m w hs hm
def Tryz.lays220_ren : Go.Shelf.Ren := ⟨fun | 220 => 60 | 219 => 70 | 217 => 76 | 225 => 77 | 224 => 78 | 267 => 79 | 266 => 86 | 314 => 87 | n => n, fun | 9 => 9 | 4 => 4 | 3 => 3 | 5 => 5 | 46 => 72 | 146 => 105 | 51 => 104 | n => n, fun | 1 => 0 | n => n⟩
theorem Tryz.lays220 : Go.Proofs.Lays.n220 Tryz.prog Tryz.lays220_ren := {
  mixed := by kernel_rfl
  f217 := Tryz.func76.trans (congrArg some (by kernel_rfl))
  f219 := Tryz.func70.trans (congrArg some (by kernel_rfl))
  f220 := Tryz.func60.trans (congrArg some (by kernel_rfl))
  f224 := Tryz.func78.trans (congrArg some (by kernel_rfl))
  f225 := Tryz.func77.trans (congrArg some (by kernel_rfl))
  f266 := Tryz.func86.trans (congrArg some (by kernel_rfl))
  f267 := Tryz.func79.trans (congrArg some (by kernel_rfl))
  f314 := Tryz.func87.trans (congrArg some (by kernel_rfl))
  t3 := Tryz.underlying3
  a3 := Tryz.isAgg3
  z3 := Tryz.sizeOf3
  v3 := Tryz.zeroValue3
  t4 := Tryz.underlying4
  a4 := Tryz.isAgg4
  z4 := Tryz.sizeOf4
  v4 := Tryz.zeroValue4
  t5 := Tryz.underlying5
  a5 := Tryz.isAgg5
  z5 := Tryz.sizeOf5
  v5 := Tryz.zeroValue5
  t9 := Tryz.underlying9
  a9 := Tryz.isAgg9
  z9 := Tryz.sizeOf9
  v9 := Tryz.zeroValue9
  t46 := Tryz.underlying72
  a46 := Tryz.isAgg72
  z46 := Tryz.sizeOf72
  v46 := Tryz.zeroValue72
  t51 := Tryz.underlying104
  a51 := Tryz.isAgg104
  z51 := Tryz.sizeOf104
  v51 := Tryz.zeroValue104
  t146 := Tryz.underlying105
  a146 := Tryz.isAgg105
  z146 := Tryz.sizeOf105
  v146 := Tryz.zeroValue105
  g1 := by kernel_rfl }
open Go.RowKit Go.Lib in
/-- internal/stringslite.Cut (what strings.Cut calls): IT RETURNS 'Lib.cut s sep'; the world is as it was but for the count of draws. (LAID: no walk: one application.) -/
theorem Tryz.stringslite_Cut (s sep : ByteArray) (m : Int) (w : World) (hs : s.size < 4294967281) (hm : w.cell? ⟨0, 0, none⟩ = some (.int .i64 m)) :
    Calls Tryz.prog 60 #[.string s, .string sep] w fun e w' => e = .returned (.tuple #[.string ⟨(Lib.cut s.data.toList sep.data.toList).1.toArray⟩, .string ⟨(Lib.cut s.data.toList sep.data.toList).2.1.toArray⟩, .bool (Lib.cut s.data.toList sep.data.toList).2.2]) ∧ ∃ n, w' = w.drewN n := Any.stringslite_Cut Tryz.lays220 s sep m w hs hm
def Tryz.lays145_ren : Go.Shelf.Ren := ⟨fun | 145 => 37 | 220 => 60 | 219 => 70 | 217 => 76 | 225 => 77 | 224 => 78 | 267 => 79 | 266 => 86 | 314 => 87 | n => n, fun | 9 => 9 | 4 => 4 | 59 => 59 | 3 => 3 | 5 => 5 | 46 => 72 | 146 => 105 | 51 => 104 | n => n, fun | 1 => 0 | n => n⟩
theorem Tryz.lays145 : Go.Proofs.Lays.n145 Tryz.prog Tryz.lays145_ren := {
  mixed := by kernel_rfl
  f145 := Tryz.func37.trans (congrArg some (by kernel_rfl))
  f217 := Tryz.func76.trans (congrArg some (by kernel_rfl))
  f219 := Tryz.func70.trans (congrArg some (by kernel_rfl))
  f220 := Tryz.func60.trans (congrArg some (by kernel_rfl))
  f224 := Tryz.func78.trans (congrArg some (by kernel_rfl))
  f225 := Tryz.func77.trans (congrArg some (by kernel_rfl))
  f266 := Tryz.func86.trans (congrArg some (by kernel_rfl))
  f267 := Tryz.func79.trans (congrArg some (by kernel_rfl))
  f314 := Tryz.func87.trans (congrArg some (by kernel_rfl))
  t3 := Tryz.underlying3
  a3 := Tryz.isAgg3
  z3 := Tryz.sizeOf3
  v3 := Tryz.zeroValue3
  t4 := Tryz.underlying4
  a4 := Tryz.isAgg4
  z4 := Tryz.sizeOf4
  v4 := Tryz.zeroValue4
  t5 := Tryz.underlying5
  a5 := Tryz.isAgg5
  z5 := Tryz.sizeOf5
  v5 := Tryz.zeroValue5
  t9 := Tryz.underlying9
  a9 := Tryz.isAgg9
  z9 := Tryz.sizeOf9
  v9 := Tryz.zeroValue9
  t46 := Tryz.underlying72
  a46 := Tryz.isAgg72
  z46 := Tryz.sizeOf72
  v46 := Tryz.zeroValue72
  t51 := Tryz.underlying104
  a51 := Tryz.isAgg104
  z51 := Tryz.sizeOf104
  v51 := Tryz.zeroValue104
  t59 := Tryz.underlying59
  a59 := Tryz.isAgg59
  z59 := Tryz.sizeOf59
  v59 := Tryz.zeroValue59
  t146 := Tryz.underlying105
  a146 := Tryz.isAgg105
  z146 := Tryz.sizeOf105
  v146 := Tryz.zeroValue105
  g1 := by kernel_rfl }
open Go.RowKit Go.Lib in
/-- strings.Cut: "Cut slices s around the first instance of sep, returning the text before and after sep. The found result reports whether sep appears in s. If sep does not appear in s, cut returns s, "", false.": IT RETURNS 'Lib.cut s sep'; the world is as it was but for the count of draws. (LAID: no walk: one application.) -/
theorem Tryz.strings_Cut (s sep : ByteArray) (m : Int) (w : World) (hs : s.size < 4294967281) (hm : w.cell? ⟨0, 0, none⟩ = some (.int .i64 m)) :
    Calls Tryz.prog 37 #[.string s, .string sep] w fun e w' => e = .returned (.tuple #[.string ⟨(Lib.cut s.data.toList sep.data.toList).1.toArray⟩, .string ⟨(Lib.cut s.data.toList sep.data.toList).2.1.toArray⟩, .bool (Lib.cut s.data.toList sep.data.toList).2.2]) ∧ ∃ n, w' = w.drewN n := Any.strings_Cut Tryz.lays145 s sep m w hs hm
def Tryz.laysM219_ren : Go.Shelf.Ren := ⟨fun | 219 => 70 | 217 => 76 | 225 => 77 | 224 => 78 | 267 => 79 | 266 => 86 | 314 => 87 | n => n, fun | 9 => 9 | 3 => 3 | 4 => 4 | 5 => 5 | 46 => 72 | 146 => 105 | 51 => 104 | n => n, fun | 1 => 0 | n => n⟩
theorem Tryz.laysM219 : Go.Proofs.LaysM.n219 Tryz.prog Tryz.laysM219_ren := {
  mixed := by kernel_rfl
  f217 := Tryz.func76.trans (congrArg some (by kernel_rfl))
  f219 := Tryz.func70.trans (congrArg some (by kernel_rfl))
  f224 := Tryz.func78.trans (congrArg some (by kernel_rfl))
  f225 := Tryz.func77.trans (congrArg some (by kernel_rfl))
  f266 := Tryz.func86.trans (congrArg some (by kernel_rfl))
  f267 := Tryz.func79.trans (congrArg some (by kernel_rfl))
  f314 := Tryz.func87.trans (congrArg some (by kernel_rfl))
  t3 := Tryz.underlying3
  a3 := Tryz.isAgg3
  z3 := Tryz.sizeOf3
  v3 := Tryz.zeroValue3
  t4 := Tryz.underlying4
  a4 := Tryz.isAgg4
  z4 := Tryz.sizeOf4
  v4 := Tryz.zeroValue4
  t5 := Tryz.underlying5
  a5 := Tryz.isAgg5
  z5 := Tryz.sizeOf5
  v5 := Tryz.zeroValue5
  t9 := Tryz.underlying9
  a9 := Tryz.isAgg9
  z9 := Tryz.sizeOf9
  v9 := Tryz.zeroValue9
  t46 := Tryz.underlying72
  a46 := Tryz.isAgg72
  z46 := Tryz.sizeOf72
  v46 := Tryz.zeroValue72
  t51 := Tryz.underlying104
  a51 := Tryz.isAgg104
  z51 := Tryz.sizeOf104
  v51 := Tryz.zeroValue104
  t146 := Tryz.underlying105
  a146 := Tryz.isAgg105
  z146 := Tryz.sizeOf105
  v146 := Tryz.zeroValue105
  g1 := by kernel_rfl
  i3 := by kernel_rfl
  i4 := by kernel_rfl
  i5 := by kernel_rfl
  i9 := by kernel_rfl
  i46 := by kernel_rfl
  i51 := by kernel_rfl
  i146 := by kernel_rfl
  m1 := by kernel_rfl
  s1_3 := fun w h => Go.Proofs.cell_of_shapedOpen_int (zero := #[.int .i64 0]) (t := 3) h (of_decide_eq_true (by kernel_rfl)) (by kernel_rfl) rfl (by kernel_rfl) (by kernel_rfl) Tryz.underlying3 }
def Tryz.lays206_ren : Go.Shelf.Ren := ⟨fun | 206 => 64 | n => n, fun | 9 => 9 | 4 => 4 | 3 => 3 | n => n, fun | n => n⟩
theorem Tryz.lays206 : Go.Proofs.Lays.n206 Tryz.prog Tryz.lays206_ren := {
  mixed := by kernel_rfl
  f206 := Tryz.func64.trans (congrArg some (by kernel_rfl))
  t3 := Tryz.underlying3
  a3 := Tryz.isAgg3
  z3 := Tryz.sizeOf3
  v3 := Tryz.zeroValue3
  t4 := Tryz.underlying4
  a4 := Tryz.isAgg4
  z4 := Tryz.sizeOf4
  v4 := Tryz.zeroValue4
  t9 := Tryz.underlying9
  a9 := Tryz.isAgg9
  z9 := Tryz.sizeOf9
  v9 := Tryz.zeroValue9 }
open Go.RowKit Go.Lib in
/-- internal/stringslite.HasPrefix (what strings.HasPrefix calls). (LAID: no walk: one application.) -/
theorem Tryz.stringslite_HasPrefix (s p : ByteArray) (w : World) :
    Calls Tryz.prog 64 #[.string s, .string p] w fun e w' => e = .returned (.bool (Lib.hasPrefix s.data.toList p.data.toList)) ∧ w' = w := Any.stringslite_HasPrefix Tryz.lays206 s p w
def Tryz.lays229_ren : Go.Shelf.Ren := ⟨fun | 229 => 46 | n => n, fun | 9 => 9 | 40 => 65 | 31 => 57 | 152 => 85 | 3 => 3 | 0 => 0 | 4 => 4 | 21 => 21 | 154 => 87 | n => n, fun | n => n⟩
theorem Tryz.lays229 : Go.Proofs.Lays.n229 Tryz.prog Tryz.lays229_ren := {
  mixed := by kernel_rfl
  f229 := Tryz.func46.trans (congrArg some (by kernel_rfl))
  t0 := Tryz.underlying0
  a0 := Tryz.isAgg0
  z0 := Tryz.sizeOf0
  v0 := Tryz.zeroValue0
  t3 := Tryz.underlying3
  a3 := Tryz.isAgg3
  z3 := Tryz.sizeOf3
  v3 := Tryz.zeroValue3
  t4 := Tryz.underlying4
  a4 := Tryz.isAgg4
  z4 := Tryz.sizeOf4
  v4 := Tryz.zeroValue4
  t9 := Tryz.underlying9
  a9 := Tryz.isAgg9
  z9 := Tryz.sizeOf9
  v9 := Tryz.zeroValue9
  t21 := Tryz.underlying21
  a21 := Tryz.isAgg21
  z21 := Tryz.sizeOf21
  v21 := Tryz.zeroValue21
  t31 := Tryz.underlying57
  a31 := Tryz.isAgg57
  z31 := Tryz.sizeOf57
  v31 := Tryz.zeroValue57
  t40 := Tryz.underlying65
  a40 := Tryz.isAgg65
  z40 := Tryz.sizeOf65
  v40 := Tryz.zeroValue65
  t152 := Tryz.underlying85
  a152 := Tryz.isAgg85
  z152 := Tryz.sizeOf85
  v152 := Tryz.zeroValue85
  t154 := Tryz.underlying87
  a154 := Tryz.isAgg87
  z154 := Tryz.sizeOf87
  v154 := Tryz.zeroValue87 }
open Go.RowKit Go.Lib in
/-- .. over a hand of the authors' house's premise as it stands. (LAID: no walk: one application.) -/
theorem Tryz.strings_FieldsFunc (g : Nat) (lb : Array Value) (eg : ∀ args w, (callFunc g args).run Tryz.prog w = .ok (.enter g args) w) (p : Nat → Bool) (s : ByteArray) (w : World) (hs : s.size ≤ 4294967296) (hp : PredAt Tryz.prog g lb encR p w) :
    Calls Tryz.prog 46 #[.string s, .func (.func g) #[] lb] w fun e w' => ∃ A, e = .returned (.slice (some ⟨A, 0, none⟩) (Lib.goFieldsP p s).length (Lib.goFieldsP p s).length) ∧ w.heap.size ≤ A ∧
      w'.ownsRow w.heap.size 9 1 (.slice (some ⟨A, 0, none⟩) (Lib.goFieldsP p s).length (Lib.goFieldsP p s).length) (Lib.goFieldsP p s).length ((Lib.goFieldsP p s).map Value.string) ∧ Below w.heap.size w w' := Any.strings_FieldsFunc Tryz.lays229 g lb eg p s w hs hp (by kernel_rfl) (by kernel_rfl)
open Go.RowKit Go.Lib in
theorem Tryz.strings_FieldsFunc_grows (g : Nat) (lb : Array Value) (eg : ∀ args w, (callFunc g args).run Tryz.prog w = .ok (.enter g args) w) (p : Nat → Bool) (s : ByteArray) (w : World) (hs : s.size ≤ 4294967296) (hp : PredGrows Tryz.prog g lb p w) :
    Calls Tryz.prog 46 #[.string s, .func (.func g) #[] lb] w fun e w' => ∃ A, e = .returned (.slice (some ⟨A, 0, none⟩) (Lib.goFieldsP p s).length (Lib.goFieldsP p s).length) ∧ w.heap.size ≤ A ∧
      w'.ownsRow w.heap.size 9 1 (.slice (some ⟨A, 0, none⟩) (Lib.goFieldsP p s).length (Lib.goFieldsP p s).length) (Lib.goFieldsP p s).length ((Lib.goFieldsP p s).map Value.string) ∧ Below w.heap.size w w' := Any.strings_FieldsFunc_grows Tryz.lays229 g lb eg p s w hs hp (by kernel_rfl) (by kernel_rfl)
end Go.Proofs

namespace Go.Proofs.YtghnljoaklmakaaGreatDoor.X
open Go.RowKit Go.Proofs.YtghnljoaklmakaaGreatDoorW.PrintWords Go.Proofs.YtghnljoaklmakaaGreatDoorW.PrintLast Go.Proofs.YtghnljoaklmakaaGreatDoorW.PrintMore
attribute [local go_sem] Ei Eh Ez Ey D7 D6 Ej Eg
open Go.Proofs.YtghnljoaklmakaaGreatDoorG
def Ho.f (a0 : Int) : Option ByteArray := if -9223372036854775808 ≤ a0 ∧ a0 ≤ 9223372036854775807 then some ⟨(Lib.itoa a0).toArray⟩ else none
theorem Ho.calls (a0 : Int) (r : ByteArray) (w : World) (hG : Fp w) (h : Ho.f a0 = some r) :
  Calls Tryz.prog 61 #[.int .i64 a0] w fun e w' => e = .returned (.string r) ∧ Below w.heap.size w w' := by
 unfold Ho.f at h
 split at h
 ·rename_i hc
  simp only [Option.some.injEq] at h
  subst h
  refine (Go.Proofs.Tryz.strconv_Itoa a0 hc.1 hc.2 w hG.tab).mono ?_
  rintro e w' ⟨rfl, k, os, rfl⟩
  exact ⟨rfl, Lib.below_grow _ w (Nat.le_refl _) k os⟩
 ·cases h
def Fh.f (a0 : Int) : Option (ByteArray) := (Ho.f a0).bind fun t231 => (some t231)
set_option maxHeartbeats 8000000 in
set_option maxRecDepth 100000 in
theorem Fh.calls (a0 : Int) (r : ByteArray) (w : World) (hG : Fp w) (h : Fh.f a0 = some r) :
  Calls Tryz.prog 38 #[.int .i64 a0] w fun e w' => e = .returned (.string r) ∧ Below w.heap.size w w' := by
 have HGL := Ac.mk hG
 clear hG
 have HB := Ac.mk (Below.refl w.heap.size w)
 have H : ((Ho.f a0).bind fun t231 => (some t231)) = some r := h
 clear h
 replace H := Option.bind_eq_some_iff.mp H
 obtain ⟨t231, A20, H⟩ := H
 try dsimp only at H
 have A2 := Ac.mk A20
 clear A20
 obtain rfl := Option.some.inj H
 go_enter Tryz.func38, Tryz.ntmps38
 go_wp2_with (first | ((with_reducible refine Ap (f := 61) rfl ?_); refine Bj (some 4) rfl rfl Tryz.func61 (by kernel_rfl) rfl #[.int .i64 a0] rfl Ya_ ?_; (with_reducible refine (Ho.calls a0 t231 _ ?side1 A2.out).mono ?_); (case side1 => exact Fp.below HGL.out Yb_); rintro e w3 ⟨rfl, hb⟩; refine ⟨_, rfl, ?_⟩; have n0_ := Ac.mk (Ar Yb_ hb); clear HB; have HB := n0_; clear n0_; (try clear hb); (try clear hb2); (try clear hk); (try clear hi)))
 go_ret
 exact ⟨by first | rfl | (simp [Au, Aw] <;> rfl) | (simp [*, Au, Aw] <;> rfl), by repeat (first | (with_reducible first | exact HB.out | apply Ae | apply Aa | apply Ad) | exact HB.out)⟩
def Dx.f (a0 : Int) (a1 : Int) (a2 : Int) : Option (Bool) := if a0 ≥ a1 then (some (decide (a0 ≤ a2))) else (some false)
set_option maxHeartbeats 8000000 in
set_option maxRecDepth 100000 in
theorem Dx.calls (a0 : Int) (a1 : Int) (a2 : Int) (r : Bool) (w : World) (h : Dx.f a0 a1 a2 = some r) :
  Calls Tryz.prog 24 #[.int .i64 a0, .int .i64 a1, .int .i64 a2] w fun e w' => e = .returned (.bool r) ∧ C9 w w' := by
 have H : (if a0 ≥ a1 then (some (decide (a0 ≤ a2))) else (some false)) = some r := h
 clear h
 by_cases c4 : a0 ≥ a1
 ·rw [if_pos c4] at H
  have c4b0 : decide (a1 ≤ a0) = true := decide_eq_true c4
  clear c4
  obtain rfl := Option.some.inj H
  go_enter Tryz.func24, Tryz.ntmps24
  go_wp2
  go_ret
  exact ⟨by first | rfl | (simp; done) | (simp [*]; done), by repeat (first | exact C9.refl _ | apply C9.step)⟩
 ·rw [if_neg c4] at H
  have c4b0 : decide (a1 ≤ a0) = false := decide_eq_false c4
  clear c4
  obtain rfl := Option.some.inj H
  go_enter Tryz.func24, Tryz.ntmps24
  go_wp2
  go_ret
  exact ⟨by first | rfl | (simp; done) | (simp [*]; done), by repeat (first | exact C9.refl _ | apply C9.step)⟩
/-- Texts side by side, with a text between. -/
def joinB (l : List ByteArray) (s : ByteArray) : ByteArray := ⟨(Lib.join (l.map (·.data.toList)) s.data.toList).toArray⟩
/-- At a block's start, or nowhere. -/
def Plain (A : Option Addr) : Prop := ∀ ad, A = some ad → ad.spot = none
theorem plain_of {e : Nat} {w : World} {base : Nat} {ok : Nat → Prop} {A : Option Addr} {n c : Nat} {xs : List ByteArray} (h : Ac (Kd.R Kd.string e w base ok (.slice A n c) xs)) : Plain A := by
 intro ad he
 subst he
 rcases (Kd.own_of_R h.out).2 with ⟨h1, _⟩ | ⟨g', cap', cur, hv, _⟩
 ·cases h1
 ·cases hv; rfl
def strings_Join.f (l0 : List ByteArray) (a1 : ByteArray) : Option ByteArray := if l0.length ≤ 1048576 ∧ (joinB l0 a1).size ≤ 140737488355328 then some (joinB l0 a1) else none
theorem strings_Join.calls (A0 : Option Addr) (c0 : Nat) (l0 : List ByteArray) (a1 : ByteArray) (r : ByteArray) (w : World) (hr0 : Kd.C Kd.string w A0 l0.length l0) (hc0 : l0.length ≤ c0) (h : strings_Join.f l0 a1 = some r) (hs : Plain A0 := by first | assumption | exact plain_of (by assumption) | (intro ad_ he_; cases he_; rfl)) :
  Calls Tryz.prog 35 #[.slice A0 l0.length c0, .string a1] w fun e w' => e = .returned (.string r) ∧ Below w.heap.size w w' := by
 unfold strings_Join.f at h
 split at h
 ·rename_i hc
  simp only [Option.some.injEq] at h
  subst h
  rcases Nat.eq_zero_or_pos l0.length with hz | hp
  ·obtain rfl : l0 = [] := List.eq_nil_of_length_eq_zero hz
   refine (Go.Proofs.Tryz.strings_Join_none A0 c0 a1 w).mono ?_
   rintro e w' ⟨rfl, rfl⟩
   exact ⟨rfl, Below.refl _ _⟩
  ·obtain ⟨ad, rfl, hx⟩ := hr0.2.2 hp
   have hsp := hs ad rfl
   obtain ⟨bk, o, sp⟩ := ad
   simp only at hsp
   subst hsp
   have hcell : ∀ (j : Nat) x, l0[j]? = some x → w.cell? ⟨bk, o + j, none⟩ = some (.string x) := fun j x hj => by
    obtain ⟨c, hl, hk, hcc⟩ := hx j x hj
    have hk' : c = [.string x] := hk
    subst hk'
    have := hcc 0 _ rfl
    rw [show j * Kd.string.sz + 0 = j from by show j * 1 + 0 = j; omega] at this
    rw [← this]
    unfold Addr.add
    by_cases z : j = 0
    ·subst z; rfl
    ·rw [if_neg z]
   have hlt : bk < w.heap.size := by
    have := hcell 0 _ (List.getElem?_eq_getElem hp)
    exact World.block_lt_of_cell? w _ this
   refine (Go.Proofs.Tryz.strings_Join bk o c0 l0 a1 w hcell hlt (by omega) hc0 ?_).mono ?_
   ·have := hc.2
    simpa [joinB, ByteArray.size] using this
   ·rintro e w' ⟨rfl, hb⟩
    exact ⟨rfl, hb⟩
 ·cases h
def D9.l0 : Nat → Int → List ByteArray → List ByteArray → Int → Int → Option (ByteArray × Bool)
 | 0, _, _, _, _, _ => none
 | k + 1, x0, x4, x11, x12, x13 => if x13 < x12 then (if 0 ≤ x13 then (if x13 < (x11.length : Int) then (if (Go.bits .and .i64 (shr .i64 x0 x13) 1) = 1 then (if x4.length < 8796093022208 then (D9.l0 k x0 (x4 ++ [rdOf ByteArray.empty x11 x13]) x11 x12 (wrap64 (x13 + 1))) else (none)) else (D9.l0 k x0 x4 x11 x12 (wrap64 (x13 + 1)))) else (none)) else (none)) else (if (x4.length : Int) = 0 then (some ((⟨#[110, 111, 110, 101]⟩ : ByteArray), true)) else ((strings_Join.f x4 (⟨#[44, 32]⟩ : ByteArray)).bind fun t243 => (some (t243, true))))
def D9.f (k : Nat) (a0 : Int) : Option (ByteArray × Bool) := (Dx.f a0 0 15).bind fun t232 => (if t232 = true then ((some (([(⟨#[100, 111, 99, 117, 109, 101, 110, 116, 115]⟩ : ByteArray), (⟨#[105, 110, 115, 112, 101, 99, 116, 105, 111, 110]⟩ : ByteArray), (⟨#[100, 117, 116, 105, 101, 115]⟩ : ByteArray), (⟨#[113, 117, 97, 114, 97, 110, 116, 105, 110, 101]⟩ : ByteArray)] : List ByteArray) : List ByteArray)).bind fun y236 => (D9.l0 k a0 (([] : List ByteArray)) y236 (y236.length : Int) 0)) else (some ((⟨#[]⟩ : ByteArray), false)))
theorem D9.Fa : ∀ k, (∀ y0 y1 y2 y3 y4, LeO (D9.l0 k y0 y1 y2 y3 y4) (D9.l0 (k + 1) y0 y1 y2 y3 y4))
 | 0 => fun _ _ _ _ _ r h => by simp [D9.l0] at h
 | k + 1 => by
  have ih0 := D9.Fa k
  ·intro y0 y1 y2 y3 y4
   unfold D9.l0
   repeat' first
   | (with_reducible exact ih0 _ _ _ _ _)
   | (with_reducible exact LeO.refl _)
   | (with_reducible exact LeO.none _)
   | (with_reducible refine LeO.ite ?_ ?_)
   | (with_reducible refine LeO.bind ?_ (fun _ => ?_))
   | exact ih0 _ _ _ _ _
   | exact LeO.none _
   | refine LeO.ite ?_ ?_
   | refine LeO.bind ?_ (fun _ => ?_)
theorem D9.mono : ∀ a0 k, LeO (D9.f k a0) (D9.f (k + 1) a0) := by
 intro a0 k
 have ih0 := D9.Fa k
 unfold D9.f
 repeat' first
   | (with_reducible exact ih0 _ _ _ _ _)
   | (with_reducible exact LeO.refl _)
   | (with_reducible exact LeO.none _)
   | (with_reducible refine LeO.ite ?_ ?_)
   | (with_reducible refine LeO.bind ?_ (fun _ => ?_))
   | exact ih0 _ _ _ _ _
   | exact LeO.none _
   | refine LeO.ite ?_ ?_
   | refine LeO.bind ?_ (fun _ => ?_)
set_option maxHeartbeats 8000000 in
set_option maxRecDepth 100000 in
theorem D9.calls (k : Nat) (a0 : Int) (r1 : ByteArray) (r2 : Bool) (w : World) (h : D9.f k a0 = some (r1, r2)) :
  Calls Tryz.prog 39 #[.int .i64 a0] w fun e w' => e = .returned (.tuple #[.string r1, .bool r2]) ∧ Below w.heap.size w w' := by
 have HB := Ac.mk (Below.refl w.heap.size w)
 have H : ((Dx.f a0 0 15).bind fun t232 => (if t232 = true then ((some (([(⟨#[100, 111, 99, 117, 109, 101, 110, 116, 115]⟩ : ByteArray), (⟨#[105, 110, 115, 112, 101, 99, 116, 105, 111, 110]⟩ : ByteArray), (⟨#[100, 117, 116, 105, 101, 115]⟩ : ByteArray), (⟨#[113, 117, 97, 114, 97, 110, 116, 105, 110, 101]⟩ : ByteArray)] : List ByteArray) : List ByteArray)).bind fun y236 => (D9.l0 k a0 (([] : List ByteArray)) y236 (y236.length : Int) 0)) else (some ((⟨#[]⟩ : ByteArray), false)))) = some (r1, r2) := h
 clear h
 replace H := Option.bind_eq_some_iff.mp H
 obtain ⟨t232, A20, H⟩ := H
 try dsimp only at H
 have A2 := Ac.mk A20
 clear A20
 by_cases c3 : t232 = true
 ·subst c3
  have H1 : ((some (([(⟨#[100, 111, 99, 117, 109, 101, 110, 116, 115]⟩ : ByteArray), (⟨#[105, 110, 115, 112, 101, 99, 116, 105, 111, 110]⟩ : ByteArray), (⟨#[100, 117, 116, 105, 101, 115]⟩ : ByteArray), (⟨#[113, 117, 97, 114, 97, 110, 116, 105, 110, 101]⟩ : ByteArray)] : List ByteArray) : List ByteArray)).bind fun y236 => (D9.l0 k a0 (([] : List ByteArray)) y236 (y236.length : Int) 0)) = some (r1, r2) := by rw [if_pos rfl] at H; exact H
  clear H
  have H := H1
  clear H1
  obtain ⟨y233, hy233⟩ : ∃ y_ : List ByteArray, y_ = (([] : List ByteArray)) := ⟨_, rfl⟩
  replace H : ((some (([(⟨#[100, 111, 99, 117, 109, 101, 110, 116, 115]⟩ : ByteArray), (⟨#[105, 110, 115, 112, 101, 99, 116, 105, 111, 110]⟩ : ByteArray), (⟨#[100, 117, 116, 105, 101, 115]⟩ : ByteArray), (⟨#[113, 117, 97, 114, 97, 110, 116, 105, 110, 101]⟩ : ByteArray)] : List ByteArray) : List ByteArray)).bind fun y236 => (D9.l0 k a0 y233 y236 (y236.length : Int) 0)) = some (r1, r2) := by first | (rw [hy233]; with_reducible exact H) | (have H2_ := (Option.bind_some _ _).symm.trans H; rw [hy233]; with_reducible exact H2_) | (have H2_ := (Option.bind_some _ _).symm.trans H; with_reducible exact H2_) | with_reducible exact H | (rw [hy233]; exact H) | exact H
  have Ny233 := Ac.mk hy233
  clear hy233
  obtain ⟨y236, hy236⟩ : ∃ y_ : List ByteArray, y_ = (([(⟨#[100, 111, 99, 117, 109, 101, 110, 116, 115]⟩ : ByteArray), (⟨#[105, 110, 115, 112, 101, 99, 116, 105, 111, 110]⟩ : ByteArray), (⟨#[100, 117, 116, 105, 101, 115]⟩ : ByteArray), (⟨#[113, 117, 97, 114, 97, 110, 116, 105, 110, 101]⟩ : ByteArray)] : List ByteArray)) := ⟨_, rfl⟩
  replace H : (D9.l0 k a0 y233 y236 (y236.length : Int) 0) = some (r1, r2) := by first | (rw [hy236]; with_reducible exact H) | (have H2_ := (Option.bind_some _ _).symm.trans H; rw [hy236]; with_reducible exact H2_) | (have H2_ := (Option.bind_some _ _).symm.trans H; with_reducible exact H2_) | with_reducible exact H | (rw [hy236]; exact H) | exact H
  have Ny236 := Ac.mk hy236
  clear hy236
  have H' := Ac.mk H
  clear H
  go_enter Tryz.func39, Tryz.ntmps39
  go_wp2_with (first | ((with_reducible refine Ap (f := 24) rfl ?_); refine Bj (some 8) rfl rfl Tryz.func24 (by kernel_rfl) rfl #[.int .i64 a0, .int .i64 0, .int .i64 15] rfl Ya_ ?_; (with_reducible refine (Dx.calls a0 0 15 true _ A2.out).mono ?_); rintro e w' ⟨rfl, ⟨nd, rfl⟩⟩; refine ⟨_, rfl, ?_⟩) | ((with_reducible refine Dl (N := 10) rfl ?_); refine Kd.Hz Kd.string _ 9 ?hg (N := 10) ?hd (xs := ([] : List ByteArray)) (inner := []) (ok := fun _ => True) (okp := fun _ => True) ?hr ?hp (fun _ hk => hk) trivial (Below.refl _ _) (Nat.le_refl _) (by simp) ?_; (case hd => rfl); (case hg => rfl); (case hr => first | (go_simp; done) | (go_simp; rfl)); (case hp => exact (Ed.none _ _)); intro v234 w4 ho5 hb hg_ hnew_; clear hg_ hnew_; (first | rw [← Ny233.out] at ho5 | (simp only [Int.reduceToNat] at ho5; rw [← Ny233.out] at ho5)); have n0_ := Ac.mk (Kd.Gg ho5 (Ba Yb_)); have n1_ := Ac.mk (Ar Yb_ hb); clear HB; have HO235 := n0_; have HB := n1_; clear n0_ n1_; clear hb ho5) | ((with_reducible refine Dl (N := 11) rfl ?_); refine Kd.Hz Kd.string _ 9 ?hg (N := 11) ?hd (xs := ([(⟨#[100, 111, 99, 117, 109, 101, 110, 116, 115]⟩ : ByteArray), (⟨#[105, 110, 115, 112, 101, 99, 116, 105, 111, 110]⟩ : ByteArray), (⟨#[100, 117, 116, 105, 101, 115]⟩ : ByteArray), (⟨#[113, 117, 97, 114, 97, 110, 116, 105, 110, 101]⟩ : ByteArray)] : List ByteArray)) (inner := [.string (⟨#[100, 111, 99, 117, 109, 101, 110, 116, 115]⟩ : ByteArray), .string (⟨#[105, 110, 115, 112, 101, 99, 116, 105, 111, 110]⟩ : ByteArray), .string (⟨#[100, 117, 116, 105, 101, 115]⟩ : ByteArray), .string (⟨#[113, 117, 97, 114, 97, 110, 116, 105, 110, 101]⟩ : ByteArray)]) (ok := fun _ => True) (okp := fun _ => True) ?hr ?hp (fun _ hk => hk) trivial (Below.refl _ _) (Nat.le_refl _) (by simp) ?_; (case hd => rfl); (case hg => rfl); (case hr => first | (go_simp; done) | (go_simp; rfl)); (case hp => exact (Ed.one (show Kd.M Kd.string _ _ _ (⟨#[100, 111, 99, 117, 109, 101, 110, 116, 115]⟩ : ByteArray) [.string (⟨#[100, 111, 99, 117, 109, 101, 110, 116, 115]⟩ : ByteArray)] from rfl) (Ed.one (show Kd.M Kd.string _ _ _ (⟨#[105, 110, 115, 112, 101, 99, 116, 105, 111, 110]⟩ : ByteArray) [.string (⟨#[105, 110, 115, 112, 101, 99, 116, 105, 111, 110]⟩ : ByteArray)] from rfl) (Ed.one (show Kd.M Kd.string _ _ _ (⟨#[100, 117, 116, 105, 101, 115]⟩ : ByteArray) [.string (⟨#[100, 117, 116, 105, 101, 115]⟩ : ByteArray)] from rfl) (Ed.one (show Kd.M Kd.string _ _ _ (⟨#[113, 117, 97, 114, 97, 110, 116, 105, 110, 101]⟩ : ByteArray) [.string (⟨#[113, 117, 97, 114, 97, 110, 116, 105, 110, 101]⟩ : ByteArray)] from rfl) (Ed.none _ _)))))); intro v237 w6 ho7 hb hg_ hnew_; clear hg_ hnew_; (first | rw [← Ny236.out] at ho7 | (simp only [Int.reduceToNat] at ho7; rw [← Ny236.out] at ho7)); have n0_ := Ac.mk (Kd.Iq (by (with_reducible repeat (first | apply Kd.Cb | apply Kd.Bz | apply Kd.Cm)); exact HO235.out) (Kd.R_base ho7) hb); have n1_ := Ac.mk (Kd.Gg (Kd.R_new' ho7 (Kd.R_lt (by (with_reducible repeat (first | apply Kd.Cb | apply Kd.Bz | apply Kd.Cm)); exact HO235.out))) (Ba Yb_)); have n2_ := Ac.mk (Ar Yb_ hb); clear HO235; clear HB; have HO235 := n0_; have HO238 := n1_; have HB := n2_; clear n0_ n1_ n2_; clear hb ho7; obtain ⟨Ao8, co8, eo8⟩ := Kd.Gh HO238.out; subst eo8))
  go_loopg [4, 13] k (fun kq v4 v13 w' => ∃ (x4_1 : List ByteArray) (x13_1 : Int), v13 = .int .i64 x13_1 ∧ Ac (D9.l0 kq a0 x4_1 y236 (y236.length : Int) x13_1 = some (r1, r2)) ∧ Ac (kq ≤ k) ∧ Ac (Kd.R Kd.string 9 w' w.heap.size (fun k_ => some k_ ≠ ((.slice Ao8 y236.length co8) : Value).ownBlock) v4 x4_1) ∧ Ac (Kd.R Kd.string 9 w' w.heap.size (fun k_ => some k_ ≠ (v4 : Value).ownBlock) (.slice Ao8 y236.length co8) y236) ∧ Ac (Below w.heap.size w w'))
  case atStart => exact ⟨(y233), (0), Yf_, H', ⟨Nat.le_refl _⟩, ⟨by (with_reducible repeat (first | apply Kd.Cb | apply Kd.Bz | apply Kd.Cm)); exact Kd.R_mono HO235.out (fun _ hk => hk.2)⟩, ⟨by (with_reducible repeat (first | apply Kd.Cb | apply Kd.Bz | apply Kd.Cm)); exact Kd.R_mono HO238.out (fun _ hk => hk.2)⟩, ⟨by repeat (first | (with_reducible first | exact HB.out | apply Ae | apply Aa | apply Ad) | exact HB.out)⟩⟩
  case round =>
   clear H'
   try clear c2; try clear p2; try clear c3
   obtain ⟨x4_1, x13_1, rfl, HA, HK1, HO_4, HO_11, HB⟩ := hrel
   cases gk with
   | zero => exact absurd HA.out (by simp [D9.l0])
   | succ k1 =>
    have H := HA.out
    clear HA
    simp only [D9.l0] at H
    by_cases c9 : x13_1 < (y236.length : Int)
    ·rw [if_pos c9] at H
     have c9b0 : decide (x13_1 < (y236.length : Int)) = true := decide_eq_true c9
     clear c9
     by_cases c10 : 0 ≤ x13_1
     ·rw [if_pos c10] at H
      have c10b0 : decide (0 ≤ x13_1) = true := decide_eq_true c10
      clear c10
      by_cases c11 : x13_1 < (y236.length : Int)
      ·rw [if_pos c11] at H
       have c11b0 : decide (x13_1 < (y236.length : Int)) = true := decide_eq_true c11
       clear c11
       have c12b0 := eq_true (of_decide_eq_true Ye_ : 0 ≤ x13_1)
       obtain ⟨ji13, hji13⟩ : ∃ j_ : Int, (shr .i64 a0 x13_1) = j_ := ⟨_, rfl⟩
       replace H : (if (Go.bits .and .i64 (ji13) 1) = 1 then (if x4_1.length < 8796093022208 then (D9.l0 k1 a0 (x4_1 ++ [rdOf ByteArray.empty y236 x13_1]) y236 (y236.length : Int) (wrap64 (x13_1 + 1))) else (none)) else (D9.l0 k1 a0 x4_1 y236 (y236.length : Int) (wrap64 (x13_1 + 1)))) = some (r1, r2) := by first | (rw [hji13] at H; exact H) | (simp only [hji13] at H ⊢; exact H)
       have hji13_ : (a0 / 2 ^ min x13_1.toNat 64) = ji13 := hji13
       have hji13z : x13_1 ≤ 64 → (a0 / 2 ^ x13_1.toNat) = ji13 := shr_small hji13
       by_cases c14 : (Go.bits .and .i64 (ji13) 1) = 1
       ·rw [if_pos c14] at H
        have c14b0 : ((Go.bits .and .i64 (ji13) 1) == 1) = true := beq_iff_eq.mpr c14
        have c14b1 : ((Go.bits .and .i64 (ji13) 1) != 1) = false := bne_eq_false_iff_eq.mpr c14
        clear c14
        by_cases c15 : x4_1.length < 8796093022208
        ·rw [if_pos c15] at H
         have LMc15 := Ac.mk c15
         clear c15
         obtain ⟨y240, hy240⟩ : ∃ y_ : List ByteArray, y_ = (x4_1 ++ [rdOf ByteArray.empty y236 x13_1]) := ⟨_, rfl⟩
         replace H : (D9.l0 k1 a0 y240 y236 (y236.length : Int) (wrap64 (x13_1 + 1))) = some (r1, r2) := by first | (rw [hy240]; with_reducible exact H) | (have H2_ := (Option.bind_some _ _).symm.trans H; rw [hy240]; with_reducible exact H2_) | (have H2_ := (Option.bind_some _ _).symm.trans H; with_reducible exact H2_) | with_reducible exact H | (rw [hy240]; exact H) | exact H
         have Ny240 := Ac.mk hy240
         clear hy240
         have H' := Ac.mk H
         clear H
         have p239 : 0 ≤ (x13_1 : Int) := of_decide_eq_true Ye_
         have q239 : x13_1 < (y236.length : Int) := of_decide_eq_true Ye_
         obtain ⟨ad239, e239, hx239_0⟩ := Kd.I8 (Kd.Ec HO_11.out).2.2 x13_1 p239 q239
         cases e239
         replace p239 := eq_true p239
         replace q239 := eq_true q239
         go_wp2_with (first | ((with_reducible refine Gz (b := .append) (xs := #[.tmp 23, .tmp 25]) rfl ?_); at_builtin; refine Kd.Ia Kd.string (w0 := w) w.heap.size rfl (.tmp 23) (.tmp 25) 57 9 (.string ⟨#[]⟩) 16 rfl Tryz.underlying57 info9 rfl (by decide) (by omega) u4 x4_1 (rdOf ByteArray.empty y236 x13_1) [.string (rdOf ByteArray.empty y236 x13_1)] (fun k_ => some k_ ≠ (.slice (some ad239) y236.length co8 : Value).ownBlock) (fun _ => False) rfl rfl ?aP (fun _ hk => hk.elim) ?aF ?aO ?aB ?aS ?aL ?_; (case aP => exact rfl); (case aB => exact Yb_); (case aF => exact (fun k_ hk => Kd.fresh' (Kd.R_lt (by (with_reducible repeat (first | apply Kd.Cb | apply Kd.Bz | apply Kd.Cm)); exact HO_11.out)) k_ hk)); (case aO => exact Yba_); (case aS => exact (Ba Yb_)); (case aL => have := LMc15.out; omega); intro v241 w16 ho hb hg hat; rw [← Ny240.out] at ho; have n0_ := Ac.mk (Kd.R_after (ok := (fun _ => True)) (by (with_reducible repeat (first | apply Kd.Cb | apply Kd.Bz | apply Kd.Cm)); exact Kd.R_mono HO_11.out (fun _ hk => ⟨trivial, hk⟩)) hg hat); have n1_ := Ac.mk (hb); have n2_ := Ac.mk (ho); clear HO_11; clear HB; clear HO_4; have HO_11 := n0_; have HB := n1_; have HO242 := n2_; clear n0_ n1_ n2_; clear ho hb hg hat))
         go_roundg k1
         case measure => have := HK1.out; omega
         case rel => exact ⟨(y240), (wrap64 (x13_1 + 1)), Yf_, H', ⟨by have := HK1.out; omega⟩, ⟨by (with_reducible repeat (first | apply Kd.Cb | apply Kd.Bz | apply Kd.Cm)); exact HO242.out⟩, ⟨by (with_reducible repeat (first | apply Kd.Cb | apply Kd.Bz | apply Kd.Cm)); exact Kd.R_mono HO_11.out (fun _ hk => hk.2)⟩, ⟨by repeat (first | (with_reducible first | exact HB.out | apply Ae | apply Aa | apply Ad) | exact HB.out)⟩⟩
        ·rw [if_neg c15] at H
         exact absurd H (by simp)
       ·rw [if_neg c14] at H
        have c14b0 : ((Go.bits .and .i64 (ji13) 1) == 1) = false := beq_eq_false_iff_ne.mpr c14
        have c14b1 : ((Go.bits .and .i64 (ji13) 1) != 1) = true := bne_iff_ne.mpr c14
        have H' := Ac.mk H
        clear H
        have p239 : 0 ≤ (x13_1 : Int) := of_decide_eq_true Ye_
        have q239 : x13_1 < (y236.length : Int) := of_decide_eq_true Ye_
        obtain ⟨ad239, e239, hx239_0⟩ := Kd.I8 (Kd.Ec HO_11.out).2.2 x13_1 p239 q239
        cases e239
        replace p239 := eq_true p239
        replace q239 := eq_true q239
        go_wp2
        go_roundg k1
        case measure => have := HK1.out; omega
        case rel => exact ⟨(x4_1), (wrap64 (x13_1 + 1)), Yf_, H', ⟨by have := HK1.out; omega⟩, ⟨by (with_reducible repeat (first | apply Kd.Cb | apply Kd.Bz | apply Kd.Cm)); exact HO_4.out⟩, ⟨by (with_reducible repeat (first | apply Kd.Cb | apply Kd.Bz | apply Kd.Cm)); exact HO_11.out⟩, ⟨by repeat (first | (with_reducible first | exact HB.out | apply Ae | apply Aa | apply Ad) | exact HB.out)⟩⟩
      ·rw [if_neg c11] at H
       exact absurd H (by simp)
     ·rw [if_neg c10] at H
      exact absurd H (by simp)
    ·rw [if_neg c9] at H
     have c9b0 : decide (x13_1 < (y236.length : Int)) = false := decide_eq_false c9
     clear c9
     by_cases c17 : (x4_1.length : Int) = 0
     ·rw [if_pos c17] at H
      have c17b0 : ((x4_1.length : Int) == 0) = true := beq_iff_eq.mpr c17
      have c17b1 : ((x4_1.length : Int) != 0) = false := bne_eq_false_iff_eq.mpr c17
      clear c17
      simp only [Option.some.injEq, Prod.mk.injEq] at H
      obtain ⟨rfl, rfl⟩ := H
      obtain ⟨Ao18, co18, eo18⟩ := Kd.Gh HO_4.out
      subst eo18
      go_wp2
      go_ret2
      exact ⟨by first | rfl | (simp [Au, Aw] <;> rfl) | (simp [*, Au, Aw] <;> rfl), by repeat (first | (with_reducible first | exact HB.out | apply Ae | apply Aa | apply Ad) | exact HB.out)⟩
     ·rw [if_neg c17] at H
      have c17b0 : ((x4_1.length : Int) == 0) = false := beq_eq_false_iff_ne.mpr c17
      have c17b1 : ((x4_1.length : Int) != 0) = true := bne_iff_ne.mpr c17
      have c17b2 : ¬ (x4_1 = []) := fun h_ => c17 (by rw [h_]; rfl)
      replace H := Option.bind_eq_some_iff.mp H
      obtain ⟨t243, A190, H⟩ := H
      try dsimp only at H
      have A19 := Ac.mk A190
      clear A190
      simp only [Option.some.injEq, Prod.mk.injEq] at H
      obtain ⟨rfl, rfl⟩ := H
      obtain ⟨Ao20, co20, eo20⟩ := Kd.Gh HO_4.out
      subst eo20
      go_wp2_with (first | ((with_reducible refine Ap (f := 35) rfl ?_); refine Bj (some 32) rfl rfl Tryz.func35 (by kernel_rfl) rfl #[.slice Ao20 x4_1.length co20, .string (⟨#[44, 32]⟩ : ByteArray)] rfl Ya_ ?_; (with_reducible refine (strings_Join.calls _ _ x4_1 (⟨#[44, 32]⟩ : ByteArray) t243 _ ?side1 ?side2 A19.out).mono ?_); (case side1 => repeat (first | exact (Kd.Ec HO_4.out).2.2 | (with_reducible refine Kd.F5 ?_ _) | (with_reducible refine Kd.F6 ?_ _) | (with_reducible refine Kd.Gj ?_))); (case side2 => exact (Kd.Ec HO_4.out).2.1); rintro e w21 ⟨rfl, hb⟩; refine ⟨_, rfl, ?_⟩; have n0_ := Ac.mk (Kd.Fe Yba_ hb); have n1_ := Ac.mk (Kd.Fe (by (with_reducible repeat (first | apply Kd.Cb | apply Kd.Bz | apply Kd.Cm)); exact HO_11.out) hb); have n2_ := Ac.mk (Ar Yb_ hb); clear HO_4; clear HO_11; clear HB; have HO_4 := n0_; have HO_11 := n1_; have HB := n2_; clear n0_ n1_ n2_; (try clear hb); (try clear hb2); (try clear hk); (try clear hi)))
      go_ret2
      exact ⟨by first | rfl | (simp [Au, Aw] <;> rfl) | (simp [*, Au, Aw] <;> rfl), by repeat (first | (with_reducible first | exact HB.out | apply Ae | apply Aa | apply Ad) | exact HB.out)⟩
 ·replace c3 := Bool.eq_false_iff.mpr c3
  subst c3
  have H1 : (some ((⟨#[]⟩ : ByteArray), false)) = some (r1, r2) := by rw [if_neg (show ¬ (false = true) by decide)] at H; exact H
  clear H
  have H := H1
  clear H1
  simp only [Option.some.injEq, Prod.mk.injEq] at H
  obtain ⟨rfl, rfl⟩ := H
  go_enter Tryz.func39, Tryz.ntmps39
  go_wp2_with (first | ((with_reducible refine Ap (f := 24) rfl ?_); refine Bj (some 8) rfl rfl Tryz.func24 (by kernel_rfl) rfl #[.int .i64 a0, .int .i64 0, .int .i64 15] rfl Ya_ ?_; (with_reducible refine (Dx.calls a0 0 15 false _ A2.out).mono ?_); rintro e w' ⟨rfl, ⟨nd, rfl⟩⟩; refine ⟨_, rfl, ?_⟩))
  go_ret2
  exact ⟨by first | rfl | (simp [Au, Aw] <;> rfl) | (simp [*, Au, Aw] <;> rfl), by repeat (first | (with_reducible first | exact HB.out | apply Ae | apply Aa | apply Ad) | exact HB.out)⟩
def Dp.f (k : Nat) (a0_0 : Int) (a0_1 : ByteArray) (a0_2 : Int) (a0_3 : Int) : Option (ByteArray) := if 10 + a0_1.size ≤ 9223372036854775807 then ((Fh.f a0_2).bind fun t245 => ((Fh.f a0_3).bind fun t246 => (if a0_0 = 1 then (if ((⟨#[67, 111, 110, 116, 97, 105, 110, 101, 114, 32]⟩ : ByteArray) ++ a0_1).size + 22 ≤ 9223372036854775807 then (if (((⟨#[67, 111, 110, 116, 97, 105, 110, 101, 114, 32]⟩ : ByteArray) ++ a0_1) ++ (⟨#[32, 104, 97, 115, 32, 97, 114, 114, 105, 118, 101, 100, 32, 105, 110, 32, 115, 116, 97, 99, 107, 32]⟩ : ByteArray)).size + t245.size ≤ 9223372036854775807 then (if ((((⟨#[67, 111, 110, 116, 97, 105, 110, 101, 114, 32]⟩ : ByteArray) ++ a0_1) ++ (⟨#[32, 104, 97, 115, 32, 97, 114, 114, 105, 118, 101, 100, 32, 105, 110, 32, 115, 116, 97, 99, 107, 32]⟩ : ByteArray)) ++ t245).size + 1 ≤ 9223372036854775807 then (some (((((⟨#[67, 111, 110, 116, 97, 105, 110, 101, 114, 32]⟩ : ByteArray) ++ a0_1) ++ (⟨#[32, 104, 97, 115, 32, 97, 114, 114, 105, 118, 101, 100, 32, 105, 110, 32, 115, 116, 97, 99, 107, 32]⟩ : ByteArray)) ++ t245) ++ (⟨#[46]⟩ : ByteArray))) else (none)) else (none)) else (none)) else (if a0_0 = 2 then (if ((⟨#[67, 111, 110, 116, 97, 105, 110, 101, 114, 32]⟩ : ByteArray) ++ a0_1).size + 22 ≤ 9223372036854775807 then (if (((⟨#[67, 111, 110, 116, 97, 105, 110, 101, 114, 32]⟩ : ByteArray) ++ a0_1) ++ (⟨#[32, 119, 97, 115, 32, 109, 111, 118, 101, 100, 32, 102, 114, 111, 109, 32, 115, 116, 97, 99, 107, 32]⟩ : ByteArray)).size + t245.size ≤ 9223372036854775807 then (if ((((⟨#[67, 111, 110, 116, 97, 105, 110, 101, 114, 32]⟩ : ByteArray) ++ a0_1) ++ (⟨#[32, 119, 97, 115, 32, 109, 111, 118, 101, 100, 32, 102, 114, 111, 109, 32, 115, 116, 97, 99, 107, 32]⟩ : ByteArray)) ++ t245).size + 10 ≤ 9223372036854775807 then (if (((((⟨#[67, 111, 110, 116, 97, 105, 110, 101, 114, 32]⟩ : ByteArray) ++ a0_1) ++ (⟨#[32, 119, 97, 115, 32, 109, 111, 118, 101, 100, 32, 102, 114, 111, 109, 32, 115, 116, 97, 99, 107, 32]⟩ : ByteArray)) ++ t245) ++ (⟨#[32, 116, 111, 32, 115, 116, 97, 99, 107, 32]⟩ : ByteArray)).size + t246.size ≤ 9223372036854775807 then (if ((((((⟨#[67, 111, 110, 116, 97, 105, 110, 101, 114, 32]⟩ : ByteArray) ++ a0_1) ++ (⟨#[32, 119, 97, 115, 32, 109, 111, 118, 101, 100, 32, 102, 114, 111, 109, 32, 115, 116, 97, 99, 107, 32]⟩ : ByteArray)) ++ t245) ++ (⟨#[32, 116, 111, 32, 115, 116, 97, 99, 107, 32]⟩ : ByteArray)) ++ t246).size + 1 ≤ 9223372036854775807 then (some (((((((⟨#[67, 111, 110, 116, 97, 105, 110, 101, 114, 32]⟩ : ByteArray) ++ a0_1) ++ (⟨#[32, 119, 97, 115, 32, 109, 111, 118, 101, 100, 32, 102, 114, 111, 109, 32, 115, 116, 97, 99, 107, 32]⟩ : ByteArray)) ++ t245) ++ (⟨#[32, 116, 111, 32, 115, 116, 97, 99, 107, 32]⟩ : ByteArray)) ++ t246) ++ (⟨#[46]⟩ : ByteArray))) else (none)) else (none)) else (none)) else (none)) else (none)) else (if a0_0 = 3 then ((D9.f k a0_2).bind fun bt247 => (if ((⟨#[67, 111, 110, 116, 97, 105, 110, 101, 114, 32]⟩ : ByteArray) ++ a0_1).size + 13 ≤ 9223372036854775807 then (if (((⟨#[67, 111, 110, 116, 97, 105, 110, 101, 114, 32]⟩ : ByteArray) ++ a0_1) ++ (⟨#[32, 105, 115, 32, 104, 101, 108, 100, 32, 102, 111, 114, 32]⟩ : ByteArray)).size + bt247.1.size ≤ 9223372036854775807 then (if ((((⟨#[67, 111, 110, 116, 97, 105, 110, 101, 114, 32]⟩ : ByteArray) ++ a0_1) ++ (⟨#[32, 105, 115, 32, 104, 101, 108, 100, 32, 102, 111, 114, 32]⟩ : ByteArray)) ++ bt247.1).size + 1 ≤ 9223372036854775807 then (some (((((⟨#[67, 111, 110, 116, 97, 105, 110, 101, 114, 32]⟩ : ByteArray) ++ a0_1) ++ (⟨#[32, 105, 115, 32, 104, 101, 108, 100, 32, 102, 111, 114, 32]⟩ : ByteArray)) ++ bt247.1) ++ (⟨#[46]⟩ : ByteArray))) else (none)) else (none)) else (none))) else (if a0_0 = 4 then (if ((⟨#[67, 111, 110, 116, 97, 105, 110, 101, 114, 32]⟩ : ByteArray) ++ a0_1).size + 29 ≤ 9223372036854775807 then (if (((⟨#[67, 111, 110, 116, 97, 105, 110, 101, 114, 32]⟩ : ByteArray) ++ a0_1) ++ (⟨#[32, 105, 115, 32, 114, 101, 97, 100, 121, 32, 102, 111, 114, 32, 112, 105, 99, 107, 117, 112, 32, 105, 110, 32, 115, 108, 111, 116, 32]⟩ : ByteArray)).size + t245.size ≤ 9223372036854775807 then (if ((((⟨#[67, 111, 110, 116, 97, 105, 110, 101, 114, 32]⟩ : ByteArray) ++ a0_1) ++ (⟨#[32, 105, 115, 32, 114, 101, 97, 100, 121, 32, 102, 111, 114, 32, 112, 105, 99, 107, 117, 112, 32, 105, 110, 32, 115, 108, 111, 116, 32]⟩ : ByteArray)) ++ t245).size + 1 ≤ 9223372036854775807 then (some (((((⟨#[67, 111, 110, 116, 97, 105, 110, 101, 114, 32]⟩ : ByteArray) ++ a0_1) ++ (⟨#[32, 105, 115, 32, 114, 101, 97, 100, 121, 32, 102, 111, 114, 32, 112, 105, 99, 107, 117, 112, 32, 105, 110, 32, 115, 108, 111, 116, 32]⟩ : ByteArray)) ++ t245) ++ (⟨#[46]⟩ : ByteArray))) else (none)) else (none)) else (none)) else (if a0_3 = 1 then (if ((⟨#[67, 111, 110, 116, 97, 105, 110, 101, 114, 32]⟩ : ByteArray) ++ a0_1).size + 6 ≤ 9223372036854775807 then (if (((⟨#[67, 111, 110, 116, 97, 105, 110, 101, 114, 32]⟩ : ByteArray) ++ a0_1) ++ (⟨#[32, 111, 119, 101, 115, 32]⟩ : ByteArray)).size + t245.size ≤ 9223372036854775807 then (if ((((⟨#[67, 111, 110, 116, 97, 105, 110, 101, 114, 32]⟩ : ByteArray) ++ a0_1) ++ (⟨#[32, 111, 119, 101, 115, 32]⟩ : ByteArray)) ++ t245).size + 11 ≤ 9223372036854775807 then (some (((((⟨#[67, 111, 110, 116, 97, 105, 110, 101, 114, 32]⟩ : ByteArray) ++ a0_1) ++ (⟨#[32, 111, 119, 101, 115, 32]⟩ : ByteArray)) ++ t245) ++ (⟨#[32, 102, 111, 114, 32, 49, 32, 100, 97, 121, 46]⟩ : ByteArray))) else (none)) else (none)) else (none)) else (if ((⟨#[67, 111, 110, 116, 97, 105, 110, 101, 114, 32]⟩ : ByteArray) ++ a0_1).size + 6 ≤ 9223372036854775807 then (if (((⟨#[67, 111, 110, 116, 97, 105, 110, 101, 114, 32]⟩ : ByteArray) ++ a0_1) ++ (⟨#[32, 111, 119, 101, 115, 32]⟩ : ByteArray)).size + t245.size ≤ 9223372036854775807 then (if ((((⟨#[67, 111, 110, 116, 97, 105, 110, 101, 114, 32]⟩ : ByteArray) ++ a0_1) ++ (⟨#[32, 111, 119, 101, 115, 32]⟩ : ByteArray)) ++ t245).size + 5 ≤ 9223372036854775807 then (if (((((⟨#[67, 111, 110, 116, 97, 105, 110, 101, 114, 32]⟩ : ByteArray) ++ a0_1) ++ (⟨#[32, 111, 119, 101, 115, 32]⟩ : ByteArray)) ++ t245) ++ (⟨#[32, 102, 111, 114, 32]⟩ : ByteArray)).size + t246.size ≤ 9223372036854775807 then (if ((((((⟨#[67, 111, 110, 116, 97, 105, 110, 101, 114, 32]⟩ : ByteArray) ++ a0_1) ++ (⟨#[32, 111, 119, 101, 115, 32]⟩ : ByteArray)) ++ t245) ++ (⟨#[32, 102, 111, 114, 32]⟩ : ByteArray)) ++ t246).size + 6 ≤ 9223372036854775807 then (some (((((((⟨#[67, 111, 110, 116, 97, 105, 110, 101, 114, 32]⟩ : ByteArray) ++ a0_1) ++ (⟨#[32, 111, 119, 101, 115, 32]⟩ : ByteArray)) ++ t245) ++ (⟨#[32, 102, 111, 114, 32]⟩ : ByteArray)) ++ t246) ++ (⟨#[32, 100, 97, 121, 115, 46]⟩ : ByteArray))) else (none)) else (none)) else (none)) else (none)) else (none))))))))) else (none)
theorem Dp.mono : ∀ a0 a1 a2 a3 k, LeO (Dp.f k a0 a1 a2 a3) (Dp.f (k + 1) a0 a1 a2 a3) := by
 intro a0 a1 a2 a3 k
 unfold Dp.f
 repeat' first
   | (with_reducible exact D9.mono _ _)
   | (with_reducible exact LeO.refl _)
   | (with_reducible exact LeO.none _)
   | (with_reducible refine LeO.ite ?_ ?_)
   | (with_reducible refine LeO.bind ?_ (fun _ => ?_))
   | exact D9.mono _ _
   | exact LeO.none _
   | refine LeO.ite ?_ ?_
   | refine LeO.bind ?_ (fun _ => ?_)
def Dp.T2 : Bool × List (List Nat × List Nat) := (true, [([], []), ([0], [0]), ([1], [1]), ([], []), ([3], [3]), ([4, 2], [4]), ([2, 5, 0, 1, 2], [2]), ([5, 6, 0, 1, 2, 3, 4, 5, 6], [5])])
def Dp.B2 : List Nat := [0, 1, 3, 0, 8, 31, 63, 127]
theorem Dp.tab2 : rtab .any (opsOf Tryz.f20 2) = Dp.T2 := by kernel_rfl
theorem Dp.bits2 : Iz Dp.T2.2 Dp.B2 = true := by kernel_rfl
set_option maxHeartbeats 8000000 in
set_option maxRecDepth 100000 in
theorem Dp.calls (k : Nat) (a0_0 : Int) (a0_1 : ByteArray) (a0_2 : Int) (a0_3 : Int) (r : ByteArray) (w : World) (hG : Fp w) (h : Dp.f k a0_0 a0_1 a0_2 a0_3 = some r) :
  Calls Tryz.prog 20 #[.agg #[.int .i64 a0_0, .string a0_1, .int .i64 a0_2, .int .i64 a0_3]] w fun e w' => e = .returned (.string r) ∧ Below w.heap.size w w' := by
 have hu25 := Tryz.underlying25
 have HGL := Ac.mk hG
 clear hG
 have HB := Ac.mk (Below.refl w.heap.size w)
 have H : (if 10 + a0_1.size ≤ 9223372036854775807 then ((Fh.f a0_2).bind fun t245 => ((Fh.f a0_3).bind fun t246 => (if a0_0 = 1 then (if ((⟨#[67, 111, 110, 116, 97, 105, 110, 101, 114, 32]⟩ : ByteArray) ++ a0_1).size + 22 ≤ 9223372036854775807 then (if (((⟨#[67, 111, 110, 116, 97, 105, 110, 101, 114, 32]⟩ : ByteArray) ++ a0_1) ++ (⟨#[32, 104, 97, 115, 32, 97, 114, 114, 105, 118, 101, 100, 32, 105, 110, 32, 115, 116, 97, 99, 107, 32]⟩ : ByteArray)).size + t245.size ≤ 9223372036854775807 then (if ((((⟨#[67, 111, 110, 116, 97, 105, 110, 101, 114, 32]⟩ : ByteArray) ++ a0_1) ++ (⟨#[32, 104, 97, 115, 32, 97, 114, 114, 105, 118, 101, 100, 32, 105, 110, 32, 115, 116, 97, 99, 107, 32]⟩ : ByteArray)) ++ t245).size + 1 ≤ 9223372036854775807 then (some (((((⟨#[67, 111, 110, 116, 97, 105, 110, 101, 114, 32]⟩ : ByteArray) ++ a0_1) ++ (⟨#[32, 104, 97, 115, 32, 97, 114, 114, 105, 118, 101, 100, 32, 105, 110, 32, 115, 116, 97, 99, 107, 32]⟩ : ByteArray)) ++ t245) ++ (⟨#[46]⟩ : ByteArray))) else (none)) else (none)) else (none)) else (if a0_0 = 2 then (if ((⟨#[67, 111, 110, 116, 97, 105, 110, 101, 114, 32]⟩ : ByteArray) ++ a0_1).size + 22 ≤ 9223372036854775807 then (if (((⟨#[67, 111, 110, 116, 97, 105, 110, 101, 114, 32]⟩ : ByteArray) ++ a0_1) ++ (⟨#[32, 119, 97, 115, 32, 109, 111, 118, 101, 100, 32, 102, 114, 111, 109, 32, 115, 116, 97, 99, 107, 32]⟩ : ByteArray)).size + t245.size ≤ 9223372036854775807 then (if ((((⟨#[67, 111, 110, 116, 97, 105, 110, 101, 114, 32]⟩ : ByteArray) ++ a0_1) ++ (⟨#[32, 119, 97, 115, 32, 109, 111, 118, 101, 100, 32, 102, 114, 111, 109, 32, 115, 116, 97, 99, 107, 32]⟩ : ByteArray)) ++ t245).size + 10 ≤ 9223372036854775807 then (if (((((⟨#[67, 111, 110, 116, 97, 105, 110, 101, 114, 32]⟩ : ByteArray) ++ a0_1) ++ (⟨#[32, 119, 97, 115, 32, 109, 111, 118, 101, 100, 32, 102, 114, 111, 109, 32, 115, 116, 97, 99, 107, 32]⟩ : ByteArray)) ++ t245) ++ (⟨#[32, 116, 111, 32, 115, 116, 97, 99, 107, 32]⟩ : ByteArray)).size + t246.size ≤ 9223372036854775807 then (if ((((((⟨#[67, 111, 110, 116, 97, 105, 110, 101, 114, 32]⟩ : ByteArray) ++ a0_1) ++ (⟨#[32, 119, 97, 115, 32, 109, 111, 118, 101, 100, 32, 102, 114, 111, 109, 32, 115, 116, 97, 99, 107, 32]⟩ : ByteArray)) ++ t245) ++ (⟨#[32, 116, 111, 32, 115, 116, 97, 99, 107, 32]⟩ : ByteArray)) ++ t246).size + 1 ≤ 9223372036854775807 then (some (((((((⟨#[67, 111, 110, 116, 97, 105, 110, 101, 114, 32]⟩ : ByteArray) ++ a0_1) ++ (⟨#[32, 119, 97, 115, 32, 109, 111, 118, 101, 100, 32, 102, 114, 111, 109, 32, 115, 116, 97, 99, 107, 32]⟩ : ByteArray)) ++ t245) ++ (⟨#[32, 116, 111, 32, 115, 116, 97, 99, 107, 32]⟩ : ByteArray)) ++ t246) ++ (⟨#[46]⟩ : ByteArray))) else (none)) else (none)) else (none)) else (none)) else (none)) else (if a0_0 = 3 then ((D9.f k a0_2).bind fun bt247 => (if ((⟨#[67, 111, 110, 116, 97, 105, 110, 101, 114, 32]⟩ : ByteArray) ++ a0_1).size + 13 ≤ 9223372036854775807 then (if (((⟨#[67, 111, 110, 116, 97, 105, 110, 101, 114, 32]⟩ : ByteArray) ++ a0_1) ++ (⟨#[32, 105, 115, 32, 104, 101, 108, 100, 32, 102, 111, 114, 32]⟩ : ByteArray)).size + bt247.1.size ≤ 9223372036854775807 then (if ((((⟨#[67, 111, 110, 116, 97, 105, 110, 101, 114, 32]⟩ : ByteArray) ++ a0_1) ++ (⟨#[32, 105, 115, 32, 104, 101, 108, 100, 32, 102, 111, 114, 32]⟩ : ByteArray)) ++ bt247.1).size + 1 ≤ 9223372036854775807 then (some (((((⟨#[67, 111, 110, 116, 97, 105, 110, 101, 114, 32]⟩ : ByteArray) ++ a0_1) ++ (⟨#[32, 105, 115, 32, 104, 101, 108, 100, 32, 102, 111, 114, 32]⟩ : ByteArray)) ++ bt247.1) ++ (⟨#[46]⟩ : ByteArray))) else (none)) else (none)) else (none))) else (if a0_0 = 4 then (if ((⟨#[67, 111, 110, 116, 97, 105, 110, 101, 114, 32]⟩ : ByteArray) ++ a0_1).size + 29 ≤ 9223372036854775807 then (if (((⟨#[67, 111, 110, 116, 97, 105, 110, 101, 114, 32]⟩ : ByteArray) ++ a0_1) ++ (⟨#[32, 105, 115, 32, 114, 101, 97, 100, 121, 32, 102, 111, 114, 32, 112, 105, 99, 107, 117, 112, 32, 105, 110, 32, 115, 108, 111, 116, 32]⟩ : ByteArray)).size + t245.size ≤ 9223372036854775807 then (if ((((⟨#[67, 111, 110, 116, 97, 105, 110, 101, 114, 32]⟩ : ByteArray) ++ a0_1) ++ (⟨#[32, 105, 115, 32, 114, 101, 97, 100, 121, 32, 102, 111, 114, 32, 112, 105, 99, 107, 117, 112, 32, 105, 110, 32, 115, 108, 111, 116, 32]⟩ : ByteArray)) ++ t245).size + 1 ≤ 9223372036854775807 then (some (((((⟨#[67, 111, 110, 116, 97, 105, 110, 101, 114, 32]⟩ : ByteArray) ++ a0_1) ++ (⟨#[32, 105, 115, 32, 114, 101, 97, 100, 121, 32, 102, 111, 114, 32, 112, 105, 99, 107, 117, 112, 32, 105, 110, 32, 115, 108, 111, 116, 32]⟩ : ByteArray)) ++ t245) ++ (⟨#[46]⟩ : ByteArray))) else (none)) else (none)) else (none)) else (if a0_3 = 1 then (if ((⟨#[67, 111, 110, 116, 97, 105, 110, 101, 114, 32]⟩ : ByteArray) ++ a0_1).size + 6 ≤ 9223372036854775807 then (if (((⟨#[67, 111, 110, 116, 97, 105, 110, 101, 114, 32]⟩ : ByteArray) ++ a0_1) ++ (⟨#[32, 111, 119, 101, 115, 32]⟩ : ByteArray)).size + t245.size ≤ 9223372036854775807 then (if ((((⟨#[67, 111, 110, 116, 97, 105, 110, 101, 114, 32]⟩ : ByteArray) ++ a0_1) ++ (⟨#[32, 111, 119, 101, 115, 32]⟩ : ByteArray)) ++ t245).size + 11 ≤ 9223372036854775807 then (some (((((⟨#[67, 111, 110, 116, 97, 105, 110, 101, 114, 32]⟩ : ByteArray) ++ a0_1) ++ (⟨#[32, 111, 119, 101, 115, 32]⟩ : ByteArray)) ++ t245) ++ (⟨#[32, 102, 111, 114, 32, 49, 32, 100, 97, 121, 46]⟩ : ByteArray))) else (none)) else (none)) else (none)) else (if ((⟨#[67, 111, 110, 116, 97, 105, 110, 101, 114, 32]⟩ : ByteArray) ++ a0_1).size + 6 ≤ 9223372036854775807 then (if (((⟨#[67, 111, 110, 116, 97, 105, 110, 101, 114, 32]⟩ : ByteArray) ++ a0_1) ++ (⟨#[32, 111, 119, 101, 115, 32]⟩ : ByteArray)).size + t245.size ≤ 9223372036854775807 then (if ((((⟨#[67, 111, 110, 116, 97, 105, 110, 101, 114, 32]⟩ : ByteArray) ++ a0_1) ++ (⟨#[32, 111, 119, 101, 115, 32]⟩ : ByteArray)) ++ t245).size + 5 ≤ 9223372036854775807 then (if (((((⟨#[67, 111, 110, 116, 97, 105, 110, 101, 114, 32]⟩ : ByteArray) ++ a0_1) ++ (⟨#[32, 111, 119, 101, 115, 32]⟩ : ByteArray)) ++ t245) ++ (⟨#[32, 102, 111, 114, 32]⟩ : ByteArray)).size + t246.size ≤ 9223372036854775807 then (if ((((((⟨#[67, 111, 110, 116, 97, 105, 110, 101, 114, 32]⟩ : ByteArray) ++ a0_1) ++ (⟨#[32, 111, 119, 101, 115, 32]⟩ : ByteArray)) ++ t245) ++ (⟨#[32, 102, 111, 114, 32]⟩ : ByteArray)) ++ t246).size + 6 ≤ 9223372036854775807 then (some (((((((⟨#[67, 111, 110, 116, 97, 105, 110, 101, 114, 32]⟩ : ByteArray) ++ a0_1) ++ (⟨#[32, 111, 119, 101, 115, 32]⟩ : ByteArray)) ++ t245) ++ (⟨#[32, 102, 111, 114, 32]⟩ : ByteArray)) ++ t246) ++ (⟨#[32, 100, 97, 121, 115, 46]⟩ : ByteArray))) else (none)) else (none)) else (none)) else (none)) else (none))))))))) else (none)) = some r := h
 clear h
 by_cases c2 : 10 + a0_1.size ≤ 9223372036854775807
 ·rw [if_pos c2] at H
  have c2b0 := eq_true c2
  have c2b1 : decide (10 + a0_1.size ≤ 9223372036854775807) = true := decide_eq_true c2
  try have c2b2 : (9223372036854775807 < 10 + a0_1.size) = False := eq_false (Nat.not_lt.2 c2)
  replace H := Option.bind_eq_some_iff.mp H
  obtain ⟨t245, A30, H⟩ := H
  try dsimp only at H
  have A3 := Ac.mk A30
  clear A30
  replace H := Option.bind_eq_some_iff.mp H
  obtain ⟨t246, A40, H⟩ := H
  try dsimp only at H
  have A4 := Ac.mk A40
  clear A40
  by_cases c5 : a0_0 = 1
  ·rw [if_pos c5] at H
   have c5b0 : (a0_0 == 1) = true := beq_iff_eq.mpr c5
   have c5b1 : (a0_0 != 1) = false := bne_eq_false_iff_eq.mpr c5
   clear c5
   by_cases c6 : ((⟨#[67, 111, 110, 116, 97, 105, 110, 101, 114, 32]⟩ : ByteArray) ++ a0_1).size + 22 ≤ 9223372036854775807
   ·rw [if_pos c6] at H
    have c6b0 := eq_true c6
    have c6b1 : decide (((⟨#[67, 111, 110, 116, 97, 105, 110, 101, 114, 32]⟩ : ByteArray) ++ a0_1).size + 22 ≤ 9223372036854775807) = true := decide_eq_true c6
    try have c6b2 : (9223372036854775807 < ((⟨#[67, 111, 110, 116, 97, 105, 110, 101, 114, 32]⟩ : ByteArray) ++ a0_1).size + 22) = False := eq_false (Nat.not_lt.2 c6)
    have c6z0 : (⟨#[67, 111, 110, 116, 97, 105, 110, 101, 114, 32]⟩ : ByteArray).size = 10 := rfl
    have c6b3 := c6
    try simp only [ByteArray.size_extract, ByteArray.size_append, c6z0] at c6b3
    have c6b4 := eq_false (Nat.not_lt.2 c6b3)
    by_cases c7 : (((⟨#[67, 111, 110, 116, 97, 105, 110, 101, 114, 32]⟩ : ByteArray) ++ a0_1) ++ (⟨#[32, 104, 97, 115, 32, 97, 114, 114, 105, 118, 101, 100, 32, 105, 110, 32, 115, 116, 97, 99, 107, 32]⟩ : ByteArray)).size + t245.size ≤ 9223372036854775807
    ·rw [if_pos c7] at H
     have c7b0 := eq_true c7
     have c7b1 : decide ((((⟨#[67, 111, 110, 116, 97, 105, 110, 101, 114, 32]⟩ : ByteArray) ++ a0_1) ++ (⟨#[32, 104, 97, 115, 32, 97, 114, 114, 105, 118, 101, 100, 32, 105, 110, 32, 115, 116, 97, 99, 107, 32]⟩ : ByteArray)).size + t245.size ≤ 9223372036854775807) = true := decide_eq_true c7
     try have c7b2 : (9223372036854775807 < (((⟨#[67, 111, 110, 116, 97, 105, 110, 101, 114, 32]⟩ : ByteArray) ++ a0_1) ++ (⟨#[32, 104, 97, 115, 32, 97, 114, 114, 105, 118, 101, 100, 32, 105, 110, 32, 115, 116, 97, 99, 107, 32]⟩ : ByteArray)).size + t245.size) = False := eq_false (Nat.not_lt.2 c7)
     have c7z0 : (⟨#[32, 104, 97, 115, 32, 97, 114, 114, 105, 118, 101, 100, 32, 105, 110, 32, 115, 116, 97, 99, 107, 32]⟩ : ByteArray).size = 22 := rfl
     have c7z1 : (⟨#[67, 111, 110, 116, 97, 105, 110, 101, 114, 32]⟩ : ByteArray).size = 10 := rfl
     have c7b3 := c7
     try simp only [ByteArray.size_extract, ByteArray.size_append, c7z0, c7z1] at c7b3
     have c7b4 := eq_false (Nat.not_lt.2 c7b3)
     by_cases c8 : ((((⟨#[67, 111, 110, 116, 97, 105, 110, 101, 114, 32]⟩ : ByteArray) ++ a0_1) ++ (⟨#[32, 104, 97, 115, 32, 97, 114, 114, 105, 118, 101, 100, 32, 105, 110, 32, 115, 116, 97, 99, 107, 32]⟩ : ByteArray)) ++ t245).size + 1 ≤ 9223372036854775807
     ·rw [if_pos c8] at H
      have c8b0 := eq_true c8
      have c8b1 : decide (((((⟨#[67, 111, 110, 116, 97, 105, 110, 101, 114, 32]⟩ : ByteArray) ++ a0_1) ++ (⟨#[32, 104, 97, 115, 32, 97, 114, 114, 105, 118, 101, 100, 32, 105, 110, 32, 115, 116, 97, 99, 107, 32]⟩ : ByteArray)) ++ t245).size + 1 ≤ 9223372036854775807) = true := decide_eq_true c8
      try have c8b2 : (9223372036854775807 < ((((⟨#[67, 111, 110, 116, 97, 105, 110, 101, 114, 32]⟩ : ByteArray) ++ a0_1) ++ (⟨#[32, 104, 97, 115, 32, 97, 114, 114, 105, 118, 101, 100, 32, 105, 110, 32, 115, 116, 97, 99, 107, 32]⟩ : ByteArray)) ++ t245).size + 1) = False := eq_false (Nat.not_lt.2 c8)
      have c8z0 : (⟨#[32, 104, 97, 115, 32, 97, 114, 114, 105, 118, 101, 100, 32, 105, 110, 32, 115, 116, 97, 99, 107, 32]⟩ : ByteArray).size = 22 := rfl
      have c8z1 : (⟨#[67, 111, 110, 116, 97, 105, 110, 101, 114, 32]⟩ : ByteArray).size = 10 := rfl
      have c8b3 := c8
      try simp only [ByteArray.size_extract, ByteArray.size_append, c8z0, c8z1] at c8b3
      have c8b4 := eq_false (Nat.not_lt.2 c8b3)
      obtain rfl := Option.some.inj H
      go_enter Tryz.func20, Tryz.ntmps20
      try go_wp2_with (first | ((with_reducible refine Dl (N := 1) rfl ?_); refine Dz ?hg (N := 1) ?hd (cs := #[.int .i64 a0_0, .string a0_1, .int .i64 a0_2, .int .i64 a0_3]) (t := 25) ?hr ?_; (case hd => rfl); (case hg => rfl); (case hr => first | (go_simp; done) | (go_simp; rfl)); intro gb0 hg w9 hbox hb; have n0_ := Ac.mk (Ar Yb_ hb); have n1_ := Ac.mk (hbox); have n2_ := Ac.mk ((by rw [hg]; exact (Ba Yb_) : w.heap.size ≤ gb0)); have n3_ := Ac.mk ((by rw [hg]; exact (Ba Yb_) : w.heap.size ≤ gb0)); clear HB; have HB := n0_; have BK0 := n1_; have GW0 := n2_; have GE0 := n3_; clear n0_ n1_ n2_ n3_; clear hb hbox hg; have hcz10_0 : w9.cell? ⟨gb0, 0, none⟩ = some (.int .i64 a0_0) := (Ak BK0.out 0).trans rfl; have hcz10_1 : w9.cell? ⟨gb0, 1, none⟩ = some (.string a0_1) := (Ak BK0.out 1).trans rfl; have hcz10_2 : w9.cell? ⟨gb0, 2, none⟩ = some (.int .i64 a0_2) := (Ak BK0.out 2).trans rfl; have hcz10_3 : w9.cell? ⟨gb0, 3, none⟩ = some (.int .i64 a0_3) := (Ak BK0.out 3).trans rfl; have hfz10_0 := Ai BK0.out 0; have hfz10_1 := Ai BK0.out 1; have hfz10_2 := Ai BK0.out 2; have hfz10_3 := Ai BK0.out 3))
      have n0_ := Ac.mk (Ah BK0.out)
      have n1_ := Ac.mk (Ad HB.out)
      clear BK0
      clear HB
      have BK0 := n0_
      have HB := n1_
      clear n0_ n1_
      refine start_ (n := 8) (S := fun w' => w'.cell? ⟨gb0, 0, none⟩ = some (.int .i64 a0_0) ∧ w'.cell? ⟨gb0, 1, none⟩ = some (.string a0_1) ∧ w'.cell? ⟨gb0, 2, none⟩ = some (.int .i64 a0_2) ∧ w'.cell? ⟨gb0, 3, none⟩ = some (.int .i64 a0_3)) (ds := []) #[false, false, false, false, false, false, false, false] (by kernel_rfl) rfl rfl ⟨(Ak BK0.out 0).trans rfl, (Ak BK0.out 1).trans rfl, (Ak BK0.out 2).trans rfl, (Ak BK0.out 3).trans rfl⟩ (fun hHeld => ?_); refine H9 Dp.tab2 Dp.bits2 (fun HT_ HW_ => ?_)
      generalize w9.drew = w11 at BK0 HB hHeld ⊢
      refine Fb (i := 0) (N := some 11) (v := ?_) (a' := ?_) #[true, false, false, false, false, false, false, false] rfl rfl (Ew HT_.out (by kernel_rfl)) (fun _ _ _ h => h) (Or.inl ⟨by rfl, ?_⟩) ?_ ?_
      rotate_left
      ·intro w'
       go_simp
       first | with_reducible rfl | (rw [if_neg (by omega)]; try with_reducible rfl)
      rotate_left
      ·simp only [Act.put, List.setIfInBounds_toArray, List.set_cons_zero, List.set_cons_succ, Dw, Dy]
       rfl
      refine Fb (i := 3) (N := some 14) (v := ?_) (a' := ?_) #[true, false, false, true, false, false, false, false] rfl rfl (Ew HT_.out (by kernel_rfl)) (fun _ _ _ h => h) (Or.inl ⟨by rfl, ?_⟩) ?_ ?_
      rotate_left
      ·intro w'
       go_simp
       first | with_reducible rfl | (rw [if_neg (by omega)]; try with_reducible rfl)
      rotate_left
      ·simp only [Act.put, List.setIfInBounds_toArray, List.set_cons_zero, List.set_cons_succ, Dw, Dy]
       rfl
      refine He (i := 1) (N := some 12) (v := ?_) (a' := ?_) #[true, true, false, true, false, false, false, false] rfl rfl (Gs HT_.out HW_.out (by kernel_rfl)) (fun _ _ _ h => h) (Or.inl ⟨by rfl, ?_⟩) hHeld ?_ ?_
      rotate_left
      ·rintro w' ⟨s0, s1, s2, s3⟩
       go_simp
       first | with_reducible rfl | (rw [if_neg (by omega)]; try with_reducible rfl)
      rotate_left
      ·simp only [Act.put, List.setIfInBounds_toArray, List.set_cons_zero, List.set_cons_succ, Dw, Dy]
       rfl
      refine He (i := 4) (N := some 15) (v := ?_) (a' := ?_) #[true, true, false, true, true, false, false, false] rfl rfl (Gs HT_.out HW_.out (by kernel_rfl)) (fun _ _ _ h => h) (Or.inl ⟨by rfl, ?_⟩) hHeld ?_ ?_
      rotate_left
      ·rintro w' ⟨s0, s1, s2, s3⟩
       go_simp
       first | with_reducible rfl | (rw [if_neg (by omega)]; try with_reducible rfl)
      rotate_left
      ·simp only [Act.put, List.setIfInBounds_toArray, List.set_cons_zero, List.set_cons_succ, Dw, Dy]
       rfl
      refine one_ (i := 2) (N := some 13) #[true, true, true, true, true, false, false, false] rfl rfl (Hg HT_.out (by kernel_rfl)) (by decide) (fun K hK => ?_)
      refine goes_ Tryz.func38 (by kernel_rfl) rfl #[.int .i64 a0_2] (by rfl) rfl rfl Ya_ ?_
      with_reducible refine (Fh.calls a0_2 t245 _ ?side1 A3.out).mono ?_
      (case side1 => exact Fp.below HGL.out Yc_)
      rintro e w12 ⟨rfl, hb⟩
      refine ⟨_, rfl, ?_⟩
      have n0_ := Ac.mk (Bi (g := gb0) (o := .cells #[.int .i64 a0_0, .string a0_1, .int .i64 a0_2, .int .i64 a0_3] 25 (0, 0)) Yd_ hb)
      have n1_ := Ac.mk (Ar Yc_ hb)
      clear BK0
      clear HB
      have BK0 := n0_
      have HB := n1_
      clear n0_ n1_
      (try clear hb)
      (try clear hb2)
      (try clear hk)
      (try clear hi)
      refine hK.out _ _ ⟨(Ak BK0.out 0).trans rfl, (Ak BK0.out 1).trans rfl, (Ak BK0.out 2).trans rfl, (Ak BK0.out 3).trans rfl⟩ (fun hHeld => ?_)
      clear hK K
      refine norm_ (a' := ?_) ?_ ?_
      rotate_left
      ·show Act.put _ (some 13) _ = _
       simp only [Act.put, List.setIfInBounds_toArray, List.set_cons_zero, List.set_cons_succ, Dw, Dy]
       rfl
      refine one_ (i := 5) (N := some 16) #[true, true, true, true, true, true, false, false] rfl rfl (Hg HT_.out (by kernel_rfl)) (by decide) (fun K hK => ?_)
      refine goes_ Tryz.func38 (by kernel_rfl) rfl #[.int .i64 a0_3] (by rfl) rfl rfl Ya_ ?_
      with_reducible refine (Fh.calls a0_3 t246 _ ?side1 A4.out).mono ?_
      (case side1 => exact Fp.below HGL.out Yc_)
      rintro e w13 ⟨rfl, hb⟩
      refine ⟨_, rfl, ?_⟩
      have n0_ := Ac.mk (Bi (g := gb0) (o := .cells #[.int .i64 a0_0, .string a0_1, .int .i64 a0_2, .int .i64 a0_3] 25 (0, 0)) Yd_ hb)
      have n1_ := Ac.mk (Ar Yc_ hb)
      clear BK0
      clear HB
      have BK0 := n0_
      have HB := n1_
      clear n0_ n1_
      (try clear hb)
      (try clear hb2)
      (try clear hk)
      (try clear hi)
      refine hK.out _ _ ⟨(Ak BK0.out 0).trans rfl, (Ak BK0.out 1).trans rfl, (Ak BK0.out 2).trans rfl, (Ak BK0.out 3).trans rfl⟩ (fun hHeld => ?_)
      clear hK K
      refine norm_ (a' := ?_) ?_ ?_
      rotate_left
      ·show Act.put _ (some 16) _ = _
       simp only [Act.put, List.setIfInBounds_toArray, List.set_cons_zero, List.set_cons_succ, Dw, Dy]
       rfl
      refine Fb (i := 6) (N := some 4) (v := ?_) (a' := ?_) #[true, true, true, true, true, true, true, false] rfl rfl (Ew HT_.out (by kernel_rfl)) (fun _ _ _ h => h) (Or.inl ⟨by rfl, ?_⟩) ?_ ?_
      rotate_left
      ·intro w'
       go_simp
       first | with_reducible rfl | (rw [if_neg (by omega)]; try with_reducible rfl)
      rotate_left
      ·simp only [Act.put, List.setIfInBounds_toArray, List.set_cons_zero, List.set_cons_succ, Dw, Dy]
       rfl
      refine Fb (i := 7) (N := some 5) (v := ?_) (a' := ?_) #[true, true, true, true, true, true, true, true] rfl rfl (Ew HT_.out (by kernel_rfl)) (fun _ _ _ h => h) (Or.inl ⟨by rfl, ?_⟩) ?_ ?_
      rotate_left
      ·intro w'
       go_simp
       first | with_reducible rfl | (rw [if_neg (by omega)]; try with_reducible rfl)
      rotate_left
      ·simp only [Act.put, List.setIfInBounds_toArray, List.set_cons_zero, List.set_cons_succ, Dw, Dy]
       rfl
      refine done_ (Io HT_.out (by kernel_rfl)) ?_
      have hcz14_0 : w13.cell? ⟨gb0, 0, none⟩ = some (.int .i64 a0_0) := (Ak BK0.out 0).trans rfl
      have hcz14_1 : w13.cell? ⟨gb0, 1, none⟩ = some (.string a0_1) := (Ak BK0.out 1).trans rfl
      have hcz14_2 : w13.cell? ⟨gb0, 2, none⟩ = some (.int .i64 a0_2) := (Ak BK0.out 2).trans rfl
      have hcz14_3 : w13.cell? ⟨gb0, 3, none⟩ = some (.int .i64 a0_3) := (Ak BK0.out 3).trans rfl
      have hfz14_0 := Ai BK0.out 0
      have hfz14_1 := Ai BK0.out 1
      have hfz14_2 := Ai BK0.out 2
      have hfz14_3 := Ai BK0.out 3
      try go_wp2
      go_ret
      exact ⟨by first | rfl | (simp [Au, Aw] <;> rfl) | (simp [*, Au, Aw] <;> rfl), by repeat (first | (with_reducible first | exact HB.out | apply Ae | apply Aa | apply Ad | refine Am ?_ GE0.out) | exact HB.out)⟩
     ·rw [if_neg c8] at H
      exact absurd H (by simp)
    ·rw [if_neg c7] at H
     exact absurd H (by simp)
   ·rw [if_neg c6] at H
    exact absurd H (by simp)
  ·rw [if_neg c5] at H
   have c5b0 : (a0_0 == 1) = false := beq_eq_false_iff_ne.mpr c5
   have c5b1 : (a0_0 != 1) = true := bne_iff_ne.mpr c5
   by_cases c15 : a0_0 = 2
   ·rw [if_pos c15] at H
    have c15b0 : (a0_0 == 2) = true := beq_iff_eq.mpr c15
    have c15b1 : (a0_0 != 2) = false := bne_eq_false_iff_eq.mpr c15
    clear c15
    by_cases c16 : ((⟨#[67, 111, 110, 116, 97, 105, 110, 101, 114, 32]⟩ : ByteArray) ++ a0_1).size + 22 ≤ 9223372036854775807
    ·rw [if_pos c16] at H
     have c16b0 := eq_true c16
     have c16b1 : decide (((⟨#[67, 111, 110, 116, 97, 105, 110, 101, 114, 32]⟩ : ByteArray) ++ a0_1).size + 22 ≤ 9223372036854775807) = true := decide_eq_true c16
     try have c16b2 : (9223372036854775807 < ((⟨#[67, 111, 110, 116, 97, 105, 110, 101, 114, 32]⟩ : ByteArray) ++ a0_1).size + 22) = False := eq_false (Nat.not_lt.2 c16)
     have c16z0 : (⟨#[67, 111, 110, 116, 97, 105, 110, 101, 114, 32]⟩ : ByteArray).size = 10 := rfl
     have c16b3 := c16
     try simp only [ByteArray.size_extract, ByteArray.size_append, c16z0] at c16b3
     have c16b4 := eq_false (Nat.not_lt.2 c16b3)
     by_cases c17 : (((⟨#[67, 111, 110, 116, 97, 105, 110, 101, 114, 32]⟩ : ByteArray) ++ a0_1) ++ (⟨#[32, 119, 97, 115, 32, 109, 111, 118, 101, 100, 32, 102, 114, 111, 109, 32, 115, 116, 97, 99, 107, 32]⟩ : ByteArray)).size + t245.size ≤ 9223372036854775807
     ·rw [if_pos c17] at H
      have c17b0 := eq_true c17
      have c17b1 : decide ((((⟨#[67, 111, 110, 116, 97, 105, 110, 101, 114, 32]⟩ : ByteArray) ++ a0_1) ++ (⟨#[32, 119, 97, 115, 32, 109, 111, 118, 101, 100, 32, 102, 114, 111, 109, 32, 115, 116, 97, 99, 107, 32]⟩ : ByteArray)).size + t245.size ≤ 9223372036854775807) = true := decide_eq_true c17
      try have c17b2 : (9223372036854775807 < (((⟨#[67, 111, 110, 116, 97, 105, 110, 101, 114, 32]⟩ : ByteArray) ++ a0_1) ++ (⟨#[32, 119, 97, 115, 32, 109, 111, 118, 101, 100, 32, 102, 114, 111, 109, 32, 115, 116, 97, 99, 107, 32]⟩ : ByteArray)).size + t245.size) = False := eq_false (Nat.not_lt.2 c17)
      have c17z0 : (⟨#[32, 119, 97, 115, 32, 109, 111, 118, 101, 100, 32, 102, 114, 111, 109, 32, 115, 116, 97, 99, 107, 32]⟩ : ByteArray).size = 22 := rfl
      have c17z1 : (⟨#[67, 111, 110, 116, 97, 105, 110, 101, 114, 32]⟩ : ByteArray).size = 10 := rfl
      have c17b3 := c17
      try simp only [ByteArray.size_extract, ByteArray.size_append, c17z0, c17z1] at c17b3
      have c17b4 := eq_false (Nat.not_lt.2 c17b3)
      by_cases c18 : ((((⟨#[67, 111, 110, 116, 97, 105, 110, 101, 114, 32]⟩ : ByteArray) ++ a0_1) ++ (⟨#[32, 119, 97, 115, 32, 109, 111, 118, 101, 100, 32, 102, 114, 111, 109, 32, 115, 116, 97, 99, 107, 32]⟩ : ByteArray)) ++ t245).size + 10 ≤ 9223372036854775807
      ·rw [if_pos c18] at H
       have c18b0 := eq_true c18
       have c18b1 : decide (((((⟨#[67, 111, 110, 116, 97, 105, 110, 101, 114, 32]⟩ : ByteArray) ++ a0_1) ++ (⟨#[32, 119, 97, 115, 32, 109, 111, 118, 101, 100, 32, 102, 114, 111, 109, 32, 115, 116, 97, 99, 107, 32]⟩ : ByteArray)) ++ t245).size + 10 ≤ 9223372036854775807) = true := decide_eq_true c18
       try have c18b2 : (9223372036854775807 < ((((⟨#[67, 111, 110, 116, 97, 105, 110, 101, 114, 32]⟩ : ByteArray) ++ a0_1) ++ (⟨#[32, 119, 97, 115, 32, 109, 111, 118, 101, 100, 32, 102, 114, 111, 109, 32, 115, 116, 97, 99, 107, 32]⟩ : ByteArray)) ++ t245).size + 10) = False := eq_false (Nat.not_lt.2 c18)
       have c18z0 : (⟨#[32, 119, 97, 115, 32, 109, 111, 118, 101, 100, 32, 102, 114, 111, 109, 32, 115, 116, 97, 99, 107, 32]⟩ : ByteArray).size = 22 := rfl
       have c18z1 : (⟨#[67, 111, 110, 116, 97, 105, 110, 101, 114, 32]⟩ : ByteArray).size = 10 := rfl
       have c18b3 := c18
       try simp only [ByteArray.size_extract, ByteArray.size_append, c18z0, c18z1] at c18b3
       have c18b4 := eq_false (Nat.not_lt.2 c18b3)
       by_cases c19 : (((((⟨#[67, 111, 110, 116, 97, 105, 110, 101, 114, 32]⟩ : ByteArray) ++ a0_1) ++ (⟨#[32, 119, 97, 115, 32, 109, 111, 118, 101, 100, 32, 102, 114, 111, 109, 32, 115, 116, 97, 99, 107, 32]⟩ : ByteArray)) ++ t245) ++ (⟨#[32, 116, 111, 32, 115, 116, 97, 99, 107, 32]⟩ : ByteArray)).size + t246.size ≤ 9223372036854775807
       ·rw [if_pos c19] at H
        have c19b0 := eq_true c19
        have c19b1 : decide ((((((⟨#[67, 111, 110, 116, 97, 105, 110, 101, 114, 32]⟩ : ByteArray) ++ a0_1) ++ (⟨#[32, 119, 97, 115, 32, 109, 111, 118, 101, 100, 32, 102, 114, 111, 109, 32, 115, 116, 97, 99, 107, 32]⟩ : ByteArray)) ++ t245) ++ (⟨#[32, 116, 111, 32, 115, 116, 97, 99, 107, 32]⟩ : ByteArray)).size + t246.size ≤ 9223372036854775807) = true := decide_eq_true c19
        try have c19b2 : (9223372036854775807 < (((((⟨#[67, 111, 110, 116, 97, 105, 110, 101, 114, 32]⟩ : ByteArray) ++ a0_1) ++ (⟨#[32, 119, 97, 115, 32, 109, 111, 118, 101, 100, 32, 102, 114, 111, 109, 32, 115, 116, 97, 99, 107, 32]⟩ : ByteArray)) ++ t245) ++ (⟨#[32, 116, 111, 32, 115, 116, 97, 99, 107, 32]⟩ : ByteArray)).size + t246.size) = False := eq_false (Nat.not_lt.2 c19)
        have c19z0 : (⟨#[32, 116, 111, 32, 115, 116, 97, 99, 107, 32]⟩ : ByteArray).size = 10 := rfl
        have c19z1 : (⟨#[32, 119, 97, 115, 32, 109, 111, 118, 101, 100, 32, 102, 114, 111, 109, 32, 115, 116, 97, 99, 107, 32]⟩ : ByteArray).size = 22 := rfl
        have c19z2 : (⟨#[67, 111, 110, 116, 97, 105, 110, 101, 114, 32]⟩ : ByteArray).size = 10 := rfl
        have c19b3 := c19
        try simp only [ByteArray.size_extract, ByteArray.size_append, c19z0, c19z1, c19z2] at c19b3
        have c19b4 := eq_false (Nat.not_lt.2 c19b3)
        by_cases c20 : ((((((⟨#[67, 111, 110, 116, 97, 105, 110, 101, 114, 32]⟩ : ByteArray) ++ a0_1) ++ (⟨#[32, 119, 97, 115, 32, 109, 111, 118, 101, 100, 32, 102, 114, 111, 109, 32, 115, 116, 97, 99, 107, 32]⟩ : ByteArray)) ++ t245) ++ (⟨#[32, 116, 111, 32, 115, 116, 97, 99, 107, 32]⟩ : ByteArray)) ++ t246).size + 1 ≤ 9223372036854775807
        ·rw [if_pos c20] at H
         have c20b0 := eq_true c20
         have c20b1 : decide (((((((⟨#[67, 111, 110, 116, 97, 105, 110, 101, 114, 32]⟩ : ByteArray) ++ a0_1) ++ (⟨#[32, 119, 97, 115, 32, 109, 111, 118, 101, 100, 32, 102, 114, 111, 109, 32, 115, 116, 97, 99, 107, 32]⟩ : ByteArray)) ++ t245) ++ (⟨#[32, 116, 111, 32, 115, 116, 97, 99, 107, 32]⟩ : ByteArray)) ++ t246).size + 1 ≤ 9223372036854775807) = true := decide_eq_true c20
         try have c20b2 : (9223372036854775807 < ((((((⟨#[67, 111, 110, 116, 97, 105, 110, 101, 114, 32]⟩ : ByteArray) ++ a0_1) ++ (⟨#[32, 119, 97, 115, 32, 109, 111, 118, 101, 100, 32, 102, 114, 111, 109, 32, 115, 116, 97, 99, 107, 32]⟩ : ByteArray)) ++ t245) ++ (⟨#[32, 116, 111, 32, 115, 116, 97, 99, 107, 32]⟩ : ByteArray)) ++ t246).size + 1) = False := eq_false (Nat.not_lt.2 c20)
         have c20z0 : (⟨#[32, 116, 111, 32, 115, 116, 97, 99, 107, 32]⟩ : ByteArray).size = 10 := rfl
         have c20z1 : (⟨#[32, 119, 97, 115, 32, 109, 111, 118, 101, 100, 32, 102, 114, 111, 109, 32, 115, 116, 97, 99, 107, 32]⟩ : ByteArray).size = 22 := rfl
         have c20z2 : (⟨#[67, 111, 110, 116, 97, 105, 110, 101, 114, 32]⟩ : ByteArray).size = 10 := rfl
         have c20b3 := c20
         try simp only [ByteArray.size_extract, ByteArray.size_append, c20z0, c20z1, c20z2] at c20b3
         have c20b4 := eq_false (Nat.not_lt.2 c20b3)
         obtain rfl := Option.some.inj H
         go_enter Tryz.func20, Tryz.ntmps20
         try go_wp2_with (first | ((with_reducible refine Dl (N := 1) rfl ?_); refine Dz ?hg (N := 1) ?hd (cs := #[.int .i64 a0_0, .string a0_1, .int .i64 a0_2, .int .i64 a0_3]) (t := 25) ?hr ?_; (case hd => rfl); (case hg => rfl); (case hr => first | (go_simp; done) | (go_simp; rfl)); intro gb0 hg w21 hbox hb; have n0_ := Ac.mk (Ar Yb_ hb); have n1_ := Ac.mk (hbox); have n2_ := Ac.mk ((by rw [hg]; exact (Ba Yb_) : w.heap.size ≤ gb0)); have n3_ := Ac.mk ((by rw [hg]; exact (Ba Yb_) : w.heap.size ≤ gb0)); clear HB; have HB := n0_; have BK0 := n1_; have GW0 := n2_; have GE0 := n3_; clear n0_ n1_ n2_ n3_; clear hb hbox hg; have hcz22_0 : w21.cell? ⟨gb0, 0, none⟩ = some (.int .i64 a0_0) := (Ak BK0.out 0).trans rfl; have hcz22_1 : w21.cell? ⟨gb0, 1, none⟩ = some (.string a0_1) := (Ak BK0.out 1).trans rfl; have hcz22_2 : w21.cell? ⟨gb0, 2, none⟩ = some (.int .i64 a0_2) := (Ak BK0.out 2).trans rfl; have hcz22_3 : w21.cell? ⟨gb0, 3, none⟩ = some (.int .i64 a0_3) := (Ak BK0.out 3).trans rfl; have hfz22_0 := Ai BK0.out 0; have hfz22_1 := Ai BK0.out 1; have hfz22_2 := Ai BK0.out 2; have hfz22_3 := Ai BK0.out 3))
         have n0_ := Ac.mk (Ah BK0.out)
         have n1_ := Ac.mk (Ad HB.out)
         clear BK0
         clear HB
         have BK0 := n0_
         have HB := n1_
         clear n0_ n1_
         refine start_ (n := 8) (S := fun w' => w'.cell? ⟨gb0, 0, none⟩ = some (.int .i64 a0_0) ∧ w'.cell? ⟨gb0, 1, none⟩ = some (.string a0_1) ∧ w'.cell? ⟨gb0, 2, none⟩ = some (.int .i64 a0_2) ∧ w'.cell? ⟨gb0, 3, none⟩ = some (.int .i64 a0_3)) (ds := []) #[false, false, false, false, false, false, false, false] (by kernel_rfl) rfl rfl ⟨(Ak BK0.out 0).trans rfl, (Ak BK0.out 1).trans rfl, (Ak BK0.out 2).trans rfl, (Ak BK0.out 3).trans rfl⟩ (fun hHeld => ?_); refine H9 Dp.tab2 Dp.bits2 (fun HT_ HW_ => ?_)
         generalize w21.drew = w23 at BK0 HB hHeld ⊢
         refine Fb (i := 0) (N := some 11) (v := ?_) (a' := ?_) #[true, false, false, false, false, false, false, false] rfl rfl (Ew HT_.out (by kernel_rfl)) (fun _ _ _ h => h) (Or.inl ⟨by rfl, ?_⟩) ?_ ?_
         rotate_left
         ·intro w'
          go_simp
          first | with_reducible rfl | (rw [if_neg (by omega)]; try with_reducible rfl)
         rotate_left
         ·simp only [Act.put, List.setIfInBounds_toArray, List.set_cons_zero, List.set_cons_succ, Dw, Dy]
          rfl
         refine Fb (i := 3) (N := some 14) (v := ?_) (a' := ?_) #[true, false, false, true, false, false, false, false] rfl rfl (Ew HT_.out (by kernel_rfl)) (fun _ _ _ h => h) (Or.inl ⟨by rfl, ?_⟩) ?_ ?_
         rotate_left
         ·intro w'
          go_simp
          first | with_reducible rfl | (rw [if_neg (by omega)]; try with_reducible rfl)
         rotate_left
         ·simp only [Act.put, List.setIfInBounds_toArray, List.set_cons_zero, List.set_cons_succ, Dw, Dy]
          rfl
         refine He (i := 1) (N := some 12) (v := ?_) (a' := ?_) #[true, true, false, true, false, false, false, false] rfl rfl (Gs HT_.out HW_.out (by kernel_rfl)) (fun _ _ _ h => h) (Or.inl ⟨by rfl, ?_⟩) hHeld ?_ ?_
         rotate_left
         ·rintro w' ⟨s0, s1, s2, s3⟩
          go_simp
          first | with_reducible rfl | (rw [if_neg (by omega)]; try with_reducible rfl)
         rotate_left
         ·simp only [Act.put, List.setIfInBounds_toArray, List.set_cons_zero, List.set_cons_succ, Dw, Dy]
          rfl
         refine He (i := 4) (N := some 15) (v := ?_) (a' := ?_) #[true, true, false, true, true, false, false, false] rfl rfl (Gs HT_.out HW_.out (by kernel_rfl)) (fun _ _ _ h => h) (Or.inl ⟨by rfl, ?_⟩) hHeld ?_ ?_
         rotate_left
         ·rintro w' ⟨s0, s1, s2, s3⟩
          go_simp
          first | with_reducible rfl | (rw [if_neg (by omega)]; try with_reducible rfl)
         rotate_left
         ·simp only [Act.put, List.setIfInBounds_toArray, List.set_cons_zero, List.set_cons_succ, Dw, Dy]
          rfl
         refine one_ (i := 2) (N := some 13) #[true, true, true, true, true, false, false, false] rfl rfl (Hg HT_.out (by kernel_rfl)) (by decide) (fun K hK => ?_)
         refine goes_ Tryz.func38 (by kernel_rfl) rfl #[.int .i64 a0_2] (by rfl) rfl rfl Ya_ ?_
         with_reducible refine (Fh.calls a0_2 t245 _ ?side1 A3.out).mono ?_
         (case side1 => exact Fp.below HGL.out Yc_)
         rintro e w24 ⟨rfl, hb⟩
         refine ⟨_, rfl, ?_⟩
         have n0_ := Ac.mk (Bi (g := gb0) (o := .cells #[.int .i64 a0_0, .string a0_1, .int .i64 a0_2, .int .i64 a0_3] 25 (0, 0)) Yd_ hb)
         have n1_ := Ac.mk (Ar Yc_ hb)
         clear BK0
         clear HB
         have BK0 := n0_
         have HB := n1_
         clear n0_ n1_
         (try clear hb)
         (try clear hb2)
         (try clear hk)
         (try clear hi)
         refine hK.out _ _ ⟨(Ak BK0.out 0).trans rfl, (Ak BK0.out 1).trans rfl, (Ak BK0.out 2).trans rfl, (Ak BK0.out 3).trans rfl⟩ (fun hHeld => ?_)
         clear hK K
         refine norm_ (a' := ?_) ?_ ?_
         rotate_left
         ·show Act.put _ (some 13) _ = _
          simp only [Act.put, List.setIfInBounds_toArray, List.set_cons_zero, List.set_cons_succ, Dw, Dy]
          rfl
         refine one_ (i := 5) (N := some 16) #[true, true, true, true, true, true, false, false] rfl rfl (Hg HT_.out (by kernel_rfl)) (by decide) (fun K hK => ?_)
         refine goes_ Tryz.func38 (by kernel_rfl) rfl #[.int .i64 a0_3] (by rfl) rfl rfl Ya_ ?_
         with_reducible refine (Fh.calls a0_3 t246 _ ?side1 A4.out).mono ?_
         (case side1 => exact Fp.below HGL.out Yc_)
         rintro e w25 ⟨rfl, hb⟩
         refine ⟨_, rfl, ?_⟩
         have n0_ := Ac.mk (Bi (g := gb0) (o := .cells #[.int .i64 a0_0, .string a0_1, .int .i64 a0_2, .int .i64 a0_3] 25 (0, 0)) Yd_ hb)
         have n1_ := Ac.mk (Ar Yc_ hb)
         clear BK0
         clear HB
         have BK0 := n0_
         have HB := n1_
         clear n0_ n1_
         (try clear hb)
         (try clear hb2)
         (try clear hk)
         (try clear hi)
         refine hK.out _ _ ⟨(Ak BK0.out 0).trans rfl, (Ak BK0.out 1).trans rfl, (Ak BK0.out 2).trans rfl, (Ak BK0.out 3).trans rfl⟩ (fun hHeld => ?_)
         clear hK K
         refine norm_ (a' := ?_) ?_ ?_
         rotate_left
         ·show Act.put _ (some 16) _ = _
          simp only [Act.put, List.setIfInBounds_toArray, List.set_cons_zero, List.set_cons_succ, Dw, Dy]
          rfl
         refine Fb (i := 6) (N := some 4) (v := ?_) (a' := ?_) #[true, true, true, true, true, true, true, false] rfl rfl (Ew HT_.out (by kernel_rfl)) (fun _ _ _ h => h) (Or.inl ⟨by rfl, ?_⟩) ?_ ?_
         rotate_left
         ·intro w'
          go_simp
          first | with_reducible rfl | (rw [if_neg (by omega)]; try with_reducible rfl)
         rotate_left
         ·simp only [Act.put, List.setIfInBounds_toArray, List.set_cons_zero, List.set_cons_succ, Dw, Dy]
          rfl
         refine Fb (i := 7) (N := some 5) (v := ?_) (a' := ?_) #[true, true, true, true, true, true, true, true] rfl rfl (Ew HT_.out (by kernel_rfl)) (fun _ _ _ h => h) (Or.inl ⟨by rfl, ?_⟩) ?_ ?_
         rotate_left
         ·intro w'
          go_simp
          first | with_reducible rfl | (rw [if_neg (by omega)]; try with_reducible rfl)
         rotate_left
         ·simp only [Act.put, List.setIfInBounds_toArray, List.set_cons_zero, List.set_cons_succ, Dw, Dy]
          rfl
         refine done_ (Io HT_.out (by kernel_rfl)) ?_
         have hcz26_0 : w25.cell? ⟨gb0, 0, none⟩ = some (.int .i64 a0_0) := (Ak BK0.out 0).trans rfl
         have hcz26_1 : w25.cell? ⟨gb0, 1, none⟩ = some (.string a0_1) := (Ak BK0.out 1).trans rfl
         have hcz26_2 : w25.cell? ⟨gb0, 2, none⟩ = some (.int .i64 a0_2) := (Ak BK0.out 2).trans rfl
         have hcz26_3 : w25.cell? ⟨gb0, 3, none⟩ = some (.int .i64 a0_3) := (Ak BK0.out 3).trans rfl
         have hfz26_0 := Ai BK0.out 0
         have hfz26_1 := Ai BK0.out 1
         have hfz26_2 := Ai BK0.out 2
         have hfz26_3 := Ai BK0.out 3
         try go_wp2
         go_ret
         exact ⟨by first | rfl | (simp [Au, Aw] <;> rfl) | (simp [*, Au, Aw] <;> rfl), by repeat (first | (with_reducible first | exact HB.out | apply Ae | apply Aa | apply Ad | refine Am ?_ GE0.out) | exact HB.out)⟩
        ·rw [if_neg c20] at H
         exact absurd H (by simp)
       ·rw [if_neg c19] at H
        exact absurd H (by simp)
      ·rw [if_neg c18] at H
       exact absurd H (by simp)
     ·rw [if_neg c17] at H
      exact absurd H (by simp)
    ·rw [if_neg c16] at H
     exact absurd H (by simp)
   ·rw [if_neg c15] at H
    have c15b0 : (a0_0 == 2) = false := beq_eq_false_iff_ne.mpr c15
    have c15b1 : (a0_0 != 2) = true := bne_iff_ne.mpr c15
    by_cases c27 : a0_0 = 3
    ·rw [if_pos c27] at H
     have c27b0 : (a0_0 == 3) = true := beq_iff_eq.mpr c27
     have c27b1 : (a0_0 != 3) = false := bne_eq_false_iff_eq.mpr c27
     clear c27
     replace H := Option.bind_eq_some_iff.mp H
     obtain ⟨⟨t247, t248⟩, A280, H⟩ := H
     try dsimp only at H
     have A28 := Ac.mk A280
     clear A280
     by_cases c29 : ((⟨#[67, 111, 110, 116, 97, 105, 110, 101, 114, 32]⟩ : ByteArray) ++ a0_1).size + 13 ≤ 9223372036854775807
     ·rw [if_pos c29] at H
      have c29b0 := eq_true c29
      have c29b1 : decide (((⟨#[67, 111, 110, 116, 97, 105, 110, 101, 114, 32]⟩ : ByteArray) ++ a0_1).size + 13 ≤ 9223372036854775807) = true := decide_eq_true c29
      try have c29b2 : (9223372036854775807 < ((⟨#[67, 111, 110, 116, 97, 105, 110, 101, 114, 32]⟩ : ByteArray) ++ a0_1).size + 13) = False := eq_false (Nat.not_lt.2 c29)
      have c29z0 : (⟨#[67, 111, 110, 116, 97, 105, 110, 101, 114, 32]⟩ : ByteArray).size = 10 := rfl
      have c29b3 := c29
      try simp only [ByteArray.size_extract, ByteArray.size_append, c29z0] at c29b3
      have c29b4 := eq_false (Nat.not_lt.2 c29b3)
      by_cases c30 : (((⟨#[67, 111, 110, 116, 97, 105, 110, 101, 114, 32]⟩ : ByteArray) ++ a0_1) ++ (⟨#[32, 105, 115, 32, 104, 101, 108, 100, 32, 102, 111, 114, 32]⟩ : ByteArray)).size + t247.size ≤ 9223372036854775807
      ·rw [if_pos c30] at H
       have c30b0 := eq_true c30
       have c30b1 : decide ((((⟨#[67, 111, 110, 116, 97, 105, 110, 101, 114, 32]⟩ : ByteArray) ++ a0_1) ++ (⟨#[32, 105, 115, 32, 104, 101, 108, 100, 32, 102, 111, 114, 32]⟩ : ByteArray)).size + t247.size ≤ 9223372036854775807) = true := decide_eq_true c30
       try have c30b2 : (9223372036854775807 < (((⟨#[67, 111, 110, 116, 97, 105, 110, 101, 114, 32]⟩ : ByteArray) ++ a0_1) ++ (⟨#[32, 105, 115, 32, 104, 101, 108, 100, 32, 102, 111, 114, 32]⟩ : ByteArray)).size + t247.size) = False := eq_false (Nat.not_lt.2 c30)
       have c30z0 : (⟨#[32, 105, 115, 32, 104, 101, 108, 100, 32, 102, 111, 114, 32]⟩ : ByteArray).size = 13 := rfl
       have c30z1 : (⟨#[67, 111, 110, 116, 97, 105, 110, 101, 114, 32]⟩ : ByteArray).size = 10 := rfl
       have c30b3 := c30
       try simp only [ByteArray.size_extract, ByteArray.size_append, c30z0, c30z1] at c30b3
       have c30b4 := eq_false (Nat.not_lt.2 c30b3)
       by_cases c31 : ((((⟨#[67, 111, 110, 116, 97, 105, 110, 101, 114, 32]⟩ : ByteArray) ++ a0_1) ++ (⟨#[32, 105, 115, 32, 104, 101, 108, 100, 32, 102, 111, 114, 32]⟩ : ByteArray)) ++ t247).size + 1 ≤ 9223372036854775807
       ·rw [if_pos c31] at H
        have c31b0 := eq_true c31
        have c31b1 : decide (((((⟨#[67, 111, 110, 116, 97, 105, 110, 101, 114, 32]⟩ : ByteArray) ++ a0_1) ++ (⟨#[32, 105, 115, 32, 104, 101, 108, 100, 32, 102, 111, 114, 32]⟩ : ByteArray)) ++ t247).size + 1 ≤ 9223372036854775807) = true := decide_eq_true c31
        try have c31b2 : (9223372036854775807 < ((((⟨#[67, 111, 110, 116, 97, 105, 110, 101, 114, 32]⟩ : ByteArray) ++ a0_1) ++ (⟨#[32, 105, 115, 32, 104, 101, 108, 100, 32, 102, 111, 114, 32]⟩ : ByteArray)) ++ t247).size + 1) = False := eq_false (Nat.not_lt.2 c31)
        have c31z0 : (⟨#[32, 105, 115, 32, 104, 101, 108, 100, 32, 102, 111, 114, 32]⟩ : ByteArray).size = 13 := rfl
        have c31z1 : (⟨#[67, 111, 110, 116, 97, 105, 110, 101, 114, 32]⟩ : ByteArray).size = 10 := rfl
        have c31b3 := c31
        try simp only [ByteArray.size_extract, ByteArray.size_append, c31z0, c31z1] at c31b3
        have c31b4 := eq_false (Nat.not_lt.2 c31b3)
        obtain rfl := Option.some.inj H
        go_enter Tryz.func20, Tryz.ntmps20
        try go_wp2_with (first | ((with_reducible refine Dl (N := 1) rfl ?_); refine Dz ?hg (N := 1) ?hd (cs := #[.int .i64 a0_0, .string a0_1, .int .i64 a0_2, .int .i64 a0_3]) (t := 25) ?hr ?_; (case hd => rfl); (case hg => rfl); (case hr => first | (go_simp; done) | (go_simp; rfl)); intro gb0 hg w32 hbox hb; have n0_ := Ac.mk (Ar Yb_ hb); have n1_ := Ac.mk (hbox); have n2_ := Ac.mk ((by rw [hg]; exact (Ba Yb_) : w.heap.size ≤ gb0)); have n3_ := Ac.mk ((by rw [hg]; exact (Ba Yb_) : w.heap.size ≤ gb0)); clear HB; have HB := n0_; have BK0 := n1_; have GW0 := n2_; have GE0 := n3_; clear n0_ n1_ n2_ n3_; clear hb hbox hg; have hcz33_0 : w32.cell? ⟨gb0, 0, none⟩ = some (.int .i64 a0_0) := (Ak BK0.out 0).trans rfl; have hcz33_1 : w32.cell? ⟨gb0, 1, none⟩ = some (.string a0_1) := (Ak BK0.out 1).trans rfl; have hcz33_2 : w32.cell? ⟨gb0, 2, none⟩ = some (.int .i64 a0_2) := (Ak BK0.out 2).trans rfl; have hcz33_3 : w32.cell? ⟨gb0, 3, none⟩ = some (.int .i64 a0_3) := (Ak BK0.out 3).trans rfl; have hfz33_0 := Ai BK0.out 0; have hfz33_1 := Ai BK0.out 1; have hfz33_2 := Ai BK0.out 2; have hfz33_3 := Ai BK0.out 3))
        have n0_ := Ac.mk (Ah BK0.out)
        have n1_ := Ac.mk (Ad HB.out)
        clear BK0
        clear HB
        have BK0 := n0_
        have HB := n1_
        clear n0_ n1_
        refine start_ (n := 8) (S := fun w' => w'.cell? ⟨gb0, 0, none⟩ = some (.int .i64 a0_0) ∧ w'.cell? ⟨gb0, 1, none⟩ = some (.string a0_1) ∧ w'.cell? ⟨gb0, 2, none⟩ = some (.int .i64 a0_2) ∧ w'.cell? ⟨gb0, 3, none⟩ = some (.int .i64 a0_3)) (ds := []) #[false, false, false, false, false, false, false, false] (by kernel_rfl) rfl rfl ⟨(Ak BK0.out 0).trans rfl, (Ak BK0.out 1).trans rfl, (Ak BK0.out 2).trans rfl, (Ak BK0.out 3).trans rfl⟩ (fun hHeld => ?_); refine H9 Dp.tab2 Dp.bits2 (fun HT_ HW_ => ?_)
        generalize w32.drew = w34 at BK0 HB hHeld ⊢
        refine Fb (i := 0) (N := some 11) (v := ?_) (a' := ?_) #[true, false, false, false, false, false, false, false] rfl rfl (Ew HT_.out (by kernel_rfl)) (fun _ _ _ h => h) (Or.inl ⟨by rfl, ?_⟩) ?_ ?_
        rotate_left
        ·intro w'
         go_simp
         first | with_reducible rfl | (rw [if_neg (by omega)]; try with_reducible rfl)
        rotate_left
        ·simp only [Act.put, List.setIfInBounds_toArray, List.set_cons_zero, List.set_cons_succ, Dw, Dy]
         rfl
        refine Fb (i := 3) (N := some 14) (v := ?_) (a' := ?_) #[true, false, false, true, false, false, false, false] rfl rfl (Ew HT_.out (by kernel_rfl)) (fun _ _ _ h => h) (Or.inl ⟨by rfl, ?_⟩) ?_ ?_
        rotate_left
        ·intro w'
         go_simp
         first | with_reducible rfl | (rw [if_neg (by omega)]; try with_reducible rfl)
        rotate_left
        ·simp only [Act.put, List.setIfInBounds_toArray, List.set_cons_zero, List.set_cons_succ, Dw, Dy]
         rfl
        refine He (i := 1) (N := some 12) (v := ?_) (a' := ?_) #[true, true, false, true, false, false, false, false] rfl rfl (Gs HT_.out HW_.out (by kernel_rfl)) (fun _ _ _ h => h) (Or.inl ⟨by rfl, ?_⟩) hHeld ?_ ?_
        rotate_left
        ·rintro w' ⟨s0, s1, s2, s3⟩
         go_simp
         first | with_reducible rfl | (rw [if_neg (by omega)]; try with_reducible rfl)
        rotate_left
        ·simp only [Act.put, List.setIfInBounds_toArray, List.set_cons_zero, List.set_cons_succ, Dw, Dy]
         rfl
        refine He (i := 4) (N := some 15) (v := ?_) (a' := ?_) #[true, true, false, true, true, false, false, false] rfl rfl (Gs HT_.out HW_.out (by kernel_rfl)) (fun _ _ _ h => h) (Or.inl ⟨by rfl, ?_⟩) hHeld ?_ ?_
        rotate_left
        ·rintro w' ⟨s0, s1, s2, s3⟩
         go_simp
         first | with_reducible rfl | (rw [if_neg (by omega)]; try with_reducible rfl)
        rotate_left
        ·simp only [Act.put, List.setIfInBounds_toArray, List.set_cons_zero, List.set_cons_succ, Dw, Dy]
         rfl
        refine one_ (i := 2) (N := some 13) #[true, true, true, true, true, false, false, false] rfl rfl (Hg HT_.out (by kernel_rfl)) (by decide) (fun K hK => ?_)
        refine goes_ Tryz.func38 (by kernel_rfl) rfl #[.int .i64 a0_2] (by rfl) rfl rfl Ya_ ?_
        with_reducible refine (Fh.calls a0_2 t245 _ ?side1 A3.out).mono ?_
        (case side1 => exact Fp.below HGL.out Yc_)
        rintro e w35 ⟨rfl, hb⟩
        refine ⟨_, rfl, ?_⟩
        have n0_ := Ac.mk (Bi (g := gb0) (o := .cells #[.int .i64 a0_0, .string a0_1, .int .i64 a0_2, .int .i64 a0_3] 25 (0, 0)) Yd_ hb)
        have n1_ := Ac.mk (Ar Yc_ hb)
        clear BK0
        clear HB
        have BK0 := n0_
        have HB := n1_
        clear n0_ n1_
        (try clear hb)
        (try clear hb2)
        (try clear hk)
        (try clear hi)
        refine hK.out _ _ ⟨(Ak BK0.out 0).trans rfl, (Ak BK0.out 1).trans rfl, (Ak BK0.out 2).trans rfl, (Ak BK0.out 3).trans rfl⟩ (fun hHeld => ?_)
        clear hK K
        refine norm_ (a' := ?_) ?_ ?_
        rotate_left
        ·show Act.put _ (some 13) _ = _
         simp only [Act.put, List.setIfInBounds_toArray, List.set_cons_zero, List.set_cons_succ, Dw, Dy]
         rfl
        refine one_ (i := 5) (N := some 16) #[true, true, true, true, true, true, false, false] rfl rfl (Hg HT_.out (by kernel_rfl)) (by decide) (fun K hK => ?_)
        refine goes_ Tryz.func38 (by kernel_rfl) rfl #[.int .i64 a0_3] (by rfl) rfl rfl Ya_ ?_
        with_reducible refine (Fh.calls a0_3 t246 _ ?side1 A4.out).mono ?_
        (case side1 => exact Fp.below HGL.out Yc_)
        rintro e w36 ⟨rfl, hb⟩
        refine ⟨_, rfl, ?_⟩
        have n0_ := Ac.mk (Bi (g := gb0) (o := .cells #[.int .i64 a0_0, .string a0_1, .int .i64 a0_2, .int .i64 a0_3] 25 (0, 0)) Yd_ hb)
        have n1_ := Ac.mk (Ar Yc_ hb)
        clear BK0
        clear HB
        have BK0 := n0_
        have HB := n1_
        clear n0_ n1_
        (try clear hb)
        (try clear hb2)
        (try clear hk)
        (try clear hi)
        refine hK.out _ _ ⟨(Ak BK0.out 0).trans rfl, (Ak BK0.out 1).trans rfl, (Ak BK0.out 2).trans rfl, (Ak BK0.out 3).trans rfl⟩ (fun hHeld => ?_)
        clear hK K
        refine norm_ (a' := ?_) ?_ ?_
        rotate_left
        ·show Act.put _ (some 16) _ = _
         simp only [Act.put, List.setIfInBounds_toArray, List.set_cons_zero, List.set_cons_succ, Dw, Dy]
         rfl
        refine Fb (i := 6) (N := some 4) (v := ?_) (a' := ?_) #[true, true, true, true, true, true, true, false] rfl rfl (Ew HT_.out (by kernel_rfl)) (fun _ _ _ h => h) (Or.inl ⟨by rfl, ?_⟩) ?_ ?_
        rotate_left
        ·intro w'
         go_simp
         first | with_reducible rfl | (rw [if_neg (by omega)]; try with_reducible rfl)
        rotate_left
        ·simp only [Act.put, List.setIfInBounds_toArray, List.set_cons_zero, List.set_cons_succ, Dw, Dy]
         rfl
        refine Fb (i := 7) (N := some 5) (v := ?_) (a' := ?_) #[true, true, true, true, true, true, true, true] rfl rfl (Ew HT_.out (by kernel_rfl)) (fun _ _ _ h => h) (Or.inl ⟨by rfl, ?_⟩) ?_ ?_
        rotate_left
        ·intro w'
         go_simp
         first | with_reducible rfl | (rw [if_neg (by omega)]; try with_reducible rfl)
        rotate_left
        ·simp only [Act.put, List.setIfInBounds_toArray, List.set_cons_zero, List.set_cons_succ, Dw, Dy]
         rfl
        refine done_ (Io HT_.out (by kernel_rfl)) ?_
        have hcz37_0 : w36.cell? ⟨gb0, 0, none⟩ = some (.int .i64 a0_0) := (Ak BK0.out 0).trans rfl
        have hcz37_1 : w36.cell? ⟨gb0, 1, none⟩ = some (.string a0_1) := (Ak BK0.out 1).trans rfl
        have hcz37_2 : w36.cell? ⟨gb0, 2, none⟩ = some (.int .i64 a0_2) := (Ak BK0.out 2).trans rfl
        have hcz37_3 : w36.cell? ⟨gb0, 3, none⟩ = some (.int .i64 a0_3) := (Ak BK0.out 3).trans rfl
        have hfz37_0 := Ai BK0.out 0
        have hfz37_1 := Ai BK0.out 1
        have hfz37_2 := Ai BK0.out 2
        have hfz37_3 := Ai BK0.out 3
        try go_wp2_with (first | ((with_reducible refine Ap (f := 39) rfl ?_); refine Bj (some 41) rfl rfl Tryz.func39 (by kernel_rfl) rfl #[.int .i64 a0_2] rfl Ya_ ?_; (with_reducible refine (D9.calls k a0_2 t247 t248 _ A28.out).mono ?_); rintro e w38 ⟨rfl, hb⟩; refine ⟨_, rfl, ?_⟩; have n0_ := Ac.mk (Bi (g := gb0) (o := .cells #[.int .i64 a0_0, .string a0_1, .int .i64 a0_2, .int .i64 a0_3] 25 (0, 0)) Yd_ hb); have n1_ := Ac.mk (Ar Yc_ hb); clear BK0; clear HB; have BK0 := n0_; have HB := n1_; clear n0_ n1_; (try clear hb); (try clear hb2); (try clear hk); (try clear hi)))
        go_ret
        exact ⟨by first | rfl | (simp [Au, Aw] <;> rfl) | (simp [*, Au, Aw] <;> rfl), by repeat (first | (with_reducible first | exact HB.out | apply Ae | apply Aa | apply Ad | refine Am ?_ GE0.out) | exact HB.out)⟩
       ·rw [if_neg c31] at H
        exact absurd H (by simp)
      ·rw [if_neg c30] at H
       exact absurd H (by simp)
     ·rw [if_neg c29] at H
      exact absurd H (by simp)
    ·rw [if_neg c27] at H
     have c27b0 : (a0_0 == 3) = false := beq_eq_false_iff_ne.mpr c27
     have c27b1 : (a0_0 != 3) = true := bne_iff_ne.mpr c27
     by_cases c39 : a0_0 = 4
     ·rw [if_pos c39] at H
      have c39b0 : (a0_0 == 4) = true := beq_iff_eq.mpr c39
      have c39b1 : (a0_0 != 4) = false := bne_eq_false_iff_eq.mpr c39
      clear c39
      by_cases c40 : ((⟨#[67, 111, 110, 116, 97, 105, 110, 101, 114, 32]⟩ : ByteArray) ++ a0_1).size + 29 ≤ 9223372036854775807
      ·rw [if_pos c40] at H
       have c40b0 := eq_true c40
       have c40b1 : decide (((⟨#[67, 111, 110, 116, 97, 105, 110, 101, 114, 32]⟩ : ByteArray) ++ a0_1).size + 29 ≤ 9223372036854775807) = true := decide_eq_true c40
       try have c40b2 : (9223372036854775807 < ((⟨#[67, 111, 110, 116, 97, 105, 110, 101, 114, 32]⟩ : ByteArray) ++ a0_1).size + 29) = False := eq_false (Nat.not_lt.2 c40)
       have c40z0 : (⟨#[67, 111, 110, 116, 97, 105, 110, 101, 114, 32]⟩ : ByteArray).size = 10 := rfl
       have c40b3 := c40
       try simp only [ByteArray.size_extract, ByteArray.size_append, c40z0] at c40b3
       have c40b4 := eq_false (Nat.not_lt.2 c40b3)
       by_cases c41 : (((⟨#[67, 111, 110, 116, 97, 105, 110, 101, 114, 32]⟩ : ByteArray) ++ a0_1) ++ (⟨#[32, 105, 115, 32, 114, 101, 97, 100, 121, 32, 102, 111, 114, 32, 112, 105, 99, 107, 117, 112, 32, 105, 110, 32, 115, 108, 111, 116, 32]⟩ : ByteArray)).size + t245.size ≤ 9223372036854775807
       ·rw [if_pos c41] at H
        have c41b0 := eq_true c41
        have c41b1 : decide ((((⟨#[67, 111, 110, 116, 97, 105, 110, 101, 114, 32]⟩ : ByteArray) ++ a0_1) ++ (⟨#[32, 105, 115, 32, 114, 101, 97, 100, 121, 32, 102, 111, 114, 32, 112, 105, 99, 107, 117, 112, 32, 105, 110, 32, 115, 108, 111, 116, 32]⟩ : ByteArray)).size + t245.size ≤ 9223372036854775807) = true := decide_eq_true c41
        try have c41b2 : (9223372036854775807 < (((⟨#[67, 111, 110, 116, 97, 105, 110, 101, 114, 32]⟩ : ByteArray) ++ a0_1) ++ (⟨#[32, 105, 115, 32, 114, 101, 97, 100, 121, 32, 102, 111, 114, 32, 112, 105, 99, 107, 117, 112, 32, 105, 110, 32, 115, 108, 111, 116, 32]⟩ : ByteArray)).size + t245.size) = False := eq_false (Nat.not_lt.2 c41)
        have c41z0 : (⟨#[32, 105, 115, 32, 114, 101, 97, 100, 121, 32, 102, 111, 114, 32, 112, 105, 99, 107, 117, 112, 32, 105, 110, 32, 115, 108, 111, 116, 32]⟩ : ByteArray).size = 29 := rfl
        have c41z1 : (⟨#[67, 111, 110, 116, 97, 105, 110, 101, 114, 32]⟩ : ByteArray).size = 10 := rfl
        have c41b3 := c41
        try simp only [ByteArray.size_extract, ByteArray.size_append, c41z0, c41z1] at c41b3
        have c41b4 := eq_false (Nat.not_lt.2 c41b3)
        by_cases c42 : ((((⟨#[67, 111, 110, 116, 97, 105, 110, 101, 114, 32]⟩ : ByteArray) ++ a0_1) ++ (⟨#[32, 105, 115, 32, 114, 101, 97, 100, 121, 32, 102, 111, 114, 32, 112, 105, 99, 107, 117, 112, 32, 105, 110, 32, 115, 108, 111, 116, 32]⟩ : ByteArray)) ++ t245).size + 1 ≤ 9223372036854775807
        ·rw [if_pos c42] at H
         have c42b0 := eq_true c42
         have c42b1 : decide (((((⟨#[67, 111, 110, 116, 97, 105, 110, 101, 114, 32]⟩ : ByteArray) ++ a0_1) ++ (⟨#[32, 105, 115, 32, 114, 101, 97, 100, 121, 32, 102, 111, 114, 32, 112, 105, 99, 107, 117, 112, 32, 105, 110, 32, 115, 108, 111, 116, 32]⟩ : ByteArray)) ++ t245).size + 1 ≤ 9223372036854775807) = true := decide_eq_true c42
         try have c42b2 : (9223372036854775807 < ((((⟨#[67, 111, 110, 116, 97, 105, 110, 101, 114, 32]⟩ : ByteArray) ++ a0_1) ++ (⟨#[32, 105, 115, 32, 114, 101, 97, 100, 121, 32, 102, 111, 114, 32, 112, 105, 99, 107, 117, 112, 32, 105, 110, 32, 115, 108, 111, 116, 32]⟩ : ByteArray)) ++ t245).size + 1) = False := eq_false (Nat.not_lt.2 c42)
         have c42z0 : (⟨#[32, 105, 115, 32, 114, 101, 97, 100, 121, 32, 102, 111, 114, 32, 112, 105, 99, 107, 117, 112, 32, 105, 110, 32, 115, 108, 111, 116, 32]⟩ : ByteArray).size = 29 := rfl
         have c42z1 : (⟨#[67, 111, 110, 116, 97, 105, 110, 101, 114, 32]⟩ : ByteArray).size = 10 := rfl
         have c42b3 := c42
         try simp only [ByteArray.size_extract, ByteArray.size_append, c42z0, c42z1] at c42b3
         have c42b4 := eq_false (Nat.not_lt.2 c42b3)
         obtain rfl := Option.some.inj H
         go_enter Tryz.func20, Tryz.ntmps20
         try go_wp2_with (first | ((with_reducible refine Dl (N := 1) rfl ?_); refine Dz ?hg (N := 1) ?hd (cs := #[.int .i64 a0_0, .string a0_1, .int .i64 a0_2, .int .i64 a0_3]) (t := 25) ?hr ?_; (case hd => rfl); (case hg => rfl); (case hr => first | (go_simp; done) | (go_simp; rfl)); intro gb0 hg w43 hbox hb; have n0_ := Ac.mk (Ar Yb_ hb); have n1_ := Ac.mk (hbox); have n2_ := Ac.mk ((by rw [hg]; exact (Ba Yb_) : w.heap.size ≤ gb0)); have n3_ := Ac.mk ((by rw [hg]; exact (Ba Yb_) : w.heap.size ≤ gb0)); clear HB; have HB := n0_; have BK0 := n1_; have GW0 := n2_; have GE0 := n3_; clear n0_ n1_ n2_ n3_; clear hb hbox hg; have hcz44_0 : w43.cell? ⟨gb0, 0, none⟩ = some (.int .i64 a0_0) := (Ak BK0.out 0).trans rfl; have hcz44_1 : w43.cell? ⟨gb0, 1, none⟩ = some (.string a0_1) := (Ak BK0.out 1).trans rfl; have hcz44_2 : w43.cell? ⟨gb0, 2, none⟩ = some (.int .i64 a0_2) := (Ak BK0.out 2).trans rfl; have hcz44_3 : w43.cell? ⟨gb0, 3, none⟩ = some (.int .i64 a0_3) := (Ak BK0.out 3).trans rfl; have hfz44_0 := Ai BK0.out 0; have hfz44_1 := Ai BK0.out 1; have hfz44_2 := Ai BK0.out 2; have hfz44_3 := Ai BK0.out 3))
         have n0_ := Ac.mk (Ah BK0.out)
         have n1_ := Ac.mk (Ad HB.out)
         clear BK0
         clear HB
         have BK0 := n0_
         have HB := n1_
         clear n0_ n1_
         refine start_ (n := 8) (S := fun w' => w'.cell? ⟨gb0, 0, none⟩ = some (.int .i64 a0_0) ∧ w'.cell? ⟨gb0, 1, none⟩ = some (.string a0_1) ∧ w'.cell? ⟨gb0, 2, none⟩ = some (.int .i64 a0_2) ∧ w'.cell? ⟨gb0, 3, none⟩ = some (.int .i64 a0_3)) (ds := []) #[false, false, false, false, false, false, false, false] (by kernel_rfl) rfl rfl ⟨(Ak BK0.out 0).trans rfl, (Ak BK0.out 1).trans rfl, (Ak BK0.out 2).trans rfl, (Ak BK0.out 3).trans rfl⟩ (fun hHeld => ?_); refine H9 Dp.tab2 Dp.bits2 (fun HT_ HW_ => ?_)
         generalize w43.drew = w45 at BK0 HB hHeld ⊢
         refine Fb (i := 0) (N := some 11) (v := ?_) (a' := ?_) #[true, false, false, false, false, false, false, false] rfl rfl (Ew HT_.out (by kernel_rfl)) (fun _ _ _ h => h) (Or.inl ⟨by rfl, ?_⟩) ?_ ?_
         rotate_left
         ·intro w'
          go_simp
          first | with_reducible rfl | (rw [if_neg (by omega)]; try with_reducible rfl)
         rotate_left
         ·simp only [Act.put, List.setIfInBounds_toArray, List.set_cons_zero, List.set_cons_succ, Dw, Dy]
          rfl
         refine Fb (i := 3) (N := some 14) (v := ?_) (a' := ?_) #[true, false, false, true, false, false, false, false] rfl rfl (Ew HT_.out (by kernel_rfl)) (fun _ _ _ h => h) (Or.inl ⟨by rfl, ?_⟩) ?_ ?_
         rotate_left
         ·intro w'
          go_simp
          first | with_reducible rfl | (rw [if_neg (by omega)]; try with_reducible rfl)
         rotate_left
         ·simp only [Act.put, List.setIfInBounds_toArray, List.set_cons_zero, List.set_cons_succ, Dw, Dy]
          rfl
         refine He (i := 1) (N := some 12) (v := ?_) (a' := ?_) #[true, true, false, true, false, false, false, false] rfl rfl (Gs HT_.out HW_.out (by kernel_rfl)) (fun _ _ _ h => h) (Or.inl ⟨by rfl, ?_⟩) hHeld ?_ ?_
         rotate_left
         ·rintro w' ⟨s0, s1, s2, s3⟩
          go_simp
          first | with_reducible rfl | (rw [if_neg (by omega)]; try with_reducible rfl)
         rotate_left
         ·simp only [Act.put, List.setIfInBounds_toArray, List.set_cons_zero, List.set_cons_succ, Dw, Dy]
          rfl
         refine He (i := 4) (N := some 15) (v := ?_) (a' := ?_) #[true, true, false, true, true, false, false, false] rfl rfl (Gs HT_.out HW_.out (by kernel_rfl)) (fun _ _ _ h => h) (Or.inl ⟨by rfl, ?_⟩) hHeld ?_ ?_
         rotate_left
         ·rintro w' ⟨s0, s1, s2, s3⟩
          go_simp
          first | with_reducible rfl | (rw [if_neg (by omega)]; try with_reducible rfl)
         rotate_left
         ·simp only [Act.put, List.setIfInBounds_toArray, List.set_cons_zero, List.set_cons_succ, Dw, Dy]
          rfl
         refine one_ (i := 2) (N := some 13) #[true, true, true, true, true, false, false, false] rfl rfl (Hg HT_.out (by kernel_rfl)) (by decide) (fun K hK => ?_)
         refine goes_ Tryz.func38 (by kernel_rfl) rfl #[.int .i64 a0_2] (by rfl) rfl rfl Ya_ ?_
         with_reducible refine (Fh.calls a0_2 t245 _ ?side1 A3.out).mono ?_
         (case side1 => exact Fp.below HGL.out Yc_)
         rintro e w46 ⟨rfl, hb⟩
         refine ⟨_, rfl, ?_⟩
         have n0_ := Ac.mk (Bi (g := gb0) (o := .cells #[.int .i64 a0_0, .string a0_1, .int .i64 a0_2, .int .i64 a0_3] 25 (0, 0)) Yd_ hb)
         have n1_ := Ac.mk (Ar Yc_ hb)
         clear BK0
         clear HB
         have BK0 := n0_
         have HB := n1_
         clear n0_ n1_
         (try clear hb)
         (try clear hb2)
         (try clear hk)
         (try clear hi)
         refine hK.out _ _ ⟨(Ak BK0.out 0).trans rfl, (Ak BK0.out 1).trans rfl, (Ak BK0.out 2).trans rfl, (Ak BK0.out 3).trans rfl⟩ (fun hHeld => ?_)
         clear hK K
         refine norm_ (a' := ?_) ?_ ?_
         rotate_left
         ·show Act.put _ (some 13) _ = _
          simp only [Act.put, List.setIfInBounds_toArray, List.set_cons_zero, List.set_cons_succ, Dw, Dy]
          rfl
         refine one_ (i := 5) (N := some 16) #[true, true, true, true, true, true, false, false] rfl rfl (Hg HT_.out (by kernel_rfl)) (by decide) (fun K hK => ?_)
         refine goes_ Tryz.func38 (by kernel_rfl) rfl #[.int .i64 a0_3] (by rfl) rfl rfl Ya_ ?_
         with_reducible refine (Fh.calls a0_3 t246 _ ?side1 A4.out).mono ?_
         (case side1 => exact Fp.below HGL.out Yc_)
         rintro e w47 ⟨rfl, hb⟩
         refine ⟨_, rfl, ?_⟩
         have n0_ := Ac.mk (Bi (g := gb0) (o := .cells #[.int .i64 a0_0, .string a0_1, .int .i64 a0_2, .int .i64 a0_3] 25 (0, 0)) Yd_ hb)
         have n1_ := Ac.mk (Ar Yc_ hb)
         clear BK0
         clear HB
         have BK0 := n0_
         have HB := n1_
         clear n0_ n1_
         (try clear hb)
         (try clear hb2)
         (try clear hk)
         (try clear hi)
         refine hK.out _ _ ⟨(Ak BK0.out 0).trans rfl, (Ak BK0.out 1).trans rfl, (Ak BK0.out 2).trans rfl, (Ak BK0.out 3).trans rfl⟩ (fun hHeld => ?_)
         clear hK K
         refine norm_ (a' := ?_) ?_ ?_
         rotate_left
         ·show Act.put _ (some 16) _ = _
          simp only [Act.put, List.setIfInBounds_toArray, List.set_cons_zero, List.set_cons_succ, Dw, Dy]
          rfl
         refine Fb (i := 6) (N := some 4) (v := ?_) (a' := ?_) #[true, true, true, true, true, true, true, false] rfl rfl (Ew HT_.out (by kernel_rfl)) (fun _ _ _ h => h) (Or.inl ⟨by rfl, ?_⟩) ?_ ?_
         rotate_left
         ·intro w'
          go_simp
          first | with_reducible rfl | (rw [if_neg (by omega)]; try with_reducible rfl)
         rotate_left
         ·simp only [Act.put, List.setIfInBounds_toArray, List.set_cons_zero, List.set_cons_succ, Dw, Dy]
          rfl
         refine Fb (i := 7) (N := some 5) (v := ?_) (a' := ?_) #[true, true, true, true, true, true, true, true] rfl rfl (Ew HT_.out (by kernel_rfl)) (fun _ _ _ h => h) (Or.inl ⟨by rfl, ?_⟩) ?_ ?_
         rotate_left
         ·intro w'
          go_simp
          first | with_reducible rfl | (rw [if_neg (by omega)]; try with_reducible rfl)
         rotate_left
         ·simp only [Act.put, List.setIfInBounds_toArray, List.set_cons_zero, List.set_cons_succ, Dw, Dy]
          rfl
         refine done_ (Io HT_.out (by kernel_rfl)) ?_
         have hcz48_0 : w47.cell? ⟨gb0, 0, none⟩ = some (.int .i64 a0_0) := (Ak BK0.out 0).trans rfl
         have hcz48_1 : w47.cell? ⟨gb0, 1, none⟩ = some (.string a0_1) := (Ak BK0.out 1).trans rfl
         have hcz48_2 : w47.cell? ⟨gb0, 2, none⟩ = some (.int .i64 a0_2) := (Ak BK0.out 2).trans rfl
         have hcz48_3 : w47.cell? ⟨gb0, 3, none⟩ = some (.int .i64 a0_3) := (Ak BK0.out 3).trans rfl
         have hfz48_0 := Ai BK0.out 0
         have hfz48_1 := Ai BK0.out 1
         have hfz48_2 := Ai BK0.out 2
         have hfz48_3 := Ai BK0.out 3
         try go_wp2
         go_ret
         exact ⟨by first | rfl | (simp [Au, Aw] <;> rfl) | (simp [*, Au, Aw] <;> rfl), by repeat (first | (with_reducible first | exact HB.out | apply Ae | apply Aa | apply Ad | refine Am ?_ GE0.out) | exact HB.out)⟩
        ·rw [if_neg c42] at H
         exact absurd H (by simp)
       ·rw [if_neg c41] at H
        exact absurd H (by simp)
      ·rw [if_neg c40] at H
       exact absurd H (by simp)
     ·rw [if_neg c39] at H
      have c39b0 : (a0_0 == 4) = false := beq_eq_false_iff_ne.mpr c39
      have c39b1 : (a0_0 != 4) = true := bne_iff_ne.mpr c39
      by_cases c49 : a0_3 = 1
      ·rw [if_pos c49] at H
       have c49b0 : (a0_3 == 1) = true := beq_iff_eq.mpr c49
       have c49b1 : (a0_3 != 1) = false := bne_eq_false_iff_eq.mpr c49
       clear c49
       by_cases c50 : ((⟨#[67, 111, 110, 116, 97, 105, 110, 101, 114, 32]⟩ : ByteArray) ++ a0_1).size + 6 ≤ 9223372036854775807
       ·rw [if_pos c50] at H
        have c50b0 := eq_true c50
        have c50b1 : decide (((⟨#[67, 111, 110, 116, 97, 105, 110, 101, 114, 32]⟩ : ByteArray) ++ a0_1).size + 6 ≤ 9223372036854775807) = true := decide_eq_true c50
        try have c50b2 : (9223372036854775807 < ((⟨#[67, 111, 110, 116, 97, 105, 110, 101, 114, 32]⟩ : ByteArray) ++ a0_1).size + 6) = False := eq_false (Nat.not_lt.2 c50)
        have c50z0 : (⟨#[67, 111, 110, 116, 97, 105, 110, 101, 114, 32]⟩ : ByteArray).size = 10 := rfl
        have c50b3 := c50
        try simp only [ByteArray.size_extract, ByteArray.size_append, c50z0] at c50b3
        have c50b4 := eq_false (Nat.not_lt.2 c50b3)
        by_cases c51 : (((⟨#[67, 111, 110, 116, 97, 105, 110, 101, 114, 32]⟩ : ByteArray) ++ a0_1) ++ (⟨#[32, 111, 119, 101, 115, 32]⟩ : ByteArray)).size + t245.size ≤ 9223372036854775807
        ·rw [if_pos c51] at H
         have c51b0 := eq_true c51
         have c51b1 : decide ((((⟨#[67, 111, 110, 116, 97, 105, 110, 101, 114, 32]⟩ : ByteArray) ++ a0_1) ++ (⟨#[32, 111, 119, 101, 115, 32]⟩ : ByteArray)).size + t245.size ≤ 9223372036854775807) = true := decide_eq_true c51
         try have c51b2 : (9223372036854775807 < (((⟨#[67, 111, 110, 116, 97, 105, 110, 101, 114, 32]⟩ : ByteArray) ++ a0_1) ++ (⟨#[32, 111, 119, 101, 115, 32]⟩ : ByteArray)).size + t245.size) = False := eq_false (Nat.not_lt.2 c51)
         have c51z0 : (⟨#[32, 111, 119, 101, 115, 32]⟩ : ByteArray).size = 6 := rfl
         have c51z1 : (⟨#[67, 111, 110, 116, 97, 105, 110, 101, 114, 32]⟩ : ByteArray).size = 10 := rfl
         have c51b3 := c51
         try simp only [ByteArray.size_extract, ByteArray.size_append, c51z0, c51z1] at c51b3
         have c51b4 := eq_false (Nat.not_lt.2 c51b3)
         by_cases c52 : ((((⟨#[67, 111, 110, 116, 97, 105, 110, 101, 114, 32]⟩ : ByteArray) ++ a0_1) ++ (⟨#[32, 111, 119, 101, 115, 32]⟩ : ByteArray)) ++ t245).size + 11 ≤ 9223372036854775807
         ·rw [if_pos c52] at H
          have c52b0 := eq_true c52
          have c52b1 : decide (((((⟨#[67, 111, 110, 116, 97, 105, 110, 101, 114, 32]⟩ : ByteArray) ++ a0_1) ++ (⟨#[32, 111, 119, 101, 115, 32]⟩ : ByteArray)) ++ t245).size + 11 ≤ 9223372036854775807) = true := decide_eq_true c52
          try have c52b2 : (9223372036854775807 < ((((⟨#[67, 111, 110, 116, 97, 105, 110, 101, 114, 32]⟩ : ByteArray) ++ a0_1) ++ (⟨#[32, 111, 119, 101, 115, 32]⟩ : ByteArray)) ++ t245).size + 11) = False := eq_false (Nat.not_lt.2 c52)
          have c52z0 : (⟨#[32, 111, 119, 101, 115, 32]⟩ : ByteArray).size = 6 := rfl
          have c52z1 : (⟨#[67, 111, 110, 116, 97, 105, 110, 101, 114, 32]⟩ : ByteArray).size = 10 := rfl
          have c52b3 := c52
          try simp only [ByteArray.size_extract, ByteArray.size_append, c52z0, c52z1] at c52b3
          have c52b4 := eq_false (Nat.not_lt.2 c52b3)
          obtain rfl := Option.some.inj H
          go_enter Tryz.func20, Tryz.ntmps20
          try go_wp2_with (first | ((with_reducible refine Dl (N := 1) rfl ?_); refine Dz ?hg (N := 1) ?hd (cs := #[.int .i64 a0_0, .string a0_1, .int .i64 a0_2, .int .i64 a0_3]) (t := 25) ?hr ?_; (case hd => rfl); (case hg => rfl); (case hr => first | (go_simp; done) | (go_simp; rfl)); intro gb0 hg w53 hbox hb; have n0_ := Ac.mk (Ar Yb_ hb); have n1_ := Ac.mk (hbox); have n2_ := Ac.mk ((by rw [hg]; exact (Ba Yb_) : w.heap.size ≤ gb0)); have n3_ := Ac.mk ((by rw [hg]; exact (Ba Yb_) : w.heap.size ≤ gb0)); clear HB; have HB := n0_; have BK0 := n1_; have GW0 := n2_; have GE0 := n3_; clear n0_ n1_ n2_ n3_; clear hb hbox hg; have hcz54_0 : w53.cell? ⟨gb0, 0, none⟩ = some (.int .i64 a0_0) := (Ak BK0.out 0).trans rfl; have hcz54_1 : w53.cell? ⟨gb0, 1, none⟩ = some (.string a0_1) := (Ak BK0.out 1).trans rfl; have hcz54_2 : w53.cell? ⟨gb0, 2, none⟩ = some (.int .i64 a0_2) := (Ak BK0.out 2).trans rfl; have hcz54_3 : w53.cell? ⟨gb0, 3, none⟩ = some (.int .i64 a0_3) := (Ak BK0.out 3).trans rfl; have hfz54_0 := Ai BK0.out 0; have hfz54_1 := Ai BK0.out 1; have hfz54_2 := Ai BK0.out 2; have hfz54_3 := Ai BK0.out 3))
          have n0_ := Ac.mk (Ah BK0.out)
          have n1_ := Ac.mk (Ad HB.out)
          clear BK0
          clear HB
          have BK0 := n0_
          have HB := n1_
          clear n0_ n1_
          refine start_ (n := 8) (S := fun w' => w'.cell? ⟨gb0, 0, none⟩ = some (.int .i64 a0_0) ∧ w'.cell? ⟨gb0, 1, none⟩ = some (.string a0_1) ∧ w'.cell? ⟨gb0, 2, none⟩ = some (.int .i64 a0_2) ∧ w'.cell? ⟨gb0, 3, none⟩ = some (.int .i64 a0_3)) (ds := []) #[false, false, false, false, false, false, false, false] (by kernel_rfl) rfl rfl ⟨(Ak BK0.out 0).trans rfl, (Ak BK0.out 1).trans rfl, (Ak BK0.out 2).trans rfl, (Ak BK0.out 3).trans rfl⟩ (fun hHeld => ?_); refine H9 Dp.tab2 Dp.bits2 (fun HT_ HW_ => ?_)
          generalize w53.drew = w55 at BK0 HB hHeld ⊢
          refine Fb (i := 0) (N := some 11) (v := ?_) (a' := ?_) #[true, false, false, false, false, false, false, false] rfl rfl (Ew HT_.out (by kernel_rfl)) (fun _ _ _ h => h) (Or.inl ⟨by rfl, ?_⟩) ?_ ?_
          rotate_left
          ·intro w'
           go_simp
           first | with_reducible rfl | (rw [if_neg (by omega)]; try with_reducible rfl)
          rotate_left
          ·simp only [Act.put, List.setIfInBounds_toArray, List.set_cons_zero, List.set_cons_succ, Dw, Dy]
           rfl
          refine Fb (i := 3) (N := some 14) (v := ?_) (a' := ?_) #[true, false, false, true, false, false, false, false] rfl rfl (Ew HT_.out (by kernel_rfl)) (fun _ _ _ h => h) (Or.inl ⟨by rfl, ?_⟩) ?_ ?_
          rotate_left
          ·intro w'
           go_simp
           first | with_reducible rfl | (rw [if_neg (by omega)]; try with_reducible rfl)
          rotate_left
          ·simp only [Act.put, List.setIfInBounds_toArray, List.set_cons_zero, List.set_cons_succ, Dw, Dy]
           rfl
          refine He (i := 1) (N := some 12) (v := ?_) (a' := ?_) #[true, true, false, true, false, false, false, false] rfl rfl (Gs HT_.out HW_.out (by kernel_rfl)) (fun _ _ _ h => h) (Or.inl ⟨by rfl, ?_⟩) hHeld ?_ ?_
          rotate_left
          ·rintro w' ⟨s0, s1, s2, s3⟩
           go_simp
           first | with_reducible rfl | (rw [if_neg (by omega)]; try with_reducible rfl)
          rotate_left
          ·simp only [Act.put, List.setIfInBounds_toArray, List.set_cons_zero, List.set_cons_succ, Dw, Dy]
           rfl
          refine He (i := 4) (N := some 15) (v := ?_) (a' := ?_) #[true, true, false, true, true, false, false, false] rfl rfl (Gs HT_.out HW_.out (by kernel_rfl)) (fun _ _ _ h => h) (Or.inl ⟨by rfl, ?_⟩) hHeld ?_ ?_
          rotate_left
          ·rintro w' ⟨s0, s1, s2, s3⟩
           go_simp
           first | with_reducible rfl | (rw [if_neg (by omega)]; try with_reducible rfl)
          rotate_left
          ·simp only [Act.put, List.setIfInBounds_toArray, List.set_cons_zero, List.set_cons_succ, Dw, Dy]
           rfl
          refine one_ (i := 2) (N := some 13) #[true, true, true, true, true, false, false, false] rfl rfl (Hg HT_.out (by kernel_rfl)) (by decide) (fun K hK => ?_)
          refine goes_ Tryz.func38 (by kernel_rfl) rfl #[.int .i64 a0_2] (by rfl) rfl rfl Ya_ ?_
          with_reducible refine (Fh.calls a0_2 t245 _ ?side1 A3.out).mono ?_
          (case side1 => exact Fp.below HGL.out Yc_)
          rintro e w56 ⟨rfl, hb⟩
          refine ⟨_, rfl, ?_⟩
          have n0_ := Ac.mk (Bi (g := gb0) (o := .cells #[.int .i64 a0_0, .string a0_1, .int .i64 a0_2, .int .i64 a0_3] 25 (0, 0)) Yd_ hb)
          have n1_ := Ac.mk (Ar Yc_ hb)
          clear BK0
          clear HB
          have BK0 := n0_
          have HB := n1_
          clear n0_ n1_
          (try clear hb)
          (try clear hb2)
          (try clear hk)
          (try clear hi)
          refine hK.out _ _ ⟨(Ak BK0.out 0).trans rfl, (Ak BK0.out 1).trans rfl, (Ak BK0.out 2).trans rfl, (Ak BK0.out 3).trans rfl⟩ (fun hHeld => ?_)
          clear hK K
          refine norm_ (a' := ?_) ?_ ?_
          rotate_left
          ·show Act.put _ (some 13) _ = _
           simp only [Act.put, List.setIfInBounds_toArray, List.set_cons_zero, List.set_cons_succ, Dw, Dy]
           rfl
          refine one_ (i := 5) (N := some 16) #[true, true, true, true, true, true, false, false] rfl rfl (Hg HT_.out (by kernel_rfl)) (by decide) (fun K hK => ?_)
          refine goes_ Tryz.func38 (by kernel_rfl) rfl #[.int .i64 a0_3] (by rfl) rfl rfl Ya_ ?_
          with_reducible refine (Fh.calls a0_3 t246 _ ?side1 A4.out).mono ?_
          (case side1 => exact Fp.below HGL.out Yc_)
          rintro e w57 ⟨rfl, hb⟩
          refine ⟨_, rfl, ?_⟩
          have n0_ := Ac.mk (Bi (g := gb0) (o := .cells #[.int .i64 a0_0, .string a0_1, .int .i64 a0_2, .int .i64 a0_3] 25 (0, 0)) Yd_ hb)
          have n1_ := Ac.mk (Ar Yc_ hb)
          clear BK0
          clear HB
          have BK0 := n0_
          have HB := n1_
          clear n0_ n1_
          (try clear hb)
          (try clear hb2)
          (try clear hk)
          (try clear hi)
          refine hK.out _ _ ⟨(Ak BK0.out 0).trans rfl, (Ak BK0.out 1).trans rfl, (Ak BK0.out 2).trans rfl, (Ak BK0.out 3).trans rfl⟩ (fun hHeld => ?_)
          clear hK K
          refine norm_ (a' := ?_) ?_ ?_
          rotate_left
          ·show Act.put _ (some 16) _ = _
           simp only [Act.put, List.setIfInBounds_toArray, List.set_cons_zero, List.set_cons_succ, Dw, Dy]
           rfl
          refine Fb (i := 6) (N := some 4) (v := ?_) (a' := ?_) #[true, true, true, true, true, true, true, false] rfl rfl (Ew HT_.out (by kernel_rfl)) (fun _ _ _ h => h) (Or.inl ⟨by rfl, ?_⟩) ?_ ?_
          rotate_left
          ·intro w'
           go_simp
           first | with_reducible rfl | (rw [if_neg (by omega)]; try with_reducible rfl)
          rotate_left
          ·simp only [Act.put, List.setIfInBounds_toArray, List.set_cons_zero, List.set_cons_succ, Dw, Dy]
           rfl
          refine Fb (i := 7) (N := some 5) (v := ?_) (a' := ?_) #[true, true, true, true, true, true, true, true] rfl rfl (Ew HT_.out (by kernel_rfl)) (fun _ _ _ h => h) (Or.inl ⟨by rfl, ?_⟩) ?_ ?_
          rotate_left
          ·intro w'
           go_simp
           first | with_reducible rfl | (rw [if_neg (by omega)]; try with_reducible rfl)
          rotate_left
          ·simp only [Act.put, List.setIfInBounds_toArray, List.set_cons_zero, List.set_cons_succ, Dw, Dy]
           rfl
          refine done_ (Io HT_.out (by kernel_rfl)) ?_
          have hcz58_0 : w57.cell? ⟨gb0, 0, none⟩ = some (.int .i64 a0_0) := (Ak BK0.out 0).trans rfl
          have hcz58_1 : w57.cell? ⟨gb0, 1, none⟩ = some (.string a0_1) := (Ak BK0.out 1).trans rfl
          have hcz58_2 : w57.cell? ⟨gb0, 2, none⟩ = some (.int .i64 a0_2) := (Ak BK0.out 2).trans rfl
          have hcz58_3 : w57.cell? ⟨gb0, 3, none⟩ = some (.int .i64 a0_3) := (Ak BK0.out 3).trans rfl
          have hfz58_0 := Ai BK0.out 0
          have hfz58_1 := Ai BK0.out 1
          have hfz58_2 := Ai BK0.out 2
          have hfz58_3 := Ai BK0.out 3
          try go_wp2
          go_ret
          exact ⟨by first | rfl | (simp [Au, Aw] <;> rfl) | (simp [*, Au, Aw] <;> rfl), by repeat (first | (with_reducible first | exact HB.out | apply Ae | apply Aa | apply Ad | refine Am ?_ GE0.out) | exact HB.out)⟩
         ·rw [if_neg c52] at H
          exact absurd H (by simp)
        ·rw [if_neg c51] at H
         exact absurd H (by simp)
       ·rw [if_neg c50] at H
        exact absurd H (by simp)
      ·rw [if_neg c49] at H
       have c49b0 : (a0_3 == 1) = false := beq_eq_false_iff_ne.mpr c49
       have c49b1 : (a0_3 != 1) = true := bne_iff_ne.mpr c49
       by_cases c59 : ((⟨#[67, 111, 110, 116, 97, 105, 110, 101, 114, 32]⟩ : ByteArray) ++ a0_1).size + 6 ≤ 9223372036854775807
       ·rw [if_pos c59] at H
        have c59b0 := eq_true c59
        have c59b1 : decide (((⟨#[67, 111, 110, 116, 97, 105, 110, 101, 114, 32]⟩ : ByteArray) ++ a0_1).size + 6 ≤ 9223372036854775807) = true := decide_eq_true c59
        try have c59b2 : (9223372036854775807 < ((⟨#[67, 111, 110, 116, 97, 105, 110, 101, 114, 32]⟩ : ByteArray) ++ a0_1).size + 6) = False := eq_false (Nat.not_lt.2 c59)
        have c59z0 : (⟨#[67, 111, 110, 116, 97, 105, 110, 101, 114, 32]⟩ : ByteArray).size = 10 := rfl
        have c59b3 := c59
        try simp only [ByteArray.size_extract, ByteArray.size_append, c59z0] at c59b3
        have c59b4 := eq_false (Nat.not_lt.2 c59b3)
        by_cases c60 : (((⟨#[67, 111, 110, 116, 97, 105, 110, 101, 114, 32]⟩ : ByteArray) ++ a0_1) ++ (⟨#[32, 111, 119, 101, 115, 32]⟩ : ByteArray)).size + t245.size ≤ 9223372036854775807
        ·rw [if_pos c60] at H
         have c60b0 := eq_true c60
         have c60b1 : decide ((((⟨#[67, 111, 110, 116, 97, 105, 110, 101, 114, 32]⟩ : ByteArray) ++ a0_1) ++ (⟨#[32, 111, 119, 101, 115, 32]⟩ : ByteArray)).size + t245.size ≤ 9223372036854775807) = true := decide_eq_true c60
         try have c60b2 : (9223372036854775807 < (((⟨#[67, 111, 110, 116, 97, 105, 110, 101, 114, 32]⟩ : ByteArray) ++ a0_1) ++ (⟨#[32, 111, 119, 101, 115, 32]⟩ : ByteArray)).size + t245.size) = False := eq_false (Nat.not_lt.2 c60)
         have c60z0 : (⟨#[32, 111, 119, 101, 115, 32]⟩ : ByteArray).size = 6 := rfl
         have c60z1 : (⟨#[67, 111, 110, 116, 97, 105, 110, 101, 114, 32]⟩ : ByteArray).size = 10 := rfl
         have c60b3 := c60
         try simp only [ByteArray.size_extract, ByteArray.size_append, c60z0, c60z1] at c60b3
         have c60b4 := eq_false (Nat.not_lt.2 c60b3)
         by_cases c61 : ((((⟨#[67, 111, 110, 116, 97, 105, 110, 101, 114, 32]⟩ : ByteArray) ++ a0_1) ++ (⟨#[32, 111, 119, 101, 115, 32]⟩ : ByteArray)) ++ t245).size + 5 ≤ 9223372036854775807
         ·rw [if_pos c61] at H
          have c61b0 := eq_true c61
          have c61b1 : decide (((((⟨#[67, 111, 110, 116, 97, 105, 110, 101, 114, 32]⟩ : ByteArray) ++ a0_1) ++ (⟨#[32, 111, 119, 101, 115, 32]⟩ : ByteArray)) ++ t245).size + 5 ≤ 9223372036854775807) = true := decide_eq_true c61
          try have c61b2 : (9223372036854775807 < ((((⟨#[67, 111, 110, 116, 97, 105, 110, 101, 114, 32]⟩ : ByteArray) ++ a0_1) ++ (⟨#[32, 111, 119, 101, 115, 32]⟩ : ByteArray)) ++ t245).size + 5) = False := eq_false (Nat.not_lt.2 c61)
          have c61z0 : (⟨#[32, 111, 119, 101, 115, 32]⟩ : ByteArray).size = 6 := rfl
          have c61z1 : (⟨#[67, 111, 110, 116, 97, 105, 110, 101, 114, 32]⟩ : ByteArray).size = 10 := rfl
          have c61b3 := c61
          try simp only [ByteArray.size_extract, ByteArray.size_append, c61z0, c61z1] at c61b3
          have c61b4 := eq_false (Nat.not_lt.2 c61b3)
          by_cases c62 : (((((⟨#[67, 111, 110, 116, 97, 105, 110, 101, 114, 32]⟩ : ByteArray) ++ a0_1) ++ (⟨#[32, 111, 119, 101, 115, 32]⟩ : ByteArray)) ++ t245) ++ (⟨#[32, 102, 111, 114, 32]⟩ : ByteArray)).size + t246.size ≤ 9223372036854775807
          ·rw [if_pos c62] at H
           have c62b0 := eq_true c62
           have c62b1 : decide ((((((⟨#[67, 111, 110, 116, 97, 105, 110, 101, 114, 32]⟩ : ByteArray) ++ a0_1) ++ (⟨#[32, 111, 119, 101, 115, 32]⟩ : ByteArray)) ++ t245) ++ (⟨#[32, 102, 111, 114, 32]⟩ : ByteArray)).size + t246.size ≤ 9223372036854775807) = true := decide_eq_true c62
           try have c62b2 : (9223372036854775807 < (((((⟨#[67, 111, 110, 116, 97, 105, 110, 101, 114, 32]⟩ : ByteArray) ++ a0_1) ++ (⟨#[32, 111, 119, 101, 115, 32]⟩ : ByteArray)) ++ t245) ++ (⟨#[32, 102, 111, 114, 32]⟩ : ByteArray)).size + t246.size) = False := eq_false (Nat.not_lt.2 c62)
           have c62z0 : (⟨#[32, 102, 111, 114, 32]⟩ : ByteArray).size = 5 := rfl
           have c62z1 : (⟨#[32, 111, 119, 101, 115, 32]⟩ : ByteArray).size = 6 := rfl
           have c62z2 : (⟨#[67, 111, 110, 116, 97, 105, 110, 101, 114, 32]⟩ : ByteArray).size = 10 := rfl
           have c62b3 := c62
           try simp only [ByteArray.size_extract, ByteArray.size_append, c62z0, c62z1, c62z2] at c62b3
           have c62b4 := eq_false (Nat.not_lt.2 c62b3)
           by_cases c63 : ((((((⟨#[67, 111, 110, 116, 97, 105, 110, 101, 114, 32]⟩ : ByteArray) ++ a0_1) ++ (⟨#[32, 111, 119, 101, 115, 32]⟩ : ByteArray)) ++ t245) ++ (⟨#[32, 102, 111, 114, 32]⟩ : ByteArray)) ++ t246).size + 6 ≤ 9223372036854775807
           ·rw [if_pos c63] at H
            have c63b0 := eq_true c63
            have c63b1 : decide (((((((⟨#[67, 111, 110, 116, 97, 105, 110, 101, 114, 32]⟩ : ByteArray) ++ a0_1) ++ (⟨#[32, 111, 119, 101, 115, 32]⟩ : ByteArray)) ++ t245) ++ (⟨#[32, 102, 111, 114, 32]⟩ : ByteArray)) ++ t246).size + 6 ≤ 9223372036854775807) = true := decide_eq_true c63
            try have c63b2 : (9223372036854775807 < ((((((⟨#[67, 111, 110, 116, 97, 105, 110, 101, 114, 32]⟩ : ByteArray) ++ a0_1) ++ (⟨#[32, 111, 119, 101, 115, 32]⟩ : ByteArray)) ++ t245) ++ (⟨#[32, 102, 111, 114, 32]⟩ : ByteArray)) ++ t246).size + 6) = False := eq_false (Nat.not_lt.2 c63)
            have c63z0 : (⟨#[32, 102, 111, 114, 32]⟩ : ByteArray).size = 5 := rfl
            have c63z1 : (⟨#[32, 111, 119, 101, 115, 32]⟩ : ByteArray).size = 6 := rfl
            have c63z2 : (⟨#[67, 111, 110, 116, 97, 105, 110, 101, 114, 32]⟩ : ByteArray).size = 10 := rfl
            have c63b3 := c63
            try simp only [ByteArray.size_extract, ByteArray.size_append, c63z0, c63z1, c63z2] at c63b3
            have c63b4 := eq_false (Nat.not_lt.2 c63b3)
            obtain rfl := Option.some.inj H
            go_enter Tryz.func20, Tryz.ntmps20
            try go_wp2_with (first | ((with_reducible refine Dl (N := 1) rfl ?_); refine Dz ?hg (N := 1) ?hd (cs := #[.int .i64 a0_0, .string a0_1, .int .i64 a0_2, .int .i64 a0_3]) (t := 25) ?hr ?_; (case hd => rfl); (case hg => rfl); (case hr => first | (go_simp; done) | (go_simp; rfl)); intro gb0 hg w64 hbox hb; have n0_ := Ac.mk (Ar Yb_ hb); have n1_ := Ac.mk (hbox); have n2_ := Ac.mk ((by rw [hg]; exact (Ba Yb_) : w.heap.size ≤ gb0)); have n3_ := Ac.mk ((by rw [hg]; exact (Ba Yb_) : w.heap.size ≤ gb0)); clear HB; have HB := n0_; have BK0 := n1_; have GW0 := n2_; have GE0 := n3_; clear n0_ n1_ n2_ n3_; clear hb hbox hg; have hcz65_0 : w64.cell? ⟨gb0, 0, none⟩ = some (.int .i64 a0_0) := (Ak BK0.out 0).trans rfl; have hcz65_1 : w64.cell? ⟨gb0, 1, none⟩ = some (.string a0_1) := (Ak BK0.out 1).trans rfl; have hcz65_2 : w64.cell? ⟨gb0, 2, none⟩ = some (.int .i64 a0_2) := (Ak BK0.out 2).trans rfl; have hcz65_3 : w64.cell? ⟨gb0, 3, none⟩ = some (.int .i64 a0_3) := (Ak BK0.out 3).trans rfl; have hfz65_0 := Ai BK0.out 0; have hfz65_1 := Ai BK0.out 1; have hfz65_2 := Ai BK0.out 2; have hfz65_3 := Ai BK0.out 3))
            have n0_ := Ac.mk (Ah BK0.out)
            have n1_ := Ac.mk (Ad HB.out)
            clear BK0
            clear HB
            have BK0 := n0_
            have HB := n1_
            clear n0_ n1_
            refine start_ (n := 8) (S := fun w' => w'.cell? ⟨gb0, 0, none⟩ = some (.int .i64 a0_0) ∧ w'.cell? ⟨gb0, 1, none⟩ = some (.string a0_1) ∧ w'.cell? ⟨gb0, 2, none⟩ = some (.int .i64 a0_2) ∧ w'.cell? ⟨gb0, 3, none⟩ = some (.int .i64 a0_3)) (ds := []) #[false, false, false, false, false, false, false, false] (by kernel_rfl) rfl rfl ⟨(Ak BK0.out 0).trans rfl, (Ak BK0.out 1).trans rfl, (Ak BK0.out 2).trans rfl, (Ak BK0.out 3).trans rfl⟩ (fun hHeld => ?_); refine H9 Dp.tab2 Dp.bits2 (fun HT_ HW_ => ?_)
            generalize w64.drew = w66 at BK0 HB hHeld ⊢
            refine Fb (i := 0) (N := some 11) (v := ?_) (a' := ?_) #[true, false, false, false, false, false, false, false] rfl rfl (Ew HT_.out (by kernel_rfl)) (fun _ _ _ h => h) (Or.inl ⟨by rfl, ?_⟩) ?_ ?_
            rotate_left
            ·intro w'
             go_simp
             first | with_reducible rfl | (rw [if_neg (by omega)]; try with_reducible rfl)
            rotate_left
            ·simp only [Act.put, List.setIfInBounds_toArray, List.set_cons_zero, List.set_cons_succ, Dw, Dy]
             rfl
            refine Fb (i := 3) (N := some 14) (v := ?_) (a' := ?_) #[true, false, false, true, false, false, false, false] rfl rfl (Ew HT_.out (by kernel_rfl)) (fun _ _ _ h => h) (Or.inl ⟨by rfl, ?_⟩) ?_ ?_
            rotate_left
            ·intro w'
             go_simp
             first | with_reducible rfl | (rw [if_neg (by omega)]; try with_reducible rfl)
            rotate_left
            ·simp only [Act.put, List.setIfInBounds_toArray, List.set_cons_zero, List.set_cons_succ, Dw, Dy]
             rfl
            refine He (i := 1) (N := some 12) (v := ?_) (a' := ?_) #[true, true, false, true, false, false, false, false] rfl rfl (Gs HT_.out HW_.out (by kernel_rfl)) (fun _ _ _ h => h) (Or.inl ⟨by rfl, ?_⟩) hHeld ?_ ?_
            rotate_left
            ·rintro w' ⟨s0, s1, s2, s3⟩
             go_simp
             first | with_reducible rfl | (rw [if_neg (by omega)]; try with_reducible rfl)
            rotate_left
            ·simp only [Act.put, List.setIfInBounds_toArray, List.set_cons_zero, List.set_cons_succ, Dw, Dy]
             rfl
            refine He (i := 4) (N := some 15) (v := ?_) (a' := ?_) #[true, true, false, true, true, false, false, false] rfl rfl (Gs HT_.out HW_.out (by kernel_rfl)) (fun _ _ _ h => h) (Or.inl ⟨by rfl, ?_⟩) hHeld ?_ ?_
            rotate_left
            ·rintro w' ⟨s0, s1, s2, s3⟩
             go_simp
             first | with_reducible rfl | (rw [if_neg (by omega)]; try with_reducible rfl)
            rotate_left
            ·simp only [Act.put, List.setIfInBounds_toArray, List.set_cons_zero, List.set_cons_succ, Dw, Dy]
             rfl
            refine one_ (i := 2) (N := some 13) #[true, true, true, true, true, false, false, false] rfl rfl (Hg HT_.out (by kernel_rfl)) (by decide) (fun K hK => ?_)
            refine goes_ Tryz.func38 (by kernel_rfl) rfl #[.int .i64 a0_2] (by rfl) rfl rfl Ya_ ?_
            with_reducible refine (Fh.calls a0_2 t245 _ ?side1 A3.out).mono ?_
            (case side1 => exact Fp.below HGL.out Yc_)
            rintro e w67 ⟨rfl, hb⟩
            refine ⟨_, rfl, ?_⟩
            have n0_ := Ac.mk (Bi (g := gb0) (o := .cells #[.int .i64 a0_0, .string a0_1, .int .i64 a0_2, .int .i64 a0_3] 25 (0, 0)) Yd_ hb)
            have n1_ := Ac.mk (Ar Yc_ hb)
            clear BK0
            clear HB
            have BK0 := n0_
            have HB := n1_
            clear n0_ n1_
            (try clear hb)
            (try clear hb2)
            (try clear hk)
            (try clear hi)
            refine hK.out _ _ ⟨(Ak BK0.out 0).trans rfl, (Ak BK0.out 1).trans rfl, (Ak BK0.out 2).trans rfl, (Ak BK0.out 3).trans rfl⟩ (fun hHeld => ?_)
            clear hK K
            refine norm_ (a' := ?_) ?_ ?_
            rotate_left
            ·show Act.put _ (some 13) _ = _
             simp only [Act.put, List.setIfInBounds_toArray, List.set_cons_zero, List.set_cons_succ, Dw, Dy]
             rfl
            refine one_ (i := 5) (N := some 16) #[true, true, true, true, true, true, false, false] rfl rfl (Hg HT_.out (by kernel_rfl)) (by decide) (fun K hK => ?_)
            refine goes_ Tryz.func38 (by kernel_rfl) rfl #[.int .i64 a0_3] (by rfl) rfl rfl Ya_ ?_
            with_reducible refine (Fh.calls a0_3 t246 _ ?side1 A4.out).mono ?_
            (case side1 => exact Fp.below HGL.out Yc_)
            rintro e w68 ⟨rfl, hb⟩
            refine ⟨_, rfl, ?_⟩
            have n0_ := Ac.mk (Bi (g := gb0) (o := .cells #[.int .i64 a0_0, .string a0_1, .int .i64 a0_2, .int .i64 a0_3] 25 (0, 0)) Yd_ hb)
            have n1_ := Ac.mk (Ar Yc_ hb)
            clear BK0
            clear HB
            have BK0 := n0_
            have HB := n1_
            clear n0_ n1_
            (try clear hb)
            (try clear hb2)
            (try clear hk)
            (try clear hi)
            refine hK.out _ _ ⟨(Ak BK0.out 0).trans rfl, (Ak BK0.out 1).trans rfl, (Ak BK0.out 2).trans rfl, (Ak BK0.out 3).trans rfl⟩ (fun hHeld => ?_)
            clear hK K
            refine norm_ (a' := ?_) ?_ ?_
            rotate_left
            ·show Act.put _ (some 16) _ = _
             simp only [Act.put, List.setIfInBounds_toArray, List.set_cons_zero, List.set_cons_succ, Dw, Dy]
             rfl
            refine Fb (i := 6) (N := some 4) (v := ?_) (a' := ?_) #[true, true, true, true, true, true, true, false] rfl rfl (Ew HT_.out (by kernel_rfl)) (fun _ _ _ h => h) (Or.inl ⟨by rfl, ?_⟩) ?_ ?_
            rotate_left
            ·intro w'
             go_simp
             first | with_reducible rfl | (rw [if_neg (by omega)]; try with_reducible rfl)
            rotate_left
            ·simp only [Act.put, List.setIfInBounds_toArray, List.set_cons_zero, List.set_cons_succ, Dw, Dy]
             rfl
            refine Fb (i := 7) (N := some 5) (v := ?_) (a' := ?_) #[true, true, true, true, true, true, true, true] rfl rfl (Ew HT_.out (by kernel_rfl)) (fun _ _ _ h => h) (Or.inl ⟨by rfl, ?_⟩) ?_ ?_
            rotate_left
            ·intro w'
             go_simp
             first | with_reducible rfl | (rw [if_neg (by omega)]; try with_reducible rfl)
            rotate_left
            ·simp only [Act.put, List.setIfInBounds_toArray, List.set_cons_zero, List.set_cons_succ, Dw, Dy]
             rfl
            refine done_ (Io HT_.out (by kernel_rfl)) ?_
            have hcz69_0 : w68.cell? ⟨gb0, 0, none⟩ = some (.int .i64 a0_0) := (Ak BK0.out 0).trans rfl
            have hcz69_1 : w68.cell? ⟨gb0, 1, none⟩ = some (.string a0_1) := (Ak BK0.out 1).trans rfl
            have hcz69_2 : w68.cell? ⟨gb0, 2, none⟩ = some (.int .i64 a0_2) := (Ak BK0.out 2).trans rfl
            have hcz69_3 : w68.cell? ⟨gb0, 3, none⟩ = some (.int .i64 a0_3) := (Ak BK0.out 3).trans rfl
            have hfz69_0 := Ai BK0.out 0
            have hfz69_1 := Ai BK0.out 1
            have hfz69_2 := Ai BK0.out 2
            have hfz69_3 := Ai BK0.out 3
            try go_wp2
            go_ret
            exact ⟨by first | rfl | (simp [Au, Aw] <;> rfl) | (simp [*, Au, Aw] <;> rfl), by repeat (first | (with_reducible first | exact HB.out | apply Ae | apply Aa | apply Ad | refine Am ?_ GE0.out) | exact HB.out)⟩
           ·rw [if_neg c63] at H
            exact absurd H (by simp)
          ·rw [if_neg c62] at H
           exact absurd H (by simp)
         ·rw [if_neg c61] at H
          exact absurd H (by simp)
        ·rw [if_neg c60] at H
         exact absurd H (by simp)
       ·rw [if_neg c59] at H
        exact absurd H (by simp)
 ·rw [if_neg c2] at H
  exact absurd H (by simp)
/-- Where the first element is of which p holds; -1. -/
def I4 (p : S25 → Bool) (l : List S25) : Int := match l.findIdx? p with | some i => (i : Int) | none => -1
theorem idxP_note_hit (p : S25 → Bool) (l : List S25) (x : Int) (h0 : 0 ≤ x) (h1 : x < (l.length : Int)) (hm : ∀ j : Nat, (j : Int) < x → p (Az l (j : Int)) = false) (hp : p (Az l x) = true) : I4 p l = x := by
 obtain ⟨n, rfl⟩ := Int.eq_ofNat_of_zero_le h0
 have hn : n < l.length := by omega
 have e : l.findIdx? p = some n := by
  rw [List.findIdx?_eq_some_iff_getElem]
  refine ⟨hn, ?_, ?_⟩
  ·simpa [Az, List.getD_eq_getElem?_getD, List.getElem?_eq_getElem hn] using hp
  ·intro j hj
   have := hm j (by omega)
   have hjl : j < l.length := by omega
   simpa [Az, List.getD_eq_getElem?_getD, List.getElem?_eq_getElem hjl] using this
 simp [I4, e]
theorem idxP_note_miss (p : S25 → Bool) (l : List S25) (x : Int) (h1 : ¬ x < (l.length : Int)) (hm : ∀ j : Nat, (j : Int) < x → p (Az l (j : Int)) = false) : I4 p l = -1 := by
 have e : l.findIdx? p = none := by
  rw [List.findIdx?_eq_none_iff]
  intro y hy
  obtain ⟨j, hj, rfl⟩ := List.getElem_of_mem hy
  have := hm j (by omega)
  simpa [Az, List.getD_eq_getElem?_getD, List.getElem?_eq_getElem hj] using this
 simp [I4, e]
theorem idxP_note_any (p : S25 → Bool) (l : List S25) : decide (0 ≤ I4 p l) = l.any p := by
 unfold I4
 cases h : l.findIdx? p with
 | none =>
  rw [List.findIdx?_eq_none_iff] at h
  symm
  simp only [show ¬ (0 : Int) ≤ -1 by omega, decide_false, List.any_eq_false]
  intro y hy; simp [h y hy]
 | some i =>
  rw [List.findIdx?_eq_some_iff_getElem] at h
  obtain ⟨hi, hp, _⟩ := h
  symm
  simp only [show (0 : Int) ≤ (i : Int) by omega, decide_true, List.any_eq_true]
  exact ⟨_, List.getElem_mem hi, hp⟩
set_option maxHeartbeats 2000000 in
theorem slices_IndexFunc_note.calls {p : S25 → Bool} {g : Nat} {lb : Array Value} (eg : ∀ args w, (callFunc g args).run Tryz.prog w = .ok (.enter g args) w) (A0 : Option Addr) (c0 : Nat) (l0 : List S25) (w : World) (hr0 : Kd.C k25 w A0 l0.length l0)
  (hp : ∀ (W : World) (x : S25), Below w.heap.size w W → Calls Tryz.prog g (#[.agg #[.int .i64 x.f0, .string x.f1, .int .i64 x.f2, .int .i64 x.f3]] ++ lb) W fun e w' => e = .returned (.bool (p x)) ∧ Below w.heap.size w w') :
  Calls Tryz.prog 67 #[.slice A0 l0.length c0, .func (.func g) #[] lb] w fun e w' => e = .returned (.int .i64 (I4 p l0)) ∧ Below w.heap.size w w' := by
 have hu25 := Tryz.underlying25
 have HR0 := Ac.mk hr0
 clear hr0
 have hL : l0.length ≤ 9223372036854775807 := HR0.out.2.1
 have HP := Ac.mk hp
 clear hp
 have HB := Ac.mk (Below.refl w.heap.size w)
 go_enter Tryz.func67, Tryz.ntmps67
 go_wp2
 go_loopg [5, 8] l0.length (fun gg _ s8 w' => ∃ x : Int, s8 = .int .i64 x ∧ Ac (0 ≤ x ∧ x ≤ (l0.length : Int) ∧ (l0.length : Int) - x ≤ (gg : Int)) ∧ Ac (Below w.heap.size w w') ∧ Ac (∀ j : Nat, (j : Int) < x → p (Az l0 (j : Int)) = false))
 case atStart => exact ⟨0, rfl, ⟨by omega, by omega, by omega⟩, HB, ⟨fun j hj => by omega⟩⟩
 case round =>
  clear HB
  obtain ⟨x, rfl, HX, HB, HM⟩ := hrel
  by_cases c4 : x < (l0.length : Int)
  ·have c4b0 : decide (x < (l0.length : Int)) = true := decide_eq_true c4
   have c5b0 : decide (0 ≤ x) = true := decide_eq_true HX.out.1
   have p151 : 0 ≤ x := HX.out.1
   have q151 := c4
   have hw : wrap64 (x + 1) = x + 1 := by have := HX.out.1; unfold wrap64; omega
   have Hw := Ac.mk hw
   clear hw
   obtain ⟨ad151, e151, hx151_0, hx151_1, hx151_2, hx151_3⟩ := G9 HR0.out x p151 q151
   cases e151
   replace hx151_0 := (HB.out.cell (World.block_lt_of_cell? w _ hx151_0)).trans hx151_0
   replace hx151_1 := (HB.out.cell (World.block_lt_of_cell? w _ hx151_1)).trans hx151_1
   replace hx151_2 := (HB.out.cell (World.block_lt_of_cell? w _ hx151_2)).trans hx151_2
   replace hx151_3 := (HB.out.cell (World.block_lt_of_cell? w _ hx151_3)).trans hx151_3
   have C4 := Ac.mk c4
   clear c4
   replace p151 := eq_true p151
   replace q151 := eq_true q151
   have HC := Ac.mk (HP.out wr (Az l0 x) HB.out)
   cases hq : p (Az l0 x) with
   | true =>
    rw [hq] at HC
    have HQ := Ac.mk hq
    clear hq
    go_wp2_with (go_at_fn g; refine HC.out.mono ?_; rintro e w' ⟨rfl, hb'⟩)
    go_ret
    exact ⟨by rw [idxP_note_hit p l0 x HX.out.1 C4.out HM.out HQ.out]; rfl, hb'⟩
   | false =>
    rw [hq] at HC
    have HQ := Ac.mk hq
    clear hq
    go_wp2_with (go_at_fn g; refine HC.out.mono ?_; rintro e w' ⟨rfl, hb'⟩)
    have HB' := Ac.mk hb'
    clear hb'
    go_roundg (l0.length - (x + 1).toNat)
    case measure => have := HX.out; have := C4.out; omega
    case rel =>
     refine ⟨x + 1, by rw [Hw.out], ⟨by have := HX.out; omega, by have := C4.out; omega, by have := HX.out; have := C4.out; omega⟩, HB', ⟨fun j hj => ?_⟩⟩
     by_cases e : (j : Int) = x
     ·rw [e]; exact HQ.out
     ·exact HM.out j (by omega)
  ·have c4b0 : decide (x < (l0.length : Int)) = false := decide_eq_false c4
   have C4 := Ac.mk c4
   clear c4
   go_wp2
   go_ret
   exact ⟨by rw [idxP_note_miss p l0 x (fun h_ => by have := C4.out; omega) HM.out]; rfl, HB.out⟩
set_option maxHeartbeats 2000000 in
theorem I9.calls {p : S25 → Bool} {g : Nat} {lb : Array Value} (eg : ∀ args w, (callFunc g args).run Tryz.prog w = .ok (.enter g args) w) (A0 : Option Addr) (c0 : Nat) (l0 : List S25) (w : World) (hr0 : Kd.C k25 w A0 l0.length l0)
  (hp : ∀ (W : World) (x : S25), Below w.heap.size w W → Calls Tryz.prog g (#[.agg #[.int .i64 x.f0, .string x.f1, .int .i64 x.f2, .int .i64 x.f3]] ++ lb) W fun e w' => e = .returned (.bool (p x)) ∧ Below w.heap.size w w') :
  Calls Tryz.prog 55 #[.slice A0 l0.length c0, .func (.func g) #[] lb] w fun e w' => e = .returned (.bool (l0.any p)) ∧ Below w.heap.size w w' := by
 have HI := Ac.mk (slices_IndexFunc_note.calls eg A0 c0 l0 w hr0 hp)
 rw [← idxP_note_any]
 clear hr0 hp
 go_enter Tryz.func55, Tryz.ntmps55
 go_wp2_with (go_at_call 67; refine HI.out.mono ?_; rintro e w' ⟨rfl, hb'⟩)
 go_ret
 exact ⟨rfl, hb'⟩
/-- A function value that answers as p, in this world and in all later ones. -/
def CloNote (v : Value) (p : S25 → Bool) (w : World) : Prop := ∃ (g : Nat) (lb : Array Value), v = .func (.func g) #[] lb ∧ (∀ args w, (callFunc g args).run Tryz.prog w = .ok (.enter g args) w) ∧ ∀ (W : World) (x : S25), Below w.heap.size w W → Calls Tryz.prog g (#[.agg #[.int .i64 x.f0, .string x.f1, .int .i64 x.f2, .int .i64 x.f3]] ++ lb) W fun e w' => e = .returned (.bool (p x)) ∧ Below w.heap.size w w'
def impl_Note_55.f (l0 : List S25) (p : S25 → Bool) : Option Bool := some (l0.any p)
theorem impl_Note_55.calls (A0 : Option Addr) (c0 : Nat) (l0 : List S25) (p : S25 → Bool) (v : Value) (r : Bool) (w : World) (hr0 : Kd.C k25 w A0 l0.length l0) (hc0 : l0.length ≤ c0) (hv : CloNote v p w) (h : impl_Note_55.f l0 p = some r) :
  Calls Tryz.prog 55 #[.slice A0 l0.length c0, v] w fun e w' => e = .returned (.bool r) ∧ Below w.heap.size w w' := by
 obtain ⟨g, lb, rfl, eg, hp⟩ := hv
 obtain rfl := Option.some.inj h
 exact I9.calls eg A0 c0 l0 w hr0 hp
mutual
def Dh.l0 : Nat → ByteArray → Int → Int → Int → Option (Int × Bool)
 | 0, _, _, _, _ => none
 | k + 1, x0, x4, x11, x12 => if x12 < x11 then (if 0 ≤ x12 then (if x12 < (x0.size : Int) then (if x12 < 3 then (if (bt x0 x12) ≥ 65 then (Dh.j1 k x0 x4 x12 (bt x0 x12) x11 x12 (decide ((bt x0 x12) ≤ 90))) else (Dh.j1 k x0 x4 x12 (bt x0 x12) x11 x12 false)) else (Dh.j1 k x0 x4 x12 (bt x0 x12) x11 x12 false)) else (none)) else (none)) else (some ((wrap64 (65 + (Int.tmod x4 23))) % 256, true))
def Dh.j1 : Nat → ByteArray → Int → Int → Int → Int → Int → Bool → Option (Int × Bool)
 | 0, _, _, _, _, _, _, _ => none
 | k + 1, x0, x4, x5, x6, x11, x12, x18 => if x18 = true then (Dh.l0 k x0 (wrap64 (x4 + (wrap64 ((wrap64 (x5 + 2)) * (((x6 - 65) % 256) + 1))))) x11 (wrap64 (x12 + 1))) else (if x5 ≥ 3 then (if x6 ≥ 48 then (if x6 ≤ 57 then (Dh.l0 k x0 (wrap64 (x4 + (wrap64 ((wrap64 (x5 + 2)) * ((x6 - 48) % 256))))) x11 (wrap64 (x12 + 1))) else (some (0, false))) else (some (0, false))) else (some (0, false)))
end
def Dh.f (k : Nat) (a0 : ByteArray) : Option (Int × Bool) := if (a0.size : Int) = 7 then (Dh.l0 k a0 0 (a0.size : Int) 0) else (some (0, false))
theorem Dh.Fa : ∀ k, (∀ y0 y1 y2 y3, LeO (Dh.l0 k y0 y1 y2 y3) (Dh.l0 (k + 1) y0 y1 y2 y3)) ∧ (∀ y0 y1 y2 y3 y4 y5 y6, LeO (Dh.j1 k y0 y1 y2 y3 y4 y5 y6) (Dh.j1 (k + 1) y0 y1 y2 y3 y4 y5 y6))
 | 0 => ⟨fun _ _ _ _ r h => by simp [Dh.l0] at h, fun _ _ _ _ _ _ _ r h => by simp [Dh.j1] at h⟩
 | k + 1 => by
  obtain ⟨ih0, ih1⟩ := Dh.Fa k
  refine ⟨?_, ?_⟩
  ·intro y0 y1 y2 y3
   unfold Dh.l0
   repeat' first
   | (with_reducible exact ih0 _ _ _ _)
   | (with_reducible exact ih1 _ _ _ _ _ _ _)
   | (with_reducible exact LeO.refl _)
   | (with_reducible exact LeO.none _)
   | (with_reducible refine LeO.ite ?_ ?_)
   | (with_reducible refine LeO.bind ?_ (fun _ => ?_))
   | exact ih0 _ _ _ _
   | exact ih1 _ _ _ _ _ _ _
   | exact LeO.none _
   | refine LeO.ite ?_ ?_
   | refine LeO.bind ?_ (fun _ => ?_)
  ·intro y0 y1 y2 y3 y4 y5 y6
   unfold Dh.j1
   repeat' first
   | (with_reducible exact ih0 _ _ _ _)
   | (with_reducible exact ih1 _ _ _ _ _ _ _)
   | (with_reducible exact LeO.refl _)
   | (with_reducible exact LeO.none _)
   | (with_reducible refine LeO.ite ?_ ?_)
   | (with_reducible refine LeO.bind ?_ (fun _ => ?_))
   | exact ih0 _ _ _ _
   | exact ih1 _ _ _ _ _ _ _
   | exact LeO.none _
   | refine LeO.ite ?_ ?_
   | refine LeO.bind ?_ (fun _ => ?_)
theorem Dh.mono : ∀ a0 k, LeO (Dh.f k a0) (Dh.f (k + 1) a0) := by
 intro a0 k
 obtain ⟨ih0, ih1⟩ := Dh.Fa k
 unfold Dh.f
 repeat' first
   | (with_reducible exact ih0 _ _ _ _)
   | (with_reducible exact ih1 _ _ _ _ _ _ _)
   | (with_reducible exact LeO.refl _)
   | (with_reducible exact LeO.none _)
   | (with_reducible refine LeO.ite ?_ ?_)
   | (with_reducible refine LeO.bind ?_ (fun _ => ?_))
   | exact ih0 _ _ _ _
   | exact ih1 _ _ _ _ _ _ _
   | exact LeO.none _
   | refine LeO.ite ?_ ?_
   | refine LeO.bind ?_ (fun _ => ?_)
set_option maxHeartbeats 8000000 in
set_option maxRecDepth 100000 in
theorem Dh.calls (k : Nat) (a0 : ByteArray) (r1 : Int) (r2 : Bool) (w : World) (h : Dh.f k a0 = some (r1, r2)) :
  Calls Tryz.prog 44 #[.string a0] w fun e w' => e = .returned (.tuple #[.int .u8 r1, .bool r2]) ∧ C9 w w' := by
 have H : (if (a0.size : Int) = 7 then (Dh.l0 k a0 0 (a0.size : Int) 0) else (some (0, false))) = some (r1, r2) := h
 clear h
 by_cases c2 : (a0.size : Int) = 7
 ·rw [if_pos c2] at H
  have c2b0 : ((a0.size : Int) == 7) = true := beq_iff_eq.mpr c2
  have c2b1 : ((a0.size : Int) != 7) = false := bne_eq_false_iff_eq.mpr c2
  clear c2
  have H' := Ac.mk H
  clear H
  go_enter Tryz.func44, Tryz.ntmps44
  go_wp2
  go_loopg [4, 12] k (fun kq v4 v12 w' => ∃ (x4_1 : Int) (x12_1 : Int), v4 = .int .i64 x4_1 ∧ v12 = .int .i64 x12_1 ∧ Ac (Dh.l0 kq a0 x4_1 (a0.size : Int) x12_1 = some (r1, r2)) ∧ Ac (kq ≤ k) ∧ C9 w w')
  case atStart => exact ⟨(0), (0), Yf_, Yf_, H', ⟨Nat.le_refl _⟩, by repeat (first | exact C9.refl _ | apply C9.step)⟩
  case round =>
   clear H'
   try clear c2; try clear c2b0; try clear c2b1; try clear p2
   obtain ⟨x4_1, x12_1, rfl, rfl, HA, HK1, ⟨m1, rfl⟩⟩ := hrel
   cases gk with
   | zero => exact absurd HA.out (by simp [Dh.l0])
   | succ k1 =>
    have H := HA.out
    clear HA
    simp only [Dh.l0] at H
    by_cases c3 : x12_1 < (a0.size : Int)
    ·rw [if_pos c3] at H
     have c3b0 : decide (x12_1 < (a0.size : Int)) = true := decide_eq_true c3
     clear c3
     by_cases c4 : 0 ≤ x12_1
     ·rw [if_pos c4] at H
      have c4b0 : decide (0 ≤ x12_1) = true := decide_eq_true c4
      clear c4
      by_cases c5 : x12_1 < (a0.size : Int)
      ·rw [if_pos c5] at H
       have c5b0 : decide (x12_1 < (a0.size : Int)) = true := decide_eq_true c5
       clear c5
       have HC7 := Ac.mk H
       clear H
       have p6 : 0 ≤ (x12_1 : Int) := of_decide_eq_true Ye_
       have q6 : x12_1 < (a0.size : Int) := of_decide_eq_true Ye_
       have hx6 := Gm a0 x12_1
       replace p6 := eq_true p6
       replace q6 := eq_true q6
       go_upto_region 9 with (fail)
       go_cut [18] (fun v18 wc => ∃ (kq : Nat) (x18_6 : Bool), v18 = .bool x18_6 ∧ Ac (Dh.j1 kq a0 x4_1 x12_1 (bt a0 x12_1) (a0.size : Int) x12_1 x18_6 = some (r1, r2)) ∧ Ac (kq ≤ k1) ∧ C9 w wc)
       case first =>
        have H := HC7.out
        clear HC7
        by_cases c8 : x12_1 < 3
        ·rw [if_pos c8] at H
         have c8b0 : decide (x12_1 < 3) = true := decide_eq_true c8
         clear c8
         (first | rw [c8b0] | (simp only [Dw, Dy]; rw [c8b0]) | skip)
         by_cases c9 : (bt a0 x12_1) ≥ 65
         ·rw [if_pos c9] at H
          have c9b0 : decide (65 ≤ (bt a0 x12_1)) = true := decide_eq_true c9
          clear c9
          have H' := Ac.mk H
          clear H
          go_wp2
          go_meet
          case rel => exact ⟨_, (decide ((bt a0 x12_1) ≤ 90)), Yf_, H', ⟨by have := HK1.out; first | omega | exact Nat.le_refl _⟩, by repeat (first | exact C9.refl _ | apply C9.step)⟩
         ·rw [if_neg c9] at H
          have c9b0 : decide (65 ≤ (bt a0 x12_1)) = false := decide_eq_false c9
          clear c9
          have H' := Ac.mk H
          clear H
          go_wp2
          go_meet
          case rel => exact ⟨_, (false), Yf_, H', ⟨by have := HK1.out; first | omega | exact Nat.le_refl _⟩, by repeat (first | exact C9.refl _ | apply C9.step)⟩
        ·rw [if_neg c8] at H
         have c8b0 : decide (x12_1 < 3) = false := decide_eq_false c8
         clear c8
         (first | rw [c8b0] | (simp only [Dw, Dy]; rw [c8b0]) | skip)
         have H' := Ac.mk H
         clear H
         go_wp2
         go_meet
         case rel => exact ⟨_, (false), Yf_, H', ⟨by have := HK1.out; first | omega | exact Nat.le_refl _⟩, by repeat (first | exact C9.refl _ | apply C9.step)⟩
       case rest =>
        clear HC7
        try clear c2; try clear c2b0; try clear c2b1; try clear p2; try clear c3; try clear c3b0; try clear c4; try clear c4b0; try clear c5; try clear c5b0; try clear p6; try clear q6; try clear hx6; try clear c8; try clear c8b0; try clear c9; try clear c9b0; try clear p2; try clear p6; try clear q6
        obtain ⟨kq, x18_6, rfl, HA, HJ6, ⟨mc6, rfl⟩⟩ := hcut
        cases kq with
        | zero => exact absurd HA.out (by simp [Dh.j1])
        | succ kj6 =>
         have H := HA.out
         clear HA
         simp only [Dh.j1] at H
         by_cases c10 : x18_6 = true
         ·subst c10
          have H1 : (Dh.l0 kj6 a0 (wrap64 (x4_1 + (wrap64 ((wrap64 (x12_1 + 2)) * ((((bt a0 x12_1) - 65) % 256) + 1))))) (a0.size : Int) (wrap64 (x12_1 + 1))) = some (r1, r2) := by rw [if_pos rfl] at H; exact H
          clear H
          have H := H1
          clear H1
          have H' := Ac.mk H
          clear H
          go_wp2
          go_roundg kj6
          case measure => have := HK1.out; have := HJ6.out; omega
          case rel => exact ⟨(wrap64 (x4_1 + (wrap64 ((wrap64 (x12_1 + 2)) * ((((bt a0 x12_1) - 65) % 256) + 1))))), (wrap64 (x12_1 + 1)), Yf_, Yf_, H', ⟨by have := HK1.out; have := HJ6.out; omega⟩, by repeat (first | exact C9.refl _ | apply C9.step)⟩
         ·replace c10 := Bool.eq_false_iff.mpr c10
          subst c10
          have H1 : (if x12_1 ≥ 3 then (if (bt a0 x12_1) ≥ 48 then (if (bt a0 x12_1) ≤ 57 then (Dh.l0 kj6 a0 (wrap64 (x4_1 + (wrap64 ((wrap64 (x12_1 + 2)) * (((bt a0 x12_1) - 48) % 256))))) (a0.size : Int) (wrap64 (x12_1 + 1))) else (some (0, false))) else (some (0, false))) else (some (0, false))) = some (r1, r2) := by rw [if_neg (show ¬ (false = true) by decide)] at H; exact H
          clear H
          have H := H1
          clear H1
          by_cases c11 : x12_1 ≥ 3
          ·rw [if_pos c11] at H
           have c11b0 : decide (3 ≤ x12_1) = true := decide_eq_true c11
           clear c11
           by_cases c12 : (bt a0 x12_1) ≥ 48
           ·rw [if_pos c12] at H
            have c12b0 : decide (48 ≤ (bt a0 x12_1)) = true := decide_eq_true c12
            clear c12
            by_cases c13 : (bt a0 x12_1) ≤ 57
            ·rw [if_pos c13] at H
             have c13b0 : decide ((bt a0 x12_1) ≤ 57) = true := decide_eq_true c13
             clear c13
             have H' := Ac.mk H
             clear H
             go_wp2
             go_roundg kj6
             case measure => have := HK1.out; have := HJ6.out; omega
             case rel => exact ⟨(wrap64 (x4_1 + (wrap64 ((wrap64 (x12_1 + 2)) * (((bt a0 x12_1) - 48) % 256))))), (wrap64 (x12_1 + 1)), Yf_, Yf_, H', ⟨by have := HK1.out; have := HJ6.out; omega⟩, by repeat (first | exact C9.refl _ | apply C9.step)⟩
            ·rw [if_neg c13] at H
             have c13b0 : decide ((bt a0 x12_1) ≤ 57) = false := decide_eq_false c13
             clear c13
             simp only [Option.some.injEq, Prod.mk.injEq] at H
             obtain ⟨rfl, rfl⟩ := H
             go_wp2
             go_ret2
             exact ⟨by first | rfl | (simp; done) | (simp [*]; done), by repeat (first | exact C9.refl _ | apply C9.step)⟩
           ·rw [if_neg c12] at H
            have c12b0 : decide (48 ≤ (bt a0 x12_1)) = false := decide_eq_false c12
            clear c12
            simp only [Option.some.injEq, Prod.mk.injEq] at H
            obtain ⟨rfl, rfl⟩ := H
            go_wp2
            go_ret2
            exact ⟨by first | rfl | (simp; done) | (simp [*]; done), by repeat (first | exact C9.refl _ | apply C9.step)⟩
          ·rw [if_neg c11] at H
           have c11b0 : decide (3 ≤ x12_1) = false := decide_eq_false c11
           clear c11
           simp only [Option.some.injEq, Prod.mk.injEq] at H
           obtain ⟨rfl, rfl⟩ := H
           go_wp2
           go_ret2
           exact ⟨by first | rfl | (simp; done) | (simp [*]; done), by repeat (first | exact C9.refl _ | apply C9.step)⟩
      ·rw [if_neg c5] at H
       exact absurd H (by simp)
     ·rw [if_neg c4] at H
      exact absurd H (by simp)
    ·rw [if_neg c3] at H
     have c3b0 : decide (x12_1 < (a0.size : Int)) = false := decide_eq_false c3
     clear c3
     simp only [Option.some.injEq, Prod.mk.injEq] at H
     obtain ⟨rfl, rfl⟩ := H
     go_wp2
     go_ret2
     exact ⟨by first | rfl | (simp; done) | (simp [*]; done), by repeat (first | exact C9.refl _ | apply C9.step)⟩
 ·rw [if_neg c2] at H
  have c2b0 : ((a0.size : Int) == 7) = false := beq_eq_false_iff_ne.mpr c2
  have c2b1 : ((a0.size : Int) != 7) = true := bne_iff_ne.mpr c2
  simp only [Option.some.injEq, Prod.mk.injEq] at H
  obtain ⟨rfl, rfl⟩ := H
  go_enter Tryz.func44, Tryz.ntmps44
  go_wp2
  go_ret2
  exact ⟨by first | rfl | (simp; done) | (simp [*]; done), by repeat (first | exact C9.refl _ | apply C9.step)⟩
def Ff.f (k : Nat) (a0 : ByteArray) : Option (Bool) := if (a0.size : Int) = 8 then (if 0 ≤ 7 then (if 7 ≤ (a0.size : Int) then ((Dh.f k (a0.extract 0 7)).bind fun bt201 => (if bt201.2 = true then (if 7 < (a0.size : Int) then (some ((bt a0 7) == bt201.1)) else (none)) else (some false))) else (none)) else (none)) else (some false)
theorem Ff.mono : ∀ a0 k, LeO (Ff.f k a0) (Ff.f (k + 1) a0) := by
 intro a0 k
 unfold Ff.f
 repeat' first
   | (with_reducible exact Dh.mono _ _)
   | (with_reducible exact LeO.refl _)
   | (with_reducible exact LeO.none _)
   | (with_reducible refine LeO.ite ?_ ?_)
   | (with_reducible refine LeO.bind ?_ (fun _ => ?_))
   | exact Dh.mono _ _
   | exact LeO.none _
   | refine LeO.ite ?_ ?_
   | refine LeO.bind ?_ (fun _ => ?_)
set_option maxHeartbeats 8000000 in
set_option maxRecDepth 100000 in
theorem Ff.calls (k : Nat) (a0 : ByteArray) (r : Bool) (w : World) (h : Ff.f k a0 = some r) :
  Calls Tryz.prog 23 #[.string a0] w fun e w' => e = .returned (.bool r) ∧ C9 w w' := by
 have H : (if (a0.size : Int) = 8 then (if 0 ≤ 7 then (if 7 ≤ (a0.size : Int) then ((Dh.f k (a0.extract 0 7)).bind fun bt201 => (if bt201.2 = true then (if 7 < (a0.size : Int) then (some ((bt a0 7) == bt201.1)) else (none)) else (some false))) else (none)) else (none)) else (some false)) = some r := h
 clear h
 by_cases c2 : (a0.size : Int) = 8
 ·rw [if_pos c2] at H
  have c2b0 : ((a0.size : Int) == 8) = true := beq_iff_eq.mpr c2
  have c2b1 : ((a0.size : Int) != 8) = false := bne_eq_false_iff_eq.mpr c2
  clear c2
  by_cases c3 : 0 ≤ 7
  ·rw [if_pos c3] at H
   have c3b0 := eq_true c3
   have c3b1 : decide (0 ≤ 7) = true := decide_eq_true c3
   clear c3
   by_cases c4 : 7 ≤ (a0.size : Int)
   ·rw [if_pos c4] at H
    have c4b0 := eq_true c4
    have c4b1 : decide (7 ≤ (a0.size : Int)) = true := decide_eq_true c4
    clear c4
    replace H := Option.bind_eq_some_iff.mp H
    obtain ⟨⟨t201, t202⟩, A50, H⟩ := H
    try dsimp only at H
    have A5 := Ac.mk A50
    clear A50
    by_cases c6 : t202 = true
    ·subst c6
     have H1 : (if 7 < (a0.size : Int) then (some ((bt a0 7) == t201)) else (none)) = some r := by rw [if_pos rfl] at H; exact H
     clear H
     have H := H1
     clear H1
     by_cases c7 : 7 < (a0.size : Int)
     ·rw [if_pos c7] at H
      have c7b0 : decide (7 < (a0.size : Int)) = true := decide_eq_true c7
      have c7b1 : decide (7 < a0.size) = true := decide_eq_true (by omega)
      clear c7
      obtain rfl := Option.some.inj H
      go_enter Tryz.func23, Tryz.ntmps23
      go_wp2_with (first | ((with_reducible refine Ap (f := 44) rfl ?_); refine Bj (some 11) rfl rfl Tryz.func44 (by kernel_rfl) rfl #[.string (a0.extract 0 7)] rfl Ya_ ?_; (with_reducible refine (Dh.calls k (a0.extract 0 7) t201 true _ A5.out).mono ?_); rintro e w' ⟨rfl, ⟨nd, rfl⟩⟩; refine ⟨_, rfl, ?_⟩; have p8 : 0 ≤ (7 : Int) := (by omega); have q8 : 7 < a0.size := (by have : (7 : Int) < (a0.size : Int) := of_decide_eq_true Ye_; omega); have hx8 : ∀ h : 7 < a0.size, ((a0[7]'h).toNat : Int) = bt a0 7 := Gm a0 7; clear p8; have qi8 : (7 < (a0.size : Int)) = True := eq_true (of_decide_eq_true Ye_); replace q8 := eq_true q8))
      go_ret
      exact ⟨by first | rfl | (simp; done) | (simp [*]; done), by repeat (first | exact C9.refl _ | apply C9.step)⟩
     ·rw [if_neg c7] at H
      exact absurd H (by simp)
    ·replace c6 := Bool.eq_false_iff.mpr c6
     subst c6
     have H1 : (some false) = some r := by rw [if_neg (show ¬ (false = true) by decide)] at H; exact H
     clear H
     have H := H1
     clear H1
     obtain rfl := Option.some.inj H
     go_enter Tryz.func23, Tryz.ntmps23
     go_wp2_with (first | ((with_reducible refine Ap (f := 44) rfl ?_); refine Bj (some 11) rfl rfl Tryz.func44 (by kernel_rfl) rfl #[.string (a0.extract 0 7)] rfl Ya_ ?_; (with_reducible refine (Dh.calls k (a0.extract 0 7) t201 false _ A5.out).mono ?_); rintro e w' ⟨rfl, ⟨nd, rfl⟩⟩; refine ⟨_, rfl, ?_⟩))
     go_ret
     exact ⟨by first | rfl | (simp; done) | (simp [*]; done), by repeat (first | exact C9.refl _ | apply C9.step)⟩
   ·rw [if_neg c4] at H
    exact absurd H (by simp)
  ·rw [if_neg c3] at H
   exact absurd H (by simp)
 ·rw [if_neg c2] at H
  have c2b0 : ((a0.size : Int) == 8) = false := beq_eq_false_iff_ne.mpr c2
  have c2b1 : ((a0.size : Int) != 8) = true := bne_iff_ne.mpr c2
  obtain rfl := Option.some.inj H
  go_enter Tryz.func23, Tryz.ntmps23
  go_wp2
  go_ret
  exact ⟨by first | rfl | (simp; done) | (simp [*]; done), by repeat (first | exact C9.refl _ | apply C9.step)⟩
def Di.f (k : Nat) (a0_0 : Int) (a0_1 : ByteArray) (a0_2 : Int) (a0_3 : Int) : Option (Bool) := (Ff.f k a0_1).bind fun t204 => (if t204 = true then (if a0_0 = 1 then ((Dx.f a0_2 0 5).bind fun t205 => (if t205 = true then (some (a0_3 == 0)) else (some false))) else (if a0_0 = 2 then ((Dx.f a0_2 0 5).bind fun t206 => (if t206 = true then ((Dx.f a0_3 0 5).bind fun t207 => (if t207 = true then (some (a0_2 != a0_3)) else (some false))) else (some false))) else (if a0_0 = 3 then ((Dx.f a0_2 1 15).bind fun t208 => (if t208 = true then (some (a0_3 == 0)) else (some false))) else (if a0_0 = 4 then ((Dx.f a0_2 0 11).bind fun t209 => (if t209 = true then (some (a0_3 == 0)) else (some false))) else (if a0_0 = 5 then ((Dx.f a0_2 1 999999).bind fun t210 => (if t210 = true then ((Dx.f a0_3 1 400).bind fun t211 => (some t211)) else (some false))) else (some false)))))) else (some false))
theorem Di.mono : ∀ a0 a1 a2 a3 k, LeO (Di.f k a0 a1 a2 a3) (Di.f (k + 1) a0 a1 a2 a3) := by
 intro a0 a1 a2 a3 k
 unfold Di.f
 repeat' first
   | (with_reducible exact Ff.mono _ _)
   | (with_reducible exact LeO.refl _)
   | (with_reducible exact LeO.none _)
   | (with_reducible refine LeO.ite ?_ ?_)
   | (with_reducible refine LeO.bind ?_ (fun _ => ?_))
   | exact Ff.mono _ _
   | exact LeO.none _
   | refine LeO.ite ?_ ?_
   | refine LeO.bind ?_ (fun _ => ?_)
set_option maxHeartbeats 8000000 in
set_option maxRecDepth 100000 in
theorem Di.calls (k : Nat) (a0_0 : Int) (a0_1 : ByteArray) (a0_2 : Int) (a0_3 : Int) (r : Bool) (w : World) (h : Di.f k a0_0 a0_1 a0_2 a0_3 = some r) :
  Calls Tryz.prog 8 #[.agg #[.int .i64 a0_0, .string a0_1, .int .i64 a0_2, .int .i64 a0_3]] w fun e w' => e = .returned (.bool r) ∧ Below w.heap.size w w' := by
 have hu25 := Tryz.underlying25
 have HB := Ac.mk (Below.refl w.heap.size w)
 have H : ((Ff.f k a0_1).bind fun t204 => (if t204 = true then (if a0_0 = 1 then ((Dx.f a0_2 0 5).bind fun t205 => (if t205 = true then (some (a0_3 == 0)) else (some false))) else (if a0_0 = 2 then ((Dx.f a0_2 0 5).bind fun t206 => (if t206 = true then ((Dx.f a0_3 0 5).bind fun t207 => (if t207 = true then (some (a0_2 != a0_3)) else (some false))) else (some false))) else (if a0_0 = 3 then ((Dx.f a0_2 1 15).bind fun t208 => (if t208 = true then (some (a0_3 == 0)) else (some false))) else (if a0_0 = 4 then ((Dx.f a0_2 0 11).bind fun t209 => (if t209 = true then (some (a0_3 == 0)) else (some false))) else (if a0_0 = 5 then ((Dx.f a0_2 1 999999).bind fun t210 => (if t210 = true then ((Dx.f a0_3 1 400).bind fun t211 => (some t211)) else (some false))) else (some false)))))) else (some false))) = some r := h
 clear h
 replace H := Option.bind_eq_some_iff.mp H
 obtain ⟨t204, A20, H⟩ := H
 try dsimp only at H
 have A2 := Ac.mk A20
 clear A20
 by_cases c3 : t204 = true
 ·subst c3
  have H1 : (if a0_0 = 1 then ((Dx.f a0_2 0 5).bind fun t205 => (if t205 = true then (some (a0_3 == 0)) else (some false))) else (if a0_0 = 2 then ((Dx.f a0_2 0 5).bind fun t206 => (if t206 = true then ((Dx.f a0_3 0 5).bind fun t207 => (if t207 = true then (some (a0_2 != a0_3)) else (some false))) else (some false))) else (if a0_0 = 3 then ((Dx.f a0_2 1 15).bind fun t208 => (if t208 = true then (some (a0_3 == 0)) else (some false))) else (if a0_0 = 4 then ((Dx.f a0_2 0 11).bind fun t209 => (if t209 = true then (some (a0_3 == 0)) else (some false))) else (if a0_0 = 5 then ((Dx.f a0_2 1 999999).bind fun t210 => (if t210 = true then ((Dx.f a0_3 1 400).bind fun t211 => (some t211)) else (some false))) else (some false)))))) = some r := by rw [if_pos rfl] at H; exact H
  clear H
  have H := H1
  clear H1
  by_cases c4 : a0_0 = 1
  ·rw [if_pos c4] at H
   have c4b0 : (a0_0 == 1) = true := beq_iff_eq.mpr c4
   have c4b1 : (a0_0 != 1) = false := bne_eq_false_iff_eq.mpr c4
   clear c4
   replace H := Option.bind_eq_some_iff.mp H
   obtain ⟨t205, A50, H⟩ := H
   try dsimp only at H
   have A5 := Ac.mk A50
   clear A50
   by_cases c6 : t205 = true
   ·subst c6
    have H1 : (some (a0_3 == 0)) = some r := by rw [if_pos rfl] at H; exact H
    clear H
    have H := H1
    clear H1
    obtain rfl := Option.some.inj H
    go_enter Tryz.func8, Tryz.ntmps8
    go_wp2_with (first | ((with_reducible refine Dl (N := 1) rfl ?_); refine Dz ?hg (N := 1) ?hd (cs := #[.int .i64 a0_0, .string a0_1, .int .i64 a0_2, .int .i64 a0_3]) (t := 25) ?hr ?_; (case hd => rfl); (case hg => rfl); (case hr => first | (go_simp; done) | (go_simp; rfl)); intro gb0 hg w7 hbox hb; have n0_ := Ac.mk (Ar Yb_ hb); have n1_ := Ac.mk (hbox); have n2_ := Ac.mk ((by rw [hg]; exact (Ba Yb_) : w.heap.size ≤ gb0)); have n3_ := Ac.mk ((by rw [hg]; exact (Ba Yb_) : w.heap.size ≤ gb0)); clear HB; have HB := n0_; have BK0 := n1_; have GW0 := n2_; have GE0 := n3_; clear n0_ n1_ n2_ n3_; clear hb hbox hg; have hcz8_0 : w7.cell? ⟨gb0, 0, none⟩ = some (.int .i64 a0_0) := (Ak BK0.out 0).trans rfl; have hcz8_1 : w7.cell? ⟨gb0, 1, none⟩ = some (.string a0_1) := (Ak BK0.out 1).trans rfl; have hcz8_2 : w7.cell? ⟨gb0, 2, none⟩ = some (.int .i64 a0_2) := (Ak BK0.out 2).trans rfl; have hcz8_3 : w7.cell? ⟨gb0, 3, none⟩ = some (.int .i64 a0_3) := (Ak BK0.out 3).trans rfl; have hfz8_0 := Ai BK0.out 0; have hfz8_1 := Ai BK0.out 1; have hfz8_2 := Ai BK0.out 2; have hfz8_3 := Ai BK0.out 3) | ((with_reducible refine Ap (f := 23) rfl ?_); refine Bj (some 5) rfl rfl Tryz.func23 (by kernel_rfl) rfl #[.string a0_1] rfl Ya_ ?_; (with_reducible refine (Ff.calls k a0_1 true _ A2.out).mono ?_); rintro e w' ⟨rfl, ⟨nd, rfl⟩⟩; refine ⟨_, rfl, ?_⟩) | ((with_reducible refine Ap (f := 24) rfl ?_); refine Bj (some 13) rfl rfl Tryz.func24 (by kernel_rfl) rfl #[.int .i64 a0_2, .int .i64 0, .int .i64 5] rfl Ya_ ?_; (with_reducible refine (Dx.calls a0_2 0 5 true _ A5.out).mono ?_); rintro e w' ⟨rfl, ⟨nd, rfl⟩⟩; refine ⟨_, rfl, ?_⟩))
    go_ret
    exact ⟨by first | rfl | (simp [Au, Aw] <;> rfl) | (simp [*, Au, Aw] <;> rfl), by repeat (first | (with_reducible first | exact HB.out | apply Ae | apply Aa | apply Ad | refine Am ?_ GE0.out) | exact HB.out)⟩
   ·replace c6 := Bool.eq_false_iff.mpr c6
    subst c6
    have H1 : (some false) = some r := by rw [if_neg (show ¬ (false = true) by decide)] at H; exact H
    clear H
    have H := H1
    clear H1
    obtain rfl := Option.some.inj H
    go_enter Tryz.func8, Tryz.ntmps8
    go_wp2_with (first | ((with_reducible refine Dl (N := 1) rfl ?_); refine Dz ?hg (N := 1) ?hd (cs := #[.int .i64 a0_0, .string a0_1, .int .i64 a0_2, .int .i64 a0_3]) (t := 25) ?hr ?_; (case hd => rfl); (case hg => rfl); (case hr => first | (go_simp; done) | (go_simp; rfl)); intro gb0 hg w9 hbox hb; have n0_ := Ac.mk (Ar Yb_ hb); have n1_ := Ac.mk (hbox); have n2_ := Ac.mk ((by rw [hg]; exact (Ba Yb_) : w.heap.size ≤ gb0)); have n3_ := Ac.mk ((by rw [hg]; exact (Ba Yb_) : w.heap.size ≤ gb0)); clear HB; have HB := n0_; have BK0 := n1_; have GW0 := n2_; have GE0 := n3_; clear n0_ n1_ n2_ n3_; clear hb hbox hg; have hcz10_0 : w9.cell? ⟨gb0, 0, none⟩ = some (.int .i64 a0_0) := (Ak BK0.out 0).trans rfl; have hcz10_1 : w9.cell? ⟨gb0, 1, none⟩ = some (.string a0_1) := (Ak BK0.out 1).trans rfl; have hcz10_2 : w9.cell? ⟨gb0, 2, none⟩ = some (.int .i64 a0_2) := (Ak BK0.out 2).trans rfl; have hcz10_3 : w9.cell? ⟨gb0, 3, none⟩ = some (.int .i64 a0_3) := (Ak BK0.out 3).trans rfl; have hfz10_0 := Ai BK0.out 0; have hfz10_1 := Ai BK0.out 1; have hfz10_2 := Ai BK0.out 2; have hfz10_3 := Ai BK0.out 3) | ((with_reducible refine Ap (f := 23) rfl ?_); refine Bj (some 5) rfl rfl Tryz.func23 (by kernel_rfl) rfl #[.string a0_1] rfl Ya_ ?_; (with_reducible refine (Ff.calls k a0_1 true _ A2.out).mono ?_); rintro e w' ⟨rfl, ⟨nd, rfl⟩⟩; refine ⟨_, rfl, ?_⟩) | ((with_reducible refine Ap (f := 24) rfl ?_); refine Bj (some 13) rfl rfl Tryz.func24 (by kernel_rfl) rfl #[.int .i64 a0_2, .int .i64 0, .int .i64 5] rfl Ya_ ?_; (with_reducible refine (Dx.calls a0_2 0 5 false _ A5.out).mono ?_); rintro e w' ⟨rfl, ⟨nd, rfl⟩⟩; refine ⟨_, rfl, ?_⟩))
    go_ret
    exact ⟨by first | rfl | (simp [Au, Aw] <;> rfl) | (simp [*, Au, Aw] <;> rfl), by repeat (first | (with_reducible first | exact HB.out | apply Ae | apply Aa | apply Ad | refine Am ?_ GE0.out) | exact HB.out)⟩
  ·rw [if_neg c4] at H
   have c4b0 : (a0_0 == 1) = false := beq_eq_false_iff_ne.mpr c4
   have c4b1 : (a0_0 != 1) = true := bne_iff_ne.mpr c4
   by_cases c11 : a0_0 = 2
   ·rw [if_pos c11] at H
    have c11b0 : (a0_0 == 2) = true := beq_iff_eq.mpr c11
    have c11b1 : (a0_0 != 2) = false := bne_eq_false_iff_eq.mpr c11
    clear c11
    replace H := Option.bind_eq_some_iff.mp H
    obtain ⟨t206, A120, H⟩ := H
    try dsimp only at H
    have A12 := Ac.mk A120
    clear A120
    by_cases c13 : t206 = true
    ·subst c13
     have H1 : ((Dx.f a0_3 0 5).bind fun t207 => (if t207 = true then (some (a0_2 != a0_3)) else (some false))) = some r := by rw [if_pos rfl] at H; exact H
     clear H
     have H := H1
     clear H1
     replace H := Option.bind_eq_some_iff.mp H
     obtain ⟨t207, A140, H⟩ := H
     try dsimp only at H
     have A14 := Ac.mk A140
     clear A140
     by_cases c15 : t207 = true
     ·subst c15
      have H1 : (some (a0_2 != a0_3)) = some r := by rw [if_pos rfl] at H; exact H
      clear H
      have H := H1
      clear H1
      obtain rfl := Option.some.inj H
      go_enter Tryz.func8, Tryz.ntmps8
      go_wp2_with (first | ((with_reducible refine Dl (N := 1) rfl ?_); refine Dz ?hg (N := 1) ?hd (cs := #[.int .i64 a0_0, .string a0_1, .int .i64 a0_2, .int .i64 a0_3]) (t := 25) ?hr ?_; (case hd => rfl); (case hg => rfl); (case hr => first | (go_simp; done) | (go_simp; rfl)); intro gb0 hg w16 hbox hb; have n0_ := Ac.mk (Ar Yb_ hb); have n1_ := Ac.mk (hbox); have n2_ := Ac.mk ((by rw [hg]; exact (Ba Yb_) : w.heap.size ≤ gb0)); have n3_ := Ac.mk ((by rw [hg]; exact (Ba Yb_) : w.heap.size ≤ gb0)); clear HB; have HB := n0_; have BK0 := n1_; have GW0 := n2_; have GE0 := n3_; clear n0_ n1_ n2_ n3_; clear hb hbox hg; have hcz17_0 : w16.cell? ⟨gb0, 0, none⟩ = some (.int .i64 a0_0) := (Ak BK0.out 0).trans rfl; have hcz17_1 : w16.cell? ⟨gb0, 1, none⟩ = some (.string a0_1) := (Ak BK0.out 1).trans rfl; have hcz17_2 : w16.cell? ⟨gb0, 2, none⟩ = some (.int .i64 a0_2) := (Ak BK0.out 2).trans rfl; have hcz17_3 : w16.cell? ⟨gb0, 3, none⟩ = some (.int .i64 a0_3) := (Ak BK0.out 3).trans rfl; have hfz17_0 := Ai BK0.out 0; have hfz17_1 := Ai BK0.out 1; have hfz17_2 := Ai BK0.out 2; have hfz17_3 := Ai BK0.out 3) | ((with_reducible refine Ap (f := 23) rfl ?_); refine Bj (some 5) rfl rfl Tryz.func23 (by kernel_rfl) rfl #[.string a0_1] rfl Ya_ ?_; (with_reducible refine (Ff.calls k a0_1 true _ A2.out).mono ?_); rintro e w' ⟨rfl, ⟨nd, rfl⟩⟩; refine ⟨_, rfl, ?_⟩) | ((with_reducible refine Ap (f := 24) rfl ?_); refine Bj (some 23) rfl rfl Tryz.func24 (by kernel_rfl) rfl #[.int .i64 a0_2, .int .i64 0, .int .i64 5] rfl Ya_ ?_; (with_reducible refine (Dx.calls a0_2 0 5 true _ A12.out).mono ?_); rintro e w' ⟨rfl, ⟨nd, rfl⟩⟩; refine ⟨_, rfl, ?_⟩) | (go_at_call 24; (with_reducible refine (Dx.calls a0_3 0 5 true _ A14.out).mono ?_); rintro e w' ⟨rfl, ⟨nd, rfl⟩⟩))
      go_ret
      exact ⟨by first | rfl | (simp [Au, Aw] <;> rfl) | (simp [*, Au, Aw] <;> rfl), by repeat (first | (with_reducible first | exact HB.out | apply Ae | apply Aa | apply Ad | refine Am ?_ GE0.out) | exact HB.out)⟩
     ·replace c15 := Bool.eq_false_iff.mpr c15
      subst c15
      have H1 : (some false) = some r := by rw [if_neg (show ¬ (false = true) by decide)] at H; exact H
      clear H
      have H := H1
      clear H1
      obtain rfl := Option.some.inj H
      go_enter Tryz.func8, Tryz.ntmps8
      go_wp2_with (first | ((with_reducible refine Dl (N := 1) rfl ?_); refine Dz ?hg (N := 1) ?hd (cs := #[.int .i64 a0_0, .string a0_1, .int .i64 a0_2, .int .i64 a0_3]) (t := 25) ?hr ?_; (case hd => rfl); (case hg => rfl); (case hr => first | (go_simp; done) | (go_simp; rfl)); intro gb0 hg w18 hbox hb; have n0_ := Ac.mk (Ar Yb_ hb); have n1_ := Ac.mk (hbox); have n2_ := Ac.mk ((by rw [hg]; exact (Ba Yb_) : w.heap.size ≤ gb0)); have n3_ := Ac.mk ((by rw [hg]; exact (Ba Yb_) : w.heap.size ≤ gb0)); clear HB; have HB := n0_; have BK0 := n1_; have GW0 := n2_; have GE0 := n3_; clear n0_ n1_ n2_ n3_; clear hb hbox hg; have hcz19_0 : w18.cell? ⟨gb0, 0, none⟩ = some (.int .i64 a0_0) := (Ak BK0.out 0).trans rfl; have hcz19_1 : w18.cell? ⟨gb0, 1, none⟩ = some (.string a0_1) := (Ak BK0.out 1).trans rfl; have hcz19_2 : w18.cell? ⟨gb0, 2, none⟩ = some (.int .i64 a0_2) := (Ak BK0.out 2).trans rfl; have hcz19_3 : w18.cell? ⟨gb0, 3, none⟩ = some (.int .i64 a0_3) := (Ak BK0.out 3).trans rfl; have hfz19_0 := Ai BK0.out 0; have hfz19_1 := Ai BK0.out 1; have hfz19_2 := Ai BK0.out 2; have hfz19_3 := Ai BK0.out 3) | ((with_reducible refine Ap (f := 23) rfl ?_); refine Bj (some 5) rfl rfl Tryz.func23 (by kernel_rfl) rfl #[.string a0_1] rfl Ya_ ?_; (with_reducible refine (Ff.calls k a0_1 true _ A2.out).mono ?_); rintro e w' ⟨rfl, ⟨nd, rfl⟩⟩; refine ⟨_, rfl, ?_⟩) | ((with_reducible refine Ap (f := 24) rfl ?_); refine Bj (some 23) rfl rfl Tryz.func24 (by kernel_rfl) rfl #[.int .i64 a0_2, .int .i64 0, .int .i64 5] rfl Ya_ ?_; (with_reducible refine (Dx.calls a0_2 0 5 true _ A12.out).mono ?_); rintro e w' ⟨rfl, ⟨nd, rfl⟩⟩; refine ⟨_, rfl, ?_⟩) | (go_at_call 24; (with_reducible refine (Dx.calls a0_3 0 5 false _ A14.out).mono ?_); rintro e w' ⟨rfl, ⟨nd, rfl⟩⟩))
      go_ret
      exact ⟨by first | rfl | (simp [Au, Aw] <;> rfl) | (simp [*, Au, Aw] <;> rfl), by repeat (first | (with_reducible first | exact HB.out | apply Ae | apply Aa | apply Ad | refine Am ?_ GE0.out) | exact HB.out)⟩
    ·replace c13 := Bool.eq_false_iff.mpr c13
     subst c13
     have H1 : (some false) = some r := by rw [if_neg (show ¬ (false = true) by decide)] at H; exact H
     clear H
     have H := H1
     clear H1
     obtain rfl := Option.some.inj H
     go_enter Tryz.func8, Tryz.ntmps8
     go_wp2_with (first | ((with_reducible refine Dl (N := 1) rfl ?_); refine Dz ?hg (N := 1) ?hd (cs := #[.int .i64 a0_0, .string a0_1, .int .i64 a0_2, .int .i64 a0_3]) (t := 25) ?hr ?_; (case hd => rfl); (case hg => rfl); (case hr => first | (go_simp; done) | (go_simp; rfl)); intro gb0 hg w20 hbox hb; have n0_ := Ac.mk (Ar Yb_ hb); have n1_ := Ac.mk (hbox); have n2_ := Ac.mk ((by rw [hg]; exact (Ba Yb_) : w.heap.size ≤ gb0)); have n3_ := Ac.mk ((by rw [hg]; exact (Ba Yb_) : w.heap.size ≤ gb0)); clear HB; have HB := n0_; have BK0 := n1_; have GW0 := n2_; have GE0 := n3_; clear n0_ n1_ n2_ n3_; clear hb hbox hg; have hcz21_0 : w20.cell? ⟨gb0, 0, none⟩ = some (.int .i64 a0_0) := (Ak BK0.out 0).trans rfl; have hcz21_1 : w20.cell? ⟨gb0, 1, none⟩ = some (.string a0_1) := (Ak BK0.out 1).trans rfl; have hcz21_2 : w20.cell? ⟨gb0, 2, none⟩ = some (.int .i64 a0_2) := (Ak BK0.out 2).trans rfl; have hcz21_3 : w20.cell? ⟨gb0, 3, none⟩ = some (.int .i64 a0_3) := (Ak BK0.out 3).trans rfl; have hfz21_0 := Ai BK0.out 0; have hfz21_1 := Ai BK0.out 1; have hfz21_2 := Ai BK0.out 2; have hfz21_3 := Ai BK0.out 3) | ((with_reducible refine Ap (f := 23) rfl ?_); refine Bj (some 5) rfl rfl Tryz.func23 (by kernel_rfl) rfl #[.string a0_1] rfl Ya_ ?_; (with_reducible refine (Ff.calls k a0_1 true _ A2.out).mono ?_); rintro e w' ⟨rfl, ⟨nd, rfl⟩⟩; refine ⟨_, rfl, ?_⟩) | ((with_reducible refine Ap (f := 24) rfl ?_); refine Bj (some 23) rfl rfl Tryz.func24 (by kernel_rfl) rfl #[.int .i64 a0_2, .int .i64 0, .int .i64 5] rfl Ya_ ?_; (with_reducible refine (Dx.calls a0_2 0 5 false _ A12.out).mono ?_); rintro e w' ⟨rfl, ⟨nd, rfl⟩⟩; refine ⟨_, rfl, ?_⟩))
     go_ret
     exact ⟨by first | rfl | (simp [Au, Aw] <;> rfl) | (simp [*, Au, Aw] <;> rfl), by repeat (first | (with_reducible first | exact HB.out | apply Ae | apply Aa | apply Ad | refine Am ?_ GE0.out) | exact HB.out)⟩
   ·rw [if_neg c11] at H
    have c11b0 : (a0_0 == 2) = false := beq_eq_false_iff_ne.mpr c11
    have c11b1 : (a0_0 != 2) = true := bne_iff_ne.mpr c11
    by_cases c22 : a0_0 = 3
    ·rw [if_pos c22] at H
     have c22b0 : (a0_0 == 3) = true := beq_iff_eq.mpr c22
     have c22b1 : (a0_0 != 3) = false := bne_eq_false_iff_eq.mpr c22
     clear c22
     replace H := Option.bind_eq_some_iff.mp H
     obtain ⟨t208, A230, H⟩ := H
     try dsimp only at H
     have A23 := Ac.mk A230
     clear A230
     by_cases c24 : t208 = true
     ·subst c24
      have H1 : (some (a0_3 == 0)) = some r := by rw [if_pos rfl] at H; exact H
      clear H
      have H := H1
      clear H1
      obtain rfl := Option.some.inj H
      go_enter Tryz.func8, Tryz.ntmps8
      go_wp2_with (first | ((with_reducible refine Dl (N := 1) rfl ?_); refine Dz ?hg (N := 1) ?hd (cs := #[.int .i64 a0_0, .string a0_1, .int .i64 a0_2, .int .i64 a0_3]) (t := 25) ?hr ?_; (case hd => rfl); (case hg => rfl); (case hr => first | (go_simp; done) | (go_simp; rfl)); intro gb0 hg w25 hbox hb; have n0_ := Ac.mk (Ar Yb_ hb); have n1_ := Ac.mk (hbox); have n2_ := Ac.mk ((by rw [hg]; exact (Ba Yb_) : w.heap.size ≤ gb0)); have n3_ := Ac.mk ((by rw [hg]; exact (Ba Yb_) : w.heap.size ≤ gb0)); clear HB; have HB := n0_; have BK0 := n1_; have GW0 := n2_; have GE0 := n3_; clear n0_ n1_ n2_ n3_; clear hb hbox hg; have hcz26_0 : w25.cell? ⟨gb0, 0, none⟩ = some (.int .i64 a0_0) := (Ak BK0.out 0).trans rfl; have hcz26_1 : w25.cell? ⟨gb0, 1, none⟩ = some (.string a0_1) := (Ak BK0.out 1).trans rfl; have hcz26_2 : w25.cell? ⟨gb0, 2, none⟩ = some (.int .i64 a0_2) := (Ak BK0.out 2).trans rfl; have hcz26_3 : w25.cell? ⟨gb0, 3, none⟩ = some (.int .i64 a0_3) := (Ak BK0.out 3).trans rfl; have hfz26_0 := Ai BK0.out 0; have hfz26_1 := Ai BK0.out 1; have hfz26_2 := Ai BK0.out 2; have hfz26_3 := Ai BK0.out 3) | ((with_reducible refine Ap (f := 23) rfl ?_); refine Bj (some 5) rfl rfl Tryz.func23 (by kernel_rfl) rfl #[.string a0_1] rfl Ya_ ?_; (with_reducible refine (Ff.calls k a0_1 true _ A2.out).mono ?_); rintro e w' ⟨rfl, ⟨nd, rfl⟩⟩; refine ⟨_, rfl, ?_⟩) | ((with_reducible refine Ap (f := 24) rfl ?_); refine Bj (some 40) rfl rfl Tryz.func24 (by kernel_rfl) rfl #[.int .i64 a0_2, .int .i64 1, .int .i64 15] rfl Ya_ ?_; (with_reducible refine (Dx.calls a0_2 1 15 true _ A23.out).mono ?_); rintro e w' ⟨rfl, ⟨nd, rfl⟩⟩; refine ⟨_, rfl, ?_⟩))
      go_ret
      exact ⟨by first | rfl | (simp [Au, Aw] <;> rfl) | (simp [*, Au, Aw] <;> rfl), by repeat (first | (with_reducible first | exact HB.out | apply Ae | apply Aa | apply Ad | refine Am ?_ GE0.out) | exact HB.out)⟩
     ·replace c24 := Bool.eq_false_iff.mpr c24
      subst c24
      have H1 : (some false) = some r := by rw [if_neg (show ¬ (false = true) by decide)] at H; exact H
      clear H
      have H := H1
      clear H1
      obtain rfl := Option.some.inj H
      go_enter Tryz.func8, Tryz.ntmps8
      go_wp2_with (first | ((with_reducible refine Dl (N := 1) rfl ?_); refine Dz ?hg (N := 1) ?hd (cs := #[.int .i64 a0_0, .string a0_1, .int .i64 a0_2, .int .i64 a0_3]) (t := 25) ?hr ?_; (case hd => rfl); (case hg => rfl); (case hr => first | (go_simp; done) | (go_simp; rfl)); intro gb0 hg w27 hbox hb; have n0_ := Ac.mk (Ar Yb_ hb); have n1_ := Ac.mk (hbox); have n2_ := Ac.mk ((by rw [hg]; exact (Ba Yb_) : w.heap.size ≤ gb0)); have n3_ := Ac.mk ((by rw [hg]; exact (Ba Yb_) : w.heap.size ≤ gb0)); clear HB; have HB := n0_; have BK0 := n1_; have GW0 := n2_; have GE0 := n3_; clear n0_ n1_ n2_ n3_; clear hb hbox hg; have hcz28_0 : w27.cell? ⟨gb0, 0, none⟩ = some (.int .i64 a0_0) := (Ak BK0.out 0).trans rfl; have hcz28_1 : w27.cell? ⟨gb0, 1, none⟩ = some (.string a0_1) := (Ak BK0.out 1).trans rfl; have hcz28_2 : w27.cell? ⟨gb0, 2, none⟩ = some (.int .i64 a0_2) := (Ak BK0.out 2).trans rfl; have hcz28_3 : w27.cell? ⟨gb0, 3, none⟩ = some (.int .i64 a0_3) := (Ak BK0.out 3).trans rfl; have hfz28_0 := Ai BK0.out 0; have hfz28_1 := Ai BK0.out 1; have hfz28_2 := Ai BK0.out 2; have hfz28_3 := Ai BK0.out 3) | ((with_reducible refine Ap (f := 23) rfl ?_); refine Bj (some 5) rfl rfl Tryz.func23 (by kernel_rfl) rfl #[.string a0_1] rfl Ya_ ?_; (with_reducible refine (Ff.calls k a0_1 true _ A2.out).mono ?_); rintro e w' ⟨rfl, ⟨nd, rfl⟩⟩; refine ⟨_, rfl, ?_⟩) | ((with_reducible refine Ap (f := 24) rfl ?_); refine Bj (some 40) rfl rfl Tryz.func24 (by kernel_rfl) rfl #[.int .i64 a0_2, .int .i64 1, .int .i64 15] rfl Ya_ ?_; (with_reducible refine (Dx.calls a0_2 1 15 false _ A23.out).mono ?_); rintro e w' ⟨rfl, ⟨nd, rfl⟩⟩; refine ⟨_, rfl, ?_⟩))
      go_ret
      exact ⟨by first | rfl | (simp [Au, Aw] <;> rfl) | (simp [*, Au, Aw] <;> rfl), by repeat (first | (with_reducible first | exact HB.out | apply Ae | apply Aa | apply Ad | refine Am ?_ GE0.out) | exact HB.out)⟩
    ·rw [if_neg c22] at H
     have c22b0 : (a0_0 == 3) = false := beq_eq_false_iff_ne.mpr c22
     have c22b1 : (a0_0 != 3) = true := bne_iff_ne.mpr c22
     by_cases c29 : a0_0 = 4
     ·rw [if_pos c29] at H
      have c29b0 : (a0_0 == 4) = true := beq_iff_eq.mpr c29
      have c29b1 : (a0_0 != 4) = false := bne_eq_false_iff_eq.mpr c29
      clear c29
      replace H := Option.bind_eq_some_iff.mp H
      obtain ⟨t209, A300, H⟩ := H
      try dsimp only at H
      have A30 := Ac.mk A300
      clear A300
      by_cases c31 : t209 = true
      ·subst c31
       have H1 : (some (a0_3 == 0)) = some r := by rw [if_pos rfl] at H; exact H
       clear H
       have H := H1
       clear H1
       obtain rfl := Option.some.inj H
       go_enter Tryz.func8, Tryz.ntmps8
       go_wp2_with (first | ((with_reducible refine Dl (N := 1) rfl ?_); refine Dz ?hg (N := 1) ?hd (cs := #[.int .i64 a0_0, .string a0_1, .int .i64 a0_2, .int .i64 a0_3]) (t := 25) ?hr ?_; (case hd => rfl); (case hg => rfl); (case hr => first | (go_simp; done) | (go_simp; rfl)); intro gb0 hg w32 hbox hb; have n0_ := Ac.mk (Ar Yb_ hb); have n1_ := Ac.mk (hbox); have n2_ := Ac.mk ((by rw [hg]; exact (Ba Yb_) : w.heap.size ≤ gb0)); have n3_ := Ac.mk ((by rw [hg]; exact (Ba Yb_) : w.heap.size ≤ gb0)); clear HB; have HB := n0_; have BK0 := n1_; have GW0 := n2_; have GE0 := n3_; clear n0_ n1_ n2_ n3_; clear hb hbox hg; have hcz33_0 : w32.cell? ⟨gb0, 0, none⟩ = some (.int .i64 a0_0) := (Ak BK0.out 0).trans rfl; have hcz33_1 : w32.cell? ⟨gb0, 1, none⟩ = some (.string a0_1) := (Ak BK0.out 1).trans rfl; have hcz33_2 : w32.cell? ⟨gb0, 2, none⟩ = some (.int .i64 a0_2) := (Ak BK0.out 2).trans rfl; have hcz33_3 : w32.cell? ⟨gb0, 3, none⟩ = some (.int .i64 a0_3) := (Ak BK0.out 3).trans rfl; have hfz33_0 := Ai BK0.out 0; have hfz33_1 := Ai BK0.out 1; have hfz33_2 := Ai BK0.out 2; have hfz33_3 := Ai BK0.out 3) | ((with_reducible refine Ap (f := 23) rfl ?_); refine Bj (some 5) rfl rfl Tryz.func23 (by kernel_rfl) rfl #[.string a0_1] rfl Ya_ ?_; (with_reducible refine (Ff.calls k a0_1 true _ A2.out).mono ?_); rintro e w' ⟨rfl, ⟨nd, rfl⟩⟩; refine ⟨_, rfl, ?_⟩) | ((with_reducible refine Ap (f := 24) rfl ?_); refine Bj (some 50) rfl rfl Tryz.func24 (by kernel_rfl) rfl #[.int .i64 a0_2, .int .i64 0, .int .i64 11] rfl Ya_ ?_; (with_reducible refine (Dx.calls a0_2 0 11 true _ A30.out).mono ?_); rintro e w' ⟨rfl, ⟨nd, rfl⟩⟩; refine ⟨_, rfl, ?_⟩))
       go_ret
       exact ⟨by first | rfl | (simp [Au, Aw] <;> rfl) | (simp [*, Au, Aw] <;> rfl), by repeat (first | (with_reducible first | exact HB.out | apply Ae | apply Aa | apply Ad | refine Am ?_ GE0.out) | exact HB.out)⟩
      ·replace c31 := Bool.eq_false_iff.mpr c31
       subst c31
       have H1 : (some false) = some r := by rw [if_neg (show ¬ (false = true) by decide)] at H; exact H
       clear H
       have H := H1
       clear H1
       obtain rfl := Option.some.inj H
       go_enter Tryz.func8, Tryz.ntmps8
       go_wp2_with (first | ((with_reducible refine Dl (N := 1) rfl ?_); refine Dz ?hg (N := 1) ?hd (cs := #[.int .i64 a0_0, .string a0_1, .int .i64 a0_2, .int .i64 a0_3]) (t := 25) ?hr ?_; (case hd => rfl); (case hg => rfl); (case hr => first | (go_simp; done) | (go_simp; rfl)); intro gb0 hg w34 hbox hb; have n0_ := Ac.mk (Ar Yb_ hb); have n1_ := Ac.mk (hbox); have n2_ := Ac.mk ((by rw [hg]; exact (Ba Yb_) : w.heap.size ≤ gb0)); have n3_ := Ac.mk ((by rw [hg]; exact (Ba Yb_) : w.heap.size ≤ gb0)); clear HB; have HB := n0_; have BK0 := n1_; have GW0 := n2_; have GE0 := n3_; clear n0_ n1_ n2_ n3_; clear hb hbox hg; have hcz35_0 : w34.cell? ⟨gb0, 0, none⟩ = some (.int .i64 a0_0) := (Ak BK0.out 0).trans rfl; have hcz35_1 : w34.cell? ⟨gb0, 1, none⟩ = some (.string a0_1) := (Ak BK0.out 1).trans rfl; have hcz35_2 : w34.cell? ⟨gb0, 2, none⟩ = some (.int .i64 a0_2) := (Ak BK0.out 2).trans rfl; have hcz35_3 : w34.cell? ⟨gb0, 3, none⟩ = some (.int .i64 a0_3) := (Ak BK0.out 3).trans rfl; have hfz35_0 := Ai BK0.out 0; have hfz35_1 := Ai BK0.out 1; have hfz35_2 := Ai BK0.out 2; have hfz35_3 := Ai BK0.out 3) | ((with_reducible refine Ap (f := 23) rfl ?_); refine Bj (some 5) rfl rfl Tryz.func23 (by kernel_rfl) rfl #[.string a0_1] rfl Ya_ ?_; (with_reducible refine (Ff.calls k a0_1 true _ A2.out).mono ?_); rintro e w' ⟨rfl, ⟨nd, rfl⟩⟩; refine ⟨_, rfl, ?_⟩) | ((with_reducible refine Ap (f := 24) rfl ?_); refine Bj (some 50) rfl rfl Tryz.func24 (by kernel_rfl) rfl #[.int .i64 a0_2, .int .i64 0, .int .i64 11] rfl Ya_ ?_; (with_reducible refine (Dx.calls a0_2 0 11 false _ A30.out).mono ?_); rintro e w' ⟨rfl, ⟨nd, rfl⟩⟩; refine ⟨_, rfl, ?_⟩))
       go_ret
       exact ⟨by first | rfl | (simp [Au, Aw] <;> rfl) | (simp [*, Au, Aw] <;> rfl), by repeat (first | (with_reducible first | exact HB.out | apply Ae | apply Aa | apply Ad | refine Am ?_ GE0.out) | exact HB.out)⟩
     ·rw [if_neg c29] at H
      have c29b0 : (a0_0 == 4) = false := beq_eq_false_iff_ne.mpr c29
      have c29b1 : (a0_0 != 4) = true := bne_iff_ne.mpr c29
      by_cases c36 : a0_0 = 5
      ·rw [if_pos c36] at H
       have c36b0 : (a0_0 == 5) = true := beq_iff_eq.mpr c36
       have c36b1 : (a0_0 != 5) = false := bne_eq_false_iff_eq.mpr c36
       clear c36
       replace H := Option.bind_eq_some_iff.mp H
       obtain ⟨t210, A370, H⟩ := H
       try dsimp only at H
       have A37 := Ac.mk A370
       clear A370
       by_cases c38 : t210 = true
       ·subst c38
        have H1 : ((Dx.f a0_3 1 400).bind fun t211 => (some t211)) = some r := by rw [if_pos rfl] at H; exact H
        clear H
        have H := H1
        clear H1
        replace H := Option.bind_eq_some_iff.mp H
        obtain ⟨t211, A390, H⟩ := H
        try dsimp only at H
        have A39 := Ac.mk A390
        clear A390
        obtain rfl := Option.some.inj H
        go_enter Tryz.func8, Tryz.ntmps8
        go_wp2_with (first | ((with_reducible refine Dl (N := 1) rfl ?_); refine Dz ?hg (N := 1) ?hd (cs := #[.int .i64 a0_0, .string a0_1, .int .i64 a0_2, .int .i64 a0_3]) (t := 25) ?hr ?_; (case hd => rfl); (case hg => rfl); (case hr => first | (go_simp; done) | (go_simp; rfl)); intro gb0 hg w40 hbox hb; have n0_ := Ac.mk (Ar Yb_ hb); have n1_ := Ac.mk (hbox); have n2_ := Ac.mk ((by rw [hg]; exact (Ba Yb_) : w.heap.size ≤ gb0)); have n3_ := Ac.mk ((by rw [hg]; exact (Ba Yb_) : w.heap.size ≤ gb0)); clear HB; have HB := n0_; have BK0 := n1_; have GW0 := n2_; have GE0 := n3_; clear n0_ n1_ n2_ n3_; clear hb hbox hg; have hcz41_0 : w40.cell? ⟨gb0, 0, none⟩ = some (.int .i64 a0_0) := (Ak BK0.out 0).trans rfl; have hcz41_1 : w40.cell? ⟨gb0, 1, none⟩ = some (.string a0_1) := (Ak BK0.out 1).trans rfl; have hcz41_2 : w40.cell? ⟨gb0, 2, none⟩ = some (.int .i64 a0_2) := (Ak BK0.out 2).trans rfl; have hcz41_3 : w40.cell? ⟨gb0, 3, none⟩ = some (.int .i64 a0_3) := (Ak BK0.out 3).trans rfl; have hfz41_0 := Ai BK0.out 0; have hfz41_1 := Ai BK0.out 1; have hfz41_2 := Ai BK0.out 2; have hfz41_3 := Ai BK0.out 3) | ((with_reducible refine Ap (f := 23) rfl ?_); refine Bj (some 5) rfl rfl Tryz.func23 (by kernel_rfl) rfl #[.string a0_1] rfl Ya_ ?_; (with_reducible refine (Ff.calls k a0_1 true _ A2.out).mono ?_); rintro e w' ⟨rfl, ⟨nd, rfl⟩⟩; refine ⟨_, rfl, ?_⟩) | ((with_reducible refine Ap (f := 24) rfl ?_); refine Bj (some 60) rfl rfl Tryz.func24 (by kernel_rfl) rfl #[.int .i64 a0_2, .int .i64 1, .int .i64 999999] rfl Ya_ ?_; (with_reducible refine (Dx.calls a0_2 1 999999 true _ A37.out).mono ?_); rintro e w' ⟨rfl, ⟨nd, rfl⟩⟩; refine ⟨_, rfl, ?_⟩) | (go_at_call 24; (with_reducible refine (Dx.calls a0_3 1 400 t211 _ A39.out).mono ?_); rintro e w' ⟨rfl, ⟨nd, rfl⟩⟩))
        go_ret
        exact ⟨by first | rfl | (simp [Au, Aw] <;> rfl) | (simp [*, Au, Aw] <;> rfl), by repeat (first | (with_reducible first | exact HB.out | apply Ae | apply Aa | apply Ad | refine Am ?_ GE0.out) | exact HB.out)⟩
       ·replace c38 := Bool.eq_false_iff.mpr c38
        subst c38
        have H1 : (some false) = some r := by rw [if_neg (show ¬ (false = true) by decide)] at H; exact H
        clear H
        have H := H1
        clear H1
        obtain rfl := Option.some.inj H
        go_enter Tryz.func8, Tryz.ntmps8
        go_wp2_with (first | ((with_reducible refine Dl (N := 1) rfl ?_); refine Dz ?hg (N := 1) ?hd (cs := #[.int .i64 a0_0, .string a0_1, .int .i64 a0_2, .int .i64 a0_3]) (t := 25) ?hr ?_; (case hd => rfl); (case hg => rfl); (case hr => first | (go_simp; done) | (go_simp; rfl)); intro gb0 hg w42 hbox hb; have n0_ := Ac.mk (Ar Yb_ hb); have n1_ := Ac.mk (hbox); have n2_ := Ac.mk ((by rw [hg]; exact (Ba Yb_) : w.heap.size ≤ gb0)); have n3_ := Ac.mk ((by rw [hg]; exact (Ba Yb_) : w.heap.size ≤ gb0)); clear HB; have HB := n0_; have BK0 := n1_; have GW0 := n2_; have GE0 := n3_; clear n0_ n1_ n2_ n3_; clear hb hbox hg; have hcz43_0 : w42.cell? ⟨gb0, 0, none⟩ = some (.int .i64 a0_0) := (Ak BK0.out 0).trans rfl; have hcz43_1 : w42.cell? ⟨gb0, 1, none⟩ = some (.string a0_1) := (Ak BK0.out 1).trans rfl; have hcz43_2 : w42.cell? ⟨gb0, 2, none⟩ = some (.int .i64 a0_2) := (Ak BK0.out 2).trans rfl; have hcz43_3 : w42.cell? ⟨gb0, 3, none⟩ = some (.int .i64 a0_3) := (Ak BK0.out 3).trans rfl; have hfz43_0 := Ai BK0.out 0; have hfz43_1 := Ai BK0.out 1; have hfz43_2 := Ai BK0.out 2; have hfz43_3 := Ai BK0.out 3) | ((with_reducible refine Ap (f := 23) rfl ?_); refine Bj (some 5) rfl rfl Tryz.func23 (by kernel_rfl) rfl #[.string a0_1] rfl Ya_ ?_; (with_reducible refine (Ff.calls k a0_1 true _ A2.out).mono ?_); rintro e w' ⟨rfl, ⟨nd, rfl⟩⟩; refine ⟨_, rfl, ?_⟩) | ((with_reducible refine Ap (f := 24) rfl ?_); refine Bj (some 60) rfl rfl Tryz.func24 (by kernel_rfl) rfl #[.int .i64 a0_2, .int .i64 1, .int .i64 999999] rfl Ya_ ?_; (with_reducible refine (Dx.calls a0_2 1 999999 false _ A37.out).mono ?_); rintro e w' ⟨rfl, ⟨nd, rfl⟩⟩; refine ⟨_, rfl, ?_⟩))
        go_ret
        exact ⟨by first | rfl | (simp [Au, Aw] <;> rfl) | (simp [*, Au, Aw] <;> rfl), by repeat (first | (with_reducible first | exact HB.out | apply Ae | apply Aa | apply Ad | refine Am ?_ GE0.out) | exact HB.out)⟩
      ·rw [if_neg c36] at H
       have c36b0 : (a0_0 == 5) = false := beq_eq_false_iff_ne.mpr c36
       have c36b1 : (a0_0 != 5) = true := bne_iff_ne.mpr c36
       obtain rfl := Option.some.inj H
       go_enter Tryz.func8, Tryz.ntmps8
       go_wp2_with (first | ((with_reducible refine Dl (N := 1) rfl ?_); refine Dz ?hg (N := 1) ?hd (cs := #[.int .i64 a0_0, .string a0_1, .int .i64 a0_2, .int .i64 a0_3]) (t := 25) ?hr ?_; (case hd => rfl); (case hg => rfl); (case hr => first | (go_simp; done) | (go_simp; rfl)); intro gb0 hg w44 hbox hb; have n0_ := Ac.mk (Ar Yb_ hb); have n1_ := Ac.mk (hbox); have n2_ := Ac.mk ((by rw [hg]; exact (Ba Yb_) : w.heap.size ≤ gb0)); have n3_ := Ac.mk ((by rw [hg]; exact (Ba Yb_) : w.heap.size ≤ gb0)); clear HB; have HB := n0_; have BK0 := n1_; have GW0 := n2_; have GE0 := n3_; clear n0_ n1_ n2_ n3_; clear hb hbox hg; have hcz45_0 : w44.cell? ⟨gb0, 0, none⟩ = some (.int .i64 a0_0) := (Ak BK0.out 0).trans rfl; have hcz45_1 : w44.cell? ⟨gb0, 1, none⟩ = some (.string a0_1) := (Ak BK0.out 1).trans rfl; have hcz45_2 : w44.cell? ⟨gb0, 2, none⟩ = some (.int .i64 a0_2) := (Ak BK0.out 2).trans rfl; have hcz45_3 : w44.cell? ⟨gb0, 3, none⟩ = some (.int .i64 a0_3) := (Ak BK0.out 3).trans rfl; have hfz45_0 := Ai BK0.out 0; have hfz45_1 := Ai BK0.out 1; have hfz45_2 := Ai BK0.out 2; have hfz45_3 := Ai BK0.out 3) | ((with_reducible refine Ap (f := 23) rfl ?_); refine Bj (some 5) rfl rfl Tryz.func23 (by kernel_rfl) rfl #[.string a0_1] rfl Ya_ ?_; (with_reducible refine (Ff.calls k a0_1 true _ A2.out).mono ?_); rintro e w' ⟨rfl, ⟨nd, rfl⟩⟩; refine ⟨_, rfl, ?_⟩))
       go_ret
       exact ⟨by first | rfl | (simp [Au, Aw] <;> rfl) | (simp [*, Au, Aw] <;> rfl), by repeat (first | (with_reducible first | exact HB.out | apply Ae | apply Aa | apply Ad | refine Am ?_ GE0.out) | exact HB.out)⟩
 ·replace c3 := Bool.eq_false_iff.mpr c3
  subst c3
  have H1 : (some false) = some r := by rw [if_neg (show ¬ (false = true) by decide)] at H; exact H
  clear H
  have H := H1
  clear H1
  obtain rfl := Option.some.inj H
  go_enter Tryz.func8, Tryz.ntmps8
  go_wp2_with (first | ((with_reducible refine Dl (N := 1) rfl ?_); refine Dz ?hg (N := 1) ?hd (cs := #[.int .i64 a0_0, .string a0_1, .int .i64 a0_2, .int .i64 a0_3]) (t := 25) ?hr ?_; (case hd => rfl); (case hg => rfl); (case hr => first | (go_simp; done) | (go_simp; rfl)); intro gb0 hg w46 hbox hb; have n0_ := Ac.mk (Ar Yb_ hb); have n1_ := Ac.mk (hbox); have n2_ := Ac.mk ((by rw [hg]; exact (Ba Yb_) : w.heap.size ≤ gb0)); have n3_ := Ac.mk ((by rw [hg]; exact (Ba Yb_) : w.heap.size ≤ gb0)); clear HB; have HB := n0_; have BK0 := n1_; have GW0 := n2_; have GE0 := n3_; clear n0_ n1_ n2_ n3_; clear hb hbox hg; have hcz47_0 : w46.cell? ⟨gb0, 0, none⟩ = some (.int .i64 a0_0) := (Ak BK0.out 0).trans rfl; have hcz47_1 : w46.cell? ⟨gb0, 1, none⟩ = some (.string a0_1) := (Ak BK0.out 1).trans rfl; have hcz47_2 : w46.cell? ⟨gb0, 2, none⟩ = some (.int .i64 a0_2) := (Ak BK0.out 2).trans rfl; have hcz47_3 : w46.cell? ⟨gb0, 3, none⟩ = some (.int .i64 a0_3) := (Ak BK0.out 3).trans rfl; have hfz47_0 := Ai BK0.out 0; have hfz47_1 := Ai BK0.out 1; have hfz47_2 := Ai BK0.out 2; have hfz47_3 := Ai BK0.out 3) | ((with_reducible refine Ap (f := 23) rfl ?_); refine Bj (some 5) rfl rfl Tryz.func23 (by kernel_rfl) rfl #[.string a0_1] rfl Ya_ ?_; (with_reducible refine (Ff.calls k a0_1 false _ A2.out).mono ?_); rintro e w' ⟨rfl, ⟨nd, rfl⟩⟩; refine ⟨_, rfl, ?_⟩))
  go_ret
  exact ⟨by first | rfl | (simp [Au, Aw] <;> rfl) | (simp [*, Au, Aw] <;> rfl), by repeat (first | (with_reducible first | exact HB.out | apply Ae | apply Aa | apply Ad | refine Am ?_ GE0.out) | exact HB.out)⟩
end Go.Proofs.YtghnljoaklmakaaGreatDoor.X

