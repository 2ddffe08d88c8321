/- Texts that the proof of the law FnStays leans on, part 2 of 6. -/
import Derived.Test.YtolaplcjbmjlmaaProg
import Derived.Below
import Derived.Deep.Draws
import Derived.Deep.AppendLies
import Derived.Maps.AppendAt
import Derived.OwnWalk
import Derived.Laws.BytesArg
import Derived.Laws.MakeOwn
import Derived.Laws.OwnMore
import Derived.Deep.OwnRows
import Derived.Tactics
import Derived.Lib.ConvBytes
import Derived.Laws.Slices
import Derived.WalkKit
import Derived.KernelRfl
import Derived.RowKit3
import Derived.Deep.LoopGhost
import Derived.Deep.QuietTactic
import Derived.BigQuiet
import Derived.WideLaws
import Derived.Deep.DeepCutAuto
import Derived.Deep.CutBlock
import Derived.Deep.RegionHeld3
import Derived.Laws.Rows
import Derived.Lib.AppendStr
import Derived.ArgAppend
import Derived.Laws.IdiomCopy
import Derived.OrdersHeld
import Derived.Laws.BitsLemmas
import Derived.RowKit
import Derived.Shelf.Abstract
import Derived.Test.YtolaplcjbmjlmaaKFnStays0
set_option linter.unusedVariables false
set_option linter.unusedSimpArgs false
namespace Go.Proofs.Ytolaplcjbmjlmaa.X
open Go.RowKit Go.Proofs.YtolaplcjbmjlmaaW.PrintWords Go.Proofs.YtolaplcjbmjlmaaW.PrintLast Go.Proofs.YtolaplcjbmjlmaaW.PrintMore
attribute [local go_sem] max2_int min2_int max_two min_two max_three min_three max_four min_four

def errW : Option Int → Value
 | none => .nilIface
 | some c => .iface 0 (.int .i64 c)
theorem Aw : errW none = .nilIface := rfl
theorem Az (c : Int) : errW (some c) = .iface 0 (.int .i64 c) := rfl
theorem info3 : (Try.prog.info? 3).map (fun i => (i.zero, i.size, i.bytes)) = some (some (.int .i64 0), 1, 8) := by kernel_rfl
theorem info53 : (Try.prog.info? 53).map (fun i => (i.zero, i.size, i.bytes)) = some (some (.slice none 0 0), 1, 24) := by kernel_rfl
theorem info59 : (Try.prog.info? 59).map (fun i => (i.zero, i.size, i.bytes)) = some (some (.agg #[(.int .i64 0), (.int .i64 0), (.int .i64 0)]), 3, 24) := by kernel_rfl
-- the values' own types
structure S62 where
 f0 : Int
 f1 : Int
 f2 : Int
def z62 : S62 := ⟨(0 : Int), (0 : Int), (0 : Int)⟩
def k62 : Kd S62 := Kd.iso (Kd.pair (Kd.int .i64) (Kd.pair (Kd.int .i64) (Kd.int .i64))) (fun x : S62 => (x.f0, x.f1, x.f2))
theorem k62_open {w : World} {x : S62} {cs : List Value} (h : k62.K w x cs) : cs = [.int .i64 x.f0, .int .i64 x.f1, .int .i64 x.f2] := by
 obtain ⟨_, _, rfl, rfl, ⟨_, _, rfl, rfl, rfl⟩⟩ := h
 exact rfl
def rd_T62 (xs : List S62) (i : Int) : S62 := xs.getD i.toNat z62
theorem at_T62 {w : World} {A : Option Addr} {n : Nat} {xs : List S62} (h : Kd.C k62 w A n xs) (i : Int) (h0 : 0 ≤ i) (h1 : i < n) : ∃ ad , A = some ad ∧ w.cell? (ad.add (i.toNat * 3)) = some (.int .i64 (rd_T62 xs i).f0) ∧ w.cell? ⟨(ad.add (i.toNat * 3)).block, (ad.add (i.toNat * 3)).off + 1, none⟩ = some (.int .i64 (rd_T62 xs i).f1) ∧ w.cell? ⟨(ad.add (i.toNat * 3)).block, (ad.add (i.toNat * 3)).off + 2, none⟩ = some (.int .i64 (rd_T62 xs i).f2) := by
 obtain ⟨ad, c, e, _, hK, hc0⟩ := Kd.C_get h z62 i h0 h1
 have hc : ∀ j u, c[j]? = some u → w.cell? (ad.add (i.toNat * 3 + j)) = some u := hc0
 obtain rfl := k62_open hK
 exact ⟨ad, e, hc 0 _ rfl, by rw [← add_field _ _ 1 (by omega)]; exact hc 1 _ rfl, by rw [← add_field _ _ 2 (by omega)]; exact hc 2 _ rfl⟩
structure S59 where
 f0 : Int
 f1 : Int
 f2 : Int
def z59 : S59 := ⟨(0 : Int), (0 : Int), (0 : Int)⟩
def k59 : Kd S59 := Kd.iso (Kd.pair (Kd.int .i64) (Kd.pair (Kd.int .i64) (Kd.int .i64))) (fun x : S59 => (x.f0, x.f1, x.f2))
theorem k59_open {w : World} {x : S59} {cs : List Value} (h : k59.K w x cs) : cs = [.int .i64 x.f0, .int .i64 x.f1, .int .i64 x.f2] := by
 obtain ⟨_, _, rfl, rfl, ⟨_, _, rfl, rfl, rfl⟩⟩ := h
 exact rfl
theorem Gi {w : World} {base : Nat} {ok : Nat → Prop} {x : S59} {cs : List Value} (h : k59.M w base ok x cs) : cs = [.int .i64 x.f0, .int .i64 x.f1, .int .i64 x.f2] := by
 obtain ⟨_, _, rfl, rfl, ⟨_, _, rfl, rfl, rfl⟩⟩ := h
 exact rfl
theorem Hy (w : World) (base : Nat) (ok : Nat → Prop) (x : S59)  : k59.M w base ok x [.int .i64 x.f0, .int .i64 x.f1, .int .i64 x.f2] := ⟨[.int .i64 x.f0], [.int .i64 x.f1, .int .i64 x.f2], rfl, rfl, ⟨[.int .i64 x.f1], [.int .i64 x.f2], rfl, rfl, rfl⟩⟩
def Ah (xs : List S59) (i : Int) : S59 := xs.getD i.toNat z59
theorem Ez {w : World} {A : Option Addr} {n : Nat} {xs : List S59} (h : Kd.C k59 w A n xs) (i : Int) (h0 : 0 ≤ i) (h1 : i < n) : ∃ ad , A = some ad ∧ w.cell? (ad.add (i.toNat * 3)) = some (.int .i64 (Ah xs i).f0) ∧ w.cell? ⟨(ad.add (i.toNat * 3)).block, (ad.add (i.toNat * 3)).off + 1, none⟩ = some (.int .i64 (Ah xs i).f1) ∧ w.cell? ⟨(ad.add (i.toNat * 3)).block, (ad.add (i.toNat * 3)).off + 2, none⟩ = some (.int .i64 (Ah xs i).f2) := by
 obtain ⟨ad, c, e, _, hK, hc0⟩ := Kd.C_get h z59 i h0 h1
 have hc : ∀ j u, c[j]? = some u → w.cell? (ad.add (i.toNat * 3 + j)) = some u := hc0
 obtain rfl := k59_open hK
 exact ⟨ad, e, hc 0 _ rfl, by rw [← add_field _ _ 1 (by omega)]; exact hc 1 _ rfl, by rw [← add_field _ _ 2 (by omega)]; exact hc 2 _ rfl⟩
def Es (xs : List (List Int)) (i : Int) : (List Int) := xs.getD i.toNat ([] : List Int)
theorem at_L6 {w : World} {A : Option Addr} {n : Nat} {xs : List (List Int)} (h : Kd.C (Kd.slice 3 (Kd.int .i64)) w A n xs) (i : Int) (h0 : 0 ≤ i) (h1 : i < n) : ∃ ad A0 c0, A = some ad ∧ w.cell? (ad.add i.toNat) = some (.slice A0 (Es xs i).length c0) ∧ (Es xs i).length ≤ c0 ∧ (Kd.int .i64).C w A0 (Es xs i).length (Es xs i) := by
 obtain ⟨ad, c, e, _, hK, hc0⟩ := Kd.C_get h ([] : List Int) i h0 h1
 have hc : ∀ j u, c[j]? = some u → w.cell? (ad.add (i.toNat * 1 + j)) = some u := hc0
 obtain ⟨A0, c0, rfl, l0, g0⟩ := hK
 exact ⟨ad, A0, c0, e, by have hq := hc 0 _ rfl; rwa [Nat.mul_one, Nat.add_zero] at hq, l0, g0⟩
end Go.Proofs.Ytolaplcjbmjlmaa.X

namespace Go.Proofs.Ytolaplcjbmjlmaa.X
open Go.RowKit Go.Proofs.YtolaplcjbmjlmaaW.PrintWords Go.Proofs.YtolaplcjbmjlmaaW.PrintLast Go.Proofs.YtolaplcjbmjlmaaW.PrintMore
theorem Ya_ {p : Prop} (h : p := by repeat (first | (with_reducible first | exact HB.out | apply Af | apply Ad | apply Ae) | exact HB.out)) : p := h
theorem Yb_ {p : Prop} (h : p := by (try simp only [List.map_toArray, List.map_cons, List.map_nil]); first | done | rfl | (simp only [List.length_drop, List.length_take]; rfl)) : p := h
theorem Yc_ {p : Prop} (h : p := by first | (with_reducible assumption) | assumption) : p := h
theorem Yd_ {p : Prop} (h : p := by first | rfl | (simp; done) | (simp [*]; done)) : p := h
theorem Ye_ {p : Prop} (h : p := by repeat (first | (with_reducible first | exact HK.out | apply Bc.Et | apply Cf | apply Dh | apply Ci) | exact HK.out)) : p := h
theorem Yf_ {p : Prop} (h : p := by repeat (first | (with_reducible first | exact HK.out | apply Bc.Et | apply Cf | apply Dh | apply Ci | refine Fe ?_ GW353.out _) | exact HK.out)) : p := h
theorem Yg_ {p : Prop} (h : p := by (with_reducible repeat (first | apply Kd.Ap | apply Kd.Am | apply Kd.Ba)); exact HO_3.out) : p := h
theorem Yh_ {p : Prop} (h : p := by have := HP.out; have := HLEN.out; simp only [List.length_append, List.length_take, List.length_drop, List.length_cons, List.length_nil]; omega) : p := h
theorem Yi_ {p : Prop} (h : p := by (with_reducible repeat (first | refine Dn ?_ _ | refine Dv ?_ | refine Dl ?_ _)); refine blk_put (cs := #[.int .i64 ((Ah x3_1 t349).f0), .int .i64 ((Ah x3_1 t349).f1), .int .i64 0]) ?_ 2 _ rfl; (with_reducible repeat (first | refine Dn ?_ _ | refine Dv ?_ | refine Dl ?_ _)); refine blk_put (cs := #[.int .i64 ((Ah x3_1 t349).f0), .int .i64 0, .int .i64 0]) ?_ 1 _ rfl; (with_reducible repeat (first | refine Dn ?_ _ | refine Dv ?_ | refine Dl ?_ _)); refine blk_put (cs := #[.int .i64 0, .int .i64 0, .int .i64 0]) ?_ 0 _ rfl; (with_reducible repeat (first | refine Dn ?_ _ | refine Dv ?_ | refine Dl ?_ _)); exact BK353.out) : p := h
theorem Yj_ {p : Prop} (h : p := by repeat (first | (with_reducible first | exact HB.out | apply Af | apply Ad | apply Ae | refine Ar ?_ GE0.out) | exact HB.out)) : p := h
theorem Yba_ {p : Prop} (h : p := by repeat (first | (with_reducible first | exact HI0.out | apply Ag.alloc | apply Ag.drewN | apply Ag.drew | apply Ag.D6 | apply Ag.D5 | refine Ag.far ?_ NB0_353.out _) | exact HI0.out)) : p := h
theorem Ybb_ {p : Prop} (h : p := by (with_reducible repeat (first | apply Kd.Ap | apply Kd.Am | apply Kd.Ba)); exact (Kd.R_mono (Kd.Gw (p := ⟨gb353, 2, none⟩) (Kd.Gw (p := ⟨gb353, 1, none⟩) (Kd.Gw (p := ⟨gb353, 0, none⟩) (Kd.R_mono HO_3.out (fun k_ hk => (⟨hk, hk.2⟩ : _ ∧ k_ ≠ gb353))) (fun _ hk => hk.2) (.int .i64 ((Ah x3_1 t349).f0))) (fun _ hk => hk.2) (.int .i64 ((Ah x3_1 t349).f1))) (fun _ hk => hk.2) (.int .i64 ((Ah x3_1 t349).f2))) (fun _ h_ => h_.1))) : p := h
theorem Ybc_ {p : Prop} (h : p := by (with_reducible repeat (first | refine Dn ?_ _ | refine Dv ?_ | refine Dl ?_ _)); exact BK0.out) : p := h
theorem Ybd_ {p : Prop} (h : p := by have h_ := Kd.H7 (m := x) (Kd.C_below HRo.out HB2.out) HP.out; rw [List.length_take, Nat.min_eq_left HP.out] at h_; exact h_) : p := h
theorem Ybe_ {p : Prop} (h : p := by (with_reducible repeat (first | refine Dn ?_ _ | refine Dv ?_ | refine Dl ?_ _)); exact BK353.out) : p := h
theorem Ybf_ {p : Prop} (h : p := by repeat (first | (with_reducible first | exact HI0.out | apply Ag.alloc | apply Ag.drewN | apply Ag.drew | apply Ag.D6 | apply Ag.D5) | exact HI0.out)) : p := h
theorem Ybg_ {p : Prop} (h : p := by simp only [Gz, Act.put, List.setIfInBounds_toArray, List.set_cons_zero, List.set_cons_succ]) : p := h
theorem Ybh_ {p : Prop} (h : p := by (with_reducible repeat (first | apply Kd.Ap | apply Kd.Am | apply Kd.Ba)); exact HO774.out) : p := h
theorem Ybi_ {p : Prop} (h : p := by repeat (first | (with_reducible first | exact HB.out | apply Af | apply Ad | apply Ae | refine Ar ?_ (Ag.ge HI0.out) | refine Ar ?_ GE353.out) | exact HB.out)) : p := h
theorem Ybj_ {p : Prop} (h : p := by repeat (first | (with_reducible first | exact HB.out | apply Af | apply Ad | apply Ae | refine Ar ?_ (Ag.ge HI0.out)) | exact HB.out)) : p := h
theorem Yca_ {p : Prop} (h : p := by (with_reducible repeat (first | apply Kd.Ap | apply Kd.Am | apply Kd.Ba)); exact HO142.out) : p := h
theorem Ycb_ {p : Prop} (h : p := by have h_ := Kd.C_drop (m := x) (Kd.C_below HRo.out HB2.out) HP.out HCo.out; rw [List.length_drop, show x * (Kd.int .i64).sz = x from Nat.mul_one _] at h_; rw [← HAc.out]; exact h_) : p := h
theorem Ycc_ {p : Prop} (h : p := by first | rfl | (simp only [Aj, Ak]; rfl) | (simp only [Aj, Ak])) : p := h
theorem Ycd_ {p : Prop} (h : p := by (with_reducible repeat (first | apply Kd.Ap | apply Kd.Am | apply Kd.Ba)); exact HO597.out) : p := h
theorem Yce_ {p : Prop} (h : p := by (with_reducible repeat (first | apply Kd.Ap | apply Kd.Am | apply Kd.Ba)); exact HO796.out) : p := h
theorem Ycf_ {p : Prop} (h : p := by (with_reducible repeat (first | apply Kd.Fp | apply Kd.Fq | apply Kd.F7)); exact HO800.out) : p := h
theorem Ycg_ {p : Prop} (h : p := by (with_reducible repeat (first | apply Kd.Ap | apply Kd.Am | apply Kd.Ba)); exact HO813.out) : p := h
theorem Ych_ {p : Prop} (h : p := by (with_reducible repeat (first | apply Kd.Ap | apply Kd.Am | apply Kd.Ba)); exact HO817.out) : p := h
theorem Yci_ {p : Prop} (h : p := by (with_reducible repeat (first | apply Kd.Ap | apply Kd.Am | apply Kd.Ba)); exact HO_7.out) : p := h
theorem Ycj_ {p : Prop} (h : p := by repeat (first | (with_reducible first | exact HK.out | apply Kept.alloc | apply Kept.drewN | apply Kept.drew) | exact HK.out)) : p := h
theorem Yda_ {p : Prop} (h : p := by repeat (first | (with_reducible first | exact HB.out | apply Af | apply Ad | apply Ae | refine Ar ?_ GE0.out | refine Ar ?_ GE1.out) | exact HB.out)) : p := h
theorem Ydb_ {p : Prop} (h : p := by have := HP.out; have := HXI.out; omega) : p := h
theorem Ydc_ {p : Prop} (h : p := by (with_reducible repeat (first | apply Kd.Ap | apply Kd.Am | apply Kd.Ba)); exact HO146.out) : p := h
theorem Ydd_ {p : Prop} (h : p := by (with_reducible repeat (first | apply Kd.Ap | apply Kd.Am | apply Kd.Ba)); exact HO166.out) : p := h
theorem Yde_ {p : Prop} (h : p := by (with_reducible repeat (first | apply Kd.Ap | apply Kd.Am | apply Kd.Ba)); exact HO185.out) : p := h
theorem Ydf_ {p : Prop} (h : p := by (with_reducible repeat (first | apply Kd.Ap | apply Kd.Am | apply Kd.Ba)); exact HO216.out) : p := h
theorem Ydg_ {p : Prop} (h : p := by (with_reducible repeat (first | apply Kd.Ap | apply Kd.Am | apply Kd.Ba)); exact HO264.out) : p := h
theorem Ydh_ {p : Prop} (h : p := by repeat (first | (with_reducible first | exact HB.out | apply Af | apply Ad | apply Ae | refine Ar ?_ (Ag.ge HI752.out)) | exact HB.out)) : p := h
theorem Ydi_ {p : Prop} (h : p := by (with_reducible repeat (first | apply Kd.Fp | apply Kd.Fq | apply Kd.F7)); exact HO_4.out) : p := h
theorem Ydj_ {p : Prop} (h : p := by have := HCI.out; have := HII.out; omega) : p := h
theorem Yea_ {p : Prop} (h : p := by (with_reducible repeat (first | refine Dn ?_ _ | refine Dv ?_ | refine Dl ?_ _)); exact BK1.out) : p := h
theorem Yeb_ {p : Prop} (h : p := by (with_reducible repeat (first | apply Kd.Ap | apply Kd.Am | apply Kd.Ba)); exact HO339.out) : p := h
theorem Yec_ {p : Prop} (h : p := by (with_reducible repeat (first | apply Kd.Ap | apply Kd.Am | apply Kd.Ba)); exact HO755.out) : p := h
theorem Yed_ {p : Prop} (h : p := by (with_reducible repeat (first | apply Kd.Ap | apply Kd.Am | apply Kd.Ba)); exact HO_13.out) : p := h
theorem Yee_ {p : Prop} (h : p := by (with_reducible repeat (first | apply Kd.Ap | apply Kd.Am | apply Kd.Ba)); exact HO_8.out) : p := h
theorem Yef_ {p : Prop} (h : p := by (with_reducible repeat (first | apply Kd.Ap | apply Kd.Am | apply Kd.Ba)); exact HO_0.out) : p := h
theorem Yeg_ {p : Prop} (h : p := by have := HX.out; have := HY.out; have := HYI.out; omega) : p := h
theorem Yeh_ {p : Prop} (h : p := by (with_reducible repeat (first | apply Kd.Fp | apply Kd.Fq | apply Kd.F7)); exact Kd.S_mono HO_4.out (fun k_ hk => ⟨trivial, fun e_ => hk.2 e_⟩)) : p := h
end Go.Proofs.Ytolaplcjbmjlmaa.X

namespace Go.Proofs.Ytolaplcjbmjlmaa.X
open Go.RowKit Go.Proofs.YtolaplcjbmjlmaaW.PrintWords Go.Proofs.YtolaplcjbmjlmaaW.PrintLast Go.Proofs.YtolaplcjbmjlmaaW.PrintMore
attribute [local go_sem] max2_int min2_int max_two min_two max_three min_three max_four min_four
def impl_within.f (a0 : Int) (a1 : Int) (a2 : Int) : Option (Bool) := if a0 ≥ a1 then (some (decide (a0 ≤ a2))) else (some false)
set_option maxHeartbeats 8000000 in
set_option maxRecDepth 100000 in
theorem impl_within.calls (a0 : Int) (a1 : Int) (a2 : Int) (r : Bool) (w : World) (h : impl_within.f a0 a1 a2 = some r) :
  Calls Try.prog 53 #[.int .i64 a0, .int .i64 a1, .int .i64 a2] w fun e w' => e = .returned (.bool r) ∧ Drawn0 w w' := by
 have H : (if a0 ≥ a1 then (some (decide (a0 ≤ a2))) else (some false)) = some r := h
 clear h
 by_cases c4 : a0 ≥ a1
 ·rw [if_pos c4] at H
  have c4b0 : decide (a1 ≤ a0) = true := decide_eq_true c4
  clear c4
  obtain rfl := Option.some.inj H
  go_enter Try.func53, Try.ntmps53
  go_wp2
  go_ret
  exact ⟨by first | rfl | (simp; done) | (simp [*]; done), by repeat (first | exact Drawn0.refl _ | apply Drawn0.step)⟩
 ·rw [if_neg c4] at H
  have c4b0 : decide (a1 ≤ a0) = false := decide_eq_false c4
  clear c4
  obtain rfl := Option.some.inj H
  go_enter Try.func53, Try.ntmps53
  go_wp2
  go_ret
  exact ⟨by first | rfl | (simp; done) | (simp [*]; done), by repeat (first | exact Drawn0.refl _ | apply Drawn0.step)⟩
end Go.Proofs.Ytolaplcjbmjlmaa.X

namespace Go.Proofs.Ytolaplcjbmjlmaa.X
open Go.RowKit Go.Proofs.YtolaplcjbmjlmaaW.PrintWords Go.Proofs.YtolaplcjbmjlmaaW.PrintLast Go.Proofs.YtolaplcjbmjlmaaW.PrintMore
attribute [local go_sem] max2_int min2_int max_two min_two max_three min_three max_four min_four
/-- Where the first element is of which p holds; -1. -/
def Ih (p : S59 → Bool) (l : List S59) : Int := match l.findIdx? p with | some i => (i : Int) | none => -1
theorem idxP_stay_hit (p : S59 → Bool) (l : List S59) (x : Int) (h0 : 0 ≤ x) (h1 : x < (l.length : Int)) (hm : ∀ j : Nat, (j : Int) < x → p (Ah l (j : Int)) = false) (hp : p (Ah l x) = true) : Ih p l = x := by
 obtain ⟨n, rfl⟩ := Int.eq_ofNat_of_zero_le h0
 have hn : n < l.length := by omega
 have e : l.findIdx? p = some n := by
  rw [List.findIdx?_eq_some_iff_getElem]
  refine ⟨hn, ?_, ?_⟩
  ·simpa [Ah, List.getD_eq_getElem?_getD, List.getElem?_eq_getElem hn] using hp
  ·intro j hj
   have := hm j (by omega)
   have hjl : j < l.length := by omega
   simpa [Ah, List.getD_eq_getElem?_getD, List.getElem?_eq_getElem hjl] using this
 simp [Ih, e]
theorem idxP_stay_miss (p : S59 → Bool) (l : List S59) (x : Int) (h1 : ¬ x < (l.length : Int)) (hm : ∀ j : Nat, (j : Int) < x → p (Ah l (j : Int)) = false) : Ih p l = -1 := by
 have e : l.findIdx? p = none := by
  rw [List.findIdx?_eq_none_iff]
  intro y hy
  obtain ⟨j, hj, rfl⟩ := List.getElem_of_mem hy
  have := hm j (by omega)
  simpa [Ah, List.getD_eq_getElem?_getD, List.getElem?_eq_getElem hj] using this
 simp [Ih, e]
theorem idxP_stay_any (p : S59 → Bool) (l : List S59) : decide (0 ≤ Ih p l) = l.any p := by
 unfold Ih
 cases h : l.findIdx? p with
 | none =>
  rw [List.findIdx?_eq_none_iff] at h
  symm
  simp only [show ¬ (0 : Int) ≤ -1 by omega, decide_false, List.any_eq_false]
  intro y hy; simp [h y hy]
 | some i =>
  rw [List.findIdx?_eq_some_iff_getElem] at h
  obtain ⟨hi, hp, _⟩ := h
  symm
  simp only [show (0 : Int) ≤ (i : Int) by omega, decide_true, List.any_eq_true]
  exact ⟨_, List.getElem_mem hi, hp⟩
set_option maxHeartbeats 2000000 in
theorem slices_IndexFunc_stay.calls {p : S59 → Bool} {g : Nat} {lb : Array Value} (eg : ∀ args w, (callFunc g args).run Try.prog w = .ok (.enter g args) w) (A0 : Option Addr) (c0 : Nat) (l0 : List S59) (w : World) (hr0 : Kd.C k59 w A0 l0.length l0)
  (hp : ∀ (W : World) (x : S59), Below w.heap.size w W → Calls Try.prog g (#[.agg #[.int .i64 x.f0, .int .i64 x.f1, .int .i64 x.f2]] ++ lb) W fun e w' => e = .returned (.bool (p x)) ∧ Below w.heap.size w w') :
  Calls Try.prog 79 #[.slice A0 l0.length c0, .func (.func g) #[] lb] w fun e w' => e = .returned (.int .i64 (Ih p l0)) ∧ Below w.heap.size w w' := by
 have hu59 := Try.underlying59
 have HR0 := Aside0.mk hr0
 clear hr0
 have hL : l0.length ≤ 9223372036854775807 := HR0.out.2.1
 have HP := Aside0.mk hp
 clear hp
 have HB := Aside0.mk (Below.refl w.heap.size w)
 go_enter Try.func79, Try.ntmps79
 go_wp2
 go_loopg [5, 8] l0.length (fun gg _ s8 w' => ∃ x : Int, s8 = .int .i64 x ∧ Aside0 (0 ≤ x ∧ x ≤ (l0.length : Int) ∧ (l0.length : Int) - x ≤ (gg : Int)) ∧ Aside0 (Below w.heap.size w w') ∧ Aside0 (∀ j : Nat, (j : Int) < x → p (Ah l0 (j : Int)) = false))
 case atStart => exact ⟨0, rfl, ⟨by omega, by omega, by omega⟩, HB, ⟨fun j hj => by omega⟩⟩
 case round =>
  clear HB
  obtain ⟨x, rfl, HX, HB, HM⟩ := hrel
  by_cases c4 : x < (l0.length : Int)
  ·have c4b0 : decide (x < (l0.length : Int)) = true := decide_eq_true c4
   have c5b0 : decide (0 ≤ x) = true := decide_eq_true HX.out.1
   have p151 : 0 ≤ x := HX.out.1
   have q151 := c4
   have hw : wrap64 (x + 1) = x + 1 := by have := HX.out.1; unfold wrap64; omega
   have Hw := Aside0.mk hw
   clear hw
   obtain ⟨ad151, e151, hx151_0, hx151_1, hx151_2⟩ := Ez HR0.out x p151 q151
   cases e151
   replace hx151_0 := (HB.out.cell (World.block_lt_of_cell? w _ hx151_0)).trans hx151_0
   replace hx151_1 := (HB.out.cell (World.block_lt_of_cell? w _ hx151_1)).trans hx151_1
   replace hx151_2 := (HB.out.cell (World.block_lt_of_cell? w _ hx151_2)).trans hx151_2
   have C4 := Aside0.mk c4
   clear c4
   replace p151 := eq_true p151
   replace q151 := eq_true q151
   have HC := Aside0.mk (HP.out wr (Ah l0 x) HB.out)
   cases hq : p (Ah l0 x) with
   | true =>
    rw [hq] at HC
    have HQ := Aside0.mk hq
    clear hq
    go_wp2_with (go_at_fn g; refine HC.out.mono ?_; rintro e w' ⟨rfl, hb'⟩)
    go_ret
    exact ⟨by rw [idxP_stay_hit p l0 x HX.out.1 C4.out HM.out HQ.out]; rfl, hb'⟩
   | false =>
    rw [hq] at HC
    have HQ := Aside0.mk hq
    clear hq
    go_wp2_with (go_at_fn g; refine HC.out.mono ?_; rintro e w' ⟨rfl, hb'⟩)
    have HB' := Aside0.mk hb'
    clear hb'
    go_roundg (l0.length - (x + 1).toNat)
    case measure => have := HX.out; have := C4.out; omega
    case rel =>
     refine ⟨x + 1, by rw [Hw.out], ⟨by have := HX.out; omega, by have := C4.out; omega, by have := HX.out; have := C4.out; omega⟩, HB', ⟨fun j hj => ?_⟩⟩
     by_cases e : (j : Int) = x
     ·rw [e]; exact HQ.out
     ·exact HM.out j (by omega)
  ·have c4b0 : decide (x < (l0.length : Int)) = false := decide_eq_false c4
   have C4 := Aside0.mk c4
   clear c4
   go_wp2
   go_ret
   exact ⟨by rw [idxP_stay_miss p l0 x (fun h_ => by have := C4.out; omega) HM.out]; rfl, HB.out⟩
set_option maxHeartbeats 2000000 in
theorem Ir.calls {p : S59 → Bool} {g : Nat} {lb : Array Value} (eg : ∀ args w, (callFunc g args).run Try.prog w = .ok (.enter g args) w) (A0 : Option Addr) (c0 : Nat) (l0 : List S59) (w : World) (hr0 : Kd.C k59 w A0 l0.length l0)
  (hp : ∀ (W : World) (x : S59), Below w.heap.size w W → Calls Try.prog g (#[.agg #[.int .i64 x.f0, .int .i64 x.f1, .int .i64 x.f2]] ++ lb) W fun e w' => e = .returned (.bool (p x)) ∧ Below w.heap.size w w') :
  Calls Try.prog 56 #[.slice A0 l0.length c0, .func (.func g) #[] lb] w fun e w' => e = .returned (.bool (l0.any p)) ∧ Below w.heap.size w w' := by
 have HI := Aside0.mk (slices_IndexFunc_stay.calls eg A0 c0 l0 w hr0 hp)
 rw [← idxP_stay_any]
 clear hr0 hp
 go_enter Try.func56, Try.ntmps56
 go_wp2_with (go_at_call 79; refine HI.out.mono ?_; rintro e w' ⟨rfl, hb'⟩)
 go_ret
 exact ⟨rfl, hb'⟩
end Go.Proofs.Ytolaplcjbmjlmaa.X

namespace Go.Proofs.Ytolaplcjbmjlmaa.X
open Go.RowKit Go.Proofs.YtolaplcjbmjlmaaW.PrintWords Go.Proofs.YtolaplcjbmjlmaaW.PrintLast Go.Proofs.YtolaplcjbmjlmaaW.PrintMore
attribute [local go_sem] max2_int min2_int max_two min_two max_three min_three max_four min_four
def G8.f (a0_0 : Int) (a0_1 : Int) (a0_2 : Int) : Option (Bool) := if a0_0 < 0 then (some true) else (if a0_0 > a0_1 then (some true) else (if a0_1 > 240 then (some true) else ((impl_within.f a0_2 1 9).bind fun t133 => (some (!t133)))))
set_option maxHeartbeats 8000000 in
set_option maxRecDepth 100000 in
theorem G8.calls (a0_0 : Int) (a0_1 : Int) (a0_2 : Int) (r : Bool) (w : World) (h : G8.f a0_0 a0_1 a0_2 = some r) :
  Calls Try.prog 57 #[.agg #[.int .i64 a0_0, .int .i64 a0_1, .int .i64 a0_2]] w fun e w' => e = .returned (.bool r) ∧ Below w.heap.size w w' := by
 have hu59 := Try.underlying59
 have HB := Aside0.mk (Below.refl w.heap.size w)
 have H : (if a0_0 < 0 then (some true) else (if a0_0 > a0_1 then (some true) else (if a0_1 > 240 then (some true) else ((impl_within.f a0_2 1 9).bind fun t133 => (some (!t133)))))) = some r := h
 clear h
 by_cases c2 : a0_0 < 0
 ·rw [if_pos c2] at H
  have c2b0 : decide (a0_0 < 0) = true := decide_eq_true c2
  clear c2
  obtain rfl := Option.some.inj H
  go_enter Try.func57, Try.ntmps57
  go_wp2_with (first | ((with_reducible refine gate_dst (N := 1) rfl ?_); refine box_event ?hg (N := 1) ?hd (cs := #[.int .i64 a0_0, .int .i64 a0_1, .int .i64 a0_2]) (t := 59) ?hr ?_; (case hd => rfl); (case hg => rfl); (case hr => first | (go_simp; done) | (go_simp; rfl)); intro gb0 hg w3 hbox hb; have n0_ := Aside0.mk (below_step Ya_ hb); have n1_ := Aside0.mk (hbox); have n2_ := Aside0.mk ((by rw [hg]; exact (below_size Ya_) : w.heap.size ≤ gb0)); have n3_ := Aside0.mk ((by rw [hg]; exact (below_size Ya_) : w.heap.size ≤ gb0)); clear HB; have HB := n0_; have BK0 := n1_; have GW0 := n2_; have GE0 := n3_; clear n0_ n1_ n2_ n3_; clear hb hbox hg; have hcz4_0 : w3.cell? ⟨gb0, 0, none⟩ = some (.int .i64 a0_0) := (blk_cell BK0.out 0).trans rfl; have hcz4_1 : w3.cell? ⟨gb0, 1, none⟩ = some (.int .i64 a0_1) := (blk_cell BK0.out 1).trans rfl; have hcz4_2 : w3.cell? ⟨gb0, 2, none⟩ = some (.int .i64 a0_2) := (blk_cell BK0.out 2).trans rfl; have hfz4_0 := blk_frozen BK0.out 0; have hfz4_1 := blk_frozen BK0.out 1; have hfz4_2 := blk_frozen BK0.out 2))
  go_ret
  exact ⟨by first | rfl | (simp [Aw, Az] <;> rfl) | (simp [*, Aw, Az] <;> rfl), by repeat (first | (with_reducible first | exact HB.out | apply Af | apply Ad | apply Ae | refine Ar ?_ GE0.out) | exact HB.out)⟩
 ·rw [if_neg c2] at H
  have c2b0 : decide (a0_0 < 0) = false := decide_eq_false c2
  clear c2
  by_cases c5 : a0_0 > a0_1
  ·rw [if_pos c5] at H
   have c5b0 : decide (a0_1 < a0_0) = true := decide_eq_true c5
   clear c5
   obtain rfl := Option.some.inj H
   go_enter Try.func57, Try.ntmps57
   go_wp2_with (first | ((with_reducible refine gate_dst (N := 1) rfl ?_); refine box_event ?hg (N := 1) ?hd (cs := #[.int .i64 a0_0, .int .i64 a0_1, .int .i64 a0_2]) (t := 59) ?hr ?_; (case hd => rfl); (case hg => rfl); (case hr => first | (go_simp; done) | (go_simp; rfl)); intro gb0 hg w6 hbox hb; have n0_ := Aside0.mk (below_step Ya_ hb); have n1_ := Aside0.mk (hbox); have n2_ := Aside0.mk ((by rw [hg]; exact (below_size Ya_) : w.heap.size ≤ gb0)); have n3_ := Aside0.mk ((by rw [hg]; exact (below_size Ya_) : w.heap.size ≤ gb0)); clear HB; have HB := n0_; have BK0 := n1_; have GW0 := n2_; have GE0 := n3_; clear n0_ n1_ n2_ n3_; clear hb hbox hg; have hcz7_0 : w6.cell? ⟨gb0, 0, none⟩ = some (.int .i64 a0_0) := (blk_cell BK0.out 0).trans rfl; have hcz7_1 : w6.cell? ⟨gb0, 1, none⟩ = some (.int .i64 a0_1) := (blk_cell BK0.out 1).trans rfl; have hcz7_2 : w6.cell? ⟨gb0, 2, none⟩ = some (.int .i64 a0_2) := (blk_cell BK0.out 2).trans rfl; have hfz7_0 := blk_frozen BK0.out 0; have hfz7_1 := blk_frozen BK0.out 1; have hfz7_2 := blk_frozen BK0.out 2))
   go_ret
   exact ⟨by first | rfl | (simp [Aw, Az] <;> rfl) | (simp [*, Aw, Az] <;> rfl), by repeat (first | (with_reducible first | exact HB.out | apply Af | apply Ad | apply Ae | refine Ar ?_ GE0.out) | exact HB.out)⟩
  ·rw [if_neg c5] at H
   have c5b0 : decide (a0_1 < a0_0) = false := decide_eq_false c5
   clear c5
   by_cases c8 : a0_1 > 240
   ·rw [if_pos c8] at H
    have c8b0 : decide (240 < a0_1) = true := decide_eq_true c8
    clear c8
    obtain rfl := Option.some.inj H
    go_enter Try.func57, Try.ntmps57
    go_wp2_with (first | ((with_reducible refine gate_dst (N := 1) rfl ?_); refine box_event ?hg (N := 1) ?hd (cs := #[.int .i64 a0_0, .int .i64 a0_1, .int .i64 a0_2]) (t := 59) ?hr ?_; (case hd => rfl); (case hg => rfl); (case hr => first | (go_simp; done) | (go_simp; rfl)); intro gb0 hg w9 hbox hb; have n0_ := Aside0.mk (below_step Ya_ hb); have n1_ := Aside0.mk (hbox); have n2_ := Aside0.mk ((by rw [hg]; exact (below_size Ya_) : w.heap.size ≤ gb0)); have n3_ := Aside0.mk ((by rw [hg]; exact (below_size Ya_) : w.heap.size ≤ gb0)); clear HB; have HB := n0_; have BK0 := n1_; have GW0 := n2_; have GE0 := n3_; clear n0_ n1_ n2_ n3_; clear hb hbox hg; have hcz10_0 : w9.cell? ⟨gb0, 0, none⟩ = some (.int .i64 a0_0) := (blk_cell BK0.out 0).trans rfl; have hcz10_1 : w9.cell? ⟨gb0, 1, none⟩ = some (.int .i64 a0_1) := (blk_cell BK0.out 1).trans rfl; have hcz10_2 : w9.cell? ⟨gb0, 2, none⟩ = some (.int .i64 a0_2) := (blk_cell BK0.out 2).trans rfl; have hfz10_0 := blk_frozen BK0.out 0; have hfz10_1 := blk_frozen BK0.out 1; have hfz10_2 := blk_frozen BK0.out 2))
    go_ret
    exact ⟨by first | rfl | (simp [Aw, Az] <;> rfl) | (simp [*, Aw, Az] <;> rfl), by repeat (first | (with_reducible first | exact HB.out | apply Af | apply Ad | apply Ae | refine Ar ?_ GE0.out) | exact HB.out)⟩
   ·rw [if_neg c8] at H
    have c8b0 : decide (240 < a0_1) = false := decide_eq_false c8
    clear c8
    replace H := Option.bind_eq_some_iff.mp H
    obtain ⟨t133, A110, H⟩ := H
    replace H : (some (!t133)) = some r := H
    have A11 := Aside0.mk A110
    clear A110
    obtain rfl := Option.some.inj H
    go_enter Try.func57, Try.ntmps57
    go_wp2_with (first | ((with_reducible refine gate_dst (N := 1) rfl ?_); refine box_event ?hg (N := 1) ?hd (cs := #[.int .i64 a0_0, .int .i64 a0_1, .int .i64 a0_2]) (t := 59) ?hr ?_; (case hd => rfl); (case hg => rfl); (case hr => first | (go_simp; done) | (go_simp; rfl)); intro gb0 hg w12 hbox hb; have n0_ := Aside0.mk (below_step Ya_ hb); have n1_ := Aside0.mk (hbox); have n2_ := Aside0.mk ((by rw [hg]; exact (below_size Ya_) : w.heap.size ≤ gb0)); have n3_ := Aside0.mk ((by rw [hg]; exact (below_size Ya_) : w.heap.size ≤ gb0)); clear HB; have HB := n0_; have BK0 := n1_; have GW0 := n2_; have GE0 := n3_; clear n0_ n1_ n2_ n3_; clear hb hbox hg; have hcz13_0 : w12.cell? ⟨gb0, 0, none⟩ = some (.int .i64 a0_0) := (blk_cell BK0.out 0).trans rfl; have hcz13_1 : w12.cell? ⟨gb0, 1, none⟩ = some (.int .i64 a0_1) := (blk_cell BK0.out 1).trans rfl; have hcz13_2 : w12.cell? ⟨gb0, 2, none⟩ = some (.int .i64 a0_2) := (blk_cell BK0.out 2).trans rfl; have hfz13_0 := blk_frozen BK0.out 0; have hfz13_1 := blk_frozen BK0.out 1; have hfz13_2 := blk_frozen BK0.out 2) | (go_at_call 53; (with_reducible refine (impl_within.calls a0_2 1 9 t133 _ A11.out).mono ?_); rintro e w' ⟨rfl, ⟨nd, rfl⟩⟩))
    go_ret
    exact ⟨by first | rfl | (simp [Aw, Az] <;> rfl) | (simp [*, Aw, Az] <;> rfl), by repeat (first | (with_reducible first | exact HB.out | apply Af | apply Ad | apply Ae | refine Ar ?_ GE0.out) | exact HB.out)⟩
end Go.Proofs.Ytolaplcjbmjlmaa.X

namespace Go.Proofs.Ytolaplcjbmjlmaa.X
open Go.RowKit Go.Proofs.YtolaplcjbmjlmaaW.PrintWords Go.Proofs.YtolaplcjbmjlmaaW.PrintLast Go.Proofs.YtolaplcjbmjlmaaW.PrintMore
attribute [local go_sem] max2_int min2_int max_two min_two max_three min_three max_four min_four
def Hm (x : S59) : Bool := decide (0 ≤ x.f0) && decide (x.f0 ≤ x.f1) && decide (x.f1 ≤ 240) && decide (1 ≤ x.f2) && decide (x.f2 ≤ 9)
theorem okStay_f (x : S59) : G8.f x.f0 x.f1 x.f2 = some (!Hm x) := by
 unfold G8.f impl_within.f Hm
 by_cases h1 : x.f0 < 0
 ·simp [h1]
 ·by_cases h2 : x.f0 > x.f1
  ·simp [h1, h2]
  ·by_cases h3 : x.f1 > 240
   ·simp [h1, h2, h3]
   ·by_cases h4 : x.f2 ≥ 1
    ·by_cases h5 : x.f2 ≤ 9
     ·simp [h1, h2, h3, h4, h5]; omega
     ·simp [h1, h2, h3, h4, h5]
    ·simp [h1, h2, h3, h4]
def impl_IsValidStays.f (l0 : List S59) : Option Bool := some (l0.all Hm && decide (l0.length ≤ 20))
set_option maxHeartbeats 2000000 in
theorem impl_IsValidStays.calls (A0 : Option Addr) (c0 : Nat) (l0 : List (S59)) (r : Bool) (w : World) (hr0 : Kd.C k59 w A0 l0.length l0) (hc0 : l0.length ≤ c0) (h : impl_IsValidStays.f l0 = some r) :
  Calls Try.prog 19 #[.slice A0 l0.length c0] w fun e w' => e = .returned (.bool r) ∧ Below w.heap.size w w' := by
 have HI := Aside0.mk (Ir.calls (p := fun x => !Hm x) (g := 57) (lb := #[]) (enters_of Try.func57 (by kernel_rfl) rfl) A0 c0 l0 w hr0 (fun W x hb => (G8.calls x.f0 x.f1 x.f2 (!Hm x) W (okStay_f x)).mono (fun e w' ⟨he, hb'⟩ => ⟨he, hb.trans (hb'.mono hb.size)⟩)))
 simp only [impl_IsValidStays.f, Option.some.injEq] at h
 have ha : l0.all Hm = !(l0.any fun x => !Hm x) := by rw [List.all_eq_not_any_not]
 rw [ha] at h
 clear ha hr0
 have H := Aside0.mk h
 clear h
 cases hq : l0.any (fun x => !Hm x) with
 | true =>
  rw [hq] at HI
  have HQ := Aside0.mk hq
  clear hq
  go_enter Try.func19, Try.ntmps19
  go_wp2_with (go_at_call 56; refine HI.out.mono ?_; rintro e w' ⟨rfl, hb'⟩)
  go_ret
  exact ⟨by rw [← H.out, HQ.out]; rfl, hb'⟩
 | false =>
  rw [hq] at HI
  have HQ := Aside0.mk hq
  clear hq
  go_enter Try.func19, Try.ntmps19
  go_wp2_with (go_at_call 56; refine HI.out.mono ?_; rintro e w' ⟨rfl, hb'⟩)
  go_ret
  exact ⟨by rw [← H.out, HQ.out]; simp <;> omega, hb'⟩
end Go.Proofs.Ytolaplcjbmjlmaa.X

namespace Go.Proofs.Ytolaplcjbmjlmaa.X
open Go.RowKit Go.Proofs.YtolaplcjbmjlmaaW.PrintWords Go.Proofs.YtolaplcjbmjlmaaW.PrintLast Go.Proofs.YtolaplcjbmjlmaaW.PrintMore
attribute [local go_sem] max2_int min2_int max_two min_two max_three min_three max_four min_four
def Eg.f (a0 : Int) (a1 : Int) (a2 : Int) : Option (Bool) := if a0 ≥ a1 then (some (decide (a0 ≤ a2))) else (some false)
set_option maxHeartbeats 8000000 in
set_option maxRecDepth 100000 in
theorem Eg.calls (a0 : Int) (a1 : Int) (a2 : Int) (r : Bool) (w : World) (h : Eg.f a0 a1 a2 = some r) :
  Calls Try.prog 52 #[.int .i64 a0, .int .i64 a1, .int .i64 a2] w fun e w' => e = .returned (.bool r) ∧ Drawn0 w w' := by
 have H : (if a0 ≥ a1 then (some (decide (a0 ≤ a2))) else (some false)) = some r := h
 clear h
 by_cases c4 : a0 ≥ a1
 ·rw [if_pos c4] at H
  have c4b0 : decide (a1 ≤ a0) = true := decide_eq_true c4
  clear c4
  obtain rfl := Option.some.inj H
  go_enter Try.func52, Try.ntmps52
  go_wp2
  go_ret
  exact ⟨by first | rfl | (simp; done) | (simp [*]; done), by repeat (first | exact Drawn0.refl _ | apply Drawn0.step)⟩
 ·rw [if_neg c4] at H
  have c4b0 : decide (a1 ≤ a0) = false := decide_eq_false c4
  clear c4
  obtain rfl := Option.some.inj H
  go_enter Try.func52, Try.ntmps52
  go_wp2
  go_ret
  exact ⟨by first | rfl | (simp; done) | (simp [*]; done), by repeat (first | exact Drawn0.refl _ | apply Drawn0.step)⟩
end Go.Proofs.Ytolaplcjbmjlmaa.X

namespace Go.Proofs.Ytolaplcjbmjlmaa.X
open Go.RowKit Go.Proofs.YtolaplcjbmjlmaaW.PrintWords Go.Proofs.YtolaplcjbmjlmaaW.PrintLast Go.Proofs.YtolaplcjbmjlmaaW.PrintMore
attribute [local go_sem] max2_int min2_int max_two min_two max_three min_three max_four min_four
def Aq.l0 : Nat → List (S59) → Int → Option (Bool)
 | 0, _, _ => none
 | k + 1, x0, x3 => if x3 < (x0.length : Int) then (if 0 ≤ x3 then ((Eg.f ((Ah x0 x3).f0) 0 240).bind fun t114 => (if t114 = true then ((Eg.f ((Ah x0 x3).f1) ((Ah x0 x3).f0) 240).bind fun t117 => (if t117 = true then ((Eg.f ((Ah x0 x3).f2) 1 9).bind fun t119 => (if t119 = true then (Aq.l0 k x0 (wrap64 (x3 + 1))) else (some false))) else (some false))) else (some false))) else (none)) else (some (decide ((x0.length : Int) ≤ 20)))
def Aq.f (k : Nat) (l0 : List (S59)) : Option (Bool) := Aq.l0 k l0 0
theorem Aq.Dq : ∀ k, (∀ y0 y1, LeO (Aq.l0 k y0 y1) (Aq.l0 (k + 1) y0 y1))
 | 0 => fun _ _ r h => by simp [Aq.l0] at h
 | k + 1 => by
  have ih0 := Aq.Dq k
  ·intro y0 y1
   unfold Aq.l0
   repeat' first
   | (with_reducible exact ih0 _ _)
   | (with_reducible exact LeO.refl _)
   | (with_reducible exact LeO.none _)
   | (with_reducible refine LeO.ite ?_ ?_)
   | (with_reducible refine LeO.bind ?_ (fun _ => ?_))
   | exact ih0 _ _
   | exact LeO.none _
   | refine LeO.ite ?_ ?_
   | refine LeO.bind ?_ (fun _ => ?_)
theorem Aq.mono : ∀ a0 k, LeO (Aq.f k a0) (Aq.f (k + 1) a0) := by
 intro a0 k
 have ih0 := Aq.Dq k
 unfold Aq.f
 repeat' first
   | (with_reducible exact ih0 _ _)
   | (with_reducible exact LeO.refl _)
   | (with_reducible exact LeO.none _)
   | (with_reducible refine LeO.ite ?_ ?_)
   | (with_reducible refine LeO.bind ?_ (fun _ => ?_))
   | exact ih0 _ _
   | exact LeO.none _
   | refine LeO.ite ?_ ?_
   | refine LeO.bind ?_ (fun _ => ?_)
def Aq.T4 : Bool × List (List Nat × List Nat) := (true, [([], []), ([], []), ([0, 1], [0, 1]), ([2], [2]), ([3], [3]), ([4], [4]), ([5], [5]), ([6, 5], [6]), ([7], [7]), ([7], [7]), ([8, 9, 7], [7, 8, 9]), ([10, 7], [7, 10]), ([11, 7], [7, 11]), ([7], [7]), ([7], [7]), ([13, 14, 7], [7, 13, 14]), ([15, 7], [7, 15]), ([16, 7], [7, 16]), ([12, 17, 7, 7], [7, 12, 17]), ([18, 7], [7, 18]), ([7, 19], [7, 19]), ([20, 18], [20]), ([21], [21]), ([21], [21]), ([22, 23, 21], [21, 22, 23]), ([24, 21], [21, 24]), ([25, 21], [21, 25]), ([26, 21, 21], [21, 26]), ([27, 21], [21, 27]), ([21, 28], [21, 28])])
def Aq.B4 : List Nat := [0, 0, 3, 7, 15, 31, 63, 127, 255, 255, 1023, 2047, 4095, 255, 255, 24831, 57599, 123135, 262143, 524287, 1048575, 2097151, 4194303, 4194303, 16777215, 33554431, 67108863, 134217727, 268435455, 536870911]
theorem Aq.tab4 : rtab .any (opsOf Try.f54 4) = Aq.T4 := by kernel_rfl
theorem Aq.bits4 : waitsOk Aq.T4.2 Aq.B4 = true := by kernel_rfl
set_option maxHeartbeats 8000000 in
set_option maxRecDepth 100000 in
theorem Aq.calls (k : Nat) (A0 : Option Addr) (c0 : Nat) (l0 : List (S59)) (r : Bool) (w : World) (hr0 : Kd.C k59 w A0 l0.length l0) (hc0 : l0.length ≤ c0) (h : Aq.f k l0 = some r) :
  Calls Try.prog 54 #[.slice A0 l0.length c0] w fun e w' => e = .returned (.bool r) ∧ Below w.heap.size w w' := by
 have HR0 := Aside0.mk hr0
 have HC0 := Aside0.mk hc0
 clear hr0 hc0
 have HB := Aside0.mk (Below.refl w.heap.size w)
 have H : (Aq.l0 k l0 0) = some r := h
 clear h
 have H' := Aside0.mk H
 clear H
 go_enter Try.func54, Try.ntmps54
 go_wp2
 go_loopg [3] k (fun kq v3 w' => ∃ (x3_1 : Int), v3 = .int .i64 x3_1 ∧ Aside0 (Aq.l0 kq l0 x3_1 = some r) ∧ Aside0 (kq ≤ k) ∧ Aside0 (Below w.heap.size w w'))
 case atStart => exact ⟨(0), Yd_, H', ⟨Nat.le_refl _⟩, ⟨by repeat (first | (with_reducible first | exact HB.out | apply Af | apply Ad | apply Ae) | exact HB.out)⟩⟩
 case round =>
  clear H'
  obtain ⟨x3_1, rfl, HA, HK1, HB⟩ := hrel
  cases gk with
  | zero => exact absurd HA.out (by simp [Aq.l0])
  | succ k1 =>
   have H := HA.out
   clear HA
   simp only [Aq.l0] at H
   by_cases c2 : x3_1 < (l0.length : Int)
   ·rw [if_pos c2] at H
    have c2b0 : decide (x3_1 < (l0.length : Int)) = true := decide_eq_true c2
    clear c2
    by_cases c3 : 0 ≤ x3_1
    ·rw [if_pos c3] at H
     have c3b0 : decide (0 ≤ x3_1) = true := decide_eq_true c3
     clear c3
     replace H := Option.bind_eq_some_iff.mp H
     obtain ⟨t114, A40, H⟩ := H
     replace H : (if t114 = true then ((Eg.f ((Ah l0 x3_1).f1) ((Ah l0 x3_1).f0) 240).bind fun t117 => (if t117 = true then ((Eg.f ((Ah l0 x3_1).f2) 1 9).bind fun t119 => (if t119 = true then (Aq.l0 k1 l0 (wrap64 (x3_1 + 1))) else (some false))) else (some false))) else (some false)) = some r := H
     have A4 := Aside0.mk A40
     clear A40
     by_cases c5 : t114 = true
     ·subst c5
      have H1 : ((Eg.f ((Ah l0 x3_1).f1) ((Ah l0 x3_1).f0) 240).bind fun t117 => (if t117 = true then ((Eg.f ((Ah l0 x3_1).f2) 1 9).bind fun t119 => (if t119 = true then (Aq.l0 k1 l0 (wrap64 (x3_1 + 1))) else (some false))) else (some false))) = some r := by rw [if_pos rfl] at H; exact H
      clear H
      have H := H1
      clear H1
      replace H := Option.bind_eq_some_iff.mp H
      obtain ⟨t117, A60, H⟩ := H
      replace H : (if t117 = true then ((Eg.f ((Ah l0 x3_1).f2) 1 9).bind fun t119 => (if t119 = true then (Aq.l0 k1 l0 (wrap64 (x3_1 + 1))) else (some false))) else (some false)) = some r := H
      have A6 := Aside0.mk A60
      clear A60
      by_cases c7 : t117 = true
      ·subst c7
       have H1 : ((Eg.f ((Ah l0 x3_1).f2) 1 9).bind fun t119 => (if t119 = true then (Aq.l0 k1 l0 (wrap64 (x3_1 + 1))) else (some false))) = some r := by rw [if_pos rfl] at H; exact H
       clear H
       have H := H1
       clear H1
       replace H := Option.bind_eq_some_iff.mp H
       obtain ⟨t119, A80, H⟩ := H
       replace H : (if t119 = true then (Aq.l0 k1 l0 (wrap64 (x3_1 + 1))) else (some false)) = some r := H
       have A8 := Aside0.mk A80
       clear A80
       by_cases c9 : t119 = true
       ·subst c9
        have H1 : (Aq.l0 k1 l0 (wrap64 (x3_1 + 1))) = some r := by rw [if_pos rfl] at H; exact H
        clear H
        have H := H1
        clear H1
        have H' := Aside0.mk H
        clear H
        try go_wp2
        have n0_ := Aside0.mk (Ae HB.out)
        clear HB
        have HB := n0_
        clear n0_
        have p113 : 0 ≤ (x3_1 : Int) := of_decide_eq_true Yc_
        have q113 : x3_1 < (l0.length : Int) := of_decide_eq_true Yc_
        obtain ⟨ad113, e113, hx113_0, hx113_1, hx113_2⟩ := Ez HR0.out x3_1 p113 q113
        have hw113_2 := hx113_2
        have hw113_1 := hx113_1
        have hw113_0 := hx113_0
        cases e113
        replace hx113_0 := (HB.out.cell (World.block_lt_of_cell? w _ hx113_0)).trans hx113_0
        replace hx113_1 := (HB.out.cell (World.block_lt_of_cell? w _ hx113_1)).trans hx113_1
        replace hx113_2 := (HB.out.cell (World.block_lt_of_cell? w _ hx113_2)).trans hx113_2
        replace p113 := eq_true p113
        replace q113 := eq_true q113
        have p115 : 0 ≤ (x3_1 : Int) := of_decide_eq_true Yc_
        have q115 : x3_1 < (l0.length : Int) := of_decide_eq_true Yc_
        obtain ⟨ad115, e115, hx115_0, hx115_1, hx115_2⟩ := Ez HR0.out x3_1 p115 q115
        have hw115_2 := hx115_2
        have hw115_1 := hx115_1
        have hw115_0 := hx115_0
        obtain rfl : ad113 = ad115 := (by injection e115)
        replace hx115_0 := (HB.out.cell (World.block_lt_of_cell? w _ hx115_0)).trans hx115_0
        replace hx115_1 := (HB.out.cell (World.block_lt_of_cell? w _ hx115_1)).trans hx115_1
        replace hx115_2 := (HB.out.cell (World.block_lt_of_cell? w _ hx115_2)).trans hx115_2
        replace p115 := eq_true p115
        replace q115 := eq_true q115
        have p116 : 0 ≤ (x3_1 : Int) := of_decide_eq_true Yc_
        have q116 : x3_1 < (l0.length : Int) := of_decide_eq_true Yc_
        obtain ⟨ad116, e116, hx116_0, hx116_1, hx116_2⟩ := Ez HR0.out x3_1 p116 q116
        have hw116_2 := hx116_2
        have hw116_1 := hx116_1
        have hw116_0 := hx116_0
        obtain rfl : ad113 = ad116 := (by injection e116)
        replace hx116_0 := (HB.out.cell (World.block_lt_of_cell? w _ hx116_0)).trans hx116_0
        replace hx116_1 := (HB.out.cell (World.block_lt_of_cell? w _ hx116_1)).trans hx116_1
        replace hx116_2 := (HB.out.cell (World.block_lt_of_cell? w _ hx116_2)).trans hx116_2
        replace p116 := eq_true p116
        replace q116 := eq_true q116
        have p118 : 0 ≤ (x3_1 : Int) := of_decide_eq_true Yc_
        have q118 : x3_1 < (l0.length : Int) := of_decide_eq_true Yc_
        obtain ⟨ad118, e118, hx118_0, hx118_1, hx118_2⟩ := Ez HR0.out x3_1 p118 q118
        have hw118_2 := hx118_2
        have hw118_1 := hx118_1
        have hw118_0 := hx118_0
        obtain rfl : ad113 = ad118 := (by injection e118)
        replace hx118_0 := (HB.out.cell (World.block_lt_of_cell? w _ hx118_0)).trans hx118_0
        replace hx118_1 := (HB.out.cell (World.block_lt_of_cell? w _ hx118_1)).trans hx118_1
        replace hx118_2 := (HB.out.cell (World.block_lt_of_cell? w _ hx118_2)).trans hx118_2
        replace p118 := eq_true p118
        replace q118 := eq_true q118
        refine G9 (n := 30) (S := fun w' => w'.cell? (ad113.add ((x3_1).toNat * 3)) = some (.int .i64 ((Ah l0 x3_1).f0)) ∧ w'.cell? ⟨(ad113.add ((x3_1).toNat * 3)).block, (ad113.add ((x3_1).toNat * 3)).off + 1, none⟩ = some (.int .i64 ((Ah l0 x3_1).f1)) ∧ w'.cell? ⟨(ad113.add ((x3_1).toNat * 3)).block, (ad113.add ((x3_1).toNat * 3)).off + 2, none⟩ = some (.int .i64 ((Ah l0 x3_1).f2)) ∧ w'.cell? (ad113.add ((x3_1).toNat * 3)) = some (.int .i64 ((Ah l0 x3_1).f0)) ∧ w'.cell? ⟨(ad113.add ((x3_1).toNat * 3)).block, (ad113.add ((x3_1).toNat * 3)).off + 1, none⟩ = some (.int .i64 ((Ah l0 x3_1).f1)) ∧ w'.cell? ⟨(ad113.add ((x3_1).toNat * 3)).block, (ad113.add ((x3_1).toNat * 3)).off + 2, none⟩ = some (.int .i64 ((Ah l0 x3_1).f2)) ∧ w'.cell? (ad113.add ((x3_1).toNat * 3)) = some (.int .i64 ((Ah l0 x3_1).f0)) ∧ w'.cell? ⟨(ad113.add ((x3_1).toNat * 3)).block, (ad113.add ((x3_1).toNat * 3)).off + 1, none⟩ = some (.int .i64 ((Ah l0 x3_1).f1)) ∧ w'.cell? ⟨(ad113.add ((x3_1).toNat * 3)).block, (ad113.add ((x3_1).toNat * 3)).off + 2, none⟩ = some (.int .i64 ((Ah l0 x3_1).f2)) ∧ w'.cell? (ad113.add ((x3_1).toNat * 3)) = some (.int .i64 ((Ah l0 x3_1).f0)) ∧ w'.cell? ⟨(ad113.add ((x3_1).toNat * 3)).block, (ad113.add ((x3_1).toNat * 3)).off + 1, none⟩ = some (.int .i64 ((Ah l0 x3_1).f1)) ∧ w'.cell? ⟨(ad113.add ((x3_1).toNat * 3)).block, (ad113.add ((x3_1).toNat * 3)).off + 2, none⟩ = some (.int .i64 ((Ah l0 x3_1).f2))) (ds := []) #[false, false, false, false, false, false, false, false, false, false, false, false, false, false, false, false, false, false, false, false, false, false, false, false, false, false, false, false, false, false] (by kernel_rfl) rfl rfl ⟨((HB.out.cell (World.block_lt_of_cell? w _ hw113_0)).trans hw113_0), ((HB.out.cell (World.block_lt_of_cell? w _ hw113_1)).trans hw113_1), ((HB.out.cell (World.block_lt_of_cell? w _ hw113_2)).trans hw113_2), ((HB.out.cell (World.block_lt_of_cell? w _ hw115_0)).trans hw115_0), ((HB.out.cell (World.block_lt_of_cell? w _ hw115_1)).trans hw115_1), ((HB.out.cell (World.block_lt_of_cell? w _ hw115_2)).trans hw115_2), ((HB.out.cell (World.block_lt_of_cell? w _ hw116_0)).trans hw116_0), ((HB.out.cell (World.block_lt_of_cell? w _ hw116_1)).trans hw116_1), ((HB.out.cell (World.block_lt_of_cell? w _ hw116_2)).trans hw116_2), ((HB.out.cell (World.block_lt_of_cell? w _ hw118_0)).trans hw118_0), ((HB.out.cell (World.block_lt_of_cell? w _ hw118_1)).trans hw118_1), ((HB.out.cell (World.block_lt_of_cell? w _ hw118_2)).trans hw118_2)⟩ (fun hHeld => ?_); refine Ie Aq.tab4 Aq.bits4 (fun HT_ HW_ => ?_)
        generalize wr.drew = w10 at HB hx113_0 hx113_1 hx113_2 hx115_0 hx115_1 hx115_2 hx116_0 hx116_1 hx116_2 hx118_0 hx118_1 hx118_2 hHeld ⊢
        refine Bg (i := 0) (N := some 10) (v := ?_) (a' := ?_) #[true, false, false, false, false, false, false, false, false, false, false, false, false, false, false, false, false, false, false, false, false, false, false, false, false, false, false, false, false, false] rfl rfl (Dc HT_.out (by kernel_rfl)) (fun _ _ _ h => h) (Or.inl ⟨by rfl, ?_⟩) ?_ ?_
        rotate_left
        ·intro w'
         go_simp
         with_reducible rfl
        rotate_left
        ·simp only [Act.put, List.setIfInBounds_toArray, List.set_cons_zero, List.set_cons_succ, Aj, Ak]
         rfl
        refine Bg (i := 1) (N := some 11) (v := ?_) (a' := ?_) #[true, true, false, false, false, false, false, false, false, false, false, false, false, false, false, false, false, false, false, false, false, false, false, false, false, false, false, false, false, false] rfl rfl (Dc HT_.out (by kernel_rfl)) (fun _ _ _ h => h) (Or.inl ⟨by rfl, ?_⟩) ?_ ?_
        rotate_left
        ·intro w'
         go_simp
         with_reducible rfl
        rotate_left
        ·simp only [Act.put, List.setIfInBounds_toArray, List.set_cons_zero, List.set_cons_succ, Aj, Ak]
         rfl
        refine Bg (i := 2) (N := some 12) (v := ?_) (a' := ?_) #[true, true, true, false, false, false, false, false, false, false, false, false, false, false, false, false, false, false, false, false, false, false, false, false, false, false, false, false, false, false] rfl rfl (Dc HT_.out (by kernel_rfl)) (fun _ _ _ h => h) (Or.inl ⟨by rfl, ?_⟩) ?_ ?_
        rotate_left
        ·intro w'
         go_simp
         with_reducible rfl
        rotate_left
        ·simp only [Act.put, List.setIfInBounds_toArray, List.set_cons_zero, List.set_cons_succ, Aj, Ak]
         rfl
        refine Bg (i := 3) (N := some 13) (v := ?_) (a' := ?_) #[true, true, true, true, false, false, false, false, false, false, false, false, false, false, false, false, false, false, false, false, false, false, false, false, false, false, false, false, false, false] rfl rfl (Dc HT_.out (by kernel_rfl)) (fun _ _ _ h => h) (Or.inl ⟨by rfl, ?_⟩) ?_ ?_
        rotate_left
        ·intro w'
         go_simp
         with_reducible rfl
        rotate_left
        ·simp only [Act.put, List.setIfInBounds_toArray, List.set_cons_zero, List.set_cons_succ, Aj, Ak]
         rfl
        refine Gg (i := 4) (N := some 14) (v := ?_) (a' := ?_) #[true, true, true, true, true, false, false, false, false, false, false, false, false, false, false, false, false, false, false, false, false, false, false, false, false, false, false, false, false, false] rfl rfl (Gq HT_.out HW_.out (by kernel_rfl)) (fun _ _ _ h => h) (Or.inl ⟨by rfl, ?_⟩) hHeld ?_ ?_
        rotate_left
        ·rintro w' ⟨s0, s1, s2, s3, s4, s5, s6, s7, s8, s9, s10, s11⟩
         go_simp
         with_reducible rfl
        rotate_left
        ·simp only [Act.put, List.setIfInBounds_toArray, List.set_cons_zero, List.set_cons_succ, Aj, Ak]
         rfl
        refine one_ (i := 5) (N := some 15) #[true, true, true, true, true, true, false, false, false, false, false, false, false, false, false, false, false, false, false, false, false, false, false, false, false, false, false, false, false, false] rfl rfl (H6 HT_.out (by kernel_rfl)) (by decide) (fun K hK => ?_)
        refine goes_ Try.func52 (by kernel_rfl) rfl #[.int .i64 ((Ah l0 x3_1).f0), .int .i64 0, .int .i64 240] (by rfl) rfl rfl Yb_ ?_
        with_reducible refine (Eg.calls ((Ah l0 x3_1).f0) 0 240 true _ A4.out).mono ?_
        rintro e w' ⟨rfl, ⟨nd, rfl⟩⟩
        refine ⟨_, rfl, ?_⟩
        refine hK.out _ _ ⟨((HB.out.cell (World.block_lt_of_cell? w _ hw113_0)).trans hw113_0), ((HB.out.cell (World.block_lt_of_cell? w _ hw113_1)).trans hw113_1), ((HB.out.cell (World.block_lt_of_cell? w _ hw113_2)).trans hw113_2), ((HB.out.cell (World.block_lt_of_cell? w _ hw115_0)).trans hw115_0), ((HB.out.cell (World.block_lt_of_cell? w _ hw115_1)).trans hw115_1), ((HB.out.cell (World.block_lt_of_cell? w _ hw115_2)).trans hw115_2), ((HB.out.cell (World.block_lt_of_cell? w _ hw116_0)).trans hw116_0), ((HB.out.cell (World.block_lt_of_cell? w _ hw116_1)).trans hw116_1), ((HB.out.cell (World.block_lt_of_cell? w _ hw116_2)).trans hw116_2), ((HB.out.cell (World.block_lt_of_cell? w _ hw118_0)).trans hw118_0), ((HB.out.cell (World.block_lt_of_cell? w _ hw118_1)).trans hw118_1), ((HB.out.cell (World.block_lt_of_cell? w _ hw118_2)).trans hw118_2)⟩ (fun hHeld => ?_)
        clear hK K
        refine En (a' := ?_) ?_ ?_
        rotate_left
        ·show Act.put _ (some 15) _ = _
         simp only [Act.put, List.setIfInBounds_toArray, List.set_cons_zero, List.set_cons_succ, Aj, Ak]
         rfl
        refine Bg (i := 6) (N := some 16) (v := ?_) (a' := ?_) #[true, true, true, true, true, true, true, false, false, false, false, false, false, false, false, false, false, false, false, false, false, false, false, false, false, false, false, false, false, false] rfl rfl (Dc HT_.out (by kernel_rfl)) (fun _ _ _ h => h) (Or.inl ⟨by rfl, ?_⟩) ?_ ?_
        rotate_left
        ·intro w'
         go_simp
         with_reducible rfl
        rotate_left
        ·simp only [Act.put, List.setIfInBounds_toArray, List.set_cons_zero, List.set_cons_succ, Aj, Ak]
         rfl
        refine Bg (i := 7) (N := some 17) (v := ?_) (a' := ?_) #[true, true, true, true, true, true, true, true, false, false, false, false, false, false, false, false, false, false, false, false, false, false, false, false, false, false, false, false, false, false] rfl rfl (Dc HT_.out (by kernel_rfl)) (fun _ _ _ h => h) (Or.inl ⟨by rfl, ?_⟩) ?_ ?_
        rotate_left
        ·intro w'
         go_simp
         with_reducible rfl
        rotate_left
        ·simp only [Act.put, List.setIfInBounds_toArray, List.set_cons_zero, List.set_cons_succ, Aj, Ak]
         rfl
        refine Bg (i := 8) (N := some 18) (v := ?_) (a' := ?_) #[true, true, true, true, true, true, true, true, true, false, false, false, false, false, false, false, false, false, false, false, false, false, false, false, false, false, false, false, false, false] rfl rfl (Dc HT_.out (by kernel_rfl)) (fun _ _ _ h => h) (Or.inl ⟨by rfl, ?_⟩) ?_ ?_
        rotate_left
        ·intro w'
         go_simp
         with_reducible rfl
        rotate_left
        ·simp only [Act.put, List.setIfInBounds_toArray, List.set_cons_zero, List.set_cons_succ, Aj, Ak]
         rfl
        refine Bg (i := 9) (N := some 19) (v := ?_) (a' := ?_) #[true, true, true, true, true, true, true, true, true, true, false, false, false, false, false, false, false, false, false, false, false, false, false, false, false, false, false, false, false, false] rfl rfl (Dc HT_.out (by kernel_rfl)) (fun _ _ _ h => h) (Or.inl ⟨by rfl, ?_⟩) ?_ ?_
        rotate_left
        ·intro w'
         go_simp
         with_reducible rfl
        rotate_left
        ·simp only [Act.put, List.setIfInBounds_toArray, List.set_cons_zero, List.set_cons_succ, Aj, Ak]
         rfl
        refine Bg (i := 10) (N := some 20) (v := ?_) (a' := ?_) #[true, true, true, true, true, true, true, true, true, true, true, false, false, false, false, false, false, false, false, false, false, false, false, false, false, false, false, false, false, false] rfl rfl (Dc HT_.out (by kernel_rfl)) (fun _ _ _ h => h) (Or.inl ⟨by rfl, ?_⟩) ?_ ?_
        rotate_left
        ·intro w'
         go_simp
         with_reducible rfl
        rotate_left
        ·simp only [Act.put, List.setIfInBounds_toArray, List.set_cons_zero, List.set_cons_succ, Aj, Ak]
         rfl
        refine Bg (i := 11) (N := some 21) (v := ?_) (a' := ?_) #[true, true, true, true, true, true, true, true, true, true, true, true, false, false, false, false, false, false, false, false, false, false, false, false, false, false, false, false, false, false] rfl rfl (Dc HT_.out (by kernel_rfl)) (fun _ _ _ h => h) (Or.inl ⟨by rfl, ?_⟩) ?_ ?_
        rotate_left
        ·intro w'
         go_simp
         with_reducible rfl
        rotate_left
        ·simp only [Act.put, List.setIfInBounds_toArray, List.set_cons_zero, List.set_cons_succ, Aj, Ak]
         rfl
        refine Bg (i := 13) (N := some 23) (v := ?_) (a' := ?_) #[true, true, true, true, true, true, true, true, true, true, true, true, false, true, false, false, false, false, false, false, false, false, false, false, false, false, false, false, false, false] rfl rfl (Dc HT_.out (by kernel_rfl)) (fun _ _ _ h => h) (Or.inl ⟨by rfl, ?_⟩) ?_ ?_
        rotate_left
        ·intro w'
         go_simp
         with_reducible rfl
        rotate_left
        ·simp only [Act.put, List.setIfInBounds_toArray, List.set_cons_zero, List.set_cons_succ, Aj, Ak]
         rfl
        refine Bg (i := 14) (N := some 24) (v := ?_) (a' := ?_) #[true, true, true, true, true, true, true, true, true, true, true, true, false, true, true, false, false, false, false, false, false, false, false, false, false, false, false, false, false, false] rfl rfl (Dc HT_.out (by kernel_rfl)) (fun _ _ _ h => h) (Or.inl ⟨by rfl, ?_⟩) ?_ ?_
        rotate_left
        ·intro w'
         go_simp
         with_reducible rfl
        rotate_left
        ·simp only [Act.put, List.setIfInBounds_toArray, List.set_cons_zero, List.set_cons_succ, Aj, Ak]
         rfl
        refine Bg (i := 15) (N := some 25) (v := ?_) (a' := ?_) #[true, true, true, true, true, true, true, true, true, true, true, true, false, true, true, true, false, false, false, false, false, false, false, false, false, false, false, false, false, false] rfl rfl (Dc HT_.out (by kernel_rfl)) (fun _ _ _ h => h) (Or.inl ⟨by rfl, ?_⟩) ?_ ?_
        rotate_left
        ·intro w'
         go_simp
         with_reducible rfl
        rotate_left
        ·simp only [Act.put, List.setIfInBounds_toArray, List.set_cons_zero, List.set_cons_succ, Aj, Ak]
         rfl
        refine Bg (i := 16) (N := some 26) (v := ?_) (a' := ?_) #[true, true, true, true, true, true, true, true, true, true, true, true, false, true, true, true, true, false, false, false, false, false, false, false, false, false, false, false, false, false] rfl rfl (Dc HT_.out (by kernel_rfl)) (fun _ _ _ h => h) (Or.inl ⟨by rfl, ?_⟩) ?_ ?_
        rotate_left
        ·intro w'
         go_simp
         with_reducible rfl
        rotate_left
        ·simp only [Act.put, List.setIfInBounds_toArray, List.set_cons_zero, List.set_cons_succ, Aj, Ak]
         rfl
        refine Gg (i := 12) (N := some 22) (v := ?_) (a' := ?_) #[true, true, true, true, true, true, true, true, true, true, true, true, true, true, true, true, true, false, false, false, false, false, false, false, false, false, false, false, false, false] rfl rfl (Gq HT_.out HW_.out (by kernel_rfl)) (fun _ _ _ h => h) (Or.inl ⟨by rfl, ?_⟩) hHeld ?_ ?_
        rotate_left
        ·rintro w' ⟨s0, s1, s2, s3, s4, s5, s6, s7, s8, s9, s10, s11⟩
         go_simp
         with_reducible rfl
        rotate_left
        ·simp only [Act.put, List.setIfInBounds_toArray, List.set_cons_zero, List.set_cons_succ, Aj, Ak]
         rfl
        refine Gg (i := 17) (N := some 27) (v := ?_) (a' := ?_) #[true, true, true, true, true, true, true, true, true, true, true, true, true, true, true, true, true, true, false, false, false, false, false, false, false, false, false, false, false, false] rfl rfl (Gq HT_.out HW_.out (by kernel_rfl)) (fun _ _ _ h => h) (Or.inl ⟨by rfl, ?_⟩) hHeld ?_ ?_
        rotate_left
        ·rintro w' ⟨s0, s1, s2, s3, s4, s5, s6, s7, s8, s9, s10, s11⟩
         go_simp
         with_reducible rfl
        rotate_left
        ·simp only [Act.put, List.setIfInBounds_toArray, List.set_cons_zero, List.set_cons_succ, Aj, Ak]
         rfl
        refine one_ (i := 18) (N := some 28) #[true, true, true, true, true, true, true, true, true, true, true, true, true, true, true, true, true, true, true, false, false, false, false, false, false, false, false, false, false, false] rfl rfl (H6 HT_.out (by kernel_rfl)) (by decide) (fun K hK => ?_)
        refine goes_ Try.func52 (by kernel_rfl) rfl #[.int .i64 ((Ah l0 x3_1).f1), .int .i64 ((Ah l0 x3_1).f0), .int .i64 240] (by rfl) rfl rfl Yb_ ?_
        with_reducible refine (Eg.calls ((Ah l0 x3_1).f1) ((Ah l0 x3_1).f0) 240 true _ A6.out).mono ?_
        rintro e w' ⟨rfl, ⟨nd, rfl⟩⟩
        refine ⟨_, rfl, ?_⟩
        refine hK.out _ _ ⟨((HB.out.cell (World.block_lt_of_cell? w _ hw113_0)).trans hw113_0), ((HB.out.cell (World.block_lt_of_cell? w _ hw113_1)).trans hw113_1), ((HB.out.cell (World.block_lt_of_cell? w _ hw113_2)).trans hw113_2), ((HB.out.cell (World.block_lt_of_cell? w _ hw115_0)).trans hw115_0), ((HB.out.cell (World.block_lt_of_cell? w _ hw115_1)).trans hw115_1), ((HB.out.cell (World.block_lt_of_cell? w _ hw115_2)).trans hw115_2), ((HB.out.cell (World.block_lt_of_cell? w _ hw116_0)).trans hw116_0), ((HB.out.cell (World.block_lt_of_cell? w _ hw116_1)).trans hw116_1), ((HB.out.cell (World.block_lt_of_cell? w _ hw116_2)).trans hw116_2), ((HB.out.cell (World.block_lt_of_cell? w _ hw118_0)).trans hw118_0), ((HB.out.cell (World.block_lt_of_cell? w _ hw118_1)).trans hw118_1), ((HB.out.cell (World.block_lt_of_cell? w _ hw118_2)).trans hw118_2)⟩ (fun hHeld => ?_)
        clear hK K
        refine En (a' := ?_) ?_ ?_
        rotate_left
        ·show Act.put _ (some 28) _ = _
         simp only [Act.put, List.setIfInBounds_toArray, List.set_cons_zero, List.set_cons_succ, Aj, Ak]
         rfl
        refine Bg (i := 19) (N := some 29) (v := ?_) (a' := ?_) #[true, true, true, true, true, true, true, true, true, true, true, true, true, true, true, true, true, true, true, true, false, false, false, false, false, false, false, false, false, false] rfl rfl (Dc HT_.out (by kernel_rfl)) (fun _ _ _ h => h) (Or.inl ⟨by rfl, ?_⟩) ?_ ?_
        rotate_left
        ·intro w'
         go_simp
         with_reducible rfl
        rotate_left
        ·simp only [Act.put, List.setIfInBounds_toArray, List.set_cons_zero, List.set_cons_succ, Aj, Ak]
         rfl
        refine Bg (i := 20) (N := some 30) (v := ?_) (a' := ?_) #[true, true, true, true, true, true, true, true, true, true, true, true, true, true, true, true, true, true, true, true, true, false, false, false, false, false, false, false, false, false] rfl rfl (Dc HT_.out (by kernel_rfl)) (fun _ _ _ h => h) (Or.inl ⟨by rfl, ?_⟩) ?_ ?_
        rotate_left
        ·intro w'
         go_simp
         with_reducible rfl
        rotate_left
        ·simp only [Act.put, List.setIfInBounds_toArray, List.set_cons_zero, List.set_cons_succ, Aj, Ak]
         rfl
        refine Bg (i := 21) (N := some 31) (v := ?_) (a' := ?_) #[true, true, true, true, true, true, true, true, true, true, true, true, true, true, true, true, true, true, true, true, true, true, false, false, false, false, false, false, false, false] rfl rfl (Dc HT_.out (by kernel_rfl)) (fun _ _ _ h => h) (Or.inl ⟨by rfl, ?_⟩) ?_ ?_
        rotate_left
        ·intro w'
         go_simp
         with_reducible rfl
        rotate_left
        ·simp only [Act.put, List.setIfInBounds_toArray, List.set_cons_zero, List.set_cons_succ, Aj, Ak]
         rfl
        refine Bg (i := 22) (N := some 32) (v := ?_) (a' := ?_) #[true, true, true, true, true, true, true, true, true, true, true, true, true, true, true, true, true, true, true, true, true, true, true, false, false, false, false, false, false, false] rfl rfl (Dc HT_.out (by kernel_rfl)) (fun _ _ _ h => h) (Or.inl ⟨by rfl, ?_⟩) ?_ ?_
        rotate_left
        ·intro w'
         go_simp
         with_reducible rfl
        rotate_left
        ·simp only [Act.put, List.setIfInBounds_toArray, List.set_cons_zero, List.set_cons_succ, Aj, Ak]
         rfl
        refine Bg (i := 23) (N := some 33) (v := ?_) (a' := ?_) #[true, true, true, true, true, true, true, true, true, true, true, true, true, true, true, true, true, true, true, true, true, true, true, true, false, false, false, false, false, false] rfl rfl (Dc HT_.out (by kernel_rfl)) (fun _ _ _ h => h) (Or.inl ⟨by rfl, ?_⟩) ?_ ?_
        rotate_left
        ·intro w'
         go_simp
         with_reducible rfl
        rotate_left
        ·simp only [Act.put, List.setIfInBounds_toArray, List.set_cons_zero, List.set_cons_succ, Aj, Ak]
         rfl
        refine Bg (i := 24) (N := some 34) (v := ?_) (a' := ?_) #[true, true, true, true, true, true, true, true, true, true, true, true, true, true, true, true, true, true, true, true, true, true, true, true, true, false, false, false, false, false] rfl rfl (Dc HT_.out (by kernel_rfl)) (fun _ _ _ h => h) (Or.inl ⟨by rfl, ?_⟩) ?_ ?_
        rotate_left
        ·intro w'
         go_simp
         with_reducible rfl
        rotate_left
        ·simp only [Act.put, List.setIfInBounds_toArray, List.set_cons_zero, List.set_cons_succ, Aj, Ak]
         rfl
        refine Bg (i := 25) (N := some 35) (v := ?_) (a' := ?_) #[true, true, true, true, true, true, true, true, true, true, true, true, true, true, true, true, true, true, true, true, true, true, true, true, true, true, false, false, false, false] rfl rfl (Dc HT_.out (by kernel_rfl)) (fun _ _ _ h => h) (Or.inl ⟨by rfl, ?_⟩) ?_ ?_
        rotate_left
        ·intro w'
         go_simp
         with_reducible rfl
        rotate_left
        ·simp only [Act.put, List.setIfInBounds_toArray, List.set_cons_zero, List.set_cons_succ, Aj, Ak]
         rfl
        refine Gg (i := 26) (N := some 36) (v := ?_) (a' := ?_) #[true, true, true, true, true, true, true, true, true, true, true, true, true, true, true, true, true, true, true, true, true, true, true, true, true, true, true, false, false, false] rfl rfl (Gq HT_.out HW_.out (by kernel_rfl)) (fun _ _ _ h => h) (Or.inl ⟨by rfl, ?_⟩) hHeld ?_ ?_
        rotate_left
        ·rintro w' ⟨s0, s1, s2, s3, s4, s5, s6, s7, s8, s9, s10, s11⟩
         go_simp
         with_reducible rfl
        rotate_left
        ·simp only [Act.put, List.setIfInBounds_toArray, List.set_cons_zero, List.set_cons_succ, Aj, Ak]
         rfl
        refine one_ (i := 27) (N := some 37) #[true, true, true, true, true, true, true, true, true, true, true, true, true, true, true, true, true, true, true, true, true, true, true, true, true, true, true, true, false, false] rfl rfl (H6 HT_.out (by kernel_rfl)) (by decide) (fun K hK => ?_)
        refine goes_ Try.func52 (by kernel_rfl) rfl #[.int .i64 ((Ah l0 x3_1).f2), .int .i64 1, .int .i64 9] (by rfl) rfl rfl Yb_ ?_
        with_reducible refine (Eg.calls ((Ah l0 x3_1).f2) 1 9 true _ A8.out).mono ?_
        rintro e w' ⟨rfl, ⟨nd, rfl⟩⟩
        refine ⟨_, rfl, ?_⟩
        refine hK.out _ _ ⟨((HB.out.cell (World.block_lt_of_cell? w _ hw113_0)).trans hw113_0), ((HB.out.cell (World.block_lt_of_cell? w _ hw113_1)).trans hw113_1), ((HB.out.cell (World.block_lt_of_cell? w _ hw113_2)).trans hw113_2), ((HB.out.cell (World.block_lt_of_cell? w _ hw115_0)).trans hw115_0), ((HB.out.cell (World.block_lt_of_cell? w _ hw115_1)).trans hw115_1), ((HB.out.cell (World.block_lt_of_cell? w _ hw115_2)).trans hw115_2), ((HB.out.cell (World.block_lt_of_cell? w _ hw116_0)).trans hw116_0), ((HB.out.cell (World.block_lt_of_cell? w _ hw116_1)).trans hw116_1), ((HB.out.cell (World.block_lt_of_cell? w _ hw116_2)).trans hw116_2), ((HB.out.cell (World.block_lt_of_cell? w _ hw118_0)).trans hw118_0), ((HB.out.cell (World.block_lt_of_cell? w _ hw118_1)).trans hw118_1), ((HB.out.cell (World.block_lt_of_cell? w _ hw118_2)).trans hw118_2)⟩ (fun hHeld => ?_)
        clear hK K
        refine En (a' := ?_) ?_ ?_
        rotate_left
        ·show Act.put _ (some 37) _ = _
         simp only [Act.put, List.setIfInBounds_toArray, List.set_cons_zero, List.set_cons_succ, Aj, Ak]
         rfl
        refine Bg (i := 28) (N := some 38) (v := ?_) (a' := ?_) #[true, true, true, true, true, true, true, true, true, true, true, true, true, true, true, true, true, true, true, true, true, true, true, true, true, true, true, true, true, false] rfl rfl (Dc HT_.out (by kernel_rfl)) (fun _ _ _ h => h) (Or.inl ⟨by rfl, ?_⟩) ?_ ?_
        rotate_left
        ·intro w'
         go_simp
         with_reducible rfl
        rotate_left
        ·simp only [Act.put, List.setIfInBounds_toArray, List.set_cons_zero, List.set_cons_succ, Aj, Ak]
         rfl
        refine Bg (i := 29) (N := some 39) (v := ?_) (a' := ?_) #[true, true, true, true, true, true, true, true, true, true, true, true, true, true, true, true, true, true, true, true, true, true, true, true, true, true, true, true, true, true] rfl rfl (Dc HT_.out (by kernel_rfl)) (fun _ _ _ h => h) (Or.inl ⟨by rfl, ?_⟩) ?_ ?_
        rotate_left
        ·intro w'
         go_simp
         with_reducible rfl
        rotate_left
        ·simp only [Act.put, List.setIfInBounds_toArray, List.set_cons_zero, List.set_cons_succ, Aj, Ak]
         rfl
        refine done_ (done_of HT_.out (by kernel_rfl)) ?_
        try go_wp2
        go_roundg k1
        case measure => have := HK1.out; omega
        case rel => exact ⟨(wrap64 (x3_1 + 1)), Yd_, H', ⟨by have := HK1.out; omega⟩, ⟨by repeat (first | (with_reducible first | exact HB.out | apply Af | apply Ad | apply Ae) | exact HB.out)⟩⟩
       ·replace c9 := Bool.eq_false_iff.mpr c9
        subst c9
        have H1 : (some false) = some r := by rw [if_neg (show ¬ (false = true) by decide)] at H; exact H
        clear H
        have H := H1
        clear H1
        obtain rfl := Option.some.inj H
        try go_wp2
        have n0_ := Aside0.mk (Ae HB.out)
        clear HB
        have HB := n0_
        clear n0_
        have p113 : 0 ≤ (x3_1 : Int) := of_decide_eq_true Yc_
        have q113 : x3_1 < (l0.length : Int) := of_decide_eq_true Yc_
        obtain ⟨ad113, e113, hx113_0, hx113_1, hx113_2⟩ := Ez HR0.out x3_1 p113 q113
        have hw113_2 := hx113_2
        have hw113_1 := hx113_1
        have hw113_0 := hx113_0
        cases e113
        replace hx113_0 := (HB.out.cell (World.block_lt_of_cell? w _ hx113_0)).trans hx113_0
        replace hx113_1 := (HB.out.cell (World.block_lt_of_cell? w _ hx113_1)).trans hx113_1
        replace hx113_2 := (HB.out.cell (World.block_lt_of_cell? w _ hx113_2)).trans hx113_2
        replace p113 := eq_true p113
        replace q113 := eq_true q113
        have p115 : 0 ≤ (x3_1 : Int) := of_decide_eq_true Yc_
        have q115 : x3_1 < (l0.length : Int) := of_decide_eq_true Yc_
        obtain ⟨ad115, e115, hx115_0, hx115_1, hx115_2⟩ := Ez HR0.out x3_1 p115 q115
        have hw115_2 := hx115_2
        have hw115_1 := hx115_1
        have hw115_0 := hx115_0
        obtain rfl : ad113 = ad115 := (by injection e115)
        replace hx115_0 := (HB.out.cell (World.block_lt_of_cell? w _ hx115_0)).trans hx115_0
        replace hx115_1 := (HB.out.cell (World.block_lt_of_cell? w _ hx115_1)).trans hx115_1
        replace hx115_2 := (HB.out.cell (World.block_lt_of_cell? w _ hx115_2)).trans hx115_2
        replace p115 := eq_true p115
        replace q115 := eq_true q115
        have p116 : 0 ≤ (x3_1 : Int) := of_decide_eq_true Yc_
        have q116 : x3_1 < (l0.length : Int) := of_decide_eq_true Yc_
        obtain ⟨ad116, e116, hx116_0, hx116_1, hx116_2⟩ := Ez HR0.out x3_1 p116 q116
        have hw116_2 := hx116_2
        have hw116_1 := hx116_1
        have hw116_0 := hx116_0
        obtain rfl : ad113 = ad116 := (by injection e116)
        replace hx116_0 := (HB.out.cell (World.block_lt_of_cell? w _ hx116_0)).trans hx116_0
        replace hx116_1 := (HB.out.cell (World.block_lt_of_cell? w _ hx116_1)).trans hx116_1
        replace hx116_2 := (HB.out.cell (World.block_lt_of_cell? w _ hx116_2)).trans hx116_2
        replace p116 := eq_true p116
        replace q116 := eq_true q116
        have p118 : 0 ≤ (x3_1 : Int) := of_decide_eq_true Yc_
        have q118 : x3_1 < (l0.length : Int) := of_decide_eq_true Yc_
        obtain ⟨ad118, e118, hx118_0, hx118_1, hx118_2⟩ := Ez HR0.out x3_1 p118 q118
        have hw118_2 := hx118_2
        have hw118_1 := hx118_1
        have hw118_0 := hx118_0
        obtain rfl : ad113 = ad118 := (by injection e118)
        replace hx118_0 := (HB.out.cell (World.block_lt_of_cell? w _ hx118_0)).trans hx118_0
        replace hx118_1 := (HB.out.cell (World.block_lt_of_cell? w _ hx118_1)).trans hx118_1
        replace hx118_2 := (HB.out.cell (World.block_lt_of_cell? w _ hx118_2)).trans hx118_2
        replace p118 := eq_true p118
        replace q118 := eq_true q118
        refine G9 (n := 30) (S := fun w' => w'.cell? (ad113.add ((x3_1).toNat * 3)) = some (.int .i64 ((Ah l0 x3_1).f0)) ∧ w'.cell? ⟨(ad113.add ((x3_1).toNat * 3)).block, (ad113.add ((x3_1).toNat * 3)).off + 1, none⟩ = some (.int .i64 ((Ah l0 x3_1).f1)) ∧ w'.cell? ⟨(ad113.add ((x3_1).toNat * 3)).block, (ad113.add ((x3_1).toNat * 3)).off + 2, none⟩ = some (.int .i64 ((Ah l0 x3_1).f2)) ∧ w'.cell? (ad113.add ((x3_1).toNat * 3)) = some (.int .i64 ((Ah l0 x3_1).f0)) ∧ w'.cell? ⟨(ad113.add ((x3_1).toNat * 3)).block, (ad113.add ((x3_1).toNat * 3)).off + 1, none⟩ = some (.int .i64 ((Ah l0 x3_1).f1)) ∧ w'.cell? ⟨(ad113.add ((x3_1).toNat * 3)).block, (ad113.add ((x3_1).toNat * 3)).off + 2, none⟩ = some (.int .i64 ((Ah l0 x3_1).f2)) ∧ w'.cell? (ad113.add ((x3_1).toNat * 3)) = some (.int .i64 ((Ah l0 x3_1).f0)) ∧ w'.cell? ⟨(ad113.add ((x3_1).toNat * 3)).block, (ad113.add ((x3_1).toNat * 3)).off + 1, none⟩ = some (.int .i64 ((Ah l0 x3_1).f1)) ∧ w'.cell? ⟨(ad113.add ((x3_1).toNat * 3)).block, (ad113.add ((x3_1).toNat * 3)).off + 2, none⟩ = some (.int .i64 ((Ah l0 x3_1).f2)) ∧ w'.cell? (ad113.add ((x3_1).toNat * 3)) = some (.int .i64 ((Ah l0 x3_1).f0)) ∧ w'.cell? ⟨(ad113.add ((x3_1).toNat * 3)).block, (ad113.add ((x3_1).toNat * 3)).off + 1, none⟩ = some (.int .i64 ((Ah l0 x3_1).f1)) ∧ w'.cell? ⟨(ad113.add ((x3_1).toNat * 3)).block, (ad113.add ((x3_1).toNat * 3)).off + 2, none⟩ = some (.int .i64 ((Ah l0 x3_1).f2))) (ds := []) #[false, false, false, false, false, false, false, false, false, false, false, false, false, false, false, false, false, false, false, false, false, false, false, false, false, false, false, false, false, false] (by kernel_rfl) rfl rfl ⟨((HB.out.cell (World.block_lt_of_cell? w _ hw113_0)).trans hw113_0), ((HB.out.cell (World.block_lt_of_cell? w _ hw113_1)).trans hw113_1), ((HB.out.cell (World.block_lt_of_cell? w _ hw113_2)).trans hw113_2), ((HB.out.cell (World.block_lt_of_cell? w _ hw115_0)).trans hw115_0), ((HB.out.cell (World.block_lt_of_cell? w _ hw115_1)).trans hw115_1), ((HB.out.cell (World.block_lt_of_cell? w _ hw115_2)).trans hw115_2), ((HB.out.cell (World.block_lt_of_cell? w _ hw116_0)).trans hw116_0), ((HB.out.cell (World.block_lt_of_cell? w _ hw116_1)).trans hw116_1), ((HB.out.cell (World.block_lt_of_cell? w _ hw116_2)).trans hw116_2), ((HB.out.cell (World.block_lt_of_cell? w _ hw118_0)).trans hw118_0), ((HB.out.cell (World.block_lt_of_cell? w _ hw118_1)).trans hw118_1), ((HB.out.cell (World.block_lt_of_cell? w _ hw118_2)).trans hw118_2)⟩ (fun hHeld => ?_); refine Ie Aq.tab4 Aq.bits4 (fun HT_ HW_ => ?_)
        generalize wr.drew = w11 at HB hx113_0 hx113_1 hx113_2 hx115_0 hx115_1 hx115_2 hx116_0 hx116_1 hx116_2 hx118_0 hx118_1 hx118_2 hHeld ⊢
        refine Bg (i := 0) (N := some 10) (v := ?_) (a' := ?_) #[true, false, false, false, false, false, false, false, false, false, false, false, false, false, false, false, false, false, false, false, false, false, false, false, false, false, false, false, false, false] rfl rfl (Dc HT_.out (by kernel_rfl)) (fun _ _ _ h => h) (Or.inl ⟨by rfl, ?_⟩) ?_ ?_
        rotate_left
        ·intro w'
         go_simp
         with_reducible rfl
        rotate_left
        ·simp only [Act.put, List.setIfInBounds_toArray, List.set_cons_zero, List.set_cons_succ, Aj, Ak]
         rfl
        refine Bg (i := 1) (N := some 11) (v := ?_) (a' := ?_) #[true, true, false, false, false, false, false, false, false, false, false, false, false, false, false, false, false, false, false, false, false, false, false, false, false, false, false, false, false, false] rfl rfl (Dc HT_.out (by kernel_rfl)) (fun _ _ _ h => h) (Or.inl ⟨by rfl, ?_⟩) ?_ ?_
        rotate_left
        ·intro w'
         go_simp
         with_reducible rfl
        rotate_left
        ·simp only [Act.put, List.setIfInBounds_toArray, List.set_cons_zero, List.set_cons_succ, Aj, Ak]
         rfl
        refine Bg (i := 2) (N := some 12) (v := ?_) (a' := ?_) #[true, true, true, false, false, false, false, false, false, false, false, false, false, false, false, false, false, false, false, false, false, false, false, false, false, false, false, false, false, false] rfl rfl (Dc HT_.out (by kernel_rfl)) (fun _ _ _ h => h) (Or.inl ⟨by rfl, ?_⟩) ?_ ?_
        rotate_left
        ·intro w'
         go_simp
         with_reducible rfl
        rotate_left
        ·simp only [Act.put, List.setIfInBounds_toArray, List.set_cons_zero, List.set_cons_succ, Aj, Ak]
         rfl
        refine Bg (i := 3) (N := some 13) (v := ?_) (a' := ?_) #[true, true, true, true, false, false, false, false, false, false, false, false, false, false, false, false, false, false, false, false, false, false, false, false, false, false, false, false, false, false] rfl rfl (Dc HT_.out (by kernel_rfl)) (fun _ _ _ h => h) (Or.inl ⟨by rfl, ?_⟩) ?_ ?_
        rotate_left
        ·intro w'
         go_simp
         with_reducible rfl
        rotate_left
        ·simp only [Act.put, List.setIfInBounds_toArray, List.set_cons_zero, List.set_cons_succ, Aj, Ak]
         rfl
        refine Gg (i := 4) (N := some 14) (v := ?_) (a' := ?_) #[true, true, true, true, true, false, false, false, false, false, false, false, false, false, false, false, false, false, false, false, false, false, false, false, false, false, false, false, false, false] rfl rfl (Gq HT_.out HW_.out (by kernel_rfl)) (fun _ _ _ h => h) (Or.inl ⟨by rfl, ?_⟩) hHeld ?_ ?_
        rotate_left
        ·rintro w' ⟨s0, s1, s2, s3, s4, s5, s6, s7, s8, s9, s10, s11⟩
         go_simp
         with_reducible rfl
        rotate_left
        ·simp only [Act.put, List.setIfInBounds_toArray, List.set_cons_zero, List.set_cons_succ, Aj, Ak]
         rfl
        refine one_ (i := 5) (N := some 15) #[true, true, true, true, true, true, false, false, false, false, false, false, false, false, false, false, false, false, false, false, false, false, false, false, false, false, false, false, false, false] rfl rfl (H6 HT_.out (by kernel_rfl)) (by decide) (fun K hK => ?_)
        refine goes_ Try.func52 (by kernel_rfl) rfl #[.int .i64 ((Ah l0 x3_1).f0), .int .i64 0, .int .i64 240] (by rfl) rfl rfl Yb_ ?_
        with_reducible refine (Eg.calls ((Ah l0 x3_1).f0) 0 240 true _ A4.out).mono ?_
        rintro e w' ⟨rfl, ⟨nd, rfl⟩⟩
        refine ⟨_, rfl, ?_⟩
        refine hK.out _ _ ⟨((HB.out.cell (World.block_lt_of_cell? w _ hw113_0)).trans hw113_0), ((HB.out.cell (World.block_lt_of_cell? w _ hw113_1)).trans hw113_1), ((HB.out.cell (World.block_lt_of_cell? w _ hw113_2)).trans hw113_2), ((HB.out.cell (World.block_lt_of_cell? w _ hw115_0)).trans hw115_0), ((HB.out.cell (World.block_lt_of_cell? w _ hw115_1)).trans hw115_1), ((HB.out.cell (World.block_lt_of_cell? w _ hw115_2)).trans hw115_2), ((HB.out.cell (World.block_lt_of_cell? w _ hw116_0)).trans hw116_0), ((HB.out.cell (World.block_lt_of_cell? w _ hw116_1)).trans hw116_1), ((HB.out.cell (World.block_lt_of_cell? w _ hw116_2)).trans hw116_2), ((HB.out.cell (World.block_lt_of_cell? w _ hw118_0)).trans hw118_0), ((HB.out.cell (World.block_lt_of_cell? w _ hw118_1)).trans hw118_1), ((HB.out.cell (World.block_lt_of_cell? w _ hw118_2)).trans hw118_2)⟩ (fun hHeld => ?_)
        clear hK K
        refine En (a' := ?_) ?_ ?_
        rotate_left
        ·show Act.put _ (some 15) _ = _
         simp only [Act.put, List.setIfInBounds_toArray, List.set_cons_zero, List.set_cons_succ, Aj, Ak]
         rfl
        refine Bg (i := 6) (N := some 16) (v := ?_) (a' := ?_) #[true, true, true, true, true, true, true, false, false, false, false, false, false, false, false, false, false, false, false, false, false, false, false, false, false, false, false, false, false, false] rfl rfl (Dc HT_.out (by kernel_rfl)) (fun _ _ _ h => h) (Or.inl ⟨by rfl, ?_⟩) ?_ ?_
        rotate_left
        ·intro w'
         go_simp
         with_reducible rfl
        rotate_left
        ·simp only [Act.put, List.setIfInBounds_toArray, List.set_cons_zero, List.set_cons_succ, Aj, Ak]
         rfl
        refine Bg (i := 7) (N := some 17) (v := ?_) (a' := ?_) #[true, true, true, true, true, true, true, true, false, false, false, false, false, false, false, false, false, false, false, false, false, false, false, false, false, false, false, false, false, false] rfl rfl (Dc HT_.out (by kernel_rfl)) (fun _ _ _ h => h) (Or.inl ⟨by rfl, ?_⟩) ?_ ?_
        rotate_left
        ·intro w'
         go_simp
         with_reducible rfl
        rotate_left
        ·simp only [Act.put, List.setIfInBounds_toArray, List.set_cons_zero, List.set_cons_succ, Aj, Ak]
         rfl
        refine Bg (i := 8) (N := some 18) (v := ?_) (a' := ?_) #[true, true, true, true, true, true, true, true, true, false, false, false, false, false, false, false, false, false, false, false, false, false, false, false, false, false, false, false, false, false] rfl rfl (Dc HT_.out (by kernel_rfl)) (fun _ _ _ h => h) (Or.inl ⟨by rfl, ?_⟩) ?_ ?_
        rotate_left
        ·intro w'
         go_simp
         with_reducible rfl
        rotate_left
        ·simp only [Act.put, List.setIfInBounds_toArray, List.set_cons_zero, List.set_cons_succ, Aj, Ak]
         rfl
        refine Bg (i := 9) (N := some 19) (v := ?_) (a' := ?_) #[true, true, true, true, true, true, true, true, true, true, false, false, false, false, false, false, false, false, false, false, false, false, false, false, false, false, false, false, false, false] rfl rfl (Dc HT_.out (by kernel_rfl)) (fun _ _ _ h => h) (Or.inl ⟨by rfl, ?_⟩) ?_ ?_
        rotate_left
        ·intro w'
         go_simp
         with_reducible rfl
        rotate_left
        ·simp only [Act.put, List.setIfInBounds_toArray, List.set_cons_zero, List.set_cons_succ, Aj, Ak]
         rfl
        refine Bg (i := 10) (N := some 20) (v := ?_) (a' := ?_) #[true, true, true, true, true, true, true, true, true, true, true, false, false, false, false, false, false, false, false, false, false, false, false, false, false, false, false, false, false, false] rfl rfl (Dc HT_.out (by kernel_rfl)) (fun _ _ _ h => h) (Or.inl ⟨by rfl, ?_⟩) ?_ ?_
        rotate_left
        ·intro w'
         go_simp
         with_reducible rfl
        rotate_left
        ·simp only [Act.put, List.setIfInBounds_toArray, List.set_cons_zero, List.set_cons_succ, Aj, Ak]
         rfl
        refine Bg (i := 11) (N := some 21) (v := ?_) (a' := ?_) #[true, true, true, true, true, true, true, true, true, true, true, true, false, false, false, false, false, false, false, false, false, false, false, false, false, false, false, false, false, false] rfl rfl (Dc HT_.out (by kernel_rfl)) (fun _ _ _ h => h) (Or.inl ⟨by rfl, ?_⟩) ?_ ?_
        rotate_left
        ·intro w'
         go_simp
         with_reducible rfl
        rotate_left
        ·simp only [Act.put, List.setIfInBounds_toArray, List.set_cons_zero, List.set_cons_succ, Aj, Ak]
         rfl
        refine Bg (i := 13) (N := some 23) (v := ?_) (a' := ?_) #[true, true, true, true, true, true, true, true, true, true, true, true, false, true, false, false, false, false, false, false, false, false, false, false, false, false, false, false, false, false] rfl rfl (Dc HT_.out (by kernel_rfl)) (fun _ _ _ h => h) (Or.inl ⟨by rfl, ?_⟩) ?_ ?_
        rotate_left
        ·intro w'
         go_simp
         with_reducible rfl
        rotate_left
        ·simp only [Act.put, List.setIfInBounds_toArray, List.set_cons_zero, List.set_cons_succ, Aj, Ak]
         rfl
        refine Bg (i := 14) (N := some 24) (v := ?_) (a' := ?_) #[true, true, true, true, true, true, true, true, true, true, true, true, false, true, true, false, false, false, false, false, false, false, false, false, false, false, false, false, false, false] rfl rfl (Dc HT_.out (by kernel_rfl)) (fun _ _ _ h => h) (Or.inl ⟨by rfl, ?_⟩) ?_ ?_
        rotate_left
        ·intro w'
         go_simp
         with_reducible rfl
        rotate_left
        ·simp only [Act.put, List.setIfInBounds_toArray, List.set_cons_zero, List.set_cons_succ, Aj, Ak]
         rfl
        refine Bg (i := 15) (N := some 25) (v := ?_) (a' := ?_) #[true, true, true, true, true, true, true, true, true, true, true, true, false, true, true, true, false, false, false, false, false, false, false, false, false, false, false, false, false, false] rfl rfl (Dc HT_.out (by kernel_rfl)) (fun _ _ _ h => h) (Or.inl ⟨by rfl, ?_⟩) ?_ ?_
        rotate_left
        ·intro w'
         go_simp
         with_reducible rfl
        rotate_left
        ·simp only [Act.put, List.setIfInBounds_toArray, List.set_cons_zero, List.set_cons_succ, Aj, Ak]
         rfl
        refine Bg (i := 16) (N := some 26) (v := ?_) (a' := ?_) #[true, true, true, true, true, true, true, true, true, true, true, true, false, true, true, true, true, false, false, false, false, false, false, false, false, false, false, false, false, false] rfl rfl (Dc HT_.out (by kernel_rfl)) (fun _ _ _ h => h) (Or.inl ⟨by rfl, ?_⟩) ?_ ?_
        rotate_left
        ·intro w'
         go_simp
         with_reducible rfl
        rotate_left
        ·simp only [Act.put, List.setIfInBounds_toArray, List.set_cons_zero, List.set_cons_succ, Aj, Ak]
         rfl
        refine Gg (i := 12) (N := some 22) (v := ?_) (a' := ?_) #[true, true, true, true, true, true, true, true, true, true, true, true, true, true, true, true, true, false, false, false, false, false, false, false, false, false, false, false, false, false] rfl rfl (Gq HT_.out HW_.out (by kernel_rfl)) (fun _ _ _ h => h) (Or.inl ⟨by rfl, ?_⟩) hHeld ?_ ?_
        rotate_left
        ·rintro w' ⟨s0, s1, s2, s3, s4, s5, s6, s7, s8, s9, s10, s11⟩
         go_simp
         with_reducible rfl
        rotate_left
        ·simp only [Act.put, List.setIfInBounds_toArray, List.set_cons_zero, List.set_cons_succ, Aj, Ak]
         rfl
        refine Gg (i := 17) (N := some 27) (v := ?_) (a' := ?_) #[true, true, true, true, true, true, true, true, true, true, true, true, true, true, true, true, true, true, false, false, false, false, false, false, false, false, false, false, false, false] rfl rfl (Gq HT_.out HW_.out (by kernel_rfl)) (fun _ _ _ h => h) (Or.inl ⟨by rfl, ?_⟩) hHeld ?_ ?_
        rotate_left
        ·rintro w' ⟨s0, s1, s2, s3, s4, s5, s6, s7, s8, s9, s10, s11⟩
         go_simp
         with_reducible rfl
        rotate_left
        ·simp only [Act.put, List.setIfInBounds_toArray, List.set_cons_zero, List.set_cons_succ, Aj, Ak]
         rfl
        refine one_ (i := 18) (N := some 28) #[true, true, true, true, true, true, true, true, true, true, true, true, true, true, true, true, true, true, true, false, false, false, false, false, false, false, false, false, false, false] rfl rfl (H6 HT_.out (by kernel_rfl)) (by decide) (fun K hK => ?_)
        refine goes_ Try.func52 (by kernel_rfl) rfl #[.int .i64 ((Ah l0 x3_1).f1), .int .i64 ((Ah l0 x3_1).f0), .int .i64 240] (by rfl) rfl rfl Yb_ ?_
        with_reducible refine (Eg.calls ((Ah l0 x3_1).f1) ((Ah l0 x3_1).f0) 240 true _ A6.out).mono ?_
        rintro e w' ⟨rfl, ⟨nd, rfl⟩⟩
        refine ⟨_, rfl, ?_⟩
        refine hK.out _ _ ⟨((HB.out.cell (World.block_lt_of_cell? w _ hw113_0)).trans hw113_0), ((HB.out.cell (World.block_lt_of_cell? w _ hw113_1)).trans hw113_1), ((HB.out.cell (World.block_lt_of_cell? w _ hw113_2)).trans hw113_2), ((HB.out.cell (World.block_lt_of_cell? w _ hw115_0)).trans hw115_0), ((HB.out.cell (World.block_lt_of_cell? w _ hw115_1)).trans hw115_1), ((HB.out.cell (World.block_lt_of_cell? w _ hw115_2)).trans hw115_2), ((HB.out.cell (World.block_lt_of_cell? w _ hw116_0)).trans hw116_0), ((HB.out.cell (World.block_lt_of_cell? w _ hw116_1)).trans hw116_1), ((HB.out.cell (World.block_lt_of_cell? w _ hw116_2)).trans hw116_2), ((HB.out.cell (World.block_lt_of_cell? w _ hw118_0)).trans hw118_0), ((HB.out.cell (World.block_lt_of_cell? w _ hw118_1)).trans hw118_1), ((HB.out.cell (World.block_lt_of_cell? w _ hw118_2)).trans hw118_2)⟩ (fun hHeld => ?_)
        clear hK K
        refine En (a' := ?_) ?_ ?_
        rotate_left
        ·show Act.put _ (some 28) _ = _
         simp only [Act.put, List.setIfInBounds_toArray, List.set_cons_zero, List.set_cons_succ, Aj, Ak]
         rfl
        refine Bg (i := 19) (N := some 29) (v := ?_) (a' := ?_) #[true, true, true, true, true, true, true, true, true, true, true, true, true, true, true, true, true, true, true, true, false, false, false, false, false, false, false, false, false, false] rfl rfl (Dc HT_.out (by kernel_rfl)) (fun _ _ _ h => h) (Or.inl ⟨by rfl, ?_⟩) ?_ ?_
        rotate_left
        ·intro w'
         go_simp
         with_reducible rfl
        rotate_left
        ·simp only [Act.put, List.setIfInBounds_toArray, List.set_cons_zero, List.set_cons_succ, Aj, Ak]
         rfl
        refine Bg (i := 20) (N := some 30) (v := ?_) (a' := ?_) #[true, true, true, true, true, true, true, true, true, true, true, true, true, true, true, true, true, true, true, true, true, false, false, false, false, false, false, false, false, false] rfl rfl (Dc HT_.out (by kernel_rfl)) (fun _ _ _ h => h) (Or.inl ⟨by rfl, ?_⟩) ?_ ?_
        rotate_left
        ·intro w'
         go_simp
         with_reducible rfl
        rotate_left
        ·simp only [Act.put, List.setIfInBounds_toArray, List.set_cons_zero, List.set_cons_succ, Aj, Ak]
         rfl
        refine Bg (i := 21) (N := some 31) (v := ?_) (a' := ?_) #[true, true, true, true, true, true, true, true, true, true, true, true, true, true, true, true, true, true, true, true, true, true, false, false, false, false, false, false, false, false] rfl rfl (Dc HT_.out (by kernel_rfl)) (fun _ _ _ h => h) (Or.inl ⟨by rfl, ?_⟩) ?_ ?_
        rotate_left
        ·intro w'
         go_simp
         with_reducible rfl
        rotate_left
        ·simp only [Act.put, List.setIfInBounds_toArray, List.set_cons_zero, List.set_cons_succ, Aj, Ak]
         rfl
        refine Bg (i := 22) (N := some 32) (v := ?_) (a' := ?_) #[true, true, true, true, true, true, true, true, true, true, true, true, true, true, true, true, true, true, true, true, true, true, true, false, false, false, false, false, false, false] rfl rfl (Dc HT_.out (by kernel_rfl)) (fun _ _ _ h => h) (Or.inl ⟨by rfl, ?_⟩) ?_ ?_
        rotate_left
        ·intro w'
         go_simp
         with_reducible rfl
        rotate_left
        ·simp only [Act.put, List.setIfInBounds_toArray, List.set_cons_zero, List.set_cons_succ, Aj, Ak]
         rfl
        refine Bg (i := 23) (N := some 33) (v := ?_) (a' := ?_) #[true, true, true, true, true, true, true, true, true, true, true, true, true, true, true, true, true, true, true, true, true, true, true, true, false, false, false, false, false, false] rfl rfl (Dc HT_.out (by kernel_rfl)) (fun _ _ _ h => h) (Or.inl ⟨by rfl, ?_⟩) ?_ ?_
        rotate_left
        ·intro w'
         go_simp
         with_reducible rfl
        rotate_left
        ·simp only [Act.put, List.setIfInBounds_toArray, List.set_cons_zero, List.set_cons_succ, Aj, Ak]
         rfl
        refine Bg (i := 24) (N := some 34) (v := ?_) (a' := ?_) #[true, true, true, true, true, true, true, true, true, true, true, true, true, true, true, true, true, true, true, true, true, true, true, true, true, false, false, false, false, false] rfl rfl (Dc HT_.out (by kernel_rfl)) (fun _ _ _ h => h) (Or.inl ⟨by rfl, ?_⟩) ?_ ?_
        rotate_left
        ·intro w'
         go_simp
         with_reducible rfl
        rotate_left
        ·simp only [Act.put, List.setIfInBounds_toArray, List.set_cons_zero, List.set_cons_succ, Aj, Ak]
         rfl
        refine Bg (i := 25) (N := some 35) (v := ?_) (a' := ?_) #[true, true, true, true, true, true, true, true, true, true, true, true, true, true, true, true, true, true, true, true, true, true, true, true, true, true, false, false, false, false] rfl rfl (Dc HT_.out (by kernel_rfl)) (fun _ _ _ h => h) (Or.inl ⟨by rfl, ?_⟩) ?_ ?_
        rotate_left
        ·intro w'
         go_simp
         with_reducible rfl
        rotate_left
        ·simp only [Act.put, List.setIfInBounds_toArray, List.set_cons_zero, List.set_cons_succ, Aj, Ak]
         rfl
        refine Gg (i := 26) (N := some 36) (v := ?_) (a' := ?_) #[true, true, true, true, true, true, true, true, true, true, true, true, true, true, true, true, true, true, true, true, true, true, true, true, true, true, true, false, false, false] rfl rfl (Gq HT_.out HW_.out (by kernel_rfl)) (fun _ _ _ h => h) (Or.inl ⟨by rfl, ?_⟩) hHeld ?_ ?_
        rotate_left
        ·rintro w' ⟨s0, s1, s2, s3, s4, s5, s6, s7, s8, s9, s10, s11⟩
         go_simp
         with_reducible rfl
        rotate_left
        ·simp only [Act.put, List.setIfInBounds_toArray, List.set_cons_zero, List.set_cons_succ, Aj, Ak]
         rfl
        refine one_ (i := 27) (N := some 37) #[true, true, true, true, true, true, true, true, true, true, true, true, true, true, true, true, true, true, true, true, true, true, true, true, true, true, true, true, false, false] rfl rfl (H6 HT_.out (by kernel_rfl)) (by decide) (fun K hK => ?_)
        refine goes_ Try.func52 (by kernel_rfl) rfl #[.int .i64 ((Ah l0 x3_1).f2), .int .i64 1, .int .i64 9] (by rfl) rfl rfl Yb_ ?_
        with_reducible refine (Eg.calls ((Ah l0 x3_1).f2) 1 9 false _ A8.out).mono ?_
        rintro e w' ⟨rfl, ⟨nd, rfl⟩⟩
        refine ⟨_, rfl, ?_⟩
        refine hK.out _ _ ⟨((HB.out.cell (World.block_lt_of_cell? w _ hw113_0)).trans hw113_0), ((HB.out.cell (World.block_lt_of_cell? w _ hw113_1)).trans hw113_1), ((HB.out.cell (World.block_lt_of_cell? w _ hw113_2)).trans hw113_2), ((HB.out.cell (World.block_lt_of_cell? w _ hw115_0)).trans hw115_0), ((HB.out.cell (World.block_lt_of_cell? w _ hw115_1)).trans hw115_1), ((HB.out.cell (World.block_lt_of_cell? w _ hw115_2)).trans hw115_2), ((HB.out.cell (World.block_lt_of_cell? w _ hw116_0)).trans hw116_0), ((HB.out.cell (World.block_lt_of_cell? w _ hw116_1)).trans hw116_1), ((HB.out.cell (World.block_lt_of_cell? w _ hw116_2)).trans hw116_2), ((HB.out.cell (World.block_lt_of_cell? w _ hw118_0)).trans hw118_0), ((HB.out.cell (World.block_lt_of_cell? w _ hw118_1)).trans hw118_1), ((HB.out.cell (World.block_lt_of_cell? w _ hw118_2)).trans hw118_2)⟩ (fun hHeld => ?_)
        clear hK K
        refine En (a' := ?_) ?_ ?_
        rotate_left
        ·show Act.put _ (some 37) _ = _
         simp only [Act.put, List.setIfInBounds_toArray, List.set_cons_zero, List.set_cons_succ, Aj, Ak]
         rfl
        refine Bg (i := 28) (N := some 38) (v := ?_) (a' := ?_) #[true, true, true, true, true, true, true, true, true, true, true, true, true, true, true, true, true, true, true, true, true, true, true, true, true, true, true, true, true, false] rfl rfl (Dc HT_.out (by kernel_rfl)) (fun _ _ _ h => h) (Or.inl ⟨by rfl, ?_⟩) ?_ ?_
        rotate_left
        ·intro w'
         go_simp
         with_reducible rfl
        rotate_left
        ·simp only [Act.put, List.setIfInBounds_toArray, List.set_cons_zero, List.set_cons_succ, Aj, Ak]
         rfl
        refine Bg (i := 29) (N := some 39) (v := ?_) (a' := ?_) #[true, true, true, true, true, true, true, true, true, true, true, true, true, true, true, true, true, true, true, true, true, true, true, true, true, true, true, true, true, true] rfl rfl (Dc HT_.out (by kernel_rfl)) (fun _ _ _ h => h) (Or.inl ⟨by rfl, ?_⟩) ?_ ?_
        rotate_left
        ·intro w'
         go_simp
         with_reducible rfl
        rotate_left
        ·simp only [Act.put, List.setIfInBounds_toArray, List.set_cons_zero, List.set_cons_succ, Aj, Ak]
         rfl
        refine done_ (done_of HT_.out (by kernel_rfl)) ?_
        try go_wp2
        go_ret
        exact ⟨by first | rfl | (simp [Aw, Az] <;> rfl) | (simp [*, Aw, Az] <;> rfl), by repeat (first | (with_reducible first | exact HB.out | apply Af | apply Ad | apply Ae) | exact HB.out)⟩
      ·replace c7 := Bool.eq_false_iff.mpr c7
       subst c7
       have H1 : (some false) = some r := by rw [if_neg (show ¬ (false = true) by decide)] at H; exact H
       clear H
       have H := H1
       clear H1
       obtain rfl := Option.some.inj H
       try go_wp2
       have n0_ := Aside0.mk (Ae HB.out)
       clear HB
       have HB := n0_
       clear n0_
       have p113 : 0 ≤ (x3_1 : Int) := of_decide_eq_true Yc_
       have q113 : x3_1 < (l0.length : Int) := of_decide_eq_true Yc_
       obtain ⟨ad113, e113, hx113_0, hx113_1, hx113_2⟩ := Ez HR0.out x3_1 p113 q113
       have hw113_2 := hx113_2
       have hw113_1 := hx113_1
       have hw113_0 := hx113_0
       cases e113
       replace hx113_0 := (HB.out.cell (World.block_lt_of_cell? w _ hx113_0)).trans hx113_0
       replace hx113_1 := (HB.out.cell (World.block_lt_of_cell? w _ hx113_1)).trans hx113_1
       replace hx113_2 := (HB.out.cell (World.block_lt_of_cell? w _ hx113_2)).trans hx113_2
       replace p113 := eq_true p113
       replace q113 := eq_true q113
       have p115 : 0 ≤ (x3_1 : Int) := of_decide_eq_true Yc_
       have q115 : x3_1 < (l0.length : Int) := of_decide_eq_true Yc_
       obtain ⟨ad115, e115, hx115_0, hx115_1, hx115_2⟩ := Ez HR0.out x3_1 p115 q115
       have hw115_2 := hx115_2
       have hw115_1 := hx115_1
       have hw115_0 := hx115_0
       obtain rfl : ad113 = ad115 := (by injection e115)
       replace hx115_0 := (HB.out.cell (World.block_lt_of_cell? w _ hx115_0)).trans hx115_0
       replace hx115_1 := (HB.out.cell (World.block_lt_of_cell? w _ hx115_1)).trans hx115_1
       replace hx115_2 := (HB.out.cell (World.block_lt_of_cell? w _ hx115_2)).trans hx115_2
       replace p115 := eq_true p115
       replace q115 := eq_true q115
       have p116 : 0 ≤ (x3_1 : Int) := of_decide_eq_true Yc_
       have q116 : x3_1 < (l0.length : Int) := of_decide_eq_true Yc_
       obtain ⟨ad116, e116, hx116_0, hx116_1, hx116_2⟩ := Ez HR0.out x3_1 p116 q116
       have hw116_2 := hx116_2
       have hw116_1 := hx116_1
       have hw116_0 := hx116_0
       obtain rfl : ad113 = ad116 := (by injection e116)
       replace hx116_0 := (HB.out.cell (World.block_lt_of_cell? w _ hx116_0)).trans hx116_0
       replace hx116_1 := (HB.out.cell (World.block_lt_of_cell? w _ hx116_1)).trans hx116_1
       replace hx116_2 := (HB.out.cell (World.block_lt_of_cell? w _ hx116_2)).trans hx116_2
       replace p116 := eq_true p116
       replace q116 := eq_true q116
       refine G9 (n := 30) (S := fun w' => w'.cell? (ad113.add ((x3_1).toNat * 3)) = some (.int .i64 ((Ah l0 x3_1).f0)) ∧ w'.cell? ⟨(ad113.add ((x3_1).toNat * 3)).block, (ad113.add ((x3_1).toNat * 3)).off + 1, none⟩ = some (.int .i64 ((Ah l0 x3_1).f1)) ∧ w'.cell? ⟨(ad113.add ((x3_1).toNat * 3)).block, (ad113.add ((x3_1).toNat * 3)).off + 2, none⟩ = some (.int .i64 ((Ah l0 x3_1).f2)) ∧ w'.cell? (ad113.add ((x3_1).toNat * 3)) = some (.int .i64 ((Ah l0 x3_1).f0)) ∧ w'.cell? ⟨(ad113.add ((x3_1).toNat * 3)).block, (ad113.add ((x3_1).toNat * 3)).off + 1, none⟩ = some (.int .i64 ((Ah l0 x3_1).f1)) ∧ w'.cell? ⟨(ad113.add ((x3_1).toNat * 3)).block, (ad113.add ((x3_1).toNat * 3)).off + 2, none⟩ = some (.int .i64 ((Ah l0 x3_1).f2)) ∧ w'.cell? (ad113.add ((x3_1).toNat * 3)) = some (.int .i64 ((Ah l0 x3_1).f0)) ∧ w'.cell? ⟨(ad113.add ((x3_1).toNat * 3)).block, (ad113.add ((x3_1).toNat * 3)).off + 1, none⟩ = some (.int .i64 ((Ah l0 x3_1).f1)) ∧ w'.cell? ⟨(ad113.add ((x3_1).toNat * 3)).block, (ad113.add ((x3_1).toNat * 3)).off + 2, none⟩ = some (.int .i64 ((Ah l0 x3_1).f2))) (ds := []) #[false, false, false, false, false, false, false, false, false, false, false, false, false, false, false, false, false, false, false, false, false, false, false, false, false, false, false, false, false, false] (by kernel_rfl) rfl rfl ⟨((HB.out.cell (World.block_lt_of_cell? w _ hw113_0)).trans hw113_0), ((HB.out.cell (World.block_lt_of_cell? w _ hw113_1)).trans hw113_1), ((HB.out.cell (World.block_lt_of_cell? w _ hw113_2)).trans hw113_2), ((HB.out.cell (World.block_lt_of_cell? w _ hw115_0)).trans hw115_0), ((HB.out.cell (World.block_lt_of_cell? w _ hw115_1)).trans hw115_1), ((HB.out.cell (World.block_lt_of_cell? w _ hw115_2)).trans hw115_2), ((HB.out.cell (World.block_lt_of_cell? w _ hw116_0)).trans hw116_0), ((HB.out.cell (World.block_lt_of_cell? w _ hw116_1)).trans hw116_1), ((HB.out.cell (World.block_lt_of_cell? w _ hw116_2)).trans hw116_2)⟩ (fun hHeld => ?_); refine Ie Aq.tab4 Aq.bits4 (fun HT_ HW_ => ?_)
       generalize wr.drew = w12 at HB hx113_0 hx113_1 hx113_2 hx115_0 hx115_1 hx115_2 hx116_0 hx116_1 hx116_2 hHeld ⊢
       refine Bg (i := 0) (N := some 10) (v := ?_) (a' := ?_) #[true, false, false, false, false, false, false, false, false, false, false, false, false, false, false, false, false, false, false, false, false, false, false, false, false, false, false, false, false, false] rfl rfl (Dc HT_.out (by kernel_rfl)) (fun _ _ _ h => h) (Or.inl ⟨by rfl, ?_⟩) ?_ ?_
       rotate_left
       ·intro w'
        go_simp
        with_reducible rfl
       rotate_left
       ·simp only [Act.put, List.setIfInBounds_toArray, List.set_cons_zero, List.set_cons_succ, Aj, Ak]
        rfl
       refine Bg (i := 1) (N := some 11) (v := ?_) (a' := ?_) #[true, true, false, false, false, false, false, false, false, false, false, false, false, false, false, false, false, false, false, false, false, false, false, false, false, false, false, false, false, false] rfl rfl (Dc HT_.out (by kernel_rfl)) (fun _ _ _ h => h) (Or.inl ⟨by rfl, ?_⟩) ?_ ?_
       rotate_left
       ·intro w'
        go_simp
        with_reducible rfl
       rotate_left
       ·simp only [Act.put, List.setIfInBounds_toArray, List.set_cons_zero, List.set_cons_succ, Aj, Ak]
        rfl
       refine Bg (i := 2) (N := some 12) (v := ?_) (a' := ?_) #[true, true, true, false, false, false, false, false, false, false, false, false, false, false, false, false, false, false, false, false, false, false, false, false, false, false, false, false, false, false] rfl rfl (Dc HT_.out (by kernel_rfl)) (fun _ _ _ h => h) (Or.inl ⟨by rfl, ?_⟩) ?_ ?_
       rotate_left
       ·intro w'
        go_simp
        with_reducible rfl
       rotate_left
       ·simp only [Act.put, List.setIfInBounds_toArray, List.set_cons_zero, List.set_cons_succ, Aj, Ak]
        rfl
       refine Bg (i := 3) (N := some 13) (v := ?_) (a' := ?_) #[true, true, true, true, false, false, false, false, false, false, false, false, false, false, false, false, false, false, false, false, false, false, false, false, false, false, false, false, false, false] rfl rfl (Dc HT_.out (by kernel_rfl)) (fun _ _ _ h => h) (Or.inl ⟨by rfl, ?_⟩) ?_ ?_
       rotate_left
       ·intro w'
        go_simp
        with_reducible rfl
       rotate_left
       ·simp only [Act.put, List.setIfInBounds_toArray, List.set_cons_zero, List.set_cons_succ, Aj, Ak]
        rfl
       refine Gg (i := 4) (N := some 14) (v := ?_) (a' := ?_) #[true, true, true, true, true, false, false, false, false, false, false, false, false, false, false, false, false, false, false, false, false, false, false, false, false, false, false, false, false, false] rfl rfl (Gq HT_.out HW_.out (by kernel_rfl)) (fun _ _ _ h => h) (Or.inl ⟨by rfl, ?_⟩) hHeld ?_ ?_
       rotate_left
       ·rintro w' ⟨s0, s1, s2, s3, s4, s5, s6, s7, s8⟩
        go_simp
        with_reducible rfl
       rotate_left
       ·simp only [Act.put, List.setIfInBounds_toArray, List.set_cons_zero, List.set_cons_succ, Aj, Ak]
        rfl
       refine one_ (i := 5) (N := some 15) #[true, true, true, true, true, true, false, false, false, false, false, false, false, false, false, false, false, false, false, false, false, false, false, false, false, false, false, false, false, false] rfl rfl (H6 HT_.out (by kernel_rfl)) (by decide) (fun K hK => ?_)
       refine goes_ Try.func52 (by kernel_rfl) rfl #[.int .i64 ((Ah l0 x3_1).f0), .int .i64 0, .int .i64 240] (by rfl) rfl rfl Yb_ ?_
       with_reducible refine (Eg.calls ((Ah l0 x3_1).f0) 0 240 true _ A4.out).mono ?_
       rintro e w' ⟨rfl, ⟨nd, rfl⟩⟩
       refine ⟨_, rfl, ?_⟩
       refine hK.out _ _ ⟨((HB.out.cell (World.block_lt_of_cell? w _ hw113_0)).trans hw113_0), ((HB.out.cell (World.block_lt_of_cell? w _ hw113_1)).trans hw113_1), ((HB.out.cell (World.block_lt_of_cell? w _ hw113_2)).trans hw113_2), ((HB.out.cell (World.block_lt_of_cell? w _ hw115_0)).trans hw115_0), ((HB.out.cell (World.block_lt_of_cell? w _ hw115_1)).trans hw115_1), ((HB.out.cell (World.block_lt_of_cell? w _ hw115_2)).trans hw115_2), ((HB.out.cell (World.block_lt_of_cell? w _ hw116_0)).trans hw116_0), ((HB.out.cell (World.block_lt_of_cell? w _ hw116_1)).trans hw116_1), ((HB.out.cell (World.block_lt_of_cell? w _ hw116_2)).trans hw116_2)⟩ (fun hHeld => ?_)
       clear hK K
       refine En (a' := ?_) ?_ ?_
       rotate_left
       ·show Act.put _ (some 15) _ = _
        simp only [Act.put, List.setIfInBounds_toArray, List.set_cons_zero, List.set_cons_succ, Aj, Ak]
        rfl
       refine Bg (i := 6) (N := some 16) (v := ?_) (a' := ?_) #[true, true, true, true, true, true, true, false, false, false, false, false, false, false, false, false, false, false, false, false, false, false, false, false, false, false, false, false, false, false] rfl rfl (Dc HT_.out (by kernel_rfl)) (fun _ _ _ h => h) (Or.inl ⟨by rfl, ?_⟩) ?_ ?_
       rotate_left
       ·intro w'
        go_simp
        with_reducible rfl
       rotate_left
       ·simp only [Act.put, List.setIfInBounds_toArray, List.set_cons_zero, List.set_cons_succ, Aj, Ak]
        rfl
       refine Bg (i := 7) (N := some 17) (v := ?_) (a' := ?_) #[true, true, true, true, true, true, true, true, false, false, false, false, false, false, false, false, false, false, false, false, false, false, false, false, false, false, false, false, false, false] rfl rfl (Dc HT_.out (by kernel_rfl)) (fun _ _ _ h => h) (Or.inl ⟨by rfl, ?_⟩) ?_ ?_
       rotate_left
       ·intro w'
        go_simp
        with_reducible rfl
       rotate_left
       ·simp only [Act.put, List.setIfInBounds_toArray, List.set_cons_zero, List.set_cons_succ, Aj, Ak]
        rfl
       refine Bg (i := 8) (N := some 18) (v := ?_) (a' := ?_) #[true, true, true, true, true, true, true, true, true, false, false, false, false, false, false, false, false, false, false, false, false, false, false, false, false, false, false, false, false, false] rfl rfl (Dc HT_.out (by kernel_rfl)) (fun _ _ _ h => h) (Or.inl ⟨by rfl, ?_⟩) ?_ ?_
       rotate_left
       ·intro w'
        go_simp
        with_reducible rfl
       rotate_left
       ·simp only [Act.put, List.setIfInBounds_toArray, List.set_cons_zero, List.set_cons_succ, Aj, Ak]
        rfl
       refine Bg (i := 9) (N := some 19) (v := ?_) (a' := ?_) #[true, true, true, true, true, true, true, true, true, true, false, false, false, false, false, false, false, false, false, false, false, false, false, false, false, false, false, false, false, false] rfl rfl (Dc HT_.out (by kernel_rfl)) (fun _ _ _ h => h) (Or.inl ⟨by rfl, ?_⟩) ?_ ?_
       rotate_left
       ·intro w'
        go_simp
        with_reducible rfl
       rotate_left
       ·simp only [Act.put, List.setIfInBounds_toArray, List.set_cons_zero, List.set_cons_succ, Aj, Ak]
        rfl
       refine Bg (i := 10) (N := some 20) (v := ?_) (a' := ?_) #[true, true, true, true, true, true, true, true, true, true, true, false, false, false, false, false, false, false, false, false, false, false, false, false, false, false, false, false, false, false] rfl rfl (Dc HT_.out (by kernel_rfl)) (fun _ _ _ h => h) (Or.inl ⟨by rfl, ?_⟩) ?_ ?_
       rotate_left
       ·intro w'
        go_simp
        with_reducible rfl
       rotate_left
       ·simp only [Act.put, List.setIfInBounds_toArray, List.set_cons_zero, List.set_cons_succ, Aj, Ak]
        rfl
       refine Bg (i := 11) (N := some 21) (v := ?_) (a' := ?_) #[true, true, true, true, true, true, true, true, true, true, true, true, false, false, false, false, false, false, false, false, false, false, false, false, false, false, false, false, false, false] rfl rfl (Dc HT_.out (by kernel_rfl)) (fun _ _ _ h => h) (Or.inl ⟨by rfl, ?_⟩) ?_ ?_
       rotate_left
       ·intro w'
        go_simp
        with_reducible rfl
       rotate_left
       ·simp only [Act.put, List.setIfInBounds_toArray, List.set_cons_zero, List.set_cons_succ, Aj, Ak]
        rfl
       refine Bg (i := 13) (N := some 23) (v := ?_) (a' := ?_) #[true, true, true, true, true, true, true, true, true, true, true, true, false, true, false, false, false, false, false, false, false, false, false, false, false, false, false, false, false, false] rfl rfl (Dc HT_.out (by kernel_rfl)) (fun _ _ _ h => h) (Or.inl ⟨by rfl, ?_⟩) ?_ ?_
       rotate_left
       ·intro w'
        go_simp
        with_reducible rfl
       rotate_left
       ·simp only [Act.put, List.setIfInBounds_toArray, List.set_cons_zero, List.set_cons_succ, Aj, Ak]
        rfl
       refine Bg (i := 14) (N := some 24) (v := ?_) (a' := ?_) #[true, true, true, true, true, true, true, true, true, true, true, true, false, true, true, false, false, false, false, false, false, false, false, false, false, false, false, false, false, false] rfl rfl (Dc HT_.out (by kernel_rfl)) (fun _ _ _ h => h) (Or.inl ⟨by rfl, ?_⟩) ?_ ?_
       rotate_left
       ·intro w'
        go_simp
        with_reducible rfl
       rotate_left
       ·simp only [Act.put, List.setIfInBounds_toArray, List.set_cons_zero, List.set_cons_succ, Aj, Ak]
        rfl
       refine Bg (i := 15) (N := some 25) (v := ?_) (a' := ?_) #[true, true, true, true, true, true, true, true, true, true, true, true, false, true, true, true, false, false, false, false, false, false, false, false, false, false, false, false, false, false] rfl rfl (Dc HT_.out (by kernel_rfl)) (fun _ _ _ h => h) (Or.inl ⟨by rfl, ?_⟩) ?_ ?_
       rotate_left
       ·intro w'
        go_simp
        with_reducible rfl
       rotate_left
       ·simp only [Act.put, List.setIfInBounds_toArray, List.set_cons_zero, List.set_cons_succ, Aj, Ak]
        rfl
       refine Bg (i := 16) (N := some 26) (v := ?_) (a' := ?_) #[true, true, true, true, true, true, true, true, true, true, true, true, false, true, true, true, true, false, false, false, false, false, false, false, false, false, false, false, false, false] rfl rfl (Dc HT_.out (by kernel_rfl)) (fun _ _ _ h => h) (Or.inl ⟨by rfl, ?_⟩) ?_ ?_
       rotate_left
       ·intro w'
        go_simp
        with_reducible rfl
       rotate_left
       ·simp only [Act.put, List.setIfInBounds_toArray, List.set_cons_zero, List.set_cons_succ, Aj, Ak]
        rfl
       refine Gg (i := 12) (N := some 22) (v := ?_) (a' := ?_) #[true, true, true, true, true, true, true, true, true, true, true, true, true, true, true, true, true, false, false, false, false, false, false, false, false, false, false, false, false, false] rfl rfl (Gq HT_.out HW_.out (by kernel_rfl)) (fun _ _ _ h => h) (Or.inl ⟨by rfl, ?_⟩) hHeld ?_ ?_
       rotate_left
       ·rintro w' ⟨s0, s1, s2, s3, s4, s5, s6, s7, s8⟩
        go_simp
        with_reducible rfl
       rotate_left
       ·simp only [Act.put, List.setIfInBounds_toArray, List.set_cons_zero, List.set_cons_succ, Aj, Ak]
        rfl
       refine Gg (i := 17) (N := some 27) (v := ?_) (a' := ?_) #[true, true, true, true, true, true, true, true, true, true, true, true, true, true, true, true, true, true, false, false, false, false, false, false, false, false, false, false, false, false] rfl rfl (Gq HT_.out HW_.out (by kernel_rfl)) (fun _ _ _ h => h) (Or.inl ⟨by rfl, ?_⟩) hHeld ?_ ?_
       rotate_left
       ·rintro w' ⟨s0, s1, s2, s3, s4, s5, s6, s7, s8⟩
        go_simp
        with_reducible rfl
       rotate_left
       ·simp only [Act.put, List.setIfInBounds_toArray, List.set_cons_zero, List.set_cons_succ, Aj, Ak]
        rfl
       refine one_ (i := 18) (N := some 28) #[true, true, true, true, true, true, true, true, true, true, true, true, true, true, true, true, true, true, true, false, false, false, false, false, false, false, false, false, false, false] rfl rfl (H6 HT_.out (by kernel_rfl)) (by decide) (fun K hK => ?_)
       refine goes_ Try.func52 (by kernel_rfl) rfl #[.int .i64 ((Ah l0 x3_1).f1), .int .i64 ((Ah l0 x3_1).f0), .int .i64 240] (by rfl) rfl rfl Yb_ ?_
       with_reducible refine (Eg.calls ((Ah l0 x3_1).f1) ((Ah l0 x3_1).f0) 240 false _ A6.out).mono ?_
       rintro e w' ⟨rfl, ⟨nd, rfl⟩⟩
       refine ⟨_, rfl, ?_⟩
       refine hK.out _ _ ⟨((HB.out.cell (World.block_lt_of_cell? w _ hw113_0)).trans hw113_0), ((HB.out.cell (World.block_lt_of_cell? w _ hw113_1)).trans hw113_1), ((HB.out.cell (World.block_lt_of_cell? w _ hw113_2)).trans hw113_2), ((HB.out.cell (World.block_lt_of_cell? w _ hw115_0)).trans hw115_0), ((HB.out.cell (World.block_lt_of_cell? w _ hw115_1)).trans hw115_1), ((HB.out.cell (World.block_lt_of_cell? w _ hw115_2)).trans hw115_2), ((HB.out.cell (World.block_lt_of_cell? w _ hw116_0)).trans hw116_0), ((HB.out.cell (World.block_lt_of_cell? w _ hw116_1)).trans hw116_1), ((HB.out.cell (World.block_lt_of_cell? w _ hw116_2)).trans hw116_2)⟩ (fun hHeld => ?_)
       clear hK K
       refine En (a' := ?_) ?_ ?_
       rotate_left
       ·show Act.put _ (some 28) _ = _
        simp only [Act.put, List.setIfInBounds_toArray, List.set_cons_zero, List.set_cons_succ, Aj, Ak]
        rfl
       refine Bg (i := 19) (N := some 29) (v := ?_) (a' := ?_) #[true, true, true, true, true, true, true, true, true, true, true, true, true, true, true, true, true, true, true, true, false, false, false, false, false, false, false, false, false, false] rfl rfl (Dc HT_.out (by kernel_rfl)) (fun _ _ _ h => h) (Or.inl ⟨by rfl, ?_⟩) ?_ ?_
       rotate_left
       ·intro w'
        go_simp
        with_reducible rfl
       rotate_left
       ·simp only [Act.put, List.setIfInBounds_toArray, List.set_cons_zero, List.set_cons_succ, Aj, Ak]
        rfl
       refine Bg (i := 20) (N := some 30) (v := ?_) (a' := ?_) #[true, true, true, true, true, true, true, true, true, true, true, true, true, true, true, true, true, true, true, true, true, false, false, false, false, false, false, false, false, false] rfl rfl (Dc HT_.out (by kernel_rfl)) (fun _ _ _ h => h) (Or.inl ⟨by rfl, ?_⟩) ?_ ?_
       rotate_left
       ·intro w'
        go_simp
        with_reducible rfl
       rotate_left
       ·simp only [Act.put, List.setIfInBounds_toArray, List.set_cons_zero, List.set_cons_succ, Aj, Ak]
        rfl
       refine Bg (i := 21) (N := some 31) (v := ?_) (a' := ?_) #[true, true, true, true, true, true, true, true, true, true, true, true, true, true, true, true, true, true, true, true, true, true, false, false, false, false, false, false, false, false] rfl rfl (Dc HT_.out (by kernel_rfl)) (fun _ _ _ h => h) (Or.inl ⟨by rfl, ?_⟩) ?_ ?_
       rotate_left
       ·intro w'
        go_simp
        with_reducible rfl
       rotate_left
       ·simp only [Act.put, List.setIfInBounds_toArray, List.set_cons_zero, List.set_cons_succ, Aj, Ak]
        rfl
       refine Bg (i := 22) (N := some 32) (v := undef) (a' := ?_) #[true, true, true, true, true, true, true, true, true, true, true, true, true, true, true, true, true, true, true, true, true, true, true, false, false, false, false, false, false, false] rfl rfl (Dc HT_.out (by kernel_rfl)) (fun _ _ _ h => h) (Or.inr ⟨by rfl, rfl⟩) ?_ ?_
       rotate_left
       ·simp only [Act.put, List.setIfInBounds_toArray, List.set_cons_zero, List.set_cons_succ, Aj, Ak]
        rfl
       refine Bg (i := 23) (N := some 33) (v := undef) (a' := ?_) #[true, true, true, true, true, true, true, true, true, true, true, true, true, true, true, true, true, true, true, true, true, true, true, true, false, false, false, false, false, false] rfl rfl (Dc HT_.out (by kernel_rfl)) (fun _ _ _ h => h) (Or.inr ⟨by rfl, rfl⟩) ?_ ?_
       rotate_left
       ·simp only [Act.put, List.setIfInBounds_toArray, List.set_cons_zero, List.set_cons_succ, Aj, Ak]
        rfl
       refine Bg (i := 24) (N := some 34) (v := undef) (a' := ?_) #[true, true, true, true, true, true, true, true, true, true, true, true, true, true, true, true, true, true, true, true, true, true, true, true, true, false, false, false, false, false] rfl rfl (Dc HT_.out (by kernel_rfl)) (fun _ _ _ h => h) (Or.inr ⟨by rfl, rfl⟩) ?_ ?_
       rotate_left
       ·simp only [Act.put, List.setIfInBounds_toArray, List.set_cons_zero, List.set_cons_succ, Aj, Ak]
        rfl
       refine Bg (i := 25) (N := some 35) (v := undef) (a' := ?_) #[true, true, true, true, true, true, true, true, true, true, true, true, true, true, true, true, true, true, true, true, true, true, true, true, true, true, false, false, false, false] rfl rfl (Dc HT_.out (by kernel_rfl)) (fun _ _ _ h => h) (Or.inr ⟨by rfl, rfl⟩) ?_ ?_
       rotate_left
       ·simp only [Act.put, List.setIfInBounds_toArray, List.set_cons_zero, List.set_cons_succ, Aj, Ak]
        rfl
       refine Bg (i := 26) (N := some 36) (v := undef) (a' := ?_) #[true, true, true, true, true, true, true, true, true, true, true, true, true, true, true, true, true, true, true, true, true, true, true, true, true, true, true, false, false, false] rfl rfl (Dc HT_.out (by kernel_rfl)) (fun _ _ _ h => h) (Or.inr ⟨by rfl, rfl⟩) ?_ ?_
       rotate_left
       ·simp only [Act.put, List.setIfInBounds_toArray, List.set_cons_zero, List.set_cons_succ, Aj, Ak]
        rfl
       refine Bg (i := 27) (N := some 37) (v := undef) (a' := ?_) #[true, true, true, true, true, true, true, true, true, true, true, true, true, true, true, true, true, true, true, true, true, true, true, true, true, true, true, true, false, false] rfl rfl (Dc HT_.out (by kernel_rfl)) (fun _ _ _ h => h) (Or.inr ⟨by rfl, rfl⟩) ?_ ?_
       rotate_left
       ·simp only [Act.put, List.setIfInBounds_toArray, List.set_cons_zero, List.set_cons_succ, Aj, Ak]
        rfl
       refine Bg (i := 28) (N := some 38) (v := undef) (a' := ?_) #[true, true, true, true, true, true, true, true, true, true, true, true, true, true, true, true, true, true, true, true, true, true, true, true, true, true, true, true, true, false] rfl rfl (Dc HT_.out (by kernel_rfl)) (fun _ _ _ h => h) (Or.inr ⟨by rfl, rfl⟩) ?_ ?_
       rotate_left
       ·simp only [Act.put, List.setIfInBounds_toArray, List.set_cons_zero, List.set_cons_succ, Aj, Ak]
        rfl
       refine Bg (i := 29) (N := some 39) (v := ?_) (a' := ?_) #[true, true, true, true, true, true, true, true, true, true, true, true, true, true, true, true, true, true, true, true, true, true, true, true, true, true, true, true, true, true] rfl rfl (Dc HT_.out (by kernel_rfl)) (fun _ _ _ h => h) (Or.inl ⟨by rfl, ?_⟩) ?_ ?_
       rotate_left
       ·intro w'
        go_simp
        with_reducible rfl
       rotate_left
       ·simp only [Act.put, List.setIfInBounds_toArray, List.set_cons_zero, List.set_cons_succ, Aj, Ak]
        rfl
       refine done_ (done_of HT_.out (by kernel_rfl)) ?_
       try go_wp2
       go_ret
       exact ⟨by first | rfl | (simp [Aw, Az] <;> rfl) | (simp [*, Aw, Az] <;> rfl), by repeat (first | (with_reducible first | exact HB.out | apply Af | apply Ad | apply Ae) | exact HB.out)⟩
     ·replace c5 := Bool.eq_false_iff.mpr c5
      subst c5
      have H1 : (some false) = some r := by rw [if_neg (show ¬ (false = true) by decide)] at H; exact H
      clear H
      have H := H1
      clear H1
      obtain rfl := Option.some.inj H
      try go_wp2
      have n0_ := Aside0.mk (Ae HB.out)
      clear HB
      have HB := n0_
      clear n0_
      have p113 : 0 ≤ (x3_1 : Int) := of_decide_eq_true Yc_
      have q113 : x3_1 < (l0.length : Int) := of_decide_eq_true Yc_
      obtain ⟨ad113, e113, hx113_0, hx113_1, hx113_2⟩ := Ez HR0.out x3_1 p113 q113
      have hw113_2 := hx113_2
      have hw113_1 := hx113_1
      have hw113_0 := hx113_0
      cases e113
      replace hx113_0 := (HB.out.cell (World.block_lt_of_cell? w _ hx113_0)).trans hx113_0
      replace hx113_1 := (HB.out.cell (World.block_lt_of_cell? w _ hx113_1)).trans hx113_1
      replace hx113_2 := (HB.out.cell (World.block_lt_of_cell? w _ hx113_2)).trans hx113_2
      replace p113 := eq_true p113
      replace q113 := eq_true q113
      refine G9 (n := 30) (S := fun w' => w'.cell? (ad113.add ((x3_1).toNat * 3)) = some (.int .i64 ((Ah l0 x3_1).f0)) ∧ w'.cell? ⟨(ad113.add ((x3_1).toNat * 3)).block, (ad113.add ((x3_1).toNat * 3)).off + 1, none⟩ = some (.int .i64 ((Ah l0 x3_1).f1)) ∧ w'.cell? ⟨(ad113.add ((x3_1).toNat * 3)).block, (ad113.add ((x3_1).toNat * 3)).off + 2, none⟩ = some (.int .i64 ((Ah l0 x3_1).f2))) (ds := []) #[false, false, false, false, false, false, false, false, false, false, false, false, false, false, false, false, false, false, false, false, false, false, false, false, false, false, false, false, false, false] (by kernel_rfl) rfl rfl ⟨((HB.out.cell (World.block_lt_of_cell? w _ hw113_0)).trans hw113_0), ((HB.out.cell (World.block_lt_of_cell? w _ hw113_1)).trans hw113_1), ((HB.out.cell (World.block_lt_of_cell? w _ hw113_2)).trans hw113_2)⟩ (fun hHeld => ?_); refine Ie Aq.tab4 Aq.bits4 (fun HT_ HW_ => ?_)
      generalize wr.drew = w13 at HB hx113_0 hx113_1 hx113_2 hHeld ⊢
      refine Bg (i := 0) (N := some 10) (v := ?_) (a' := ?_) #[true, false, false, false, false, false, false, false, false, false, false, false, false, false, false, false, false, false, false, false, false, false, false, false, false, false, false, false, false, false] rfl rfl (Dc HT_.out (by kernel_rfl)) (fun _ _ _ h => h) (Or.inl ⟨by rfl, ?_⟩) ?_ ?_
      rotate_left
      ·intro w'
       go_simp
       with_reducible rfl
      rotate_left
      ·simp only [Act.put, List.setIfInBounds_toArray, List.set_cons_zero, List.set_cons_succ, Aj, Ak]
       rfl
      refine Bg (i := 1) (N := some 11) (v := ?_) (a' := ?_) #[true, true, false, false, false, false, false, false, false, false, false, false, false, false, false, false, false, false, false, false, false, false, false, false, false, false, false, false, false, false] rfl rfl (Dc HT_.out (by kernel_rfl)) (fun _ _ _ h => h) (Or.inl ⟨by rfl, ?_⟩) ?_ ?_
      rotate_left
      ·intro w'
       go_simp
       with_reducible rfl
      rotate_left
      ·simp only [Act.put, List.setIfInBounds_toArray, List.set_cons_zero, List.set_cons_succ, Aj, Ak]
       rfl
      refine Bg (i := 2) (N := some 12) (v := ?_) (a' := ?_) #[true, true, true, false, false, false, false, false, false, false, false, false, false, false, false, false, false, false, false, false, false, false, false, false, false, false, false, false, false, false] rfl rfl (Dc HT_.out (by kernel_rfl)) (fun _ _ _ h => h) (Or.inl ⟨by rfl, ?_⟩) ?_ ?_
      rotate_left
      ·intro w'
       go_simp
       with_reducible rfl
      rotate_left
      ·simp only [Act.put, List.setIfInBounds_toArray, List.set_cons_zero, List.set_cons_succ, Aj, Ak]
       rfl
      refine Bg (i := 3) (N := some 13) (v := ?_) (a' := ?_) #[true, true, true, true, false, false, false, false, false, false, false, false, false, false, false, false, false, false, false, false, false, false, false, false, false, false, false, false, false, false] rfl rfl (Dc HT_.out (by kernel_rfl)) (fun _ _ _ h => h) (Or.inl ⟨by rfl, ?_⟩) ?_ ?_
      rotate_left
      ·intro w'
       go_simp
       with_reducible rfl
      rotate_left
      ·simp only [Act.put, List.setIfInBounds_toArray, List.set_cons_zero, List.set_cons_succ, Aj, Ak]
       rfl
      refine Gg (i := 4) (N := some 14) (v := ?_) (a' := ?_) #[true, true, true, true, true, false, false, false, false, false, false, false, false, false, false, false, false, false, false, false, false, false, false, false, false, false, false, false, false, false] rfl rfl (Gq HT_.out HW_.out (by kernel_rfl)) (fun _ _ _ h => h) (Or.inl ⟨by rfl, ?_⟩) hHeld ?_ ?_
      rotate_left
      ·rintro w' ⟨s0, s1, s2⟩
       go_simp
       with_reducible rfl
      rotate_left
      ·simp only [Act.put, List.setIfInBounds_toArray, List.set_cons_zero, List.set_cons_succ, Aj, Ak]
       rfl
      refine one_ (i := 5) (N := some 15) #[true, true, true, true, true, true, false, false, false, false, false, false, false, false, false, false, false, false, false, false, false, false, false, false, false, false, false, false, false, false] rfl rfl (H6 HT_.out (by kernel_rfl)) (by decide) (fun K hK => ?_)
      refine goes_ Try.func52 (by kernel_rfl) rfl #[.int .i64 ((Ah l0 x3_1).f0), .int .i64 0, .int .i64 240] (by rfl) rfl rfl Yb_ ?_
      with_reducible refine (Eg.calls ((Ah l0 x3_1).f0) 0 240 false _ A4.out).mono ?_
      rintro e w' ⟨rfl, ⟨nd, rfl⟩⟩
      refine ⟨_, rfl, ?_⟩
      refine hK.out _ _ ⟨((HB.out.cell (World.block_lt_of_cell? w _ hw113_0)).trans hw113_0), ((HB.out.cell (World.block_lt_of_cell? w _ hw113_1)).trans hw113_1), ((HB.out.cell (World.block_lt_of_cell? w _ hw113_2)).trans hw113_2)⟩ (fun hHeld => ?_)
      clear hK K
      refine En (a' := ?_) ?_ ?_
      rotate_left
      ·show Act.put _ (some 15) _ = _
       simp only [Act.put, List.setIfInBounds_toArray, List.set_cons_zero, List.set_cons_succ, Aj, Ak]
       rfl
      refine Bg (i := 6) (N := some 16) (v := ?_) (a' := ?_) #[true, true, true, true, true, true, true, false, false, false, false, false, false, false, false, false, false, false, false, false, false, false, false, false, false, false, false, false, false, false] rfl rfl (Dc HT_.out (by kernel_rfl)) (fun _ _ _ h => h) (Or.inl ⟨by rfl, ?_⟩) ?_ ?_
      rotate_left
      ·intro w'
       go_simp
       with_reducible rfl
      rotate_left
      ·simp only [Act.put, List.setIfInBounds_toArray, List.set_cons_zero, List.set_cons_succ, Aj, Ak]
       rfl
      refine Bg (i := 7) (N := some 17) (v := ?_) (a' := ?_) #[true, true, true, true, true, true, true, true, false, false, false, false, false, false, false, false, false, false, false, false, false, false, false, false, false, false, false, false, false, false] rfl rfl (Dc HT_.out (by kernel_rfl)) (fun _ _ _ h => h) (Or.inl ⟨by rfl, ?_⟩) ?_ ?_
      rotate_left
      ·intro w'
       go_simp
       with_reducible rfl
      rotate_left
      ·simp only [Act.put, List.setIfInBounds_toArray, List.set_cons_zero, List.set_cons_succ, Aj, Ak]
       rfl
      refine Bg (i := 8) (N := some 18) (v := undef) (a' := ?_) #[true, true, true, true, true, true, true, true, true, false, false, false, false, false, false, false, false, false, false, false, false, false, false, false, false, false, false, false, false, false] rfl rfl (Dc HT_.out (by kernel_rfl)) (fun _ _ _ h => h) (Or.inr ⟨by rfl, rfl⟩) ?_ ?_
      rotate_left
      ·simp only [Act.put, List.setIfInBounds_toArray, List.set_cons_zero, List.set_cons_succ, Aj, Ak]
       rfl
      refine Bg (i := 9) (N := some 19) (v := undef) (a' := ?_) #[true, true, true, true, true, true, true, true, true, true, false, false, false, false, false, false, false, false, false, false, false, false, false, false, false, false, false, false, false, false] rfl rfl (Dc HT_.out (by kernel_rfl)) (fun _ _ _ h => h) (Or.inr ⟨by rfl, rfl⟩) ?_ ?_
      rotate_left
      ·simp only [Act.put, List.setIfInBounds_toArray, List.set_cons_zero, List.set_cons_succ, Aj, Ak]
       rfl
      refine Bg (i := 10) (N := some 20) (v := undef) (a' := ?_) #[true, true, true, true, true, true, true, true, true, true, true, false, false, false, false, false, false, false, false, false, false, false, false, false, false, false, false, false, false, false] rfl rfl (Dc HT_.out (by kernel_rfl)) (fun _ _ _ h => h) (Or.inr ⟨by rfl, rfl⟩) ?_ ?_
      rotate_left
      ·simp only [Act.put, List.setIfInBounds_toArray, List.set_cons_zero, List.set_cons_succ, Aj, Ak]
       rfl
      refine Bg (i := 11) (N := some 21) (v := undef) (a' := ?_) #[true, true, true, true, true, true, true, true, true, true, true, true, false, false, false, false, false, false, false, false, false, false, false, false, false, false, false, false, false, false] rfl rfl (Dc HT_.out (by kernel_rfl)) (fun _ _ _ h => h) (Or.inr ⟨by rfl, rfl⟩) ?_ ?_
      rotate_left
      ·simp only [Act.put, List.setIfInBounds_toArray, List.set_cons_zero, List.set_cons_succ, Aj, Ak]
       rfl
      refine Bg (i := 12) (N := some 22) (v := undef) (a' := ?_) #[true, true, true, true, true, true, true, true, true, true, true, true, true, false, false, false, false, false, false, false, false, false, false, false, false, false, false, false, false, false] rfl rfl (Dc HT_.out (by kernel_rfl)) (fun _ _ _ h => h) (Or.inr ⟨by rfl, rfl⟩) ?_ ?_
      rotate_left
      ·simp only [Act.put, List.setIfInBounds_toArray, List.set_cons_zero, List.set_cons_succ, Aj, Ak]
       rfl
      refine Bg (i := 13) (N := some 23) (v := undef) (a' := ?_) #[true, true, true, true, true, true, true, true, true, true, true, true, true, true, false, false, false, false, false, false, false, false, false, false, false, false, false, false, false, false] rfl rfl (Dc HT_.out (by kernel_rfl)) (fun _ _ _ h => h) (Or.inr ⟨by rfl, rfl⟩) ?_ ?_
      rotate_left
      ·simp only [Act.put, List.setIfInBounds_toArray, List.set_cons_zero, List.set_cons_succ, Aj, Ak]
       rfl
      refine Bg (i := 14) (N := some 24) (v := undef) (a' := ?_) #[true, true, true, true, true, true, true, true, true, true, true, true, true, true, true, false, false, false, false, false, false, false, false, false, false, false, false, false, false, false] rfl rfl (Dc HT_.out (by kernel_rfl)) (fun _ _ _ h => h) (Or.inr ⟨by rfl, rfl⟩) ?_ ?_
      rotate_left
      ·simp only [Act.put, List.setIfInBounds_toArray, List.set_cons_zero, List.set_cons_succ, Aj, Ak]
       rfl
      refine Bg (i := 15) (N := some 25) (v := undef) (a' := ?_) #[true, true, true, true, true, true, true, true, true, true, true, true, true, true, true, true, false, false, false, false, false, false, false, false, false, false, false, false, false, false] rfl rfl (Dc HT_.out (by kernel_rfl)) (fun _ _ _ h => h) (Or.inr ⟨by rfl, rfl⟩) ?_ ?_
      rotate_left
      ·simp only [Act.put, List.setIfInBounds_toArray, List.set_cons_zero, List.set_cons_succ, Aj, Ak]
       rfl
      refine Bg (i := 16) (N := some 26) (v := undef) (a' := ?_) #[true, true, true, true, true, true, true, true, true, true, true, true, true, true, true, true, true, false, false, false, false, false, false, false, false, false, false, false, false, false] rfl rfl (Dc HT_.out (by kernel_rfl)) (fun _ _ _ h => h) (Or.inr ⟨by rfl, rfl⟩) ?_ ?_
      rotate_left
      ·simp only [Act.put, List.setIfInBounds_toArray, List.set_cons_zero, List.set_cons_succ, Aj, Ak]
       rfl
      refine Bg (i := 17) (N := some 27) (v := undef) (a' := ?_) #[true, true, true, true, true, true, true, true, true, true, true, true, true, true, true, true, true, true, false, false, false, false, false, false, false, false, false, false, false, false] rfl rfl (Dc HT_.out (by kernel_rfl)) (fun _ _ _ h => h) (Or.inr ⟨by rfl, rfl⟩) ?_ ?_
      rotate_left
      ·simp only [Act.put, List.setIfInBounds_toArray, List.set_cons_zero, List.set_cons_succ, Aj, Ak]
       rfl
      refine Bg (i := 18) (N := some 28) (v := undef) (a' := ?_) #[true, true, true, true, true, true, true, true, true, true, true, true, true, true, true, true, true, true, true, false, false, false, false, false, false, false, false, false, false, false] rfl rfl (Dc HT_.out (by kernel_rfl)) (fun _ _ _ h => h) (Or.inr ⟨by rfl, rfl⟩) ?_ ?_
      rotate_left
      ·simp only [Act.put, List.setIfInBounds_toArray, List.set_cons_zero, List.set_cons_succ, Aj, Ak]
       rfl
      refine Bg (i := 19) (N := some 29) (v := undef) (a' := ?_) #[true, true, true, true, true, true, true, true, true, true, true, true, true, true, true, true, true, true, true, true, false, false, false, false, false, false, false, false, false, false] rfl rfl (Dc HT_.out (by kernel_rfl)) (fun _ _ _ h => h) (Or.inr ⟨by rfl, rfl⟩) ?_ ?_
      rotate_left
      ·simp only [Act.put, List.setIfInBounds_toArray, List.set_cons_zero, List.set_cons_succ, Aj, Ak]
       rfl
      refine Bg (i := 20) (N := some 30) (v := ?_) (a' := ?_) #[true, true, true, true, true, true, true, true, true, true, true, true, true, true, true, true, true, true, true, true, true, false, false, false, false, false, false, false, false, false] rfl rfl (Dc HT_.out (by kernel_rfl)) (fun _ _ _ h => h) (Or.inl ⟨by rfl, ?_⟩) ?_ ?_
      rotate_left
      ·intro w'
       go_simp
       with_reducible rfl
      rotate_left
      ·simp only [Act.put, List.setIfInBounds_toArray, List.set_cons_zero, List.set_cons_succ, Aj, Ak]
       rfl
      refine Bg (i := 21) (N := some 31) (v := ?_) (a' := ?_) #[true, true, true, true, true, true, true, true, true, true, true, true, true, true, true, true, true, true, true, true, true, true, false, false, false, false, false, false, false, false] rfl rfl (Dc HT_.out (by kernel_rfl)) (fun _ _ _ h => h) (Or.inl ⟨by rfl, ?_⟩) ?_ ?_
      rotate_left
      ·intro w'
       go_simp
       with_reducible rfl
      rotate_left
      ·simp only [Act.put, List.setIfInBounds_toArray, List.set_cons_zero, List.set_cons_succ, Aj, Ak]
       rfl
      refine Bg (i := 22) (N := some 32) (v := undef) (a' := ?_) #[true, true, true, true, true, true, true, true, true, true, true, true, true, true, true, true, true, true, true, true, true, true, true, false, false, false, false, false, false, false] rfl rfl (Dc HT_.out (by kernel_rfl)) (fun _ _ _ h => h) (Or.inr ⟨by rfl, rfl⟩) ?_ ?_
      rotate_left
      ·simp only [Act.put, List.setIfInBounds_toArray, List.set_cons_zero, List.set_cons_succ, Aj, Ak]
       rfl
      refine Bg (i := 23) (N := some 33) (v := undef) (a' := ?_) #[true, true, true, true, true, true, true, true, true, true, true, true, true, true, true, true, true, true, true, true, true, true, true, true, false, false, false, false, false, false] rfl rfl (Dc HT_.out (by kernel_rfl)) (fun _ _ _ h => h) (Or.inr ⟨by rfl, rfl⟩) ?_ ?_
      rotate_left
      ·simp only [Act.put, List.setIfInBounds_toArray, List.set_cons_zero, List.set_cons_succ, Aj, Ak]
       rfl
      refine Bg (i := 24) (N := some 34) (v := undef) (a' := ?_) #[true, true, true, true, true, true, true, true, true, true, true, true, true, true, true, true, true, true, true, true, true, true, true, true, true, false, false, false, false, false] rfl rfl (Dc HT_.out (by kernel_rfl)) (fun _ _ _ h => h) (Or.inr ⟨by rfl, rfl⟩) ?_ ?_
      rotate_left
      ·simp only [Act.put, List.setIfInBounds_toArray, List.set_cons_zero, List.set_cons_succ, Aj, Ak]
       rfl
      refine Bg (i := 25) (N := some 35) (v := undef) (a' := ?_) #[true, true, true, true, true, true, true, true, true, true, true, true, true, true, true, true, true, true, true, true, true, true, true, true, true, true, false, false, false, false] rfl rfl (Dc HT_.out (by kernel_rfl)) (fun _ _ _ h => h) (Or.inr ⟨by rfl, rfl⟩) ?_ ?_
      rotate_left
      ·simp only [Act.put, List.setIfInBounds_toArray, List.set_cons_zero, List.set_cons_succ, Aj, Ak]
       rfl
      refine Bg (i := 26) (N := some 36) (v := undef) (a' := ?_) #[true, true, true, true, true, true, true, true, true, true, true, true, true, true, true, true, true, true, true, true, true, true, true, true, true, true, true, false, false, false] rfl rfl (Dc HT_.out (by kernel_rfl)) (fun _ _ _ h => h) (Or.inr ⟨by rfl, rfl⟩) ?_ ?_
      rotate_left
      ·simp only [Act.put, List.setIfInBounds_toArray, List.set_cons_zero, List.set_cons_succ, Aj, Ak]
       rfl
      refine Bg (i := 27) (N := some 37) (v := undef) (a' := ?_) #[true, true, true, true, true, true, true, true, true, true, true, true, true, true, true, true, true, true, true, true, true, true, true, true, true, true, true, true, false, false] rfl rfl (Dc HT_.out (by kernel_rfl)) (fun _ _ _ h => h) (Or.inr ⟨by rfl, rfl⟩) ?_ ?_
      rotate_left
      ·simp only [Act.put, List.setIfInBounds_toArray, List.set_cons_zero, List.set_cons_succ, Aj, Ak]
       rfl
      refine Bg (i := 28) (N := some 38) (v := undef) (a' := ?_) #[true, true, true, true, true, true, true, true, true, true, true, true, true, true, true, true, true, true, true, true, true, true, true, true, true, true, true, true, true, false] rfl rfl (Dc HT_.out (by kernel_rfl)) (fun _ _ _ h => h) (Or.inr ⟨by rfl, rfl⟩) ?_ ?_
      rotate_left
      ·simp only [Act.put, List.setIfInBounds_toArray, List.set_cons_zero, List.set_cons_succ, Aj, Ak]
       rfl
      refine Bg (i := 29) (N := some 39) (v := ?_) (a' := ?_) #[true, true, true, true, true, true, true, true, true, true, true, true, true, true, true, true, true, true, true, true, true, true, true, true, true, true, true, true, true, true] rfl rfl (Dc HT_.out (by kernel_rfl)) (fun _ _ _ h => h) (Or.inl ⟨by rfl, ?_⟩) ?_ ?_
      rotate_left
      ·intro w'
       go_simp
       with_reducible rfl
      rotate_left
      ·simp only [Act.put, List.setIfInBounds_toArray, List.set_cons_zero, List.set_cons_succ, Aj, Ak]
       rfl
      refine done_ (done_of HT_.out (by kernel_rfl)) ?_
      try go_wp2
      go_ret
      exact ⟨by first | rfl | (simp [Aw, Az] <;> rfl) | (simp [*, Aw, Az] <;> rfl), by repeat (first | (with_reducible first | exact HB.out | apply Af | apply Ad | apply Ae) | exact HB.out)⟩
    ·rw [if_neg c3] at H
     exact absurd H (by simp)
   ·rw [if_neg c2] at H
    have c2b0 : decide (x3_1 < (l0.length : Int)) = false := decide_eq_false c2
    clear c2
    obtain rfl := Option.some.inj H
    go_wp2
    go_ret
    exact ⟨by first | rfl | (simp [Aw, Az] <;> rfl) | (simp [*, Aw, Az] <;> rfl), by repeat (first | (with_reducible first | exact HB.out | apply Af | apply Ad | apply Ae) | exact HB.out)⟩
end Go.Proofs.Ytolaplcjbmjlmaa.X

namespace Go.Proofs.Ytolaplcjbmjlmaa.X
open Go.RowKit Go.Proofs.YtolaplcjbmjlmaaW.PrintWords Go.Proofs.YtolaplcjbmjlmaaW.PrintLast Go.Proofs.YtolaplcjbmjlmaaW.PrintMore
attribute [local go_sem] max2_int min2_int max_two min_two max_three min_three max_four min_four
def Gx.f (a0 : Int) (a1 : Int) : Option (Int) := if a0 > a1 then (some a0) else (some a1)
set_option maxHeartbeats 8000000 in
set_option maxRecDepth 100000 in
theorem Gx.calls (a0 : Int) (a1 : Int) (r : Int) (w : World) (h : Gx.f a0 a1 = some r) :
  Calls Try.prog 87 #[.int .i64 a0, .int .i64 a1] w fun e w' => e = .returned (.int .i64 r) ∧ Drawn0 w w' := by
 have H : (if a0 > a1 then (some a0) else (some a1)) = some r := h
 clear h
 by_cases c3 : a0 > a1
 ·rw [if_pos c3] at H
  have c3b0 : decide (a1 < a0) = true := decide_eq_true c3
  clear c3
  obtain rfl := Option.some.inj H
  go_enter Try.func87, Try.ntmps87
  go_wp2
  go_ret
  exact ⟨by first | rfl | (simp; done) | (simp [*]; done), by repeat (first | exact Drawn0.refl _ | apply Drawn0.step)⟩
 ·rw [if_neg c3] at H
  have c3b0 : decide (a1 < a0) = false := decide_eq_false c3
  clear c3
  obtain rfl := Option.some.inj H
  go_enter Try.func87, Try.ntmps87
  go_wp2
  go_ret
  exact ⟨by first | rfl | (simp; done) | (simp [*]; done), by repeat (first | exact Drawn0.refl _ | apply Drawn0.step)⟩
end Go.Proofs.Ytolaplcjbmjlmaa.X

namespace Go.Proofs.Ytolaplcjbmjlmaa.X
open Go.RowKit Go.Proofs.YtolaplcjbmjlmaaW.PrintWords Go.Proofs.YtolaplcjbmjlmaaW.PrintLast Go.Proofs.YtolaplcjbmjlmaaW.PrintMore
attribute [local go_sem] max2_int min2_int max_two min_two max_three min_three max_four min_four
def Ea.l0 : Nat → Int → Int → Option (Int)
 | 0, _, _ => none
 | k + 1, x0, x1 => if x1 = 0 then (some x0) else (Ea.l0 k x1 (Int.tmod x0 x1))
def Ea.f (k : Nat) (a0 : Int) (a1 : Int) : Option (Int) := (Gx.f a0 (wrap64 (-a0))).bind fun t199 => ((Gx.f a1 (wrap64 (-a1))).bind fun t200 => (Ea.l0 k t199 t200))
theorem Ea.Dq : ∀ k, (∀ y0 y1, LeO (Ea.l0 k y0 y1) (Ea.l0 (k + 1) y0 y1))
 | 0 => fun _ _ r h => by simp [Ea.l0] at h
 | k + 1 => by
  have ih0 := Ea.Dq k
  ·intro y0 y1
   unfold Ea.l0
   repeat' first
   | (with_reducible exact ih0 _ _)
   | (with_reducible exact LeO.refl _)
   | (with_reducible exact LeO.none _)
   | (with_reducible refine LeO.ite ?_ ?_)
   | (with_reducible refine LeO.bind ?_ (fun _ => ?_))
   | exact ih0 _ _
   | exact LeO.none _
   | refine LeO.ite ?_ ?_
   | refine LeO.bind ?_ (fun _ => ?_)
theorem Ea.mono : ∀ a0 a1 k, LeO (Ea.f k a0 a1) (Ea.f (k + 1) a0 a1) := by
 intro a0 a1 k
 have ih0 := Ea.Dq k
 unfold Ea.f
 repeat' first
   | (with_reducible exact ih0 _ _)
   | (with_reducible exact LeO.refl _)
   | (with_reducible exact LeO.none _)
   | (with_reducible refine LeO.ite ?_ ?_)
   | (with_reducible refine LeO.bind ?_ (fun _ => ?_))
   | exact ih0 _ _
   | exact LeO.none _
   | refine LeO.ite ?_ ?_
   | refine LeO.bind ?_ (fun _ => ?_)
set_option maxHeartbeats 8000000 in
set_option maxRecDepth 100000 in
theorem Ea.calls (k : Nat) (a0 : Int) (a1 : Int) (r : Int) (w : World) (h : Ea.f k a0 a1 = some r) :
  Calls Try.prog 80 #[.int .i64 a0, .int .i64 a1] w fun e w' => e = .returned (.int .i64 r) ∧ Drawn0 w w' := by
 have H : ((Gx.f a0 (wrap64 (-a0))).bind fun t199 => ((Gx.f a1 (wrap64 (-a1))).bind fun t200 => (Ea.l0 k t199 t200))) = some r := h
 clear h
 replace H := Option.bind_eq_some_iff.mp H
 obtain ⟨t199, A30, H⟩ := H
 replace H : ((Gx.f a1 (wrap64 (-a1))).bind fun t200 => (Ea.l0 k t199 t200)) = some r := H
 have A3 := Aside0.mk A30
 clear A30
 replace H := Option.bind_eq_some_iff.mp H
 obtain ⟨t200, A40, H⟩ := H
 replace H : (Ea.l0 k t199 t200) = some r := H
 have A4 := Aside0.mk A40
 clear A40
 have H' := Aside0.mk H
 clear H
 go_enter Try.func80, Try.ntmps80
 go_wp2_with (first | ((with_reducible refine gate_callee (f := 87) rfl ?_); refine goesL_ (some 9) rfl rfl Try.func87 (by kernel_rfl) rfl #[.int .i64 a0, .int .i64 (wrap64 (-a0))] rfl Yb_ ?_; (with_reducible refine (Gx.calls a0 (wrap64 (-a0)) t199 _ A3.out).mono ?_); rintro e w' ⟨rfl, ⟨nd, rfl⟩⟩; refine ⟨_, rfl, ?_⟩) | ((with_reducible refine gate_callee (f := 87) rfl ?_); refine goesL_ (some 13) rfl rfl Try.func87 (by kernel_rfl) rfl #[.int .i64 a1, .int .i64 (wrap64 (-a1))] rfl Yb_ ?_; (with_reducible refine (Gx.calls a1 (wrap64 (-a1)) t200 _ A4.out).mono ?_); rintro e w' ⟨rfl, ⟨nd, rfl⟩⟩; refine ⟨_, rfl, ?_⟩))
 go_loopg [0, 1] k (fun kq v0 v1 w' => ∃ (x0_1 : Int) (x1_1 : Int), v0 = .int .i64 x0_1 ∧ v1 = .int .i64 x1_1 ∧ Aside0 (Ea.l0 kq x0_1 x1_1 = some r) ∧ Aside0 (kq ≤ k) ∧ Drawn0 w w')
 case atStart => exact ⟨(t199), (t200), Yd_, Yd_, H', ⟨Nat.le_refl _⟩, by repeat (first | exact Drawn0.refl _ | apply Drawn0.step)⟩
 case round =>
  clear H'
  try clear p2
  obtain ⟨x0_1, x1_1, rfl, rfl, HA, HK1, ⟨m1, rfl⟩⟩ := hrel
  cases gk with
  | zero => exact absurd HA.out (by simp [Ea.l0])
  | succ k1 =>
   have H := HA.out
   clear HA
   simp only [Ea.l0] at H
   by_cases c5 : x1_1 = 0
   ·rw [if_pos c5] at H
    have c5b0 : (x1_1 == 0) = true := beq_iff_eq.mpr c5
    have c5b1 : (x1_1 != 0) = false := bne_eq_false_iff_eq.mpr c5
    clear c5
    obtain rfl := Option.some.inj H
    go_wp2
    go_ret
    exact ⟨by first | rfl | (simp; done) | (simp [*]; done), by repeat (first | exact Drawn0.refl _ | apply Drawn0.step)⟩
   ·rw [if_neg c5] at H
    have c5b0 : (x1_1 == 0) = false := beq_eq_false_iff_ne.mpr c5
    have c5b1 : (x1_1 != 0) = true := bne_iff_ne.mpr c5
    have H' := Aside0.mk H
    clear H
    go_wp2
    go_roundg k1
    case measure => have := HK1.out; omega
    case rel => exact ⟨(x1_1), (Int.tmod x0_1 x1_1), Yd_, Yd_, H', ⟨by have := HK1.out; omega⟩, by repeat (first | exact Drawn0.refl _ | apply Drawn0.step)⟩
end Go.Proofs.Ytolaplcjbmjlmaa.X

namespace Go.Proofs.Ytolaplcjbmjlmaa.X
open Go.RowKit Go.Proofs.YtolaplcjbmjlmaaW.PrintWords Go.Proofs.YtolaplcjbmjlmaaW.PrintLast Go.Proofs.YtolaplcjbmjlmaaW.PrintMore
attribute [local go_sem] max2_int min2_int max_two min_two max_three min_three max_four min_four
def Dk.f (k : Nat) (a0 : Int) (a1 : Int) : Option (Int × Int) := (Ea.f k a0 a1).bind fun t201 => (if t201 = 0 then (none) else (some (wrap64 (Int.tdiv a0 t201), wrap64 (Int.tdiv a1 t201))))
theorem Dk.mono : ∀ a0 a1 k, LeO (Dk.f k a0 a1) (Dk.f (k + 1) a0 a1) := by
 intro a0 a1 k
 unfold Dk.f
 repeat' first
   | (with_reducible exact Ea.mono _ _ _)
   | (with_reducible exact LeO.refl _)
   | (with_reducible exact LeO.none _)
   | (with_reducible refine LeO.ite ?_ ?_)
   | (with_reducible refine LeO.bind ?_ (fun _ => ?_))
   | exact Ea.mono _ _ _
   | exact LeO.none _
   | refine LeO.ite ?_ ?_
   | refine LeO.bind ?_ (fun _ => ?_)
set_option maxHeartbeats 8000000 in
set_option maxRecDepth 100000 in
theorem Dk.calls (k : Nat) (a0 : Int) (a1 : Int) (r1 : Int) (r2 : Int) (w : World) (h : Dk.f k a0 a1 = some (r1, r2)) :
  Calls Try.prog 61 #[.int .i64 a0, .int .i64 a1] w fun e w' => e = .returned (.tuple #[.int .i64 r1, .int .i64 r2]) ∧ Drawn0 w w' := by
 have H : ((Ea.f k a0 a1).bind fun t201 => (if t201 = 0 then (none) else (some (wrap64 (Int.tdiv a0 t201), wrap64 (Int.tdiv a1 t201))))) = some (r1, r2) := h
 clear h
 replace H := Option.bind_eq_some_iff.mp H
 obtain ⟨t201, A30, H⟩ := H
 replace H : (if t201 = 0 then (none) else (some (wrap64 (Int.tdiv a0 t201), wrap64 (Int.tdiv a1 t201)))) = some (r1, r2) := H
 have A3 := Aside0.mk A30
 clear A30
 by_cases c4 : t201 = 0
 ·rw [if_pos c4] at H
  exact absurd H (by simp)
 ·rw [if_neg c4] at H
  have c4b0 : (t201 == 0) = false := beq_eq_false_iff_ne.mpr c4
  have c4b1 : (t201 != 0) = true := bne_iff_ne.mpr c4
  simp only [Option.some.injEq, Prod.mk.injEq] at H
  obtain ⟨rfl, rfl⟩ := H
  go_enter Try.func61, Try.ntmps61
  go_wp2_with (first | (go_at_call 80; (with_reducible refine (Ea.calls k a0 a1 t201 _ A3.out).mono ?_); rintro e w' ⟨rfl, ⟨nd, rfl⟩⟩; (try first | exact ⟨rfl, _, World.drewN_drewN _ _ _⟩ | exact ⟨rfl, _, Eq.trans (World.drewN_drewN _ _ _) (congrArg (World.drewN _) (Nat.add_assoc _ _ _))⟩)))
  repeat (go_quiet (first | (go_at_call 80; (with_reducible refine (Ea.calls k a0 a1 t201 _ A3.out).mono ?_); rintro e w' ⟨rfl, ⟨nd, rfl⟩⟩; (try first | exact ⟨rfl, _, World.drewN_drewN _ _ _⟩ | exact ⟨rfl, _, Eq.trans (World.drewN_drewN _ _ _) (congrArg (World.drewN _) (Nat.add_assoc _ _ _))⟩))); try go_wp2_with (first | (go_at_call 80; (with_reducible refine (Ea.calls k a0 a1 t201 _ A3.out).mono ?_); rintro e w' ⟨rfl, ⟨nd, rfl⟩⟩; (try first | exact ⟨rfl, _, World.drewN_drewN _ _ _⟩ | exact ⟨rfl, _, Eq.trans (World.drewN_drewN _ _ _) (congrArg (World.drewN _) (Nat.add_assoc _ _ _))⟩))))
  go_ret2
  exact ⟨by first | rfl | (simp; done) | (simp [*]; done), by repeat (first | exact Drawn0.refl _ | apply Drawn0.step)⟩
end Go.Proofs.Ytolaplcjbmjlmaa.X

namespace Go.Proofs.Ytolaplcjbmjlmaa.X
open Go.RowKit Go.Proofs.YtolaplcjbmjlmaaW.PrintWords Go.Proofs.YtolaplcjbmjlmaaW.PrintLast Go.Proofs.YtolaplcjbmjlmaaW.PrintMore
attribute [local go_sem] max2_int min2_int max_two min_two max_three min_three max_four min_four
def Cj.l0 : Nat → List (S59) → List Int → Int → Option (List Int)
 | 0, _, _, _ => none
 | k + 1, x0, x3, x4 => if x4 < (x0.length : Int) then (if 0 ≤ x4 then (if x3.length < 17592186044416 then (Cj.l0 k x0 (x3 ++ [wrap64 (((Ah x0 x4).f1) - ((Ah x0 x4).f0))]) (wrap64 (x4 + 1))) else (none)) else (none)) else (some x3)
def Cj.f (k : Nat) (l0 : List (S59)) : Option (List Int) := Cj.l0 k l0 (([] : List Int)) 0
theorem Cj.Dq : ∀ k, (∀ y0 y1 y2, LeO (Cj.l0 k y0 y1 y2) (Cj.l0 (k + 1) y0 y1 y2))
 | 0 => fun _ _ _ r h => by simp [Cj.l0] at h
 | k + 1 => by
  have ih0 := Cj.Dq k
  ·intro y0 y1 y2
   unfold Cj.l0
   repeat' first
   | (with_reducible exact ih0 _ _ _)
   | (with_reducible exact LeO.refl _)
   | (with_reducible exact LeO.none _)
   | (with_reducible refine LeO.ite ?_ ?_)
   | (with_reducible refine LeO.bind ?_ (fun _ => ?_))
   | exact ih0 _ _ _
   | exact LeO.none _
   | refine LeO.ite ?_ ?_
   | refine LeO.bind ?_ (fun _ => ?_)
theorem Cj.mono : ∀ a0 k, LeO (Cj.f k a0) (Cj.f (k + 1) a0) := by
 intro a0 k
 have ih0 := Cj.Dq k
 unfold Cj.f
 repeat' first
   | (with_reducible exact ih0 _ _ _)
   | (with_reducible exact LeO.refl _)
   | (with_reducible exact LeO.none _)
   | (with_reducible refine LeO.ite ?_ ?_)
   | (with_reducible refine LeO.bind ?_ (fun _ => ?_))
   | exact ih0 _ _ _
   | exact LeO.none _
   | refine LeO.ite ?_ ?_
   | refine LeO.bind ?_ (fun _ => ?_)
def Cj.T5 : Bool × List (List Nat × List Nat) := (true, [([], []), ([], []), ([], []), ([1, 2], [1, 2]), ([3], [3]), ([4], [4]), ([], []), ([], []), ([6, 7], [6, 7]), ([8], [8]), ([9], [9]), ([5, 10], [5, 10]), ([11], [11]), ([0, 12], [0, 12]), ([13, 13, 0, 1, 2, 3, 4, 5, 6, 7, 8, 9, 10, 11, 12, 13], [0, 13])])
def Cj.B5 : List Nat := [0, 0, 0, 6, 14, 30, 0, 0, 192, 448, 960, 2046, 4094, 8191, 16383]
theorem Cj.tab5 : rtab .any (opsOf Try.f63 5) = Cj.T5 := by kernel_rfl
theorem Cj.bits5 : waitsOk Cj.T5.2 Cj.B5 = true := by kernel_rfl
set_option maxHeartbeats 8000000 in
set_option maxRecDepth 100000 in
theorem Cj.calls (k : Nat) (A0 : Option Addr) (c0 : Nat) (l0 : List (S59)) (r : List Int) (w : World) (hr0 : Kd.C k59 w A0 l0.length l0) (hc0 : l0.length ≤ c0) (h : Cj.f k l0 = some r) :
  Calls Try.prog 63 #[.slice A0 l0.length c0] w fun e w' => ∃ v0_ : Value, e = .returned (v0_) ∧ Kd.R (Kd.int .i64) 3 w' w.heap.size (fun _ => True) v0_ r ∧ Below w.heap.size w w' := by
 have HR0 := Aside0.mk hr0
 have HC0 := Aside0.mk hc0
 clear hr0 hc0
 have HB := Aside0.mk (Below.refl w.heap.size w)
 have H : (Cj.l0 k l0 (([] : List Int)) 0) = some r := h
 clear h
 obtain ⟨y230, hy230⟩ : ∃ y_ : List Int, y_ = (([] : List Int)) := ⟨_, rfl⟩
 replace H : (Cj.l0 k l0 y230 0) = some r := by first | (rw [hy230]; with_reducible exact H) | (have H2_ := (Option.bind_some _ _).symm.trans H; rw [hy230]; with_reducible exact H2_) | (have H2_ := (Option.bind_some _ _).symm.trans H; with_reducible exact H2_) | with_reducible exact H | (rw [hy230]; exact H) | exact H
 have Ny230 := Aside0.mk hy230
 clear hy230
 have H' := Aside0.mk H
 clear H
 go_enter Try.func63, Try.ntmps63
 go_wp2_with (first | ((with_reducible refine gate_dst (N := 5) rfl ?_); refine Kd.R_lit (Kd.int .i64) _ 3 ?hg (N := 5) ?hd (xs := ([] : List Int)) (inner := []) (ok := fun _ => True) (okp := fun _ => True) ?hr ?hp (fun _ hk => hk) trivial (Below.refl _ _) (Nat.le_refl _) (by simp) ?_; (case hd => rfl); (case hg => rfl); (case hr => first | (go_simp; done) | (go_simp; rfl)); (case hp => exact (Dw.none _ _)); intro v231 w2 ho3 hb hg_ hnew_; clear hg_ hnew_; (first | rw [← Ny230.out] at ho3 | (simp only [Int.reduceToNat] at ho3; rw [← Ny230.out] at ho3)); have n0_ := Aside0.mk (Kd.R_lower ho3 (below_size Ya_)); have n1_ := Aside0.mk (below_step Ya_ hb); clear HB; have HO232 := n0_; have HB := n1_; clear n0_ n1_; clear hb ho3))
 go_loopg [3, 4] k (fun kq v3 v4 w' => ∃ (x3_1 : List Int) (x4_1 : Int), v4 = .int .i64 x4_1 ∧ Aside0 (Cj.l0 kq l0 x3_1 x4_1 = some r) ∧ Aside0 (kq ≤ k) ∧ Aside0 (Kd.R (Kd.int .i64) 3 w' w.heap.size (fun _ => True) v3 x3_1) ∧ Aside0 (Below w.heap.size w w'))
 case atStart => exact ⟨(y230), (0), Yd_, H', ⟨Nat.le_refl _⟩, ⟨by (with_reducible repeat (first | apply Kd.Ap | apply Kd.Am | apply Kd.Ba)); exact HO232.out⟩, ⟨by repeat (first | (with_reducible first | exact HB.out | apply Af | apply Ad | apply Ae) | exact HB.out)⟩⟩
 case round =>
  clear H'
  try clear p2
  obtain ⟨x3_1, x4_1, rfl, HA, HK1, HO_3, HB⟩ := hrel
  cases gk with
  | zero => exact absurd HA.out (by simp [Cj.l0])
  | succ k1 =>
   have H := HA.out
   clear HA
   simp only [Cj.l0] at H
   by_cases c4 : x4_1 < (l0.length : Int)
   ·rw [if_pos c4] at H
    have c4b0 : decide (x4_1 < (l0.length : Int)) = true := decide_eq_true c4
    clear c4
    by_cases c5 : 0 ≤ x4_1
    ·rw [if_pos c5] at H
     have c5b0 : decide (0 ≤ x4_1) = true := decide_eq_true c5
     clear c5
     by_cases c6 : x3_1.length < 17592186044416
     ·rw [if_pos c6] at H
      have LMc6 := Aside0.mk c6
      clear c6
      obtain ⟨y235, hy235⟩ : ∃ y_ : List Int, y_ = (x3_1 ++ [wrap64 (((Ah l0 x4_1).f1) - ((Ah l0 x4_1).f0))]) := ⟨_, rfl⟩
      replace H : (Cj.l0 k1 l0 y235 (wrap64 (x4_1 + 1))) = some r := by first | (rw [hy235]; with_reducible exact H) | (have H2_ := (Option.bind_some _ _).symm.trans H; rw [hy235]; with_reducible exact H2_) | (have H2_ := (Option.bind_some _ _).symm.trans H; with_reducible exact H2_) | with_reducible exact H | (rw [hy235]; exact H) | exact H
      have Ny235 := Aside0.mk hy235
      clear hy235
      have H' := Aside0.mk H
      clear H
      try go_wp2
      have n0_ := Aside0.mk (Kd.Ba HO_3.out)
      have n1_ := Aside0.mk (Ae HB.out)
      clear HO_3
      clear HB
      have HO_3 := n0_
      have HB := n1_
      clear n0_ n1_
      have p233 : 0 ≤ (x4_1 : Int) := of_decide_eq_true Yc_
      have q233 : x4_1 < (l0.length : Int) := of_decide_eq_true Yc_
      obtain ⟨ad233, e233, hx233_0, hx233_1, hx233_2⟩ := Ez HR0.out x4_1 p233 q233
      have hw233_2 := hx233_2
      have hw233_1 := hx233_1
      have hw233_0 := hx233_0
      cases e233
      replace hx233_0 := (HB.out.cell (World.block_lt_of_cell? w _ hx233_0)).trans hx233_0
      replace hx233_1 := (HB.out.cell (World.block_lt_of_cell? w _ hx233_1)).trans hx233_1
      replace hx233_2 := (HB.out.cell (World.block_lt_of_cell? w _ hx233_2)).trans hx233_2
      replace p233 := eq_true p233
      replace q233 := eq_true q233
      have p234 : 0 ≤ (x4_1 : Int) := of_decide_eq_true Yc_
      have q234 : x4_1 < (l0.length : Int) := of_decide_eq_true Yc_
      obtain ⟨ad234, e234, hx234_0, hx234_1, hx234_2⟩ := Ez HR0.out x4_1 p234 q234
      have hw234_2 := hx234_2
      have hw234_1 := hx234_1
      have hw234_0 := hx234_0
      obtain rfl : ad233 = ad234 := (by injection e234)
      replace hx234_0 := (HB.out.cell (World.block_lt_of_cell? w _ hx234_0)).trans hx234_0
      replace hx234_1 := (HB.out.cell (World.block_lt_of_cell? w _ hx234_1)).trans hx234_1
      replace hx234_2 := (HB.out.cell (World.block_lt_of_cell? w _ hx234_2)).trans hx234_2
      replace p234 := eq_true p234
      replace q234 := eq_true q234
      refine G9 (n := 15) (S := fun w' => w'.cell? (ad233.add ((x4_1).toNat * 3)) = some (.int .i64 ((Ah l0 x4_1).f0)) ∧ w'.cell? ⟨(ad233.add ((x4_1).toNat * 3)).block, (ad233.add ((x4_1).toNat * 3)).off + 1, none⟩ = some (.int .i64 ((Ah l0 x4_1).f1)) ∧ w'.cell? ⟨(ad233.add ((x4_1).toNat * 3)).block, (ad233.add ((x4_1).toNat * 3)).off + 2, none⟩ = some (.int .i64 ((Ah l0 x4_1).f2)) ∧ w'.cell? (ad233.add ((x4_1).toNat * 3)) = some (.int .i64 ((Ah l0 x4_1).f0)) ∧ w'.cell? ⟨(ad233.add ((x4_1).toNat * 3)).block, (ad233.add ((x4_1).toNat * 3)).off + 1, none⟩ = some (.int .i64 ((Ah l0 x4_1).f1)) ∧ w'.cell? ⟨(ad233.add ((x4_1).toNat * 3)).block, (ad233.add ((x4_1).toNat * 3)).off + 2, none⟩ = some (.int .i64 ((Ah l0 x4_1).f2))) (ds := []) #[false, false, false, false, false, false, false, false, false, false, false, false, false, false, false] (by kernel_rfl) rfl rfl ⟨((HB.out.cell (World.block_lt_of_cell? w _ hw233_0)).trans hw233_0), ((HB.out.cell (World.block_lt_of_cell? w _ hw233_1)).trans hw233_1), ((HB.out.cell (World.block_lt_of_cell? w _ hw233_2)).trans hw233_2), ((HB.out.cell (World.block_lt_of_cell? w _ hw234_0)).trans hw234_0), ((HB.out.cell (World.block_lt_of_cell? w _ hw234_1)).trans hw234_1), ((HB.out.cell (World.block_lt_of_cell? w _ hw234_2)).trans hw234_2)⟩ (fun hHeld => ?_); refine Ie Cj.tab5 Cj.bits5 (fun HT_ HW_ => ?_)
      generalize wr.drew = w7 at HO_3 HB hx233_0 hx233_1 hx233_2 hx234_0 hx234_1 hx234_2 hHeld ⊢
      refine Bg (i := 0) (N := some 12) (v := ?_) (a' := ?_) #[true, false, false, false, false, false, false, false, false, false, false, false, false, false, false] rfl rfl (Dc HT_.out (by kernel_rfl)) (fun _ _ _ h => h) (Or.inl ⟨by rfl, ?_⟩) ?_ ?_
      rotate_left
      ·intro w'
       go_simp
       with_reducible rfl
      rotate_left
      ·simp only [Act.put, List.setIfInBounds_toArray, List.set_cons_zero, List.set_cons_succ, Aj, Ak]
       rfl
      refine Bg (i := 1) (N := some 13) (v := ?_) (a' := ?_) #[true, true, false, false, false, false, false, false, false, false, false, false, false, false, false] rfl rfl (Dc HT_.out (by kernel_rfl)) (fun _ _ _ h => h) (Or.inl ⟨by rfl, ?_⟩) ?_ ?_
      rotate_left
      ·intro w'
       go_simp
       with_reducible rfl
      rotate_left
      ·simp only [Act.put, List.setIfInBounds_toArray, List.set_cons_zero, List.set_cons_succ, Aj, Ak]
       rfl
      refine Bg (i := 2) (N := some 14) (v := ?_) (a' := ?_) #[true, true, true, false, false, false, false, false, false, false, false, false, false, false, false] rfl rfl (Dc HT_.out (by kernel_rfl)) (fun _ _ _ h => h) (Or.inl ⟨by rfl, ?_⟩) ?_ ?_
      rotate_left
      ·intro w'
       go_simp
       with_reducible rfl
      rotate_left
      ·simp only [Act.put, List.setIfInBounds_toArray, List.set_cons_zero, List.set_cons_succ, Aj, Ak]
       rfl
      refine Bg (i := 3) (N := some 15) (v := ?_) (a' := ?_) #[true, true, true, true, false, false, false, false, false, false, false, false, false, false, false] rfl rfl (Dc HT_.out (by kernel_rfl)) (fun _ _ _ h => h) (Or.inl ⟨by rfl, ?_⟩) ?_ ?_
      rotate_left
      ·intro w'
       go_simp
       with_reducible rfl
      rotate_left
      ·simp only [Act.put, List.setIfInBounds_toArray, List.set_cons_zero, List.set_cons_succ, Aj, Ak]
       rfl
      refine Bg (i := 4) (N := some 16) (v := ?_) (a' := ?_) #[true, true, true, true, true, false, false, false, false, false, false, false, false, false, false] rfl rfl (Dc HT_.out (by kernel_rfl)) (fun _ _ _ h => h) (Or.inl ⟨by rfl, ?_⟩) ?_ ?_
      rotate_left
      ·intro w'
       go_simp
       with_reducible rfl
      rotate_left
      ·simp only [Act.put, List.setIfInBounds_toArray, List.set_cons_zero, List.set_cons_succ, Aj, Ak]
       rfl
      refine Bg (i := 6) (N := some 18) (v := ?_) (a' := ?_) #[true, true, true, true, true, false, true, false, false, false, false, false, false, false, false] rfl rfl (Dc HT_.out (by kernel_rfl)) (fun _ _ _ h => h) (Or.inl ⟨by rfl, ?_⟩) ?_ ?_
      rotate_left
      ·intro w'
       go_simp
       with_reducible rfl
      rotate_left
      ·simp only [Act.put, List.setIfInBounds_toArray, List.set_cons_zero, List.set_cons_succ, Aj, Ak]
       rfl
      refine Bg (i := 7) (N := some 19) (v := ?_) (a' := ?_) #[true, true, true, true, true, false, true, true, false, false, false, false, false, false, false] rfl rfl (Dc HT_.out (by kernel_rfl)) (fun _ _ _ h => h) (Or.inl ⟨by rfl, ?_⟩) ?_ ?_
      rotate_left
      ·intro w'
       go_simp
       with_reducible rfl
      rotate_left
      ·simp only [Act.put, List.setIfInBounds_toArray, List.set_cons_zero, List.set_cons_succ, Aj, Ak]
       rfl
      refine Bg (i := 8) (N := some 20) (v := ?_) (a' := ?_) #[true, true, true, true, true, false, true, true, true, false, false, false, false, false, false] rfl rfl (Dc HT_.out (by kernel_rfl)) (fun _ _ _ h => h) (Or.inl ⟨by rfl, ?_⟩) ?_ ?_
      rotate_left
      ·intro w'
       go_simp
       with_reducible rfl
      rotate_left
      ·simp only [Act.put, List.setIfInBounds_toArray, List.set_cons_zero, List.set_cons_succ, Aj, Ak]
       rfl
      refine Bg (i := 9) (N := some 21) (v := ?_) (a' := ?_) #[true, true, true, true, true, false, true, true, true, true, false, false, false, false, false] rfl rfl (Dc HT_.out (by kernel_rfl)) (fun _ _ _ h => h) (Or.inl ⟨by rfl, ?_⟩) ?_ ?_
      rotate_left
      ·intro w'
       go_simp
       with_reducible rfl
      rotate_left
      ·simp only [Act.put, List.setIfInBounds_toArray, List.set_cons_zero, List.set_cons_succ, Aj, Ak]
       rfl
      refine Gg (i := 5) (N := some 17) (v := ?_) (a' := ?_) #[true, true, true, true, true, true, true, true, true, true, false, false, false, false, false] rfl rfl (Gq HT_.out HW_.out (by kernel_rfl)) (fun _ _ _ h => h) (Or.inl ⟨by rfl, ?_⟩) hHeld ?_ ?_
      rotate_left
      ·rintro w' ⟨s0, s1, s2, s3, s4, s5⟩
       go_simp
       with_reducible rfl
      rotate_left
      ·simp only [Act.put, List.setIfInBounds_toArray, List.set_cons_zero, List.set_cons_succ, Aj, Ak]
       rfl
      refine Gg (i := 10) (N := some 22) (v := ?_) (a' := ?_) #[true, true, true, true, true, true, true, true, true, true, true, false, false, false, false] rfl rfl (Gq HT_.out HW_.out (by kernel_rfl)) (fun _ _ _ h => h) (Or.inl ⟨by rfl, ?_⟩) hHeld ?_ ?_
      rotate_left
      ·rintro w' ⟨s0, s1, s2, s3, s4, s5⟩
       go_simp
       with_reducible rfl
      rotate_left
      ·simp only [Act.put, List.setIfInBounds_toArray, List.set_cons_zero, List.set_cons_succ, Aj, Ak]
       rfl
      refine Bg (i := 11) (N := some 23) (v := ?_) (a' := ?_) #[true, true, true, true, true, true, true, true, true, true, true, true, false, false, false] rfl rfl (Dc HT_.out (by kernel_rfl)) (fun _ _ _ h => h) (Or.inl ⟨by rfl, ?_⟩) ?_ ?_
      rotate_left
      ·intro w'
       go_simp
       with_reducible rfl
      rotate_left
      ·simp only [Act.put, List.setIfInBounds_toArray, List.set_cons_zero, List.set_cons_succ, Aj, Ak]
       rfl
      refine one_ (i := 12) (N := some 24) #[true, true, true, true, true, true, true, true, true, true, true, true, true, false, false] rfl rfl (H6 HT_.out (by kernel_rfl)) (by decide) (fun K hK => ?_)
      refine value_ (w1 := ?_) (v := ?_) (by rfl) rfl ?_ ?_
      rotate_left 2
      ·go_simp
       constructor
       ·rfl
       ·rfl
      refine hK.out _ _ ⟨(World.cell?_alloc_lt _ _ _ (World.block_lt_of_cell? _ _ (((HB.out.cell (World.block_lt_of_cell? w _ hw233_0)).trans hw233_0)))).trans (((HB.out.cell (World.block_lt_of_cell? w _ hw233_0)).trans hw233_0)), (World.cell?_alloc_lt _ _ _ (World.block_lt_of_cell? _ _ (((HB.out.cell (World.block_lt_of_cell? w _ hw233_1)).trans hw233_1)))).trans (((HB.out.cell (World.block_lt_of_cell? w _ hw233_1)).trans hw233_1)), (World.cell?_alloc_lt _ _ _ (World.block_lt_of_cell? _ _ (((HB.out.cell (World.block_lt_of_cell? w _ hw233_2)).trans hw233_2)))).trans (((HB.out.cell (World.block_lt_of_cell? w _ hw233_2)).trans hw233_2)), (World.cell?_alloc_lt _ _ _ (World.block_lt_of_cell? _ _ (((HB.out.cell (World.block_lt_of_cell? w _ hw234_0)).trans hw234_0)))).trans (((HB.out.cell (World.block_lt_of_cell? w _ hw234_0)).trans hw234_0)), (World.cell?_alloc_lt _ _ _ (World.block_lt_of_cell? _ _ (((HB.out.cell (World.block_lt_of_cell? w _ hw234_1)).trans hw234_1)))).trans (((HB.out.cell (World.block_lt_of_cell? w _ hw234_1)).trans hw234_1)), (World.cell?_alloc_lt _ _ _ (World.block_lt_of_cell? _ _ (((HB.out.cell (World.block_lt_of_cell? w _ hw234_2)).trans hw234_2)))).trans (((HB.out.cell (World.block_lt_of_cell? w _ hw234_2)).trans hw234_2))⟩ (fun hHeld => ?_)
      clear hK K
      refine En (a' := ?_) ?_ ?_
      rotate_left
      ·show Act.put _ (some 24) _ = _
       simp only [Act.put, List.setIfInBounds_toArray, List.set_cons_zero, List.set_cons_succ, Aj, Ak]
       rfl
      refine one_ (i := 13) (N := some 25) #[true, true, true, true, true, true, true, true, true, true, true, true, true, true, false] rfl rfl (H6 HT_.out (by kernel_rfl)) (by decide) (fun K hK => ?_)
      refine Kd.R_append_step (Kd.int .i64) (w0 := w) w.heap.size (by rfl) (.tmp 12) (.tmp 24) 53 3 (.int .i64 0) 8 rfl Try.underlying53 info3 rfl (by decide) (by omega) u3 x3_1 (wrap64 (((Ah l0 x4_1).f1) - ((Ah l0 x4_1).f0))) [.int .i64 (wrap64 (((Ah l0 x4_1).f1) - ((Ah l0 x4_1).f0)))] (fun _ => True) (fun _ => False) rfl rfl ?aP (fun _ hk => hk.elim) ?aF ?aO ?aB ?aS ?aL ?_
      (case aP => exact rfl)
      (case aB => exact Ya_)
      (case aF => exact (fun _ _ => trivial))
      (case aO => exact Yg_)
      (case aS => exact (below_size Ya_))
      (case aL => have := LMc6.out; omega)
      intro v236 w8 ho hb hg hat
      rw [← Ny235.out] at ho
      have n0_ := Aside0.mk (hb)
      have n1_ := Aside0.mk (ho)
      clear HB
      clear HO_3
      have HB := n0_
      have HO237 := n1_
      clear n0_ n1_
      clear ho hb hg hat
      refine hK.out _ _ ⟨((HB.out.cell (World.block_lt_of_cell? w _ hw233_0)).trans hw233_0), ((HB.out.cell (World.block_lt_of_cell? w _ hw233_1)).trans hw233_1), ((HB.out.cell (World.block_lt_of_cell? w _ hw233_2)).trans hw233_2), ((HB.out.cell (World.block_lt_of_cell? w _ hw234_0)).trans hw234_0), ((HB.out.cell (World.block_lt_of_cell? w _ hw234_1)).trans hw234_1), ((HB.out.cell (World.block_lt_of_cell? w _ hw234_2)).trans hw234_2)⟩ (fun hHeld => ?_)
      clear hK K
      refine En (a' := ?_) ?_ ?_
      rotate_left
      ·show Act.put _ (some 25) _ = _
       simp only [Act.put, List.setIfInBounds_toArray, List.set_cons_zero, List.set_cons_succ, Aj, Ak]
       rfl
      refine Bg (i := 14) (N := some 3) (v := ?_) (a' := ?_) #[true, true, true, true, true, true, true, true, true, true, true, true, true, true, true] rfl rfl (Dc HT_.out (by kernel_rfl)) (fun _ _ _ h => h) (Or.inl ⟨by rfl, ?_⟩) ?_ ?_
      rotate_left
      ·intro w'
       go_simp
       with_reducible rfl
      rotate_left
      ·simp only [Act.put, List.setIfInBounds_toArray, List.set_cons_zero, List.set_cons_succ, Aj, Ak]
       rfl
      refine done_ (done_of HT_.out (by kernel_rfl)) ?_
      try go_wp2
      go_roundg k1
      case measure => have := HK1.out; omega
      case rel => exact ⟨(y235), (wrap64 (x4_1 + 1)), Yd_, H', ⟨by have := HK1.out; omega⟩, ⟨by (with_reducible repeat (first | apply Kd.Ap | apply Kd.Am | apply Kd.Ba)); exact HO237.out⟩, ⟨by repeat (first | (with_reducible first | exact HB.out | apply Af | apply Ad | apply Ae) | exact HB.out)⟩⟩
     ·rw [if_neg c6] at H
      exact absurd H (by simp)
    ·rw [if_neg c5] at H
     exact absurd H (by simp)
   ·rw [if_neg c4] at H
    have c4b0 : decide (x4_1 < (l0.length : Int)) = false := decide_eq_false c4
    clear c4
    obtain rfl := Option.some.inj H
    go_wp2
    go_ret
    exact ⟨_, by first | rfl | (simp [Aw, Az] <;> rfl) | (simp [*, Aw, Az] <;> rfl), by (with_reducible repeat (first | apply Kd.Ap | apply Kd.Am | apply Kd.Ba)); exact HO_3.out, by repeat (first | (with_reducible first | exact HB.out | apply Af | apply Ad | apply Ae) | exact HB.out)⟩
end Go.Proofs.Ytolaplcjbmjlmaa.X

namespace Go.Proofs.Ytolaplcjbmjlmaa.X
open Go.RowKit Go.Proofs.YtolaplcjbmjlmaaW.PrintWords Go.Proofs.YtolaplcjbmjlmaaW.PrintLast Go.Proofs.YtolaplcjbmjlmaaW.PrintMore
attribute [local go_sem] max2_int min2_int max_two min_two max_three min_three max_four min_four
mutual
def Bl.j0 : Nat → List (S59) → Bool → Option (Int × Int × Bool)
 | 0, _, _ => none
 | k + 1, x0, x17 => if x17 = true then (some (0, 0, false)) else ((Cj.f k x0).bind fun t239 => (Bl.l0 k 0 t239 0))
def Bl.l0 : Nat → Int → List Int → Int → Option (Int × Int × Bool)
 | 0, _, _, _ => none
 | k + 1, x5, x6, x7 => if x7 < (x6.length : Int) then (if 0 ≤ x7 then (Bl.l0 k (wrap64 (x5 + (rd x6 x7))) x6 (wrap64 (x7 + 1))) else (none)) else ((Dk.f k x5 (x6.length : Int)).bind fun bt243 => (some (bt243.1, bt243.2, true)))
end
def Bl.f (k : Nat) (l0 : List (S59)) : Option (Int × Int × Bool) := (Aq.f k l0).bind fun t238 => (if t238 = true then (Bl.j0 k l0 ((l0.length : Int) == 0)) else (Bl.j0 k l0 true))
theorem Bl.Dq : ∀ k, (∀ y0 y1, LeO (Bl.j0 k y0 y1) (Bl.j0 (k + 1) y0 y1)) ∧ (∀ y0 y1 y2, LeO (Bl.l0 k y0 y1 y2) (Bl.l0 (k + 1) y0 y1 y2))
 | 0 => ⟨fun _ _ r h => by simp [Bl.j0] at h, fun _ _ _ r h => by simp [Bl.l0] at h⟩
 | k + 1 => by
  obtain ⟨ih0, ih1⟩ := Bl.Dq k
  refine ⟨?_, ?_⟩
  ·intro y0 y1
   unfold Bl.j0
   repeat' first
   | (with_reducible exact ih0 _ _)
   | (with_reducible exact ih1 _ _ _)
   | (with_reducible exact Dk.mono _ _ _)
   | (with_reducible exact Aq.mono _ _)
   | (with_reducible exact Cj.mono _ _)
   | (with_reducible exact LeO.refl _)
   | (with_reducible exact LeO.none _)
   | (with_reducible refine LeO.ite ?_ ?_)
   | (with_reducible refine LeO.bind ?_ (fun _ => ?_))
   | exact ih0 _ _
   | exact ih1 _ _ _
   | exact Dk.mono _ _ _
   | exact Aq.mono _ _
   | exact Cj.mono _ _
   | exact LeO.none _
   | refine LeO.ite ?_ ?_
   | refine LeO.bind ?_ (fun _ => ?_)
  ·intro y0 y1 y2
   unfold Bl.l0
   repeat' first
   | (with_reducible exact ih0 _ _)
   | (with_reducible exact ih1 _ _ _)
   | (with_reducible exact Dk.mono _ _ _)
   | (with_reducible exact Aq.mono _ _)
   | (with_reducible exact Cj.mono _ _)
   | (with_reducible exact LeO.refl _)
   | (with_reducible exact LeO.none _)
   | (with_reducible refine LeO.ite ?_ ?_)
   | (with_reducible refine LeO.bind ?_ (fun _ => ?_))
   | exact ih0 _ _
   | exact ih1 _ _ _
   | exact Dk.mono _ _ _
   | exact Aq.mono _ _
   | exact Cj.mono _ _
   | exact LeO.none _
   | refine LeO.ite ?_ ?_
   | refine LeO.bind ?_ (fun _ => ?_)
theorem Bl.mono : ∀ a0 k, LeO (Bl.f k a0) (Bl.f (k + 1) a0) := by
 intro a0 k
 obtain ⟨ih0, ih1⟩ := Bl.Dq k
 unfold Bl.f
 repeat' first
   | (with_reducible exact ih0 _ _)
   | (with_reducible exact ih1 _ _ _)
   | (with_reducible exact Dk.mono _ _ _)
   | (with_reducible exact Aq.mono _ _)
   | (with_reducible exact Cj.mono _ _)
   | (with_reducible exact LeO.refl _)
   | (with_reducible exact LeO.none _)
   | (with_reducible refine LeO.ite ?_ ?_)
   | (with_reducible refine LeO.bind ?_ (fun _ => ?_))
   | exact ih0 _ _
   | exact ih1 _ _ _
   | exact Dk.mono _ _ _
   | exact Aq.mono _ _
   | exact Cj.mono _ _
   | exact LeO.none _
   | refine LeO.ite ?_ ?_
   | refine LeO.bind ?_ (fun _ => ?_)
set_option maxHeartbeats 8000000 in
set_option maxRecDepth 100000 in
theorem Bl.calls (k : Nat) (A0 : Option Addr) (c0 : Nat) (l0 : List (S59)) (r1 : Int) (r2 : Int) (r3 : Bool) (w : World) (hr0 : Kd.C k59 w A0 l0.length l0) (hc0 : l0.length ≤ c0) (h : Bl.f k l0 = some (r1, r2, r3)) :
  Calls Try.prog 27 #[.slice A0 l0.length c0] w fun e w' => e = .returned (.tuple #[.int .i64 r1, .int .i64 r2, .bool r3]) ∧ Below w.heap.size w w' := by
 have HR0 := Aside0.mk hr0
 have HC0 := Aside0.mk hc0
 clear hr0 hc0
 have HB := Aside0.mk (Below.refl w.heap.size w)
 have H : ((Aq.f k l0).bind fun t238 => (if t238 = true then (Bl.j0 k l0 ((l0.length : Int) == 0)) else (Bl.j0 k l0 true))) = some (r1, r2, r3) := h
 clear h
 have HC2 := Aside0.mk H
 clear H
 go_enter Try.func27, Try.ntmps27
 go_upto_region 1 with (fail)
 go_cut [17] (fun v17 wc => ∃ (kq : Nat) (x17_1 : Bool), v17 = .bool x17_1 ∧ Aside0 (Bl.j0 kq l0 x17_1 = some (r1, r2, r3)) ∧ Aside0 (kq ≤ k) ∧ Aside0 (Below w.heap.size w wc))
 case first =>
  have H := HC2.out
  clear HC2
  replace H := Option.bind_eq_some_iff.mp H
  obtain ⟨t238, A30, H⟩ := H
  replace H : (if t238 = true then (Bl.j0 k l0 ((l0.length : Int) == 0)) else (Bl.j0 k l0 true)) = some (r1, r2, r3) := H
  have A3 := Aside0.mk A30
  clear A30
  by_cases c4 : t238 = true
  ·subst c4
   have H1 : (Bl.j0 k l0 ((l0.length : Int) == 0)) = some (r1, r2, r3) := by rw [if_pos rfl] at H; exact H
   clear H
   have H := H1
   clear H1
   have H' := Aside0.mk H
   clear H
   go_wp2_with (first | ((with_reducible refine gate_callee (f := 54) rfl ?_); refine goesL_ (some 11) rfl rfl Try.func54 (by kernel_rfl) rfl #[.slice A0 l0.length c0] rfl Yb_ ?_; (with_reducible refine (Aq.calls k _ _ l0 true _ ?side1 ?side2 A3.out).mono ?_); (case side1 => repeat (first | exact (Kd.C_below HR0.out HB.out) | (with_reducible refine Kd.Be ?_ _) | (with_reducible refine Kd.Bf ?_ _) | (with_reducible refine Kd.Bh ?_))); (case side2 => exact HC0.out); rintro e w5 ⟨rfl, hb⟩; refine ⟨_, rfl, ?_⟩; have n0_ := Aside0.mk (below_step Ya_ hb); clear HB; have HB := n0_; clear n0_; (try clear hb); (try clear hb2); (try clear hk); (try clear hi)))
   go_meet
   case rel => exact ⟨_, (((l0.length : Int) == 0)), Yd_, H', ⟨by first | omega | exact Nat.le_refl _⟩, ⟨by repeat (first | (with_reducible first | exact HB.out | apply Af | apply Ad | apply Ae) | exact HB.out)⟩⟩
  ·replace c4 := Bool.eq_false_iff.mpr c4
   subst c4
   have H1 : (Bl.j0 k l0 true) = some (r1, r2, r3) := by rw [if_neg (show ¬ (false = true) by decide)] at H; exact H
   clear H
   have H := H1
   clear H1
   have H' := Aside0.mk H
   clear H
   go_wp2_with (first | ((with_reducible refine gate_callee (f := 54) rfl ?_); refine goesL_ (some 11) rfl rfl Try.func54 (by kernel_rfl) rfl #[.slice A0 l0.length c0] rfl Yb_ ?_; (with_reducible refine (Aq.calls k _ _ l0 false _ ?side1 ?side2 A3.out).mono ?_); (case side1 => repeat (first | exact (Kd.C_below HR0.out HB.out) | (with_reducible refine Kd.Be ?_ _) | (with_reducible refine Kd.Bf ?_ _) | (with_reducible refine Kd.Bh ?_))); (case side2 => exact HC0.out); rintro e w6 ⟨rfl, hb⟩; refine ⟨_, rfl, ?_⟩; have n0_ := Aside0.mk (below_step Ya_ hb); clear HB; have HB := n0_; clear n0_; (try clear hb); (try clear hb2); (try clear hk); (try clear hi)))
   go_meet
   case rel => exact ⟨_, (true), Yd_, H', ⟨by first | omega | exact Nat.le_refl _⟩, ⟨by repeat (first | (with_reducible first | exact HB.out | apply Af | apply Ad | apply Ae) | exact HB.out)⟩⟩
 case rest =>
  clear HC2
  try clear c2
  try clear p2
  try clear c4
  try clear c5
  obtain ⟨kq, x17_1, rfl, HA, HJ1, HB⟩ := hcut
  cases kq with
  | zero => exact absurd HA.out (by simp [Bl.j0])
  | succ kj1 =>
   have H := HA.out
   clear HA
   simp only [Bl.j0] at H
   by_cases c7 : x17_1 = true
   ·subst c7
    have H1 : (some (0, 0, false)) = some (r1, r2, r3) := by rw [if_pos rfl] at H; exact H
    clear H
    have H := H1
    clear H1
    simp only [Option.some.injEq, Prod.mk.injEq] at H
    obtain ⟨rfl, rfl, rfl⟩ := H
    go_wp2
    go_ret3
    exact ⟨by first | rfl | (simp [Aw, Az] <;> rfl) | (simp [*, Aw, Az] <;> rfl), by repeat (first | (with_reducible first | exact HB.out | apply Af | apply Ad | apply Ae) | exact HB.out)⟩
   ·replace c7 := Bool.eq_false_iff.mpr c7
    subst c7
    have H1 : ((Cj.f kj1 l0).bind fun t239 => (Bl.l0 kj1 0 t239 0)) = some (r1, r2, r3) := by rw [if_neg (show ¬ (false = true) by decide)] at H; exact H
    clear H
    have H := H1
    clear H1
    replace H := Option.bind_eq_some_iff.mp H
    obtain ⟨t239, A80, H⟩ := H
    replace H : (Bl.l0 kj1 0 t239 0) = some (r1, r2, r3) := H
    have A8 := Aside0.mk A80
    clear A80
    have H' := Aside0.mk H
    clear H
    go_wp2_with (first | ((with_reducible refine gate_callee (f := 63) rfl ?_); refine goesL_ (some 19) rfl rfl Try.func63 (by kernel_rfl) rfl #[.slice A0 l0.length c0] rfl Yb_ ?_; (with_reducible refine (Cj.calls kj1 _ _ l0 t239 _ ?side1 ?side2 A8.out).mono ?_); (case side1 => repeat (first | exact (Kd.C_below HR0.out HB.out) | (with_reducible refine Kd.Be ?_ _) | (with_reducible refine Kd.Bf ?_ _) | (with_reducible refine Kd.Bh ?_))); (case side2 => exact HC0.out); rintro e w9 ⟨v240, rfl, ho0, hb⟩; refine ⟨_, rfl, ?_⟩; have n0_ := Aside0.mk (Kd.R_lower ho0 (below_size Ya_)); have n1_ := Aside0.mk (below_step Ya_ hb); clear HB; have HO241 := n0_; have HB := n1_; clear n0_ n1_; (try clear hb); (try clear hb2); (try clear hk); (try clear hi); (try clear ho0)))
    go_loopg [5, 7] kj1 (fun kq v5 v7 w' => ∃ (x5_2 : Int) (x7_2 : Int), v5 = .int .i64 x5_2 ∧ v7 = .int .i64 x7_2 ∧ Aside0 (Bl.l0 kq x5_2 t239 x7_2 = some (r1, r2, r3)) ∧ Aside0 (kq ≤ kj1) ∧ Aside0 (Kd.R (Kd.int .i64) 3 w' w.heap.size (fun _ => True) v240 t239) ∧ Aside0 (Below w.heap.size w w'))
    case atStart => exact ⟨(0), (0), Yd_, Yd_, H', ⟨Nat.le_refl _⟩, ⟨by (with_reducible repeat (first | apply Kd.Ap | apply Kd.Am | apply Kd.Ba)); exact HO241.out⟩, ⟨by repeat (first | (with_reducible first | exact HB.out | apply Af | apply Ad | apply Ae) | exact HB.out)⟩⟩
    case round =>
     clear H'
     try clear c2
     try clear p2
     try clear c4
     try clear c5
     try clear c6
     try clear c7
     try clear p2
     obtain ⟨x5_2, x7_2, rfl, rfl, HA, HK2, HO_6, HB⟩ := hrel
     cases gk with
     | zero => exact absurd HA.out (by simp [Bl.l0])
     | succ k2 =>
      have H := HA.out
      clear HA
      simp only [Bl.l0] at H
      by_cases c10 : x7_2 < (t239.length : Int)
      ·rw [if_pos c10] at H
       have c10b0 : decide (x7_2 < (t239.length : Int)) = true := decide_eq_true c10
       clear c10
       by_cases c11 : 0 ≤ x7_2
       ·rw [if_pos c11] at H
        have c11b0 : decide (0 ≤ x7_2) = true := decide_eq_true c11
        clear c11
        have H' := Aside0.mk H
        clear H
        obtain ⟨Ao12, co12, eo12⟩ := Kd.R_slice HO_6.out
        subst eo12
        have p242 : 0 ≤ (x7_2 : Int) := of_decide_eq_true Yc_
        have q242 : x7_2 < (t239.length : Int) := of_decide_eq_true Yc_
        obtain ⟨ad242, e242, hx242_0⟩ := Kd.Fv (Kd.R_reads' HO_6.out).2.2 x7_2 p242 q242
        cases e242
        replace p242 := eq_true p242
        replace q242 := eq_true q242
        go_wp2
        go_roundg k2
        case measure => have := HJ1.out; have := HK2.out; omega
        case rel => exact ⟨(wrap64 (x5_2 + (rd t239 x7_2))), (wrap64 (x7_2 + 1)), Yd_, Yd_, H', ⟨by have := HJ1.out; have := HK2.out; omega⟩, ⟨by (with_reducible repeat (first | apply Kd.Ap | apply Kd.Am | apply Kd.Ba)); exact HO_6.out⟩, ⟨by repeat (first | (with_reducible first | exact HB.out | apply Af | apply Ad | apply Ae) | exact HB.out)⟩⟩
       ·rw [if_neg c11] at H
        exact absurd H (by simp)
      ·rw [if_neg c10] at H
       have c10b0 : decide (x7_2 < (t239.length : Int)) = false := decide_eq_false c10
       clear c10
       replace H := Option.bind_eq_some_iff.mp H
       obtain ⟨⟨t243, t244⟩, A130, H⟩ := H
       replace H : (some (t243, t244, true)) = some (r1, r2, r3) := H
       have A13 := Aside0.mk A130
       clear A130
       simp only [Option.some.injEq, Prod.mk.injEq] at H
       obtain ⟨rfl, rfl, rfl⟩ := H
       obtain ⟨Ao14, co14, eo14⟩ := Kd.R_slice HO_6.out
       subst eo14
       go_wp2_with (first | ((with_reducible refine gate_callee (f := 61) rfl ?_); refine goesL_ (some 36) rfl rfl Try.func61 (by kernel_rfl) rfl #[.int .i64 x5_2, .int .i64 (t239.length : Int)] rfl Yb_ ?_; (with_reducible refine (Dk.calls k2 x5_2 (t239.length : Int) t243 t244 _ A13.out).mono ?_); rintro e w' ⟨rfl, ⟨nd, rfl⟩⟩; refine ⟨_, rfl, ?_⟩))
       go_ret3
       exact ⟨by first | rfl | (simp [Aw, Az] <;> rfl) | (simp [*, Aw, Az] <;> rfl), by repeat (first | (with_reducible first | exact HB.out | apply Af | apply Ad | apply Ae) | exact HB.out)⟩
end Go.Proofs.Ytolaplcjbmjlmaa.X

namespace Go.Proofs.Ytolaplcjbmjlmaa.X
open Go.RowKit Go.Proofs.YtolaplcjbmjlmaaW.PrintWords Go.Proofs.YtolaplcjbmjlmaaW.PrintLast Go.Proofs.YtolaplcjbmjlmaaW.PrintMore
attribute [local go_sem] max2_int min2_int max_two min_two max_three min_three max_four min_four
def Df.l0 : Nat → Int → Int → Int → Int → Option (Int × Int)
 | 0, _, _, _, _ => none
 | k + 1, x0, x1, x6, x7 => if x7 = 0 then (if ((decide (x6 < 0)) != (decide (x1 < 0))) = true then (if (wrap64 (-x6)) = 0 then (none) else (some (wrap64 (Int.tdiv x0 (wrap64 (-x6))), wrap64 (Int.tdiv x1 (wrap64 (-x6)))))) else (if x6 = 0 then (none) else (some (wrap64 (Int.tdiv x0 x6), wrap64 (Int.tdiv x1 x6))))) else (Df.l0 k x0 x1 x7 (Int.tmod x6 x7))
def Df.f (k : Nat) (a0 : Int) (a1 : Int) : Option (Int × Int) := Df.l0 k a0 a1 a0 a1
theorem Df.Dq : ∀ k, (∀ y0 y1 y2 y3, LeO (Df.l0 k y0 y1 y2 y3) (Df.l0 (k + 1) y0 y1 y2 y3))
 | 0 => fun _ _ _ _ r h => by simp [Df.l0] at h
 | k + 1 => by
  have ih0 := Df.Dq k
  ·intro y0 y1 y2 y3
   unfold Df.l0
   repeat' first
   | (with_reducible exact ih0 _ _ _ _)
   | (with_reducible exact LeO.refl _)
   | (with_reducible exact LeO.none _)
   | (with_reducible refine LeO.ite ?_ ?_)
   | (with_reducible refine LeO.bind ?_ (fun _ => ?_))
   | exact ih0 _ _ _ _
   | exact LeO.none _
   | refine LeO.ite ?_ ?_
   | refine LeO.bind ?_ (fun _ => ?_)
theorem Df.mono : ∀ a0 a1 k, LeO (Df.f k a0 a1) (Df.f (k + 1) a0 a1) := by
 intro a0 a1 k
 have ih0 := Df.Dq k
 unfold Df.f
 repeat' first
   | (with_reducible exact ih0 _ _ _ _)
   | (with_reducible exact LeO.refl _)
   | (with_reducible exact LeO.none _)
   | (with_reducible refine LeO.ite ?_ ?_)
   | (with_reducible refine LeO.bind ?_ (fun _ => ?_))
   | exact ih0 _ _ _ _
   | exact LeO.none _
   | refine LeO.ite ?_ ?_
   | refine LeO.bind ?_ (fun _ => ?_)
set_option maxHeartbeats 8000000 in
set_option maxRecDepth 100000 in
theorem Df.calls (k : Nat) (a0 : Int) (a1 : Int) (r1 : Int) (r2 : Int) (w : World) (h : Df.f k a0 a1 = some (r1, r2)) :
  Calls Try.prog 62 #[.int .i64 a0, .int .i64 a1] w fun e w' => e = .returned (.tuple #[.int .i64 r1, .int .i64 r2]) ∧ Drawn0 w w' := by
 have H : (Df.l0 k a0 a1 a0 a1) = some (r1, r2) := h
 clear h
 have H' := Aside0.mk H
 clear H
 go_enter Try.func62, Try.ntmps62
 go_wp2
 repeat (go_quiet (fail); try go_wp2)
 go_loopg [6, 7] k (fun kq v6 v7 w' => ∃ (x6_1 : Int) (x7_1 : Int), v6 = .int .i64 x6_1 ∧ v7 = .int .i64 x7_1 ∧ Aside0 (Df.l0 kq a0 a1 x6_1 x7_1 = some (r1, r2)) ∧ Aside0 (kq ≤ k) ∧ Drawn0 w w')
 case atStart => exact ⟨(a0), (a1), Yd_, Yd_, H', ⟨Nat.le_refl _⟩, by repeat (first | exact Drawn0.refl _ | apply Drawn0.step)⟩
 case round =>
  clear H'
  try clear p2
  obtain ⟨x6_1, x7_1, rfl, rfl, HA, HK1, ⟨m1, rfl⟩⟩ := hrel
  cases gk with
  | zero => exact absurd HA.out (by simp [Df.l0])
  | succ k1 =>
   have H := HA.out
   clear HA
   simp only [Df.l0] at H
   by_cases c3 : x7_1 = 0
   ·rw [if_pos c3] at H
    have c3b0 : (x7_1 == 0) = true := beq_iff_eq.mpr c3
    have c3b1 : (x7_1 != 0) = false := bne_eq_false_iff_eq.mpr c3
    clear c3
    by_cases c4 : ((decide (x6_1 < 0)) != (decide (a1 < 0))) = true
    ·rw [if_pos c4] at H
     have c4b0 : ((decide (x6_1 < 0)) != (decide (a1 < 0))) = true := c4
     (try (have c4b1 : decide ((decide (x6_1 < 0)) = (decide (a1 < 0))) = false := by simpa using c4))
     (try (have c4b2 : ((decide (x6_1 < 0)) == (decide (a1 < 0))) = false := by simpa using c4))
     (try (have c4b3 : ¬ ((decide (x6_1 < 0)) = (decide (a1 < 0))) := by simpa using c4))
     clear c4
     by_cases c5 : (wrap64 (-x6_1)) = 0
     ·rw [if_pos c5] at H
      exact absurd H (by simp)
     ·rw [if_neg c5] at H
      have c5b0 : ((wrap64 (-x6_1)) == 0) = false := beq_eq_false_iff_ne.mpr c5
      have c5b1 : ((wrap64 (-x6_1)) != 0) = true := bne_iff_ne.mpr c5
      simp only [Option.some.injEq, Prod.mk.injEq] at H
      obtain ⟨rfl, rfl⟩ := H
      go_wp2
      repeat (go_quiet (fail); try go_wp2)
      go_ret2
      exact ⟨by first | rfl | (simp; done) | (simp [*]; done), by repeat (first | exact Drawn0.refl _ | apply Drawn0.step)⟩
    ·rw [if_neg c4] at H
     have c4b0 : ((decide (x6_1 < 0)) != (decide (a1 < 0))) = false := by simpa using c4
     (try (have c4b1 : decide ((decide (x6_1 < 0)) = (decide (a1 < 0))) = true := by simpa using c4))
     (try (have c4b2 : ((decide (x6_1 < 0)) == (decide (a1 < 0))) = true := by simpa using c4))
     clear c4
     by_cases c6 : x6_1 = 0
     ·rw [if_pos c6] at H
      exact absurd H (by simp)
     ·rw [if_neg c6] at H
      have c6b0 : (x6_1 == 0) = false := beq_eq_false_iff_ne.mpr c6
      have c6b1 : (x6_1 != 0) = true := bne_iff_ne.mpr c6
      simp only [Option.some.injEq, Prod.mk.injEq] at H
      obtain ⟨rfl, rfl⟩ := H
      go_wp2
      repeat (go_quiet (fail); try go_wp2)
      go_ret2
      exact ⟨by first | rfl | (simp; done) | (simp [*]; done), by repeat (first | exact Drawn0.refl _ | apply Drawn0.step)⟩
   ·rw [if_neg c3] at H
    have c3b0 : (x7_1 == 0) = false := beq_eq_false_iff_ne.mpr c3
    have c3b1 : (x7_1 != 0) = true := bne_iff_ne.mpr c3
    have H' := Aside0.mk H
    clear H
    go_wp2
    repeat (go_quiet (fail); try go_wp2)
    go_roundg k1
    case measure => have := HK1.out; omega
    case rel => exact ⟨(x7_1), (Int.tmod x6_1 x7_1), Yd_, Yd_, H', ⟨by have := HK1.out; omega⟩, by repeat (first | exact Drawn0.refl _ | apply Drawn0.step)⟩
end Go.Proofs.Ytolaplcjbmjlmaa.X

namespace Go.Proofs.Ytolaplcjbmjlmaa.X
open Go.RowKit Go.Proofs.YtolaplcjbmjlmaaW.PrintWords Go.Proofs.YtolaplcjbmjlmaaW.PrintLast Go.Proofs.YtolaplcjbmjlmaaW.PrintMore
attribute [local go_sem] max2_int min2_int max_two min_two max_three min_three max_four min_four
def Em.l0 : Nat → Int → List Int → Int → Int → Option (Int)
 | 0, _, _, _, _ => none
 | k + 1, x3, x6, x7, x8 => if x8 < x7 then (if 0 ≤ x8 then (if x8 < (x6.length : Int) then (Em.l0 k (wrap64 (x3 + (rd x6 x8))) x6 x7 (wrap64 (x8 + 1))) else (none)) else (none)) else (some x3)
def Em.f (k : Nat) (l0 : List Int) : Option (Int) := Em.l0 k 0 l0 (l0.length : Int) 0
theorem Em.Dq : ∀ k, (∀ y0 y1 y2 y3, LeO (Em.l0 k y0 y1 y2 y3) (Em.l0 (k + 1) y0 y1 y2 y3))
 | 0 => fun _ _ _ _ r h => by simp [Em.l0] at h
 | k + 1 => by
  have ih0 := Em.Dq k
  ·intro y0 y1 y2 y3
   unfold Em.l0
   repeat' first
   | (with_reducible exact ih0 _ _ _ _)
   | (with_reducible exact LeO.refl _)
   | (with_reducible exact LeO.none _)
   | (with_reducible refine LeO.ite ?_ ?_)
   | (with_reducible refine LeO.bind ?_ (fun _ => ?_))
   | exact ih0 _ _ _ _
   | exact LeO.none _
   | refine LeO.ite ?_ ?_
   | refine LeO.bind ?_ (fun _ => ?_)
theorem Em.mono : ∀ a0 k, LeO (Em.f k a0) (Em.f (k + 1) a0) := by
 intro a0 k
 have ih0 := Em.Dq k
 unfold Em.f
 repeat' first
   | (with_reducible exact ih0 _ _ _ _)
   | (with_reducible exact LeO.refl _)
   | (with_reducible exact LeO.none _)
   | (with_reducible refine LeO.ite ?_ ?_)
   | (with_reducible refine LeO.bind ?_ (fun _ => ?_))
   | exact ih0 _ _ _ _
   | exact LeO.none _
   | refine LeO.ite ?_ ?_
   | refine LeO.bind ?_ (fun _ => ?_)
set_option maxHeartbeats 8000000 in
set_option maxRecDepth 100000 in
theorem Em.calls (k : Nat) (A0 : Option Addr) (c0 : Nat) (l0 : List Int) (r : Int) (w : World) (hr0 : Kd.C (Kd.int .i64) w A0 l0.length l0) (hc0 : l0.length ≤ c0) (h : Em.f k l0 = some r) :
  Calls Try.prog 64 #[.slice A0 l0.length c0] w fun e w' => e = .returned (.int .i64 r) ∧ Drawn0 w w' := by
 have HR0 := Aside0.mk hr0
 have HC0 := Aside0.mk hc0
 clear hr0 hc0
 have H : (Em.l0 k 0 l0 (l0.length : Int) 0) = some r := h
 clear h
 have H' := Aside0.mk H
 clear H
 go_enter Try.func64, Try.ntmps64
 go_wp2
 go_loopg [3, 8] k (fun kq v3 v8 w' => ∃ (x3_1 : Int) (x8_1 : Int), v3 = .int .i64 x3_1 ∧ v8 = .int .i64 x8_1 ∧ Aside0 (Em.l0 kq x3_1 l0 (l0.length : Int) x8_1 = some r) ∧ Aside0 (kq ≤ k) ∧ Drawn0 w w')
 case atStart => exact ⟨(0), (0), Yd_, Yd_, H', ⟨Nat.le_refl _⟩, by repeat (first | exact Drawn0.refl _ | apply Drawn0.step)⟩
 case round =>
  clear H'
  obtain ⟨x3_1, x8_1, rfl, rfl, HA, HK1, ⟨m1, rfl⟩⟩ := hrel
  cases gk with
  | zero => exact absurd HA.out (by simp [Em.l0])
  | succ k1 =>
   have H := HA.out
   clear HA
   simp only [Em.l0] at H
   by_cases c2 : x8_1 < (l0.length : Int)
   ·rw [if_pos c2] at H
    have c2b0 : decide (x8_1 < (l0.length : Int)) = true := decide_eq_true c2
    clear c2
    by_cases c3 : 0 ≤ x8_1
    ·rw [if_pos c3] at H
     have c3b0 : decide (0 ≤ x8_1) = true := decide_eq_true c3
     clear c3
     by_cases c4 : x8_1 < (l0.length : Int)
     ·rw [if_pos c4] at H
      have c4b0 : decide (x8_1 < (l0.length : Int)) = true := decide_eq_true c4
      clear c4
      have H' := Aside0.mk H
      clear H
      have p245 : 0 ≤ (x8_1 : Int) := of_decide_eq_true Yc_
      have q245 : x8_1 < (l0.length : Int) := of_decide_eq_true Yc_
      obtain ⟨ad245, e245, hx245_0⟩ := Kd.Fv HR0.out x8_1 p245 q245
      cases e245
      replace p245 := eq_true p245
      replace q245 := eq_true q245
      go_wp2
      go_roundg k1
      case measure => have := HK1.out; omega
      case rel => exact ⟨(wrap64 (x3_1 + (rd l0 x8_1))), (wrap64 (x8_1 + 1)), Yd_, Yd_, H', ⟨by have := HK1.out; omega⟩, by repeat (first | exact Drawn0.refl _ | apply Drawn0.step)⟩
     ·rw [if_neg c4] at H
      exact absurd H (by simp)
    ·rw [if_neg c3] at H
     exact absurd H (by simp)
   ·rw [if_neg c2] at H
    have c2b0 : decide (x8_1 < (l0.length : Int)) = false := decide_eq_false c2
    clear c2
    obtain rfl := Option.some.inj H
    go_wp2
    go_ret
    exact ⟨by first | rfl | (simp; done) | (simp [*]; done), by repeat (first | exact Drawn0.refl _ | apply Drawn0.step)⟩
end Go.Proofs.Ytolaplcjbmjlmaa.X

namespace Go.Proofs.Ytolaplcjbmjlmaa.X
open Go.RowKit Go.Proofs.YtolaplcjbmjlmaaW.PrintWords Go.Proofs.YtolaplcjbmjlmaaW.PrintLast Go.Proofs.YtolaplcjbmjlmaaW.PrintMore
attribute [local go_sem] max2_int min2_int max_two min_two max_three min_three max_four min_four
def impl_lengthsOf.l0 : Nat → List Int → List (S59) → Int → Int → Option (List Int)
 | 0, _, _, _, _ => none
 | k + 1, x3, x7, x8, x9 => if x9 < x8 then (if 0 ≤ x9 then (if x9 < (x7.length : Int) then (if x3.length < 17592186044416 then (impl_lengthsOf.l0 k (x3 ++ [wrap64 (((Ah x7 x9).f1) - ((Ah x7 x9).f0))]) x7 x8 (wrap64 (x9 + 1))) else (none)) else (none)) else (none)) else (some x3)
def impl_lengthsOf.f (k : Nat) (l0 : List (S59)) : Option (List Int) := impl_lengthsOf.l0 k (([] : List Int)) l0 (l0.length : Int) 0
theorem impl_lengthsOf.Dq : ∀ k, (∀ y0 y1 y2 y3, LeO (impl_lengthsOf.l0 k y0 y1 y2 y3) (impl_lengthsOf.l0 (k + 1) y0 y1 y2 y3))
 | 0 => fun _ _ _ _ r h => by simp [impl_lengthsOf.l0] at h
 | k + 1 => by
  have ih0 := impl_lengthsOf.Dq k
  ·intro y0 y1 y2 y3
   unfold impl_lengthsOf.l0
   repeat' first
   | (with_reducible exact ih0 _ _ _ _)
   | (with_reducible exact LeO.refl _)
   | (with_reducible exact LeO.none _)
   | (with_reducible refine LeO.ite ?_ ?_)
   | (with_reducible refine LeO.bind ?_ (fun _ => ?_))
   | exact ih0 _ _ _ _
   | exact LeO.none _
   | refine LeO.ite ?_ ?_
   | refine LeO.bind ?_ (fun _ => ?_)
theorem impl_lengthsOf.mono : ∀ a0 k, LeO (impl_lengthsOf.f k a0) (impl_lengthsOf.f (k + 1) a0) := by
 intro a0 k
 have ih0 := impl_lengthsOf.Dq k
 unfold impl_lengthsOf.f
 repeat' first
   | (with_reducible exact ih0 _ _ _ _)
   | (with_reducible exact LeO.refl _)
   | (with_reducible exact LeO.none _)
   | (with_reducible refine LeO.ite ?_ ?_)
   | (with_reducible refine LeO.bind ?_ (fun _ => ?_))
   | exact ih0 _ _ _ _
   | exact LeO.none _
   | refine LeO.ite ?_ ?_
   | refine LeO.bind ?_ (fun _ => ?_)
set_option maxHeartbeats 8000000 in
set_option maxRecDepth 100000 in
theorem impl_lengthsOf.calls (k : Nat) (A0 : Option Addr) (c0 : Nat) (l0 : List (S59)) (r : List Int) (w : World) (hr0 : Kd.C k59 w A0 l0.length l0) (hc0 : l0.length ≤ c0) (h : impl_lengthsOf.f k l0 = some r) :
  Calls Try.prog 65 #[.slice A0 l0.length c0] w fun e w' => ∃ v0_ : Value, e = .returned (v0_) ∧ Kd.R (Kd.int .i64) 3 w' w.heap.size (fun _ => True) v0_ r ∧ Below w.heap.size w w' := by
 have hu59 := Try.underlying59
 have HR0 := Aside0.mk hr0
 have HC0 := Aside0.mk hc0
 clear hr0 hc0
 have HB := Aside0.mk (Below.refl w.heap.size w)
 have H : (impl_lengthsOf.l0 k (([] : List Int)) l0 (l0.length : Int) 0) = some r := h
 clear h
 obtain ⟨y246, hy246⟩ : ∃ y_ : List Int, y_ = (([] : List Int)) := ⟨_, rfl⟩
 replace H : (impl_lengthsOf.l0 k y246 l0 (l0.length : Int) 0) = some r := by first | (rw [hy246]; with_reducible exact H) | (have H2_ := (Option.bind_some _ _).symm.trans H; rw [hy246]; with_reducible exact H2_) | (have H2_ := (Option.bind_some _ _).symm.trans H; with_reducible exact H2_) | with_reducible exact H | (rw [hy246]; exact H) | exact H
 have Ny246 := Aside0.mk hy246
 clear hy246
 have H' := Aside0.mk H
 clear H
 go_enter Try.func65, Try.ntmps65
 go_wp2_with (first | ((with_reducible refine gate_dst (N := 6) rfl ?_); refine Kd.R_lit (Kd.int .i64) _ 3 ?hg (N := 6) ?hd (xs := ([] : List Int)) (inner := []) (ok := fun _ => True) (okp := fun _ => True) ?hr ?hp (fun _ hk => hk) trivial (Below.refl _ _) (Nat.le_refl _) (by simp) ?_; (case hd => rfl); (case hg => rfl); (case hr => first | (go_simp; done) | (go_simp; rfl)); (case hp => exact (Dw.none _ _)); intro v247 w2 ho3 hb hg_ hnew_; clear hg_ hnew_; (first | rw [← Ny246.out] at ho3 | (simp only [Int.reduceToNat] at ho3; rw [← Ny246.out] at ho3)); have n0_ := Aside0.mk (Kd.R_lower ho3 (below_size Ya_)); have n1_ := Aside0.mk (below_step Ya_ hb); clear HB; have HO248 := n0_; have HB := n1_; clear n0_ n1_; clear hb ho3))
 go_loopg [3, 9] k (fun kq v3 v9 w' => ∃ (x3_1 : List Int) (x9_1 : Int), v9 = .int .i64 x9_1 ∧ Aside0 (impl_lengthsOf.l0 kq x3_1 l0 (l0.length : Int) x9_1 = some r) ∧ Aside0 (kq ≤ k) ∧ Aside0 (Kd.R (Kd.int .i64) 3 w' w.heap.size (fun _ => True) v3 x3_1) ∧ Aside0 (Below w.heap.size w w'))
 case atStart => exact ⟨(y246), (0), Yd_, H', ⟨Nat.le_refl _⟩, ⟨by (with_reducible repeat (first | apply Kd.Ap | apply Kd.Am | apply Kd.Ba)); exact HO248.out⟩, ⟨by repeat (first | (with_reducible first | exact HB.out | apply Af | apply Ad | apply Ae) | exact HB.out)⟩⟩
 case round =>
  clear H'
  try clear p2
  obtain ⟨x3_1, x9_1, rfl, HA, HK1, HO_3, HB⟩ := hrel
  cases gk with
  | zero => exact absurd HA.out (by simp [impl_lengthsOf.l0])
  | succ k1 =>
   have H := HA.out
   clear HA
   simp only [impl_lengthsOf.l0] at H
   by_cases c4 : x9_1 < (l0.length : Int)
   ·rw [if_pos c4] at H
    have c4b0 : decide (x9_1 < (l0.length : Int)) = true := decide_eq_true c4
    clear c4
    by_cases c5 : 0 ≤ x9_1
    ·rw [if_pos c5] at H
     have c5b0 : decide (0 ≤ x9_1) = true := decide_eq_true c5
     clear c5
     by_cases c6 : x9_1 < (l0.length : Int)
     ·rw [if_pos c6] at H
      have c6b0 : decide (x9_1 < (l0.length : Int)) = true := decide_eq_true c6
      clear c6
      by_cases c7 : x3_1.length < 17592186044416
      ·rw [if_pos c7] at H
       have LMc7 := Aside0.mk c7
       clear c7
       obtain ⟨y251, hy251⟩ : ∃ y_ : List Int, y_ = (x3_1 ++ [wrap64 (((Ah l0 x9_1).f1) - ((Ah l0 x9_1).f0))]) := ⟨_, rfl⟩
       replace H : (impl_lengthsOf.l0 k1 y251 l0 (l0.length : Int) (wrap64 (x9_1 + 1))) = some r := by first | (rw [hy251]; with_reducible exact H) | (have H2_ := (Option.bind_some _ _).symm.trans H; rw [hy251]; with_reducible exact H2_) | (have H2_ := (Option.bind_some _ _).symm.trans H; with_reducible exact H2_) | with_reducible exact H | (rw [hy251]; exact H) | exact H
       have Ny251 := Aside0.mk hy251
       clear hy251
       have H' := Aside0.mk H
       clear H
       have p249 : 0 ≤ (x9_1 : Int) := of_decide_eq_true Yc_
       have q249 : x9_1 < (l0.length : Int) := of_decide_eq_true Yc_
       obtain ⟨ad249, e249, hx249_0, hx249_1, hx249_2⟩ := Ez HR0.out x9_1 p249 q249
       cases e249
       replace hx249_0 := (HB.out.cell (World.block_lt_of_cell? w _ hx249_0)).trans hx249_0
       replace hx249_1 := (HB.out.cell (World.block_lt_of_cell? w _ hx249_1)).trans hx249_1
       replace hx249_2 := (HB.out.cell (World.block_lt_of_cell? w _ hx249_2)).trans hx249_2
       replace p249 := eq_true p249
       replace q249 := eq_true q249
       go_wp2_with (first | ((with_reducible refine gate_dst (N := 5) rfl ?_); refine box_event ?hg (N := 5) ?hd (cs := #[.int .i64 0, .int .i64 0, .int .i64 0]) (t := 59) ?hr ?_; (case hd => rfl); (case hg => rfl); (case hr => first | (go_simp; done) | (go_simp; rfl)); intro gb0 hg w8 hbox hb; have n0_ := Aside0.mk (Kd.R_below Yg_ hb); have n1_ := Aside0.mk (below_step Ya_ hb); have n2_ := Aside0.mk (hbox); have n3_ := Aside0.mk ((by rw [hg]; exact (below_size Ya_) : w.heap.size ≤ gb0)); have n4_ := Aside0.mk ((by rw [hg]; exact (below_size Ya_) : w.heap.size ≤ gb0)); clear HO_3; clear HB; have HO_3 := n0_; have HB := n1_; have BK0 := n2_; have GW0 := n3_; have GE0 := n4_; clear n0_ n1_ n2_ n3_ n4_; clear hb hbox hg; have hcz9_0 : w8.cell? ⟨gb0, 0, none⟩ = some (.int .i64 0) := (blk_cell BK0.out 0).trans rfl; have hcz9_1 : w8.cell? ⟨gb0, 1, none⟩ = some (.int .i64 0) := (blk_cell BK0.out 1).trans rfl; have hcz9_2 : w8.cell? ⟨gb0, 2, none⟩ = some (.int .i64 0) := (blk_cell BK0.out 2).trans rfl; have hfz9_0 := blk_frozen BK0.out 0; have hfz9_1 := blk_frozen BK0.out 1; have hfz9_2 := blk_frozen BK0.out 2) | ((with_reducible refine H5 (b := .append) (xs := #[.tmp 13, .tmp 19]) rfl ?_); at_builtin; refine Kd.R_append (Kd.int .i64) (w0 := w) w.heap.size rfl (.tmp 13) (.tmp 19) 53 3 (.int .i64 0) 8 rfl Try.underlying53 info3 rfl (by decide) (by omega) u3 x3_1 (wrap64 (((Ah l0 x9_1).f1) - ((Ah l0 x9_1).f0))) [.int .i64 (wrap64 (((Ah l0 x9_1).f1) - ((Ah l0 x9_1).f0)))] (fun _ => True) (fun _ => False) rfl (by first | (go_simp; done) | (go_simp; rfl)) ?aP (fun _ hk => hk.elim) ?aF ?aO ?aB ?aS ?aL ?_; (case aP => exact rfl); (case aB => exact Yj_); (case aF => exact (fun _ _ => trivial)); (case aO => exact (by (with_reducible repeat (first | apply Kd.Ap | apply Kd.Am | apply Kd.Ba)); exact Kd.R_mono (Kd.Gw (p := ⟨gb0, 2, none⟩) (Kd.Gw (p := ⟨gb0, 1, none⟩) (Kd.Gw (p := ⟨gb0, 0, none⟩) (Kd.R_types HO_3.out BK0.out (by decide)) (fun _ hk => hk.2) (.int .i64 ((Ah l0 x9_1).f0))) (fun _ hk => hk.2) (.int .i64 ((Ah l0 x9_1).f1))) (fun _ hk => hk.2) (.int .i64 ((Ah l0 x9_1).f2))) (fun _ hk => trivial))); (case aS => exact (below_size Yj_)); (case aL => have := LMc7.out; omega); intro v252 w10 ho hb hg hat; rw [← Ny251.out] at ho; have n0_ := Aside0.mk (H8 (g := gb0) (o := .cells #[.int .i64 ((Ah l0 x9_1).f0), .int .i64 ((Ah l0 x9_1).f1), .int .i64 ((Ah l0 x9_1).f2)] 59 (0, 0)) (by (with_reducible repeat (first | refine Dn ?_ _ | refine Dv ?_ | refine Dl ?_ _)); refine blk_put (cs := #[.int .i64 ((Ah l0 x9_1).f0), .int .i64 ((Ah l0 x9_1).f1), .int .i64 0]) ?_ 2 _ rfl; (with_reducible repeat (first | refine Dn ?_ _ | refine Dv ?_ | refine Dl ?_ _)); refine blk_put (cs := #[.int .i64 ((Ah l0 x9_1).f0), .int .i64 0, .int .i64 0]) ?_ 1 _ rfl; (with_reducible repeat (first | refine Dn ?_ _ | refine Dv ?_ | refine Dl ?_ _)); refine blk_put (cs := #[.int .i64 0, .int .i64 0, .int .i64 0]) ?_ 0 _ rfl; (with_reducible repeat (first | refine Dn ?_ _ | refine Dv ?_ | refine Dl ?_ _)); exact BK0.out) hg (Kd.R_ne HO_3.out BK0.out (by decide))); have n1_ := Aside0.mk (hb); have n2_ := Aside0.mk (ho); clear BK0; clear HB; clear HO_3; have BK0 := n0_; have HB := n1_; have HO253 := n2_; clear n0_ n1_ n2_; clear ho hb hg hat))
       go_roundg k1
       case measure => have := HK1.out; omega
       case rel => exact ⟨(y251), (wrap64 (x9_1 + 1)), Yd_, H', ⟨by have := HK1.out; omega⟩, ⟨by (with_reducible repeat (first | apply Kd.Ap | apply Kd.Am | apply Kd.Ba)); exact HO253.out⟩, ⟨by repeat (first | (with_reducible first | exact HB.out | apply Af | apply Ad | apply Ae | refine Ar ?_ GE0.out) | exact HB.out)⟩⟩
      ·rw [if_neg c7] at H
       exact absurd H (by simp)
     ·rw [if_neg c6] at H
      exact absurd H (by simp)
    ·rw [if_neg c5] at H
     exact absurd H (by simp)
   ·rw [if_neg c4] at H
    have c4b0 : decide (x9_1 < (l0.length : Int)) = false := decide_eq_false c4
    clear c4
    obtain rfl := Option.some.inj H
    go_wp2
    go_ret
    exact ⟨_, by first | rfl | (simp [Aw, Az] <;> rfl) | (simp [*, Aw, Az] <;> rfl), by (with_reducible repeat (first | apply Kd.Ap | apply Kd.Am | apply Kd.Ba)); exact HO_3.out, by repeat (first | (with_reducible first | exact HB.out | apply Af | apply Ad | apply Ae) | exact HB.out)⟩
end Go.Proofs.Ytolaplcjbmjlmaa.X

namespace Go.Proofs.Ytolaplcjbmjlmaa.X
open Go.RowKit Go.Proofs.YtolaplcjbmjlmaaW.PrintWords Go.Proofs.YtolaplcjbmjlmaaW.PrintLast Go.Proofs.YtolaplcjbmjlmaaW.PrintMore
attribute [local go_sem] max2_int min2_int max_two min_two max_three min_three max_four min_four
def Cc.j0 : Nat → List (S59) → Bool → Option (Int × Int × Bool)
 | 0, _, _ => none
 | k + 1, x0, x14 => if x14 = true then (some (0, 0, false)) else ((impl_lengthsOf.f k x0).bind fun t255 => ((Em.f k t255).bind fun t258 => ((Df.f k t258 (x0.length : Int)).bind fun bt259 => (some (bt259.1, bt259.2, true)))))
def Cc.f (k : Nat) (l0 : List (S59)) : Option (Int × Int × Bool) := (impl_IsValidStays.f l0).bind fun t254 => (if t254 = true then (Cc.j0 k l0 ((l0.length : Int) == 0)) else (Cc.j0 k l0 true))
theorem Cc.Dq : ∀ k, (∀ y0 y1, LeO (Cc.j0 k y0 y1) (Cc.j0 (k + 1) y0 y1))
 | 0 => fun _ _ r h => by simp [Cc.j0] at h
 | k + 1 => by
  have ih0 := Cc.Dq k
  ·intro y0 y1
   unfold Cc.j0
   repeat' first
   | (with_reducible exact ih0 _ _)
   | (with_reducible exact Df.mono _ _ _)
   | (with_reducible exact impl_lengthsOf.mono _ _)
   | (with_reducible exact Em.mono _ _)
   | (with_reducible exact LeO.refl _)
   | (with_reducible exact LeO.none _)
   | (with_reducible refine LeO.ite ?_ ?_)
   | (with_reducible refine LeO.bind ?_ (fun _ => ?_))
   | exact ih0 _ _
   | exact Df.mono _ _ _
   | exact impl_lengthsOf.mono _ _
   | exact Em.mono _ _
   | exact LeO.none _
   | refine LeO.ite ?_ ?_
   | refine LeO.bind ?_ (fun _ => ?_)
theorem Cc.mono : ∀ a0 k, LeO (Cc.f k a0) (Cc.f (k + 1) a0) := by
 intro a0 k
 have ih0 := Cc.Dq k
 unfold Cc.f
 repeat' first
   | (with_reducible exact ih0 _ _)
   | (with_reducible exact Df.mono _ _ _)
   | (with_reducible exact impl_lengthsOf.mono _ _)
   | (with_reducible exact Em.mono _ _)
   | (with_reducible exact LeO.refl _)
   | (with_reducible exact LeO.none _)
   | (with_reducible refine LeO.ite ?_ ?_)
   | (with_reducible refine LeO.bind ?_ (fun _ => ?_))
   | exact ih0 _ _
   | exact Df.mono _ _ _
   | exact impl_lengthsOf.mono _ _
   | exact Em.mono _ _
   | exact LeO.none _
   | refine LeO.ite ?_ ?_
   | refine LeO.bind ?_ (fun _ => ?_)
set_option maxHeartbeats 8000000 in
set_option maxRecDepth 100000 in
theorem Cc.calls (k : Nat) (A0 : Option Addr) (c0 : Nat) (l0 : List (S59)) (r1 : Int) (r2 : Int) (r3 : Bool) (w : World) (hr0 : Kd.C k59 w A0 l0.length l0) (hc0 : l0.length ≤ c0) (h : Cc.f k l0 = some (r1, r2, r3)) :
  Calls Try.prog 28 #[.slice A0 l0.length c0] w fun e w' => e = .returned (.tuple #[.int .i64 r1, .int .i64 r2, .bool r3]) ∧ Below w.heap.size w w' := by
 have HR0 := Aside0.mk hr0
 have HC0 := Aside0.mk hc0
 clear hr0 hc0
 have HB := Aside0.mk (Below.refl w.heap.size w)
 have H : ((impl_IsValidStays.f l0).bind fun t254 => (if t254 = true then (Cc.j0 k l0 ((l0.length : Int) == 0)) else (Cc.j0 k l0 true))) = some (r1, r2, r3) := h
 clear h
 have HC2 := Aside0.mk H
 clear H
 go_enter Try.func28, Try.ntmps28
 go_upto_region 1 with (fail)
 go_cut [14] (fun v14 wc => ∃ (kq : Nat) (x14_1 : Bool), v14 = .bool x14_1 ∧ Aside0 (Cc.j0 kq l0 x14_1 = some (r1, r2, r3)) ∧ Aside0 (kq ≤ k) ∧ Aside0 (Below w.heap.size w wc))
 case first =>
  have H := HC2.out
  clear HC2
  replace H := Option.bind_eq_some_iff.mp H
  obtain ⟨t254, A30, H⟩ := H
  replace H : (if t254 = true then (Cc.j0 k l0 ((l0.length : Int) == 0)) else (Cc.j0 k l0 true)) = some (r1, r2, r3) := H
  have A3 := Aside0.mk A30
  clear A30
  by_cases c4 : t254 = true
  ·subst c4
   have H1 : (Cc.j0 k l0 ((l0.length : Int) == 0)) = some (r1, r2, r3) := by rw [if_pos rfl] at H; exact H
   clear H
   have H := H1
   clear H1
   have H' := Aside0.mk H
   clear H
   go_wp2_with (first | ((with_reducible refine gate_callee (f := 19) rfl ?_); refine goesL_ (some 8) rfl rfl Try.func19 (by kernel_rfl) rfl #[.slice A0 l0.length c0] rfl Yb_ ?_; (with_reducible refine (impl_IsValidStays.calls _ _ l0 true _ ?side1 ?side2 A3.out).mono ?_); (case side1 => repeat (first | exact (Kd.C_below HR0.out HB.out) | (with_reducible refine Kd.Be ?_ _) | (with_reducible refine Kd.Bf ?_ _) | (with_reducible refine Kd.Bh ?_))); (case side2 => exact HC0.out); rintro e w5 ⟨rfl, hb⟩; refine ⟨_, rfl, ?_⟩; have n0_ := Aside0.mk (below_step Ya_ hb); clear HB; have HB := n0_; clear n0_; (try clear hb); (try clear hb2); (try clear hk); (try clear hi)))
   go_meet
   case rel => exact ⟨_, (((l0.length : Int) == 0)), Yd_, H', ⟨by first | omega | exact Nat.le_refl _⟩, ⟨by repeat (first | (with_reducible first | exact HB.out | apply Af | apply Ad | apply Ae) | exact HB.out)⟩⟩
  ·replace c4 := Bool.eq_false_iff.mpr c4
   subst c4
   have H1 : (Cc.j0 k l0 true) = some (r1, r2, r3) := by rw [if_neg (show ¬ (false = true) by decide)] at H; exact H
   clear H
   have H := H1
   clear H1
   have H' := Aside0.mk H
   clear H
   go_wp2_with (first | ((with_reducible refine gate_callee (f := 19) rfl ?_); refine goesL_ (some 8) rfl rfl Try.func19 (by kernel_rfl) rfl #[.slice A0 l0.length c0] rfl Yb_ ?_; (with_reducible refine (impl_IsValidStays.calls _ _ l0 false _ ?side1 ?side2 A3.out).mono ?_); (case side1 => repeat (first | exact (Kd.C_below HR0.out HB.out) | (with_reducible refine Kd.Be ?_ _) | (with_reducible refine Kd.Bf ?_ _) | (with_reducible refine Kd.Bh ?_))); (case side2 => exact HC0.out); rintro e w6 ⟨rfl, hb⟩; refine ⟨_, rfl, ?_⟩; have n0_ := Aside0.mk (below_step Ya_ hb); clear HB; have HB := n0_; clear n0_; (try clear hb); (try clear hb2); (try clear hk); (try clear hi)))
   go_meet
   case rel => exact ⟨_, (true), Yd_, H', ⟨by first | omega | exact Nat.le_refl _⟩, ⟨by repeat (first | (with_reducible first | exact HB.out | apply Af | apply Ad | apply Ae) | exact HB.out)⟩⟩
 case rest =>
  clear HC2
  try clear c1
  try clear c2
  try clear p2
  try clear c4
  obtain ⟨kq, x14_1, rfl, HA, HJ1, HB⟩ := hcut
  cases kq with
  | zero => exact absurd HA.out (by simp [Cc.j0])
  | succ kj1 =>
   have H := HA.out
   clear HA
   simp only [Cc.j0] at H
   by_cases c7 : x14_1 = true
   ·subst c7
    have H1 : (some (0, 0, false)) = some (r1, r2, r3) := by rw [if_pos rfl] at H; exact H
    clear H
    have H := H1
    clear H1
    simp only [Option.some.injEq, Prod.mk.injEq] at H
    obtain ⟨rfl, rfl, rfl⟩ := H
    go_wp2
    go_ret3
    exact ⟨by first | rfl | (simp [Aw, Az] <;> rfl) | (simp [*, Aw, Az] <;> rfl), by repeat (first | (with_reducible first | exact HB.out | apply Af | apply Ad | apply Ae) | exact HB.out)⟩
   ·replace c7 := Bool.eq_false_iff.mpr c7
    subst c7
    have H1 : ((impl_lengthsOf.f kj1 l0).bind fun t255 => ((Em.f kj1 t255).bind fun t258 => ((Df.f kj1 t258 (l0.length : Int)).bind fun bt259 => (some (bt259.1, bt259.2, true))))) = some (r1, r2, r3) := by rw [if_neg (show ¬ (false = true) by decide)] at H; exact H
    clear H
    have H := H1
    clear H1
    replace H := Option.bind_eq_some_iff.mp H
    obtain ⟨t255, A80, H⟩ := H
    replace H : ((Em.f kj1 t255).bind fun t258 => ((Df.f kj1 t258 (l0.length : Int)).bind fun bt259 => (some (bt259.1, bt259.2, true)))) = some (r1, r2, r3) := H
    have A8 := Aside0.mk A80
    clear A80
    replace H := Option.bind_eq_some_iff.mp H
    obtain ⟨t258, A90, H⟩ := H
    replace H : ((Df.f kj1 t258 (l0.length : Int)).bind fun bt259 => (some (bt259.1, bt259.2, true))) = some (r1, r2, r3) := H
    have A9 := Aside0.mk A90
    clear A90
    replace H := Option.bind_eq_some_iff.mp H
    obtain ⟨⟨t259, t260⟩, A100, H⟩ := H
    replace H : (some (t259, t260, true)) = some (r1, r2, r3) := H
    have A10 := Aside0.mk A100
    clear A100
    simp only [Option.some.injEq, Prod.mk.injEq] at H
    obtain ⟨rfl, rfl, rfl⟩ := H
    go_wp2_with (first | ((with_reducible refine gate_callee (f := 65) rfl ?_); refine goesL_ (some 17) rfl rfl Try.func65 (by kernel_rfl) rfl #[.slice A0 l0.length c0] rfl Yb_ ?_; (with_reducible refine (impl_lengthsOf.calls kj1 _ _ l0 t255 _ ?side1 ?side2 A8.out).mono ?_); (case side1 => repeat (first | exact (Kd.C_below HR0.out HB.out) | (with_reducible refine Kd.Be ?_ _) | (with_reducible refine Kd.Bf ?_ _) | (with_reducible refine Kd.Bh ?_))); (case side2 => exact HC0.out); rintro e w11 ⟨v256, rfl, ho0, hb⟩; refine ⟨_, rfl, ?_⟩; have n0_ := Aside0.mk (Kd.R_lower ho0 (below_size Ya_)); have n1_ := Aside0.mk (below_step Ya_ hb); clear HB; have HO257 := n0_; have HB := n1_; clear n0_ n1_; (try clear hb); (try clear hb2); (try clear hk); (try clear hi); (try clear ho0); obtain ⟨Ao12, co12, eo12⟩ := Kd.R_slice HO257.out; subst eo12) | ((with_reducible refine gate_callee (f := 64) rfl ?_); refine goesL_ (some 18) rfl rfl Try.func64 (by kernel_rfl) rfl #[.slice Ao12 t255.length co12] rfl Yb_ ?_; (with_reducible refine (Em.calls kj1 _ _ t255 t258 _ ?side1 ?side2 A9.out).mono ?_); (case side1 => repeat (first | exact (Kd.R_reads' HO257.out).2.2 | (with_reducible refine Kd.Be ?_ _) | (with_reducible refine Kd.Bf ?_ _) | (with_reducible refine Kd.Bh ?_))); (case side2 => exact (Kd.R_reads' HO257.out).2.1); rintro e w' ⟨rfl, ⟨nd, rfl⟩⟩; refine ⟨_, rfl, ?_⟩) | ((with_reducible refine gate_callee (f := 62) rfl ?_); refine goesL_ (some 21) rfl rfl Try.func62 (by kernel_rfl) rfl #[.int .i64 t258, .int .i64 (l0.length : Int)] rfl Yb_ ?_; (with_reducible refine (Df.calls kj1 t258 (l0.length : Int) t259 t260 _ A10.out).mono ?_); rintro e w' ⟨rfl, ⟨nd, rfl⟩⟩; refine ⟨_, rfl, ?_⟩))
    go_ret3
    exact ⟨by first | rfl | (simp [Aw, Az] <;> rfl) | (simp [*, Aw, Az] <;> rfl), by repeat (first | (with_reducible first | exact HB.out | apply Af | apply Ad | apply Ae) | exact HB.out)⟩
end Go.Proofs.Ytolaplcjbmjlmaa.X

namespace Go.Proofs.Ytolaplcjbmjlmaa.X
open Go.RowKit Go.Proofs.YtolaplcjbmjlmaaW.PrintWords Go.Proofs.YtolaplcjbmjlmaaW.PrintLast Go.Proofs.YtolaplcjbmjlmaaW.PrintMore
attribute [local go_sem] max2_int min2_int max_two min_two max_three min_three max_four min_four
mutual
def Bi.l0 : Nat → List (S59) → List (List Int) → Int → Option ((List (List Int)) × Bool)
 | 0, _, _, _ => none
 | k + 1, x0, x4, x5 => if x5 ≤ 9 then (Bi.l1 k x0 x4 x5 0 0) else (some (x4, true))
def Bi.l1 : Nat → List (S59) → List (List Int) → Int → Int → Int → Option ((List (List Int)) × Bool)
 | 0, _, _, _, _, _ => none
 | k + 1, x0, x4, x5, x6, x7 => if x7 < (x0.length : Int) then (if 0 ≤ x7 then (if ((Ah x0 x7).f2) = x5 then (Bi.l1 k x0 x4 x5 (wrap64 (x6 + 1)) (wrap64 (x7 + 1))) else (Bi.l1 k x0 x4 x5 x6 (wrap64 (x7 + 1)))) else (none)) else (if x6 > 0 then ((Dk.f k x6 (x0.length : Int)).bind fun bt283 => (if x4.length < 5864062014805 then (Bi.l0 k x0 (x4 ++ [(([x5, bt283.1, bt283.2] : List Int))]) (wrap64 (x5 + 1))) else (none))) else (Bi.l0 k x0 x4 (wrap64 (x5 + 1))))
end
def Bi.f (k : Nat) (l0 : List (S59)) : Option ((List (List Int)) × Bool) := (some (([] : List (List Int)) : List (List Int))).bind fun y278 => ((Aq.f k l0).bind fun t281 => (if t281 = true then (Bi.l0 k l0 y278 1) else (some (y278, false))))
theorem Bi.Dq : ∀ k, (∀ y0 y1 y2, LeO (Bi.l0 k y0 y1 y2) (Bi.l0 (k + 1) y0 y1 y2)) ∧ (∀ y0 y1 y2 y3 y4, LeO (Bi.l1 k y0 y1 y2 y3 y4) (Bi.l1 (k + 1) y0 y1 y2 y3 y4))
 | 0 => ⟨fun _ _ _ r h => by simp [Bi.l0] at h, fun _ _ _ _ _ r h => by simp [Bi.l1] at h⟩
 | k + 1 => by
  obtain ⟨ih0, ih1⟩ := Bi.Dq k
  refine ⟨?_, ?_⟩
  ·intro y0 y1 y2
   unfold Bi.l0
   repeat' first
   | (with_reducible exact ih0 _ _ _)
   | (with_reducible exact ih1 _ _ _ _ _)
   | (with_reducible exact Dk.mono _ _ _)
   | (with_reducible exact Aq.mono _ _)
   | (with_reducible exact LeO.refl _)
   | (with_reducible exact LeO.none _)
   | (with_reducible refine LeO.ite ?_ ?_)
   | (with_reducible refine LeO.bind ?_ (fun _ => ?_))
   | exact ih0 _ _ _
   | exact ih1 _ _ _ _ _
   | exact Dk.mono _ _ _
   | exact Aq.mono _ _
   | exact LeO.none _
   | refine LeO.ite ?_ ?_
   | refine LeO.bind ?_ (fun _ => ?_)
  ·intro y0 y1 y2 y3 y4
   unfold Bi.l1
   repeat' first
   | (with_reducible exact ih0 _ _ _)
   | (with_reducible exact ih1 _ _ _ _ _)
   | (with_reducible exact Dk.mono _ _ _)
   | (with_reducible exact Aq.mono _ _)
   | (with_reducible exact LeO.refl _)
   | (with_reducible exact LeO.none _)
   | (with_reducible refine LeO.ite ?_ ?_)
   | (with_reducible refine LeO.bind ?_ (fun _ => ?_))
   | exact ih0 _ _ _
   | exact ih1 _ _ _ _ _
   | exact Dk.mono _ _ _
   | exact Aq.mono _ _
   | exact LeO.none _
   | refine LeO.ite ?_ ?_
   | refine LeO.bind ?_ (fun _ => ?_)
theorem Bi.mono : ∀ a0 k, LeO (Bi.f k a0) (Bi.f (k + 1) a0) := by
 intro a0 k
 obtain ⟨ih0, ih1⟩ := Bi.Dq k
 unfold Bi.f
 repeat' first
   | (with_reducible exact ih0 _ _ _)
   | (with_reducible exact ih1 _ _ _ _ _)
   | (with_reducible exact Dk.mono _ _ _)
   | (with_reducible exact Aq.mono _ _)
   | (with_reducible exact LeO.refl _)
   | (with_reducible exact LeO.none _)
   | (with_reducible refine LeO.ite ?_ ?_)
   | (with_reducible refine LeO.bind ?_ (fun _ => ?_))
   | exact ih0 _ _ _
   | exact ih1 _ _ _ _ _
   | exact Dk.mono _ _ _
   | exact Aq.mono _ _
   | exact LeO.none _
   | refine LeO.ite ?_ ?_
   | refine LeO.bind ?_ (fun _ => ?_)
set_option maxHeartbeats 8000000 in
set_option maxRecDepth 100000 in
theorem Bi.calls (k : Nat) (A0 : Option Addr) (c0 : Nat) (l0 : List (S59)) (r1 : List (List Int)) (r2 : Bool) (w : World) (hr0 : Kd.C k59 w A0 l0.length l0) (hc0 : l0.length ≤ c0) (h : Bi.f k l0 = some (r1, r2)) :
  Calls Try.prog 29 #[.slice A0 l0.length c0] w fun e w' => ∃ v0_ : Value, e = .returned (.tuple #[v0_, .bool r2]) ∧ Kd.S (Kd.slice 3 (Kd.int .i64)) 53 w' w.heap.size (fun _ => True) v0_ r1 ∧ Below w.heap.size w w' := by
 have HR0 := Aside0.mk hr0
 have HC0 := Aside0.mk hc0
 clear hr0 hc0
 have HB := Aside0.mk (Below.refl w.heap.size w)
 have H : ((some (([] : List (List Int)) : List (List Int))).bind fun y278 => ((Aq.f k l0).bind fun t281 => (if t281 = true then (Bi.l0 k l0 y278 1) else (some (y278, false))))) = some (r1, r2) := h
 clear h
 obtain ⟨y278, hy278⟩ : ∃ y_ : List (List Int), y_ = (([] : List (List Int))) := ⟨_, rfl⟩
 replace H : ((Aq.f k l0).bind fun t281 => (if t281 = true then (Bi.l0 k l0 y278 1) else (some (y278, false)))) = some (r1, r2) := by first | (rw [hy278]; with_reducible exact H) | (have H2_ := (Option.bind_some _ _).symm.trans H; rw [hy278]; with_reducible exact H2_) | (have H2_ := (Option.bind_some _ _).symm.trans H; with_reducible exact H2_) | with_reducible exact H | (rw [hy278]; exact H) | exact H
 have Ny278 := Aside0.mk hy278
 clear hy278
 replace H := Option.bind_eq_some_iff.mp H
 obtain ⟨t281, A20, H⟩ := H
 replace H : (if t281 = true then (Bi.l0 k l0 y278 1) else (some (y278, false))) = some (r1, r2) := H
 have A2 := Aside0.mk A20
 clear A20
 by_cases c3 : t281 = true
 ·subst c3
  have H1 : (Bi.l0 k l0 y278 1) = some (r1, r2) := by rw [if_pos rfl] at H; exact H
  clear H
  have H := H1
  clear H1
  have H' := Aside0.mk H
  clear H
  go_enter Try.func29, Try.ntmps29
  go_wp2_with (first | ((with_reducible refine gate_dst (N := 10) rfl ?_); refine Kd.S_lit (Kd.slice 3 (Kd.int .i64)) _ 53 ?hg (N := 10) ?hd (xs := ([] : List (List Int))) (inner := []) (ok := fun _ => True) (okp := fun _ => True) ?hr ?hp (fun _ hk => hk) trivial (Below.refl _ _) (Nat.le_refl _) (by simp) ?_; (case hd => rfl); (case hg => rfl); (case hr => first | (go_simp; done) | (go_simp; rfl)); (case hp => exact (Dw.none _ _)); intro v279 w4 ho5 hb hg_ hnew_; clear hg_ hnew_; (first | rw [← Ny278.out] at ho5 | (simp only [Int.reduceToNat] at ho5; rw [← Ny278.out] at ho5)); have n0_ := Aside0.mk (Kd.S_lower ho5 (below_size Ya_)); have n1_ := Aside0.mk (below_step Ya_ hb); clear HB; have HO280 := n0_; have HB := n1_; clear n0_ n1_; clear hb ho5) | ((with_reducible refine gate_callee (f := 54) rfl ?_); refine goesL_ (some 12) rfl rfl Try.func54 (by kernel_rfl) rfl #[.slice A0 l0.length c0] rfl Yb_ ?_; (with_reducible refine (Aq.calls k _ _ l0 true _ ?side1 ?side2 A2.out).mono ?_); (case side1 => repeat (first | exact (Kd.C_below HR0.out HB.out) | (with_reducible refine Kd.Be ?_ _) | (with_reducible refine Kd.Bf ?_ _) | (with_reducible refine Kd.Bh ?_))); (case side2 => exact HC0.out); rintro e w6 ⟨rfl, hb⟩; refine ⟨_, rfl, ?_⟩; have n0_ := Aside0.mk (Kd.S_below (by (with_reducible repeat (first | apply Kd.Fp | apply Kd.Fq | apply Kd.F7)); exact HO280.out) hb); have n1_ := Aside0.mk (below_step Ya_ hb); clear HO280; clear HB; have HO280 := n0_; have HB := n1_; clear n0_ n1_; (try clear hb); (try clear hb2); (try clear hk); (try clear hi)))
  go_loopg [4, 5] k (fun kq v4 v5 w' => ∃ (x4_1 : List (List Int)) (x5_1 : Int), v5 = .int .i64 x5_1 ∧ Aside0 (Bi.l0 kq l0 x4_1 x5_1 = some (r1, r2)) ∧ Aside0 (kq ≤ k) ∧ Aside0 (Kd.S (Kd.slice 3 (Kd.int .i64)) 53 w' w.heap.size (fun _ => True) v4 x4_1) ∧ Aside0 (Below w.heap.size w w'))
  case atStart => exact ⟨(y278), (1), Yd_, H', ⟨Nat.le_refl _⟩, ⟨by (with_reducible repeat (first | apply Kd.Fp | apply Kd.Fq | apply Kd.F7)); exact HO280.out⟩, ⟨by repeat (first | (with_reducible first | exact HB.out | apply Af | apply Ad | apply Ae) | exact HB.out)⟩⟩
  case round =>
   clear H'
   try clear c2
   try clear p2
   try clear c3
   try clear c5
   obtain ⟨x4_1, x5_1, rfl, HA, HK1, HO_4, HB⟩ := hrel
   cases gk with
   | zero => exact absurd HA.out (by simp [Bi.l0])
   | succ k1 =>
    have H := HA.out
    clear HA
    simp only [Bi.l0] at H
    by_cases c7 : x5_1 ≤ 9
    ·rw [if_pos c7] at H
     have c7b0 : decide (x5_1 ≤ 9) = true := decide_eq_true c7
     clear c7
     have H' := Aside0.mk H
     clear H
     go_wp2
     go_loopg [6, 7] k1 (fun kq v6 v7 w' => ∃ (x6_2 : Int) (x7_2 : Int), v6 = .int .i64 x6_2 ∧ v7 = .int .i64 x7_2 ∧ Aside0 (Bi.l1 kq l0 x4_1 x5_1 x6_2 x7_2 = some (r1, r2)) ∧ Aside0 (kq ≤ k1) ∧ Aside0 (Kd.S (Kd.slice 3 (Kd.int .i64)) 53 w' w.heap.size (fun _ => True) u4 x4_1) ∧ Aside0 (Below w.heap.size w w'))
     case atStart => exact ⟨(0), (0), Yd_, Yd_, H', ⟨Nat.le_refl _⟩, ⟨by (with_reducible repeat (first | apply Kd.Fp | apply Kd.Fq | apply Kd.F7)); exact HO_4.out⟩, ⟨by repeat (first | (with_reducible first | exact HB.out | apply Af | apply Ad | apply Ae) | exact HB.out)⟩⟩
     case round =>
      clear H'
      try clear c2
      try clear p2
      try clear c3
      try clear c5
      try clear c7
      try clear c7b0
      try clear p2
      obtain ⟨x6_2, x7_2, rfl, rfl, HA, HK2, HO_4, HB⟩ := hrel
      cases gk with
      | zero => exact absurd HA.out (by simp [Bi.l1])
      | succ k2 =>
       have H := HA.out
       clear HA
       simp only [Bi.l1] at H
       by_cases c8 : x7_2 < (l0.length : Int)
       ·rw [if_pos c8] at H
        have c8b0 : decide (x7_2 < (l0.length : Int)) = true := decide_eq_true c8
        clear c8
        by_cases c9 : 0 ≤ x7_2
        ·rw [if_pos c9] at H
         have c9b0 : decide (0 ≤ x7_2) = true := decide_eq_true c9
         clear c9
         by_cases c10 : ((Ah l0 x7_2).f2) = x5_1
         ·rw [if_pos c10] at H
          have c10b0 : (((Ah l0 x7_2).f2) == x5_1) = true := beq_iff_eq.mpr c10
          have c10b1 : (((Ah l0 x7_2).f2) != x5_1) = false := bne_eq_false_iff_eq.mpr c10
          clear c10
          have H' := Aside0.mk H
          clear H
          have p282 : 0 ≤ (x7_2 : Int) := of_decide_eq_true Yc_
          have q282 : x7_2 < (l0.length : Int) := of_decide_eq_true Yc_
          obtain ⟨ad282, e282, hx282_0, hx282_1, hx282_2⟩ := Ez HR0.out x7_2 p282 q282
          cases e282
          replace hx282_0 := (HB.out.cell (World.block_lt_of_cell? w _ hx282_0)).trans hx282_0
          replace hx282_1 := (HB.out.cell (World.block_lt_of_cell? w _ hx282_1)).trans hx282_1
          replace hx282_2 := (HB.out.cell (World.block_lt_of_cell? w _ hx282_2)).trans hx282_2
          replace p282 := eq_true p282
          replace q282 := eq_true q282
          go_wp2
          go_roundg k2
          case measure => have := HK1.out; have := HK2.out; omega
          case rel => exact ⟨(wrap64 (x6_2 + 1)), (wrap64 (x7_2 + 1)), Yd_, Yd_, H', ⟨by have := HK1.out; have := HK2.out; omega⟩, ⟨by (with_reducible repeat (first | apply Kd.Fp | apply Kd.Fq | apply Kd.F7)); exact HO_4.out⟩, ⟨by repeat (first | (with_reducible first | exact HB.out | apply Af | apply Ad | apply Ae) | exact HB.out)⟩⟩
         ·rw [if_neg c10] at H
          have c10b0 : (((Ah l0 x7_2).f2) == x5_1) = false := beq_eq_false_iff_ne.mpr c10
          have c10b1 : (((Ah l0 x7_2).f2) != x5_1) = true := bne_iff_ne.mpr c10
          have H' := Aside0.mk H
          clear H
          have p282 : 0 ≤ (x7_2 : Int) := of_decide_eq_true Yc_
          have q282 : x7_2 < (l0.length : Int) := of_decide_eq_true Yc_
          obtain ⟨ad282, e282, hx282_0, hx282_1, hx282_2⟩ := Ez HR0.out x7_2 p282 q282
          cases e282
          replace hx282_0 := (HB.out.cell (World.block_lt_of_cell? w _ hx282_0)).trans hx282_0
          replace hx282_1 := (HB.out.cell (World.block_lt_of_cell? w _ hx282_1)).trans hx282_1
          replace hx282_2 := (HB.out.cell (World.block_lt_of_cell? w _ hx282_2)).trans hx282_2
          replace p282 := eq_true p282
          replace q282 := eq_true q282
          go_wp2
          go_roundg k2
          case measure => have := HK1.out; have := HK2.out; omega
          case rel => exact ⟨(x6_2), (wrap64 (x7_2 + 1)), Yd_, Yd_, H', ⟨by have := HK1.out; have := HK2.out; omega⟩, ⟨by (with_reducible repeat (first | apply Kd.Fp | apply Kd.Fq | apply Kd.F7)); exact HO_4.out⟩, ⟨by repeat (first | (with_reducible first | exact HB.out | apply Af | apply Ad | apply Ae) | exact HB.out)⟩⟩
        ·rw [if_neg c9] at H
         exact absurd H (by simp)
       ·rw [if_neg c8] at H
        have c8b0 : decide (x7_2 < (l0.length : Int)) = false := decide_eq_false c8
        clear c8
        by_cases c11 : x6_2 > 0
        ·rw [if_pos c11] at H
         have c11b0 : decide (0 < x6_2) = true := decide_eq_true c11
         clear c11
         replace H := Option.bind_eq_some_iff.mp H
         obtain ⟨⟨t283, t284⟩, A120, H⟩ := H
         replace H : (if x4_1.length < 5864062014805 then (Bi.l0 k2 l0 (x4_1 ++ [(([x5_1, t283, t284] : List Int))]) (wrap64 (x5_1 + 1))) else (none)) = some (r1, r2) := H
         have A12 := Aside0.mk A120
         clear A120
         obtain ⟨y285, hy285⟩ : ∃ y_ : List Int, y_ = (([x5_1, t283, t284] : List Int)) := ⟨_, rfl⟩
         replace H : (if x4_1.length < 5864062014805 then (Bi.l0 k2 l0 (x4_1 ++ [y285]) (wrap64 (x5_1 + 1))) else (none)) = some (r1, r2) := by first | (rw [hy285]; with_reducible exact H) | (have H2_ := (Option.bind_some _ _).symm.trans H; rw [hy285]; with_reducible exact H2_) | (have H2_ := (Option.bind_some _ _).symm.trans H; with_reducible exact H2_) | with_reducible exact H | (rw [hy285]; exact H) | exact H
         have Ny285 := Aside0.mk hy285
         clear hy285
         by_cases c13 : x4_1.length < 5864062014805
         ·rw [if_pos c13] at H
          have LMc13 := Aside0.mk c13
          clear c13
          obtain ⟨y288, hy288⟩ : ∃ y_ : List (List Int), y_ = (x4_1 ++ [y285]) := ⟨_, rfl⟩
          replace H : (Bi.l0 k2 l0 y288 (wrap64 (x5_1 + 1))) = some (r1, r2) := by first | (rw [hy288]; with_reducible exact H) | (have H2_ := (Option.bind_some _ _).symm.trans H; rw [hy288]; with_reducible exact H2_) | (have H2_ := (Option.bind_some _ _).symm.trans H; with_reducible exact H2_) | with_reducible exact H | (rw [hy288]; exact H) | exact H
          have Ny288 := Aside0.mk hy288
          clear hy288
          have H' := Aside0.mk H
          clear H
          go_wp2_with (first | ((with_reducible refine gate_callee (f := 61) rfl ?_); refine goesL_ (some 40) rfl rfl Try.func61 (by kernel_rfl) rfl #[.int .i64 x6_2, .int .i64 (l0.length : Int)] rfl Yb_ ?_; (with_reducible refine (Dk.calls k2 x6_2 (l0.length : Int) t283 t284 _ A12.out).mono ?_); rintro e w' ⟨rfl, ⟨nd, rfl⟩⟩; refine ⟨_, rfl, ?_⟩) | ((with_reducible refine gate_dst (N := 47) rfl ?_); refine Kd.R_lit (Kd.int .i64) _ 3 ?hg (N := 47) ?hd (xs := ([x5_1, t283, t284] : List Int)) (inner := [.int .i64 x5_1, .int .i64 t283, .int .i64 t284]) (ok := fun _ => True) (okp := fun _ => True) ?hr ?hp (fun _ hk => hk) trivial (Below.refl _ _) (Nat.le_refl _) (by simp) ?_; (case hd => rfl); (case hg => rfl); (case hr => first | (go_simp; done) | (go_simp; rfl)); (case hp => exact (Dw.one (show Kd.M (Kd.int .i64) _ _ _ x5_1 [.int .i64 x5_1] from rfl) (Dw.one (show Kd.M (Kd.int .i64) _ _ _ t283 [.int .i64 t283] from rfl) (Dw.one (show Kd.M (Kd.int .i64) _ _ _ t284 [.int .i64 t284] from rfl) (Dw.none _ _))))); intro v286 w14 ho15 hb hg_ hnew_; clear hg_ hnew_; (first | rw [← Ny285.out] at ho15 | (simp only [Int.reduceToNat] at ho15; rw [← Ny285.out] at ho15)); have n0_ := Aside0.mk (Kd.S_elder' Ydi_ (Kd.Gv ho15) hb); have n1_ := Aside0.mk (Kd.R_lower ho15 (below_size Ya_)); have n2_ := Aside0.mk (below_step Ya_ hb); clear HO_4; clear HB; have HO_4 := n0_; have HO287 := n1_; have HB := n2_; clear n0_ n1_ n2_; clear hb ho15; obtain ⟨Ao17, co17, eo17⟩ := Kd.R_slice HO287.out; subst eo17) | ((with_reducible refine H5 (b := .append) (xs := #[.tmp 43, .tmp 48]) rfl ?_); at_builtin; refine Kd.S_append (Kd.slice 3 (Kd.int .i64)) (w0 := w) w.heap.size rfl (.tmp 43) (.tmp 48) 38 53 (.slice none 0 0) 24 rfl Try.underlying38 info53 rfl (by decide) (by omega) u4 x4_1 y285 [.slice Ao17 y285.length co17] (fun _ => True) (fun k_ => some k_ = (.slice Ao17 y285.length co17 : Value).ownBlock) rfl rfl ?aP (fun k_ hk_ => ((Kd.R_mono (ok' := fun k_ => ((fun _ => True)) k_ ∧ some k_ ≠ (u4 : Value).ownBlock) (Kd.R_apart' (HO287.out) (Kd.S_typed HO_4.out) (by decide)) (fun k_ hk => ⟨trivial, hk.2⟩))).1 k_ hk_.symm) ?aF ?aO ?aB ?aS ?aL ?_; (case aP => exact Kd.M_row (Kd.R_mono (Kd.R_tight rfl (Kd.R_mono (ok' := fun k_ => ((fun _ => True)) k_ ∧ some k_ ≠ (u4 : Value).ownBlock) (Kd.R_apart' (HO287.out) (Kd.S_typed HO_4.out) (by decide)) (fun k_ hk => ⟨trivial, hk.2⟩))) (fun _ h_ => h_))); (case aB => exact Ya_); (case aF => exact (fun _ _ => trivial)); (case aO => exact Yeh_); (case aS => exact (below_size Ya_)); (case aL => have := LMc13.out; omega); intro v289 w16 ho hb hg hat; rw [← Ny288.out] at ho; have n0_ := Aside0.mk (hb); have n1_ := Aside0.mk (ho); clear HB; clear HO_4; clear HO287; have HB := n0_; have HO290 := n1_; clear n0_ n1_; clear ho hb hg hat))
          go_roundg k2
          case measure => have := HK1.out; have := HK2.out; omega
          case rel => exact ⟨(y288), (wrap64 (x5_1 + 1)), Yd_, H', ⟨by have := HK1.out; have := HK2.out; omega⟩, ⟨by (with_reducible repeat (first | apply Kd.Fp | apply Kd.Fq | apply Kd.F7)); exact HO290.out⟩, ⟨by repeat (first | (with_reducible first | exact HB.out | apply Af | apply Ad | apply Ae) | exact HB.out)⟩⟩
         ·rw [if_neg c13] at H
          exact absurd H (by simp)
        ·rw [if_neg c11] at H
         have c11b0 : decide (0 < x6_2) = false := decide_eq_false c11
         clear c11
         have H' := Aside0.mk H
         clear H
         go_wp2
         go_roundg k2
         case measure => have := HK1.out; have := HK2.out; omega
         case rel => exact ⟨(x4_1), (wrap64 (x5_1 + 1)), Yd_, H', ⟨by have := HK1.out; have := HK2.out; omega⟩, ⟨by (with_reducible repeat (first | apply Kd.Fp | apply Kd.Fq | apply Kd.F7)); exact HO_4.out⟩, ⟨by repeat (first | (with_reducible first | exact HB.out | apply Af | apply Ad | apply Ae) | exact HB.out)⟩⟩
    ·rw [if_neg c7] at H
     have c7b0 : decide (x5_1 ≤ 9) = false := decide_eq_false c7
     clear c7
     simp only [Option.some.injEq, Prod.mk.injEq] at H
     obtain ⟨rfl, rfl⟩ := H
     go_wp2
     go_ret2
     exact ⟨_, by first | rfl | (simp [Aw, Az] <;> rfl) | (simp [*, Aw, Az] <;> rfl), by (with_reducible repeat (first | apply Kd.Fp | apply Kd.Fq | apply Kd.F7)); exact HO_4.out, by repeat (first | (with_reducible first | exact HB.out | apply Af | apply Ad | apply Ae) | exact HB.out)⟩
 ·replace c3 := Bool.eq_false_iff.mpr c3
  subst c3
  have H1 : (some (y278, false)) = some (r1, r2) := by rw [if_neg (show ¬ (false = true) by decide)] at H; exact H
  clear H
  have H := H1
  clear H1
  simp only [Option.some.injEq, Prod.mk.injEq] at H
  obtain ⟨rfl, rfl⟩ := H
  go_enter Try.func29, Try.ntmps29
  go_wp2_with (first | ((with_reducible refine gate_dst (N := 10) rfl ?_); refine Kd.S_lit (Kd.slice 3 (Kd.int .i64)) _ 53 ?hg (N := 10) ?hd (xs := ([] : List (List Int))) (inner := []) (ok := fun _ => True) (okp := fun _ => True) ?hr ?hp (fun _ hk => hk) trivial (Below.refl _ _) (Nat.le_refl _) (by simp) ?_; (case hd => rfl); (case hg => rfl); (case hr => first | (go_simp; done) | (go_simp; rfl)); (case hp => exact (Dw.none _ _)); intro v279 w18 ho19 hb hg_ hnew_; clear hg_ hnew_; (first | rw [← Ny278.out] at ho19 | (simp only [Int.reduceToNat] at ho19; rw [← Ny278.out] at ho19)); have n0_ := Aside0.mk (Kd.S_lower ho19 (below_size Ya_)); have n1_ := Aside0.mk (below_step Ya_ hb); clear HB; have HO280 := n0_; have HB := n1_; clear n0_ n1_; clear hb ho19) | ((with_reducible refine gate_callee (f := 54) rfl ?_); refine goesL_ (some 12) rfl rfl Try.func54 (by kernel_rfl) rfl #[.slice A0 l0.length c0] rfl Yb_ ?_; (with_reducible refine (Aq.calls k _ _ l0 false _ ?side1 ?side2 A2.out).mono ?_); (case side1 => repeat (first | exact (Kd.C_below HR0.out HB.out) | (with_reducible refine Kd.Be ?_ _) | (with_reducible refine Kd.Bf ?_ _) | (with_reducible refine Kd.Bh ?_))); (case side2 => exact HC0.out); rintro e w20 ⟨rfl, hb⟩; refine ⟨_, rfl, ?_⟩; have n0_ := Aside0.mk (Kd.S_below (by (with_reducible repeat (first | apply Kd.Fp | apply Kd.Fq | apply Kd.F7)); exact HO280.out) hb); have n1_ := Aside0.mk (below_step Ya_ hb); clear HO280; clear HB; have HO280 := n0_; have HB := n1_; clear n0_ n1_; (try clear hb); (try clear hb2); (try clear hk); (try clear hi)))
  go_ret2
  exact ⟨_, by first | rfl | (simp [Aw, Az] <;> rfl) | (simp [*, Aw, Az] <;> rfl), by (with_reducible repeat (first | apply Kd.Fp | apply Kd.Fq | apply Kd.F7)); exact HO280.out, by repeat (first | (with_reducible first | exact HB.out | apply Af | apply Ad | apply Ae) | exact HB.out)⟩
end Go.Proofs.Ytolaplcjbmjlmaa.X

namespace Go.Proofs.Ytolaplcjbmjlmaa.X
open Go.RowKit Go.Proofs.YtolaplcjbmjlmaaW.PrintWords Go.Proofs.YtolaplcjbmjlmaaW.PrintLast Go.Proofs.YtolaplcjbmjlmaaW.PrintMore
attribute [local go_sem] max2_int min2_int max_two min_two max_three min_three max_four min_four
mutual
def Bj.l0 : Nat → List (S59) → List (List Int) → Int → Option ((List (List Int)) × Bool)
 | 0, _, _, _ => none
 | k + 1, x0, x4, x5 => if x5 ≤ 9 then (Bj.l1 k x0 x4 x5 0 x0 (x0.length : Int) 0) else (some (x4, true))
def Bj.l1 : Nat → List (S59) → List (List Int) → Int → Int → List (S59) → Int → Int → Option ((List (List Int)) × Bool)
 | 0, _, _, _, _, _, _, _ => none
 | k + 1, x0, x4, x5, x6, x19, x20, x21 => if x21 < x20 then (if 0 ≤ x21 then (if x21 < (x19.length : Int) then (if ((Ah x19 x21).f2) = x5 then (Bj.l1 k x0 x4 x5 (wrap64 (x6 + 1)) x19 x20 (wrap64 (x21 + 1))) else (Bj.l1 k x0 x4 x5 x6 x19 x20 (wrap64 (x21 + 1)))) else (none)) else (none)) else (if x6 > 0 then ((Df.f k x6 (x0.length : Int)).bind fun bt297 => (if x4.length < 5864062014805 then (Bj.l0 k x0 (x4 ++ [(([x5, bt297.1, bt297.2] : List Int))]) (wrap64 (x5 + 1))) else (none))) else (Bj.l0 k x0 x4 (wrap64 (x5 + 1))))
end
def Bj.f (k : Nat) (l0 : List (S59)) : Option ((List (List Int)) × Bool) := (impl_IsValidStays.f l0).bind fun t291 => (if t291 = true then (Bj.l0 k l0 (([] : List (List Int))) 1) else (some (([] : List (List Int)), false)))
theorem Bj.Dq : ∀ k, (∀ y0 y1 y2, LeO (Bj.l0 k y0 y1 y2) (Bj.l0 (k + 1) y0 y1 y2)) ∧ (∀ y0 y1 y2 y3 y4 y5 y6, LeO (Bj.l1 k y0 y1 y2 y3 y4 y5 y6) (Bj.l1 (k + 1) y0 y1 y2 y3 y4 y5 y6))
 | 0 => ⟨fun _ _ _ r h => by simp [Bj.l0] at h, fun _ _ _ _ _ _ _ r h => by simp [Bj.l1] at h⟩
 | k + 1 => by
  obtain ⟨ih0, ih1⟩ := Bj.Dq k
  refine ⟨?_, ?_⟩
  ·intro y0 y1 y2
   unfold Bj.l0
   repeat' first
   | (with_reducible exact ih0 _ _ _)
   | (with_reducible exact ih1 _ _ _ _ _ _ _)
   | (with_reducible exact Df.mono _ _ _)
   | (with_reducible exact LeO.refl _)
   | (with_reducible exact LeO.none _)
   | (with_reducible refine LeO.ite ?_ ?_)
   | (with_reducible refine LeO.bind ?_ (fun _ => ?_))
   | exact ih0 _ _ _
   | exact ih1 _ _ _ _ _ _ _
   | exact Df.mono _ _ _
   | exact LeO.none _
   | refine LeO.ite ?_ ?_
   | refine LeO.bind ?_ (fun _ => ?_)
  ·intro y0 y1 y2 y3 y4 y5 y6
   unfold Bj.l1
   repeat' first
   | (with_reducible exact ih0 _ _ _)
   | (with_reducible exact ih1 _ _ _ _ _ _ _)
   | (with_reducible exact Df.mono _ _ _)
   | (with_reducible exact LeO.refl _)
   | (with_reducible exact LeO.none _)
   | (with_reducible refine LeO.ite ?_ ?_)
   | (with_reducible refine LeO.bind ?_ (fun _ => ?_))
   | exact ih0 _ _ _
   | exact ih1 _ _ _ _ _ _ _
   | exact Df.mono _ _ _
   | exact LeO.none _
   | refine LeO.ite ?_ ?_
   | refine LeO.bind ?_ (fun _ => ?_)
theorem Bj.mono : ∀ a0 k, LeO (Bj.f k a0) (Bj.f (k + 1) a0) := by
 intro a0 k
 obtain ⟨ih0, ih1⟩ := Bj.Dq k
 unfold Bj.f
 repeat' first
   | (with_reducible exact ih0 _ _ _)
   | (with_reducible exact ih1 _ _ _ _ _ _ _)
   | (with_reducible exact Df.mono _ _ _)
   | (with_reducible exact LeO.refl _)
   | (with_reducible exact LeO.none _)
   | (with_reducible refine LeO.ite ?_ ?_)
   | (with_reducible refine LeO.bind ?_ (fun _ => ?_))
   | exact ih0 _ _ _
   | exact ih1 _ _ _ _ _ _ _
   | exact Df.mono _ _ _
   | exact LeO.none _
   | refine LeO.ite ?_ ?_
   | refine LeO.bind ?_ (fun _ => ?_)
set_option maxHeartbeats 8000000 in
set_option maxRecDepth 100000 in
theorem Bj.calls (k : Nat) (A0 : Option Addr) (c0 : Nat) (l0 : List (S59)) (r1 : List (List Int)) (r2 : Bool) (w : World) (hr0 : Kd.C k59 w A0 l0.length l0) (hc0 : l0.length ≤ c0) (h : Bj.f k l0 = some (r1, r2)) :
  Calls Try.prog 30 #[.slice A0 l0.length c0] w fun e w' => ∃ v0_ : Value, e = .returned (.tuple #[v0_, .bool r2]) ∧ Kd.S (Kd.slice 3 (Kd.int .i64)) 53 w' w.heap.size (fun _ => True) v0_ r1 ∧ Below w.heap.size w w' := by
 have hu59 := Try.underlying59
 have HR0 := Aside0.mk hr0
 have HC0 := Aside0.mk hc0
 clear hr0 hc0
 have HB := Aside0.mk (Below.refl w.heap.size w)
 have H : ((impl_IsValidStays.f l0).bind fun t291 => (if t291 = true then (Bj.l0 k l0 (([] : List (List Int))) 1) else (some (([] : List (List Int)), false)))) = some (r1, r2) := h
 clear h
 replace H := Option.bind_eq_some_iff.mp H
 obtain ⟨t291, A20, H⟩ := H
 replace H : (if t291 = true then (Bj.l0 k l0 (([] : List (List Int))) 1) else (some (([] : List (List Int)), false))) = some (r1, r2) := H
 have A2 := Aside0.mk A20
 clear A20
 by_cases c3 : t291 = true
 ·subst c3
  have H1 : (Bj.l0 k l0 (([] : List (List Int))) 1) = some (r1, r2) := by rw [if_pos rfl] at H; exact H
  clear H
  have H := H1
  clear H1
  obtain ⟨y292, hy292⟩ : ∃ y_ : List (List Int), y_ = (([] : List (List Int))) := ⟨_, rfl⟩
  replace H : (Bj.l0 k l0 y292 1) = some (r1, r2) := by first | (rw [hy292]; with_reducible exact H) | (have H2_ := (Option.bind_some _ _).symm.trans H; rw [hy292]; with_reducible exact H2_) | (have H2_ := (Option.bind_some _ _).symm.trans H; with_reducible exact H2_) | with_reducible exact H | (rw [hy292]; exact H) | exact H
  have Ny292 := Aside0.mk hy292
  clear hy292
  have H' := Aside0.mk H
  clear H
  go_enter Try.func30, Try.ntmps30
  go_wp2_with (first | ((with_reducible refine gate_callee (f := 19) rfl ?_); refine goesL_ (some 12) rfl rfl Try.func19 (by kernel_rfl) rfl #[.slice A0 l0.length c0] rfl Yb_ ?_; (with_reducible refine (impl_IsValidStays.calls _ _ l0 true _ ?side1 ?side2 A2.out).mono ?_); (case side1 => repeat (first | exact HR0.out | (with_reducible refine Kd.Be ?_ _) | (with_reducible refine Kd.Bf ?_ _) | (with_reducible refine Kd.Bh ?_))); (case side2 => exact HC0.out); rintro e w4 ⟨rfl, hb⟩; refine ⟨_, rfl, ?_⟩; have n0_ := Aside0.mk (below_step Ya_ hb); clear HB; have HB := n0_; clear n0_; (try clear hb); (try clear hb2); (try clear hk); (try clear hi)) | ((with_reducible refine gate_dst (N := 14) rfl ?_); refine Kd.S_lit (Kd.slice 3 (Kd.int .i64)) _ 53 ?hg (N := 14) ?hd (xs := ([] : List (List Int))) (inner := []) (ok := fun _ => True) (okp := fun _ => True) ?hr ?hp (fun _ hk => hk) trivial (Below.refl _ _) (Nat.le_refl _) (by simp) ?_; (case hd => rfl); (case hg => rfl); (case hr => first | (go_simp; done) | (go_simp; rfl)); (case hp => exact (Dw.none _ _)); intro v293 w5 ho6 hb hg_ hnew_; clear hg_ hnew_; (first | rw [← Ny292.out] at ho6 | (simp only [Int.reduceToNat] at ho6; rw [← Ny292.out] at ho6)); have n0_ := Aside0.mk (Kd.S_lower ho6 (below_size Ya_)); have n1_ := Aside0.mk (below_step Ya_ hb); clear HB; have HO294 := n0_; have HB := n1_; clear n0_ n1_; clear hb ho6))
  go_loopg [4, 5] k (fun kq v4 v5 w' => ∃ (x4_1 : List (List Int)) (x5_1 : Int), v5 = .int .i64 x5_1 ∧ Aside0 (Bj.l0 kq l0 x4_1 x5_1 = some (r1, r2)) ∧ Aside0 (kq ≤ k) ∧ Aside0 (Kd.S (Kd.slice 3 (Kd.int .i64)) 53 w' w.heap.size (fun _ => True) v4 x4_1) ∧ Aside0 (Below w.heap.size w w'))
  case atStart => exact ⟨(y292), (1), Yd_, H', ⟨Nat.le_refl _⟩, ⟨by (with_reducible repeat (first | apply Kd.Fp | apply Kd.Fq | apply Kd.F7)); exact HO294.out⟩, ⟨by repeat (first | (with_reducible first | exact HB.out | apply Af | apply Ad | apply Ae) | exact HB.out)⟩⟩
  case round =>
   clear H'
   try clear c1
   try clear p2
   try clear c3
   obtain ⟨x4_1, x5_1, rfl, HA, HK1, HO_4, HB⟩ := hrel
   cases gk with
   | zero => exact absurd HA.out (by simp [Bj.l0])
   | succ k1 =>
    have H := HA.out
    clear HA
    simp only [Bj.l0] at H
    by_cases c7 : x5_1 ≤ 9
    ·rw [if_pos c7] at H
     have c7b0 : decide (x5_1 ≤ 9) = true := decide_eq_true c7
     clear c7
     have H' := Aside0.mk H
     clear H
     go_wp2
     go_loopg [6, 21] k1 (fun kq v6 v21 w' => ∃ (x6_2 : Int) (x21_2 : Int), v6 = .int .i64 x6_2 ∧ v21 = .int .i64 x21_2 ∧ Aside0 (Bj.l1 kq l0 x4_1 x5_1 x6_2 l0 (l0.length : Int) x21_2 = some (r1, r2)) ∧ Aside0 (kq ≤ k1) ∧ Aside0 (Kd.S (Kd.slice 3 (Kd.int .i64)) 53 w' w.heap.size (fun _ => True) u4 x4_1) ∧ Aside0 (Below w.heap.size w w'))
     case atStart => exact ⟨(0), (0), Yd_, Yd_, H', ⟨Nat.le_refl _⟩, ⟨by (with_reducible repeat (first | apply Kd.Fp | apply Kd.Fq | apply Kd.F7)); exact HO_4.out⟩, ⟨by repeat (first | (with_reducible first | exact HB.out | apply Af | apply Ad | apply Ae) | exact HB.out)⟩⟩
     case round =>
      clear H'
      try clear c1
      try clear p2
      try clear c3
      try clear c7
      try clear c7b0
      try clear p2
      obtain ⟨x6_2, x21_2, rfl, rfl, HA, HK2, HO_4, HB⟩ := hrel
      cases gk with
      | zero => exact absurd HA.out (by simp [Bj.l1])
      | succ k2 =>
       have H := HA.out
       clear HA
       simp only [Bj.l1] at H
       by_cases c8 : x21_2 < (l0.length : Int)
       ·rw [if_pos c8] at H
        have c8b0 : decide (x21_2 < (l0.length : Int)) = true := decide_eq_true c8
        clear c8
        by_cases c9 : 0 ≤ x21_2
        ·rw [if_pos c9] at H
         have c9b0 : decide (0 ≤ x21_2) = true := decide_eq_true c9
         clear c9
         by_cases c10 : x21_2 < (l0.length : Int)
         ·rw [if_pos c10] at H
          have c10b0 : decide (x21_2 < (l0.length : Int)) = true := decide_eq_true c10
          clear c10
          by_cases c11 : ((Ah l0 x21_2).f2) = x5_1
          ·rw [if_pos c11] at H
           have c11b0 : (((Ah l0 x21_2).f2) == x5_1) = true := beq_iff_eq.mpr c11
           have c11b1 : (((Ah l0 x21_2).f2) != x5_1) = false := bne_eq_false_iff_eq.mpr c11
           clear c11
           have H' := Aside0.mk H
           clear H
           have p295 : 0 ≤ (x21_2 : Int) := of_decide_eq_true Yc_
           have q295 : x21_2 < (l0.length : Int) := of_decide_eq_true Yc_
           obtain ⟨ad295, e295, hx295_0, hx295_1, hx295_2⟩ := Ez HR0.out x21_2 p295 q295
           cases e295
           replace hx295_0 := (HB.out.cell (World.block_lt_of_cell? w _ hx295_0)).trans hx295_0
           replace hx295_1 := (HB.out.cell (World.block_lt_of_cell? w _ hx295_1)).trans hx295_1
           replace hx295_2 := (HB.out.cell (World.block_lt_of_cell? w _ hx295_2)).trans hx295_2
           replace p295 := eq_true p295
           replace q295 := eq_true q295
           go_wp2_with (first | ((with_reducible refine gate_dst (N := 8) rfl ?_); refine box_event ?hg (N := 8) ?hd (cs := #[.int .i64 0, .int .i64 0, .int .i64 0]) (t := 59) ?hr ?_; (case hd => rfl); (case hg => rfl); (case hr => first | (go_simp; done) | (go_simp; rfl)); intro gb0 hg w12 hbox hb; have n0_ := Aside0.mk (Kd.S_below Ydi_ hb); have n1_ := Aside0.mk (below_step Ya_ hb); have n2_ := Aside0.mk (hbox); have n3_ := Aside0.mk ((by rw [hg]; exact (below_size Ya_) : w.heap.size ≤ gb0)); have n4_ := Aside0.mk ((by rw [hg]; exact (below_size Ya_) : w.heap.size ≤ gb0)); clear HO_4; clear HB; have HO_4 := n0_; have HB := n1_; have BK0 := n2_; have GW0 := n3_; have GE0 := n4_; clear n0_ n1_ n2_ n3_ n4_; clear hb hbox hg; have hcz13_0 : w12.cell? ⟨gb0, 0, none⟩ = some (.int .i64 0) := (blk_cell BK0.out 0).trans rfl; have hcz13_1 : w12.cell? ⟨gb0, 1, none⟩ = some (.int .i64 0) := (blk_cell BK0.out 1).trans rfl; have hcz13_2 : w12.cell? ⟨gb0, 2, none⟩ = some (.int .i64 0) := (blk_cell BK0.out 2).trans rfl; have hfz13_0 := blk_frozen BK0.out 0; have hfz13_1 := blk_frozen BK0.out 1; have hfz13_2 := blk_frozen BK0.out 2))
           go_roundg k2
           case measure => have := HK1.out; have := HK2.out; omega
           case rel => exact ⟨(wrap64 (x6_2 + 1)), (wrap64 (x21_2 + 1)), Yd_, Yd_, H', ⟨by have := HK1.out; have := HK2.out; omega⟩, ⟨by (with_reducible repeat (first | apply Kd.Fp | apply Kd.Fq | apply Kd.F7)); exact Kd.S_mono (Kd.S_far (p := ⟨gb0, 2, none⟩) (Kd.S_far (p := ⟨gb0, 1, none⟩) (Kd.S_far (p := ⟨gb0, 0, none⟩) (Kd.S_types HO_4.out BK0.out (by decide)) (fun _ hk => hk.2) (.int .i64 ((Ah l0 x21_2).f0))) (fun _ hk => hk.2) (.int .i64 ((Ah l0 x21_2).f1))) (fun _ hk => hk.2) (.int .i64 ((Ah l0 x21_2).f2))) (fun _ hk => trivial)⟩, ⟨by repeat (first | (with_reducible first | exact HB.out | apply Af | apply Ad | apply Ae | refine Ar ?_ GE0.out) | exact HB.out)⟩⟩
          ·rw [if_neg c11] at H
           have c11b0 : (((Ah l0 x21_2).f2) == x5_1) = false := beq_eq_false_iff_ne.mpr c11
           have c11b1 : (((Ah l0 x21_2).f2) != x5_1) = true := bne_iff_ne.mpr c11
           have H' := Aside0.mk H
           clear H
           have p295 : 0 ≤ (x21_2 : Int) := of_decide_eq_true Yc_
           have q295 : x21_2 < (l0.length : Int) := of_decide_eq_true Yc_
           obtain ⟨ad295, e295, hx295_0, hx295_1, hx295_2⟩ := Ez HR0.out x21_2 p295 q295
           cases e295
           replace hx295_0 := (HB.out.cell (World.block_lt_of_cell? w _ hx295_0)).trans hx295_0
           replace hx295_1 := (HB.out.cell (World.block_lt_of_cell? w _ hx295_1)).trans hx295_1
           replace hx295_2 := (HB.out.cell (World.block_lt_of_cell? w _ hx295_2)).trans hx295_2
           replace p295 := eq_true p295
           replace q295 := eq_true q295
           go_wp2_with (first | ((with_reducible refine gate_dst (N := 8) rfl ?_); refine box_event ?hg (N := 8) ?hd (cs := #[.int .i64 0, .int .i64 0, .int .i64 0]) (t := 59) ?hr ?_; (case hd => rfl); (case hg => rfl); (case hr => first | (go_simp; done) | (go_simp; rfl)); intro gb0 hg w14 hbox hb; have n0_ := Aside0.mk (Kd.S_below Ydi_ hb); have n1_ := Aside0.mk (below_step Ya_ hb); have n2_ := Aside0.mk (hbox); have n3_ := Aside0.mk ((by rw [hg]; exact (below_size Ya_) : w.heap.size ≤ gb0)); have n4_ := Aside0.mk ((by rw [hg]; exact (below_size Ya_) : w.heap.size ≤ gb0)); clear HO_4; clear HB; have HO_4 := n0_; have HB := n1_; have BK0 := n2_; have GW0 := n3_; have GE0 := n4_; clear n0_ n1_ n2_ n3_ n4_; clear hb hbox hg; have hcz15_0 : w14.cell? ⟨gb0, 0, none⟩ = some (.int .i64 0) := (blk_cell BK0.out 0).trans rfl; have hcz15_1 : w14.cell? ⟨gb0, 1, none⟩ = some (.int .i64 0) := (blk_cell BK0.out 1).trans rfl; have hcz15_2 : w14.cell? ⟨gb0, 2, none⟩ = some (.int .i64 0) := (blk_cell BK0.out 2).trans rfl; have hfz15_0 := blk_frozen BK0.out 0; have hfz15_1 := blk_frozen BK0.out 1; have hfz15_2 := blk_frozen BK0.out 2))
           go_roundg k2
           case measure => have := HK1.out; have := HK2.out; omega
           case rel => exact ⟨(x6_2), (wrap64 (x21_2 + 1)), Yd_, Yd_, H', ⟨by have := HK1.out; have := HK2.out; omega⟩, ⟨by (with_reducible repeat (first | apply Kd.Fp | apply Kd.Fq | apply Kd.F7)); exact Kd.S_mono (Kd.S_far (p := ⟨gb0, 2, none⟩) (Kd.S_far (p := ⟨gb0, 1, none⟩) (Kd.S_far (p := ⟨gb0, 0, none⟩) (Kd.S_types HO_4.out BK0.out (by decide)) (fun _ hk => hk.2) (.int .i64 ((Ah l0 x21_2).f0))) (fun _ hk => hk.2) (.int .i64 ((Ah l0 x21_2).f1))) (fun _ hk => hk.2) (.int .i64 ((Ah l0 x21_2).f2))) (fun _ hk => trivial)⟩, ⟨by repeat (first | (with_reducible first | exact HB.out | apply Af | apply Ad | apply Ae | refine Ar ?_ GE0.out) | exact HB.out)⟩⟩
         ·rw [if_neg c10] at H
          exact absurd H (by simp)
        ·rw [if_neg c9] at H
         exact absurd H (by simp)
       ·rw [if_neg c8] at H
        have c8b0 : decide (x21_2 < (l0.length : Int)) = false := decide_eq_false c8
        clear c8
        by_cases c16 : x6_2 > 0
        ·rw [if_pos c16] at H
         have c16b0 : decide (0 < x6_2) = true := decide_eq_true c16
         clear c16
         replace H := Option.bind_eq_some_iff.mp H
         obtain ⟨⟨t297, t298⟩, A170, H⟩ := H
         replace H : (if x4_1.length < 5864062014805 then (Bj.l0 k2 l0 (x4_1 ++ [(([x5_1, t297, t298] : List Int))]) (wrap64 (x5_1 + 1))) else (none)) = some (r1, r2) := H
         have A17 := Aside0.mk A170
         clear A170
         obtain ⟨y299, hy299⟩ : ∃ y_ : List Int, y_ = (([x5_1, t297, t298] : List Int)) := ⟨_, rfl⟩
         replace H : (if x4_1.length < 5864062014805 then (Bj.l0 k2 l0 (x4_1 ++ [y299]) (wrap64 (x5_1 + 1))) else (none)) = some (r1, r2) := by first | (rw [hy299]; with_reducible exact H) | (have H2_ := (Option.bind_some _ _).symm.trans H; rw [hy299]; with_reducible exact H2_) | (have H2_ := (Option.bind_some _ _).symm.trans H; with_reducible exact H2_) | with_reducible exact H | (rw [hy299]; exact H) | exact H
         have Ny299 := Aside0.mk hy299
         clear hy299
         by_cases c18 : x4_1.length < 5864062014805
         ·rw [if_pos c18] at H
          have LMc18 := Aside0.mk c18
          clear c18
          obtain ⟨y302, hy302⟩ : ∃ y_ : List (List Int), y_ = (x4_1 ++ [y299]) := ⟨_, rfl⟩
          replace H : (Bj.l0 k2 l0 y302 (wrap64 (x5_1 + 1))) = some (r1, r2) := by first | (rw [hy302]; with_reducible exact H) | (have H2_ := (Option.bind_some _ _).symm.trans H; rw [hy302]; with_reducible exact H2_) | (have H2_ := (Option.bind_some _ _).symm.trans H; with_reducible exact H2_) | with_reducible exact H | (rw [hy302]; exact H) | exact H
          have Ny302 := Aside0.mk hy302
          clear hy302
          have H' := Aside0.mk H
          clear H
          go_wp2_with (first | ((with_reducible refine gate_callee (f := 62) rfl ?_); refine goesL_ (some 38) rfl rfl Try.func62 (by kernel_rfl) rfl #[.int .i64 x6_2, .int .i64 (l0.length : Int)] rfl Yb_ ?_; (with_reducible refine (Df.calls k2 x6_2 (l0.length : Int) t297 t298 _ A17.out).mono ?_); rintro e w' ⟨rfl, ⟨nd, rfl⟩⟩; refine ⟨_, rfl, ?_⟩) | ((with_reducible refine gate_dst (N := 45) rfl ?_); refine Kd.R_lit (Kd.int .i64) _ 3 ?hg (N := 45) ?hd (xs := ([x5_1, t297, t298] : List Int)) (inner := [.int .i64 x5_1, .int .i64 t297, .int .i64 t298]) (ok := fun _ => True) (okp := fun _ => True) ?hr ?hp (fun _ hk => hk) trivial (Below.refl _ _) (Nat.le_refl _) (by simp) ?_; (case hd => rfl); (case hg => rfl); (case hr => first | (go_simp; done) | (go_simp; rfl)); (case hp => exact (Dw.one (show Kd.M (Kd.int .i64) _ _ _ x5_1 [.int .i64 x5_1] from rfl) (Dw.one (show Kd.M (Kd.int .i64) _ _ _ t297 [.int .i64 t297] from rfl) (Dw.one (show Kd.M (Kd.int .i64) _ _ _ t298 [.int .i64 t298] from rfl) (Dw.none _ _))))); intro v300 w19 ho20 hb hg_ hnew_; clear hg_ hnew_; (first | rw [← Ny299.out] at ho20 | (simp only [Int.reduceToNat] at ho20; rw [← Ny299.out] at ho20)); have n0_ := Aside0.mk (Kd.S_elder' Ydi_ (Kd.Gv ho20) hb); have n1_ := Aside0.mk (Kd.R_lower ho20 (below_size Ya_)); have n2_ := Aside0.mk (below_step Ya_ hb); clear HO_4; clear HB; have HO_4 := n0_; have HO301 := n1_; have HB := n2_; clear n0_ n1_ n2_; clear hb ho20; obtain ⟨Ao22, co22, eo22⟩ := Kd.R_slice HO301.out; subst eo22) | ((with_reducible refine H5 (b := .append) (xs := #[.tmp 41, .tmp 46]) rfl ?_); at_builtin; refine Kd.S_append (Kd.slice 3 (Kd.int .i64)) (w0 := w) w.heap.size rfl (.tmp 41) (.tmp 46) 38 53 (.slice none 0 0) 24 rfl Try.underlying38 info53 rfl (by decide) (by omega) u4 x4_1 y299 [.slice Ao22 y299.length co22] (fun _ => True) (fun k_ => some k_ = (.slice Ao22 y299.length co22 : Value).ownBlock) rfl rfl ?aP (fun k_ hk_ => ((Kd.R_mono (ok' := fun k_ => ((fun _ => True)) k_ ∧ some k_ ≠ (u4 : Value).ownBlock) (Kd.R_apart' (HO301.out) (Kd.S_typed HO_4.out) (by decide)) (fun k_ hk => ⟨trivial, hk.2⟩))).1 k_ hk_.symm) ?aF ?aO ?aB ?aS ?aL ?_; (case aP => exact Kd.M_row (Kd.R_mono (Kd.R_tight rfl (Kd.R_mono (ok' := fun k_ => ((fun _ => True)) k_ ∧ some k_ ≠ (u4 : Value).ownBlock) (Kd.R_apart' (HO301.out) (Kd.S_typed HO_4.out) (by decide)) (fun k_ hk => ⟨trivial, hk.2⟩))) (fun _ h_ => h_))); (case aB => exact Ya_); (case aF => exact (fun _ _ => trivial)); (case aO => exact Yeh_); (case aS => exact (below_size Ya_)); (case aL => have := LMc18.out; omega); intro v303 w21 ho hb hg hat; rw [← Ny302.out] at ho; have n0_ := Aside0.mk (hb); have n1_ := Aside0.mk (ho); clear HB; clear HO_4; clear HO301; have HB := n0_; have HO304 := n1_; clear n0_ n1_; clear ho hb hg hat))
          go_roundg k2
          case measure => have := HK1.out; have := HK2.out; omega
          case rel => exact ⟨(y302), (wrap64 (x5_1 + 1)), Yd_, H', ⟨by have := HK1.out; have := HK2.out; omega⟩, ⟨by (with_reducible repeat (first | apply Kd.Fp | apply Kd.Fq | apply Kd.F7)); exact HO304.out⟩, ⟨by repeat (first | (with_reducible first | exact HB.out | apply Af | apply Ad | apply Ae) | exact HB.out)⟩⟩
         ·rw [if_neg c18] at H
          exact absurd H (by simp)
        ·rw [if_neg c16] at H
         have c16b0 : decide (0 < x6_2) = false := decide_eq_false c16
         clear c16
         have H' := Aside0.mk H
         clear H
         go_wp2
         go_roundg k2
         case measure => have := HK1.out; have := HK2.out; omega
         case rel => exact ⟨(x4_1), (wrap64 (x5_1 + 1)), Yd_, H', ⟨by have := HK1.out; have := HK2.out; omega⟩, ⟨by (with_reducible repeat (first | apply Kd.Fp | apply Kd.Fq | apply Kd.F7)); exact HO_4.out⟩, ⟨by repeat (first | (with_reducible first | exact HB.out | apply Af | apply Ad | apply Ae) | exact HB.out)⟩⟩
    ·rw [if_neg c7] at H
     have c7b0 : decide (x5_1 ≤ 9) = false := decide_eq_false c7
     clear c7
     simp only [Option.some.injEq, Prod.mk.injEq] at H
     obtain ⟨rfl, rfl⟩ := H
     go_wp2
     go_ret2
     exact ⟨_, by first | rfl | (simp [Aw, Az] <;> rfl) | (simp [*, Aw, Az] <;> rfl), by (with_reducible repeat (first | apply Kd.Fp | apply Kd.Fq | apply Kd.F7)); exact HO_4.out, by repeat (first | (with_reducible first | exact HB.out | apply Af | apply Ad | apply Ae) | exact HB.out)⟩
 ·replace c3 := Bool.eq_false_iff.mpr c3
  subst c3
  have H1 : (some (([] : List (List Int)), false)) = some (r1, r2) := by rw [if_neg (show ¬ (false = true) by decide)] at H; exact H
  clear H
  have H := H1
  clear H1
  simp only [Option.some.injEq, Prod.mk.injEq] at H
  obtain ⟨rfl, rfl⟩ := H
  go_enter Try.func30, Try.ntmps30
  go_wp2_with (first | ((with_reducible refine gate_callee (f := 19) rfl ?_); refine goesL_ (some 12) rfl rfl Try.func19 (by kernel_rfl) rfl #[.slice A0 l0.length c0] rfl Yb_ ?_; (with_reducible refine (impl_IsValidStays.calls _ _ l0 false _ ?side1 ?side2 A2.out).mono ?_); (case side1 => repeat (first | exact HR0.out | (with_reducible refine Kd.Be ?_ _) | (with_reducible refine Kd.Bf ?_ _) | (with_reducible refine Kd.Bh ?_))); (case side2 => exact HC0.out); rintro e w23 ⟨rfl, hb⟩; refine ⟨_, rfl, ?_⟩; have n0_ := Aside0.mk (below_step Ya_ hb); clear HB; have HB := n0_; clear n0_; (try clear hb); (try clear hb2); (try clear hk); (try clear hi)))
  go_ret2
  exact ⟨_, by first | rfl | (simp [Aw, Az] <;> rfl) | (simp [*, Aw, Az] <;> rfl), by first | exact Kd.S_nil _ _ _ _ _ | exact Kd.N_nil _ _ _ _ _ | exact Kd.V_nil _ _ _ _ _ | exact Kd.Q_nil _ _ _ _ _ | exact Kd.R_nil _ _ _ _ _, by repeat (first | (with_reducible first | exact HB.out | apply Af | apply Ad | apply Ae) | exact HB.out)⟩
end Go.Proofs.Ytolaplcjbmjlmaa.X

namespace Go.Proofs.Ytolaplcjbmjlmaa.X
open Go.RowKit Go.Proofs.YtolaplcjbmjlmaaW.PrintWords Go.Proofs.YtolaplcjbmjlmaaW.PrintLast Go.Proofs.YtolaplcjbmjlmaaW.PrintMore
attribute [local go_sem] max2_int min2_int max_two min_two max_three min_three max_four min_four
def Ho.f (l0 : List Int) : Option (Bool) := some (decide ((l0.length : Int) > 65536))
set_option maxHeartbeats 8000000 in
set_option maxRecDepth 100000 in
theorem Ho.calls (A0 : Option Addr) (c0 : Nat) (l0 : List Int) (r : Bool) (w : World) (hr0 : Kd.C (Kd.int .u8) w A0 l0.length l0) (hc0 : l0.length ≤ c0) (h : Ho.f l0 = some r) :
  Calls Try.prog 35 #[.slice A0 l0.length c0] w fun e w' => e = .returned (.bool r) ∧ Drawn0 w w' := by
 have HR0 := Aside0.mk hr0
 have HC0 := Aside0.mk hc0
 clear hr0 hc0
 have H : (some (decide ((l0.length : Int) > 65536))) = some r := h
 clear h
 obtain rfl := Option.some.inj H
 go_enter Try.func35, Try.ntmps35
 go_wp2
 go_ret
 exact ⟨by first | rfl | (simp; done) | (simp [*]; done), by repeat (first | exact Drawn0.refl _ | apply Drawn0.step)⟩
end Go.Proofs.Ytolaplcjbmjlmaa.X

