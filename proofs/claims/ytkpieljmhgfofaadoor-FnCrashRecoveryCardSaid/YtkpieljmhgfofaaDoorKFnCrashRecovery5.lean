/- The law FnCrashRecovery answers true for every input that the row lets in, and leaves its arguments as they were. Conditions: none beyond the row's own. -/
import Derived.Test.YtkpieljmhgfofaaDoorRows
import Derived.WalkKit
import Derived.ProofKit
import Derived.OpenShut
import Derived.ShutString
import Derived.ChangeOld
import Derived.Below
import Derived.SizedLaws
import Derived.Lib.SmallJoins
import Derived.Handy
import Derived.Lay
import Derived.SevenTiedAt
import Derived.LaidSub
import Derived.Lib.LaidTab
import Derived.Test.YtkpieljmhgfofaaDoorCards
import Derived.Test.YtkpieljmhgfofaaDoorTie
import Derived.Test.YtkpieljmhgfofaaDoorKFnCrashRecovery1
import Derived.Test.YtkpieljmhgfofaaDoorKFnCrashRecovery2
import Derived.Test.YtkpieljmhgfofaaDoorKFnCrashRecovery3
import Derived.Test.YtkpieljmhgfofaaDoorKFnCrashRecovery4
set_option linter.unusedVariables false
set_option linter.unusedSimpArgs false
namespace Go.Proofs.YtkpieljmhgfofaaDoor.X
open Go.RowKit Go.Proofs.YtkpieljmhgfofaaDoorW.PrintWords Go.Proofs.YtkpieljmhgfofaaDoorL
def okB (l : List Int) : Prop := ∀ y ∈ l, 0 ≤ y ∧ y ≤ 255
theorem okB_of {l : List Int} (h : ∀ y ∈ l, (Lit.int .u8 y).wf = true) : okB l := fun y hy => by have := h y hy; simpa [Lit.wf, IntKind.min, IntKind.max, IntKind.signed, IntKind.bits] using this
theorem bits255 (x : Int) : 0 ≤ Go.bits .and .u64 x 255 ∧ Go.bits .and .u64 x 255 ≤ 255 := by
  have h : (BitVec.ofInt 64 x &&& BitVec.ofInt 64 255).toNat ≤ 255 := by
    rw [BitVec.toNat_and]; exact Nat.le_trans Nat.and_le_right (by decide)
  have e : Go.bits .and .u64 x 255 = IntKind.u64.wrap ((BitVec.ofInt 64 x &&& BitVec.ofInt 64 255).toNat : Int) := rfl
  rw [e]
  generalize (BitVec.ofInt 64 x &&& BitVec.ofInt 64 255).toNat = n at h
  have : IntKind.u64.wrap (n : Int) = (n : Int) := by
    simp only [IntKind.wrap, IntKind.bits, IntKind.signed]
    simp
    omega
  rw [this]; omega
theorem rd_okB {l : List Int} (h : okB l) (p : Int) : 0 ≤ rd l p ∧ rd l p ≤ 255 := by
  unfold rd
  rw [List.getD_eq_getElem?_getD]
  cases e : l[p.toNat]? with
  | none => simp
  | some y => simpa using h y (List.mem_of_getElem? e)
theorem next_ok {l : List Int} (h : okB l) (p s : Int) (h0 : 0 ≤ p) (h1 : p ≤ 1000000000000) : ∃ v s', Es.f l p s = some (v, p + 1, s') ∧ 0 ≤ v ∧ v ≤ 255 := by
  have hr := rd_okB h p
  have hw : wrap64 (p + 1) = p + 1 := wrap_id (by omega) (by omega)
  have hr2 : wrap64 (rd l p) = rd l p := wrap_id (by omega) (by omega)
  unfold Es.f
  rw [hw]
  have hb : ∀ x, 0 ≤ wrap64 (Go.bits .and .u64 x 255) ∧ wrap64 (Go.bits .and .u64 x 255) ≤ 255 := fun x => by have := bits255 x; rw [wrap_id (by omega) (by omega)]; exact this
  by_cases a : p < (l.length : Int)
  · rw [if_pos a, if_pos h0]
    by_cases b : p + 1 ≤ (l.length : Int)
    · rw [if_pos b]; exact ⟨_, _, rfl, by omega, by omega⟩
    · omega
  · rw [if_neg a]
    by_cases b : p + 1 ≤ (l.length : Int)
    · omega
    · rw [if_neg b]; exact ⟨_, _, rfl, (hb _).1, (hb _).2⟩
/-- What every draw gives: a value with a property, and a cursor moved on by n at most. -/
def Drawn {α : Type} (o : Option (α × Int × Int)) (p : Int) (n : Int) (q : α → Prop) : Prop := ∃ v p' s', o = some (v, p', s') ∧ q v ∧ p ≤ p' ∧ p' ≤ p + n
theorem pick_ok {l : List Int} (h : okB l) (p s a : Int) (h0 : 0 ≤ p) (h1 : p ≤ 900000000000) (ha : a ≤ 9223372036854775807) : Drawn (Am.f l p s a) p 2 (fun v => 0 ≤ v ∧ (1 ≤ a → v < a) ∧ (a ≤ 1 → v = 0)) := by
  unfold Am.f
  by_cases c : a ≤ 1
  · rw [if_pos c]; exact ⟨0, p, s, rfl, ⟨by omega, by omega, fun _ => rfl⟩, by omega, by omega⟩
  · rw [if_neg c]
    obtain ⟨v, s1, e, v0, v1⟩ := next_ok h p s h0 (by omega)
    rw [e]
    simp only [Option.bind_some]
    by_cases d : a > 200
    · rw [if_pos d]
      obtain ⟨w, s2, e2, w0, w1⟩ := next_ok h (p + 1) s1 (by omega) (by omega)
      rw [e2]
      simp only [Option.bind_some]
      rw [if_neg (by omega), wrap_id (x := v * 256) (by omega) (by omega), wrap_id (x := v * 256 + w) (by omega) (by omega)]
      exact ⟨_, _, _, rfl, ⟨Int.tmod_nonneg _ (by omega), fun _ => Int.tmod_lt_of_pos _ (by omega), fun z => absurd z c⟩, by omega, by omega⟩
    · rw [if_neg d, if_neg (by omega)]
      exact ⟨_, _, _, rfl, ⟨Int.tmod_nonneg _ v0, fun _ => Int.tmod_lt_of_pos _ (by omega), fun z => absurd z c⟩, by omega, by omega⟩
theorem one_ok {l : List Int} (h : okB l) (p s a : Int) (h0 : 0 ≤ p) (h1 : p ≤ 900000000000) (ha : a ≤ 9223372036854775807) : Drawn (D9.f l p s a) p 2 (fun _ => True) := by
  obtain ⟨v, p', s', e, q, b⟩ := pick_ok h p s a h0 h1 ha
  exact ⟨v == 0, p', s', by unfold D9.f; rw [e]; rfl, trivial, b⟩
end Go.Proofs.YtkpieljmhgfofaaDoor.X

namespace Go.Proofs.YtkpieljmhgfofaaDoor.X
open Go.RowKit Go.Proofs.YtkpieljmhgfofaaDoorW.PrintWords Go.Proofs.YtkpieljmhgfofaaDoorW.PrintLast Go.Proofs.YtkpieljmhgfofaaDoorW.PrintMore
attribute [local go_sem] max2_int min2_int max_two min_two max_three min_three max_four min_four
open Go.Proofs.YtkpieljmhgfofaaDoorG
def Bh.j0 : Nat → ByteArray → List Int → Int → Int → Option (ByteArray)
  | 0, _, _, _, _ => none
  | k + 1, x5, x596000, x596001, x596002 => (D9.f x596000 x596001 x596002 40).bind fun bt619 => (if bt619.1 = true then ((Am.f x596000 bt619.2.1 bt619.2.2 2).bind fun bt622 => (if 0 ≤ (wrap64 (30000 + bt622.1)) then (if (wrap64 (30000 + bt622.1) : Int).toNat ≤ 281474976710656 then (some (strOfNums (List.replicate (wrap64 (30000 + bt622.1) : Int).toNat 0))) else (none)) else (none))) else (some x5))
def Bh.f (k : Nat) (l0 : List Int) : Option (ByteArray) := (Ar.f k l0 0 0).bind fun bt596 => (if bt596.1.size + bt596.2.1.size ≤ 9223372036854775807 then ((Am.f l0 bt596.2.2.2.1 bt596.2.2.2.2 4).bind fun bt602 => (if bt602.1 = 0 then ((D7.f l0 bt602.2.1 bt602.2.2 (bt596.1 ++ bt596.2.1) (⟨#[35, 64, 10, 48, 49]⟩ : ByteArray)).bind fun bt605 => (Bh.j0 k bt605.1 l0 bt605.2.1 bt605.2.2)) else (if bt602.1 = 1 then ((Am.f l0 bt602.2.1 bt602.2.2 (wrap64 (((bt596.1 ++ bt596.2.1).size : Int) + 1))).bind fun bt608 => (if 0 ≤ bt608.1 then (if bt608.1 ≤ ((bt596.1 ++ bt596.2.1).size : Int) then (Bh.j0 k ((bt596.1 ++ bt596.2.1).extract 0 (bt608.1 : Int).toNat) l0 bt608.2.1 bt608.2.2) else (none)) else (none))) else (if bt602.1 = 2 then ((Am.f l0 bt602.2.1 bt602.2.2 4).bind fun bt611 => ((Dn.f l0 bt611.2.1 bt611.2.2).bind fun bt614 => ((Bi.f k bt611.1 bt614.1 bt614.2.1).bind fun t618 => (if (bt596.1 ++ bt596.2.1).size + t618.size ≤ 9223372036854775807 then (Bh.j0 k ((bt596.1 ++ bt596.2.1) ++ t618) l0 bt614.2.2.1 bt614.2.2.2) else (none))))) else (Bh.j0 k (bt596.1 ++ bt596.2.1) l0 bt602.2.1 bt602.2.2))))) else (none))
theorem Bh.Ec : ∀ k, (∀ y0 y1 y2 y3, LeO (Bh.j0 k y0 y1 y2 y3) (Bh.j0 (k + 1) y0 y1 y2 y3))
  | 0 => fun _ _ _ _ r h => by simp [Bh.j0] at h
  | k + 1 => by
    have ih0 := Bh.Ec k
    · intro y0 y1 y2 y3
      unfold Bh.j0
      repeat' first
      | (with_reducible exact ih0 _ _ _ _)
      | (with_reducible exact Ar.mono _ _ _ _)
      | (with_reducible exact Bi.mono _ _ _ _)
      | (with_reducible exact LeO.refl _)
      | (with_reducible exact LeO.none _)
      | (with_reducible refine LeO.ite ?_ ?_)
      | (with_reducible refine LeO.bind ?_ (fun _ => ?_))
      | exact ih0 _ _ _ _
      | exact Ar.mono _ _ _ _
      | exact Bi.mono _ _ _ _
      | exact LeO.none _
      | refine LeO.ite ?_ ?_
      | refine LeO.bind ?_ (fun _ => ?_)
theorem Bh.mono : ∀ a0 k, LeO (Bh.f k a0) (Bh.f (k + 1) a0) := by
  intro a0 k
  have ih0 := Bh.Ec k
  unfold Bh.f
  repeat' first
      | (with_reducible exact ih0 _ _ _ _)
      | (with_reducible exact Ar.mono _ _ _ _)
      | (with_reducible exact Bi.mono _ _ _ _)
      | (with_reducible exact LeO.refl _)
      | (with_reducible exact LeO.none _)
      | (with_reducible refine LeO.ite ?_ ?_)
      | (with_reducible refine LeO.bind ?_ (fun _ => ?_))
      | exact ih0 _ _ _ _
      | exact Ar.mono _ _ _ _
      | exact Bi.mono _ _ _ _
      | exact LeO.none _
      | refine LeO.ite ?_ ?_
      | refine LeO.bind ?_ (fun _ => ?_)
set_option maxHeartbeats 8000000 in
set_option maxRecDepth 100000 in
theorem Bh.calls (k : Nat) (A0 : Option Addr) (c0 : Nat) (l0 : List Int) (r : ByteArray) (w : World) (hr0 : Kd.C (Kd.int .u8) w A0 l0.length l0) (hc0 : l0.length ≤ c0) (h : Bh.f k l0 = some r) :
    Calls Tryd.prog 40 #[.slice A0 l0.length c0] w fun e w' => e = .returned (.string r) ∧ Below w.heap.size w w' := by
  have hu74 := Tryd.underlying74
  have hu31 := Tryd.underlying31
  have HR0 := Aside0.mk hr0
  have HC0 := Aside0.mk hc0
  clear hr0 hc0
  have HB := Aside0.mk (Below.refl w.heap.size w)
  have H : ((Ar.f k l0 0 0).bind fun bt596 => (if bt596.1.size + bt596.2.1.size ≤ 9223372036854775807 then ((Am.f l0 bt596.2.2.2.1 bt596.2.2.2.2 4).bind fun bt602 => (if bt602.1 = 0 then ((D7.f l0 bt602.2.1 bt602.2.2 (bt596.1 ++ bt596.2.1) (⟨#[35, 64, 10, 48, 49]⟩ : ByteArray)).bind fun bt605 => (Bh.j0 k bt605.1 l0 bt605.2.1 bt605.2.2)) else (if bt602.1 = 1 then ((Am.f l0 bt602.2.1 bt602.2.2 (wrap64 (((bt596.1 ++ bt596.2.1).size : Int) + 1))).bind fun bt608 => (if 0 ≤ bt608.1 then (if bt608.1 ≤ ((bt596.1 ++ bt596.2.1).size : Int) then (Bh.j0 k ((bt596.1 ++ bt596.2.1).extract 0 (bt608.1 : Int).toNat) l0 bt608.2.1 bt608.2.2) else (none)) else (none))) else (if bt602.1 = 2 then ((Am.f l0 bt602.2.1 bt602.2.2 4).bind fun bt611 => ((Dn.f l0 bt611.2.1 bt611.2.2).bind fun bt614 => ((Bi.f k bt611.1 bt614.1 bt614.2.1).bind fun t618 => (if (bt596.1 ++ bt596.2.1).size + t618.size ≤ 9223372036854775807 then (Bh.j0 k ((bt596.1 ++ bt596.2.1) ++ t618) l0 bt614.2.2.1 bt614.2.2.2) else (none))))) else (Bh.j0 k (bt596.1 ++ bt596.2.1) l0 bt602.2.1 bt602.2.2))))) else (none))) = some r := h
  clear h
  replace H := Option.bind_eq_some_iff.mp H
  obtain ⟨⟨t596, t597, t598, t599, t600⟩, A20, H⟩ := H
  replace H : (if t596.size + t597.size ≤ 9223372036854775807 then ((Am.f l0 t599 t600 4).bind fun bt602 => (if bt602.1 = 0 then ((D7.f l0 bt602.2.1 bt602.2.2 (t596 ++ t597) (⟨#[35, 64, 10, 48, 49]⟩ : ByteArray)).bind fun bt605 => (Bh.j0 k bt605.1 l0 bt605.2.1 bt605.2.2)) else (if bt602.1 = 1 then ((Am.f l0 bt602.2.1 bt602.2.2 (wrap64 (((t596 ++ t597).size : Int) + 1))).bind fun bt608 => (if 0 ≤ bt608.1 then (if bt608.1 ≤ ((t596 ++ t597).size : Int) then (Bh.j0 k ((t596 ++ t597).extract 0 (bt608.1 : Int).toNat) l0 bt608.2.1 bt608.2.2) else (none)) else (none))) else (if bt602.1 = 2 then ((Am.f l0 bt602.2.1 bt602.2.2 4).bind fun bt611 => ((Dn.f l0 bt611.2.1 bt611.2.2).bind fun bt614 => ((Bi.f k bt611.1 bt614.1 bt614.2.1).bind fun t618 => (if (t596 ++ t597).size + t618.size ≤ 9223372036854775807 then (Bh.j0 k ((t596 ++ t597) ++ t618) l0 bt614.2.2.1 bt614.2.2.2) else (none))))) else (Bh.j0 k (t596 ++ t597) l0 bt602.2.1 bt602.2.2))))) else (none)) = some r := H
  have A2 := Aside0.mk A20
  clear A20
  by_cases c3 : t596.size + t597.size ≤ 9223372036854775807
  · rw [if_pos c3] at H
    have c3b0 := eq_true c3
    have c3b1 : decide (t596.size + t597.size ≤ 9223372036854775807) = true := decide_eq_true c3
    try have c3b2 : (9223372036854775807 < t596.size + t597.size) = False := eq_false (Nat.not_lt.2 c3)
    replace H := Option.bind_eq_some_iff.mp H
    obtain ⟨⟨t602, t603, t604⟩, A40, H⟩ := H
    replace H : (if t602 = 0 then ((D7.f l0 t603 t604 (t596 ++ t597) (⟨#[35, 64, 10, 48, 49]⟩ : ByteArray)).bind fun bt605 => (Bh.j0 k bt605.1 l0 bt605.2.1 bt605.2.2)) else (if t602 = 1 then ((Am.f l0 t603 t604 (wrap64 (((t596 ++ t597).size : Int) + 1))).bind fun bt608 => (if 0 ≤ bt608.1 then (if bt608.1 ≤ ((t596 ++ t597).size : Int) then (Bh.j0 k ((t596 ++ t597).extract 0 (bt608.1 : Int).toNat) l0 bt608.2.1 bt608.2.2) else (none)) else (none))) else (if t602 = 2 then ((Am.f l0 t603 t604 4).bind fun bt611 => ((Dn.f l0 bt611.2.1 bt611.2.2).bind fun bt614 => ((Bi.f k bt611.1 bt614.1 bt614.2.1).bind fun t618 => (if (t596 ++ t597).size + t618.size ≤ 9223372036854775807 then (Bh.j0 k ((t596 ++ t597) ++ t618) l0 bt614.2.2.1 bt614.2.2.2) else (none))))) else (Bh.j0 k (t596 ++ t597) l0 t603 t604)))) = some r := H
    have A4 := Aside0.mk A40
    clear A40
    have HC5 := Aside0.mk H
    clear H
    go_enter Tryd.func40, Tryd.ntmps40
    go_upto_block 0 with (first | ((with_reducible refine gate_dst (N := 8) rfl ?_); refine box_event ?hg (N := 8) ?hd (cs := #[.slice A0 l0.length c0, .int .i64 0, .int .u64 0]) (t := 74) ?hr ?_; (case hd => rfl); (case hg => rfl); (case hr => first | (go_simp; done) | (go_simp; rfl)); intro gb0 hg w6 hbox hb; have n0_ := Aside0.mk (below_step Ya_ hb); have n1_ := Aside0.mk ((by rw [hg]; exact (below_size Ya_) : w.heap.size ≤ gb0)); have n2_ := Aside0.mk ((by rw [hg]; exact (below_size Ya_) : w.heap.size ≤ gb0)); have n3_ := Aside0.mk ((⟨_, _, hbox, (by rw [hg]; exact (below_size Ya_)), HR0.out⟩ : Aa w w6 gb0 l0 0 0)); clear HB; have HB := n0_; have GW0 := n1_; have GE0 := n2_; have HI595 := n3_; clear n0_ n1_ n2_ n3_; clear hb hbox hg) | ((with_reducible refine gate_callee (f := 60) rfl ?_); refine goesL_ (some 10) rfl rfl Tryd.func60 (by kernel_rfl) rfl #[.pointer (some ⟨gb0, 0, none⟩)] rfl Yc_ ?_; (with_reducible refine (Ar.calls k gb0 l0 0 0 t596 t597 t598 t599 t600 w _ ?side1 ?side2 A2.out).mono ?_); (case side1 => repeat (first | (with_reducible first | exact HI595.out | apply Aa.alloc | apply Aa.drewN | apply Aa.drew | apply Aa.Au | apply Aa.Aw) | exact HI595.out)); (case side2 => repeat (first | (with_reducible first | exact HB.out | apply below_alloc | apply pw_below_drewN | apply below_drew1 | refine below_set ?_ (Aa.ge HI595.out)) | exact HB.out)); rintro e w7 ⟨rfl, hi, hb, hk⟩; refine ⟨_, rfl, ?_⟩; have n0_ := Aside0.mk (hb); have n1_ := Aside0.mk (hi); clear HB; clear HI595; have HB := n0_; have HI595 := n1_; clear n0_ n1_; (try clear hb); (try clear hb2); (try clear hk); (try clear hi)) | ((with_reducible refine gate_dst (N := 4) rfl ?_); refine box_event ?hg (N := 4) ?hd (cs := #[.string (⟨#[]⟩ : ByteArray), .string (⟨#[]⟩ : ByteArray), .int .i64 0]) (t := 31) ?hr ?_; (case hd => rfl); (case hg => rfl); (case hr => first | (go_simp; done) | (go_simp; rfl)); intro gb1 hg w8 hbox hb; have n0_ := Aside0.mk (Aa.below (by repeat (first | (with_reducible first | exact HI595.out | apply Aa.alloc | apply Aa.drewN | apply Aa.drew | apply Aa.Au | apply Aa.Aw) | exact HI595.out)) hb); have n1_ := Aside0.mk (below_step Ygb_ hb); have n2_ := Aside0.mk (hbox); have n3_ := Aside0.mk ((by rw [hg]; exact (below_size Ygb_) : w.heap.size ≤ gb1)); have n4_ := Aside0.mk ((by rw [hg]; exact (below_size Ygb_) : w.heap.size ≤ gb1)); have n5_ := Aside0.mk ((by rw [hg]; exact Nat.ne_of_lt (Aa.lt (show Aa w _ gb0 l0 t599 t600 from by repeat (first | (with_reducible first | exact HI595.out | apply Aa.alloc | apply Aa.drewN | apply Aa.drew | apply Aa.Au | apply Aa.Aw) | exact HI595.out))) : gb0 ≠ gb1)); have n6_ := Aside0.mk ((by rw [hg]; exact Nat.ne_of_gt (Aa.lt (show Aa w _ gb0 l0 t599 t600 from by repeat (first | (with_reducible first | exact HI595.out | apply Aa.alloc | apply Aa.drewN | apply Aa.drew | apply Aa.Au | apply Aa.Aw) | exact HI595.out))) : gb1 ≠ gb0)); clear HI595; clear HB; have HI595 := n0_; have HB := n1_; have BK1 := n2_; have GW1 := n3_; have GE1 := n4_; have NB0_1 := n5_; have NB1_0 := n6_; clear n0_ n1_ n2_ n3_ n4_ n5_ n6_; clear hb hbox hg; have hnb9 := NB1_0.out; have hnc9 := NB0_1.out; have hcz10_0 : w8.cell? ⟨gb1, 0, none⟩ = some (.string (⟨#[]⟩ : ByteArray)) := (blk_cell BK1.out 0).trans rfl; have hcz10_1 : w8.cell? ⟨gb1, 1, none⟩ = some (.string (⟨#[]⟩ : ByteArray)) := (blk_cell BK1.out 1).trans rfl; have hcz10_2 : w8.cell? ⟨gb1, 2, none⟩ = some (.int .i64 0) := (blk_cell BK1.out 2).trans rfl; have hfz10_0 := Ac BK1.out 0; have hfz10_1 := Ac BK1.out 1; have hfz10_2 := Ac BK1.out 2) | ((with_reducible refine gate_callee (f := 55) rfl ?_); refine goesL_ (some 17) rfl rfl Tryd.func55 (by kernel_rfl) rfl #[.pointer (some ⟨gb0, 0, none⟩), .int .i64 4] rfl Yc_ ?_; (with_reducible refine (Am.calls gb0 l0 t599 t600 4 t602 t603 t604 w _ ?side1 ?side2 A4.out).mono ?_); (case side1 => repeat (first | (with_reducible first | exact HI595.out | apply Aa.alloc | apply Aa.drewN | apply Aa.drew | apply Aa.Au | apply Aa.Aw | refine Aa.far ?_ NB0_1.out _) | exact HI595.out)); (case side2 => repeat (first | (with_reducible first | exact HB.out | apply below_alloc | apply pw_below_drewN | apply below_drew1 | refine below_set ?_ (Aa.ge HI595.out) | refine below_set ?_ GE1.out) | exact HB.out)); rintro e w11 ⟨rfl, hi, hb, hk⟩; refine ⟨_, rfl, ?_⟩; have n0_ := Aside0.mk (Ad.blk hk (g' := gb1) (o := .cells #[.string t596, .string t597, .int .i64 t598] 31 (0, 0)) (by (with_reducible repeat (first | refine blk_drewN ?_ _ | refine blk_drew ?_ | refine blk_alloc ?_ _)); refine Ak (cs := #[.string t596, .string t597, .int .i64 0]) ?_ 2 _ rfl; (with_reducible repeat (first | refine blk_drewN ?_ _ | refine blk_drew ?_ | refine blk_alloc ?_ _)); refine Ak (cs := #[.string t596, .string (⟨#[]⟩ : ByteArray), .int .i64 0]) ?_ 1 _ rfl; (with_reducible repeat (first | refine blk_drewN ?_ _ | refine blk_drew ?_ | refine blk_alloc ?_ _)); refine Ak (cs := #[.string (⟨#[]⟩ : ByteArray), .string (⟨#[]⟩ : ByteArray), .int .i64 0]) ?_ 0 _ rfl; (with_reducible repeat (first | refine blk_drewN ?_ _ | refine blk_drew ?_ | refine blk_alloc ?_ _)); exact BK1.out) NB1_0.out (by simp)); have n1_ := Aside0.mk (hb); have n2_ := Aside0.mk (hi); clear BK1; clear HB; clear HI595; have BK1 := n0_; have HB := n1_; have HI595 := n2_; clear n0_ n1_ n2_; (try clear hb); (try clear hb2); (try clear hk); (try clear hi)))
    (try simp only [Act.put, List.setIfInBounds_toArray, List.set_cons_zero, List.set_cons_succ])
    generalize hys0 : t596 ++ t597 = ys0 at HC5 ⊢
    have Nys0 := Aside0.mk hys0
    clear hys0
    go_cut [5] (fun v5 wc => ∃ (kq : Nat) (x5_4 : ByteArray) (x596001_4 : Int) (x596002_4 : Int), v5 = .string x5_4 ∧ Aside0 (Bh.j0 kq x5_4 l0 x596001_4 x596002_4 = some r) ∧ Aside0 (kq ≤ k) ∧ Aside0 (wc.heap[gb1]? = some (.cells #[.string t596, .string t597, .int .i64 t598] 31 (0, 0))) ∧ Aside0 (Aa w wc gb0 l0 x596001_4 x596002_4) ∧ Aside0 (Below w.heap.size w wc))
    case first =>
      have H := HC5.out
      clear HC5
      by_cases c12 : t602 = 0
      · rw [if_pos c12] at H
        have c12b0 : (t602 == 0) = true := beq_iff_eq.mpr c12
        have c12b1 : (t602 != 0) = false := bne_eq_false_iff_eq.mpr c12
        clear c12
        (first | rw [c12b0] | (simp only [i64_w, i32_w]; rw [c12b0]) | skip)
        replace H := Option.bind_eq_some_iff.mp H
        obtain ⟨⟨t605, t606, t607⟩, A130, H⟩ := H
        replace H : (Bh.j0 k t605 l0 t606 t607) = some r := H
        have A13 := Aside0.mk A130
        clear A130
        have H' := Aside0.mk H
        clear H
        go_wp2_with (first | ((with_reducible refine gate_callee (f := 61) rfl ?_); refine goesL_ (some 22) rfl rfl Tryd.func61 (by kernel_rfl) rfl #[.pointer (some ⟨gb0, 0, none⟩), .string ys0, .string (⟨#[35, 64, 10, 48, 49]⟩ : ByteArray)] rfl Yc_ ?_; (with_reducible refine (D7.calls gb0 l0 t603 t604 ys0 (⟨#[35, 64, 10, 48, 49]⟩ : ByteArray) t605 t606 t607 w _ ?side1 ?side2 A13.out).mono ?_); (case side1 => repeat (first | (with_reducible first | exact HI595.out | apply Aa.alloc | apply Aa.drewN | apply Aa.drew | apply Aa.Au | apply Aa.Aw | refine Aa.far ?_ NB0_1.out _) | exact HI595.out)); (case side2 => repeat (first | (with_reducible first | exact HB.out | apply below_alloc | apply pw_below_drewN | apply below_drew1 | refine below_set ?_ (Aa.ge HI595.out) | refine below_set ?_ GE1.out) | exact HB.out)); rintro e w14 ⟨rfl, hi, hb, hk⟩; refine ⟨_, rfl, ?_⟩; have n0_ := Aside0.mk (Ad.blk hk (g' := gb1) (o := .cells #[.string t596, .string t597, .int .i64 t598] 31 (0, 0)) Yg_ NB1_0.out (by simp)); have n1_ := Aside0.mk (hb); have n2_ := Aside0.mk (hi); clear BK1; clear HB; clear HI595; have BK1 := n0_; have HB := n1_; have HI595 := n2_; clear n0_ n1_ n2_; (try clear hb); (try clear hb2); (try clear hk); (try clear hi)))
        go_meet
        case rel => exact ⟨_, (t605), (t606), (t607), Ybg_, H', ⟨by first | omega | exact Nat.le_refl _⟩, ⟨by (with_reducible repeat (first | refine blk_drewN ?_ _ | refine blk_drew ?_ | refine blk_alloc ?_ _)); exact BK1.out⟩, ⟨by repeat (first | (with_reducible first | exact HI595.out | apply Aa.alloc | apply Aa.drewN | apply Aa.drew | apply Aa.Au | apply Aa.Aw | refine Aa.far ?_ NB0_1.out _) | exact HI595.out)⟩, ⟨by repeat (first | (with_reducible first | exact HB.out | apply below_alloc | apply pw_below_drewN | apply below_drew1 | refine below_set ?_ (Aa.ge HI595.out) | refine below_set ?_ GE1.out) | exact HB.out)⟩⟩
      · rw [if_neg c12] at H
        have c12b0 : (t602 == 0) = false := beq_eq_false_iff_ne.mpr c12
        have c12b1 : (t602 != 0) = true := bne_iff_ne.mpr c12
        (first | rw [c12b0] | (simp only [i64_w, i32_w]; rw [c12b0]) | skip)
        by_cases c15 : t602 = 1
        · rw [if_pos c15] at H
          have c15b0 : (t602 == 1) = true := beq_iff_eq.mpr c15
          have c15b1 : (t602 != 1) = false := bne_eq_false_iff_eq.mpr c15
          clear c15
          replace H := Option.bind_eq_some_iff.mp H
          obtain ⟨⟨t608, t609, t610⟩, A160, H⟩ := H
          replace H : (if 0 ≤ t608 then (if t608 ≤ (ys0.size : Int) then (Bh.j0 k (ys0.extract 0 (t608 : Int).toNat) l0 t609 t610) else (none)) else (none)) = some r := H
          have A16 := Aside0.mk A160
          clear A160
          by_cases c17 : 0 ≤ t608
          · rw [if_pos c17] at H
            have c17b0 := eq_true c17
            have c17b1 : decide (0 ≤ t608) = true := decide_eq_true c17
            clear c17
            by_cases c18 : t608 ≤ (ys0.size : Int)
            · rw [if_pos c18] at H
              have c18b0 := eq_true c18
              have c18b1 : decide (t608 ≤ (ys0.size : Int)) = true := decide_eq_true c18
              have H' := Aside0.mk H
              clear H
              go_wp2_with (first | ((with_reducible refine gate_callee (f := 55) rfl ?_); refine goesL_ (some 30) rfl rfl Tryd.func55 (by kernel_rfl) rfl #[.pointer (some ⟨gb0, 0, none⟩), .int .i64 (wrap64 ((ys0.size : Int) + 1))] rfl Yc_ ?_; (with_reducible refine (Am.calls gb0 l0 t603 t604 (wrap64 ((ys0.size : Int) + 1)) t608 t609 t610 w _ ?side1 ?side2 A16.out).mono ?_); (case side1 => repeat (first | (with_reducible first | exact HI595.out | apply Aa.alloc | apply Aa.drewN | apply Aa.drew | apply Aa.Au | apply Aa.Aw | refine Aa.far ?_ NB0_1.out _) | exact HI595.out)); (case side2 => repeat (first | (with_reducible first | exact HB.out | apply below_alloc | apply pw_below_drewN | apply below_drew1 | refine below_set ?_ (Aa.ge HI595.out) | refine below_set ?_ GE1.out) | exact HB.out)); rintro e w19 ⟨rfl, hi, hb, hk⟩; refine ⟨_, rfl, ?_⟩; have n0_ := Aside0.mk (Ad.blk hk (g' := gb1) (o := .cells #[.string t596, .string t597, .int .i64 t598] 31 (0, 0)) Yg_ NB1_0.out (by simp)); have n1_ := Aside0.mk (hb); have n2_ := Aside0.mk (hi); clear BK1; clear HB; clear HI595; have BK1 := n0_; have HB := n1_; have HI595 := n2_; clear n0_ n1_ n2_; (try clear hb); (try clear hb2); (try clear hk); (try clear hi)))
              go_meet
              case rel => exact ⟨_, (ys0.extract 0 (t608 : Int).toNat), (t609), (t610), Ybg_, H', ⟨by first | omega | exact Nat.le_refl _⟩, ⟨by (with_reducible repeat (first | refine blk_drewN ?_ _ | refine blk_drew ?_ | refine blk_alloc ?_ _)); exact BK1.out⟩, ⟨by repeat (first | (with_reducible first | exact HI595.out | apply Aa.alloc | apply Aa.drewN | apply Aa.drew | apply Aa.Au | apply Aa.Aw | refine Aa.far ?_ NB0_1.out _) | exact HI595.out)⟩, ⟨by repeat (first | (with_reducible first | exact HB.out | apply below_alloc | apply pw_below_drewN | apply below_drew1 | refine below_set ?_ (Aa.ge HI595.out) | refine below_set ?_ GE1.out) | exact HB.out)⟩⟩
            · rw [if_neg c18] at H
              exact absurd H (by simp)
          · rw [if_neg c17] at H
            exact absurd H (by simp)
        · rw [if_neg c15] at H
          have c15b0 : (t602 == 1) = false := beq_eq_false_iff_ne.mpr c15
          have c15b1 : (t602 != 1) = true := bne_iff_ne.mpr c15
          by_cases c20 : t602 = 2
          · rw [if_pos c20] at H
            have c20b0 : (t602 == 2) = true := beq_iff_eq.mpr c20
            have c20b1 : (t602 != 2) = false := bne_eq_false_iff_eq.mpr c20
            clear c20
            replace H := Option.bind_eq_some_iff.mp H
            obtain ⟨⟨t611, t612, t613⟩, A210, H⟩ := H
            replace H : ((Dn.f l0 t612 t613).bind fun bt614 => ((Bi.f k t611 bt614.1 bt614.2.1).bind fun t618 => (if ys0.size + t618.size ≤ 9223372036854775807 then (Bh.j0 k (ys0 ++ t618) l0 bt614.2.2.1 bt614.2.2.2) else (none)))) = some r := H
            have A21 := Aside0.mk A210
            clear A210
            replace H := Option.bind_eq_some_iff.mp H
            obtain ⟨⟨t614, t615, t616, t617⟩, A220, H⟩ := H
            replace H : ((Bi.f k t611 t614 t615).bind fun t618 => (if ys0.size + t618.size ≤ 9223372036854775807 then (Bh.j0 k (ys0 ++ t618) l0 t616 t617) else (none))) = some r := H
            have A22 := Aside0.mk A220
            clear A220
            replace H := Option.bind_eq_some_iff.mp H
            obtain ⟨t618, A230, H⟩ := H
            replace H : (if ys0.size + t618.size ≤ 9223372036854775807 then (Bh.j0 k (ys0 ++ t618) l0 t616 t617) else (none)) = some r := H
            have A23 := Aside0.mk A230
            clear A230
            by_cases c24 : ys0.size + t618.size ≤ 9223372036854775807
            · rw [if_pos c24] at H
              have c24b0 := eq_true c24
              have c24b1 : decide (ys0.size + t618.size ≤ 9223372036854775807) = true := decide_eq_true c24
              try have c24b2 : (9223372036854775807 < ys0.size + t618.size) = False := eq_false (Nat.not_lt.2 c24)
              have c24b3 := c24
              try simp only [ByteArray.size_extract, ByteArray.size_append] at c24b3
              have c24b4 := eq_false (Nat.not_lt.2 c24b3)
              have H' := Aside0.mk H
              clear H
              go_wp2_with (first | ((with_reducible refine gate_callee (f := 55) rfl ?_); refine goesL_ (some 36) rfl rfl Tryd.func55 (by kernel_rfl) rfl #[.pointer (some ⟨gb0, 0, none⟩), .int .i64 4] rfl Yc_ ?_; (with_reducible refine (Am.calls gb0 l0 t603 t604 4 t611 t612 t613 w _ ?side1 ?side2 A21.out).mono ?_); (case side1 => repeat (first | (with_reducible first | exact HI595.out | apply Aa.alloc | apply Aa.drewN | apply Aa.drew | apply Aa.Au | apply Aa.Aw | refine Aa.far ?_ NB0_1.out _) | exact HI595.out)); (case side2 => repeat (first | (with_reducible first | exact HB.out | apply below_alloc | apply pw_below_drewN | apply below_drew1 | refine below_set ?_ (Aa.ge HI595.out) | refine below_set ?_ GE1.out) | exact HB.out)); rintro e w25 ⟨rfl, hi, hb, hk⟩; refine ⟨_, rfl, ?_⟩; have n0_ := Aside0.mk (Ad.blk hk (g' := gb1) (o := .cells #[.string t596, .string t597, .int .i64 t598] 31 (0, 0)) Yg_ NB1_0.out (by simp)); have n1_ := Aside0.mk (hb); have n2_ := Aside0.mk (hi); clear BK1; clear HB; clear HI595; have BK1 := n0_; have HB := n1_; have HI595 := n2_; clear n0_ n1_ n2_; (try clear hb); (try clear hb2); (try clear hk); (try clear hi)) | ((with_reducible refine gate_callee (f := 56) rfl ?_); refine goesL_ (some 38) rfl rfl Tryd.func56 (by kernel_rfl) rfl #[.pointer (some ⟨gb0, 0, none⟩)] rfl Yc_ ?_; (with_reducible refine (Dn.calls gb0 l0 t612 t613 t614 t615 t616 t617 w _ ?side1 ?side2 A22.out).mono ?_); (case side1 => repeat (first | (with_reducible first | exact HI595.out | apply Aa.alloc | apply Aa.drewN | apply Aa.drew | apply Aa.Au | apply Aa.Aw | refine Aa.far ?_ NB0_1.out _) | exact HI595.out)); (case side2 => repeat (first | (with_reducible first | exact HB.out | apply below_alloc | apply pw_below_drewN | apply below_drew1 | refine below_set ?_ (Aa.ge HI595.out) | refine below_set ?_ GE1.out) | exact HB.out)); rintro e w26 ⟨rfl, hi, hb, hk⟩; refine ⟨_, rfl, ?_⟩; have n0_ := Aside0.mk (Ad.blk hk (g' := gb1) (o := .cells #[.string t596, .string t597, .int .i64 t598] 31 (0, 0)) Yg_ NB1_0.out (by simp)); have n1_ := Aside0.mk (hb); have n2_ := Aside0.mk (hi); clear BK1; clear HB; clear HI595; have BK1 := n0_; have HB := n1_; have HI595 := n2_; clear n0_ n1_ n2_; (try clear hb); (try clear hb2); (try clear hk); (try clear hi)) | ((with_reducible refine gate_callee (f := 44) rfl ?_); refine goesL_ (some 39) rfl rfl Tryd.func44 (by kernel_rfl) rfl #[.int .i64 t611, .agg #[.string t614, .string t615]] rfl Yc_ ?_; (with_reducible refine (Bi.calls k t611 t614 t615 t618 _ A23.out).mono ?_); rintro e w27 ⟨rfl, hb⟩; refine ⟨_, rfl, ?_⟩; have n0_ := Aside0.mk (Aa.below Ygf_ hb); have n1_ := Aside0.mk (blk_below (g := gb1) (o := .cells #[.string t596, .string t597, .int .i64 t598] 31 (0, 0)) Yg_ hb); have n2_ := Aside0.mk (below_step Yfi_ hb); clear HI595; clear BK1; clear HB; have HI595 := n0_; have BK1 := n1_; have HB := n2_; clear n0_ n1_ n2_; (try clear hb); (try clear hb2); (try clear hk); (try clear hi)))
              go_meet
              case rel => exact ⟨_, (ys0 ++ t618), (t616), (t617), Ybg_, H', ⟨by first | omega | exact Nat.le_refl _⟩, ⟨by (with_reducible repeat (first | refine blk_drewN ?_ _ | refine blk_drew ?_ | refine blk_alloc ?_ _)); exact BK1.out⟩, ⟨by repeat (first | (with_reducible first | exact HI595.out | apply Aa.alloc | apply Aa.drewN | apply Aa.drew | apply Aa.Au | apply Aa.Aw | refine Aa.far ?_ NB0_1.out _) | exact HI595.out)⟩, ⟨by repeat (first | (with_reducible first | exact HB.out | apply below_alloc | apply pw_below_drewN | apply below_drew1 | refine below_set ?_ (Aa.ge HI595.out) | refine below_set ?_ GE1.out) | exact HB.out)⟩⟩
            · rw [if_neg c24] at H
              exact absurd H (by simp)
          · rw [if_neg c20] at H
            have c20b0 : (t602 == 2) = false := beq_eq_false_iff_ne.mpr c20
            have c20b1 : (t602 != 2) = true := bne_iff_ne.mpr c20
            have H' := Aside0.mk H
            clear H
            go_wp2
            go_meet
            case rel => exact ⟨_, ys0, (t603), (t604), Ybg_, H', ⟨by first | omega | exact Nat.le_refl _⟩, ⟨by (with_reducible repeat (first | refine blk_drewN ?_ _ | refine blk_drew ?_ | refine blk_alloc ?_ _)); exact BK1.out⟩, ⟨by repeat (first | (with_reducible first | exact HI595.out | apply Aa.alloc | apply Aa.drewN | apply Aa.drew | apply Aa.Au | apply Aa.Aw | refine Aa.far ?_ NB0_1.out _) | exact HI595.out)⟩, ⟨by repeat (first | (with_reducible first | exact HB.out | apply below_alloc | apply pw_below_drewN | apply below_drew1 | refine below_set ?_ (Aa.ge HI595.out) | refine below_set ?_ GE1.out) | exact HB.out)⟩⟩
    case rest =>
      clear HC5
      try clear c1
      try clear c2
      try clear p2
      try clear c3
      try clear c3b0
      try clear c3b1
      try clear c3b2
      try clear c4
      try clear c5
      try clear c6
      try clear p6
      try clear c9
      try clear c12
      try clear c12b0
      try clear c12b1
      try clear c15
      try clear c15b0
      try clear c15b1
      try clear c17
      try clear c17b0
      try clear c17b1
      try clear c18
      try clear c18b0
      try clear c18b1
      try clear c20
      try clear c20b0
      try clear c20b1
      try clear c24
      try clear c24b0
      try clear c24b1
      try clear c24b2
      try clear hcz10_0
      try clear hcz10_1
      try clear hcz10_2
      try clear hfz10_0
      try clear hfz10_1
      try clear hfz10_2
      obtain ⟨kq, x5_4, x596001_4, x596002_4, rfl, HA, HJ4, BK1, HI595, HB⟩ := hcut
      cases kq with
      | zero => exact absurd HA.out (by simp [Bh.j0])
      | succ kj4 =>
        have H := HA.out
        clear HA
        simp only [Bh.j0] at H
        replace H := Option.bind_eq_some_iff.mp H
        obtain ⟨⟨t619, t620, t621⟩, A280, H⟩ := H
        replace H : (if t619 = true then ((Am.f l0 t620 t621 2).bind fun bt622 => (if 0 ≤ (wrap64 (30000 + bt622.1)) then (if (wrap64 (30000 + bt622.1) : Int).toNat ≤ 281474976710656 then (some (strOfNums (List.replicate (wrap64 (30000 + bt622.1) : Int).toNat 0))) else (none)) else (none))) else (some x5_4)) = some r := H
        have A28 := Aside0.mk A280
        clear A280
        by_cases c29 : t619 = true
        · subst c29
          have H1 : ((Am.f l0 t620 t621 2).bind fun bt622 => (if 0 ≤ (wrap64 (30000 + bt622.1)) then (if (wrap64 (30000 + bt622.1) : Int).toNat ≤ 281474976710656 then (some (strOfNums (List.replicate (wrap64 (30000 + bt622.1) : Int).toNat 0))) else (none)) else (none))) = some r := by rw [if_pos rfl] at H; exact H
          clear H
          have H := H1
          clear H1
          replace H := Option.bind_eq_some_iff.mp H
          obtain ⟨⟨t622, t623, t624⟩, A300, H⟩ := H
          replace H : (if 0 ≤ (wrap64 (30000 + t622)) then (if (wrap64 (30000 + t622) : Int).toNat ≤ 281474976710656 then (some (strOfNums (List.replicate (wrap64 (30000 + t622) : Int).toNat 0))) else (none)) else (none)) = some r := H
          have A30 := Aside0.mk A300
          clear A300
          obtain ⟨ji31, hji31⟩ : ∃ j_ : Int, (wrap64 (30000 + t622)) = j_ := ⟨_, rfl⟩
          replace H : (if 0 ≤ (ji31) then (if (ji31 : Int).toNat ≤ 281474976710656 then (some (strOfNums (List.replicate (ji31 : Int).toNat 0))) else (none)) else (none)) = some r := by first | (rw [hji31] at H; exact H) | (simp only [hji31] at H ⊢; exact H)
          (try rw [hji31] at A28)
          (try rw [hji31] at A30)
          have hji31w : (IntKind.i64.wrap (30000 + t622)) = ji31 := (i64_w _).trans hji31
          by_cases c32 : 0 ≤ (ji31)
          · rw [if_pos c32] at H
            have c32b0 := eq_true c32
            have c32b1 : decide (0 ≤ (ji31)) = true := decide_eq_true c32
            clear c32
            by_cases c33 : (ji31 : Int).toNat ≤ 281474976710656
            · rw [if_pos c33] at H
              have c33b0 := eq_true c33
              have c33b1 : decide ((ji31 : Int).toNat ≤ 281474976710656) = true := decide_eq_true c33
              clear c33
              obtain ⟨y625, hy625⟩ : ∃ y_ : List Int, y_ = (List.replicate (ji31 : Int).toNat 0) := ⟨_, rfl⟩
              replace H : (some (strOfNums y625)) = some r := by first | (rw [hy625]; with_reducible exact H) | (have H2_ := (Option.bind_some _ _).symm.trans H; rw [hy625]; with_reducible exact H2_) | (have H2_ := (Option.bind_some _ _).symm.trans H; with_reducible exact H2_) | with_reducible exact H | (rw [hy625]; exact H) | exact H
              have Ny625 := Aside0.mk hy625
              clear hy625
              obtain rfl := Option.some.inj H
              go_wp2_with (first | ((with_reducible refine gate_callee (f := 54) rfl ?_); refine goesL_ (some 42) rfl rfl Tryd.func54 (by kernel_rfl) rfl #[.pointer (some ⟨gb0, 0, none⟩), .int .i64 40] rfl Yc_ ?_; (with_reducible refine (D9.calls gb0 l0 x596001_4 x596002_4 40 true t620 t621 w _ ?side1 ?side2 A28.out).mono ?_); (case side1 => repeat (first | (with_reducible first | exact HI595.out | apply Aa.alloc | apply Aa.drewN | apply Aa.drew | apply Aa.Au | apply Aa.Aw | refine Aa.far ?_ NB0_1.out _) | exact HI595.out)); (case side2 => repeat (first | (with_reducible first | exact HB.out | apply below_alloc | apply pw_below_drewN | apply below_drew1 | refine below_set ?_ (Aa.ge HI595.out) | refine below_set ?_ GE1.out) | exact HB.out)); rintro e w34 ⟨rfl, hi, hb, hk⟩; refine ⟨_, rfl, ?_⟩; have n0_ := Aside0.mk (Ad.blk hk (g' := gb1) (o := .cells #[.string t596, .string t597, .int .i64 t598] 31 (0, 0)) Yg_ NB1_0.out (by simp)); have n1_ := Aside0.mk (hb); have n2_ := Aside0.mk (hi); clear BK1; clear HB; clear HI595; have BK1 := n0_; have HB := n1_; have HI595 := n2_; clear n0_ n1_ n2_; (try clear hb); (try clear hb2); (try clear hk); (try clear hi)) | ((with_reducible refine gate_callee (f := 55) rfl ?_); refine goesL_ (some 44) rfl rfl Tryd.func55 (by kernel_rfl) rfl #[.pointer (some ⟨gb0, 0, none⟩), .int .i64 2] rfl Yc_ ?_; (with_reducible refine (Am.calls gb0 l0 t620 t621 2 t622 t623 t624 w _ ?side1 ?side2 A30.out).mono ?_); (case side1 => repeat (first | (with_reducible first | exact HI595.out | apply Aa.alloc | apply Aa.drewN | apply Aa.drew | apply Aa.Au | apply Aa.Aw | refine Aa.far ?_ NB0_1.out _) | exact HI595.out)); (case side2 => repeat (first | (with_reducible first | exact HB.out | apply below_alloc | apply pw_below_drewN | apply below_drew1 | refine below_set ?_ (Aa.ge HI595.out) | refine below_set ?_ GE1.out) | exact HB.out)); rintro e w35 ⟨rfl, hi, hb, hk⟩; refine ⟨_, rfl, ?_⟩; have n0_ := Aside0.mk (Ad.blk hk (g' := gb1) (o := .cells #[.string t596, .string t597, .int .i64 t598] 31 (0, 0)) Yg_ NB1_0.out (by simp)); have n1_ := Aside0.mk (hb); have n2_ := Aside0.mk (hi); clear BK1; clear HB; clear HI595; have BK1 := n0_; have HB := n1_; have HI595 := n2_; clear n0_ n1_ n2_; (try clear hb); (try clear hb2); (try clear hk); (try clear hi)) | ((with_reducible refine gate_dst (N := 46) rfl ?_); refine Kd.R_make (Kd.int .u8) _ 5 rfl (N := 46) rfl 53 _ _ rfl ji31 rfl rfl Tryd.underlying53 (.int .u8 0) 1 info5 rfl (by decide) (by omega) 0 (ok := fun _ => True) (okp := fun _ => True) rfl (fun _ hk => hk) trivial (of_decide_eq_true Yba_) (Nat.le_trans (Nat.mul_le_mul_right _ (of_decide_eq_true Yba_ : ji31.toNat ≤ 281474976710656)) (by omega)) (Below.refl _ _) (Nat.le_refl _) ?_; intro v626 w36 ho37 hb hg_ hnew_; clear hg_ hnew_; (first | rw [← Ny625.out] at ho37 | (simp only [Int.reduceToNat] at ho37; rw [← Ny625.out] at ho37)); have n0_ := Aside0.mk (Kd.D6 ho37 (below_size Yfi_)); have n1_ := Aside0.mk (blk_below (g := gb1) (o := .cells #[.string t596, .string t597, .int .i64 t598] 31 (0, 0)) Yg_ hb); have n2_ := Aside0.mk (Aa.below Ygf_ hb); have n3_ := Aside0.mk (below_step Yfi_ hb); clear BK1; clear HI595; clear HB; have HO627 := n0_; have BK1 := n1_; have HI595 := n2_; have HB := n3_; clear n0_ n1_ n2_ n3_; clear hb ho37; have hcv38 := own_string (P := Tryd.prog) Tryd.underlying53 Tryd.underlying5 Tryd.underlying9 (Kd.own_of_R HO627.out)))
              go_ret
              exact ⟨by first | rfl | (simp [Af, Ag] <;> rfl) | (simp only [← hji31]; first | rfl | (simp [Af, Ag] <;> rfl)) | (simp [*, Af, Ag] <;> rfl), by repeat (first | (with_reducible first | exact HB.out | apply below_alloc | apply pw_below_drewN | apply below_drew1 | refine below_set ?_ (Aa.ge HI595.out) | refine below_set ?_ GE1.out) | exact HB.out)⟩
            · rw [if_neg c33] at H
              exact absurd H (by simp)
          · rw [if_neg c32] at H
            exact absurd H (by simp)
        · replace c29 := Bool.eq_false_iff.mpr c29
          subst c29
          have H1 : (some x5_4) = some r := by rw [if_neg (show ¬ (false = true) by decide)] at H; exact H
          clear H
          have H := H1
          clear H1
          obtain rfl := Option.some.inj H
          go_wp2_with (first | ((with_reducible refine gate_callee (f := 54) rfl ?_); refine goesL_ (some 42) rfl rfl Tryd.func54 (by kernel_rfl) rfl #[.pointer (some ⟨gb0, 0, none⟩), .int .i64 40] rfl Yc_ ?_; (with_reducible refine (D9.calls gb0 l0 x596001_4 x596002_4 40 false t620 t621 w _ ?side1 ?side2 A28.out).mono ?_); (case side1 => repeat (first | (with_reducible first | exact HI595.out | apply Aa.alloc | apply Aa.drewN | apply Aa.drew | apply Aa.Au | apply Aa.Aw | refine Aa.far ?_ NB0_1.out _) | exact HI595.out)); (case side2 => repeat (first | (with_reducible first | exact HB.out | apply below_alloc | apply pw_below_drewN | apply below_drew1 | refine below_set ?_ (Aa.ge HI595.out) | refine below_set ?_ GE1.out) | exact HB.out)); rintro e w39 ⟨rfl, hi, hb, hk⟩; refine ⟨_, rfl, ?_⟩; have n0_ := Aside0.mk (Ad.blk hk (g' := gb1) (o := .cells #[.string t596, .string t597, .int .i64 t598] 31 (0, 0)) Yg_ NB1_0.out (by simp)); have n1_ := Aside0.mk (hb); have n2_ := Aside0.mk (hi); clear BK1; clear HB; clear HI595; have BK1 := n0_; have HB := n1_; have HI595 := n2_; clear n0_ n1_ n2_; (try clear hb); (try clear hb2); (try clear hk); (try clear hi)))
          go_ret
          exact ⟨by first | rfl | (simp [Af, Ag] <;> rfl) | (simp [*, Af, Ag] <;> rfl), by repeat (first | (with_reducible first | exact HB.out | apply below_alloc | apply pw_below_drewN | apply below_drew1 | refine below_set ?_ (Aa.ge HI595.out) | refine below_set ?_ GE1.out) | exact HB.out)⟩
  · rw [if_neg c3] at H
    exact absurd H (by simp)
end Go.Proofs.YtkpieljmhgfofaaDoor.X

namespace Go.Proofs.YtkpieljmhgfofaaDoor.X
open Go.RowKit Go.Proofs.YtkpieljmhgfofaaDoorW.PrintWords Go.Proofs.YtkpieljmhgfofaaDoorL
theorem of_ok {l : List Int} (h : okB l) (p s : Int) (x : List ByteArray) (h0 : 0 ≤ p) (h1 : p ≤ 900000000000) (hx : 1 ≤ x.length) (hx2 : x.length ≤ 1000) : Drawn (Cm.f l p s x) p 2 (fun v => v ∈ x) := by
  obtain ⟨v, p', s', e, q, b⟩ := pick_ok h p s x.length h0 h1 (by omega)
  have hlt := q.2.1 (by omega)
  have hv : v.toNat < x.length := by omega
  refine ⟨Bf ByteArray.empty x v, p', s', ?_, ?_, b⟩
  · unfold Cm.f; rw [e]; simp only [Option.bind_some]; rw [if_pos q.1, if_pos hlt]
  · simp only [Bf, List.getD_eq_getElem?_getD, List.getElem?_eq_getElem hv, Option.getD_some]; exact List.getElem_mem _
theorem logRecord_ok {l : List Int} (h : okB l) (p s : Int) (h0 : 0 ≤ p) (h1 : p ≤ 800000000000) : ∃ q r p' s', Dn.f l p s = some (q, r, p', s') ∧ q.size ≤ 20 ∧ r.size ≤ 20 ∧ p ≤ p' ∧ p' ≤ p + 8 := by
  unfold Dn.f
  obtain ⟨v1, p1, s1, e1, m1, b1, b1'⟩ := of_ok h p s [(⟨#[99, 111, 117, 110, 116]⟩ : ByteArray), (⟨#[115, 111, 114, 116, 32, 109, 101, 114, 103, 101]⟩ : ByteArray), (⟨#[120]⟩ : ByteArray), (⟨#[115, 101, 108, 101, 99, 116, 32, 50]⟩ : ByteArray), (⟨#[48, 32, 49]⟩ : ByteArray)] h0 (by omega) (by simp) (by simp)
  have z1 : v1.size ≤ 20 := (show ∀ v ∈ [(⟨#[99, 111, 117, 110, 116]⟩ : ByteArray), (⟨#[115, 111, 114, 116, 32, 109, 101, 114, 103, 101]⟩ : ByteArray), (⟨#[120]⟩ : ByteArray), (⟨#[115, 101, 108, 101, 99, 116, 32, 50]⟩ : ByteArray), (⟨#[48, 32, 49]⟩ : ByteArray)], v.size ≤ 20 by decide) _ m1
  rw [e1]; simp only [Option.bind_some]
  obtain ⟨v2, p2, s2, e2, m2, b2, b2'⟩ := of_ok h p1 s1 [(⟨#[]⟩ : ByteArray), (⟨#[51]⟩ : ByteArray), (⟨#[63]⟩ : ByteArray), (⟨#[97, 64, 98]⟩ : ByteArray), (⟨#[51, 32, 49, 32, 50]⟩ : ByteArray)] (by omega) (by omega) (by simp) (by simp)
  have z2 : v2.size ≤ 20 := (show ∀ v ∈ [(⟨#[]⟩ : ByteArray), (⟨#[51]⟩ : ByteArray), (⟨#[63]⟩ : ByteArray), (⟨#[97, 64, 98]⟩ : ByteArray), (⟨#[51, 32, 49, 32, 50]⟩ : ByteArray)], v.size ≤ 20 by decide) _ m2
  rw [e2]; simp only [Option.bind_some]
  obtain ⟨v3, p3, s3, e3, _, b3, b3'⟩ := pick_ok h p2 s2 24 (by omega) (by omega) (by omega)
  rw [e3]; simp only [Option.bind_some]
  by_cases c1 : v3 = 0
  · rw [if_pos c1, if_pos (by omega)]
    obtain ⟨v4, p4, s4, e4, m4, b4, b4'⟩ := of_ok h p3 s3 [(⟨#[]⟩ : ByteArray), (⟨#[97, 64, 98]⟩ : ByteArray), (⟨#[97, 35]⟩ : ByteArray), (⟨#[10]⟩ : ByteArray), strOfNums (List.replicate 3 0)] (by omega) (by omega) (by simp) (by simp)
    have z4 : v4.size ≤ 20 := (show ∀ v ∈ [(⟨#[]⟩ : ByteArray), (⟨#[97, 64, 98]⟩ : ByteArray), (⟨#[97, 35]⟩ : ByteArray), (⟨#[10]⟩ : ByteArray), strOfNums (List.replicate 3 0)], v.size ≤ 20 by decide) _ m4
    rw [e4]; simp only [Option.bind_some]
    exact ⟨_, _, _, _, rfl, z4, z2, by omega, by omega⟩
  · rw [if_neg c1]
    by_cases c2 : v3 = 1
    · rw [if_pos c2]
      obtain ⟨v4, p4, s4, e4, m4, b4, b4'⟩ := of_ok h p3 s3 [(⟨#[35]⟩ : ByteArray), (⟨#[10]⟩ : ByteArray), (⟨#[127]⟩ : ByteArray)] (by omega) (by omega) (by simp) (by simp)
      have z4 : v4.size ≤ 20 := (show ∀ v ∈ [(⟨#[35]⟩ : ByteArray), (⟨#[10]⟩ : ByteArray), (⟨#[127]⟩ : ByteArray)], v.size ≤ 20 by decide) _ m4
      rw [e4]; simp only [Option.bind_some]
      exact ⟨_, _, _, _, rfl, z1, z4, by omega, by omega⟩
    · rw [if_neg c2]
      exact ⟨_, _, _, _, rfl, z1, z2, by omega, by omega⟩
noncomputable def syncd (D P : ByteArray) (c : Int) : ByteArray × ByteArray × Int × Bool := if Ez D P c = true then (D ++ P, ⟨#[]⟩, c, true) else (⟨#[]⟩, ⟨#[]⟩, 0, false)
theorem specSync_ev (D P : ByteArray) (c : Int) (hD : D.size ≤ 1048576) (hP : P.size ≤ 1048576) : Ev (fun k => Ef.f k D P c) (syncd D P c) := by
  unfold Ef.f syncd
  refine Ev.bind (specLog_ev D P c hD hP) ?_
  simp only [if_pos (show D.size + P.size ≤ 9223372036854775807 by omega)]
  by_cases h : Ez D P c = true
  · simp only [if_pos h]; exact Ev.now _
  · simp only [if_neg h]; exact Ev.now _
theorem appd_size (D P : ByteArray) (c : Int) (q r : ByteArray) : (appd D P c q r).1.size + (appd D P c q r).2.1.size ≤ D.size + P.size + 406 := by
  unfold appd
  by_cases h : Ez D P c = true ∧ Ee q r = true
  · rw [if_pos h]
    obtain ⟨c0, c1⟩ := logOk_count h.1
    by_cases e : c = 60
    · rw [if_pos e]; simp only; omega
    · rw [if_neg e]
      have := line_bytes c0 (by omega) h.2
      simp only [ByteArray.size_append]; omega
  · rw [if_neg h]; simp only; omega
theorem syncd_size (D P : ByteArray) (c : Int) : (syncd D P c).1.size + (syncd D P c).2.1.size ≤ D.size + P.size := by
  unfold syncd
  by_cases h : Ez D P c = true
  · rw [if_pos h]; simp only [ByteArray.size_append]; show _ + 0 ≤ _; omega
  · rw [if_neg h]; show 0 + 0 ≤ _; omega
theorem log_ok {l : List Int} (h : okB l) (p s : Int) (h0 : 0 ≤ p) (h1 : p ≤ 700000000000) : ∃ D P c p' s', Ev (fun k => Ar.f k l p s) (D, P, c, p', s') ∧ D.size + P.size ≤ 3000 ∧ p ≤ p' ∧ p' ≤ p + 100 := by
  unfold Ar.f
  obtain ⟨v, p1, s1, e1, q, b1, b1'⟩ := pick_ok h p s 7 h0 (by omega) (by omega)
  have key : ∀ (d : Nat) (D P : ByteArray) (c p s : Int), d ≤ 7 → 0 ≤ p → p + 10 * (d : Int) ≤ 700000001000 → D.size + P.size + 406 * d ≤ 3000 →
      ∃ D' P' c' p' s', Ev (fun k => Ar.l0 k (d : Int) l p s D P c) (D', P', c', p', s') ∧ D'.size + P'.size ≤ 3000 ∧ p ≤ p' ∧ p' ≤ p + 10 * d := by
    intro d
    induction d with
    | zero =>
      intro D P c p s hd hp hp2 hz
      exact ⟨D, P, c, p, s, Ev.step (f := fun _ => some _) (fun k => by simp only [Ar.l0]; rw [if_neg (by omega)]) (Ev.now _), by omega, by omega, by omega⟩
    | succ d ih =>
      intro D P c p s hd hp hp2 hz
      obtain ⟨q, r, p2, s2, e2, z1, z2, b2, b2'⟩ := logRecord_ok h p s hp (by omega)
      have ha := specAppend_ev D P c q r (by omega) (by omega) (by omega) (by omega)
      have hsz := appd_size D P c q r
      obtain ⟨t, p3, s3, e3, _, b3, b3'⟩ := one_ok h p2 s2 4 (by omega) (by omega) (by omega)
      generalize appd D P c q r = A at ha hsz
      have hw : wrap64 (((d + 1 : Nat) : Int) - 1) = (d : Int) := by rw [wrap_id (by omega) (by omega)]; omega
      by_cases ht : t = true
      · have hs := specSync_ev A.1 A.2.1 A.2.2.1 (by omega) (by omega)
        have hsy := syncd_size A.1 A.2.1 A.2.2.1
        generalize syncd A.1 A.2.1 A.2.2.1 = Y at hs hsy
        obtain ⟨D', P', c', p', s', hev, hz', q1, q2⟩ := ih Y.1 Y.2.1 Y.2.2.1 p3 s3 (by omega) (by omega) (by omega) (by omega)
        refine ⟨D', P', c', p', s', ?_, hz', by omega, by omega⟩
        refine Ev.step (f := fun k => (Az.f k D P c q r).bind fun bt480 => (Ef.f k bt480.1 bt480.2.1 bt480.2.2.1).bind fun bt487 => Ar.l0 k (d : Int) l p3 s3 bt487.1 bt487.2.1 bt487.2.2.1) (fun k => ?_) (Ev.bind ha (Ev.bind hs hev))
        simp only [Ar.l0]
        rw [if_pos (by omega), e2, Option.bind_some]
        refine congrArg _ (funext fun bt480 => ?_)
        show ((D9.f l p2 s2 4).bind _) = _
        rw [e3, Option.bind_some]
        show (if t = true then _ else _) = _
        rw [if_pos ht, hw]
      · obtain ⟨D', P', c', p', s', hev, hz', q1, q2⟩ := ih A.1 A.2.1 A.2.2.1 p3 s3 (by omega) (by omega) (by omega) (by omega)
        refine ⟨D', P', c', p', s', ?_, hz', by omega, by omega⟩
        refine Ev.step (f := fun k => (Az.f k D P c q r).bind fun bt480 => Ar.l0 k (d : Int) l p3 s3 bt480.1 bt480.2.1 bt480.2.2.1) (fun k => ?_) (Ev.bind ha hev)
        simp only [Ar.l0]
        rw [if_pos (by omega), e2, Option.bind_some]
        refine congrArg _ (funext fun bt480 => ?_)
        show ((D9.f l p2 s2 4).bind _) = _
        rw [e3, Option.bind_some]
        show (if t = true then _ else _) = _
        rw [if_neg ht, hw]
  obtain ⟨d, rfl⟩ := Int.eq_ofNat_of_zero_le q.1
  have hd := q.2.1 (by omega)
  obtain ⟨D', P', c', p', s', hev, hz', q1, q2⟩ := key d ⟨#[]⟩ ⟨#[]⟩ 0 p1 s1 (by omega) (by omega) (by omega) (by show 0 + 0 + 406 * d ≤ 3000; omega)
  refine ⟨D', P', c', p', s', ?_, hz', by omega, by omega⟩
  rw [e1]
  simp only [Option.bind_some]
  exact hev
theorem spoilt_ok {l : List Int} (h : okB l) (p s : Int) (a b : ByteArray) (h0 : 0 ≤ p) (h1 : p ≤ 800000000000) (ha : a.size ≤ 1000000) (hb : 1 ≤ b.size) (hb2 : b.size ≤ 100) : Drawn (D7.f l p s a b) p 6 (fun v => v.size ≤ a.size + 1) := by
  unfold D7.f
  by_cases c : a.toList = ([] : List UInt8)
  · rw [if_pos c, if_pos (by omega)]
    exact ⟨_, _, _, rfl, by simp only [ByteArray.size_extract]; omega, by omega, by omega⟩
  · rw [if_neg c]
    have ha1 : 1 ≤ a.size := by
      rcases Nat.eq_zero_or_pos a.size with e | e
      · exfalso; apply c; rw [G7]; exact List.length_eq_zero_iff.1 (by rw [Dj]; exact e)
      · exact e
    obtain ⟨v1, p1, s1, e1, m1, b1, b1'⟩ := pick_ok h p s a.size h0 (by omega) (by omega)
    obtain ⟨v2, p2, s2, e2, m2, b2, b2'⟩ := pick_ok h p1 s1 b.size (by omega) (by omega) (by omega)
    obtain ⟨v3, p3, s3, e3, m3, b3, b3'⟩ := pick_ok h p2 s2 3 (by omega) (by omega) (by omega)
    have k1 := m1.2.1 (by omega)
    have k2 := m2.2.1 (by omega)
    rw [e1]; simp only [Option.bind_some]
    rw [e2]; simp only [Option.bind_some]
    rw [e3]; simp only [Option.bind_some]
    rw [if_pos ⟨⟨m2.1, k2⟩, ⟨m1.1, k1⟩, by omega, by omega⟩]
    by_cases d0 : v3 = 0
    · rw [if_pos d0]
      exact ⟨_, _, _, rfl, by simp only [ByteArray.size_append, ByteArray.size_extract]; omega, by omega, by omega⟩
    · rw [if_neg d0]
      by_cases d1 : v3 = 1
      · rw [if_pos d1]
        exact ⟨_, _, _, rfl, by simp only [ByteArray.size_append, ByteArray.size_extract]; omega, by omega, by omega⟩
      · rw [if_neg d1]
        exact ⟨_, _, _, rfl, by simp only [ByteArray.size_append, ByteArray.size_extract]; omega, by omega, by omega⟩
end Go.Proofs.YtkpieljmhgfofaaDoor.X

namespace Go.Proofs.YtkpieljmhgfofaaDoor.X
open Go.RowKit Go.Proofs.YtkpieljmhgfofaaDoorW.PrintWords Go.Proofs.YtkpieljmhgfofaaDoorW.PrintLast Go.Proofs.YtkpieljmhgfofaaDoorW.PrintMore
attribute [local go_sem] max2_int min2_int max_two min_two max_three min_three max_four min_four
open Go.Proofs.YtkpieljmhgfofaaDoorG
def Hl.f (l0 : List Int) : Option (Int × ByteArray × ByteArray) := (Gg.f l0 0 0 (([0, 1, 12, 59, 60, (-1)] : List Int))).bind fun bt588 => ((Dn.f l0 bt588.2.1 bt588.2.2).bind fun bt591 => (some (bt588.1, bt591.1, bt591.2.1)))
set_option maxHeartbeats 8000000 in
set_option maxRecDepth 100000 in
theorem Hl.calls (A0 : Option Addr) (c0 : Nat) (l0 : List Int) (r1 : Int) (r2 : ByteArray) (r3 : ByteArray) (w : World) (hr0 : Kd.C (Kd.int .u8) w A0 l0.length l0) (hc0 : l0.length ≤ c0) (h : Hl.f l0 = some (r1, r2, r3)) :
    Calls Tryd.prog 39 #[.slice A0 l0.length c0] w fun e w' => e = .returned (.tuple #[.int .i64 r1, .agg #[.string r2, .string r3]]) ∧ Below w.heap.size w w' := by
  have hu27 := Tryd.underlying27
  have hu74 := Tryd.underlying74
  have HR0 := Aside0.mk hr0
  have HC0 := Aside0.mk hc0
  clear hr0 hc0
  have HB := Aside0.mk (Below.refl w.heap.size w)
  have H : ((Gg.f l0 0 0 (([0, 1, 12, 59, 60, (-1)] : List Int))).bind fun bt588 => ((Dn.f l0 bt588.2.1 bt588.2.2).bind fun bt591 => (some (bt588.1, bt591.1, bt591.2.1)))) = some (r1, r2, r3) := h
  clear h
  obtain ⟨y585, hy585⟩ : ∃ y_ : List Int, y_ = (([0, 1, 12, 59, 60, (-1)] : List Int)) := ⟨_, rfl⟩
  replace H : ((Gg.f l0 0 0 y585).bind fun bt588 => ((Dn.f l0 bt588.2.1 bt588.2.2).bind fun bt591 => (some (bt588.1, bt591.1, bt591.2.1)))) = some (r1, r2, r3) := by first | (rw [hy585]; with_reducible exact H) | (have H2_ := (Option.bind_some _ _).symm.trans H; rw [hy585]; with_reducible exact H2_) | (have H2_ := (Option.bind_some _ _).symm.trans H; with_reducible exact H2_) | with_reducible exact H | (rw [hy585]; exact H) | exact H
  have Ny585 := Aside0.mk hy585
  clear hy585
  replace H := Option.bind_eq_some_iff.mp H
  obtain ⟨⟨t588, t589, t590⟩, A20, H⟩ := H
  replace H : ((Dn.f l0 t589 t590).bind fun bt591 => (some (t588, bt591.1, bt591.2.1))) = some (r1, r2, r3) := H
  have A2 := Aside0.mk A20
  clear A20
  replace H := Option.bind_eq_some_iff.mp H
  obtain ⟨⟨t591, t592, t593, t594⟩, A30, H⟩ := H
  replace H : (some (t588, t591, t592)) = some (r1, r2, r3) := H
  have A3 := Aside0.mk A30
  clear A30
  simp only [Option.some.injEq, Prod.mk.injEq] at H
  obtain ⟨rfl, rfl, rfl⟩ := H
  go_enter Tryd.func39, Tryd.ntmps39
  go_wp2_with (first | ((with_reducible refine gate_dst (N := 3) rfl ?_); refine box_event ?hg (N := 3) ?hd (cs := #[.string (⟨#[]⟩ : ByteArray), .string (⟨#[]⟩ : ByteArray)]) (t := 27) ?hr ?_; (case hd => rfl); (case hg => rfl); (case hr => first | (go_simp; done) | (go_simp; rfl)); intro gb0 hg w4 hbox hb; have n0_ := Aside0.mk (below_step Ya_ hb); have n1_ := Aside0.mk (hbox); have n2_ := Aside0.mk ((by rw [hg]; exact (below_size Ya_) : w.heap.size ≤ gb0)); have n3_ := Aside0.mk ((by rw [hg]; exact (below_size Ya_) : w.heap.size ≤ gb0)); clear HB; have HB := n0_; have BK0 := n1_; have GW0 := n2_; have GE0 := n3_; clear n0_ n1_ n2_ n3_; clear hb hbox hg) | ((with_reducible refine gate_dst (N := 8) rfl ?_); refine box_event ?hg (N := 8) ?hd (cs := #[.slice A0 l0.length c0, .int .i64 0, .int .u64 0]) (t := 74) ?hr ?_; (case hd => rfl); (case hg => rfl); (case hr => first | (go_simp; done) | (go_simp; rfl)); intro gb1 hg w5 hbox hb; have n0_ := Aside0.mk (blk_below (g := gb0) (o := .cells #[.string (⟨#[]⟩ : ByteArray), .string (⟨#[]⟩ : ByteArray)] 27 (0, 0)) Yd_ hb); have n1_ := Aside0.mk (below_step Yb_ hb); have n2_ := Aside0.mk ((by rw [hg]; exact (below_size Yb_) : w.heap.size ≤ gb1)); have n3_ := Aside0.mk ((by rw [hg]; exact (below_size Yb_) : w.heap.size ≤ gb1)); have n4_ := Aside0.mk ((by rw [hg]; exact Nat.ne_of_lt (blk_lt (g := gb0) (o := .cells #[.string (⟨#[]⟩ : ByteArray), .string (⟨#[]⟩ : ByteArray)] 27 (0, 0)) Yd_) : gb0 ≠ gb1)); have n5_ := Aside0.mk ((by rw [hg]; exact Nat.ne_of_gt (blk_lt (g := gb0) (o := .cells #[.string (⟨#[]⟩ : ByteArray), .string (⟨#[]⟩ : ByteArray)] 27 (0, 0)) Yd_) : gb1 ≠ gb0)); have n6_ := Aside0.mk ((⟨_, _, hbox, (by rw [hg]; exact (below_size Yb_)), HR0.out⟩ : Aa w w5 gb1 l0 0 0)); clear BK0; clear HB; have BK0 := n0_; have HB := n1_; have GW1 := n2_; have GE1 := n3_; have NB0_1 := n4_; have NB1_0 := n5_; have HI584 := n6_; clear n0_ n1_ n2_ n3_ n4_ n5_ n6_; clear hb hbox hg) | ((with_reducible refine gate_dst (N := 10) rfl ?_); refine Kd.R_lit (Kd.int .i64) _ 3 ?hg (N := 10) ?hd (xs := ([0, 1, 12, 59, 60, (-1)] : List Int)) (inner := [.int .i64 0, .int .i64 1, .int .i64 12, .int .i64 59, .int .i64 60, .int .i64 (-1)]) (ok := fun _ => True) (okp := fun _ => True) ?hr ?hp (fun _ hk => hk) trivial (Below.refl _ _) (Nat.le_refl _) (by simp) ?_; (case hd => rfl); (case hg => rfl); (case hr => first | (go_simp; done) | (go_simp; rfl)); (case hp => exact (Dc.one (show Kd.M (Kd.int .i64) _ _ _ 0 [.int .i64 0] from rfl) (Dc.one (show Kd.M (Kd.int .i64) _ _ _ 1 [.int .i64 1] from rfl) (Dc.one (show Kd.M (Kd.int .i64) _ _ _ 12 [.int .i64 12] from rfl) (Dc.one (show Kd.M (Kd.int .i64) _ _ _ 59 [.int .i64 59] from rfl) (Dc.one (show Kd.M (Kd.int .i64) _ _ _ 60 [.int .i64 60] from rfl) (Dc.one (show Kd.M (Kd.int .i64) _ _ _ (-1) [.int .i64 (-1)] from rfl) (Dc.none _ _)))))))); intro v586 w6 ho7 hb hg_ hnew_; clear hg_ hnew_; (first | rw [← Ny585.out] at ho7 | (simp only [Int.reduceToNat] at ho7; rw [← Ny585.out] at ho7)); have n0_ := Aside0.mk (Kd.D6 ho7 (below_size Yge_)); have n1_ := Aside0.mk (blk_below (g := gb0) (o := .cells #[.string (⟨#[]⟩ : ByteArray), .string (⟨#[]⟩ : ByteArray)] 27 (0, 0)) Yd_ hb); have n2_ := Aside0.mk (Aa.below (by repeat (first | (with_reducible first | exact HI584.out | apply Aa.alloc | apply Aa.drewN | apply Aa.drew | apply Aa.Au | apply Aa.Aw | refine Aa.far ?_ NB1_0.out _) | exact HI584.out)) hb); have n3_ := Aside0.mk (below_step Yge_ hb); clear BK0; clear HI584; clear HB; have HO587 := n0_; have BK0 := n1_; have HI584 := n2_; have HB := n3_; clear n0_ n1_ n2_ n3_; clear hb ho7; obtain ⟨Ao8, co8, eo8⟩ := Kd.Eg HO587.out; subst eo8) | ((with_reducible refine gate_callee (f := 59) rfl ?_); refine goesL_ (some 11) rfl rfl Tryd.func59 (by kernel_rfl) rfl #[.pointer (some ⟨gb1, 0, none⟩), .slice Ao8 y585.length co8] rfl Yc_ ?_; (with_reducible refine (Gg.calls gb1 l0 0 0 _ _ y585 t588 t589 t590 w _ ?side1 ?side2 ?side3 ?side4 ?side5 A2.out).mono ?_); (case side1 => repeat (first | (with_reducible first | exact HI584.out | apply Aa.alloc | apply Aa.drewN | apply Aa.drew | apply Aa.Au | apply Aa.Aw | refine Aa.far ?_ NB1_0.out _) | exact HI584.out)); (case side2 => repeat (first | (with_reducible first | exact HB.out | apply below_alloc | apply pw_below_drewN | apply below_drew1 | refine below_set ?_ (Aa.ge HI584.out) | refine below_set ?_ GE0.out) | exact HB.out)); (case side3 => repeat (first | exact (Kd.Ei HO587.out).2.2 | (with_reducible refine Kd.Gs ?_ _) | (with_reducible refine Kd.Gt ?_ _) | (with_reducible refine Kd.C_drew ?_))); (case side4 => exact (Kd.Ei HO587.out).2.1); (case side5 => exact Gw (Aa.own_ne HI584.out HO587.out (by decide))); rintro e w9 ⟨rfl, hi, hb, hk⟩; refine ⟨_, rfl, ?_⟩; have n0_ := Aside0.mk (Ad.blk hk (g' := gb0) (o := .cells #[.string (⟨#[]⟩ : ByteArray), .string (⟨#[]⟩ : ByteArray)] 27 (0, 0)) Yd_ NB0_1.out (by simp)); have n1_ := Aside0.mk (Kd.Dl (Kd.Ff (Aa.apart (show Aa w _ gb1 l0 0 0 from by repeat (first | (with_reducible first | exact HI584.out | apply Aa.alloc | apply Aa.drewN | apply Aa.drew | apply Aa.Au | apply Aa.Aw | refine Aa.far ?_ NB1_0.out _) | exact HI584.out)) (by (with_reducible repeat (first | apply Kd.Bc | apply Kd.Ba | apply Kd.Be)); exact HO587.out) (by decide)) hk (fun _ h => h.2)) (fun _ h => h.1)); have n2_ := Aside0.mk (hb); have n3_ := Aside0.mk (hi); clear BK0; clear HO587; clear HB; clear HI584; have BK0 := n0_; have HO587 := n1_; have HB := n2_; have HI584 := n3_; clear n0_ n1_ n2_ n3_; (try clear hb); (try clear hb2); (try clear hk); (try clear hi)) | ((with_reducible refine gate_callee (f := 56) rfl ?_); refine goesL_ (some 14) rfl rfl Tryd.func56 (by kernel_rfl) rfl #[.pointer (some ⟨gb1, 0, none⟩)] rfl Yc_ ?_; (with_reducible refine (Dn.calls gb1 l0 t589 t590 t591 t592 t593 t594 w _ ?side1 ?side2 A3.out).mono ?_); (case side1 => repeat (first | (with_reducible first | exact HI584.out | apply Aa.alloc | apply Aa.drewN | apply Aa.drew | apply Aa.Au | apply Aa.Aw | refine Aa.far ?_ NB1_0.out _) | exact HI584.out)); (case side2 => repeat (first | (with_reducible first | exact HB.out | apply below_alloc | apply pw_below_drewN | apply below_drew1 | refine below_set ?_ (Aa.ge HI584.out) | refine below_set ?_ GE0.out) | exact HB.out)); rintro e w10 ⟨rfl, hi, hb, hk⟩; refine ⟨_, rfl, ?_⟩; have n0_ := Aside0.mk (Ad.blk hk (g' := gb0) (o := .cells #[.string (⟨#[]⟩ : ByteArray), .string (⟨#[]⟩ : ByteArray)] 27 (0, 0)) Yd_ NB0_1.out (by simp)); have n1_ := Aside0.mk (Kd.Dl (Kd.Ff (Aa.apart (show Aa w _ gb1 l0 t589 t590 from by repeat (first | (with_reducible first | exact HI584.out | apply Aa.alloc | apply Aa.drewN | apply Aa.drew | apply Aa.Au | apply Aa.Aw | refine Aa.far ?_ NB1_0.out _) | exact HI584.out)) (by (with_reducible repeat (first | apply Kd.Bc | apply Kd.Ba | apply Kd.Be)); exact HO587.out) (by decide)) hk (fun _ h => h.2)) (fun _ h => h.1)); have n2_ := Aside0.mk (hb); have n3_ := Aside0.mk (hi); clear BK0; clear HO587; clear HB; clear HI584; have BK0 := n0_; have HO587 := n1_; have HB := n2_; have HI584 := n3_; clear n0_ n1_ n2_ n3_; (try clear hb); (try clear hb2); (try clear hk); (try clear hi); have hnb11 := NB0_1.out; have hnc11 := NB1_0.out; have hcz12_0 : w10.cell? ⟨gb0, 0, none⟩ = some (.string (⟨#[]⟩ : ByteArray)) := (blk_cell BK0.out 0).trans rfl; have hcz12_1 : w10.cell? ⟨gb0, 1, none⟩ = some (.string (⟨#[]⟩ : ByteArray)) := (blk_cell BK0.out 1).trans rfl; have hfz12_0 := Ac BK0.out 0; have hfz12_1 := Ac BK0.out 1))
  refine bodyPost_ret (results_tc rfl _ _ gb0 27 #[.string t591, .string t592] (0, 0) _ rfl (by (with_reducible repeat (first | refine blk_drewN ?_ _ | refine blk_drew ?_ | refine blk_alloc ?_ _)); refine Ak (cs := #[.string t591, .string (⟨#[]⟩ : ByteArray)]) ?_ 1 _ rfl; (with_reducible repeat (first | refine blk_drewN ?_ _ | refine blk_drew ?_ | refine blk_alloc ?_ _)); refine Ak (cs := #[.string (⟨#[]⟩ : ByteArray), .string (⟨#[]⟩ : ByteArray)]) ?_ 0 _ rfl; (with_reducible repeat (first | refine blk_drewN ?_ _ | refine blk_drew ?_ | refine blk_alloc ?_ _)); exact BK0.out) Tryd.underlying27 rfl (by kernel_rfl)) rfl ?_
  exact ⟨by first | rfl | (simp [Af, Ag] <;> rfl) | (simp [*, Af, Ag] <;> rfl), by repeat (first | (with_reducible first | exact HB.out | apply below_alloc | apply pw_below_drewN | apply below_drew1 | refine below_set ?_ (Aa.ge HI584.out) | refine below_set ?_ GE0.out) | exact HB.out)⟩
end Go.Proofs.YtkpieljmhgfofaaDoor.X

namespace Go.Proofs.YtkpieljmhgfofaaDoor.X
open Go.RowKit Go.Proofs.YtkpieljmhgfofaaDoorW.PrintWords Go.Proofs.YtkpieljmhgfofaaDoorL
theorem reads_split : ∀ (d n : Nat) (s : List UInt8), n + d ≤ 60 → ∃ pre, s = pre ++ (reads d n s).2 ∧ reads d n pre = ((reads d n s).1, [])
  | 0, n, s, _ => ⟨[], by simp [reads], by simp [reads]⟩
  | d + 1, n, s, hn => by
    cases h : recAt (n : Int) s with
    | none => exact ⟨[], by rw [Fa h]; rfl, by rw [Fa h, Fa (recAt_nil _)]⟩
    | some p =>
      obtain ⟨pre, e1, e2⟩ := reads_split d (n + 1) p.2.2 (by omega)
      have hp := Gy h
      rw [Fj h]
      refine ⟨B (En (n : Int) p.1 p.2.1) ++ pre, ?_, ?_⟩
      · simp only; rw [List.append_assoc, ← e1]; exact hp.2
      · rw [Fj (Gx (by omega) (by omega) (show Fg (n : Int) (B (En (n : Int) p.1 p.2.1) ++ pre) p.1 p.2.1 pre from ⟨hp.1, rfl⟩)), e2]
theorem recov_ok (t : ByteArray) (ht : t.size ≤ 30000) : recov t = (t.extract 0 (upTo t), ⟨#[]⟩, ((reads 60 0 (B t)).1.length : Int), (upTo t : Int), true) ∧ Ez (t.extract 0 (upTo t)) ⟨#[]⟩ ((reads 60 0 (B t)).1.length : Int) = true := by
  refine ⟨by unfold recov; rw [if_neg (by omega)], ?_⟩
  obtain ⟨pre, e1, e2⟩ := reads_split 60 0 (B t) (by omega)
  have hl := congrArg List.length e1
  rw [List.length_append, Dj] at hl
  have hB : B (t.extract 0 (upTo t)) = pre := by
    rw [Fv]
    have : upTo t - 0 = pre.length := by unfold upTo; omega
    rw [this]
    conv => lhs; rw [e1]
    simp
  unfold Ez allOf
  have e0 : B (⟨#[]⟩ : ByteArray) = [] := rfl
  rw [hB, e0, List.append_nil, e2]
  simp
theorem implValid_ev (D P : ByteArray) (c : Int) (hD : D.size ≤ 1048576) (hP : P.size ≤ 1048576) : Ev (fun k => Bv.f k D P c) (Ez D P c) := by
  unfold Bv.f
  exact Ev.bind (implRecs_ev D P c hD hP) (Ev.now _)
noncomputable def recsOf (D P : ByteArray) (c : Int) : List RecT × Bool := if Ez D P c = true then (allOf D P, true) else ([], false)
theorem implList_ev (D P : ByteArray) (c : Int) (hD : D.size ≤ 1048576) (hP : P.size ≤ 1048576) : Ev (fun k => Dv.f k D P c) (recsOf D P c) := by
  unfold Dv.f recsOf
  refine Ev.bind (implRecs_ev D P c hD hP) ?_
  by_cases h : Ez D P c = true
  · simp only [if_pos h]; exact Ev.now _
  · simp only [if_neg h]; exact Ev.now _
end Go.Proofs.YtkpieljmhgfofaaDoor.X

namespace Go.Proofs.YtkpieljmhgfofaaDoor.X
open Go.RowKit Go.Proofs.YtkpieljmhgfofaaDoorW.PrintWords Go.Proofs.YtkpieljmhgfofaaDoorL
abbrev torn := Go.Proofs.YtkpieljmhgfofaaDoorCb.torn
abbrev crash := Go.Proofs.YtkpieljmhgfofaaDoorCb.crash
theorem torn_snoc (a : List UInt8) (b : UInt8) : torn (a ++ [b]) = a ++ [255 - b] := by
  unfold torn Go.Proofs.YtkpieljmhgfofaaDoorCb.torn
  simp [List.getD_eq_getElem?_getD, List.set_append]
theorem snoc_of (l : List UInt8) (h : 1 ≤ l.length) : ∃ a b, l = a ++ [b] := by
  rcases List.eq_nil_or_concat l with e | ⟨a, b, e⟩
  · subst e; simp at h
  · exact ⟨a, b, by simpa using e⟩
theorem B_crash (s : ByteArray) : B (crash s true) = torn (B s) := by
  unfold crash Go.Proofs.YtkpieljmhgfofaaDoorCb.crash; rw [if_pos rfl]; rfl
theorem crash_append (D x : ByteArray) (t : Bool) (h : t = true → 1 ≤ x.size) : D ++ crash x t = crash (D ++ x) t := by
  cases t with
  | false => rfl
  | true =>
    refine B_inj ?_
    rw [E8, B_crash, B_crash, E8]
    obtain ⟨a, b, e⟩ := snoc_of (B x) (by rw [Dj]; exact h rfl)
    rw [e, torn_snoc, ← List.append_assoc, ← List.append_assoc, torn_snoc]
noncomputable def crashd (D P : ByteArray) (c a : Int) (t : Bool) : ByteArray × Bool :=
  if Ez D P c = true ∧ 0 ≤ a ∧ a ≤ (P.size : Int) then (crash (D ++ P.extract 0 a.toNat) (t && decide (a > 0)), true) else (⟨#[]⟩, false)
theorem implCrash_ev (D P : ByteArray) (c a : Int) (t : Bool) (hD : D.size ≤ 1048576) (hP : P.size ≤ 1048576) : Ev (fun k => Dy.f k D P c a t) (crashd D P c a t) := by
  unfold Dy.f crashd
  refine Ev.bind (implValid_ev D P c hD hP) ?_
  by_cases h : Ez D P c = true
  · simp only [if_pos h, within_eq', Option.bind_some]
    by_cases h2 : 0 ≤ a ∧ a ≤ (P.size : Int)
    · have e : (decide (0 ≤ a) && decide (a ≤ (P.size : Int))) = true := by simp [h2.1, h2.2]
      simp only [if_pos e, if_pos (show (0 ≤ a ∧ a ≤ (P.size : Int)) ∧ D.size + P.size ≤ 4611686018427387904 from ⟨h2, by omega⟩), if_pos (show Ez D P c = true ∧ 0 ≤ a ∧ a ≤ (P.size : Int) from ⟨h, h2⟩)]
      exact Ev.now _
    · have e : ¬ (decide (0 ≤ a) && decide (a ≤ (P.size : Int))) = true := by simp; omega
      simp only [if_neg e, if_neg (show ¬ (Ez D P c = true ∧ 0 ≤ a ∧ a ≤ (P.size : Int)) from fun z => h2 z.2)]
      exact Ev.now _
  · simp only [if_neg h, if_neg (show ¬ (Ez D P c = true ∧ 0 ≤ a ∧ a ≤ (P.size : Int)) from fun z => h z.1)]
    exact Ev.now _
theorem specCrash_ev (D P : ByteArray) (c a : Int) (t : Bool) (hD : D.size ≤ 1048576) (hP : P.size ≤ 1048576) : Ev (fun k => spec_CrashLog.f k D P c a t) (crashd D P c a t) := by
  unfold spec_CrashLog.f crashd
  refine Ev.bind (specLog_ev D P c hD hP) ?_
  by_cases h : Ez D P c = true
  · simp only [if_pos h, l1In_eq', Option.bind_some]
    by_cases h2 : 0 ≤ a ∧ a ≤ (P.size : Int)
    · have e : (decide (0 ≤ a) && decide (a ≤ (P.size : Int))) = true := by simp [h2.1, h2.2]
      have e2 : D ++ crash (P.extract 0 a.toNat) (t && decide (a > 0)) = crash (D ++ P.extract 0 a.toNat) (t && decide (a > 0)) :=
        crash_append _ _ _ (fun z => by simp only [Bool.and_eq_true, decide_eq_true_eq] at z; simp only [ByteArray.size_extract]; omega)
      simp only [if_pos e, if_pos (show (0 ≤ a ∧ a ≤ (P.size : Int)) ∧ D.size + P.size ≤ 4611686018427387904 from ⟨h2, by omega⟩), if_pos (show Ez D P c = true ∧ 0 ≤ a ∧ a ≤ (P.size : Int) from ⟨h, h2⟩)]
      exact ev_eq (fun _ => by rw [← e2])
    · have e : ¬ (decide (0 ≤ a) && decide (a ≤ (P.size : Int))) = true := by simp; omega
      simp only [if_neg e, if_neg (show ¬ (Ez D P c = true ∧ 0 ≤ a ∧ a ≤ (P.size : Int)) from fun z => h2 z.2)]
      exact Ev.now _
  · simp only [if_neg h, if_neg (show ¬ (Ez D P c = true ∧ 0 ≤ a ∧ a ≤ (P.size : Int)) from fun z => h z.1)]
    exact Ev.now _
theorem reads_cat (y : List UInt8) : ∀ (d n : Nat) (s : List UInt8), n + d ≤ 60 → (reads d n s).2 = [] →
    reads d n (s ++ y) = ((reads d n s).1 ++ (reads (d - (reads d n s).1.length) (n + (reads d n s).1.length) y).1, (reads (d - (reads d n s).1.length) (n + (reads d n s).1.length) y).2)
  | 0, n, s, _, h => by
    have e : s = [] := h
    subst e
    simp [reads]
  | d + 1, n, s, hn, he => by
    cases h : recAt (n : Int) s with
    | none =>
      have hs : s = [] := by rw [Fa h] at he; exact he
      subst hs
      rw [Fa h]
      simp
    | some p =>
      have hp := Gy h
      rw [Fj h] at he
      rw [Fj h]
      simp only [List.length_cons] at he ⊢
      have ih := reads_cat y d (n + 1) p.2.2 (by omega) he
      have hr : Fg (n : Int) (s ++ y) p.1 p.2.1 (p.2.2 ++ y) := ⟨hp.1, by rw [← List.append_assoc, ← hp.2]⟩
      rw [Fj (Gx (by omega) (by omega) hr)]
      simp only
      rw [ih]
      have e1 : d + 1 - ((reads d (n + 1) p.2.2).1.length + 1) = d - (reads d (n + 1) p.2.2).1.length := by omega
      have e2 : n + ((reads d (n + 1) p.2.2).1.length + 1) = n + 1 + (reads d (n + 1) p.2.2).1.length := by omega
      rw [e1, e2]
      rfl
theorem line_low {n : Int} {c r : ByteArray} (h0 : 0 ≤ n) (h : Ee c r = true) : ∀ z ∈ B (En n c r), z.toNat ≤ 126 := by
  intro z hz
  rw [B_line] at hz
  rcases List.mem_append.1 hz with h1 | h1
  · exact (sealed_range h0 h z h1).2
  · rw [List.mem_singleton] at h1; subst h1; decide
theorem reads_low : ∀ (d n : Nat) (s : List UInt8), (reads d n s).2 = [] → ∀ z ∈ s, z.toNat ≤ 126
  | 0, n, s, h => by
    have e : s = [] := h
    subst e; intro z hz; cases hz
  | d + 1, n, s, he => by
    cases h : recAt (n : Int) s with
    | none =>
      have hs : s = [] := by rw [Fa h] at he; exact he
      subst hs; intro z hz; cases hz
    | some p =>
      have hp := Gy h
      rw [Fj h] at he
      intro z hz
      rw [hp.2] at hz
      rcases List.mem_append.1 hz with h1 | h1
      · exact line_low (by omega) hp.1 z h1
      · exact reads_low d (n + 1) p.2.2 he z h1
/-- What is left of a text: a part of it from its start, or such a part whose last byte is turned. -/
def Left (x p : List UInt8) : Prop := x <+: p ∨ ∃ a b, x = a ++ [255 - b] ∧ (a ++ [b]) <+: p
theorem reads_left : ∀ (d n : Nat) (x p : List UInt8), n + d ≤ 60 → Left x p → (∀ z ∈ p, z.toNat ≤ 126) → (reads d n x).1 <+: (reads d n p).1
  | 0, n, x, p, _, _, _ => List.nil_prefix
  | d + 1, n, x, p, hn, hL, hz => by
    cases h : recAt (n : Int) x with
    | none => rw [Fa h]; exact List.nil_prefix
    | some q =>
      have hp := Gy h
      obtain ⟨t, h1, h2, h3⟩ : ∃ t, p = B (En (n : Int) q.1 q.2.1) ++ t ∧ Left q.2.2 t ∧ (∀ z ∈ t, z.toNat ≤ 126) := by
        rcases hL with ⟨u, e⟩ | ⟨a, b, e1, u, e2⟩
        · refine ⟨q.2.2 ++ u, by rw [← List.append_assoc, ← hp.2, e], Or.inl ⟨u, rfl⟩, fun z h => hz z ?_⟩
          rw [← e, hp.2, List.append_assoc]; exact List.mem_append_right _ h
        · have e3 := hp.2.symm.trans e1
          have hb : b.toNat ≤ 126 := hz b (by rw [← e2]; simp)
          rcases List.eq_nil_or_concat q.2.2 with e | ⟨t', b', e⟩
          · exfalso
            rw [e, List.append_nil, B_line] at e3
            have := (List.append_inj' e3 rfl).2
            simp only [List.cons.injEq, and_true] at this
            have h8 := congrArg UInt8.toNat this
            have h9 : (255 - b : UInt8).toNat = 255 - b.toNat := by
              rw [UInt8.toNat_sub]
              have e255 : (255 : UInt8).toNat = 255 := rfl
              rw [e255]; have := b.toNat_lt; omega
            rw [h9] at h8
            have : (10 : UInt8).toNat = 10 := rfl
            omega
          · have e' : q.2.2 = t' ++ [b'] := by simpa using e
            rw [e', ← List.append_assoc] at e3
            obtain ⟨i1, i2⟩ := List.append_inj' e3 rfl
            simp only [List.cons.injEq, and_true] at i2
            subst i2
            have hpt : p = B (En (n : Int) q.1 q.2.1) ++ ((t' ++ [b]) ++ u) := by rw [← e2, ← i1]; simp [List.append_assoc]
            exact ⟨(t' ++ [b]) ++ u, hpt, Or.inr ⟨t', b, e', u, rfl⟩, fun z h => hz z (by rw [hpt]; exact List.mem_append_right _ h)⟩
      have hr : Fg (n : Int) p q.1 q.2.1 t := ⟨hp.1, h1⟩
      rw [Fj h, Fj (Gx (by omega) (by omega) hr)]
      obtain ⟨u, e⟩ := reads_left d (n + 1) q.2.2 t (by omega) h2 h3
      exact ⟨u, by rw [← e]; rfl⟩
theorem recov_all (t : ByteArray) : allOf (t.extract 0 (upTo t)) ⟨#[]⟩ = (reads 60 0 (B t)).1 := by
  obtain ⟨pre, e1, e2⟩ := reads_split 60 0 (B t) (by omega)
  have hl := congrArg List.length e1
  rw [List.length_append, Dj] at hl
  have hB : B (t.extract 0 (upTo t)) = pre := by
    rw [Fv]
    have : upTo t - 0 = pre.length := by unfold upTo; omega
    rw [this]
    conv => lhs; rw [e1]
    simp
  unfold allOf
  have e0 : B (⟨#[]⟩ : ByteArray) = [] := rfl
  rw [hB, e0, List.append_nil, e2]
theorem specList_ev (D P : ByteArray) (c : Int) (hD : D.size ≤ 1048576) (hP : P.size ≤ 1048576) : Ev (fun k => Du.f k D P c) (recsOf D P c) := by
  unfold Du.f recsOf
  refine Ev.bind (specLog_ev D P c hD hP) ?_
  by_cases h : Ez D P c = true
  · simp only [if_pos h, if_pos (show D.size + P.size ≤ 9223372036854775807 by omega)]
    refine Ev.bind (specOpen_ev (D ++ P) (by rw [ByteArray.size_append]; omega)) ?_
    rw [E8]; exact Ev.now _
  · simp only [if_neg h]; exact Ev.now _
/-- What a crash leaves of a valid log, and what is read of it. -/
theorem crash_reads {D P : ByteArray} {c a : Int} (t : Bool) (h : Ez D P c = true) (h0 : 0 ≤ a) (h1 : a ≤ (P.size : Int)) :
    (crash (D ++ P.extract 0 a.toNat) (t && decide (a > 0))).size ≤ D.size + P.size ∧ D.size ≤ upTo (crash (D ++ P.extract 0 a.toNat) (t && decide (a > 0))) ∧ (reads 60 0 (B (crash (D ++ P.extract 0 a.toNat) (t && decide (a > 0))))).1 <+: allOf D P := by
  obtain ⟨x, hx, hxl, hL⟩ : ∃ x, B (crash (D ++ P.extract 0 a.toNat) (t && decide (a > 0))) = B D ++ x ∧ x.length ≤ P.size ∧ Left x (B P) := by
    have hpre : B (P.extract 0 a.toNat) <+: B P := by rw [Fv, Nat.sub_zero, List.drop_zero]; exact List.take_prefix _ _
    have hlen : (B (P.extract 0 a.toNat)).length = a.toNat := by rw [Dj, ByteArray.size_extract]; omega
    by_cases ht : (t && decide (a > 0)) = true
    · rw [ht, B_crash, E8]
      simp only [Bool.and_eq_true, decide_eq_true_eq] at ht
      obtain ⟨u, b, e⟩ := snoc_of (B (P.extract 0 a.toNat)) (by omega)
      refine ⟨u ++ [255 - b], by rw [e, ← List.append_assoc, torn_snoc, List.append_assoc], ?_, Or.inr ⟨u, b, rfl, by rw [← e]; exact hpre⟩⟩
      rw [e] at hlen; simp only [List.length_append, List.length_singleton] at hlen ⊢; omega
    · rw [Bool.eq_false_iff.mpr ht]
      exact ⟨B (P.extract 0 a.toNat), by show B (D ++ _) = _; rw [E8], by omega, Or.inl hpre⟩
  have h2 := h
  unfold Ez at h2
  simp only [Bool.and_eq_true, decide_eq_true_eq] at h2
  obtain ⟨⟨e1, e2⟩, e3⟩ := h2
  have hsz : (crash (D ++ P.extract 0 a.toNat) (t && decide (a > 0))).size = D.size + x.length := by
    rw [← Dj, hx, List.length_append, Dj]
  have c1 := reads_cat x 60 0 (B D) (by omega) e2
  have c2 := reads_cat (B P) 60 0 (B D) (by omega) e2
  have hb := Gh (60 - (reads 60 0 (B D)).1.length) (0 + (reads 60 0 (B D)).1.length) x
  have hb0 := (Gh 60 0 (B D)).1
  refine ⟨by omega, ?_, ?_⟩
  · unfold upTo
    rw [hsz, hx, c1]
    simp only
    omega
  · unfold allOf
    rw [hx, c1, c2]
    simp only
    obtain ⟨u, e⟩ := reads_left (60 - (reads 60 0 (B D)).1.length) (0 + (reads 60 0 (B D)).1.length) x (B P) (by omega) hL (fun z hz => reads_low 60 0 (B D ++ B P) e1 z (List.mem_append_right _ hz))
    exact ⟨u, by rw [List.append_assoc, e]⟩
end Go.Proofs.YtkpieljmhgfofaaDoor.X

namespace Go.Proofs.YtkpieljmhgfofaaDoor.X
open Go.RowKit Go.Proofs.YtkpieljmhgfofaaDoorW.PrintWords Go.Proofs.YtkpieljmhgfofaaDoorL
theorem anyLog_ok {l : List Int} (h : okB l) (p s : Int) (h0 : 0 ≤ p) (h1 : p ≤ 600000000000) : ∃ D P c p' s', Ev (fun k => Eh.f k l p s) (D, P, c, p', s') ∧ D.size + P.size ≤ 7000 ∧ p ≤ p' ∧ p' ≤ p + 200 := by
  unfold Eh.f
  obtain ⟨D, P, c, p1, s1, e1, z1, b1, b1'⟩ := log_ok h p s h0 (by omega)
  obtain ⟨v, p2, s2, e2, m2, b2, b2'⟩ := pick_ok h p1 s1 24 (by omega) (by omega) (by omega)
  have body : ∃ D' P' c' p' s', (if v = 0 then some (D, P, wrap64 (c + 1), p2, s2) else if v = 1 then (D7.f l p2 s2 P (⟨#[35, 64, 10, 48, 49]⟩ : ByteArray)).bind fun bt501 => some (D, bt501.1, c, bt501.2.1, bt501.2.2) else if v = 2 then (if D.size + P.size ≤ 9223372036854775807 then some (D ++ P, P, c, p2, s2) else none) else some (D, P, c, p2, s2)) = some (D', P', c', p', s') ∧ D'.size + P'.size ≤ 7000 ∧ p ≤ p' ∧ p' ≤ p + 200 := by
    by_cases d0 : v = 0
    · rw [if_pos d0]; exact ⟨_, _, _, _, _, rfl, by omega, by omega, by omega⟩
    · rw [if_neg d0]
      by_cases d1 : v = 1
      · rw [if_pos d1]
        obtain ⟨w, p3, s3, e3, m3, b3, b3'⟩ := spoilt_ok h p2 s2 P (⟨#[35, 64, 10, 48, 49]⟩ : ByteArray) (by omega) (by omega) (by omega) (by decide) (by decide)
        rw [e3]; simp only [Option.bind_some]
        exact ⟨_, _, _, _, _, rfl, by omega, by omega, by omega⟩
      · rw [if_neg d1]
        by_cases d2 : v = 2
        · rw [if_pos d2, if_pos (by omega)]; exact ⟨_, _, _, _, _, rfl, by rw [ByteArray.size_append]; omega, by omega, by omega⟩
        · rw [if_neg d2]; exact ⟨_, _, _, _, _, rfl, by omega, by omega, by omega⟩
  obtain ⟨D', P', c', p', s', e, hz, q1, q2⟩ := body
  refine ⟨D', P', c', p', s', Ev.bind e1 ?_, hz, q1, q2⟩
  dsimp only
  rw [e2]; simp only [Option.bind_some]
  exact ev_eq (fun _ => e)
end Go.Proofs.YtkpieljmhgfofaaDoor.X

namespace Go.Proofs.YtkpieljmhgfofaaDoor.Pure
open Go.RowKit Go.Proofs.YtkpieljmhgfofaaDoorW.PrintWords Go.Proofs.YtkpieljmhgfofaaDoorL Go.Proofs.YtkpieljmhgfofaaDoor.X
theorem drawCrash_ok {l : List Int} (h : okB l) : ∃ D P c a t, Ev (fun k => Dq.f k l) (D, P, c, a, t) ∧ D.size + P.size ≤ 7000 := by
  unfold Dq.f
  obtain ⟨D, P, c, p1, s1, e1, z1, b1, b1'⟩ := anyLog_ok h 0 0 (by omega) (by omega)
  have hw : wrap64 ((P.size : Int) + 3) = ((P.size + 3 : Nat) : Int) := by rw [wrap_id (by omega) (by omega)]; omega
  obtain ⟨v, p2, s2, e2, m2, b2, b2'⟩ := pick_ok h p1 s1 ((P.size + 3 : Nat) : Int) (by omega) (by omega) (by omega)
  obtain ⟨t, p3, s3, e3, _, b3, b3'⟩ := one_ok h p2 s2 2 (by omega) (by omega) (by omega)
  refine ⟨D, P, c, wrap64 (v - 1), t, Ev.bind e1 ?_, z1⟩
  dsimp only
  rw [hw, e2]
  simp only [Option.bind_some]
  rw [e3]
  exact Ev.now _
theorem FnCrashRecovery : OFnCrashRecovery.Pure := by
  intro l hl
  refine ev_rounds ?_
  have hok : okB l := okB_of hl.2.2
  unfold Ae.f
  refine Ev.bind (show Ev (fun _ => He.f l) (decide ((l.length : Int) > 65536)) from Ev.now _) ?_
  by_cases c : (l.length : Int) > 65536
  · simp only [decide_eq_true c, if_true]; exact Ev.now _
  simp only [decide_eq_false c, Bool.false_eq_true, if_false]
  obtain ⟨D, P, n, a, t, e1, z0⟩ := drawCrash_ok hok
  refine Ev.bind e1 (Ev.bind (implCrash_ev D P n a t (by omega) (by omega)) (Ev.bind (specCrash_ev D P n a t (by omega) (by omega)) ?_))
  simp only [if_true, bne_self_eq_false]
  by_cases h : Ez D P n = true ∧ 0 ≤ a ∧ a ≤ (P.size : Int)
  · have hC : crashd D P n a t = (crash (D ++ P.extract 0 a.toNat) (t && decide (a > 0)), true) := by unfold crashd; rw [if_pos h]
    rw [hC]
    obtain ⟨g1, g2, g3⟩ := crash_reads t h.1 h.2.1 h.2.2
    dsimp only
    generalize crash (D ++ P.extract 0 a.toNat) (t && decide (a > 0)) = s at g1 g2 g3 ⊢
    obtain ⟨m1, m2⟩ := recov_ok s (by omega)
    have hu := (upTo_int s).2
    have hA := recov_all s
    have hrc := implRecover_ev s (by omega)
    have hms : (s.extract 0 (upTo s)).size ≤ 7000 := by rw [ByteArray.size_extract]; omega
    have hrl := implList_ev (s.extract 0 (upTo s)) ⟨#[]⟩ ((reads 60 0 (B s)).1.length : Int) (by omega) (by show 0 ≤ _; omega)
    have hvl := implValid_ev (s.extract 0 (upTo s)) ⟨#[]⟩ ((reads 60 0 (B s)).1.length : Int) (by omega) (by show 0 ≤ _; omega)
    have hol := specList_ev D P n (by omega) (by omega)
    have hR : recsOf (s.extract 0 (upTo s)) ⟨#[]⟩ ((reads 60 0 (B s)).1.length : Int) = ((reads 60 0 (B s)).1, true) := by unfold recsOf; rw [if_pos m2, hA]
    have hO : recsOf D P n = (allOf D P, true) := by unfold recsOf; rw [if_pos h.1]
    have hal : (allOf D P).length ≤ 60 := (Gh 60 0 _).1
    rw [m1] at hrc
    rw [hR] at hrl
    rw [hO] at hol
    rw [m2] at hvl
    clear m1 m2 hA hR hO hC
    generalize hU : upTo s = U at *
    generalize ((reads 60 0 (B s)).1.length : Int) = N at *
    generalize (reads 60 0 (B s)).1 = R at *
    generalize allOf D P = A at *
    have hle : R.length ≤ A.length := g3.length_le
    obtain ⟨V, hV⟩ : ∃ V, V = s.extract 0 U := ⟨_, rfl⟩
    have fin : ∀ (d i : Nat), i + d = R.length → Ev (fun k => Ae.l0 k s (U : Int) R A (i : Int) V ⟨#[]⟩ N) true := by
      intro d
      induction d with
      | zero =>
        intro i hi
        refine Ev.step (f := fun k => (Bv.f k V ⟨#[]⟩ N).bind fun t703 => (if t703 = true then (some true) else (some false))) (fun k => ?_) (Ev.bind (by rw [hV]; exact hvl) ?_)
        · simp only [Ae.l0]
          rw [if_neg (by omega)]
          have q1 : (0 : Int) ≤ (U : Int) := by omega
          have q2 : (U : Int) ≤ (s.size : Int) := by omega
          simp only [if_pos q1, if_pos q2, Int.toNat_natCast, ← hV, beq_self_eq_true]
        · simp only [if_true]; exact Ev.now _
      | succ d ih =>
        intro i hi
        refine Ev.step (f := fun k => Ae.l0 k s (U : Int) R A ((i + 1 : Nat) : Int) V ⟨#[]⟩ N) (fun k => ?_) (ih (i + 1) (by omega))
        have hrd : rd_T27 R (i : Int) = rd_T27 A (i : Int) := by
          obtain ⟨w, e⟩ := g3
          rw [← e]
          have hi2 : i < R.length := by omega
          simp [rd_T27, List.getD_eq_getElem?_getD, List.getElem?_append, hi2]
        simp only [Ae.l0]
        rw [if_pos (by omega), if_pos (by omega), if_pos (by omega), hrd]
        simp only [beq_self_eq_true, Bool.not_true, Bool.or_self, Bool.false_eq_true, if_false]
        rw [wrap_id (by omega) (by omega)]; rfl
    have first := fin R.length 0 (by omega)
    have j1 : Ev (fun k => Ae.j1 k s (U : Int) R A false V ⟨#[]⟩ N) true :=
      Ev.step (fun k => by simp only [Ae.j1]; rw [if_neg (by decide)]; rfl) first
    refine Ev.step (f := fun k => (Dw.f k s).bind fun bt687 => ((Dv.f k bt687.1 bt687.2.1 bt687.2.2.1).bind fun bt693 => ((Du.f k D P n).bind fun bt697 => (if bt687.2.2.2.2 = true then (if bt687.2.2.2.1 > (s.size : Int) then (Ae.j1 k s bt687.2.2.2.1 bt693.1 bt697.1 true bt687.1 bt687.2.1 bt687.2.2.1) else (if bt687.2.2.2.1 < (D.size : Int) then (Ae.j1 k s bt687.2.2.2.1 bt693.1 bt697.1 true bt687.1 bt687.2.1 bt687.2.2.1) else (Ae.j1 k s bt687.2.2.2.1 bt693.1 bt697.1 (decide ((bt693.1.length : Int) > (bt697.1.length : Int))) bt687.1 bt687.2.1 bt687.2.2.1))) else (Ae.j1 k s bt687.2.2.2.1 bt693.1 bt697.1 true bt687.1 bt687.2.1 bt687.2.2.1))))) (fun k => ?_) (Ev.bind hrc (Ev.bind hrl (Ev.bind hol ?_)))
    · simp only [Ae.j0]
      rw [if_neg (by decide)]
      simp only [if_true]
    · have q1 : ¬ ((U : Int) > (s.size : Int)) := by omega
      have q2 : ¬ ((U : Int) < (D.size : Int)) := by omega
      have q3 : decide ((R.length : Int) > (A.length : Int)) = false := decide_eq_false (by omega)
      simp only [if_true, if_neg q1, if_neg q2, q3, ← hV]
      exact j1
  · have hC : crashd D P n a t = (⟨#[]⟩, false) := by unfold crashd; rw [if_neg h]
    rw [hC]
    refine Ev.step (f := fun k => some true) (fun k => ?_) (Ev.now _)
    simp only [Ae.j0]
    rw [if_neg (by decide), if_neg (by decide), G7]
    rfl
end Go.Proofs.YtkpieljmhgfofaaDoor.Pure


namespace Go.Proofs.YtkpieljmhgfofaaDoor.fnCrashRecovery
open Go.ChangeShapes Go.WideShapes Go.ChangeAt Go.RowKit
open Go.ChangeMaps (open_string shut_string)
open Go.Joins
open Go.Proofs.YtkpieljmhgfofaaDoorW.PrintWords Go.Proofs.YtkpieljmhgfofaaDoorW.PrintLast Go.Proofs.YtkpieljmhgfofaaDoorW.PrintMore
open Go.Proofs.YtkpieljmhgfofaaDoorZ Go.Proofs.YtkpieljmhgfofaaDoor.X Go.Proofs.YtkpieljmhgfofaaDoor.X.OFnCrashRecovery
set_option linter.unusedVariables false
set_option linter.unusedSimpArgs false
theorem own : ownKnob Tryd.prog.godebug = none := by kernel_rfl
theorem laidOut : laidOutB Tryd.prog = true := by kernel_rfl
open Go Go.Proofs.YtkpieljmhgfofaaDoorG
def laidL : List (String × DataW Unit) := [("math/bits.deBruijn32tab", Rows.laid_math_bits_deBruijn32tab), ("math/bits.deBruijn64tab", Rows.laid_math_bits_deBruijn64tab), ("internal/strconv.uint64pow10", Rows.laid_internal_strconv_uint64pow10)]
theorem globOf {W : World} (h : laidMetH Tryd.prog laidL W) : D5 W := by
  rw [MakeChecks.laidMetH_plain _ _ _ (by kernel_rfl)] at h
  exact D5.of_tab (h.filter fun x => x.1 == "internal/strconv.uint64pow10")
set_option maxRecDepth 100000 in
set_option maxHeartbeats 2000000 in
theorem lifted (os : Os) (started : os.Started) (H : Type) (enc : TypeId × Value → H) :
    ReturnsInHanded {} Tryd.checked os 12 .any (fun w args => (Rows.fnCrashRecoverySpec.pre enc Tryd.prog Tryd.f12 Rows.fnCrashRecoveryRow.domain false w args ∧ laidMetH Tryd.prog laidL w) ∧ sizedMet enc Tryd.prog Tryd.f12 (OpenSpec.ofChange Rows.fnCrashRecoverySpec) false w args) (Rows.fnCrashRecoverySpec.post enc Tryd.prog Tryd.f12 false true false false) := by
  refine returnsInHanded_of_change_and (C := Tryd.checked) (X := fun w _ => laidMetH Tryd.prog laidL w) (fun _ _ _ hh h => h.of_heap hh) own started (by kernel_rfl) Tryd.func12
    (ChangeSpec.witness_shaped (enc := enc) (C := Tryd.checked) (os := os) (X := fun w _ => laidMetH Tryd.prog laidL w) false (World.laidAll Tryd.prog os laidL) #[.slice none 0 0] 8 (World.laidAll_os _ _ _)
      (World.shaped_of_ZipB (by kernel_rfl) (by kernel_rfl)) (by kernel_rfl) (by kernel_rfl) (by kernel_rfl)
      (by rw [MakeChecks.laidMetH_plain _ _ _ (by kernel_rfl)]; exact laidMet_laidAll _ (by kernel_rfl) (by kernel_rfl))) ?_
  intro W base args ds gs before hval0 hW hcnd hsz0 hL _
  have hG := globOf hL
  have hsz : (DataW.weightsEach Tryd.prog (Tryd.f12.params.toList ++ Rows.fnCrashRecoverySpec.plain.varTypes Tryd.prog) (ds ++ gs)).all (· ≤ reachBytes) = true := hsz0
  have hval : ∀ (j : Nat) t v, Tryd.f12.params[j]? = some t → args[j]? = some v → Value.okWide Tryd.prog W .any base t v := hval0
  have hW' := hW
  obtain ⟨p, q, hA0, hV, rfl, hfz, hnd⟩ := hW
  have hA : DataW.TrodAll enc Tryd.prog W 0 (fun _ => true) true Tryd.f12.params.toList args.toList ds p := hA0
  rw [Tryd.params12] at hA hval hsz
  obtain ⟨v0, vs0, d0, ds0, p0, q0, hargs, rfl, rfl, h0, r0⟩ := trodAll_cons hA
  obtain ⟨rfl, rfl, rfl⟩ := trodAll_nil r0
  obtain rfl : args = #[v0] := by cases args; simp_all
  obtain ⟨rfl, rfl⟩ := trodVars_none hV
  obtain ⟨a0, len0, cap0, rfl⟩ := okWide_slice Tryd.underlying53 (hval 0 53 v0 rfl rfl)
  have k0 := h0
  have lt0 : ∀ x ∈ p0, x.block < W.heap.size := by obtain ⟨m, hm⟩ := k0; exact DataW.trod_lt m _ _ _ hm
  obtain ⟨l0, rfl, hc0, hr0, w0⟩ : ∃ l : List Int, len0 = l.length ∧ l.length ≤ cap0 ∧ Kd.C (Kd.int .u8) W a0 l.length l ∧ (l.length * 1 ≤ 140737488351232 ∧ l.length ≤ 9223372036854775807 ∧ ∀ y1 ∈ l, (Lit.int .u8 y1).wf = true) := by
    obtain ⟨fuel, hf⟩ := h0
    obtain ⟨l, ⟨A_, c_, e_, hl_, hC_⟩, hfit_⟩ := (opens_slice 0 Tryd.underlying53 (by kernel_rfl) (opens_int Tryd.underlying5) (by kernel_rfl)) hf (weights_param hsz (j := 0) rfl rfl)
    simp [Value.cells] at e_
    obtain ⟨rfl, rfl, rfl⟩ := e_
    exact ⟨l, rfl, hl_, hC_, hfit_⟩
  clear hA0 hval0 hsz0 hsz
  obtain ⟨k, h⟩ := Go.Proofs.YtkpieljmhgfofaaDoor.Pure.FnCrashRecovery l0 w0
  refine (Ae.calls k a0 cap0 l0 true W hr0 hc0 hG h rfl).mono fun e W' ⟨he, bel0⟩ => ?_
  have bel : Below W.heap.size W W' := bel0
  subst he
  exact ⟨_, rfl, _, _, _, [], _, [], hW', trodAll_mk1 (shut_bool Tryd.underlying4 _), (trodAll_cons_mk (Below.trod laidOut (by kernel_rfl) (of_decide_eq_true (by kernel_rfl)) k0 bel lt0) trodAll_mk0), rfl, bel.frame _, fun h => by cases h⟩
theorem over : Rows.fnCrashRecoveryRow.holds Tryd.pinned (OpenSpec.ofChange Rows.fnCrashRecoverySpec) :=
  OpenClaim.holds_of_wide 12 Tryd.f12 rfl rfl rfl rfl rfl rfl rfl ⟨rfl, rfl, rfl, rfl, rfl⟩ rfl rfl rfl rfl rfl (by kernel_rfl) Tryd.func12 (by kernel_rfl)
    (of_decide_eq_true (by kernel_rfl)) (by unfold Func.isWrapper; first | (rw [if_pos (by decide +kernel)]; kernel_rfl) | (rw [if_neg (by decide +kernel)]; exact ⟨rfl, rfl⟩))
    (fun os started H enc _ => lifted os started H enc)
theorem proved : Rows.FnCrashRecoverySaid := over
theorem carded : Rows.FnCrashRecoveryCardSaid :=
  Claim7.holds_tied_plain_at .later [] [.data, .data, .data] true (true, "235852b07b7bca440ed8a65975df4a4d7818d0c8db91fbf0ad52c0286e8ae3e3") false
    proved (fun _ h => by cases h) (by kernel_rfl) (fun _ h => by cases h) fnCrashRecovery_row_tie rfl ⟨rfl, rfl⟩ (by kernel_rfl) rfl
    (fun f fn hf hfn => by
      obtain rfl : f = 12 := Option.some.inj ((show Tryd.prog.funcNamed "loop.example/g00906/laws.FnCrashRecovery" = some 12 by kernel_rfl).symm.trans hf) |>.symm
      obtain rfl : fn = Tryd.f12 := (Option.some.inj (Tryd.func12.symm.trans hfn)).symm
      exact ⟨by kernel_rfl, fun j t ht => by
        rw [Tryd.params12] at ht
        have hm : t ∈ [53] := by simpa using Array.mem_of_getElem? ht
        have hall : ([53].all fun u => !Tryd.prog.wantsStandIn u) = true := by kernel_rfl
        exact (show Tryd.prog.wantsStandIn t = false by simpa using List.all_eq_true.1 hall t hm)⟩)
    (by kernel_rfl)
#print axioms carded
end Go.Proofs.YtkpieljmhgfofaaDoor.fnCrashRecovery
namespace Go.Proofs.YtkpieljmhgfofaaDoor
/-- The card, under a short name, for the claim. -/
theorem fnCrashRecovery_holds : Rows.FnCrashRecoveryCardSaid := fnCrashRecovery.carded
end Go.Proofs.YtkpieljmhgfofaaDoor

