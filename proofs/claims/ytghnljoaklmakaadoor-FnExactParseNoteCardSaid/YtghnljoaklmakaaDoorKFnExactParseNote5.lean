/- The law FnExactParseNote answers true for every input that the row lets in, and leaves its arguments as they were. Conditions: none beyond the row's own. -/
import Derived.Shelf.Abstract
import Derived.Lib.FieldsP
import Derived.Lib.TrimAscii
import Derived.Lib.TrimUEq
import Derived.Handed
import Derived.HandedShaped
import Derived.Test.YtghnljoaklmakaaDoorProg
import Derived.Test.YtghnljoaklmakaaDoorRows
import Derived.WalkKit
import Derived.ProofKit
import Derived.OpenShut
import Derived.ShutString
import Derived.ChangeOld
import Derived.Below
import Derived.SizedLaws
import Derived.Lib.SmallJoins
import Derived.Handy
import Derived.Lay
import Derived.SevenTiedAt
import Derived.LaidSub
import Derived.Lib.LaidTab
import Derived.Test.YtghnljoaklmakaaDoorCards
import Derived.Test.YtghnljoaklmakaaDoorTie
import Derived.Test.YtghnljoaklmakaaDoorKFnExactParseNote1
import Derived.Test.YtghnljoaklmakaaDoorKFnExactParseNote2
import Derived.Test.YtghnljoaklmakaaDoorKFnExactParseNote3
import Derived.Test.YtghnljoaklmakaaDoorKFnExactParseNote4
-- written by a program of this session (wip/ext.py) out of the translation. Not trusted: Lean checks it.
namespace Go.Proofs.YtghnljoaklmakaaDoor.X
open Go.RowKit Go.Proofs.YtghnljoaklmakaaDoorW.PrintWords Go.Proofs.YtghnljoaklmakaaDoorW.PrintLast Go.Proofs.YtghnljoaklmakaaDoorW.PrintMore
attribute [local go_sem] max2_int min2_int max_two min_two max_three min_three max_four min_four   -- for this text's walks alone
open Go.Proofs.YtghnljoaklmakaaDoorG
set_option linter.unusedVariables false
set_option linter.unusedSimpArgs false

/-- Where the first element is of which p holds; -1. -/
def idxP_note (p : S27 → Bool) (l : List S27) : Int := match l.findIdx? p with | some i => (i : Int) | none => -1
theorem idxP_note_hit (p : S27 → Bool) (l : List S27) (x : Int) (h0 : 0 ≤ x) (h1 : x < (l.length : Int)) (hm : ∀ j : Nat, (j : Int) < x → p (rd_T27 l (j : Int)) = false) (hp : p (rd_T27 l x) = true) : idxP_note p l = x := by
  obtain ⟨n, rfl⟩ := Int.eq_ofNat_of_zero_le h0
  have hn : n < l.length := by omega
  have e : l.findIdx? p = some n := by
    rw [List.findIdx?_eq_some_iff_getElem]
    refine ⟨hn, ?_, ?_⟩
    · simpa [rd_T27, List.getD_eq_getElem?_getD, List.getElem?_eq_getElem hn] using hp
    · intro j hj
      have := hm j (by omega)
      have hjl : j < l.length := by omega
      simpa [rd_T27, List.getD_eq_getElem?_getD, List.getElem?_eq_getElem hjl] using this
  simp [idxP_note, e]
theorem idxP_note_miss (p : S27 → Bool) (l : List S27) (x : Int) (h1 : ¬ x < (l.length : Int)) (hm : ∀ j : Nat, (j : Int) < x → p (rd_T27 l (j : Int)) = false) : idxP_note p l = -1 := by
  have e : l.findIdx? p = none := by
    rw [List.findIdx?_eq_none_iff]
    intro y hy
    obtain ⟨j, hj, rfl⟩ := List.getElem_of_mem hy
    have := hm j (by omega)
    simpa [rd_T27, List.getD_eq_getElem?_getD, List.getElem?_eq_getElem hj] using this
  simp [idxP_note, e]
theorem idxP_note_any (p : S27 → Bool) (l : List S27) : decide (0 ≤ idxP_note p l) = l.any p := by
  unfold idxP_note
  cases h : l.findIdx? p with
  | none =>
    rw [List.findIdx?_eq_none_iff] at h
    symm
    simp only [show ¬ (0 : Int) ≤ -1 by omega, decide_false, List.any_eq_false]
    intro y hy; simp [h y hy]
  | some i =>
    rw [List.findIdx?_eq_some_iff_getElem] at h
    obtain ⟨hi, hp, _⟩ := h
    symm
    simp only [show (0 : Int) ≤ (i : Int) by omega, decide_true, List.any_eq_true]
    exact ⟨_, List.getElem_mem hi, hp⟩
set_option maxHeartbeats 2000000 in
theorem slices_IndexFunc_note.calls {p : S27 → Bool} {g : Nat} {lb : Array Value} (eg : ∀ args w, (callFunc g args).run Tryd.prog w = .ok (.enter g args) w) (A0 : Option Addr) (c0 : Nat) (l0 : List S27) (w : World) (hr0 : Kd.C k27 w A0 l0.length l0)
    (hp : ∀ (W : World) (x : S27), Below w.heap.size w W → Calls Tryd.prog g (#[.agg #[.int .i64 x.f0, .string x.f1, .int .i64 x.f2, .int .i64 x.f3]] ++ lb) W fun e w' => e = .returned (.bool (p x)) ∧ Below w.heap.size w w') :
    Calls Tryd.prog 60 #[.slice A0 l0.length c0, .func (.func g) #[] lb] w fun e w' => e = .returned (.int .i64 (idxP_note p l0)) ∧ Below w.heap.size w w' := by
  have hu27 := Tryd.underlying27
  have HR0 := Aside0.mk hr0
  clear hr0
  have hL : l0.length ≤ 9223372036854775807 := HR0.out.2.1
  have HP := Aside0.mk hp
  clear hp
  have HB := Aside0.mk (Below.refl w.heap.size w)
  go_enter Tryd.func60, Tryd.ntmps60
  go_wp2
  go_loopg [5, 8] l0.length (fun gg _ s8 w' => ∃ x : Int, s8 = .int .i64 x ∧ Aside0 (0 ≤ x ∧ x ≤ (l0.length : Int) ∧ (l0.length : Int) - x ≤ (gg : Int)) ∧ Aside0 (Below w.heap.size w w') ∧ Aside0 (∀ j : Nat, (j : Int) < x → p (rd_T27 l0 (j : Int)) = false))
  case atStart => exact ⟨0, rfl, ⟨by omega, by omega, by omega⟩, HB, ⟨fun j hj => by omega⟩⟩
  case round =>
    clear HB
    obtain ⟨x, rfl, HX, HB, HM⟩ := hrel
    by_cases c4 : x < (l0.length : Int)
    · have c4b0 : decide (x < (l0.length : Int)) = true := decide_eq_true c4
      have c5b0 : decide (0 ≤ x) = true := decide_eq_true HX.out.1
      have p151 : 0 ≤ x := HX.out.1
      have q151 := c4
      have hw : wrap64 (x + 1) = x + 1 := by have := HX.out.1; unfold wrap64; omega
      have Hw := Aside0.mk hw
      clear hw
      obtain ⟨ad151, e151, hx151_0, hx151_1, hx151_2, hx151_3⟩ := at_T27 HR0.out x p151 q151
      cases e151
      replace hx151_0 := (HB.out.cell (World.block_lt_of_cell? w _ hx151_0)).trans hx151_0
      replace hx151_1 := (HB.out.cell (World.block_lt_of_cell? w _ hx151_1)).trans hx151_1
      replace hx151_2 := (HB.out.cell (World.block_lt_of_cell? w _ hx151_2)).trans hx151_2
      replace hx151_3 := (HB.out.cell (World.block_lt_of_cell? w _ hx151_3)).trans hx151_3
      have C4 := Aside0.mk c4
      clear c4
      replace p151 := eq_true p151
      replace q151 := eq_true q151
      have HC := Aside0.mk (HP.out wr (rd_T27 l0 x) HB.out)
      cases hq : p (rd_T27 l0 x) with
      | true =>
        rw [hq] at HC
        have HQ := Aside0.mk hq
        clear hq
        go_wp2_with (go_at_fn g; refine HC.out.mono ?_; rintro e w' ⟨rfl, hb'⟩)
        go_ret
        exact ⟨by rw [idxP_note_hit p l0 x HX.out.1 C4.out HM.out HQ.out]; rfl, hb'⟩
      | false =>
        rw [hq] at HC
        have HQ := Aside0.mk hq
        clear hq
        go_wp2_with (go_at_fn g; refine HC.out.mono ?_; rintro e w' ⟨rfl, hb'⟩)
        have HB' := Aside0.mk hb'
        clear hb'
        go_roundg (l0.length - (x + 1).toNat)
        case measure => have := HX.out; have := C4.out; omega
        case rel =>
          refine ⟨x + 1, by rw [Hw.out], ⟨by have := HX.out; omega, by have := C4.out; omega, by have := HX.out; have := C4.out; omega⟩, HB', ⟨fun j hj => ?_⟩⟩
          by_cases e : (j : Int) = x
          · rw [e]; exact HQ.out
          · exact HM.out j (by omega)
    · have c4b0 : decide (x < (l0.length : Int)) = false := decide_eq_false c4
      have C4 := Aside0.mk c4
      clear c4
      go_wp2
      go_ret
      exact ⟨by rw [idxP_note_miss p l0 x (fun h_ => by have := C4.out; omega) HM.out]; rfl, HB.out⟩
set_option maxHeartbeats 2000000 in
theorem slices_ContainsFunc_note.calls {p : S27 → Bool} {g : Nat} {lb : Array Value} (eg : ∀ args w, (callFunc g args).run Tryd.prog w = .ok (.enter g args) w) (A0 : Option Addr) (c0 : Nat) (l0 : List S27) (w : World) (hr0 : Kd.C k27 w A0 l0.length l0)
    (hp : ∀ (W : World) (x : S27), Below w.heap.size w W → Calls Tryd.prog g (#[.agg #[.int .i64 x.f0, .string x.f1, .int .i64 x.f2, .int .i64 x.f3]] ++ lb) W fun e w' => e = .returned (.bool (p x)) ∧ Below w.heap.size w w') :
    Calls Tryd.prog 45 #[.slice A0 l0.length c0, .func (.func g) #[] lb] w fun e w' => e = .returned (.bool (l0.any p)) ∧ Below w.heap.size w w' := by
  have HI := Aside0.mk (slices_IndexFunc_note.calls eg A0 c0 l0 w hr0 hp)
  rw [← idxP_note_any]
  clear hr0 hp
  go_enter Tryd.func45, Tryd.ntmps45
  go_wp2_with (go_at_call 60; refine HI.out.mono ?_; rintro e w' ⟨rfl, hb'⟩)
  go_ret
  exact ⟨rfl, hb'⟩
/-- A function value that answers as p, in this world and in all later ones. -/
def CloNote (v : Value) (p : S27 → Bool) (w : World) : Prop := ∃ (g : Nat) (lb : Array Value), v = .func (.func g) #[] lb ∧ (∀ args w, (callFunc g args).run Tryd.prog w = .ok (.enter g args) w) ∧ ∀ (W : World) (x : S27), Below w.heap.size w W → Calls Tryd.prog g (#[.agg #[.int .i64 x.f0, .string x.f1, .int .i64 x.f2, .int .i64 x.f3]] ++ lb) W fun e w' => e = .returned (.bool (p x)) ∧ Below w.heap.size w w'
def impl_Note_45.f (l0 : List S27) (p : S27 → Bool) : Option Bool := some (l0.any p)
theorem impl_Note_45.calls (A0 : Option Addr) (c0 : Nat) (l0 : List S27) (p : S27 → Bool) (v : Value) (r : Bool) (w : World) (hr0 : Kd.C k27 w A0 l0.length l0) (hc0 : l0.length ≤ c0) (hv : CloNote v p w) (h : impl_Note_45.f l0 p = some r) :
    Calls Tryd.prog 45 #[.slice A0 l0.length c0, v] w fun e w' => e = .returned (.bool r) ∧ Below w.heap.size w w' := by
  obtain ⟨g, lb, rfl, eg, hp⟩ := hv
  obtain rfl := Option.some.inj h
  exact slices_ContainsFunc_note.calls eg A0 c0 l0 w hr0 hp

end Go.Proofs.YtghnljoaklmakaaDoor.X


-- written by a program of this session (wip/ext.py) out of the translation. Not trusted: Lean checks it.
namespace Go.Proofs.YtghnljoaklmakaaDoor.X
open Go.RowKit Go.Proofs.YtghnljoaklmakaaDoorW.PrintWords Go.Proofs.YtghnljoaklmakaaDoorW.PrintLast Go.Proofs.YtghnljoaklmakaaDoorW.PrintMore
attribute [local go_sem] max2_int min2_int max_two min_two max_three min_three max_four min_four   -- for this text's walks alone
open Go.Proofs.YtghnljoaklmakaaDoorG
set_option linter.unusedVariables false
set_option linter.unusedSimpArgs false

def impl_isReport_1.f (k : Nat) (a0_0 : Int) (a0_1 : ByteArray) (a0_2 : Int) (a0_3 : Int) : Option (Bool) := (impl_IsValidNote.f k a0_0 a0_1 a0_2 a0_3).bind fun t221 => (some (!t221))
theorem impl_isReport_1.mono : ∀ a0 a1 a2 a3 k, LeO (impl_isReport_1.f k a0 a1 a2 a3) (impl_isReport_1.f (k + 1) a0 a1 a2 a3) := by
  intro a0 a1 a2 a3 k
  unfold impl_isReport_1.f
  repeat' first
      | (with_reducible exact impl_IsValidNote.mono _ _ _ _ _)
      | (with_reducible exact LeO.refl _)
      | (with_reducible exact LeO.none _)
      | (with_reducible refine LeO.ite ?_ ?_)
      | (with_reducible refine LeO.bind ?_ (fun _ => ?_))
      | exact impl_IsValidNote.mono _ _ _ _ _
      | exact LeO.none _
      | refine LeO.ite ?_ ?_
      | refine LeO.bind ?_ (fun _ => ?_)
set_option maxHeartbeats 8000000 in
set_option maxRecDepth 100000 in
theorem impl_isReport_1.calls (k : Nat) (a0_0 : Int) (a0_1 : ByteArray) (a0_2 : Int) (a0_3 : Int) (r : Bool) (w : World) (h : impl_isReport_1.f k a0_0 a0_1 a0_2 a0_3 = some r) :
    Calls Tryd.prog 46 #[.agg #[.int .i64 a0_0, .string a0_1, .int .i64 a0_2, .int .i64 a0_3]] w fun e w' => e = .returned (.bool r) ∧ Below w.heap.size w w' := by
  have hu27 := Tryd.underlying27
  have HB := Aside0.mk (Below.refl w.heap.size w)
  have H : ((impl_IsValidNote.f k a0_0 a0_1 a0_2 a0_3).bind fun t221 => (some (!t221))) = some r := h
  clear h
  replace H := Option.bind_eq_some_iff.mp H
  obtain ⟨t221, A20, H⟩ := H
  replace H : (some (!t221)) = some r := H
  have A2 := Aside0.mk A20
  clear A20
  obtain rfl := Option.some.inj H
  go_enter Tryd.func46, Tryd.ntmps46
  go_wp2_with (first | ((with_reducible refine gate_dst (N := 1) rfl ?_); refine box_event ?hg (N := 1) ?hd (cs := #[.int .i64 a0_0, .string a0_1, .int .i64 a0_2, .int .i64 a0_3]) (t := 27) ?hr ?_; (case hd => rfl); (case hg => rfl); (case hr => first | (go_simp; done) | (go_simp; rfl)); intro gb220 hg w3 hbox hb; have n0_ := Aside0.mk (below_step (by repeat (first | (with_reducible first | exact HB.out | apply below_alloc | apply pw_below_drewN | apply below_drew1) | exact HB.out)) hb); have n1_ := Aside0.mk (hbox); have n2_ := Aside0.mk ((by rw [hg]; exact (below_size (by repeat (first | (with_reducible first | exact HB.out | apply below_alloc | apply pw_below_drewN | apply below_drew1) | exact HB.out))) : w.heap.size ≤ gb220)); have n3_ := Aside0.mk ((by rw [hg]; exact (below_size (by repeat (first | (with_reducible first | exact HB.out | apply below_alloc | apply pw_below_drewN | apply below_drew1) | exact HB.out))) : w.heap.size ≤ gb220)); clear HB; have HB := n0_; have BK220 := n1_; have GW220 := n2_; have GE220 := n3_; clear n0_ n1_ n2_ n3_; clear hb hbox hg; have hcz4_0 : w3.cell? ⟨gb220, 0, none⟩ = some (.int .i64 a0_0) := (blk_cell BK220.out 0).trans rfl; have hcz4_1 : w3.cell? ⟨gb220, 1, none⟩ = some (.string a0_1) := (blk_cell BK220.out 1).trans rfl; have hcz4_2 : w3.cell? ⟨gb220, 2, none⟩ = some (.int .i64 a0_2) := (blk_cell BK220.out 2).trans rfl; have hcz4_3 : w3.cell? ⟨gb220, 3, none⟩ = some (.int .i64 a0_3) := (blk_cell BK220.out 3).trans rfl; have hfz4_0 := blk_frozen BK220.out 0; have hfz4_1 := blk_frozen BK220.out 1; have hfz4_2 := blk_frozen BK220.out 2; have hfz4_3 := blk_frozen BK220.out 3) | ((with_reducible refine gate_callee (f := 25) rfl ?_); refine goesL_ (some 4) rfl rfl Tryd.func25 (by kernel_rfl) rfl #[.agg #[.int .i64 a0_0, .string a0_1, .int .i64 a0_2, .int .i64 a0_3]] rfl (by (try simp only [List.map_toArray, List.map_cons, List.map_nil]); first | done | rfl | (simp only [List.length_drop, List.length_take]; rfl)) ?_; (with_reducible refine (impl_IsValidNote.calls k a0_0 a0_1 a0_2 a0_3 t221 _ A2.out).mono ?_); rintro e w5 ⟨rfl, hb⟩; refine ⟨_, rfl, ?_⟩; have n0_ := Aside0.mk (blk_below (g := gb220) (o := .cells #[.int .i64 a0_0, .string a0_1, .int .i64 a0_2, .int .i64 a0_3] 27 (0, 0)) (by (with_reducible repeat (first | refine blk_drewN ?_ _ | refine blk_drew ?_ | refine blk_alloc ?_ _)); exact BK220.out) hb); have n1_ := Aside0.mk (below_step (by repeat (first | (with_reducible first | exact HB.out | apply below_alloc | apply pw_below_drewN | apply below_drew1 | refine below_set ?_ GE220.out) | exact HB.out)) hb); clear BK220; clear HB; have BK220 := n0_; have HB := n1_; clear n0_ n1_; (try clear hb); (try clear hb2); (try clear hk); (try clear hi)))
  go_ret
  exact ⟨by first | rfl | (simp [errW_none, errW_some] <;> rfl) | (simp [*, errW_none, errW_some] <;> rfl), by repeat (first | (with_reducible first | exact HB.out | apply below_alloc | apply pw_below_drewN | apply below_drew1 | refine below_set ?_ GE220.out) | exact HB.out)⟩

end Go.Proofs.YtghnljoaklmakaaDoor.X


-- written by a program of this session (wip/ext.py) out of the translation. Not trusted: Lean checks it.
namespace Go.Proofs.YtghnljoaklmakaaDoor.X
open Go.RowKit Go.Proofs.YtghnljoaklmakaaDoorW.PrintWords Go.Proofs.YtghnljoaklmakaaDoorW.PrintLast Go.Proofs.YtghnljoaklmakaaDoorW.PrintMore
attribute [local go_sem] max2_int min2_int max_two min_two max_three min_three max_four min_four   -- for this text's walks alone
open Go.Proofs.YtghnljoaklmakaaDoorG
set_option linter.unusedVariables false
set_option linter.unusedSimpArgs false

def okNote (x : S27) : Bool := noteOk x.f0 x.f1 x.f2 x.f3
theorem okNote_f (x : S27) : ∃ k, impl_isReport_1.f k x.f0 x.f1 x.f2 x.f3 = some (!okNote x) := by
  obtain ⟨k, h⟩ := (implNote_ev x.f0 x.f1 x.f2 x.f3).rounds
  exact ⟨k, by unfold impl_isReport_1.f; rw [h]; rfl⟩
def impl_isReport.f (l0 : List S27) : Option Bool := some (decide (l0.length ≤ 10) && l0.all okNote)
set_option maxHeartbeats 2000000 in
theorem impl_isReport.calls (A0 : Option Addr) (c0 : Nat) (l0 : List (S27)) (r : Bool) (w : World) (hr0 : Kd.C k27 w A0 l0.length l0) (hc0 : l0.length ≤ c0) (h : impl_isReport.f l0 = some r) :
    Calls Tryd.prog 28 #[.slice A0 l0.length c0] w fun e w' => e = .returned (.bool r) ∧ Below w.heap.size w w' := by
  have HI := Aside0.mk (fun (W : World) (hb0 : Below w.heap.size w W) => slices_ContainsFunc_note.calls (p := fun x => !okNote x) (g := 46) (lb := #[]) (enters_of Tryd.func46 (by kernel_rfl) rfl) A0 c0 l0 W (Kd.C_below hr0 hb0) (fun W' x hb => by
    obtain ⟨k, hk⟩ := okNote_f x
    exact (impl_isReport_1.calls k x.f0 x.f1 x.f2 x.f3 (!okNote x) W' hk).mono (fun e w' ⟨he, hb'⟩ => ⟨he, hb.trans (hb'.mono hb.size)⟩)))
  simp only [impl_isReport.f, Option.some.injEq] at h
  have ha : l0.all okNote = !(l0.any fun x => !okNote x) := by rw [List.all_eq_not_any_not]
  rw [ha] at h
  clear ha hr0
  have H := Aside0.mk h
  clear h
  by_cases hlen : (l0.length : Int) ≤ 10
  · have hd1 : decide ((l0.length : Int) ≤ 10) = true := decide_eq_true hlen
    have hd2 : decide (l0.length ≤ 10) = true := decide_eq_true (by omega)
    have HD2 := Aside0.mk hd2
    clear hlen
    cases hq : l0.any (fun x => !okNote x) with
    | true =>
      simp only [hq] at HI
      have HQ := Aside0.mk hq
      clear hq
      go_enter Tryd.func28, Tryd.ntmps28
      go_wp2_with (go_at_call 45; refine (HI.out _ (by repeat (first | exact Below.refl _ _ | apply below_alloc | apply pw_below_drewN | apply below_drew1))).mono ?_; rintro e w' ⟨rfl, hb'⟩)
      go_ret
      exact ⟨by rw [← H.out, HQ.out, HD2.out]; rfl, hb'⟩
    | false =>
      simp only [hq] at HI
      have HQ := Aside0.mk hq
      clear hq
      go_enter Tryd.func28, Tryd.ntmps28
      go_wp2_with (go_at_call 45; refine (HI.out _ (by repeat (first | exact Below.refl _ _ | apply below_alloc | apply pw_below_drewN | apply below_drew1))).mono ?_; rintro e w' ⟨rfl, hb'⟩)
      go_ret
      exact ⟨by rw [← H.out, HQ.out, HD2.out]; rfl, hb'⟩
  · have hd1 : decide ((l0.length : Int) ≤ 10) = false := decide_eq_false hlen
    have hd2 : decide (l0.length ≤ 10) = false := decide_eq_false (by omega)
    have HD2 := Aside0.mk hd2
    have HL := Aside0.mk hlen
    clear hlen
    go_enter Tryd.func28, Tryd.ntmps28
    go_wp2
    go_ret
    exact ⟨by rw [← H.out, HD2.out]; rfl, Below.refl _ _⟩

end Go.Proofs.YtghnljoaklmakaaDoor.X


namespace Go.Proofs.YtghnljoaklmakaaDoor.X
open Go.RowKit Go.Proofs.YtghnljoaklmakaaDoorW.PrintWords Go.Proofs.YtghnljoaklmakaaDoorL
set_option linter.unusedVariables false
set_option linter.unusedSimpArgs false
abbrev Note := S27
theorem rdN (l : List Note) (n : Nat) (h : n < l.length) : rd_T27 l (n : Int) = l[n] := by simp [rd_T27, List.getD_eq_getElem?_getD, List.getElem?_eq_getElem h]
end Go.Proofs.YtghnljoaklmakaaDoor.X


namespace Go.Proofs.YtghnljoaklmakaaDoor.X
open Go.RowKit Go.Proofs.YtghnljoaklmakaaDoorW.PrintWords Go.Proofs.YtghnljoaklmakaaDoorL
set_option linter.unusedVariables false
set_option linter.unusedSimpArgs false
/-- The names of the holds of a number from 1 to 15. -/
def hold (n : Int) : ByteArray × Bool := (spec_HoldNames.f 6 n).getD (ByteArray.empty, true)
theorem hold_all : ∀ i : Fin 15, spec_HoldNames.f 6 ((i.val : Int) + 1) = some (hold ((i.val : Int) + 1)) ∧ impl_HoldNames.f 6 ((i.val : Int) + 1) = some (hold ((i.val : Int) + 1)) ∧ (hold ((i.val : Int) + 1)).1.size ≤ 60 := by decide +kernel
theorem hold_at (n : Int) (h0 : 1 ≤ n) (h1 : n ≤ 15) : spec_HoldNames.f 6 n = some (hold n) ∧ impl_HoldNames.f 6 n = some (hold n) ∧ (hold n).1.size ≤ 60 := by
  have := hold_all ⟨(n - 1).toNat, by omega⟩
  rw [show (((n - 1).toNat : Nat) : Int) + 1 = n from by omega] at this
  exact this
theorem mono_le {α : Type} {g : Nat → Option α} (hm : ∀ k, LeO (g k) (g (k + 1))) {k : Nat} {r : α} (h : g k = some r) : ∀ j, k ≤ j → g j = some r := by
  intro j hj
  obtain ⟨d, rfl⟩ := Nat.exists_eq_add_of_le hj
  clear hj
  induction d with
  | zero => exact h
  | succ d ih => exact hm _ _ ih
def textN (kind : Int) (id : ByteArray) (a b : Int) : ByteArray :=
  if kind = 1 then ((((⟨#[67, 111, 110, 116, 97, 105, 110, 101, 114, 32]⟩ : ByteArray) ++ id) ++ (⟨#[32, 104, 97, 115, 32, 97, 114, 114, 105, 118, 101, 100, 32, 105, 110, 32, 115, 116, 97, 99, 107, 32]⟩ : ByteArray)) ++ dec a) ++ (⟨#[46]⟩ : ByteArray)
  else if kind = 2 then ((((((⟨#[67, 111, 110, 116, 97, 105, 110, 101, 114, 32]⟩ : ByteArray) ++ id) ++ (⟨#[32, 119, 97, 115, 32, 109, 111, 118, 101, 100, 32, 102, 114, 111, 109, 32, 115, 116, 97, 99, 107, 32]⟩ : ByteArray)) ++ dec a) ++ (⟨#[32, 116, 111, 32, 115, 116, 97, 99, 107, 32]⟩ : ByteArray)) ++ dec b) ++ (⟨#[46]⟩ : ByteArray)
  else if kind = 3 then ((((⟨#[67, 111, 110, 116, 97, 105, 110, 101, 114, 32]⟩ : ByteArray) ++ id) ++ (⟨#[32, 105, 115, 32, 104, 101, 108, 100, 32, 102, 111, 114, 32]⟩ : ByteArray)) ++ (hold a).1) ++ (⟨#[46]⟩ : ByteArray)
  else if kind = 4 then ((((⟨#[67, 111, 110, 116, 97, 105, 110, 101, 114, 32]⟩ : ByteArray) ++ id) ++ (⟨#[32, 105, 115, 32, 114, 101, 97, 100, 121, 32, 102, 111, 114, 32, 112, 105, 99, 107, 117, 112, 32, 105, 110, 32, 115, 108, 111, 116, 32]⟩ : ByteArray)) ++ dec a) ++ (⟨#[46]⟩ : ByteArray)
  else if b = 1 then ((((⟨#[67, 111, 110, 116, 97, 105, 110, 101, 114, 32]⟩ : ByteArray) ++ id) ++ (⟨#[32, 111, 119, 101, 115, 32]⟩ : ByteArray)) ++ dec a) ++ (⟨#[32, 102, 111, 114, 32, 49, 32, 100, 97, 121, 46]⟩ : ByteArray)
  else ((((((⟨#[67, 111, 110, 116, 97, 105, 110, 101, 114, 32]⟩ : ByteArray) ++ id) ++ (⟨#[32, 111, 119, 101, 115, 32]⟩ : ByteArray)) ++ dec a) ++ (⟨#[32, 102, 111, 114, 32]⟩ : ByteArray)) ++ dec b) ++ (⟨#[32, 100, 97, 121, 115, 46]⟩ : ByteArray)
theorem note_facts {kind : Int} {id : ByteArray} {a b : Int} (h : noteOk kind id a b = true) : id.size = 8 ∧ (1 ≤ kind ∧ kind ≤ 5) ∧ (0 ≤ a ∧ a ≤ 999999) ∧ (0 ≤ b ∧ b ≤ 999999) ∧ (kind = 3 → 1 ≤ a ∧ a ≤ 15) := by
  unfold noteOk at h
  simp only [Bool.and_eq_true] at h
  obtain ⟨h1, h2⟩ := h
  have h3 : id.size = 8 := by
    unfold idOk at h1
    simp only [Bool.and_eq_true, decide_eq_true_eq] at h1
    exact h1.1
  refine ⟨h3, ?_⟩
  clear h1 h3
  repeat' split at h2
  all_goals (simp_all <;> omega)
theorem dec_sz (n : Int) (h : 0 ≤ n ∧ n ≤ 999999) : (dec n).size ≤ 21 := dec_size n (by omega) (by omega)
theorem implText_ev (kind : Int) (id : ByteArray) (a b : Int) (h : noteOk kind id a b = true) : Ev (fun k => impl_noteText.f k kind id a b) (textN kind id a b) := by
  obtain ⟨hi, hk, ha, hb, h3⟩ := note_facts h
  have da := dec_sz a ha
  have db := dec_sz b hb
  clear h
  have zC_ : (⟨#[67, 111, 110, 116, 97, 105, 110, 101, 114, 32]⟩ : ByteArray).size = 10 := rfl
  have zarr_ : (⟨#[32, 104, 97, 115, 32, 97, 114, 114, 105, 118, 101, 100, 32, 105, 110, 32, 115, 116, 97, 99, 107, 32]⟩ : ByteArray).size = 22 := rfl
  have zmov_ : (⟨#[32, 119, 97, 115, 32, 109, 111, 118, 101, 100, 32, 102, 114, 111, 109, 32, 115, 116, 97, 99, 107, 32]⟩ : ByteArray).size = 22 := rfl
  have zto_ : (⟨#[32, 116, 111, 32, 115, 116, 97, 99, 107, 32]⟩ : ByteArray).size = 10 := rfl
  have zheld_ : (⟨#[32, 105, 115, 32, 104, 101, 108, 100, 32, 102, 111, 114, 32]⟩ : ByteArray).size = 13 := rfl
  have zrdy_ : (⟨#[32, 105, 115, 32, 114, 101, 97, 100, 121, 32, 102, 111, 114, 32, 112, 105, 99, 107, 117, 112, 32, 105, 110, 32, 115, 108, 111, 116, 32]⟩ : ByteArray).size = 29 := rfl
  have zowes_ : (⟨#[32, 111, 119, 101, 115, 32]⟩ : ByteArray).size = 6 := rfl
  have zone_ : (⟨#[32, 102, 111, 114, 32, 49, 32, 100, 97, 121, 46]⟩ : ByteArray).size = 11 := rfl
  have zfor_ : (⟨#[32, 102, 111, 114, 32]⟩ : ByteArray).size = 5 := rfl
  have zdays_ : (⟨#[32, 100, 97, 121, 115, 46]⟩ : ByteArray).size = 6 := rfl
  have zdot_ : (⟨#[46]⟩ : ByteArray).size = 1 := rfl
  have zoneday_ : (⟨#[49, 32, 100, 97, 121]⟩ : ByteArray).size = 5 := rfl
  have zsdays_ : (⟨#[32, 100, 97, 121, 115]⟩ : ByteArray).size = 5 := rfl
  refine ⟨6, fun k hk6 => ?_⟩
  unfold impl_noteText.f textN
  rw [implDec a (by omega) (by omega), implDec b (by omega) (by omega)]
  have kk : kind = 1 ∨ kind = 2 ∨ kind = 3 ∨ kind = 4 ∨ kind = 5 := by omega
  rcases kk with rfl | rfl | rfl | rfl | rfl
  · simp only [Option.bind_some, if_true]
    repeat rw [if_pos (by (try simp only [ByteArray.size_append]); omega)]
  · simp only [Option.bind_some, if_true, if_neg (show ¬ (2 : Int) = 1 by decide)]
    repeat rw [if_pos (by (try simp only [ByteArray.size_append]); omega)]
  · obtain ⟨_, e3, z3⟩ := hold_at a (h3 rfl).1 (h3 rfl).2
    have e4 := mono_le (g := fun k => impl_HoldNames.f k a) (fun k => impl_HoldNames.mono _ _) e3 k hk6
    simp only [e4, Option.bind_some, if_true, if_neg (show ¬ (3 : Int) = 1 by decide), if_neg (show ¬ (3 : Int) = 2 by decide)]
    repeat rw [if_pos (by (try simp only [ByteArray.size_append]); omega)]
  · simp only [Option.bind_some, if_true, if_neg (show ¬ (4 : Int) = 1 by decide), if_neg (show ¬ (4 : Int) = 2 by decide), if_neg (show ¬ (4 : Int) = 3 by decide)]
    repeat rw [if_pos (by (try simp only [ByteArray.size_append]); omega)]
  · simp only [Option.bind_some, if_neg (show ¬ (5 : Int) = 1 by decide), if_neg (show ¬ (5 : Int) = 2 by decide), if_neg (show ¬ (5 : Int) = 3 by decide), if_neg (show ¬ (5 : Int) = 4 by decide)]
    by_cases b1 : b = 1
    · simp only [if_pos b1]
      repeat rw [if_pos (by (try simp only [ByteArray.size_append]); omega)]
    · simp only [if_neg b1]
      repeat rw [if_pos (by (try simp only [ByteArray.size_append]); omega)]
theorem day_one (x : ByteArray) : ((x ++ (⟨#[32, 102, 111, 114, 32]⟩ : ByteArray)) ++ (⟨#[49, 32, 100, 97, 121]⟩ : ByteArray)) ++ (⟨#[46]⟩ : ByteArray) = x ++ (⟨#[32, 102, 111, 114, 32, 49, 32, 100, 97, 121, 46]⟩ : ByteArray) := by
  rw [ByteArray.append_assoc, ByteArray.append_assoc]
  exact congrArg (fun z => x ++ z) (by decide +kernel)
theorem day_days (x d : ByteArray) : (x ++ (d ++ (⟨#[32, 100, 97, 121, 115]⟩ : ByteArray))) ++ (⟨#[46]⟩ : ByteArray) = (x ++ d) ++ (⟨#[32, 100, 97, 121, 115, 46]⟩ : ByteArray) := by
  rw [← ByteArray.append_assoc, ByteArray.append_assoc]
  exact congrArg (fun z => (x ++ d) ++ z) (by decide +kernel)
theorem specText_ev (kind : Int) (id : ByteArray) (a b : Int) (h : noteOk kind id a b = true) : Ev (fun k => spec_l26Text.f k kind id a b) (textN kind id a b) := by
  obtain ⟨hi, hk, ha, hb, h3⟩ := note_facts h
  have da := dec_sz a ha
  have db := dec_sz b hb
  clear h
  have zC_ : (⟨#[67, 111, 110, 116, 97, 105, 110, 101, 114, 32]⟩ : ByteArray).size = 10 := rfl
  have zarr_ : (⟨#[32, 104, 97, 115, 32, 97, 114, 114, 105, 118, 101, 100, 32, 105, 110, 32, 115, 116, 97, 99, 107, 32]⟩ : ByteArray).size = 22 := rfl
  have zmov_ : (⟨#[32, 119, 97, 115, 32, 109, 111, 118, 101, 100, 32, 102, 114, 111, 109, 32, 115, 116, 97, 99, 107, 32]⟩ : ByteArray).size = 22 := rfl
  have zto_ : (⟨#[32, 116, 111, 32, 115, 116, 97, 99, 107, 32]⟩ : ByteArray).size = 10 := rfl
  have zheld_ : (⟨#[32, 105, 115, 32, 104, 101, 108, 100, 32, 102, 111, 114, 32]⟩ : ByteArray).size = 13 := rfl
  have zrdy_ : (⟨#[32, 105, 115, 32, 114, 101, 97, 100, 121, 32, 102, 111, 114, 32, 112, 105, 99, 107, 117, 112, 32, 105, 110, 32, 115, 108, 111, 116, 32]⟩ : ByteArray).size = 29 := rfl
  have zowes_ : (⟨#[32, 111, 119, 101, 115, 32]⟩ : ByteArray).size = 6 := rfl
  have zone_ : (⟨#[32, 102, 111, 114, 32, 49, 32, 100, 97, 121, 46]⟩ : ByteArray).size = 11 := rfl
  have zfor_ : (⟨#[32, 102, 111, 114, 32]⟩ : ByteArray).size = 5 := rfl
  have zdays_ : (⟨#[32, 100, 97, 121, 115, 46]⟩ : ByteArray).size = 6 := rfl
  have zdot_ : (⟨#[46]⟩ : ByteArray).size = 1 := rfl
  have zoneday_ : (⟨#[49, 32, 100, 97, 121]⟩ : ByteArray).size = 5 := rfl
  have zsdays_ : (⟨#[32, 100, 97, 121, 115]⟩ : ByteArray).size = 5 := rfl
  obtain ⟨ka, ea⟩ := specNum_ev a (by omega) (by omega)
  obtain ⟨kb, eb⟩ := specNum_ev b (by omega) (by omega)
  refine ⟨6 + ka + kb, fun k hk6 => ?_⟩
  replace ea := ea k (by omega)
  replace eb := eb k (by omega)
  dsimp only at ea eb
  unfold spec_l26Text.f textN spec_l26Days.f
  have kk : kind = 1 ∨ kind = 2 ∨ kind = 3 ∨ kind = 4 ∨ kind = 5 := by omega
  rcases kk with rfl | rfl | rfl | rfl | rfl
  · simp only [ea, eb, Option.bind_some, if_true]
    repeat rw [if_pos (by (try simp only [ByteArray.size_append]); omega)]
  · simp only [ea, eb, Option.bind_some, if_true, if_neg (show ¬ (2 : Int) = 1 by decide)]
    repeat rw [if_pos (by (try simp only [ByteArray.size_append]); omega)]
  · obtain ⟨e3, _, z3⟩ := hold_at a (h3 rfl).1 (h3 rfl).2
    have e4 := mono_le (g := fun k => spec_HoldNames.f k a) (fun k => spec_HoldNames.mono _ _) e3 k (by omega)
    simp only [e4, Option.bind_some, if_true, if_neg (show ¬ (3 : Int) = 1 by decide), if_neg (show ¬ (3 : Int) = 2 by decide)]
    repeat rw [if_pos (by (try simp only [ByteArray.size_append]); omega)]
  · simp only [ea, Option.bind_some, if_true, if_neg (show ¬ (4 : Int) = 1 by decide), if_neg (show ¬ (4 : Int) = 2 by decide), if_neg (show ¬ (4 : Int) = 3 by decide)]
    repeat rw [if_pos (by (try simp only [ByteArray.size_append]); omega)]
  · simp only [ea, eb, Option.bind_some, if_neg (show ¬ (5 : Int) = 1 by decide), if_neg (show ¬ (5 : Int) = 2 by decide), if_neg (show ¬ (5 : Int) = 3 by decide), if_neg (show ¬ (5 : Int) = 4 by decide)]
    by_cases b1 : b = 1
    · simp only [if_pos b1, Option.bind_some]
      rw [← day_one]
      repeat rw [if_pos (by (try simp only [ByteArray.size_append]); omega)]
    · simp only [if_neg b1, Option.bind_some]
      rw [← day_days]
      repeat (first | rw [if_pos (by (try simp only [ByteArray.size_append]); omega)] | rw [Option.bind_some])
end Go.Proofs.YtghnljoaklmakaaDoor.X


namespace Go.Proofs.YtghnljoaklmakaaDoor.X
open Go.RowKit Go.Proofs.YtghnljoaklmakaaDoorW.PrintWords Go.Proofs.YtghnljoaklmakaaDoorL
set_option linter.unusedVariables false
set_option linter.unusedSimpArgs false
def kC : List UInt8 := [67, 111, 110, 116, 97, 105, 110, 101, 114, 32]
def k1 : List UInt8 := [32, 104, 97, 115, 32, 97, 114, 114, 105, 118, 101, 100, 32, 105, 110, 32, 115, 116, 97, 99, 107, 32]
def k2 : List UInt8 := [32, 119, 97, 115, 32, 109, 111, 118, 101, 100, 32, 102, 114, 111, 109, 32, 115, 116, 97, 99, 107, 32]
def kto : List UInt8 := [32, 116, 111, 32, 115, 116, 97, 99, 107, 32]
def k3 : List UInt8 := [32, 105, 115, 32, 104, 101, 108, 100, 32, 102, 111, 114, 32]
def k4 : List UInt8 := [32, 105, 115, 32, 114, 101, 97, 100, 121, 32, 102, 111, 114, 32, 112, 105, 99, 107, 117, 112, 32, 105, 110, 32, 115, 108, 111, 116, 32]
def k5 : List UInt8 := [32, 111, 119, 101, 115, 32]
def kfor : List UInt8 := [32, 102, 111, 114, 32]
def kday : List UInt8 := [32, 100, 97, 121, 46]
def kdays : List UInt8 := [32, 100, 97, 121, 115, 46]
/-- What stands behind the Id. -/
def restL (kind a b : Int) : List UInt8 :=
  if kind = 1 then k1 ++ (B (dec a) ++ [46]) else if kind = 2 then k2 ++ (B (dec a) ++ (kto ++ (B (dec b) ++ [46])))
  else if kind = 3 then k3 ++ (B (hold a).1 ++ [46]) else if kind = 4 then k4 ++ (B (dec a) ++ [46])
  else k5 ++ (B (dec a) ++ (kfor ++ (B (dec b) ++ (if b = 1 then kday else kdays))))
theorem text_B (kind : Int) (id : ByteArray) (a b : Int) : B (textN kind id a b) = kC ++ (B id ++ restL kind a b) := by
  have one : B (dec 1) = [49] := by rw [show (1 : Int) = ((1 : Nat) : Int) from rfl, B_decN, Lib.decDigits_one (by omega)]; rfl
  unfold textN restL
  by_cases c1 : kind = 1
  · simp only [if_pos c1, B_append, List.append_assoc]; rfl
  · by_cases c2 : kind = 2
    · simp only [if_neg c1, if_pos c2, B_append, List.append_assoc]; rfl
    · by_cases c3 : kind = 3
      · simp only [if_neg c1, if_neg c2, if_pos c3, B_append, List.append_assoc]; rfl
      · by_cases c4 : kind = 4
        · simp only [if_neg c1, if_neg c2, if_neg c3, if_pos c4, B_append, List.append_assoc]; rfl
        · by_cases c5 : b = 1
          · subst c5; simp only [if_neg c1, if_neg c2, if_neg c3, if_neg c4, if_true, B_append, List.append_assoc, one]; rfl
          · simp only [if_neg c1, if_neg c2, if_neg c3, if_neg c4, if_neg c5, B_append, List.append_assoc]; rfl
theorem note_b {kind : Int} {id : ByteArray} {a b : Int} (h : noteOk kind id a b = true) (hk : kind = 1 ∨ kind = 3 ∨ kind = 4) : b = 0 := by
  unfold noteOk at h
  rcases hk with rfl | rfl | rfl <;> simp at h <;> omega
theorem hold_inj_all : ∀ i j : Fin 15, (hold ((i.val : Int) + 1)).1 = (hold ((j.val : Int) + 1)).1 → i = j := by decide +kernel
theorem hold_inj (a b : Int) (ha : 1 ≤ a ∧ a ≤ 15) (hb : 1 ≤ b ∧ b ≤ 15) (h : (hold a).1 = (hold b).1) : a = b := by
  have := hold_inj_all ⟨(a - 1).toNat, by omega⟩ ⟨(b - 1).toNat, by omega⟩
  rw [show (((a - 1).toNat : Nat) : Int) + 1 = a from by omega, show (((b - 1).toNat : Nat) : Int) + 1 = b from by omega] at this
  have := congrArg Fin.val (this h)
  simp only at this
  omega
abbrev zeroN : Int × ByteArray × Int × Int × Bool := (0, (⟨#[]⟩ : ByteArray), 0, 0, false)
/-- A note, if it is one and s is its sentence. -/
def ans (s : ByteArray) (kind : Int) (id : ByteArray) (a b : Int) : Int × ByteArray × Int × Int × Bool := if noteOk kind id a b = true ∧ textN kind id a b = s then (kind, id, a, b, true) else zeroN
theorem j2_ev (s : ByteArray) (kind : Int) (id : ByteArray) (a b : Int) : Ev (fun k => spec_ParseNote.j2 k s 0 (⟨#[]⟩ : ByteArray) 0 0 kind id a b) (ans s kind id a b) := by
  refine Ev.step (f := fun k => (spec_l26Good.f k kind id a b).bind fun t => if t = true then ((spec_l26Text.f k kind id a b).bind fun t2 => if t2.toList = s.toList then some (kind, id, a, b, true) else some zeroN) else some zeroN) (fun k => by simp only [spec_ParseNote.j2]) ?_
  refine Ev.bind (specNote_ev _ _ _ _) ?_
  unfold ans
  cases e : noteOk kind id a b with
  | false => simp only [Bool.false_eq_true, if_false, false_and]; exact Ev.now _
  | true =>
    simp only [if_true, true_and]
    refine Ev.bind (specText_ev _ _ _ _ e) ?_
    by_cases c : textN kind id a b = s
    · rw [if_pos c, if_pos (by rw [c])]; exact Ev.now _
    · rw [if_neg c, if_neg (fun h => c (B_inj (by rw [B_toList, B_toList] at h; exact h)))]; exact Ev.now _
theorem holds_ev (s t id : ByteArray) : ∀ (d n : Nat) (f : Int), n + d = 16 → 1 ≤ n → ∃ f', Ev (fun k => spec_ParseNote.l0 k s t (n : Int) 0 (⟨#[]⟩ : ByteArray) 0 0 3 id f 0) (ans s 3 id f' 0) ∧
    ∀ a : Int, 1 ≤ a ∧ a ≤ 15 → B t = B (hold a).1 ++ [46] → ((n : Int) ≤ a → f' = a) ∧ (a < (n : Int) → f = a → f' = a) := by
  intro d
  induction d with
  | zero =>
    intro n f hn h1
    refine ⟨f, Ev.step (fun k => ?_) (j2_ev s 3 id f 0), fun a ha e => ⟨fun h => by omega, fun _ h => h⟩⟩
    simp only [spec_ParseNote.l0]
    rw [if_neg (by omega)]
  | succ d ih =>
    intro n f hn h1
    obtain ⟨eh, _, hz⟩ := hold_at (n : Int) (by omega) (by omega)
    have eh2 : Ev (fun k => spec_HoldNames.f k (n : Int)) (hold (n : Int)) := ⟨6, fun k hk => mono_le (g := fun k => spec_HoldNames.f k (n : Int)) (fun k => spec_HoldNames.mono _ _) eh k hk⟩
    by_cases c : t.toList = ((hold (n : Int)).1 ++ (⟨#[46]⟩ : ByteArray)).toList
    · obtain ⟨f', he, hf⟩ := ih (n + 1) (n : Int) (by omega) (by omega)
      refine ⟨f', Ev.step (f := fun k => (spec_HoldNames.f k (n : Int)).bind fun bt => if bt.1.size + 1 ≤ 9223372036854775807 then (if t.toList = (bt.1 ++ (⟨#[46]⟩ : ByteArray)).toList then spec_ParseNote.l0 k s t ((n + 1 : Nat) : Int) 0 (⟨#[]⟩ : ByteArray) 0 0 3 id (n : Int) 0 else spec_ParseNote.l0 k s t ((n + 1 : Nat) : Int) 0 (⟨#[]⟩ : ByteArray) 0 0 3 id f 0) else none) (fun k => ?_) (Ev.bind eh2 ?_), fun a ha e => ?_⟩
      · simp only [spec_ParseNote.l0]; rw [if_pos (by omega), wrap_succ (by omega)]
      · exact Ev.congr (fun k => by rw [if_pos (by omega), if_pos c]) he
      · have ea : a = (n : Int) := by
          refine hold_inj a n ha ⟨by omega, by omega⟩ (B_inj ?_)
          rw [B_toList, B_toList, B_append, e] at c
          exact List.append_cancel_right c
        have := (hf a ha e).2 (by omega) ea.symm
        exact ⟨fun _ => this, fun _ _ => this⟩
    · obtain ⟨f', he, hf⟩ := ih (n + 1) f (by omega) (by omega)
      refine ⟨f', Ev.step (f := fun k => (spec_HoldNames.f k (n : Int)).bind fun bt => if bt.1.size + 1 ≤ 9223372036854775807 then (if t.toList = (bt.1 ++ (⟨#[46]⟩ : ByteArray)).toList then spec_ParseNote.l0 k s t ((n + 1 : Nat) : Int) 0 (⟨#[]⟩ : ByteArray) 0 0 3 id (n : Int) 0 else spec_ParseNote.l0 k s t ((n + 1 : Nat) : Int) 0 (⟨#[]⟩ : ByteArray) 0 0 3 id f 0) else none) (fun k => ?_) (Ev.bind eh2 ?_), fun a ha e => ?_⟩
      · simp only [spec_ParseNote.l0]; rw [if_pos (by omega), wrap_succ (by omega)]
      · exact Ev.congr (fun k => by rw [if_pos (by omega), if_neg c]) he
      · have hne : a ≠ (n : Int) := fun h => c (by rw [B_toList, B_toList, B_append, e, h]; rfl)
        exact ⟨fun h => (hf a ha e).1 (by omega), fun h hfa => (hf a ha e).2 (by omega) hfa⟩
theorem head46 : ∀ b, ([46] : List UInt8).head? = some b → ¬ isD b := by intro b h; cases h; unfold isD; decide
theorem head32 (l : List UInt8) : ∀ b, ((32 : UInt8) :: l).head? = some b → ¬ isD b := by intro b h; cases h; unfold isD; decide
/-- The decimal numeral of a whole number of a note. -/
theorem B_decI (a : Int) (h : 0 ≤ a ∧ a ≤ 999999) : ∃ u : Nat, (u : Int) = a ∧ u ≤ 999999 ∧ B (dec a) = Lib.decDigits u := by
  obtain ⟨u, rfl⟩ := Int.eq_ofNat_of_zero_le h.1
  exact ⟨u, rfl, by omega, B_decN u⟩
theorem digits_at (T : ByteArray) (hs : T.size ≤ 1000000000) : ∃ v R, Ev (fun k => spec_l26Digits.f k T) (v, R) ∧ R.size ≤ T.size ∧
    ∀ (a : Int) (r : List UInt8), 0 ≤ a ∧ a ≤ 999999 → B T = B (dec a) ++ r → (∀ b, r.head? = some b → ¬ isD b) → v = a ∧ R = mk r := by
  obtain ⟨v, R, he, _, hz, hu⟩ := digits_ev T hs
  refine ⟨v, R, he, hz, fun a r ha e hh => ?_⟩
  obtain ⟨u, rfl, hu6, eb⟩ := B_decI a ha
  exact hu u r hu6 (by rw [e, eb]) hh
def afterB (R K : ByteArray) : ByteArray := (if (B K).isPrefixOf (B R) = true then (mk ((B R).drop (B K).length), true) else ((⟨#[]⟩ : ByteArray), false)).1
theorem after_at (R K : ByteArray) : (afterB R K).size ≤ R.size ∧ ∀ X, B R = B K ++ X → afterB R K = mk X := by
  unfold afterB
  refine ⟨?_, fun X e => ?_⟩
  · split
    · show (mk _).size ≤ _; rw [mk_size, List.length_drop, B_length]; omega
    · exact Nat.zero_le _
  · rw [if_pos (by rw [e]; exact List.isPrefixOf_iff_prefix.2 (List.prefix_append _ _)), e, List.drop_left' rfl]
abbrev Fits (s : ByteArray) (kind : Int) (id : ByteArray) (a b : Int) : Prop := ∀ kind' id' a' b', noteOk kind' id' a' b' = true → textN kind' id' a' b' = s → kind = kind' ∧ id = id' ∧ a = a' ∧ b = b'
/-- Behind the Id. -/
theorem behind_ev (s x5 : ByteArray) (h8 : 8 ≤ x5.size) (hs : x5.size ≤ 1000000000) (hy : ∀ kind' id' a' b', noteOk kind' id' a' b' = true → textN kind' id' a' b' = s → B x5 = B id' ++ restL kind' a' b') :
    ∃ kind id a b, Ev (fun k => spec_ParseNote.j0 k s x5 false 0 (⟨#[]⟩ : ByteArray) 0 0) (ans s kind id a b) ∧ Fits s kind id a b := by
  have hy2 : ∀ kind' id' a' b', noteOk kind' id' a' b' = true → textN kind' id' a' b' = s → B (x5.extract 8 x5.size) = restL kind' a' b' ∧ x5.extract 0 8 = id' := by
    intro kind' id' a' b' h1 h2
    have e := hy kind' id' a' b' h1 h2
    have h8' : (B id').length = 8 := by rw [B_length]; exact (note_facts h1).1
    refine ⟨?_, B_inj ?_⟩
    · rw [B_extract, List.take_of_length_le (by rw [List.length_drop, B_length]; omega), e, List.drop_left' h8']
    · rw [B_extract, e, List.drop_zero, List.take_left' h8']
  have hts : (x5.extract 8 x5.size).size ≤ 1000000000 := by rw [ByteArray.size_extract]; omega
  obtain ⟨t, ht⟩ : ∃ t, x5.extract 8 x5.size = t := ⟨_, rfl⟩
  obtain ⟨id, hid⟩ : ∃ id, x5.extract 0 8 = id := ⟨_, rfl⟩
  rw [ht] at hts
  simp only [ht, hid] at hy2
  have dsz : ∀ n, (mk ((B t).drop n)).size ≤ 1000000000 := fun n => by rw [mk_size, List.length_drop, B_length]; omega
  by_cases p1 : (B (⟨#[32, 104, 97, 115, 32, 97, 114, 114, 105, 118, 101, 100, 32, 105, 110, 32, 115, 116, 97, 99, 107, 32]⟩ : ByteArray)).isPrefixOf (B t) = true
  · obtain ⟨v, R, he, _, hu⟩ := digits_at (mk ((B t).drop (B (⟨#[32, 104, 97, 115, 32, 97, 114, 114, 105, 118, 101, 100, 32, 105, 110, 32, 115, 116, 97, 99, 107, 32]⟩ : ByteArray)).length)) (dsz _)
    refine ⟨1, id, v, 0, Ev.step (f := fun k => (spec_l26Digits.f k (mk ((B t).drop (B (⟨#[32, 104, 97, 115, 32, 97, 114, 114, 105, 118, 101, 100, 32, 105, 110, 32, 115, 116, 97, 99, 107, 32]⟩ : ByteArray)).length))).bind fun bt => spec_ParseNote.j2 k s 0 (⟨#[]⟩ : ByteArray) 0 0 1 id bt.1 0) (fun k => ?_) (Ev.bind he (j2_ev s 1 id v 0)), ?_⟩
    · simp only [spec_ParseNote.j0, Bool.false_eq_true, if_false, ht, hid, begins_eq, Option.bind_some, if_pos p1, if_true]
      rw [if_pos (by omega), if_pos (by omega)]
    · intro kind' id' a' b' h1 h2
      obtain ⟨e, ei⟩ := hy2 kind' id' a' b' h1 h2
      obtain ⟨_, hk, ha, hb, _⟩ := note_facts h1
      have kk : kind' = 1 ∨ kind' = 2 ∨ kind' = 3 ∨ kind' = 4 ∨ kind' = 5 := by omega
      rw [e] at p1
      rcases kk with rfl | rfl | rfl | rfl | rfl
      · have := hu a' [46] ha (by rw [B_of_mk, e]; rfl) head46
        exact ⟨rfl, ei, this.1, (note_b h1 (.inl rfl)).symm⟩
      · exact absurd (show false = true from p1) (by decide)
      · exact absurd (show false = true from p1) (by decide)
      · exact absurd (show false = true from p1) (by decide)
      · exact absurd (show false = true from p1) (by decide)
  by_cases p2 : (B (⟨#[32, 119, 97, 115, 32, 109, 111, 118, 101, 100, 32, 102, 114, 111, 109, 32, 115, 116, 97, 99, 107, 32]⟩ : ByteArray)).isPrefixOf (B t) = true
  · obtain ⟨v, R, he, hR, hu⟩ := digits_at (mk ((B t).drop (B (⟨#[32, 119, 97, 115, 32, 109, 111, 118, 101, 100, 32, 102, 114, 111, 109, 32, 115, 116, 97, 99, 107, 32]⟩ : ByteArray)).length)) (dsz _)
    obtain ⟨hz2, ha2⟩ := after_at R (⟨#[32, 116, 111, 32, 115, 116, 97, 99, 107, 32]⟩ : ByteArray)
    obtain ⟨v2, R2, he2, _, hu2⟩ := digits_at (afterB R (⟨#[32, 116, 111, 32, 115, 116, 97, 99, 107, 32]⟩ : ByteArray)) (by have := dsz (B (⟨#[32, 119, 97, 115, 32, 109, 111, 118, 101, 100, 32, 102, 114, 111, 109, 32, 115, 116, 97, 99, 107, 32]⟩ : ByteArray)).length; omega)
    refine ⟨2, id, v, v2, Ev.step (f := fun k => (spec_l26Digits.f k (mk ((B t).drop (B (⟨#[32, 119, 97, 115, 32, 109, 111, 118, 101, 100, 32, 102, 114, 111, 109, 32, 115, 116, 97, 99, 107, 32]⟩ : ByteArray)).length))).bind fun bt => (spec_l26Begins.f bt.2 (⟨#[32, 116, 111, 32, 115, 116, 97, 99, 107, 32]⟩ : ByteArray)).bind fun bt2 => (spec_l26Digits.f k bt2.1).bind fun bt3 => spec_ParseNote.j2 k s 0 (⟨#[]⟩ : ByteArray) 0 0 2 id bt.1 bt3.1) (fun k => ?_) (Ev.bind he (Ev.congr (f := fun k => (spec_l26Digits.f k (afterB R (⟨#[32, 116, 111, 32, 115, 116, 97, 99, 107, 32]⟩ : ByteArray))).bind fun bt3 => spec_ParseNote.j2 k s 0 (⟨#[]⟩ : ByteArray) 0 0 2 id v bt3.1) (fun k => by simp only [begins_eq, Option.bind_some]; rfl) (Ev.bind he2 (j2_ev s 2 id v v2)))), ?_⟩
    · simp only [spec_ParseNote.j0, Bool.false_eq_true, if_false, ht, hid, begins_eq, Option.bind_some, if_neg p1, if_pos p2, if_true]
      rw [if_pos (by omega), if_pos (by omega)]
    · intro kind' id' a' b' h1 h2
      obtain ⟨e, ei⟩ := hy2 kind' id' a' b' h1 h2
      obtain ⟨_, hk, ha, hb, _⟩ := note_facts h1
      have kk : kind' = 1 ∨ kind' = 2 ∨ kind' = 3 ∨ kind' = 4 ∨ kind' = 5 := by omega
      rw [e] at p2
      rcases kk with rfl | rfl | rfl | rfl | rfl
      · exact absurd (show false = true from p2) (by decide)
      · have w := hu a' (kto ++ (B (dec b') ++ [46])) ha (by rw [B_of_mk, e]; rfl) (fun b h => head32 _ b h)
        have w2 := hu2 b' [46] hb (by rw [ha2 (B (dec b') ++ [46]) (by rw [w.2, B_of_mk]; rfl), B_of_mk]) head46
        exact ⟨rfl, ei, w.1, w2.1⟩
      · exact absurd (show false = true from p2) (by decide)
      · exact absurd (show false = true from p2) (by decide)
      · exact absurd (show false = true from p2) (by decide)
  by_cases p3 : (B (⟨#[32, 105, 115, 32, 104, 101, 108, 100, 32, 102, 111, 114, 32]⟩ : ByteArray)).isPrefixOf (B t) = true
  · obtain ⟨f', he, hf⟩ := holds_ev s (mk ((B t).drop (B (⟨#[32, 105, 115, 32, 104, 101, 108, 100, 32, 102, 111, 114, 32]⟩ : ByteArray)).length)) id 15 1 0 rfl (by omega)
    refine ⟨3, id, f', 0, Ev.step (f := fun k => spec_ParseNote.l0 k s (mk ((B t).drop (B (⟨#[32, 105, 115, 32, 104, 101, 108, 100, 32, 102, 111, 114, 32]⟩ : ByteArray)).length)) ((1 : Nat) : Int) 0 (⟨#[]⟩ : ByteArray) 0 0 3 id 0 0) (fun k => ?_) he, ?_⟩
    · simp only [spec_ParseNote.j0, Bool.false_eq_true, if_false, ht, hid, begins_eq, Option.bind_some, if_neg p1, if_neg p2, if_pos p3, if_true]
      rw [if_pos (by omega), if_pos (by omega)]
      rfl
    · intro kind' id' a' b' h1 h2
      obtain ⟨e, ei⟩ := hy2 kind' id' a' b' h1 h2
      obtain ⟨_, hk, ha, hb, h3⟩ := note_facts h1
      have kk : kind' = 1 ∨ kind' = 2 ∨ kind' = 3 ∨ kind' = 4 ∨ kind' = 5 := by omega
      rw [e] at p3
      rcases kk with rfl | rfl | rfl | rfl | rfl
      · exact absurd (show false = true from p3) (by decide)
      · exact absurd (show false = true from p3) (by decide)
      · have w := (hf a' (h3 rfl) (by rw [B_of_mk, e]; rfl)).1 (by have := h3 rfl; omega)
        exact ⟨rfl, ei, w, (note_b h1 (.inr (.inl rfl))).symm⟩
      · exact absurd (show false = true from p3) (by decide)
      · exact absurd (show false = true from p3) (by decide)
  by_cases p4 : (B (⟨#[32, 105, 115, 32, 114, 101, 97, 100, 121, 32, 102, 111, 114, 32, 112, 105, 99, 107, 117, 112, 32, 105, 110, 32, 115, 108, 111, 116, 32]⟩ : ByteArray)).isPrefixOf (B t) = true
  · obtain ⟨v, R, he, _, hu⟩ := digits_at (mk ((B t).drop (B (⟨#[32, 105, 115, 32, 114, 101, 97, 100, 121, 32, 102, 111, 114, 32, 112, 105, 99, 107, 117, 112, 32, 105, 110, 32, 115, 108, 111, 116, 32]⟩ : ByteArray)).length)) (dsz _)
    refine ⟨4, id, v, 0, Ev.step (f := fun k => (spec_l26Digits.f k (mk ((B t).drop (B (⟨#[32, 105, 115, 32, 114, 101, 97, 100, 121, 32, 102, 111, 114, 32, 112, 105, 99, 107, 117, 112, 32, 105, 110, 32, 115, 108, 111, 116, 32]⟩ : ByteArray)).length))).bind fun bt => spec_ParseNote.j2 k s 0 (⟨#[]⟩ : ByteArray) 0 0 4 id bt.1 0) (fun k => ?_) (Ev.bind he (j2_ev s 4 id v 0)), ?_⟩
    · simp only [spec_ParseNote.j0, Bool.false_eq_true, if_false, ht, hid, begins_eq, Option.bind_some, if_neg p1, if_neg p2, if_neg p3, if_pos p4, if_true]
      rw [if_pos (by omega), if_pos (by omega)]
    · intro kind' id' a' b' h1 h2
      obtain ⟨e, ei⟩ := hy2 kind' id' a' b' h1 h2
      obtain ⟨_, hk, ha, hb, _⟩ := note_facts h1
      have kk : kind' = 1 ∨ kind' = 2 ∨ kind' = 3 ∨ kind' = 4 ∨ kind' = 5 := by omega
      rw [e] at p4
      rcases kk with rfl | rfl | rfl | rfl | rfl
      · exact absurd (show false = true from p4) (by decide)
      · exact absurd (show false = true from p4) (by decide)
      · exact absurd (show false = true from p4) (by decide)
      · have := hu a' [46] ha (by rw [B_of_mk, e]; rfl) head46
        exact ⟨rfl, ei, this.1, (note_b h1 (.inr (.inr rfl))).symm⟩
      · exact absurd (show false = true from p4) (by decide)
  by_cases p5 : (B (⟨#[32, 111, 119, 101, 115, 32]⟩ : ByteArray)).isPrefixOf (B t) = true
  · obtain ⟨v, R, he, hR, hu⟩ := digits_at (mk ((B t).drop (B (⟨#[32, 111, 119, 101, 115, 32]⟩ : ByteArray)).length)) (dsz _)
    obtain ⟨hz2, ha2⟩ := after_at R (⟨#[32, 102, 111, 114, 32]⟩ : ByteArray)
    obtain ⟨v2, R2, he2, _, hu2⟩ := digits_at (afterB R (⟨#[32, 102, 111, 114, 32]⟩ : ByteArray)) (by have := dsz (B (⟨#[32, 111, 119, 101, 115, 32]⟩ : ByteArray)).length; omega)
    refine ⟨5, id, v, v2, Ev.step (f := fun k => (spec_l26Digits.f k (mk ((B t).drop (B (⟨#[32, 111, 119, 101, 115, 32]⟩ : ByteArray)).length))).bind fun bt => (spec_l26Begins.f bt.2 (⟨#[32, 102, 111, 114, 32]⟩ : ByteArray)).bind fun bt2 => (spec_l26Digits.f k bt2.1).bind fun bt3 => spec_ParseNote.j2 k s 0 (⟨#[]⟩ : ByteArray) 0 0 5 id bt.1 bt3.1) (fun k => ?_) (Ev.bind he (Ev.congr (f := fun k => (spec_l26Digits.f k (afterB R (⟨#[32, 102, 111, 114, 32]⟩ : ByteArray))).bind fun bt3 => spec_ParseNote.j2 k s 0 (⟨#[]⟩ : ByteArray) 0 0 5 id v bt3.1) (fun k => by simp only [begins_eq, Option.bind_some]; rfl) (Ev.bind he2 (j2_ev s 5 id v v2)))), ?_⟩
    · simp only [spec_ParseNote.j0, Bool.false_eq_true, if_false, ht, hid, begins_eq, Option.bind_some, if_neg p1, if_neg p2, if_neg p3, if_neg p4, if_pos p5, if_true]
      rw [if_pos (by omega), if_pos (by omega)]
    · intro kind' id' a' b' h1 h2
      obtain ⟨e, ei⟩ := hy2 kind' id' a' b' h1 h2
      obtain ⟨_, hk, ha, hb, _⟩ := note_facts h1
      have kk : kind' = 1 ∨ kind' = 2 ∨ kind' = 3 ∨ kind' = 4 ∨ kind' = 5 := by omega
      rw [e] at p5
      rcases kk with rfl | rfl | rfl | rfl | rfl
      · exact absurd (show false = true from p5) (by decide)
      · exact absurd (show false = true from p5) (by decide)
      · exact absurd (show false = true from p5) (by decide)
      · exact absurd (show false = true from p5) (by decide)
      · have w := hu a' (kfor ++ (B (dec b') ++ (if b' = 1 then kday else kdays))) ha (by rw [B_of_mk, e]; rfl) (fun b h => head32 _ b h)
        have w2 := hu2 b' (if b' = 1 then kday else kdays) hb (by rw [ha2 (B (dec b') ++ (if b' = 1 then kday else kdays)) (by rw [w.2, B_of_mk]; rfl), B_of_mk]) (by
          split
          · exact fun b h => head32 _ b h
          · exact fun b h => head32 _ b h)
        exact ⟨rfl, ei, w.1, w2.1⟩
  refine ⟨0, id, 0, 0, Ev.step (fun k => ?_) (j2_ev s 0 id 0 0), ?_⟩
  · simp only [spec_ParseNote.j0, Bool.false_eq_true, if_false, ht, hid, begins_eq, Option.bind_some, if_neg p1, if_neg p2, if_neg p3, if_neg p4, if_neg p5, if_true]
    rw [if_pos (by omega), if_pos (by omega)]
  · intro kind' id' a' b' h1 h2
    obtain ⟨e, ei⟩ := hy2 kind' id' a' b' h1 h2
    obtain ⟨_, hk, ha, hb, _⟩ := note_facts h1
    have kk : kind' = 1 ∨ kind' = 2 ∨ kind' = 3 ∨ kind' = 4 ∨ kind' = 5 := by omega
    rcases kk with rfl | rfl | rfl | rfl | rfl
    · exact absurd (by rw [e]; rfl) p1
    · exact absurd (by rw [e]; rfl) p2
    · exact absurd (by rw [e]; rfl) p3
    · exact absurd (by rw [e]; rfl) p4
    · exact absurd (by rw [e]; rfl) p5
theorem specParse_ev (s : ByteArray) (hs : s.size ≤ 1048576) : ∃ kind id a b, Ev (fun k => spec_ParseNote.f k s) (ans s kind id a b) ∧ Fits s kind id a b := by
  have no : (∀ kind' id' a' b', noteOk kind' id' a' b' = true → textN kind' id' a' b' ≠ s) → Ev (fun k => spec_ParseNote.f k s) zeroN → ∃ kind id a b, Ev (fun k => spec_ParseNote.f k s) (ans s kind id a b) ∧ Fits s kind id a b := by
    intro h he
    refine ⟨0, ⟨#[]⟩, 0, 0, ?_, fun k' i' a' b' h1 h2 => absurd h2 (h k' i' a' b' h1)⟩
    unfold ans
    rw [if_neg (fun hh => h _ _ _ _ hh.1 hh.2)]
    exact he
  have bad : ∀ x, Ev (fun k => spec_ParseNote.j0 k s x true 0 (⟨#[]⟩ : ByteArray) 0 0) zeroN := fun x => Ev.step (f := fun _ => some _) (fun k => by simp only [spec_ParseNote.j0, if_true]) (Ev.now _)
  have all : ∀ kind' id' a' b', noteOk kind' id' a' b' = true → textN kind' id' a' b' = s → B s = B (⟨#[67, 111, 110, 116, 97, 105, 110, 101, 114, 32]⟩ : ByteArray) ++ (B id' ++ restL kind' a' b') := by
    intro kind' id' a' b' h1 h2
    rw [← h2, text_B]; rfl
  by_cases p0 : (B (⟨#[67, 111, 110, 116, 97, 105, 110, 101, 114, 32]⟩ : ByteArray)).isPrefixOf (B s) = true
  · by_cases c : (mk ((B s).drop (B (⟨#[67, 111, 110, 116, 97, 105, 110, 101, 114, 32]⟩ : ByteArray)).length)).size < 8
    · refine no (fun k' i' a' b' h1 h2 => ?_) (Ev.congr (fun k => ?_) (bad (mk ((B s).drop (B (⟨#[67, 111, 110, 116, 97, 105, 110, 101, 114, 32]⟩ : ByteArray)).length))))
      · have e := all k' i' a' b' h1 h2
        have h8 : (B i').length = 8 := by rw [B_length]; exact (note_facts h1).1
        rw [mk_size, e, List.drop_left' rfl, List.length_append] at c
        omega
      · unfold spec_ParseNote.f
        simp only [begins_eq, Option.bind_some, if_pos p0, if_true, decide_eq_true (show ((mk ((B s).drop (B (⟨#[67, 111, 110, 116, 97, 105, 110, 101, 114, 32]⟩ : ByteArray)).length)).size : Int) < 8 by omega)]
    · obtain ⟨kind, id, a, b, he, hf⟩ := behind_ev s (mk ((B s).drop (B (⟨#[67, 111, 110, 116, 97, 105, 110, 101, 114, 32]⟩ : ByteArray)).length)) (by omega) (by rw [mk_size, List.length_drop, B_length]; omega) (fun k' i' a' b' h1 h2 => by rw [B_of_mk, all k' i' a' b' h1 h2, List.drop_left' rfl])
      refine ⟨kind, id, a, b, Ev.congr (fun k => ?_) he, hf⟩
      unfold spec_ParseNote.f
      simp only [begins_eq, Option.bind_some, if_pos p0, if_true, decide_eq_false (show ¬ ((mk ((B s).drop (B (⟨#[67, 111, 110, 116, 97, 105, 110, 101, 114, 32]⟩ : ByteArray)).length)).size : Int) < 8 by omega)]
  · refine no (fun k' i' a' b' h1 h2 => p0 ?_) (Ev.congr (fun k => ?_) (bad (⟨#[]⟩ : ByteArray)))
    · rw [all k' i' a' b' h1 h2]
      exact List.isPrefixOf_iff_prefix.2 (List.prefix_append _ _)
    · unfold spec_ParseNote.f
      simp only [begins_eq, Option.bind_some, if_neg p0, Bool.false_eq_true, if_false]
end Go.Proofs.YtghnljoaklmakaaDoor.X


namespace Go.Proofs.YtghnljoaklmakaaDoor.X
open Go.RowKit Go.Proofs.YtghnljoaklmakaaDoorW.PrintWords Go.Proofs.YtghnljoaklmakaaDoorL
set_option linter.unusedVariables false
set_option linter.unusedSimpArgs false
abbrev sepP : Nat → Bool := clo_53
/-- The words; cur: what has been read of the word that is open. -/
def wd : List UInt8 → List UInt8 → List (List UInt8)
  | [], cur => if cur = [] then [] else [cur]
  | b :: l, cur => if sepP b.toNat = true then (if cur = [] then wd l [] else cur :: wd l []) else wd l (cur ++ [b])
def opened (s : ByteArray) (st : Option Nat) (pos : Nat) : List UInt8 := match st with | none => [] | some a => B (s.extract a pos)
theorem cut_ne (s : ByteArray) (a pos : Nat) (h : a < pos) (hp : pos ≤ s.size) : B (s.extract a pos) ≠ [] := by
  intro e
  have := congrArg List.length e
  rw [B_extract, List.length_take, List.length_drop, B_length, List.length_nil] at this
  omega
theorem cut_grow (s : ByteArray) (a pos : Nat) (h : a ≤ pos) (hp : pos < (B s).length) : B (s.extract a (pos + 1)) = B (s.extract a pos) ++ [(B s)[pos]] := by
  rw [B_extract, B_extract, show pos + 1 - a = (pos - a) + 1 from by omega, List.take_succ_eq_append_getElem (by rw [List.length_drop]; omega), List.getElem_drop]
  congr 2
  congr 1
  omega
theorem wd_spans (s : ByteArray) (ha : ∀ b ∈ B s, b.toNat < 128) : ∀ (f pos : Nat) (st : Option Nat) (acc : List (Nat × Nat)), s.size ≤ pos + f → pos ≤ s.size → (∀ a, st = some a → a < pos) →
    (Lib.closeSpans s (Lib.spansFromP sepP s f pos st acc)).map (fun x => B (s.extract x.1 x.2)) = acc.map (fun x => B (s.extract x.1 x.2)) ++ wd ((B s).drop pos) (opened s st pos) := by
  have fin : ∀ (st : Option Nat) (acc : List (Nat × Nat)), (∀ a, st = some a → a < s.size) → (Lib.closeSpans s (acc, st)).map (fun x => B (s.extract x.1 x.2)) = acc.map (fun x => B (s.extract x.1 x.2)) ++ wd ((B s).drop s.size) (opened s st s.size) := by
    intro st acc hst
    rw [← B_length s, List.drop_length, B_length]
    cases st with
    | none => simp [Lib.closeSpans, opened, wd]
    | some a =>
      have := cut_ne s a s.size (hst a rfl) (Nat.le_refl _)
      simp [Lib.closeSpans, opened, wd, this]
  intro f
  induction f with
  | zero =>
    intro pos st acc h hp hst
    obtain rfl : pos = s.size := by omega
    exact fin st acc hst
  | succ f ih =>
    intro pos st acc h hp hst
    by_cases hlt : pos < s.size
    · have hl : pos < (B s).length := by rw [B_length]; exact hlt
      have hd : (B s).drop pos = (B s)[pos] :: (B s).drop (pos + 1) := List.drop_eq_getElem_cons hl
      have hdec : Utf8.decode s pos = ((B s)[pos].toNat, 1) := by
        rw [← Lib.decodeL_drop]
        show Lib.decodeL ((B s).drop pos) = _
        rw [hd]
        exact Lib.decodeL_ascii _ _ (ha _ (List.getElem_mem hl))
      rw [hd]
      simp only [Lib.spansFromP, if_pos hlt, hdec, wd]
      cases hs : sepP (B s)[pos].toNat with
      | true =>
        simp only [if_true]
        cases st with
        | none =>
          simp only [opened, if_true]
          exact ih (pos + 1) none acc (by omega) (by omega) (fun a h => by cases h)
        | some a =>
          have hn := cut_ne s a pos (hst a rfl) hp
          have := ih (pos + 1) none (acc ++ [(a, pos)]) (by omega) (by omega) (fun a h => by cases h)
          rw [this]
          simp [opened, hn]
      | false =>
        simp only [Bool.false_eq_true, if_false]
        cases st with
        | none =>
          have := ih (pos + 1) (some pos) acc (by omega) (by omega) (fun a h => by cases h; omega)
          rw [this]
          simp only [opened]
          rw [cut_grow s pos pos (Nat.le_refl _) hl]
          congr 3
          rw [B_extract]; simp
        | some a =>
          have := ih (pos + 1) (some a) acc (by omega) (by omega) (fun b h => by cases h; have := hst a rfl; omega)
          rw [this]
          simp only [opened]
          rw [cut_grow s a pos (Nat.le_of_lt (hst a rfl)) hl]
    · obtain rfl : pos = s.size := by omega
      rw [Lib.spansFromP_end _ _ _ _ _ _ hlt]
      exact fin st acc hst
theorem fields_wd (s : ByteArray) (ha : ∀ b ∈ B s, b.toNat < 128) : Lib.goFieldsP sepP s = (wd (B s) []).map mk := by
  have := wd_spans s ha s.size 0 none [] (by omega) (by omega) (fun a h => by cases h)
  have e : (Lib.goFieldsP sepP s).map B = wd (B s) [] := by
    unfold Lib.goFieldsP Lib.spansOfP
    rw [List.map_map]
    exact this
  rw [← e, List.map_map]
  conv => lhs; rw [← List.map_id (Lib.goFieldsP sepP s)]
  exact List.map_congr_left (fun x _ => (mk_of_B x).symm)
/-- A word that ends at a separator. -/
theorem wd_word (w l cur : List UInt8) (c : UInt8) (hw : ∀ b ∈ w, sepP b.toNat = false) (hc : sepP c.toNat = true) (hn : cur ++ w ≠ []) : wd (w ++ c :: l) cur = (cur ++ w) :: wd l [] := by
  induction w generalizing cur with
  | nil => simp only [List.nil_append, wd, hc, if_true]; rw [List.append_nil] at hn ⊢; rw [if_neg hn]
  | cons b w ih =>
    simp only [List.cons_append, wd, hw b (by simp), Bool.false_eq_true, if_false]
    rw [ih (cur ++ [b]) (fun x hx => hw x (by simp [hx])) (by simp)]
    simp
end Go.Proofs.YtghnljoaklmakaaDoor.X


namespace Go.Proofs.YtghnljoaklmakaaDoor.X
open Go.RowKit Go.Proofs.YtghnljoaklmakaaDoorW.PrintWords Go.Proofs.YtghnljoaklmakaaDoorL
set_option linter.unusedVariables false
set_option linter.unusedSimpArgs false
theorem cutPrefix_eq (T K : ByteArray) : strings_CutPrefix.f T K = some (if (B K).isPrefixOf (B T) = true then (mk ((B T).drop (B K).length), true) else (T, false)) := by
  have ht := B_length T
  have hk := B_length K
  have e1 : (T.extract 0 ((K.size : Int) : Int).toNat).toList = (B T).take (B K).length := by rw [B_toList, B_extract, hk]; simp
  have e2 : T.extract ((K.size : Int) : Int).toNat T.size = mk ((B T).drop (B K).length) := B_inj (by rw [B_extract, B_of_mk, hk, Int.toNat_natCast, List.take_of_length_le (by simp; omega)])
  unfold strings_CutPrefix.f stringslite_CutPrefix.f stringslite_HasPrefix.f
  by_cases c : (T.size : Int) ≥ (K.size : Int)
  · rw [if_pos c, if_pos (by omega), if_pos (by omega)]
    simp only [Option.bind_some, e1, e2, B_toList]
    by_cases hp : (B T).take (B K).length = B K
    · rw [if_pos (by simpa using hp), if_pos (by omega), if_pos (by omega), if_pos (List.isPrefixOf_iff_prefix.2 (List.prefix_iff_eq_take.2 hp.symm))]; rfl
    · rw [if_neg (by simpa using hp), if_neg (fun h => hp (List.prefix_iff_eq_take.1 (List.isPrefixOf_iff_prefix.1 h)).symm)]; rfl
  · rw [if_neg c]
    simp only [Option.bind_some, Bool.false_eq_true, if_false]
    rw [if_neg]
    intro hp
    have := (List.isPrefixOf_iff_prefix.1 hp).length_le
    omega
theorem rdB (l : List ByteArray) (n : Nat) (h : n < l.length) : rdOf ByteArray.empty l (n : Int) = l[n] := by simp [rdOf, List.getD_eq_getElem?_getD, List.getElem?_eq_getElem h]
def parseW (w : ByteArray) : Option Int := match impl_ParseInt.f w with | some (v, true) => some v | _ => none
def nums (t : ByteArray) : List Int := (Lib.goFieldsP sepP t).filterMap parseW ++ [0, 0]
theorem spans_len (s : ByteArray) : ∀ (f pos : Nat) (st : Option Nat) (acc : List (Nat × Nat)), (Lib.spansFromP sepP s f pos st acc).1.length ≤ acc.length + f := by
  intro f
  induction f with
  | zero => intro pos st acc; simp [Lib.spansFromP]
  | succ f ih =>
    intro pos st acc
    unfold Lib.spansFromP
    by_cases c : pos < s.size
    · rw [if_pos c]
      by_cases d : sepP (Utf8.decode s pos).1 = true
      · rw [if_pos d]
        cases st with
        | none => exact Nat.le_trans (ih _ _ _) (by omega)
        | some a => exact Nat.le_trans (ih _ _ _) (by simp; omega)
      · rw [if_neg d]
        cases st with
        | none => exact Nat.le_trans (ih _ _ _) (by omega)
        | some a => exact Nat.le_trans (ih _ _ _) (by omega)
    · rw [if_neg c]; simp
theorem fields_len (s : ByteArray) : (Lib.goFieldsP sepP s).length ≤ s.size + 1 := by
  unfold Lib.goFieldsP Lib.spansOfP Lib.closeSpans
  have := spans_len s s.size 0 none []
  rw [List.length_map]
  simp only [List.length_nil, Nat.zero_add] at this
  split
  · rw [List.length_append]; simp; omega
  · omega
theorem fields_piece (s w : ByteArray) (h : w ∈ Lib.goFieldsP sepP s) : w.size ≤ s.size := by
  unfold Lib.goFieldsP at h
  obtain ⟨x, _, rfl⟩ := List.mem_map.1 h
  rw [ByteArray.size_extract]; omega
theorem numbersIn_ev (t : ByteArray) (ht : t.size ≤ 1048576) : Ev (fun k => impl_numbersIn.f k t) (nums t) := by
  have hl := fields_len t
  have hp := fields_piece t
  have key : ∀ (d n : Nat), n + d = (Lib.goFieldsP sepP t).length → Ev (fun k => impl_numbersIn.l0 k (((Lib.goFieldsP sepP t).take n).filterMap parseW) (Lib.goFieldsP sepP t) ((Lib.goFieldsP sepP t).length : Int) (n : Int)) (nums t) := by
    intro d
    induction d with
    | zero =>
      intro n hn
      obtain rfl : n = (Lib.goFieldsP sepP t).length := by omega
      have hf : ((Lib.goFieldsP sepP t).filterMap parseW).length ≤ (Lib.goFieldsP sepP t).length := List.length_filterMap_le _ _
      refine Ev.step (f := fun _ => some _) (fun k => ?_) (Ev.now _)
      simp only [impl_numbersIn.l0]
      rw [if_neg (by omega), List.take_length]
      simp only [Option.bind_some]
      rw [if_pos (by simp; omega)]
      rfl
    | succ d ih =>
      intro n hn
      have hn2 : n < (Lib.goFieldsP sepP t).length := by omega
      have hf : (((Lib.goFieldsP sepP t).take n).filterMap parseW).length ≤ n := Nat.le_trans (List.length_filterMap_le _ _) (by rw [List.length_take]; omega)
      obtain ⟨v, o, hv⟩ := parseInt_total (Lib.goFieldsP sepP t)[n] (by have := hp _ (List.getElem_mem hn2); omega)
      have ih := ih (n + 1) (by omega)
      rw [List.take_succ_eq_append_getElem hn2, List.filterMap_append] at ih
      refine Ev.step (fun k => ?_) ih
      simp only [impl_numbersIn.l0]
      rw [if_pos (by omega), if_pos (by omega), if_pos (by omega), rdB _ n hn2, hv, wrap_succ (by omega)]
      simp only [Option.bind_some]
      cases o with
      | true =>
        have e : parseW (Lib.goFieldsP sepP t)[n] = some v := by unfold parseW; rw [hv]
        rw [if_pos rfl, if_pos (by omega)]
        simp [e]
      | false =>
        have e : parseW (Lib.goFieldsP sepP t)[n] = none := by unfold parseW; rw [hv]
        rw [if_neg (by decide)]
        simp [e]
  refine Ev.congr (fun k => ?_) (key (Lib.goFieldsP sepP t).length 0 (by omega))
  unfold impl_numbersIn.f strings_FieldsFunc.f
  rw [if_pos (by omega), Option.bind_some]
  rfl
theorem parseW_dd (u : Nat) (h : u ≤ 999999) : parseW (mk (Lib.decDigits u)) = some (u : Int) := by unfold parseW; rw [parseInt_dd u h]
theorem parseW_dec (a : Int) (h : 0 ≤ a ∧ a ≤ 999999) : parseW (mk (B (dec a))) = some a := by
  obtain ⟨u, rfl, hu, e⟩ := B_decI a h
  rw [e, parseW_dd u hu]
theorem no_words : ([[104, 97, 115], [97, 114, 114, 105, 118, 101, 100], [105, 110], [115, 116, 97, 99, 107], [119, 97, 115], [109, 111, 118, 101, 100], [102, 114, 111, 109], [116, 111], [105, 115], [114, 101, 97, 100, 121], [102, 111, 114], [112, 105, 99, 107, 117, 112], [115, 108, 111, 116], [111, 119, 101, 115], [100, 97, 121], [100, 97, 121, 115]] : List (List UInt8)).all (fun w => decide (parseW (mk w) = none)) = true := by decide +kernel
theorem no_word {w : List UInt8} (h : w ∈ ([[104, 97, 115], [97, 114, 114, 105, 118, 101, 100], [105, 110], [115, 116, 97, 99, 107], [119, 97, 115], [109, 111, 118, 101, 100], [102, 114, 111, 109], [116, 111], [105, 115], [114, 101, 97, 100, 121], [102, 111, 114], [112, 105, 99, 107, 117, 112], [115, 108, 111, 116], [111, 119, 101, 115], [100, 97, 121], [100, 97, 121, 115]] : List (List UInt8))) : parseW (mk w) = none := of_decide_eq_true (List.all_eq_true.1 no_words w h)
theorem dec_plain (a : Int) (h : 0 ≤ a ∧ a ≤ 999999) : ∀ b ∈ B (dec a), isD b := by
  obtain ⟨u, rfl, hu, e⟩ := B_decI a h
  rw [e]; exact dd_range u u (Nat.le_refl _)
theorem dec_ne (a : Int) (h : 0 ≤ a ∧ a ≤ 999999) : B (dec a) ≠ [] := by
  obtain ⟨u, rfl, hu, e⟩ := B_decI a h
  rw [e]; exact dd_ne u
theorem isD_sep (b : UInt8) (h : isD b) : sepP b.toNat = false := by
  unfold isD at h
  show (b.toNat == 32 || b.toNat == 46) = false
  simp; omega
theorem wd_dec (a : Int) (h : 0 ≤ a ∧ a ≤ 999999) (c : UInt8) (l : List UInt8) (hc : sepP c.toNat = true) : wd (B (dec a) ++ c :: l) [] = B (dec a) :: wd l [] :=
  wd_word (B (dec a)) l [] c (fun b hb => isD_sep b (dec_plain a h b hb)) hc (dec_ne a h)
/-- The numbers in what stands behind the Id. -/
theorem nums_rest (t : ByteArray) (kind : Int) (id : ByteArray) (a b : Int) (h : noteOk kind id a b = true) (hk3 : kind ≠ 3) (ht : B t = restL kind a b) : ∃ tl, nums t = a :: ((if kind = 2 ∨ kind = 5 then [b] else []) ++ (0 :: 0 :: tl)) := by
  obtain ⟨_, hk, ha, hb, _⟩ := note_facts h
  have da : ∀ x ∈ B (dec a), x.toNat < 128 := fun x hx => by have := dec_plain a ha x hx; unfold isD at this; omega
  have db : ∀ x ∈ B (dec b), x.toNat < 128 := fun x hx => by have := dec_plain b hb x hx; unfold isD at this; omega
  have q46 : ∀ x ∈ ([46] : List UInt8), x.toNat < 128 := by decide
  have app : ∀ {l m : List UInt8}, (∀ x ∈ l, x.toNat < 128) → (∀ x ∈ m, x.toNat < 128) → ∀ x ∈ l ++ m, x.toNat < 128 := fun h1 h2 x hx => (List.mem_append.1 hx).elim (h1 x) (h2 x)
  have fin : ∀ ws : List (List UInt8), (∀ x ∈ restL kind a b, x.toNat < 128) → wd (restL kind a b) [] = ws → nums t = (ws.map mk).filterMap parseW ++ [0, 0] := by
    intro ws h1 h2
    unfold nums
    rw [fields_wd t (by rw [ht]; exact h1), ht, h2]
  have kk : kind = 1 ∨ kind = 2 ∨ kind = 4 ∨ kind = 5 := by omega
  rcases kk with rfl | rfl | rfl | rfl
  · refine ⟨[], ?_⟩
    rw [fin [[104, 97, 115], [97, 114, 114, 105, 118, 101, 100], [105, 110], [115, 116, 97, 99, 107], B (dec a)] (app (by decide : ∀ x ∈ k1, x.toNat < 128) (app da q46)) (by
      show [104, 97, 115] :: [97, 114, 114, 105, 118, 101, 100] :: [105, 110] :: [115, 116, 97, 99, 107] :: wd (B (dec a) ++ 46 :: []) [] = _
      rw [wd_dec a ha 46 [] (by decide)]; rfl)]
    simp only [List.map_cons, List.map_nil, List.filterMap_cons, List.filterMap_nil, no_word (show [104, 97, 115] ∈ _ by decide), no_word (show [97, 114, 114, 105, 118, 101, 100] ∈ _ by decide), no_word (show [105, 110] ∈ _ by decide), no_word (show [115, 116, 97, 99, 107] ∈ _ by decide), parseW_dec a ha]
    rfl
  · refine ⟨[], ?_⟩
    rw [fin [[119, 97, 115], [109, 111, 118, 101, 100], [102, 114, 111, 109], [115, 116, 97, 99, 107], B (dec a), [116, 111], [115, 116, 97, 99, 107], B (dec b)] (app (by decide : ∀ x ∈ k2, x.toNat < 128) (app da (app (by decide : ∀ x ∈ kto, x.toNat < 128) (app db q46)))) (by
      show [119, 97, 115] :: [109, 111, 118, 101, 100] :: [102, 114, 111, 109] :: [115, 116, 97, 99, 107] :: wd (B (dec a) ++ 32 :: ([116, 111, 32, 115, 116, 97, 99, 107, 32] ++ (B (dec b) ++ [46]))) [] = _
      rw [wd_dec a ha 32 _ (by decide)]
      show [119, 97, 115] :: [109, 111, 118, 101, 100] :: [102, 114, 111, 109] :: [115, 116, 97, 99, 107] :: B (dec a) :: [116, 111] :: [115, 116, 97, 99, 107] :: wd (B (dec b) ++ 46 :: []) [] = _
      rw [wd_dec b hb 46 [] (by decide)]; rfl)]
    simp only [List.map_cons, List.map_nil, List.filterMap_cons, List.filterMap_nil, no_word (show [119, 97, 115] ∈ _ by decide), no_word (show [109, 111, 118, 101, 100] ∈ _ by decide), no_word (show [102, 114, 111, 109] ∈ _ by decide), no_word (show [115, 116, 97, 99, 107] ∈ _ by decide), no_word (show [116, 111] ∈ _ by decide), parseW_dec a ha, parseW_dec b hb]
    rfl
  · refine ⟨[], ?_⟩
    rw [fin [[105, 115], [114, 101, 97, 100, 121], [102, 111, 114], [112, 105, 99, 107, 117, 112], [105, 110], [115, 108, 111, 116], B (dec a)] (app (by decide : ∀ x ∈ k4, x.toNat < 128) (app da q46)) (by
      show [105, 115] :: [114, 101, 97, 100, 121] :: [102, 111, 114] :: [112, 105, 99, 107, 117, 112] :: [105, 110] :: [115, 108, 111, 116] :: wd (B (dec a) ++ 46 :: []) [] = _
      rw [wd_dec a ha 46 [] (by decide)]; rfl)]
    simp only [List.map_cons, List.map_nil, List.filterMap_cons, List.filterMap_nil, no_word (show [105, 115] ∈ _ by decide), no_word (show [114, 101, 97, 100, 121] ∈ _ by decide), no_word (show [102, 111, 114] ∈ _ by decide), no_word (show [112, 105, 99, 107, 117, 112] ∈ _ by decide), no_word (show [105, 110] ∈ _ by decide), no_word (show [115, 108, 111, 116] ∈ _ by decide), parseW_dec a ha]
    rfl
  · refine ⟨[], ?_⟩
    by_cases c : b = 1
    · rw [fin [[111, 119, 101, 115], B (dec a), [102, 111, 114], B (dec b), [100, 97, 121]] (by
        show ∀ x ∈ k5 ++ (B (dec a) ++ (kfor ++ (B (dec b) ++ (if b = 1 then kday else kdays)))), x.toNat < 128
        rw [if_pos c]
        exact app (by decide : ∀ x ∈ k5, x.toNat < 128) (app da (app (by decide : ∀ x ∈ kfor, x.toNat < 128) (app db (by decide : ∀ x ∈ kday, x.toNat < 128))))) (by
        show wd (k5 ++ (B (dec a) ++ (kfor ++ (B (dec b) ++ (if b = 1 then kday else kdays))))) [] = _
        rw [if_pos c]
        show [111, 119, 101, 115] :: wd (B (dec a) ++ 32 :: ([102, 111, 114, 32] ++ (B (dec b) ++ kday))) [] = _
        rw [wd_dec a ha 32 _ (by decide)]
        show [111, 119, 101, 115] :: B (dec a) :: [102, 111, 114] :: wd (B (dec b) ++ 32 :: [100, 97, 121, 46]) [] = _
        rw [wd_dec b hb 32 _ (by decide)]; rfl)]
      simp only [List.map_cons, List.map_nil, List.filterMap_cons, List.filterMap_nil, no_word (show [111, 119, 101, 115] ∈ _ by decide), no_word (show [102, 111, 114] ∈ _ by decide), no_word (show [100, 97, 121] ∈ _ by decide), parseW_dec a ha, parseW_dec b hb]
      rfl
    · rw [fin [[111, 119, 101, 115], B (dec a), [102, 111, 114], B (dec b), [100, 97, 121, 115]] (by
        show ∀ x ∈ k5 ++ (B (dec a) ++ (kfor ++ (B (dec b) ++ (if b = 1 then kday else kdays)))), x.toNat < 128
        rw [if_neg c]
        exact app (by decide : ∀ x ∈ k5, x.toNat < 128) (app da (app (by decide : ∀ x ∈ kfor, x.toNat < 128) (app db (by decide : ∀ x ∈ kdays, x.toNat < 128))))) (by
        show wd (k5 ++ (B (dec a) ++ (kfor ++ (B (dec b) ++ (if b = 1 then kday else kdays))))) [] = _
        rw [if_neg c]
        show [111, 119, 101, 115] :: wd (B (dec a) ++ 32 :: ([102, 111, 114, 32] ++ (B (dec b) ++ kdays))) [] = _
        rw [wd_dec a ha 32 _ (by decide)]
        show [111, 119, 101, 115] :: B (dec a) :: [102, 111, 114] :: wd (B (dec b) ++ 32 :: [100, 97, 121, 115, 46]) [] = _
        rw [wd_dec b hb 32 _ (by decide)]; rfl)]
      simp only [List.map_cons, List.map_nil, List.filterMap_cons, List.filterMap_nil, no_word (show [111, 119, 101, 115] ∈ _ by decide), no_word (show [102, 111, 114] ∈ _ by decide), no_word (show [100, 97, 121, 115] ∈ _ by decide), parseW_dec a ha, parseW_dec b hb]
      rfl
end Go.Proofs.YtghnljoaklmakaaDoor.X


namespace Go.Proofs.YtghnljoaklmakaaDoor.X
open Go.RowKit Go.Proofs.YtghnljoaklmakaaDoorW.PrintWords Go.Proofs.YtghnljoaklmakaaDoorL
set_option linter.unusedVariables false
set_option linter.unusedSimpArgs false
/-- Is it the note of the sentence s about id? -/
def isOne (s id : ByteArray) (c : Note) : Bool := noteOk c.f0 id c.f2 c.f3 && decide (textN c.f0 id c.f2 c.f3 = s)
def found (s id : ByteArray) (o : Option Note) : Int × ByteArray × Int × Int × Bool := match o with | some c => (c.f0, id, c.f2, c.f3, true) | none => zeroN
theorem search_ev (s x4 : ByteArray) (h8 : 8 ≤ x4.size) (C : List Note) (hC : C.length ≤ 1000) : Ev (fun k => impl_ParseNote.l1 k s x4 C (C.length : Int) 0) (found s (x4.extract 0 8) (C.find? (isOne s (x4.extract 0 8)))) := by
  have key : ∀ (d n : Nat), n + d = C.length → Ev (fun k => impl_ParseNote.l1 k s x4 C (C.length : Int) (n : Int)) (found s (x4.extract 0 8) ((C.drop n).find? (isOne s (x4.extract 0 8)))) := by
    intro d
    induction d with
    | zero =>
      intro n hn
      obtain rfl : n = C.length := by omega
      rw [List.drop_length]
      refine Ev.step (f := fun _ => some _) (fun k => ?_) (Ev.now _)
      simp only [impl_ParseNote.l1]
      rw [if_neg (by omega)]
      rfl
    | succ d ih =>
      intro n hn
      have hn2 : n < C.length := by omega
      have ih := ih (n + 1) (by omega)
      rw [List.drop_eq_getElem_cons hn2, List.find?_cons]
      refine Ev.step (f := fun k => (impl_IsValidNote.f k C[n].f0 (x4.extract 0 8) C[n].f2 C[n].f3).bind fun t => if t = true then ((impl_noteText.f k C[n].f0 (x4.extract 0 8) C[n].f2 C[n].f3).bind fun t2 => if t2.toList = s.toList then some (C[n].f0, x4.extract 0 8, C[n].f2, C[n].f3, true) else impl_ParseNote.l1 k s x4 C (C.length : Int) ((n + 1 : Nat) : Int)) else impl_ParseNote.l1 k s x4 C (C.length : Int) ((n + 1 : Nat) : Int)) (fun k => ?_) ?_
      · simp only [impl_ParseNote.l1]
        rw [if_pos (by omega), if_pos (by omega), if_pos (by omega), if_pos (by omega), if_pos (by omega), rdN C n hn2, wrap_succ (by omega)]
      · refine Ev.bind (implNote_ev _ _ _ _) ?_
        cases e : noteOk C[n].f0 (x4.extract 0 8) C[n].f2 C[n].f3 with
        | false =>
          have : isOne s (x4.extract 0 8) C[n] = false := by unfold isOne; rw [e]; rfl
          rw [this]
          simp only [Bool.false_eq_true, if_false]
          exact ih
        | true =>
          simp only [if_true]
          refine Ev.bind (implText_ev _ _ _ _ e) ?_
          by_cases c : textN C[n].f0 (x4.extract 0 8) C[n].f2 C[n].f3 = s
          · have : isOne s (x4.extract 0 8) C[n] = true := by unfold isOne; rw [e, decide_eq_true c]; rfl
            rw [this]
            exact Ev.congr (fun k => if_pos (by rw [c])) (Ev.now _)
          · have : isOne s (x4.extract 0 8) C[n] = false := by unfold isOne; rw [decide_eq_false c, Bool.and_false]
            rw [this]
            exact Ev.congr (fun k => if_neg (fun h => c (B_inj (by rw [B_toList, B_toList] at h; exact h)))) ih
  exact key C.length 0 (by omega)
def heldN (n : Nat) : List Note := (List.range n).map fun i => ⟨3, ⟨#[]⟩, ((i + 1 : Nat) : Int), 0⟩
def cands (n0 n1 : Int) : List Note := [⟨1, ⟨#[]⟩, n0, 0⟩, ⟨2, ⟨#[]⟩, n0, n1⟩, ⟨4, ⟨#[]⟩, n0, 0⟩, ⟨5, ⟨#[]⟩, n0, n1⟩]
theorem build_ev (s x4 : ByteArray) (h8 : 8 ≤ x4.size) (n0 n1 : Int) : Ev (fun k => impl_ParseNote.l0 k s x4 (cands n0 n1) 1) (found s (x4.extract 0 8) ((cands n0 n1 ++ heldN 15).find? (isOne s (x4.extract 0 8)))) := by
  have hl : ∀ n, (heldN n).length = n := fun n => by simp [heldN]
  have key : ∀ (d n : Nat), n + d = 15 → Ev (fun k => impl_ParseNote.l0 k s x4 (cands n0 n1 ++ heldN n) ((n + 1 : Nat) : Int)) (found s (x4.extract 0 8) ((cands n0 n1 ++ heldN 15).find? (isOne s (x4.extract 0 8)))) := by
    intro d
    induction d with
    | zero =>
      intro n hn
      obtain rfl : n = 15 := by omega
      refine Ev.step (fun k => ?_) (search_ev s x4 h8 (cands n0 n1 ++ heldN 15) (by rw [List.length_append, hl]; simp [cands]))
      simp only [impl_ParseNote.l0]
      rw [if_neg (by omega)]
    | succ d ih =>
      intro n hn
      have ih := ih (n + 1) (by omega)
      refine Ev.step (fun k => ?_) ih
      simp only [impl_ParseNote.l0]
      rw [if_pos (by omega), if_pos (by rw [List.length_append, hl]; simp [cands]; omega), wrap_succ (by omega), List.append_assoc]
      have : heldN (n + 1) = heldN n ++ [(⟨3, ⟨#[]⟩, ((n + 1 : Nat) : Int), 0⟩ : Note)] := by simp [heldN, List.range_succ]
      rw [this]
  exact key 15 0 rfl
theorem implParse_ev (s : ByteArray) (hs : s.size ≤ 1048576) : ∃ r, Ev (fun k => impl_ParseNote.f k s) r ∧ (r = zeroN ∨ ∃ kind id a b, noteOk kind id a b = true ∧ textN kind id a b = s ∧ r = (kind, id, a, b, true)) ∧
    ∀ kind id a b, noteOk kind id a b = true → textN kind id a b = s → r ≠ zeroN := by
  have bad : ∀ x, Ev (fun k => impl_ParseNote.j0 k s x true) zeroN := fun x => Ev.step (f := fun _ => some _) (fun k => by simp only [impl_ParseNote.j0, if_true]) (Ev.now _)
  have all : ∀ kind' id' a' b', noteOk kind' id' a' b' = true → textN kind' id' a' b' = s → B s = B (⟨#[67, 111, 110, 116, 97, 105, 110, 101, 114, 32]⟩ : ByteArray) ++ (B id' ++ restL kind' a' b') := by
    intro kind' id' a' b' h1 h2
    rw [← h2, text_B]; rfl
  by_cases p0 : (B (⟨#[67, 111, 110, 116, 97, 105, 110, 101, 114, 32]⟩ : ByteArray)).isPrefixOf (B s) = true
  · obtain ⟨R, hR⟩ : ∃ R, mk ((B s).drop (B (⟨#[67, 111, 110, 116, 97, 105, 110, 101, 114, 32]⟩ : ByteArray)).length) = R := ⟨_, rfl⟩
    have hRs : R.size ≤ 1048576 := by rw [← hR, mk_size, List.length_drop, B_length]; omega
    have allR : ∀ kind' id' a' b', noteOk kind' id' a' b' = true → textN kind' id' a' b' = s → B R = B id' ++ restL kind' a' b' := fun k' i' a' b' h1 h2 => by rw [← hR, B_of_mk, all k' i' a' b' h1 h2, List.drop_left' rfl]
    have hf : ∀ k, impl_ParseNote.f k s = impl_ParseNote.j0 k s R (decide ((R.size : Int) < 8)) := fun k => by
      unfold impl_ParseNote.f
      simp only [cutPrefix_eq, Option.bind_some, if_pos p0, if_true, hR]
    by_cases c : R.size < 8
    · refine ⟨zeroN, Ev.congr (fun k => by rw [hf, decide_eq_true (show (R.size : Int) < 8 by omega)]) (bad R), .inl rfl, fun k' i' a' b' h1 h2 => ?_⟩
      have e := congrArg List.length (allR k' i' a' b' h1 h2)
      have h8 : (B i').length = 8 := by rw [B_length]; exact (note_facts h1).1
      rw [List.length_append, B_length] at e
      omega
    · obtain ⟨t, ht⟩ : ∃ t, R.extract 8 R.size = t := ⟨_, rfl⟩
      have hts : t.size ≤ 1048576 := by rw [← ht, ByteArray.size_extract]; omega
      have hn2 : 2 ≤ (nums t).length := by unfold nums; rw [List.length_append]; simp
      obtain ⟨n0, n1, tl, hn⟩ : ∃ n0 n1 tl, nums t = n0 :: n1 :: tl := by
        cases e : nums t with
        | nil => rw [e] at hn2; simp at hn2
        | cons x l => cases l with
          | nil => rw [e] at hn2; simp at hn2
          | cons y l => exact ⟨x, y, l, rfl⟩
      have he : Ev (fun k => impl_ParseNote.f k s) (found s (R.extract 0 8) ((cands n0 n1 ++ heldN 15).find? (isOne s (R.extract 0 8)))) := by
        refine Ev.congr (fun k => by rw [hf, decide_eq_false (show ¬ (R.size : Int) < 8 by omega)]) ?_
        refine Ev.step (f := fun k => (impl_numbersIn.f k t).bind fun l => if 0 < (l.length : Int) then (if 1 < (l.length : Int) then impl_ParseNote.l0 k s R ([(⟨1, (⟨#[]⟩ : ByteArray), rd l 0, 0⟩ : Note), (⟨2, (⟨#[]⟩ : ByteArray), rd l 0, rd l 1⟩ : Note), (⟨4, (⟨#[]⟩ : ByteArray), rd l 0, 0⟩ : Note), (⟨5, (⟨#[]⟩ : ByteArray), rd l 0, rd l 1⟩ : Note)]) 1 else none) else none) (fun k => ?_) (Ev.bind (numbersIn_ev t hts) ?_)
        · simp only [impl_ParseNote.j0, Bool.false_eq_true, if_false, ht]
          rw [if_pos (by omega)]
        · refine Ev.congr (fun k => by rw [if_pos (by omega), if_pos (by omega)]) ?_
          rw [hn]
          exact build_ev s R (by omega) n0 n1
      refine ⟨_, he, ?_, fun k' i' a' b' h1 h2 hz => ?_⟩
      · cases hfd : (cands n0 n1 ++ heldN 15).find? (isOne s (R.extract 0 8)) with
        | none => exact .inl rfl
        | some c =>
          have hc := List.find?_some hfd
          unfold isOne at hc
          simp only [Bool.and_eq_true, decide_eq_true_eq] at hc
          exact .inr ⟨_, _, _, _, hc.1, hc.2, rfl⟩
      · have e := allR k' i' a' b' h1 h2
        have h8 : (B i').length = 8 := by rw [B_length]; exact (note_facts h1).1
        have ei : R.extract 0 8 = i' := B_inj (by rw [B_extract, e, List.drop_zero, List.take_left' h8])
        have et : B t = restL k' a' b' := by rw [← ht, B_extract, List.take_of_length_le (by rw [List.length_drop, B_length]; omega), e, List.drop_left' h8]
        obtain ⟨_, hk, ha, hb, h3⟩ := note_facts h1
        have hmem : (⟨k', ⟨#[]⟩, a', b'⟩ : Note) ∈ cands n0 n1 ++ heldN 15 := by
          by_cases k3 : k' = 3
          · subst k3
            have hb0 := note_b h1 (.inr (.inl rfl))
            subst hb0
            have h3 := h3 rfl
            refine List.mem_append_right _ (List.mem_map.2 ⟨(a' - 1).toNat, List.mem_range.2 (by omega), ?_⟩)
            congr 1
            omega
          · obtain ⟨tl', hn'⟩ := nums_rest t k' i' a' b' h1 k3 et
            rw [hn] at hn'
            refine List.mem_append_left _ ?_
            have kk : k' = 1 ∨ k' = 2 ∨ k' = 4 ∨ k' = 5 := by omega
            rcases kk with rfl | rfl | rfl | rfl
            · have hb0 := note_b h1 (.inl rfl); subst hb0
              injection hn' with e1 _; subst e1; simp [cands]
            · injection hn' with e1 e2
              have e3 : n1 = b' := by injection e2
              subst e1; subst e3; simp [cands]
            · have hb0 := note_b h1 (.inr (.inr rfl)); subst hb0
              injection hn' with e1 _; subst e1; simp [cands]
            · injection hn' with e1 e2
              have e3 : n1 = b' := by injection e2
              subst e1; subst e3; simp [cands]
        cases hfd : (cands n0 n1 ++ heldN 15).find? (isOne s (R.extract 0 8)) with
        | none =>
          have := List.find?_eq_none.1 hfd _ hmem
          refine this ?_
          unfold isOne
          simp only [ei, h1, h2, decide_true, Bool.and_self]
        | some c =>
          rw [hfd] at hz
          have := congrArg (fun z => z.2.2.2.2) hz
          simp [found, zeroN] at this
  · refine ⟨zeroN, Ev.congr (fun k => ?_) (bad s), .inl rfl, fun k' i' a' b' h1 h2 => absurd ?_ p0⟩
    · unfold impl_ParseNote.f
      simp only [cutPrefix_eq, Option.bind_some, if_neg p0, Bool.false_eq_true, if_false]
    · rw [all k' i' a' b' h1 h2]
      exact List.isPrefixOf_iff_prefix.2 (List.prefix_append _ _)
/-- One answer for both. -/
theorem parseBoth (s : ByteArray) (hs : s.size ≤ 1048576) : ∃ r, Ev (fun k => spec_ParseNote.f k s) r ∧ Ev (fun k => impl_ParseNote.f k s) r ∧ (r = zeroN ∨ ∃ kind id a b, noteOk kind id a b = true ∧ textN kind id a b = s ∧ r = (kind, id, a, b, true)) ∧ ∀ kind id a b, noteOk kind id a b = true → textN kind id a b = s → r = (kind, id, a, b, true) := by
  obtain ⟨kind, id, a, b, he, hfit⟩ := specParse_ev s hs
  obtain ⟨r, hi, hr, hne⟩ := implParse_ev s hs
  have hra : r = ans s kind id a b := by
    unfold ans
    rcases hr with rfl | ⟨k', i', a', b', h1, h2, rfl⟩
    · rw [if_neg]
      rintro ⟨h1, h2⟩
      exact hne _ _ _ _ h1 h2 rfl
    · obtain ⟨rfl, rfl, rfl, rfl⟩ := hfit k' i' a' b' h1 h2
      rw [if_pos ⟨h1, h2⟩]
  refine ⟨r, by rw [hra]; exact he, hi, hr, fun k' i' a' b' h1 h2 => ?_⟩
  obtain ⟨rfl, rfl, rfl, rfl⟩ := hfit k' i' a' b' h1 h2
  rw [hra]; unfold ans; rw [if_pos ⟨h1, h2⟩]
end Go.Proofs.YtghnljoaklmakaaDoor.X


namespace Go.Proofs.YtghnljoaklmakaaDoor.Pure
open Go.RowKit Go.Proofs.YtghnljoaklmakaaDoorW.PrintWords Go.Proofs.YtghnljoaklmakaaDoorL Go.Proofs.YtghnljoaklmakaaDoor.X
theorem FnExactParseNote : OFnExactParseNote.Pure := by
  intro s hs
  refine ev_rounds ?_
  unfold laws_FnExactParseNote.f
  by_cases c : (s.size : Int) > 1048576
  · simp only [if_pos c]; exact Ev.now _
  · simp only [if_neg c]
    obtain ⟨r, h1, h2, _⟩ := parseBoth s (by omega)
    refine Ev.bind h1 (Ev.bind h2 ?_)
    simp [laws_eqNote.f]
    exact Ev.now _
end Go.Proofs.YtghnljoaklmakaaDoor.Pure


namespace Go.Proofs.YtghnljoaklmakaaDoorHs
open Go
set_option linter.unusedVariables false
set_option linter.unusedSimpArgs false
theorem handed_shaped {H : Type} {enc : TypeId × Value → H} {a : Assume} {C : Checked} {os : Os} {f : FuncId} {fn : Func} {s : ChangeSpec} {conds : List PathCond} {apart fresh handsOn again : Bool} {X : World → Array Value → Prop}
    (hX : ∀ (w w' : World) (args : Array Value), w.heap = w'.heap → X w args → X w' args)
    (own : ownKnob C.prog.godebug = none) (started : os.Started) (noInit : C.prog.inits.idxOf? f = none) (hfn : C.prog.funcs[f]? = some fn)
    (witness : ∃ (w : World) (tape : Tape) (i : Input), w.os = os ∧ (w.forCall tape i).Shaped C.prog ∧ i.vars = [] ∧ Input.okWide C.prog (w.forCall tape i) .any w.heap.size f i ∧
      ((s.pre enc C.prog fn conds apart (w.forCall tape i).memory i.args ∧ X (w.forCall tape i).memory i.args) ∧ sizedMet enc C.prog fn (OpenSpec.ofChange s) apart (w.forCall tape i).memory i.args) ∧ a.holds C.prog (lone (Frame.enter C.prog f i.args .normal) [] (w.forCall tape i)))
    (contract : ∀ (W : World) (base : Nat) (args : Array Value) (ds gs : List (DataW H)) (before : List MemPlace),
      (∀ (j : Nat) t v, fn.params[j]? = some t → args[j]? = some v → Value.okWide C.prog W .any base t v) →
      DataW.Whole enc C.prog fn.params.toList s.vars apart W args.toList ds gs before →
      conds.all (PathCond.test C.prog ⟨fn.params.toList, ds, s.plain.varTypes C.prog, gs⟩) = true →
      (DataW.weightsEach C.prog (fn.params.toList ++ s.plain.varTypes C.prog) (ds ++ gs)).all (· ≤ reachBytes) = true → X W args →
      W.ShapedOpen C.prog →
      Calls C.prog f args W fun e W' => ∃ v, e = .returned v ∧ s.post enc C.prog fn apart fresh handsOn again W args v W') :
    ReturnsInHanded a C os f .any (fun w args => (s.pre enc C.prog fn conds apart w args ∧ X w args) ∧ sizedMet enc C.prog fn (OpenSpec.ofChange s) apart w args) (s.post enc C.prog fn apart fresh handsOn again) := by
  refine returnsInHanded_of_calls own started noInit witness ?_
  intro w tape i _ hsh _ hok hpre hholds
  obtain ⟨_, _, _, fn', hfn', _, _, _, _, hval⟩ := hok
  obtain rfl : fn' = fn := Option.some.inj (hfn'.symm.trans hfn)
  obtain ⟨⟨⟨ds, gs, before, hw, hc⟩, hx⟩, hz⟩ := hpre
  have hw' := DataW.Whole.of_heap (w' := w.forCall tape i) (by rfl) hw
  refine (contract (w.forCall tape i) w.heap.size i.args ds gs before hval hw' hc (hz.weights hw) (hX _ _ _ (by rfl) hx) hsh).mono fun e W' ⟨v, he, hp⟩ => ?_
  subst he
  exact ChangeSpec.post_blind hp
end Go.Proofs.YtghnljoaklmakaaDoorHs



namespace Go.Proofs.YtghnljoaklmakaaDoor.fnExactParseNote
open Go.ChangeShapes Go.WideShapes Go.ChangeAt Go.RowKit
open Go.ChangeMaps (open_string shut_string)
open Go.Joins
open Go.Proofs.YtghnljoaklmakaaDoorW.PrintWords Go.Proofs.YtghnljoaklmakaaDoorW.PrintLast Go.Proofs.YtghnljoaklmakaaDoorW.PrintMore
open Go.Proofs.YtghnljoaklmakaaDoorZ Go.Proofs.YtghnljoaklmakaaDoor.X Go.Proofs.YtghnljoaklmakaaDoor.X.OFnExactParseNote
set_option linter.unusedVariables false
set_option linter.unusedSimpArgs false
theorem own : ownKnob Tryd.prog.godebug = none := by kernel_rfl
theorem laidOut : laidOutB Tryd.prog = true := by kernel_rfl
open Go Go.Proofs.YtghnljoaklmakaaDoorG
def laidL : List (String × DataW Unit) := [("math/bits.deBruijn32tab", Rows.laid_math_bits_deBruijn32tab), ("math/bits.deBruijn64tab", Rows.laid_math_bits_deBruijn64tab), ("internal/strconv.uint64pow10", Rows.laid_internal_strconv_uint64pow10), ("strconv.ErrRange", Rows.laid_strconv_ErrRange), ("strconv.ErrSyntax", Rows.laid_strconv_ErrSyntax)]
theorem globOf {W : World} (h : laidMetH Tryd.prog laidL W) (hs : W.ShapedOpen Tryd.prog) : Glob W := by
  rw [MakeChecks.laidMetH_plain _ _ _ (by kernel_rfl)] at h
  exact Glob.of_tabs (ts := [105, 110, 118, 97, 108, 105, 100, 32, 115, 121, 110, 116, 97, 120]) (tr := [118, 97, 108, 117, 101, 32, 111, 117, 116, 32, 111, 102, 32, 114, 97, 110, 103, 101]) (h.filter fun x => x.1 == "internal/strconv.uint64pow10") (h.filter fun x => x.1 == "strconv.ErrSyntax") (h.filter fun x => x.1 == "strconv.ErrRange") (Go.Proofs.Tryd.laysM219.s1_3 W hs)
set_option maxRecDepth 100000 in
set_option maxHeartbeats 2000000 in
theorem lifted (os : Os) (started : os.Started) (H : Type) (enc : TypeId × Value → H) :
    ReturnsInHanded {} Tryd.checked os 5 .any (fun w args => (Rows.fnExactParseNoteSpec.pre enc Tryd.prog Tryd.f5 Rows.fnExactParseNoteRow.domain false w args ∧ laidMetH Tryd.prog laidL w) ∧ sizedMet enc Tryd.prog Tryd.f5 (OpenSpec.ofChange Rows.fnExactParseNoteSpec) false w args) (Rows.fnExactParseNoteSpec.post enc Tryd.prog Tryd.f5 false true false false) := by
  refine Go.Proofs.YtghnljoaklmakaaDoorHs.handed_shaped (C := Tryd.checked) (X := fun w _ => laidMetH Tryd.prog laidL w) (fun _ _ _ hh h => h.of_heap hh) own started (by kernel_rfl) Tryd.func5
    (ChangeSpec.witness_shaped (enc := enc) (C := Tryd.checked) (os := os) (X := fun w _ => laidMetH Tryd.prog laidL w) false (World.laidAll Tryd.prog os laidL) #[.string ByteArray.empty] 8 (World.laidAll_os _ _ _)
      (World.shaped_of_ZipB (by kernel_rfl) (by kernel_rfl)) (by kernel_rfl) (by kernel_rfl) (by kernel_rfl)
      (by rw [MakeChecks.laidMetH_plain _ _ _ (by kernel_rfl)]; exact laidMet_laidAll _ (by kernel_rfl) (by kernel_rfl))) ?_
  intro W base args ds gs before hval0 hW hcnd hsz0 hL hSh
  have hG := globOf hL hSh
  have hsz : (DataW.weightsEach Tryd.prog (Tryd.f5.params.toList ++ Rows.fnExactParseNoteSpec.plain.varTypes Tryd.prog) (ds ++ gs)).all (· ≤ reachBytes) = true := hsz0
  have hval : ∀ (j : Nat) t v, Tryd.f5.params[j]? = some t → args[j]? = some v → Value.okWide Tryd.prog W .any base t v := hval0
  have hW' := hW
  obtain ⟨p, q, hA0, hV, rfl, hfz, hnd⟩ := hW
  have hA : DataW.TrodAll enc Tryd.prog W 0 (fun _ => true) true Tryd.f5.params.toList args.toList ds p := hA0
  rw [Tryd.params5] at hA hval hsz
  obtain ⟨v0, vs0, d0, ds0, p0, q0, hargs, rfl, rfl, h0, r0⟩ := trodAll_cons hA
  obtain ⟨rfl, rfl, rfl⟩ := trodAll_nil r0
  obtain rfl : args = #[v0] := by cases args; simp_all
  obtain ⟨rfl, rfl⟩ := trodVars_none hV
  obtain ⟨a0, rfl, rfl, rfl, y0⟩ := open_string Tryd.underlying9 (hval 0 9 v0 rfl rfl) h0
  have w0 : a0.size ≤ 140737488351232 := by
    have z := sized_string hsz (j := 0) (t := 9) rfl rfl
    rw [Array.length_toList] at z
    exact z
  clear hA0 hval0 hsz0 hsz
  obtain ⟨k, h⟩ := Go.Proofs.YtghnljoaklmakaaDoor.Pure.FnExactParseNote a0 w0
  refine (laws_FnExactParseNote.calls k a0 true W hG h rfl).mono fun e W' ⟨he, bel0⟩ => ?_
  have bel : Below W.heap.size W W' := bel0
  subst he
  exact ⟨_, rfl, _, _, _, [], _, [], hW', trodAll_mk1 (shut_bool Tryd.underlying4 _), (trodAll_cons_mk (shut_string Tryd.underlying9 y0) trodAll_mk0), rfl, bel.frame _, fun h => by cases h⟩
theorem over : Rows.fnExactParseNoteRow.holds Tryd.pinned (OpenSpec.ofChange Rows.fnExactParseNoteSpec) :=
  OpenClaim.holds_of_wide 5 Tryd.f5 rfl rfl rfl rfl rfl rfl rfl ⟨rfl, rfl, rfl, rfl, rfl⟩ rfl rfl rfl rfl rfl (by kernel_rfl) Tryd.func5 (by kernel_rfl)
    (of_decide_eq_true (by kernel_rfl)) (by unfold Func.isWrapper; first | (rw [if_pos (by decide +kernel)]; kernel_rfl) | (rw [if_neg (by decide +kernel)]; exact ⟨rfl, rfl⟩))
    (fun os started H enc _ => lifted os started H enc)
theorem proved : Rows.FnExactParseNoteSaid := over
theorem carded : Rows.FnExactParseNoteCardSaid :=
  Claim7.holds_tied_plain_at .later [] [.data, .data, .data, .sentinel, .sentinel] true (true, "473a44862caf675654c5180208842fc01173ba62518eb296b907e25a22484391") true
    proved (fun _ h => by cases h) (by kernel_rfl) (fun _ h => by cases h) fnExactParseNote_row_tie rfl ⟨rfl, rfl⟩ (by kernel_rfl) rfl
    (fun f fn hf hfn => by
      obtain rfl : f = 5 := Option.some.inj ((show Tryd.prog.funcNamed "loop.example/g00906/laws.FnExactParseNote" = some 5 by kernel_rfl).symm.trans hf) |>.symm
      obtain rfl : fn = Tryd.f5 := (Option.some.inj (Tryd.func5.symm.trans hfn)).symm
      exact ⟨by kernel_rfl, fun j t ht => by
        rw [Tryd.params5] at ht
        have hm : t ∈ [9] := by simpa using Array.mem_of_getElem? ht
        have hall : ([9].all fun u => !Tryd.prog.wantsStandIn u) = true := by kernel_rfl
        exact (show Tryd.prog.wantsStandIn t = false by simpa using List.all_eq_true.1 hall t hm)⟩)
    (by kernel_rfl)
#print axioms carded
end Go.Proofs.YtghnljoaklmakaaDoor.fnExactParseNote
namespace Go.Proofs.YtghnljoaklmakaaDoor
/-- The card, under a short name, for the claim. -/
theorem fnExactParseNote_holds : Rows.FnExactParseNoteCardSaid := fnExactParseNote.carded
end Go.Proofs.YtghnljoaklmakaaDoor

