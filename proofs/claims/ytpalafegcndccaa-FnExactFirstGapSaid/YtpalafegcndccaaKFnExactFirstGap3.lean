/- The law FnExactFirstGap answers true for every input that the row lets in, and leaves its arguments as they were. Conditions: none beyond the row's own. -/
import Derived.Test.YtpalafegcndccaaRows
import Derived.WalkKit
import Derived.ProofKit
import Derived.OpenShut
import Derived.ShutString
import Derived.ChangeOld
import Derived.Below
import Derived.SizedLaws
import Derived.Lib.SmallJoins
import Derived.Test.YtpalafegcndccaaKFnExactFirstGap1
import Derived.Test.YtpalafegcndccaaKFnExactFirstGap2
/- FirstGap of the program and of the reference answer alike, whatever the notes. -/
namespace Go.Proofs.Ytpalafegcndccaa.X
open Go.RowKit Go.Proofs.YtpalafegcndccaaW.PrintWords Go.Proofs.YtpalafegcndccaaL
set_option linter.unusedVariables false
set_option linter.unusedSimpArgs false
def came (x : Note) (y : Note) : Bool := (y.f1.toList == x.f1.toList) && (y.f0 == 1)
theorem came_clo (x : Note) : clo_54 x.f0 x.f1 x.f2 x.f3 = came x := rfl
def gapAt (l : List Note) (n : Nat) (h : n < l.length) : Bool := l[n].f0 == 2 && !((l.take n).any (came l[n]) && last (l.take n) l[n].f1 == l[n].f2)
def gapFrom (l : List Note) : Nat → Nat → Int × Bool
  | 0, _ => (0, false)
  | d + 1, n => if h : n < l.length then (if gapAt l n h = true then ((n : Int), true) else gapFrom l d (n + 1)) else (0, false)
theorem any_take_succ (p : Note → Bool) (l : List Note) (m : Nat) (h : m < l.length) : (l.take (m + 1)).any p = ((l.take m).any p || p l[m]) := by
  rw [List.take_succ_eq_append_getElem h, List.any_append]; simp
theorem implGap_loop (l : List Note) (hl : l.length ≤ 1048576) : ∀ (d n : Nat), n + d = l.length → Ev (fun k => impl_FirstGap.l0 k l l (l.length : Int) n) (gapFrom l d n) := by
  intro d
  induction d with
  | zero => intro n hn; exact Ev.step (f := fun _ => some _) (fun k => by simp only [impl_FirstGap.l0]; rw [if_neg (by omega)]; rfl) (Ev.now _)
  | succ d ih =>
    intro n hn
    have hln : n < l.length := by omega
    have i1 := ih (n + 1) (by omega)
    have ht : (l.take n).length ≤ 1048576 := by rw [List.length_take]; omega
    simp only [gapFrom, dif_pos hln]
    by_cases c : l[n].f0 = 2
    · have hm : ∀ p, impl_Note_53.f (l.take n) p = some ((l.take n).any p) := fun p => rfl
      refine Ev.step (f := fun k => if (l.take n).any (came l[n]) = true then ((impl_lastStack.f k (l.take n) l[n].f1).bind fun t498 => (if t498 = l[n].f2 then (impl_FirstGap.l0 k l l (l.length : Int) ((n + 1 : Nat) : Int)) else (some ((n : Int), true)))) else (some ((n : Int), true))) (fun k => ?_) ?_
      · simp only [impl_FirstGap.l0]
        rw [if_pos (by omega), if_pos (by omega), if_pos (by omega), rdN l n hln, if_pos c, if_pos (by omega), Int.toNat_natCast, hm, wrap_succ (by omega), came_clo]
        rfl
      · by_cases a : (l.take n).any (came l[n]) = true
        · simp only [if_pos a]
          refine Ev.bind (implLast_ev _ ht _) ?_
          by_cases b : last (l.take n) l[n].f1 = l[n].f2
          · have hg : gapAt l n hln = false := by unfold gapAt; rw [a, b]; simp
            simp only [if_pos b, hg, Bool.false_eq_true, if_false]; exact i1
          · have hg : gapAt l n hln = true := by unfold gapAt; rw [a, c]; simp [b]
            simp only [if_neg b, hg, if_true]; exact Ev.now _
        · have hg : gapAt l n hln = true := by unfold gapAt; rw [Bool.eq_false_iff.2 a, c]; simp
          simp only [if_neg a, hg, if_true]; exact Ev.now _
    · have hg : gapAt l n hln = false := by unfold gapAt; simp [c]
      simp only [hg, Bool.false_eq_true, if_false]
      refine Ev.step (fun k => ?_) i1
      simp only [impl_FirstGap.l0]
      rw [if_pos (by omega), if_pos (by omega), if_pos (by omega), rdN l n hln, if_neg c, wrap_succ (by omega)]
theorem specGap_inner (l : List Note) (hl : l.length ≤ 1048576) (n : Nat) (hln : n < l.length) (r : Int × Bool)
    (fin : Ev (fun k => if (l.take n).any (came l[n]) = true then ((spec_l26Stack.f k l n l[n].f1).bind fun t457 => (if t457 = l[n].f2 then (spec_FirstGap.l0 k l ((n + 1 : Nat) : Int)) else (some ((n : Int), true)))) else (some ((n : Int), true))) r) :
    ∀ (d m : Nat), m + d = n → Ev (fun k => spec_FirstGap.l1 k l n ((l.take m).any (came l[n])) m) r := by
  intro d
  induction d with
  | zero =>
    intro m hm
    obtain rfl : m = n := by omega
    refine Ev.step (fun k => ?_) fin
    simp only [spec_FirstGap.l1]
    rw [if_neg (by omega)]
    by_cases a : (l.take m).any (came l[m]) = true
    · rw [if_pos a, if_pos a, if_pos (by omega), if_pos (by omega), rdN l m hln, wrap_succ (by omega)]
    · rw [if_neg a, if_neg a]
  | succ d ih =>
    intro m hm
    have hml : m < l.length := by omega
    have i1 := ih (m + 1) (by omega)
    rw [any_take_succ _ _ _ hml] at i1
    refine Ev.step (fun k => ?_) i1
    simp only [spec_FirstGap.l1]
    rw [if_pos (by omega)]
    cases h : (l.take m).any (came l[n]) with
    | true =>
      simp only [if_true, Bool.true_or]
      rw [wrap_succ (by omega)]
    | false =>
      simp only [Bool.false_eq_true, if_false, Bool.false_or]
      rw [if_pos (by omega), if_pos (by omega), if_pos (by omega), if_pos (by omega), rdN l m hml, rdN l n hln, wrap_succ (by omega)]
      unfold came
      by_cases c : l[m].f1.toList = l[n].f1.toList
      · rw [if_pos c, show (l[m].f1.toList == l[n].f1.toList) = true from beq_iff_eq.2 c, Bool.true_and]
      · rw [if_neg c, show (l[m].f1.toList == l[n].f1.toList) = false from beq_eq_false_iff_ne.2 c, Bool.false_and]
theorem specGap_loop (l : List Note) (hl : l.length ≤ 1048576) : ∀ (d n : Nat), n + d = l.length → Ev (fun k => spec_FirstGap.l0 k l n) (gapFrom l d n) := by
  intro d
  induction d with
  | zero => intro n hn; exact Ev.step (f := fun _ => some _) (fun k => by simp only [spec_FirstGap.l0]; rw [if_neg (by omega)]; rfl) (Ev.now _)
  | succ d ih =>
    intro n hn
    have hln : n < l.length := by omega
    have i1 := ih (n + 1) (by omega)
    simp only [gapFrom, dif_pos hln]
    by_cases c : l[n].f0 = 2
    · refine Ev.step (f := fun k => spec_FirstGap.l1 k l n ((l.take 0).any (came l[n])) ((0 : Nat) : Int)) (fun k => ?_) (specGap_inner l hl n hln _ ?_ n 0 (by omega))
      · simp only [spec_FirstGap.l0]
        rw [if_pos (by omega), if_pos (by omega), rdN l n hln, if_pos c]
        rfl
      · by_cases a : (l.take n).any (came l[n]) = true
        · simp only [if_pos a]
          refine Ev.bind (specLast_ev l hl n (by omega) _) ?_
          by_cases b : last (l.take n) l[n].f1 = l[n].f2
          · have hg : gapAt l n hln = false := by unfold gapAt; rw [a, b]; simp
            simp only [if_pos b, hg, Bool.false_eq_true, if_false]; exact i1
          · have hg : gapAt l n hln = true := by unfold gapAt; rw [a, c]; simp [b]
            simp only [if_neg b, hg, if_true]; exact Ev.now _
        · have hg : gapAt l n hln = true := by unfold gapAt; rw [Bool.eq_false_iff.2 a, c]; simp
          simp only [if_neg a, hg, if_true]; exact Ev.now _
    · have hg : gapAt l n hln = false := by unfold gapAt; simp [c]
      simp only [hg, Bool.false_eq_true, if_false]
      refine Ev.step (fun k => ?_) i1
      simp only [spec_FirstGap.l0]
      rw [if_pos (by omega), if_pos (by omega), rdN l n hln, if_neg c, wrap_succ (by omega)]
def gap (l : List Note) : Int × Bool := if report l = true then gapFrom l l.length 0 else (0, false)
theorem specGap_ev (l : List Note) (hl : l.length ≤ 1048576) : Ev (fun k => spec_FirstGap.f k l) (gap l) := by
  unfold spec_FirstGap.f gap
  refine Ev.bind (specReport_ev l hl) ?_
  by_cases h : report l = true
  · simp only [if_pos h]; exact specGap_loop l hl l.length 0 (by omega)
  · simp only [if_neg h]; exact Ev.now _
theorem implGap_ev (l : List Note) (hl : l.length ≤ 1048576) : Ev (fun k => impl_FirstGap.f k l) (gap l) := by
  unfold impl_FirstGap.f gap
  simp only [implReport, Option.bind_some]
  by_cases h : report l = true
  · simp only [if_pos h]; exact implGap_loop l hl l.length 0 (by omega)
  · simp only [if_neg h]; exact Ev.now _
end Go.Proofs.Ytpalafegcndccaa.X
namespace Go.Proofs.Ytpalafegcndccaa.Pure
open Go.RowKit Go.Proofs.YtpalafegcndccaaW.PrintWords Go.Proofs.YtpalafegcndccaaL Go.Proofs.Ytpalafegcndccaa.X
theorem FnExactFirstGap : OFnExactFirstGap.Pure := by
  intro l hl
  refine ev_rounds ?_
  unfold laws_FnExactFirstGap.f
  obtain ⟨r, hr, hb⟩ := szNoteS_ev l hl.2.1 (fun x hx => (hl.2.2 x hx).2.1)
  refine Ev.bind hr ?_
  by_cases c : r < 0
  · simp only [if_pos c]; exact Ev.now _
  · have hb := hb c
    simp only [if_neg c]
    have hm : (l.map convN).length ≤ 1048576 := by simpa using hb
    refine Ev.bind (toNoteS_ev l hb) ?_
    refine Ev.bind (specGap_ev _ hm) ?_
    refine Ev.bind (toNoteS_ev l hb) ?_
    refine Ev.bind (implGap_ev _ hm) ?_
    simp only [bne_self_eq_false, if_true]
    refine Ev.step (f := fun k => (laws_toNoteS.f k l).bind fun t => (laws_eqNoteS.f k (l.map convN) t).bind fun t2 => if t2 = true then some true else some false) (fun k => ?_) (tailN_ev l hb)
    simp only [laws_FnExactFirstGap.j0]
    rw [if_neg (by decide)]
end Go.Proofs.Ytpalafegcndccaa.Pure


namespace Go.Proofs.Ytpalafegcndccaa.fnExactFirstGap
open Go.ChangeShapes Go.WideShapes Go.ChangeAt Go.RowKit
open Go.ChangeMaps (open_string shut_string)
open Go.Joins
open Go.Proofs.YtpalafegcndccaaW.PrintWords Go.Proofs.YtpalafegcndccaaW.PrintLast Go.Proofs.YtpalafegcndccaaW.PrintMore
open Go.Proofs.YtpalafegcndccaaZ Go.Proofs.Ytpalafegcndccaa.X Go.Proofs.Ytpalafegcndccaa.X.OFnExactFirstGap
set_option linter.unusedVariables false
set_option linter.unusedSimpArgs false
theorem own : ownKnob Try.prog.godebug = none := by kernel_rfl
theorem laidOut : laidOutB Try.prog = true := by kernel_rfl
set_option maxRecDepth 100000 in
set_option maxHeartbeats 2000000 in
theorem lifted (os : Os) (started : os.Started) (H : Type) (enc : TypeId × Value → H) :
    ReturnsInHanded {} Try.checked os 7 .any (Rows.fnExactFirstGapSpec.pre6 enc Try.prog Try.f7 Rows.fnExactFirstGapRow.domain false) (Rows.fnExactFirstGapSpec.post enc Try.prog Try.f7 false true false false) := by
  refine returnsInHanded_of_change_sized (C := Try.checked) own started (by kernel_rfl) Try.func7
    (ChangeSpec.witness6 (enc := enc) (C := Try.checked) false ⟨#[], #[.slice none 0 0], []⟩ 8 (by kernel_rfl) (by kernel_rfl) (by kernel_rfl) (by kernel_rfl)) ?_
  intro W base args ds gs before hval0 hW hcnd hsz0 _
  have hsz : (DataW.weightsEach Try.prog (Try.f7.params.toList ++ Rows.fnExactFirstGapSpec.plain.varTypes Try.prog) (ds ++ gs)).all (· ≤ reachBytes) = true := hsz0
  have hval : ∀ (j : Nat) t v, Try.f7.params[j]? = some t → args[j]? = some v → Value.okWide Try.prog W .any base t v := hval0
  have hW' := hW
  obtain ⟨p, q, hA0, hV, rfl, hfz, hnd⟩ := hW
  have hA : DataW.TrodAll enc Try.prog W 0 (fun _ => true) true Try.f7.params.toList args.toList ds p := hA0
  rw [Try.params7] at hA hval hsz
  obtain ⟨v0, vs0, d0, ds0, p0, q0, hargs, rfl, rfl, h0, r0⟩ := trodAll_cons hA
  obtain ⟨rfl, rfl, rfl⟩ := trodAll_nil r0
  obtain rfl : args = #[v0] := by cases args; simp_all
  obtain ⟨rfl, rfl⟩ := trodVars_none hV
  obtain ⟨a0, len0, cap0, rfl⟩ := okWide_slice Try.underlying51 (hval 0 51 v0 rfl rfl)
  have k0 := h0
  have lt0 : ∀ x ∈ p0, x.block < W.heap.size := by obtain ⟨m, hm⟩ := k0; exact DataW.trod_lt m _ _ _ hm
  obtain ⟨l0, rfl, hc0, hr0, w0⟩ : ∃ l : List (S77), len0 = l.length ∧ l.length ≤ cap0 ∧ Kd.C k77 W a0 l.length l ∧ (l.length * 40 ≤ 140737488351232 ∧ l.length ≤ 9223372036854775807 ∧ ∀ y1 ∈ l, fitsT77 y1) := by
    obtain ⟨fuel, hf⟩ := h0
    obtain ⟨l, ⟨A_, c_, e_, hl_, hC_⟩, hfit_⟩ := (opens_slice z77 Try.underlying51 (by kernel_rfl) opensT77 (by kernel_rfl)) hf (weights_param hsz (j := 0) rfl rfl)
    simp [Value.cells] at e_
    obtain ⟨rfl, rfl, rfl⟩ := e_
    exact ⟨l, rfl, hl_, hC_, hfit_⟩
  clear hA0 hval0 hsz0 hsz
  obtain ⟨k, h⟩ := Go.Proofs.Ytpalafegcndccaa.Pure.FnExactFirstGap l0 w0
  refine (laws_FnExactFirstGap.calls k a0 cap0 l0 true W hr0 hc0 h).mono fun e W' ⟨he, bel0⟩ => ?_
  have bel : Below W.heap.size W W' := bel0
  subst he
  exact ⟨_, rfl, _, _, _, [], _, [], hW', trodAll_mk1 (shut_bool Try.underlying4 _), (trodAll_cons_mk (Below.trod laidOut (by kernel_rfl) (of_decide_eq_true (by kernel_rfl)) k0 bel lt0) trodAll_mk0), rfl, bel.frame _, fun h => by cases h⟩
theorem over : Rows.fnExactFirstGapRow.holds Try.pinned (OpenSpec.ofChange Rows.fnExactFirstGapSpec) :=
  OpenClaim.holds_of_wide 7 Try.f7 rfl rfl rfl rfl rfl rfl rfl ⟨rfl, rfl, rfl, rfl, rfl⟩ rfl rfl rfl rfl rfl (by kernel_rfl) Try.func7 (by kernel_rfl)
    (of_decide_eq_true (by kernel_rfl)) (by unfold Func.isWrapper; first | (rw [if_pos (by decide +kernel)]; kernel_rfl) | (rw [if_neg (by decide +kernel)]; exact ⟨rfl, rfl⟩))
    (fun os started H enc _ => lifted os started H enc)
theorem proved : Rows.FnExactFirstGapSaid := over
#print axioms proved
end Go.Proofs.Ytpalafegcndccaa.fnExactFirstGap
namespace Go.Proofs.Ytpalafegcndccaa
/-- The row, under a short name, for the claim. -/
theorem fnExactFirstGap_holds : Rows.FnExactFirstGapSaid := fnExactFirstGap.proved
end Go.Proofs.Ytpalafegcndccaa

