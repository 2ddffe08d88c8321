/- The law FnExactRunOrders answers true for every input that the row lets in, and leaves its arguments as they were. Conditions: none beyond the row's own. -/
import Derived.Test.YtnggfglmjdiaaaaRows
import Derived.WalkKit
import Derived.ProofKit
import Derived.OpenShut
import Derived.ShutString
import Derived.ChangeOld
import Derived.Below
import Derived.SizedLaws
import Derived.Lib.SmallJoins
import Derived.Test.YtnggfglmjdiaaaaKFnExactRunOrders1
import Derived.Test.YtnggfglmjdiaaaaKFnExactRunOrders4
import Derived.Test.YtnggfglmjdiaaaaKFnExactRunOrders5
set_option linter.unusedVariables false
set_option linter.unusedSimpArgs false
namespace Go.Proofs.Ytnggfglmjdiaaaa.X
open Go.RowKit Go.Proofs.YtnggfglmjdiaaaaW.PrintWords Go.Proofs.YtnggfglmjdiaaaaL Go.Proofs.YtnggfglmjdiaaaaOwn
/-- At most six rows of at most m numbers. -/
def sm (m : Nat) (l : Rows) : Prop := l.length ≤ 6 ∧ ∀ s ∈ l, s.length ≤ m
theorem sm_ok {m : Nat} {l : Rows} (h : sm m l) (hm : m ≤ 1048576) : rowsOk l := ⟨by have := h.1; omega, fun s hs => by have := h.2 s hs; omega⟩
theorem sm_up {m n : Nat} {l : Rows} (h : sm m l) (hm : m ≤ n) : sm n l := ⟨h.1, fun s hs => by have := h.2 s hs; omega⟩
theorem sm_rd {m : Nat} {l : Rows} (h : sm m l) (i : Int) : (rd_L1 l i).length ≤ m := by
 unfold rd_L1
 rw [List.getD_eq_getElem?_getD]
 cases e : l[i.toNat]? with
 | none => simp
 | some s => exact h.2 s (List.mem_of_getElem? e)
theorem sm_set {m : Nat} {l : Rows} (h : sm m l) (i : Nat) {s : List Int} (hs : s.length ≤ m) : sm m (l.set i s) := by
 refine ⟨by rw [List.length_set]; exact h.1, fun x hx => ?_⟩
 rcases List.mem_or_eq_of_mem_set hx with hx | rfl
 ·exact h.2 x hx
 ·exact hs
theorem sm_cut {m : Nat} {l : Rows} (h : sm m l) (i : Int) : sm m (cutRow l i) := sm_set h _ (by rw [List.length_take]; have := sm_rd h i; omega)
theorem sm_put {m : Nat} {l : Rows} (h : sm m l) (i b : Int) : sm (m + 1) (putRow l i b) := sm_set (sm_up h (by omega)) _ (by rw [List.length_append, List.length_singleton]; have := sm_rd h i; omega)
theorem term_sm {Y : Rows} {h : Int} {B : Rows} (ok : termOk Y h B = true) : sm 4 Y ∧ sm 4 B := by
 obtain ⟨h1, h2, _, h4, h5, _⟩ := term_small Y h B ok
 exact ⟨⟨h1, h4⟩, ⟨by omega, h5⟩⟩
theorem term_nodup {Y : Rows} {h : Int} {B : Rows} (ok : termOk Y h B = true) : Y.flatten.Nodup ∧ B.flatten.Nodup ∧ (∀ s ∈ Y, ∀ n ∈ s, 1 ≤ n ∧ n ≤ 99) ∧ (∀ s ∈ B, ∀ n ∈ s, 1 ≤ n ∧ n ≤ 99) ∧ ∀ s ∈ B, ∀ n ∈ s, (findFrom 0 Y n).1 < 0 := by
 unfold termOk yardOk bayOk at ok
 simp only [Bool.and_eq_true, decide_eq_true_eq] at ok
 obtain ⟨⟨⟨_, a3⟩, ⟨_, b4⟩⟩, c⟩ := ok
 have h1 := (goodRows_iff 4 Y [] List.nodup_nil).1 a3
 have h2 := (goodRows_iff h B [] List.nodup_nil).1 b4
 refine ⟨by simpa using h1.2.2, by simpa using h2.2.2, h1.2.1, h2.2.1, fun s hs n hn => ?_⟩
 have := List.all_eq_true.1 c s hs
 exact of_decide_eq_true (List.all_eq_true.1 this n hn)
theorem ans_ev {Y : Rows} {h : Int} {B : Rows} (a : Int) (hY : sm 5 Y) (hB : sm 5 B) : Ev (fun k => (impl_IsValidTerminal.f k Y h B).bind fun v => moAnswer v Y h B a) (finI Y h B a) := by
 refine Ev.bind (implTerm_ev Y h B (sm_ok hY (by omega)) (sm_ok hB (by omega))) ?_
 unfold finI moAnswer
 by_cases c : termOk Y h B = true
 ·simp only [if_pos c]; exact Ev.now _
 ·simp only [if_neg c]; exact Ev.now _
theorem implMk_ev (Y : Rows) (h : Int) (B : Rows) (K b d : Int) (hY : sm 4 Y) (hB : sm 4 B) : Ev (fun k => impl_makeOrder.f k Y h B K b d) (makeI Y h B K b d) := by
 unfold impl_makeOrder.f
 refine Ev.bind (implOwnTerm_ev Y h B (sm_ok hY (by omega)) (sm_ok hB (by omega))) ?_
 unfold makeI
 dsimp only
 have f1 := sm_rd (sm_cut hY (idxRow (topIs b) Y)) d
 have f2 := sm_rd hB d
 have f3 := sm_rd hY d
 by_cases k1 : K = 1
 ·simp only [if_pos k1]
  by_cases c : idxRow (topIs b) Y < 0
  ·simp only [if_pos c]; exact Ev.now _
  ·simp only [if_neg c]
   by_cases c2 : inRows Y d = true
   ·simp only [if_pos c2]
    by_cases c3 : d = idxRow (topIs b) Y
    ·simp only [if_pos c3]; exact Ev.now _
    ·simp only [if_neg c3]
     refine ev_if (by omega) (ans_ev _ (sm_put (sm_cut hY _) _ _) (sm_up hB (by omega)))
   ·simp only [if_neg c2]; exact Ev.now _
 ·simp only [if_neg k1]
  by_cases k2 : K = 2
  ·simp only [if_pos k2]
   by_cases c : idxRow (topIs b) Y < 0
   ·simp only [if_pos c]; exact Ev.now _
   ·simp only [if_neg c]
    by_cases c2 : inRows B d = true
    ·simp only [if_pos c2]
     refine ev_if (by omega) (ans_ev _ (sm_up (sm_cut hY _) (by omega)) (sm_put hB _ _))
    ·simp only [if_neg c2]; exact Ev.now _
  ·simp only [if_neg k2]
   by_cases k3 : K = 3
   ·simp only [if_pos k3]
    by_cases c : idxRow (topIs b) B < 0
    ·simp only [if_pos c]; exact Ev.now _
    ·simp only [if_neg c]
     by_cases c2 : inRows Y d = true
     ·simp only [if_pos c2]
      refine ev_if (by omega) (ans_ev _ (sm_put hY _ _) (sm_up (sm_cut hB _) (by omega)))
     ·simp only [if_neg c2]; exact Ev.now _
   ·simp only [if_neg k3]; exact Ev.now _
theorem inRows_cut (l : Rows) (i d : Int) : inRows (cutRow l i) d = inRows l d := by unfold inRows; rw [len_cut]
theorem lmFin_ev {Y : Rows} {h : Int} {B : Rows} (hY : sm 5 Y) (hB : sm 5 B) : Ev (fun k => (Ad.f k Y h B).bind fun v => Fq v Y h B) (finS Y h B) := by
 refine Ev.bind (specTerm_ev Y h B (sm_ok hY (by omega)) (sm_ok hB (by omega))) ?_
 unfold finS Fq
 by_cases c : termOk Y h B = true
 ·simp only [if_pos c]; exact Ev.now _
 ·simp only [if_neg c]; exact Ev.now _
theorem lmPutY_ev (Y : Rows) (h : Int) (B : Rows) (b d : Int) (hY : sm 4 Y) (hB : sm 4 B) : Ev (fun k => lmPutY k Y h B b d) (if inRows Y d = true then finS (putRow Y d b) h B else ([], 0, [], false)) := by
 unfold lmPutY
 have f := sm_rd hY d
 by_cases c : inRows Y d = true
 ·simp only [if_pos c]
  have e : Dh.f (rd_L1 Y d) = some (rd_L1 Y d) := l1Own_eq _ (by omega)
  simp only [e, Option.isSome_some, if_true, Option.bind_some]
  exact ev_if (by omega) (lmFin_ev (Y := putRow Y d b) (sm_put hY _ _) (sm_up hB (by omega)))
 ·simp only [if_neg c]; exact Ev.now _
theorem lmPutB_ev (Y : Rows) (h : Int) (B : Rows) (b d : Int) (hY : sm 4 Y) (hB : sm 4 B) : Ev (fun k => lmPutB k Y h B b d) (if inRows B d = true then finS Y h (putRow B d b) else ([], 0, [], false)) := by
 unfold lmPutB
 have f := sm_rd hB d
 by_cases c : inRows B d = true
 ·simp only [if_pos c]
  have e : Dh.f (rd_L1 B d) = some (rd_L1 B d) := l1Own_eq _ (by omega)
  simp only [e, Option.isSome_some, if_true, Option.bind_some]
  exact ev_if (by omega) (lmFin_ev (B := putRow B d b) (sm_up hY (by omega)) (sm_put hB _ _))
 ·simp only [if_neg c]; exact Ev.now _
theorem lmCut_eq (F : Rows) (b : Int) (ok : Bool) (go : Rows → Option (Rows × Int × Rows × Bool)) :
  lmCut F F (findFrom 0 F b).1 (findFrom 0 F b).2 ok go = if Ez F (findFrom 0 F b) then (if ok = true then go (cutRow F (findFrom 0 F b).1) else some ([], 0, [], false)) else some ([], 0, [], false) := by
 have hl : 0 ≤ (findFrom 0 F b).1 → (findFrom 0 F b).1 < (F.length : Int) ∧ 0 ≤ (findFrom 0 F b).2 := by
  intro h0
  obtain ⟨i, j, s, he, h1, h2⟩ := find_hit F 0 b h0
  have hi := (List.getElem?_eq_some_iff.1 h1).1
  rw [he]
  simp only [Nat.zero_add]
  omega
 by_cases L : Ez F (findFrom 0 F b)
 ·rw [if_pos L]
  obtain ⟨L1, L2⟩ := L
  obtain ⟨h1, h2⟩ := hl L1
  unfold lmCut
  rw [if_neg (show ¬ (findFrom 0 F b).1 < 0 by omega), if_pos h1, if_pos L2]
  by_cases c3 : ok = true
  ·rw [if_pos c3, if_pos c3, if_pos (show 0 ≤ (findFrom 0 F b).2 ∧ (findFrom 0 F b).1 < (F.length : Int) ∧ (findFrom 0 F b).2 ≤ ((rd_L1 F (findFrom 0 F b).1).length : Int) by omega)]
   unfold cutAt cutRow
   rw [show ((findFrom 0 F b).2).toNat = (rd_L1 F (findFrom 0 F b).1).length - 1 by omega]
  ·rw [if_neg c3, if_neg c3]
 ·rw [if_neg L]
  unfold lmCut
  by_cases c : (findFrom 0 F b).1 < 0
  ·rw [if_pos c]
  ·rw [if_neg c, if_pos (hl (by omega)).1, if_neg (fun z => L ⟨by omega, z⟩)]
theorem specMk_ev (Y : Rows) (h : Int) (B : Rows) (K b d : Int) (hY : sm 4 Y) (hB : sm 4 B) : Ev (fun k => spec_l24Make.f k Y h B K b d) (makeS Y h B K b d) := by
 unfold spec_l24Make.f
 refine Ev.bind (specOwnTerm_ev Y h B (sm_ok hY (by omega)) (sm_ok hB (by omega))) ?_
 unfold makeS
 dsimp only
 by_cases k3 : K = 3
 ·simp only [if_pos k3]
  refine Ev.bind (spec_l9Find_ev h B b (sm_ok hB (by omega))) ?_
  simp only [lmCut_eq, if_true]
  by_cases c : Ez B (findFrom 0 B b)
  ·simp only [if_pos c]
   exact lmPutY_ev Y h _ b d hY (sm_cut hB _)
  ·simp only [if_neg c]; exact Ev.now _
 ·simp only [if_neg k3]
  refine Ev.bind (spec_l5Find_ev Y b (sm_ok hY (by omega))) ?_
  simp only [lmCut_eq]
  by_cases k1 : K = 1
  ·simp only [if_pos k1]
   by_cases c : Ez Y (findFrom 0 Y b)
   ·simp only [if_pos c]
    by_cases c2 : d = (findFrom 0 Y b).1
    ·rw [if_pos c2]
     exact ev_eq (fun k => if_neg (by simp [c2]))
    ·rw [if_neg c2]
     refine Ev.congr (fun k => if_pos (by simp [c2])) ?_
     have := lmPutY_ev (cutRow Y (findFrom 0 Y b).1) h B b d (sm_cut hY _) hB
     rw [inRows_cut] at this
     exact this
   ·simp only [if_neg c]; exact Ev.now _
  ·simp only [if_neg k1]
   by_cases k2 : K = 2
   ·simp only [if_pos k2, if_true]
    by_cases c : Ez Y (findFrom 0 Y b)
    ·simp only [if_pos c]
     exact lmPutB_ev _ h B b d (sm_cut hY _) hB
    ·simp only [if_neg c]; exact Ev.now _
   ·simp only [if_neg k2, if_true]
    by_cases c : Ez Y (findFrom 0 Y b)
    ·simp only [if_pos c]; exact Ev.now _
    ·simp only [if_neg c]; exact Ev.now _
theorem specMk4_ev {Y : Rows} {h : Int} {B : Rows} (K b d : Int) (ok : termOk Y h B = true) : Ev (fun k => spec_l24Make.f k Y h B K b d) (four (makeI Y h B K b d)) := by
 obtain ⟨h1, h2, _⟩ := term_nodup ok
 rw [← make_eq h1 h2]
 exact specMk_ev Y h B K b d (term_sm ok).1 (term_sm ok).2
theorem makeI_small (Y : Rows) (h : Int) (B : Rows) (K b d : Int) : (makeI Y h B K b d).2.2.2.2 = true ∧ termOk (makeI Y h B K b d).1 (makeI Y h B K b d).2.1 (makeI Y h B K b d).2.2.1 = true ∨ makeI Y h B K b d = ([], 0, [], 0, false) := by
 have fin : ∀ (Y1 : Rows) (h1 : Int) (B1 : Rows) (a : Int), (finI Y1 h1 B1 a).2.2.2.2 = true ∧ termOk (finI Y1 h1 B1 a).1 (finI Y1 h1 B1 a).2.1 (finI Y1 h1 B1 a).2.2.1 = true ∨ finI Y1 h1 B1 a = ([], 0, [], 0, false) := by
  intro Y1 h1 B1 a
  unfold finI
  by_cases c : termOk Y1 h1 B1 = true
  ·rw [if_pos c]; exact .inl ⟨rfl, c⟩
  ·rw [if_neg c]; exact .inr rfl
 unfold makeI
 repeat' first | exact .inr rfl | exact fin _ _ _ _ | split
end Go.Proofs.Ytnggfglmjdiaaaa.X

namespace Go.Proofs.Ytnggfglmjdiaaaa.X
open Go.RowKit Go.Proofs.YtnggfglmjdiaaaaW.PrintWords Go.Proofs.YtnggfglmjdiaaaaW.PrintLast Go.Proofs.YtnggfglmjdiaaaaW.PrintMore
attribute [local go_sem] max2_int min2_int max_two min_two max_three min_three max_four min_four
def Cf.l0 : Nat → List (S43) → Int → Int → Option (Int)
 | 0, _, _, _ => none
 | k + 1, x0, x1, x5 => if x5 < (x0.length : Int) then (if 0 ≤ x5 then (if ((Aa x0 x5).f0) = x1 then (if ((Aa x0 x5).f1) = (wrap64 (x1 + 1)) then (if ((Aa x0 x5).f2) = (wrap64 ((wrap64 (x1 + 1)) + 1)) then (Cf.l0 k x0 (wrap64 ((wrap64 ((wrap64 (x1 + 1)) + 1)) + 1)) (wrap64 (x5 + 1))) else (some (-1))) else (some (-1))) else (some (-1))) else (none)) else (some x1)
def Cf.f (k : Nat) (l0 : List (S43)) (a1 : Int) : Option (Int) := Cf.l0 k l0 a1 0
theorem Cf.mono_l : ∀ k, (∀ y0 y1 y2, LeO (Cf.l0 k y0 y1 y2) (Cf.l0 (k + 1) y0 y1 y2))
 | 0 => fun _ _ _ r h => by simp [Cf.l0] at h
 | k + 1 => by
  have ih0 := Cf.mono_l k
  ·intro y0 y1 y2
   unfold Cf.l0
   repeat' first
   | (with_reducible exact ih0 _ _ _)
   | (with_reducible exact LeO.refl _)
   | (with_reducible exact LeO.none _)
   | (with_reducible refine LeO.ite ?_ ?_)
   | (with_reducible refine LeO.bind ?_ (fun _ => ?_))
   | exact ih0 _ _ _
   | exact LeO.none _
   | refine LeO.ite ?_ ?_
   | refine LeO.bind ?_ (fun _ => ?_)
theorem Cf.mono : ∀ a0 a1 k, LeO (Cf.f k a0 a1) (Cf.f (k + 1) a0 a1) := by
 intro a0 a1 k
 have ih0 := Cf.mono_l k
 unfold Cf.f
 repeat' first
   | (with_reducible exact ih0 _ _ _)
   | (with_reducible exact LeO.refl _)
   | (with_reducible exact LeO.none _)
   | (with_reducible refine LeO.ite ?_ ?_)
   | (with_reducible refine LeO.bind ?_ (fun _ => ?_))
   | exact ih0 _ _ _
   | exact LeO.none _
   | refine LeO.ite ?_ ?_
   | refine LeO.bind ?_ (fun _ => ?_)
set_option maxHeartbeats 8000000 in
set_option maxRecDepth 100000 in
theorem Cf.calls (k : Nat) (A0 : Option Addr) (c0 : Nat) (l0 : List (S43)) (a1 : Int) (r : Int) (w : World) (hr0 : Kd.C k43 w A0 l0.length l0) (hc0 : l0.length ≤ c0) (h : Cf.f k l0 a1 = some r) :
  Calls Try.prog 29 #[.slice A0 l0.length c0, .int .i64 a1] w fun e w' => e = .returned (.int .i64 r) ∧ Drawn0 w w' := by
 have HR0 := Aside0.mk hr0
 have HC0 := Aside0.mk hc0
 clear hr0 hc0
 have H : (Cf.l0 k l0 a1 0) = some r := h
 clear h
 have H' := Aside0.mk H
 clear H
 go_enter Try.func29, Try.ntmps29
 go_wp2
 go_loopg [1, 5] k (fun kq v1 v5 w' => ∃ (x1_1 : Int) (x5_1 : Int), v1 = .int .i64 x1_1 ∧ v5 = .int .i64 x5_1 ∧ Aside0 (Cf.l0 kq l0 x1_1 x5_1 = some r) ∧ Aside0 (kq ≤ k) ∧ Drawn0 w w')
 case atStart => exact ⟨(a1), (0), Ybe_, Ybe_, H', ⟨Nat.le_refl _⟩, by repeat (first | exact Drawn0.refl _ | apply Drawn0.step)⟩
 case round =>
  clear H'
  try clear c2; try clear p2
  obtain ⟨x1_1, x5_1, rfl, rfl, HA, HK1, ⟨m1, rfl⟩⟩ := hrel
  cases gk with
  | zero => exact absurd HA.out (by simp [Cf.l0])
  | succ k1 =>
   have H := HA.out
   clear HA
   simp only [Cf.l0] at H
   by_cases c3 : x5_1 < (l0.length : Int)
   ·rw [if_pos c3] at H
    have c3b0 : decide (x5_1 < (l0.length : Int)) = true := decide_eq_true c3
    clear c3
    by_cases c4 : 0 ≤ x5_1
    ·rw [if_pos c4] at H
     have c4b0 : decide (0 ≤ x5_1) = true := decide_eq_true c4
     clear c4
     by_cases c5 : ((Aa l0 x5_1).f0) = x1_1
     ·rw [if_pos c5] at H
      have c5b0 : (((Aa l0 x5_1).f0) == x1_1) = true := beq_iff_eq.mpr c5
      have c5b1 : (((Aa l0 x5_1).f0) != x1_1) = false := bne_eq_false_iff_eq.mpr c5
      clear c5
      by_cases c6 : ((Aa l0 x5_1).f1) = (wrap64 (x1_1 + 1))
      ·rw [if_pos c6] at H
       have c6b0 : (((Aa l0 x5_1).f1) == (wrap64 (x1_1 + 1))) = true := beq_iff_eq.mpr c6
       have c6b1 : (((Aa l0 x5_1).f1) != (wrap64 (x1_1 + 1))) = false := bne_eq_false_iff_eq.mpr c6
       clear c6
       by_cases c7 : ((Aa l0 x5_1).f2) = (wrap64 ((wrap64 (x1_1 + 1)) + 1))
       ·rw [if_pos c7] at H
        have c7b0 : (((Aa l0 x5_1).f2) == (wrap64 ((wrap64 (x1_1 + 1)) + 1))) = true := beq_iff_eq.mpr c7
        have c7b1 : (((Aa l0 x5_1).f2) != (wrap64 ((wrap64 (x1_1 + 1)) + 1))) = false := bne_eq_false_iff_eq.mpr c7
        clear c7
        have H' := Aside0.mk H
        clear H
        have p489 : 0 ≤ (x5_1 : Int) := of_decide_eq_true Yh_
        have q489 : x5_1 < (l0.length : Int) := of_decide_eq_true Yh_
        obtain ⟨ad489, e489, hx489_0, hx489_1, hx489_2⟩ := E5 HR0.out x5_1 p489 q489
        cases e489
        replace p489 := eq_true p489
        replace q489 := eq_true q489
        have p490 : 0 ≤ (x5_1 : Int) := of_decide_eq_true Yh_
        have q490 : x5_1 < (l0.length : Int) := of_decide_eq_true Yh_
        obtain ⟨ad490, e490, hx490_0, hx490_1, hx490_2⟩ := E5 HR0.out x5_1 p490 q490
        obtain rfl : ad489 = ad490 := (by injection e490)
        replace p490 := eq_true p490
        replace q490 := eq_true q490
        have p491 : 0 ≤ (x5_1 : Int) := of_decide_eq_true Yh_
        have q491 : x5_1 < (l0.length : Int) := of_decide_eq_true Yh_
        obtain ⟨ad491, e491, hx491_0, hx491_1, hx491_2⟩ := E5 HR0.out x5_1 p491 q491
        obtain rfl : ad489 = ad491 := (by injection e491)
        replace p491 := eq_true p491
        replace q491 := eq_true q491
        go_wp2
        go_roundg k1
        case measure => have := HK1.out; omega
        case rel => exact ⟨(wrap64 ((wrap64 ((wrap64 (x1_1 + 1)) + 1)) + 1)), (wrap64 (x5_1 + 1)), Ybe_, Ybe_, H', ⟨by have := HK1.out; omega⟩, by repeat (first | exact Drawn0.refl _ | apply Drawn0.step)⟩
       ·rw [if_neg c7] at H
        have c7b0 : (((Aa l0 x5_1).f2) == (wrap64 ((wrap64 (x1_1 + 1)) + 1))) = false := beq_eq_false_iff_ne.mpr c7
        have c7b1 : (((Aa l0 x5_1).f2) != (wrap64 ((wrap64 (x1_1 + 1)) + 1))) = true := bne_iff_ne.mpr c7
        obtain rfl := Option.some.inj H
        have p489 : 0 ≤ (x5_1 : Int) := of_decide_eq_true Yh_
        have q489 : x5_1 < (l0.length : Int) := of_decide_eq_true Yh_
        obtain ⟨ad489, e489, hx489_0, hx489_1, hx489_2⟩ := E5 HR0.out x5_1 p489 q489
        cases e489
        replace p489 := eq_true p489
        replace q489 := eq_true q489
        have p490 : 0 ≤ (x5_1 : Int) := of_decide_eq_true Yh_
        have q490 : x5_1 < (l0.length : Int) := of_decide_eq_true Yh_
        obtain ⟨ad490, e490, hx490_0, hx490_1, hx490_2⟩ := E5 HR0.out x5_1 p490 q490
        obtain rfl : ad489 = ad490 := (by injection e490)
        replace p490 := eq_true p490
        replace q490 := eq_true q490
        have p491 : 0 ≤ (x5_1 : Int) := of_decide_eq_true Yh_
        have q491 : x5_1 < (l0.length : Int) := of_decide_eq_true Yh_
        obtain ⟨ad491, e491, hx491_0, hx491_1, hx491_2⟩ := E5 HR0.out x5_1 p491 q491
        obtain rfl : ad489 = ad491 := (by injection e491)
        replace p491 := eq_true p491
        replace q491 := eq_true q491
        go_wp2
        go_ret
        exact ⟨Ybe_, Ycc_⟩
      ·rw [if_neg c6] at H
       have c6b0 : (((Aa l0 x5_1).f1) == (wrap64 (x1_1 + 1))) = false := beq_eq_false_iff_ne.mpr c6
       have c6b1 : (((Aa l0 x5_1).f1) != (wrap64 (x1_1 + 1))) = true := bne_iff_ne.mpr c6
       obtain rfl := Option.some.inj H
       have p489 : 0 ≤ (x5_1 : Int) := of_decide_eq_true Yh_
       have q489 : x5_1 < (l0.length : Int) := of_decide_eq_true Yh_
       obtain ⟨ad489, e489, hx489_0, hx489_1, hx489_2⟩ := E5 HR0.out x5_1 p489 q489
       cases e489
       replace p489 := eq_true p489
       replace q489 := eq_true q489
       have p490 : 0 ≤ (x5_1 : Int) := of_decide_eq_true Yh_
       have q490 : x5_1 < (l0.length : Int) := of_decide_eq_true Yh_
       obtain ⟨ad490, e490, hx490_0, hx490_1, hx490_2⟩ := E5 HR0.out x5_1 p490 q490
       obtain rfl : ad489 = ad490 := (by injection e490)
       replace p490 := eq_true p490
       replace q490 := eq_true q490
       go_wp2
       go_ret
       exact ⟨Ybe_, Ycc_⟩
     ·rw [if_neg c5] at H
      have c5b0 : (((Aa l0 x5_1).f0) == x1_1) = false := beq_eq_false_iff_ne.mpr c5
      have c5b1 : (((Aa l0 x5_1).f0) != x1_1) = true := bne_iff_ne.mpr c5
      obtain rfl := Option.some.inj H
      have p489 : 0 ≤ (x5_1 : Int) := of_decide_eq_true Yh_
      have q489 : x5_1 < (l0.length : Int) := of_decide_eq_true Yh_
      obtain ⟨ad489, e489, hx489_0, hx489_1, hx489_2⟩ := E5 HR0.out x5_1 p489 q489
      cases e489
      replace p489 := eq_true p489
      replace q489 := eq_true q489
      go_wp2
      go_ret
      exact ⟨Ybe_, Ycc_⟩
    ·rw [if_neg c4] at H
     exact absurd H (by simp)
   ·rw [if_neg c3] at H
    have c3b0 : decide (x5_1 < (l0.length : Int)) = false := decide_eq_false c3
    clear c3
    obtain rfl := Option.some.inj H
    go_wp2
    go_ret
    exact ⟨Ybe_, Ycc_⟩
end Go.Proofs.Ytnggfglmjdiaaaa.X

namespace Go.Proofs.Ytnggfglmjdiaaaa.X
open Go.RowKit Go.Proofs.YtnggfglmjdiaaaaW.PrintWords Go.Proofs.YtnggfglmjdiaaaaL Go.Proofs.YtnggfglmjdiaaaaOwn
abbrev OrdI := S43
theorem rdOI (l : List OrdI) (n : Nat) (h : n < l.length) : Aa l (n : Int) = l[n] := by simp [Aa, List.getD_eq_getElem?_getD, List.getElem?_eq_getElem h]
theorem eqOrderS_ev (l : List OrdI) (h : l.length ≤ 1048576) : Ev (fun k => Aq.f k l l) true := by
 have key : ∀ (d n : Nat), n + d = l.length → Ev (fun k => Aq.l0 k l l n) true := by
  intro d
  induction d with
  | zero => intro n hn; exact Ev.step (f := fun _ => some _) (fun k => by simp only [Aq.l0]; rw [if_neg (by omega)]) (Ev.now _)
  | succ d ih =>
   intro n hn
   refine Ev.step (f := fun k => Aq.l0 k l l ((n + 1 : Nat) : Int)) (fun k => ?_) (ih (n + 1) (by omega))
   simp only [Aq.l0]
   rw [if_pos (by omega), if_pos (by omega), if_pos (by omega), wrap_succ (by omega)]
   simp [Fz.f]
 exact Ev.congr (f := fun k => Aq.l0 k l l ((0 : Nat) : Int)) (fun k => by unfold Aq.f; rw [if_pos rfl]; rfl) (key l.length 0 (by omega))
def mO : Nat → Nat → List OrdI
 | 0, _ => []
 | n + 1, a => ⟨(a : Int), ((a + 1 : Nat) : Int), ((a + 2 : Nat) : Int)⟩ :: mO n (a + 3)
theorem rdO_mid (p : List OrdI) (x : OrdI) (r : List OrdI) : Aa (p ++ x :: r) (p.length : Int) = x := by simp [Aa]
theorem setO_mid (p : List OrdI) (x v : OrdI) (r : List OrdI) : (p ++ x :: r).set ((p.length : Int)).toNat v = p ++ v :: r := by simp
theorem markO_loop : ∀ (r p : List OrdI) (a : Nat), a + 3 * r.length ≤ 4611686018427387904 → p.length + r.length ≤ 4611686018427387904 →
  Ev (fun k => Bh.l0 k (p ++ r) (a : Int) (p.length : Int)) (((a + 3 * r.length : Nat) : Int), p ++ mO r.length a)
 | [], p, a, h1, h2 => Ev.step (f := fun _ => some _) (fun k => by simp only [Bh.l0]; rw [if_neg (by simp)]; rfl) (Ev.now _)
 | x :: r, p, a, h1, h2 => by
  have hr := markO_loop r (p ++ [⟨(a : Int), ((a + 1 : Nat) : Int), ((a + 2 : Nat) : Int)⟩]) (a + 3) (by simp only [List.length_cons] at h1; omega) (by simp only [List.length_cons, List.length_append, List.length_nil] at *; omega)
  simp only [List.length_cons] at h1 h2
  have e1 : ((a + 3 + 3 * r.length : Nat) : Int) = ((a + 3 * (x :: r).length : Nat) : Int) := by simp only [List.length_cons]; omega
  rw [e1, List.append_assoc, List.append_assoc] at hr
  refine Ev.step (fun k => ?_) hr
  simp only [Bh.l0, Option.bind_some]
  have l2 : ((p ++ [(⟨(a : Int), ((a + 1 : Nat) : Int), ((a + 2 : Nat) : Int)⟩ : OrdI)]).length : Int) = ((p.length + 1 : Nat) : Int) := by simp
  rw [if_pos (by simp; omega), if_pos (by omega), l2, wrap_succ (n := a) (by omega), wrap_succ (n := a + 1) (by omega), wrap_succ (n := a + 1 + 1) (by omega), wrap_succ (n := p.length) (by omega)]
  simp only [rdO_mid, setO_mid]
  rfl
theorem markO_at (l : List OrdI) (a : Nat) (h : a + 3 * l.length ≤ 4611686018427387904) : Ev (fun k => Bh.f k l (a : Int)) (((a + 3 * l.length : Nat) : Int), mO l.length a) := markO_loop l [] a h (by simp; omega)
abbrev OrdL := S42
def convO (s : OrdL) : OrdI := ⟨s.f0, s.f1, s.f2⟩
theorem rdOL (l : List OrdL) (n : Nat) (h : n < l.length) : Fj l (n : Int) = l[n] := by simp [Fj, List.getD_eq_getElem?_getD, List.getElem?_eq_getElem h]
theorem toOrderS_ev (l : List OrdL) (h : l.length ≤ 1048576) : Ev (fun k => Aw.f k l) (l.map convO) := by
 have key : ∀ (d n : Nat), n + d = l.length → Ev (fun k => Aw.l0 k l (fill convO z43 l n) n) (l.map convO) := by
  intro d
  induction d with
  | zero =>
   intro n hn
   obtain rfl : n = l.length := by omega
   rw [← fill_all convO z43 l]
   exact Ev.step (f := fun _ => some _) (fun k => by simp only [Aw.l0]; rw [if_neg (by omega)]) (Ev.now _)
  | succ d ih =>
   intro n hn
   refine Ev.step (f := fun k => Aw.l0 k l (fill convO z43 l (n + 1)) ((n + 1 : Nat) : Int)) (fun k => ?_) (ih (n + 1) (by omega))
   simp only [Aw.l0]
   rw [if_pos (by omega), if_pos (by omega), rdOL l n (by omega), wrap_succ (by omega)]
   simp only [Gi.f, Option.bind_some, fill_length convO _ l n (by omega)]
   rw [if_pos (by omega), Int.toNat_natCast, ← fill_set convO _ l n (by omega)]
   rfl
 refine Ev.congr (f := fun k => Aw.l0 k l (fill convO z43 l 0) ((0 : Nat) : Int)) (fun k => ?_) (key l.length 0 (by omega))
 unfold Aw.f
 rw [if_pos (by omega), if_pos (by omega), fill_zero, Int.toNat_natCast]
 rfl
def runO : List OrdI → Nat → Rows → Int → Rows → Rows × Int × Rows × Int × Bool
 | [], i, Y, h, B => (Y, h, B, (i : Int), true)
 | x :: r, i, Y, h, B => if (makeI Y h B x.f0 x.f1 x.f2).2.2.2.2 = true then runO r (i + 1) (makeI Y h B x.f0 x.f1 x.f2).1 (makeI Y h B x.f0 x.f1 x.f2).2.1 (makeI Y h B x.f0 x.f1 x.f2).2.2.1 else (Y, h, B, (i : Int), true)
theorem made_ok {Y : Rows} {h : Int} {B : Rows} {K b d : Int} (c : (makeI Y h B K b d).2.2.2.2 = true) : termOk (makeI Y h B K b d).1 (makeI Y h B K b d).2.1 (makeI Y h B K b d).2.2.1 = true := by
 rcases makeI_small Y h B K b d with ⟨_, h2⟩ | h2
 ·exact h2
 ·rw [h2] at c; cases c
theorem runO_ok : ∀ (l : List OrdI) (i : Nat) (Y : Rows) (h : Int) (B : Rows), termOk Y h B = true → termOk (runO l i Y h B).1 (runO l i Y h B).2.1 (runO l i Y h B).2.2.1 = true
 | [], _, _, _, _, ok => ok
 | x :: r, i, Y, h, B, ok => by
  unfold runO
  by_cases c : (makeI Y h B x.f0 x.f1 x.f2).2.2.2.2 = true
  ·rw [if_pos c]; exact runO_ok r _ _ _ _ (made_ok c)
  ·rw [if_neg c]; exact ok
theorem implRun_loop (l : List OrdI) (hl : l.length ≤ 30) : ∀ (d i : Nat) (Y : Rows) (h : Int) (B : Rows), i + d = l.length → termOk Y h B = true → Ev (fun k => Ah.l0 k l l (l.length : Int) (i : Int) Y h B) (runO (l.drop i) i Y h B) := by
 intro d
 induction d with
 | zero =>
  intro i Y h B hi ok
  rw [List.drop_of_length_le (by omega)]
  refine Ev.step (f := fun _ => some (Y, h, B, (i : Int), true)) (fun k => ?_) (Ev.now _)
  simp only [Ah.l0]
  rw [if_neg (by omega), show i = l.length by omega]
 | succ d ih =>
  intro i Y h B hi ok
  have hil : i < l.length := by omega
  rw [List.drop_eq_getElem_cons hil]
  refine Ev.step (f := fun k => (impl_makeOrder.f k Y h B l[i].f0 l[i].f1 l[i].f2).bind fun t => if t.2.2.2.2 = true then Ah.l0 k l l (l.length : Int) ((i + 1 : Nat) : Int) t.1 t.2.1 t.2.2.1 else some (Y, h, B, (i : Int), true)) (fun k => ?_) (Ev.bind (implMk_ev Y h B l[i].f0 l[i].f1 l[i].f2 (term_sm ok).1 (term_sm ok).2) ?_)
  ·simp only [Ah.l0]
   rw [if_pos (by omega), if_pos (by omega), if_pos (by omega), rdOI l i hil, wrap_succ (by omega)]
  ·unfold runO
   by_cases c : (makeI Y h B l[i].f0 l[i].f1 l[i].f2).2.2.2.2 = true
   ·simp only [if_pos c]; exact ih (i + 1) _ _ _ (by omega) (made_ok c)
   ·simp only [if_neg c]; exact Ev.now _
theorem specRun_loop (l : List OrdI) (hl : l.length ≤ 30) : ∀ (d i : Nat) (Y : Rows) (h : Int) (B : Rows), i + d = l.length → termOk Y h B = true → Ev (fun k => Ag.l0 k l (i : Int) Y h B) (runO (l.drop i) i Y h B) := by
 intro d
 induction d with
 | zero =>
  intro i Y h B hi ok
  rw [List.drop_of_length_le (by omega)]
  refine Ev.step (f := fun _ => some (Y, h, B, (i : Int), true)) (fun k => ?_) (Ev.now _)
  simp only [Ag.l0]
  rw [if_neg (by omega), show i = l.length by omega]
 | succ d ih =>
  intro i Y h B hi ok
  have hil : i < l.length := by omega
  rw [List.drop_eq_getElem_cons hil]
  refine Ev.step (f := fun k => (spec_l24Make.f k Y h B l[i].f0 l[i].f1 l[i].f2).bind fun t => if t.2.2.2 = true then Ag.l0 k l ((i + 1 : Nat) : Int) t.1 t.2.1 t.2.2.1 else some (Y, h, B, (i : Int), true)) (fun k => ?_) (Ev.bind (specMk4_ev l[i].f0 l[i].f1 l[i].f2 ok) ?_)
  ·simp only [Ag.l0]
   rw [if_pos (by omega), if_pos (by omega), rdOI l i hil, wrap_succ (by omega)]
  ·unfold runO four
   by_cases c : (makeI Y h B l[i].f0 l[i].f1 l[i].f2).2.2.2.2 = true
   ·simp only [if_pos c]; exact ih (i + 1) _ _ _ (by omega) (made_ok c)
   ·simp only [if_neg c]; exact Ev.now _
def runOf (Y : Rows) (h : Int) (B : Rows) (l : List OrdI) : Rows × Int × Rows × Int × Bool := if termOk Y h B = true ∧ l.length ≤ 30 then runO l 0 Y h B else ([], 0, [], 0, false)
theorem implRun_ev (Y : Rows) (h : Int) (B : Rows) (l : List OrdI) (hY : rowsOk Y) (hB : rowsOk B) : Ev (fun k => Ah.f k Y h B l) (runOf Y h B l) := by
 have stop : Ev (fun k => Ah.j0 k l true Y h B) ([], 0, [], 0, false) := Ev.step (f := fun _ => some _) (fun k => by simp only [Ah.j0]; rw [if_pos trivial]) (Ev.now _)
 refine Ev.bind (implTerm_ev Y h B hY hB) ?_
 unfold runOf
 by_cases c : termOk Y h B = true
 ·simp only [if_pos c]
  by_cases c2 : l.length ≤ 30
  ·rw [if_pos ⟨c, c2⟩, decide_eq_false (show ¬ (l.length : Int) > 30 by omega)]
   refine Ev.step (f := fun k => (impl_ownTerminal.f k Y h B).bind fun t => Ah.l0 k l l (l.length : Int) ((0 : Nat) : Int) t.1 t.2.1 t.2.2) (fun k => ?_) (Ev.bind (implOwnTerm_ev Y h B hY hB) (by simpa using implRun_loop l c2 l.length 0 Y h B (by omega) c))
   simp only [Ah.j0]
   rw [if_neg (by decide)]
   rfl
  ·rw [if_neg (fun z => c2 z.2), decide_eq_true (show (l.length : Int) > 30 by omega)]
   exact stop
 ·rw [if_neg (fun z => c z.1)]
  simp only [if_neg c]
  exact stop
theorem specRun_ev (Y : Rows) (h : Int) (B : Rows) (l : List OrdI) (hY : rowsOk Y) (hB : rowsOk B) : Ev (fun k => Ag.f k Y h B l) (runOf Y h B l) := by
 have stop : Ev (fun k => Ag.j0 k l true Y h B) ([], 0, [], 0, false) := Ev.step (f := fun _ => some _) (fun k => by simp only [Ag.j0]; rw [if_pos trivial]) (Ev.now _)
 refine Ev.bind (specTerm_ev Y h B hY hB) ?_
 unfold runOf
 by_cases c : termOk Y h B = true
 ·simp only [if_pos c]
  by_cases c2 : l.length ≤ 30
  ·rw [if_pos ⟨c, c2⟩, decide_eq_false (show ¬ (l.length : Int) > 30 by omega)]
   refine Ev.step (f := fun k => (spec_l24Own.f k Y h B).bind fun t => Ag.l0 k l ((0 : Nat) : Int) t.1 t.2.1 t.2.2) (fun k => ?_) (Ev.bind (specOwnTerm_ev Y h B hY hB) (by simpa using specRun_loop l c2 l.length 0 Y h B (by omega) c))
   simp only [Ag.j0]
   rw [if_neg (by decide)]
   rfl
  ·rw [if_neg (fun z => c2 z.2), decide_eq_true (show (l.length : Int) > 30 by omega)]
   exact stop
 ·rw [if_neg (fun z => c z.1)]
  simp only [if_neg c]
  exact stop
theorem runOf_small (Y : Rows) (h : Int) (B : Rows) (l : List OrdI) : rowsOk (runOf Y h B l).1 ∧ rowsOk (runOf Y h B l).2.2.1 ∧ termN (runOf Y h B l).1 (runOf Y h B l).2.2.1 ≤ 44 := by
 unfold runOf
 by_cases c : termOk Y h B = true ∧ l.length ≤ 30
 ·rw [if_pos c]
  have ok := runO_ok l 0 Y h B c.1
  obtain ⟨s1, s2⟩ := term_sm ok
  exact ⟨sm_ok s1 (by omega), sm_ok s2 (by omega), (term_small _ _ _ ok).2.2.2.2.2⟩
 ·rw [if_neg c]; exact ⟨⟨by simp, by simp⟩, ⟨by simp, by simp⟩, by simp [termN, total]⟩
end Go.Proofs.Ytnggfglmjdiaaaa.X

namespace Go.Proofs.Ytnggfglmjdiaaaa.Pure
open Go.RowKit Go.Proofs.YtnggfglmjdiaaaaW.PrintWords Go.Proofs.YtnggfglmjdiaaaaL Go.Proofs.Ytnggfglmjdiaaaa.X Go.Proofs.YtnggfglmjdiaaaaOwn
theorem FnExactRunOrders : OFnExactRunOrders.Pure := by
 intro x l hx hl
 refine ev_rounds ?_
 obtain ⟨h1, h0, h2⟩ := hx
 obtain ⟨r, hr, hb⟩ := szTerm_le x.f0.f0 x.f1.f0 x.f1.f1 (by have := h1.1; omega) (fun s hs => by have := (h1.2.2 s hs).1; omega) (by have := h2.1; omega) (fun s hs => by have := (h2.2.2 s hs).1; omega)
 unfold Ef.f
 refine Ev.bind hr ?_
 by_cases c : r < 0
 ·simp only [if_pos c]; exact Ev.now _
 ·obtain ⟨hr1, hY, hS⟩ := hb c
  generalize x.f0.f0 = Y at *
  generalize x.f1.f0 = hh at *
  generalize x.f1.f1 = S at *
  have hl1 : l.length ≤ 4611686018427387904 := by have := hl.1; omega
  refine ev_past c ?_
  have hsz : Fa.f l r = some (if r - (l.length : Int) < 0 then -1 else r - (l.length : Int)) := by
   unfold Fa.f
   rw [wrap_id (by omega) (by omega)]
   split <;> rfl
  simp only [hsz, Option.bind_some]
  by_cases c2 : r - (l.length : Int) < 0
  ·simp only [if_pos c2]; exact ev_eq (fun k => if_pos (by omega))
  ·simp only [if_neg c2]
   have hl2 : l.length ≤ 1048576 := by omega
   have hT := toTerm_ev Y hh S hY hS
   have hO := toOrderS_ev l hl2
   have hlen : (l.map convO).length ≤ 1048576 := by simpa using hl2
   generalize hlm : l.map convO = m at hO hlen
   obtain ⟨g1, g2, g3⟩ := runOf_small Y hh S m
   have hi := implRun_ev Y hh S m hY hS
   have hs := specRun_ev Y hh S m hY hS
   generalize runOf Y hh S m = R at g1 g2 g3 hi hs
   have hc := eqTerm_ev R.1 R.2.1 R.2.2.1 g1 g2
   refine Ev.bind hT (Ev.bind hO (Ev.bind hs (Ev.bind hT (Ev.bind hO (Ev.bind hi ?_)))))
   refine Ev.bind hc (ev_if rfl (ev_if rfl (ev_if rfl ?_)))
   refine Ev.bind hT (Ev.bind (eqTerm_ev Y hh S hY hS) (ev_if rfl ?_))
   refine Ev.bind hO (Ev.bind (eqOrderS_ev m hlen) (ev_if rfl ?_))
   have tY := total_le 1048576 Y hY.2
   have tS := total_le 1048576 S hS.2
   have lY := Nat.mul_le_mul_left 1048576 hY.1
   have lS := Nat.mul_le_mul_left 1048576 hS.1
   have hn : termN Y S ≤ 2199023255552 := by unfold termN; omega
   refine Ev.bind (markTerm_at Y hh S 1 (by omega) (by have := hY.1; omega) (by have := hS.1; omega)) ?_
   refine Ev.bind (markO_at m (1 + termN Y S) (by omega)) ?_
   refine Ev.bind hc (ev_if rfl (ev_if (by show ¬ ((1 + termN Y S + 3 * m.length : Nat) : Int) < 0; omega) (ev_if rfl (ev_if rfl ?_))))
   refine Ev.bind (markTerm_at R.1 R.2.1 R.2.2.1 1 (by omega) (by have := g1.1; omega) (by have := g2.1; omega)) ?_
   have hd := heldTerm_at R.1 R.2.1 R.2.2.1 1 (by omega) (by have := g1.1; omega) (by have := g2.1; omega)
   refine Ev.bind hd (ev_if (by omega) (ev_if rfl ?_))
   refine Ev.bind hT (Ev.bind hO (Ev.bind hi ?_))
   refine Ev.bind hc (ev_if rfl (ev_if rfl (ev_if rfl ?_)))
   refine Ev.bind hd (ev_if (by omega) (ev_if rfl ?_))
   exact Ev.now _
end Go.Proofs.Ytnggfglmjdiaaaa.Pure


namespace Go.Proofs.Ytnggfglmjdiaaaa.fnExactRunOrders
open Go.ChangeShapes Go.WideShapes Go.ChangeAt Go.RowKit
open Go.ChangeMaps (open_string shut_string)
open Go.Joins
open Go.Proofs.YtnggfglmjdiaaaaW.PrintWords Go.Proofs.YtnggfglmjdiaaaaW.PrintLast Go.Proofs.YtnggfglmjdiaaaaW.PrintMore
open Go.Proofs.YtnggfglmjdiaaaaZ Go.Proofs.Ytnggfglmjdiaaaa.X Go.Proofs.Ytnggfglmjdiaaaa.X.OFnExactRunOrders
set_option linter.unusedVariables false
set_option linter.unusedSimpArgs false
theorem own : ownKnob Try.prog.godebug = none := by kernel_rfl
theorem laidOut : laidOutB Try.prog = true := by kernel_rfl
set_option maxRecDepth 100000 in
set_option maxHeartbeats 2000000 in
theorem lifted (os : Os) (started : os.Started) (H : Type) (enc : TypeId × Value → H) :
    ReturnsInHanded {} Try.checked os 9 .any (Rows.fnExactRunOrdersSpec.pre6 enc Try.prog Try.f9 Rows.fnExactRunOrdersRow.domain false) (Rows.fnExactRunOrdersSpec.post enc Try.prog Try.f9 false true false false) := by
  refine returnsInHanded_of_change_sized (C := Try.checked) own started Ybb_ Try.func9
    (ChangeSpec.witness6 (enc := enc) (C := Try.checked) false ⟨#[], #[.agg #[.slice none 0 0, .int .i64 0, .slice none 0 0], .slice none 0 0], []⟩ 8 Ybb_ Ybb_ Ybb_ Ybb_) ?_
  intro W base args ds gs before hval0 hW hcnd hsz0 _
  have hsz : (DataW.weightsEach Try.prog (Try.f9.params.toList ++ Rows.fnExactRunOrdersSpec.plain.varTypes Try.prog) (ds ++ gs)).all (· ≤ reachBytes) = true := hsz0
  have hval : ∀ (j : Nat) t v, Try.f9.params[j]? = some t → args[j]? = some v → Value.okWide Try.prog W .any base t v := hval0
  have hW' := hW
  obtain ⟨p, q, hA0, hV, rfl, hfz, hnd⟩ := hW
  have hA : DataW.TrodAll enc Try.prog W 0 (fun _ => true) true Try.f9.params.toList args.toList ds p := hA0
  rw [Try.params9] at hA hval hsz
  obtain ⟨v0, vs0, d0, ds0, p0, q0, hargs, rfl, rfl, h0, r0⟩ := trodAll_cons hA
  obtain ⟨v1, vs1, d1, ds1, p1, q1, rfl, rfl, rfl, h1, r1⟩ := trodAll_cons r0
  obtain ⟨rfl, rfl, rfl⟩ := trodAll_nil r1
  obtain rfl : args = #[v0, v1] := by cases args; simp_all
  obtain ⟨rfl, rfl⟩ := trodVars_none hV
  obtain ⟨cs0, rfl, hs0⟩ := okWide_struct Try.underlying28 (hval 0 28 v0 rfl rfl)
  have k0 := h0
  have lt0 : ∀ x ∈ p0, x.block < W.heap.size := by obtain ⟨m, hm⟩ := k0; exact DataW.trod_lt m _ _ _ hm
  obtain ⟨x0, hK0, w0⟩ : ∃ x : S28, k28.K W x cs0.toList ∧ fitsT28 x := by
    obtain ⟨fuel, hf⟩ := h0
    exact opensT28 hf (weights_param hsz (j := 0) rfl rfl)
  obtain ⟨A0_0, c0_0, A0_2, c0_2, e0, hc0_0, hr0_0, hc0_2, hr0_2⟩ := k28_open hK0
  obtain rfl : cs0 = #[.slice A0_0 x0.f0.f0.length c0_0, .int .i64 x0.f1.f0, .slice A0_2 x0.f1.f1.length c0_2] := by cases cs0; simpa using e0
  obtain ⟨a1, len1, cap1, rfl⟩ := okWide_slice Try.underlying61 (hval 1 61 v1 rfl rfl)
  have k1 := h1
  have lt1 : ∀ x ∈ p1, x.block < W.heap.size := by obtain ⟨m, hm⟩ := k1; exact DataW.trod_lt m _ _ _ hm
  obtain ⟨l1, rfl, hc1, hr1, w1⟩ : ∃ l : List (S42), len1 = l.length ∧ l.length ≤ cap1 ∧ Kd.C k42 W a1 l.length l ∧ (l.length * 24 ≤ 140737488351232 ∧ l.length ≤ 9223372036854775807 ∧ ∀ y1 ∈ l, fitsT42 y1) := by
    obtain ⟨fuel, hf⟩ := h1
    obtain ⟨l, ⟨A_, c_, e_, hl_, hC_⟩, hfit_⟩ := (Gl z42 Try.underlying61 Ybb_ opensT42 Ybb_) hf (weights_param hsz (j := 1) rfl rfl)
    simp [Value.cells] at e_
    obtain ⟨rfl, rfl, rfl⟩ := e_
    exact ⟨l, rfl, hl_, hC_, hfit_⟩
  clear hA0 hval0 hsz0 hsz
  obtain ⟨k, h⟩ := Go.Proofs.Ytnggfglmjdiaaaa.Pure.FnExactRunOrders x0 l1 w0 w1
  refine (Ef.calls k A0_0 c0_0 x0.f0.f0 x0.f1.f0 A0_2 c0_2 x0.f1.f1 a1 cap1 l1 true W hr0_0 hc0_0 hr0_2 hc0_2 hr1 hc1 h rfl).mono fun e W' ⟨he, bel0⟩ => ?_
  have bel : Below W.heap.size W W' := bel0
  subst he
  exact ⟨_, rfl, _, _, _, [], _, [], hW', trodAll_mk1 (shut_bool Try.underlying4 _), (trodAll_cons_mk (Below.trod laidOut Ybb_ (of_decide_eq_true Ybb_) k0 bel lt0) (trodAll_cons_mk (Below.trod laidOut Ybb_ (of_decide_eq_true Ybb_) k1 bel lt1) trodAll_mk0)), rfl, bel.frame _, fun h => by cases h⟩
theorem over : Rows.fnExactRunOrdersRow.holds Try.pinned (OpenSpec.ofChange Rows.fnExactRunOrdersSpec) :=
  OpenClaim.holds_of_wide 9 Try.f9 rfl rfl rfl rfl rfl rfl rfl ⟨rfl, rfl, rfl, rfl, rfl⟩ rfl rfl rfl rfl rfl Ybb_ Try.func9 Ybb_
    (of_decide_eq_true Ybb_) (by unfold Func.isWrapper; first | (rw [if_pos (by decide +kernel)]; kernel_rfl) | (rw [if_neg (by decide +kernel)]; exact ⟨rfl, rfl⟩))
    (fun os started H enc _ => lifted os started H enc)
theorem proved : Rows.FnExactRunOrdersSaid := over
#print axioms proved
end Go.Proofs.Ytnggfglmjdiaaaa.fnExactRunOrders
namespace Go.Proofs.Ytnggfglmjdiaaaa
/-- The row, under a short name, for the claim. -/
theorem fnExactRunOrders_holds : Rows.FnExactRunOrdersSaid := fnExactRunOrders.proved
end Go.Proofs.Ytnggfglmjdiaaaa

