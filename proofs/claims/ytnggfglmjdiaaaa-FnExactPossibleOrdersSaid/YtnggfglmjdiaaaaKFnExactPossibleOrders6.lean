/- The law FnExactPossibleOrders answers true for every input that the row lets in, and leaves its arguments as they were. Conditions: none beyond the row's own. -/
import Derived.Test.YtnggfglmjdiaaaaRows
import Derived.WalkKit
import Derived.ProofKit
import Derived.OpenShut
import Derived.ShutString
import Derived.ChangeOld
import Derived.Below
import Derived.SizedLaws
import Derived.Lib.SmallJoins
import Derived.Test.YtnggfglmjdiaaaaKFnExactPossibleOrders1
import Derived.Test.YtnggfglmjdiaaaaKFnExactPossibleOrders4
import Derived.Test.YtnggfglmjdiaaaaKFnExactPossibleOrders5
set_option linter.unusedVariables false
set_option linter.unusedSimpArgs false
namespace Go.Proofs.Ytnggfglmjdiaaaa.X
open Go.RowKit Go.Proofs.YtnggfglmjdiaaaaW.PrintWords Go.Proofs.YtnggfglmjdiaaaaL Go.Proofs.YtnggfglmjdiaaaaOwn
abbrev OrdI := S43
theorem eqOrderS_ev (l : List OrdI) (h : l.length ≤ 1048576) : Ev (fun k => Aj.f k l l) true := by
 have key : ∀ (d n : Nat), n + d = l.length → Ev (fun k => Aj.l0 k l l n) true := by
  intro d
  induction d with
  | zero => intro n hn; exact Ev.step (f := fun _ => some _) (fun k => by simp only [Aj.l0]; rw [if_neg (by omega)]) (Ev.now _)
  | succ d ih =>
   intro n hn
   refine Ev.step (f := fun k => Aj.l0 k l l ((n + 1 : Nat) : Int)) (fun k => ?_) (ih (n + 1) (by omega))
   simp only [Aj.l0]
   rw [if_pos (by omega), if_pos (by omega), if_pos (by omega), wrap_succ (by omega)]
   simp [Fg.f]
 exact Ev.congr (f := fun k => Aj.l0 k l l ((0 : Nat) : Int)) (fun k => by unfold Aj.f; rw [if_pos rfl]; rfl) (key l.length 0 (by omega))
def mO : Nat → Nat → List OrdI
 | 0, _ => []
 | n + 1, a => ⟨(a : Int), ((a + 1 : Nat) : Int), ((a + 2 : Nat) : Int)⟩ :: mO n (a + 3)
theorem rdO_mid (p : List OrdI) (x : OrdI) (r : List OrdI) : Ai (p ++ x :: r) (p.length : Int) = x := by simp [Ai]
theorem setO_mid (p : List OrdI) (x v : OrdI) (r : List OrdI) : (p ++ x :: r).set ((p.length : Int)).toNat v = p ++ v :: r := by simp
theorem markO_loop : ∀ (r p : List OrdI) (a : Nat), a + 3 * r.length ≤ 4611686018427387904 → p.length + r.length ≤ 4611686018427387904 →
  Ev (fun k => Bi.l0 k (p ++ r) (a : Int) (p.length : Int)) (((a + 3 * r.length : Nat) : Int), p ++ mO r.length a)
 | [], p, a, h1, h2 => Ev.step (f := fun _ => some _) (fun k => by simp only [Bi.l0]; rw [if_neg (by simp)]; rfl) (Ev.now _)
 | x :: r, p, a, h1, h2 => by
  have hr := markO_loop r (p ++ [⟨(a : Int), ((a + 1 : Nat) : Int), ((a + 2 : Nat) : Int)⟩]) (a + 3) (by simp only [List.length_cons] at h1; omega) (by simp only [List.length_cons, List.length_append, List.length_nil] at *; omega)
  simp only [List.length_cons] at h1 h2
  have e1 : ((a + 3 + 3 * r.length : Nat) : Int) = ((a + 3 * (x :: r).length : Nat) : Int) := by simp only [List.length_cons]; omega
  rw [e1, List.append_assoc, List.append_assoc] at hr
  refine Ev.step (fun k => ?_) hr
  simp only [Bi.l0, Option.bind_some]
  have l2 : ((p ++ [(⟨(a : Int), ((a + 1 : Nat) : Int), ((a + 2 : Nat) : Int)⟩ : OrdI)]).length : Int) = ((p.length + 1 : Nat) : Int) := by simp
  rw [if_pos (by simp; omega), if_pos (by omega), l2, wrap_succ (n := a) (by omega), wrap_succ (n := a + 1) (by omega), wrap_succ (n := a + 1 + 1) (by omega), wrap_succ (n := p.length) (by omega)]
  simp only [rdO_mid, setO_mid]
  rfl
theorem heldO_loop : ∀ (n : Nat) (p : List OrdI) (a : Nat), a + 3 * n ≤ 4611686018427387904 → p.length + n ≤ 4611686018427387904 →
  Ev (fun k => Bo.l0 k (p ++ mO n a) (a : Int) (p.length : Int)) ((a + 3 * n : Nat) : Int)
 | 0, p, a, h1, h2 => Ev.step (f := fun _ => some _) (fun k => by simp only [Bo.l0]; rw [if_neg (by simp [mO])]; rfl) (Ev.now _)
 | n + 1, p, a, h1, h2 => by
  have hr := heldO_loop n (p ++ [⟨(a : Int), ((a + 1 : Nat) : Int), ((a + 2 : Nat) : Int)⟩]) (a + 3) (by omega) (by simp only [List.length_append, List.length_cons, List.length_nil]; omega)
  rw [show ((a + 3 + 3 * n : Nat) : Int) = ((a + 3 * (n + 1) : Nat) : Int) by omega, List.append_assoc] at hr
  refine Ev.step (fun k => ?_) hr
  have l2 : ((p ++ [(⟨(a : Int), ((a + 1 : Nat) : Int), ((a + 2 : Nat) : Int)⟩ : OrdI)]).length : Int) = ((p.length + 1 : Nat) : Int) := by simp
  have hlt : (p.length : Int) < ((p ++ mO (n + 1) a).length : Int) := by simp [mO]; omega
  have h0 : (0 : Int) ≤ (p.length : Int) := by omega
  simp only [Bo.l0]
  rw [if_pos hlt, if_pos h0, show mO (n + 1) a = (⟨(a : Int), ((a + 1 : Nat) : Int), ((a + 2 : Nat) : Int)⟩ : OrdI) :: mO n (a + 3) from rfl, l2, wrap_succ (n := a) (by omega), wrap_succ (n := a + 1) (by omega), wrap_succ (n := a + 1 + 1) (by omega), wrap_succ (n := p.length) (by omega)]
  simp only [rdO_mid]
  rw [if_pos trivial, if_pos trivial, if_pos trivial]
  rfl
theorem markO_at (l : List OrdI) (a : Nat) (h : a + 3 * l.length ≤ 4611686018427387904) : Ev (fun k => Bi.f k l (a : Int)) (((a + 3 * l.length : Nat) : Int), mO l.length a) := markO_loop l [] a h (by simp; omega)
theorem heldO_at (n a : Nat) (h : a + 3 * n ≤ 4611686018427387904) : Ev (fun k => Bo.f k (mO n a) (a : Int)) ((a + 3 * n : Nat) : Int) := heldO_loop n [] a h (by simp; omega)
section
variable (P : Int → Int → Int → Bool)
def tl2 (kd bx : Int) : Nat → Nat → List OrdI
 | 0, _ => []
 | n + 1, t => (if P kd bx (t : Int) = true then [⟨kd, bx, (t : Int)⟩] else []) ++ tl2 kd bx n (t + 1)
def tl1 (M : Nat) (kd : Int) : Nat → Nat → List OrdI
 | 0, _ => []
 | n + 1, bx => tl2 P kd (bx : Int) M 0 ++ tl1 M kd n (bx + 1)
def tl0 (M : Nat) : Nat → Nat → List OrdI
 | 0, _ => []
 | n + 1, kd => tl1 P M (kd : Int) 99 1 ++ tl0 M n (kd + 1)
theorem tl2_len (kd bx : Int) : ∀ n t, (tl2 P kd bx n t).length ≤ n
 | 0, _ => Nat.le_refl _
 | n + 1, t => by
  have := tl2_len kd bx n (t + 1)
  unfold tl2
  rw [List.length_append]
  split <;> simp <;> omega
theorem tl1_len (M : Nat) (kd : Int) : ∀ n bx, (tl1 P M kd n bx).length ≤ M * n
 | 0, _ => Nat.le_refl _
 | n + 1, bx => by
  have := tl1_len M kd n (bx + 1); have := tl2_len P kd (bx : Int) M 0
  unfold tl1
  rw [List.length_append, Nat.mul_succ]; omega
theorem tl0_len (M : Nat) : ∀ n kd, (tl0 P M n kd).length ≤ M * 99 * n
 | 0, _ => Nat.le_refl _
 | n + 1, kd => by
  have := tl0_len M n (kd + 1); have := tl1_len P M (kd : Int) 99 1
  unfold tl0
  rw [List.length_append, Nat.mul_succ]; omega
theorem tl2_none (kd bx : Int) : ∀ n t, (∀ s : Nat, t ≤ s → P kd bx (s : Int) = false) → tl2 P kd bx n t = []
 | 0, _, _ => rfl
 | n + 1, t, h => by unfold tl2; rw [h t (Nat.le_refl _), tl2_none kd bx n (t + 1) (fun s hs => h s (by omega))]; rfl
theorem tl2_more (kd bx : Int) (m : Nat) : ∀ n t, (∀ s : Nat, t + n ≤ s → P kd bx (s : Int) = false) → tl2 P kd bx (n + m) t = tl2 P kd bx n t
 | 0, t, h => by rw [Nat.zero_add]; exact tl2_none P kd bx m t (fun s hs => h s (by omega))
 | n + 1, t, h => by
  rw [show n + 1 + m = (n + m) + 1 by omega]
  unfold tl2
  rw [tl2_more kd bx m n (t + 1) (fun s hs => h s (by omega))]
theorem tl1_more (M m : Nat) (kd : Int) (h : ∀ bx : Int, ∀ s : Nat, M ≤ s → P kd bx (s : Int) = false) : ∀ n bx, tl1 P (M + m) kd n bx = tl1 P M kd n bx
 | 0, _ => rfl
 | n + 1, bx => by unfold tl1; rw [tl2_more P kd (bx : Int) m M 0 (fun s hs => h _ s (by omega)), tl1_more M m kd h n (bx + 1)]
theorem tl0_more (M m : Nat) (h : ∀ kd bx : Int, ∀ s : Nat, M ≤ s → P kd bx (s : Int) = false) : ∀ n kd, tl0 P (M + m) n kd = tl0 P M n kd
 | 0, _ => rfl
 | n + 1, kd => by unfold tl0; rw [tl1_more P M m (kd : Int) (h _) 99 1, tl0_more M m h n (kd + 1)]
end
section
variable (Y : Rows) (h : Int) (B : Rows)
/-- Can the order be made? -/
def can (K b d : Int) : Bool := (makeI Y h B K b d).2.2.2.2
theorem can_in {Y : Rows} {h : Int} {B : Rows} (ok : termOk Y h B = true) {K b d : Int} (c : can Y h B K b d = true) : (0 ≤ (Aq 0 Y b).1 ∨ 0 ≤ (Aq 0 B b).1) ∧ (d < (Y.length : Int) ∨ d < (B.length : Int)) := by
 obtain ⟨hk, _, _, _, _, h5, h6, h7⟩ := made_from (term_nodup ok).1 (term_nodup ok).2.1 (makeI_etaP c)
 refine ⟨h7.imp (find_in Y 0 b) (find_in B 0 b), ?_⟩
 by_cases k2 : K = 2
 ·exact .inr (h6 k2)
 ·exact .inl (h5 k2)
theorem implPos_l2 {Y : Rows} {h : Int} {B : Rows} (ok : termOk Y h B = true) {M : Nat} (hM : M ≤ 6) (kd : Int) (bx : Nat) (hb : bx ≤ 99) (R : List OrdI) (L : Nat) (hL : L ≤ 5000) (next : ∀ acc : List OrdI, acc.length ≤ L → Ev (fun k => impl_PossibleOrders.l1 k acc kd ((bx + 1 : Nat) : Int) Y h B) (acc ++ R, true)) :
  ∀ (d t : Nat) (acc : List OrdI), t + d = M → acc.length + d ≤ L → Ev (fun k => impl_PossibleOrders.l2 k acc kd (bx : Int) (M : Int) (t : Int) Y h B) (acc ++ (tl2 (can Y h B) kd (bx : Int) d t ++ R), true) := by
 intro d
 induction d with
 | zero =>
  intro t acc ht hl
  refine Ev.step (fun k => ?_) (next acc (by omega))
  simp only [impl_PossibleOrders.l2]
  rw [if_neg (by omega), wrap_succ (by omega)]
 | succ d ih =>
  intro t acc ht hl
  refine Ev.step (f := fun k => (impl_makeOrder.f k Y h B kd (bx : Int) (t : Int)).bind fun r => if r.2.2.2.2 = true then (if acc.length < 5864062014805 then impl_PossibleOrders.l2 k (acc ++ [⟨kd, (bx : Int), (t : Int)⟩]) kd (bx : Int) (M : Int) ((t + 1 : Nat) : Int) Y h B else none) else impl_PossibleOrders.l2 k acc kd (bx : Int) (M : Int) ((t + 1 : Nat) : Int) Y h B) (fun k => ?_) (Ev.bind (implMk_ev Y h B kd bx t (term_sm ok).1 (term_sm ok).2) ?_)
  ·simp only [impl_PossibleOrders.l2]
   rw [if_pos (by omega), wrap_succ (by omega)]
  ·unfold tl2
   by_cases c : (makeI Y h B kd (bx : Int) (t : Int)).2.2.2.2 = true
   ·have c' : can Y h B kd (bx : Int) (t : Int) = true := c
    simp only [if_pos c, if_pos c']
    refine ev_if (by omega) ?_
    have := ih (t + 1) (acc ++ [⟨kd, (bx : Int), (t : Int)⟩]) (by omega) (by simp only [List.length_append, List.length_cons, List.length_nil]; omega)
    simpa only [List.append_assoc] using this
   ·have c' : ¬ can Y h B kd (bx : Int) (t : Int) = true := c
    simp only [if_neg c, if_neg c', List.nil_append]
    exact ih (t + 1) acc (by omega) (by omega)
theorem specPos_l2 {Y : Rows} {h : Int} {B : Rows} (ok : termOk Y h B = true) (kd : Int) (bx : Nat) (hb : bx ≤ 99) (R : List OrdI) (L : Nat) (hL : L ≤ 5000) (next : ∀ acc : List OrdI, acc.length ≤ L → Ev (fun k => Aa.l1 k acc kd ((bx + 1 : Nat) : Int) Y h B) (acc ++ R, true)) :
  ∀ (d t : Nat) (acc : List OrdI), t + d = 6 → acc.length + d ≤ L → Ev (fun k => Aa.l2 k acc kd (bx : Int) (t : Int) Y h B) (acc ++ (tl2 (can Y h B) kd (bx : Int) d t ++ R), true) := by
 intro d
 induction d with
 | zero =>
  intro t acc ht hl
  refine Ev.step (fun k => ?_) (next acc (by omega))
  simp only [Aa.l2]
  rw [if_neg (by omega), wrap_succ (by omega)]
 | succ d ih =>
  intro t acc ht hl
  refine Ev.step (f := fun k => (spec_l24Make.f k Y h B kd (bx : Int) (t : Int)).bind fun r => if r.2.2.2 = true then (if acc.length < 5864062014805 then Aa.l2 k (acc ++ [⟨kd, (bx : Int), (t : Int)⟩]) kd (bx : Int) ((t + 1 : Nat) : Int) Y h B else none) else Aa.l2 k acc kd (bx : Int) ((t + 1 : Nat) : Int) Y h B) (fun k => ?_) (Ev.bind (specMk4_ev kd bx t ok) ?_)
  ·simp only [Aa.l2]
   rw [if_pos (by omega), wrap_succ (by omega)]
  ·unfold tl2 four
   by_cases c : (makeI Y h B kd (bx : Int) (t : Int)).2.2.2.2 = true
   ·have c' : can Y h B kd (bx : Int) (t : Int) = true := c
    simp only [if_pos c, if_pos c']
    refine ev_if (by omega) ?_
    have := ih (t + 1) (acc ++ [⟨kd, (bx : Int), (t : Int)⟩]) (by omega) (by simp only [List.length_append, List.length_cons, List.length_nil]; omega)
    simpa only [List.append_assoc] using this
   ·have c' : ¬ can Y h B kd (bx : Int) (t : Int) = true := c
    simp only [if_neg c, if_neg c', List.nil_append]
    exact ih (t + 1) acc (by omega) (by omega)
theorem implPos_l1 {Y : Rows} {h : Int} {B : Rows} (ok : termOk Y h B = true) {M : Nat} (hM : M ≤ 6) (hx : mx (Y.length : Int) (B.length : Int) = (M : Int)) (kd : Nat) (hk : kd ≤ 3) (R : List OrdI) (L : Nat) (hL : L ≤ 5000) (next : ∀ acc : List OrdI, acc.length ≤ L → Ev (fun k => impl_PossibleOrders.l0 k acc ((kd + 1 : Nat) : Int) Y h B) (acc ++ R, true)) :
  ∀ (d bx : Nat) (acc : List OrdI), bx + d = 100 → acc.length + 6 * d ≤ L → Ev (fun k => impl_PossibleOrders.l1 k acc (kd : Int) (bx : Int) Y h B) (acc ++ (tl1 (can Y h B) M (kd : Int) d bx ++ R), true) := by
 intro d
 induction d with
 | zero =>
  intro bx acc ht hl
  refine Ev.step (fun k => ?_) (next acc (by omega))
  simp only [impl_PossibleOrders.l1]
  rw [if_neg (by omega), wrap_succ (by omega)]
 | succ d ih =>
  intro bx acc ht hl
  have hc := implPos_l2 ok hM (kd : Int) bx (by omega) (tl1 (can Y h B) M (kd : Int) d (bx + 1) ++ R) (acc.length + 6) (by omega) (fun acc2 h2 => ih (bx + 1) acc2 (by omega) (by omega)) M 0 acc (by omega) (by omega)
  rw [← List.append_assoc (tl2 _ _ _ _ _)] at hc
  refine Ev.step (fun k => ?_) hc
  simp only [impl_PossibleOrders.l1]
  rw [if_pos (by omega), hx]
  rfl
theorem specPos_l1 {Y : Rows} {h : Int} {B : Rows} (ok : termOk Y h B = true) (kd : Nat) (hk : kd ≤ 3) (R : List OrdI) (L : Nat) (hL : L ≤ 5000) (next : ∀ acc : List OrdI, acc.length ≤ L → Ev (fun k => Aa.l0 k acc ((kd + 1 : Nat) : Int) Y h B) (acc ++ R, true)) :
  ∀ (d bx : Nat) (acc : List OrdI), bx + d = 100 → acc.length + 6 * d ≤ L → Ev (fun k => Aa.l1 k acc (kd : Int) (bx : Int) Y h B) (acc ++ (tl1 (can Y h B) 6 (kd : Int) d bx ++ R), true) := by
 intro d
 induction d with
 | zero =>
  intro bx acc ht hl
  refine Ev.step (fun k => ?_) (next acc (by omega))
  simp only [Aa.l1]
  rw [if_neg (by omega), wrap_succ (by omega)]
 | succ d ih =>
  intro bx acc ht hl
  have hc := specPos_l2 ok (kd : Int) bx (by omega) (tl1 (can Y h B) 6 (kd : Int) d (bx + 1) ++ R) (acc.length + 6) (by omega) (fun acc2 h2 => ih (bx + 1) acc2 (by omega) (by omega)) 6 0 acc (by omega) (by omega)
  rw [← List.append_assoc (tl2 _ _ _ _ _)] at hc
  have sk := ih (bx + 1) acc (by omega) (by omega)
  have go : Ev (fun k => Aa.j2 k acc (kd : Int) (bx : Int) false Y h B) (acc ++ (tl1 (can Y h B) 6 (kd : Int) (d + 1) bx ++ R), true) := by
   refine Ev.step (fun k => ?_) hc
   simp only [Aa.j2]
   rw [if_neg (by decide)]
   rfl
  refine Ev.step (f := fun k => (Ae.f k Y (bx : Int)).bind fun q => (Ah.f k h B (bx : Int)).bind fun p => if q.1 < 0 then Aa.j2 k acc (kd : Int) (bx : Int) (decide (p.1 < 0)) Y h B else Aa.j2 k acc (kd : Int) (bx : Int) false Y h B) (fun k => ?_) (Ev.bind (spec_l5Find_ev Y bx (sm_ok (term_sm ok).1 (by omega))) (Ev.bind (spec_l9Find_ev h B bx (sm_ok (term_sm ok).2 (by omega))) ?_))
  ·simp only [Aa.l1]
   rw [if_pos (by omega)]
  ·by_cases c1 : (Aq 0 Y (bx : Int)).1 < 0
   ·simp only [if_pos c1]
    by_cases c2 : (Aq 0 B (bx : Int)).1 < 0
    ·rw [decide_eq_true c2]
     have e : tl2 (can Y h B) (kd : Int) (bx : Int) 6 0 = [] := tl2_none _ _ _ _ _ (fun s _ => by
      cases c : can Y h B (kd : Int) (bx : Int) (s : Int) with
      | false => rfl
      | true => have := (can_in ok c).1; omega)
     refine Ev.step (fun k => ?_) (by rw [tl1, e, List.nil_append]; exact sk)
     simp only [Aa.j2]
     rw [if_pos trivial, wrap_succ (by omega)]
    ·rw [decide_eq_false c2]; exact go
   ·simp only [if_neg c1]; exact go
set_option maxRecDepth 100000 in
theorem implPos_l0 {Y : Rows} {h : Int} {B : Rows} (ok : termOk Y h B = true) {M : Nat} (hM : M ≤ 6) (hx : mx (Y.length : Int) (B.length : Int) = (M : Int)) : ∀ (d kd : Nat) (acc : List OrdI), kd + d = 4 → acc.length + 600 * d ≤ 2000 → Ev (fun k => impl_PossibleOrders.l0 k acc (kd : Int) Y h B) (acc ++ tl0 (can Y h B) M d kd, true) := by
 intro d
 induction d with
 | zero =>
  intro kd acc hk hl
  refine Ev.step (f := fun _ => some (acc, true)) (fun k => ?_) (by rw [tl0, List.append_nil]; exact Ev.now _)
  simp only [impl_PossibleOrders.l0]
  rw [if_neg (by omega)]
 | succ d ih =>
  intro kd acc hk hl
  have k3 : kd ≤ 3 := by omega
  have h5 : acc.length + 600 ≤ 5000 := by omega
  have h6 : acc.length + 6 * 99 ≤ acc.length + 600 := by omega
  have hc := implPos_l1 ok hM hx kd k3 (tl0 (can Y h B) M d (kd + 1)) (acc.length + 600) h5 (fun acc2 h2 => ih (kd + 1) acc2 (by omega) (by omega)) 99 1 acc rfl h6
  refine Ev.step (fun k => ?_) hc
  simp only [impl_PossibleOrders.l0]
  rw [if_pos (by omega)]
  rfl
set_option maxRecDepth 100000 in
theorem specPos_l0 {Y : Rows} {h : Int} {B : Rows} (ok : termOk Y h B = true) : ∀ (d kd : Nat) (acc : List OrdI), kd + d = 4 → acc.length + 600 * d ≤ 2000 → Ev (fun k => Aa.l0 k acc (kd : Int) Y h B) (acc ++ tl0 (can Y h B) 6 d kd, true) := by
 intro d
 induction d with
 | zero =>
  intro kd acc hk hl
  refine Ev.step (f := fun _ => some (acc, true)) (fun k => ?_) (by rw [tl0, List.append_nil]; exact Ev.now _)
  simp only [Aa.l0]
  rw [if_neg (by omega)]
 | succ d ih =>
  intro kd acc hk hl
  have k3 : kd ≤ 3 := by omega
  have h5 : acc.length + 600 ≤ 5000 := by omega
  have h6 : acc.length + 6 * 99 ≤ acc.length + 600 := by omega
  have hc := specPos_l1 ok kd k3 (tl0 (can Y h B) 6 d (kd + 1)) (acc.length + 600) h5 (fun acc2 h2 => ih (kd + 1) acc2 (by omega) (by omega)) 99 1 acc rfl h6
  refine Ev.step (fun k => ?_) hc
  simp only [Aa.l0]
  rw [if_pos (by omega)]
  rfl
end
def posOf (Y : Rows) (h : Int) (B : Rows) : List OrdI × Bool := if termOk Y h B = true then (tl0 (can Y h B) 6 3 1, true) else ([], false)
theorem mx_nat (a b : Nat) : mx (a : Int) (b : Int) = ((max a b : Nat) : Int) := by
 unfold mx
 split <;> omega
theorem implPos_ev (Y : Rows) (h : Int) (B : Rows) (hY : rowsOk Y) (hB : rowsOk B) : Ev (fun k => impl_PossibleOrders.f k Y h B) (posOf Y h B) := by
 refine Ev.bind (implTerm_ev Y h B hY hB) ?_
 unfold posOf
 by_cases c : termOk Y h B = true
 ·simp only [if_pos c]
  have hM : max Y.length B.length ≤ 6 := Nat.max_le.2 ⟨(term_sm c).1.1, (term_sm c).2.1⟩
  have hc := implPos_l0 c hM (mx_nat _ _) 3 1 [] (by omega) (by simp)
  rw [List.nil_append] at hc
  have e := tl0_more (can Y h B) (max Y.length B.length) (6 - max Y.length B.length) (fun kd bx s hs => by
   cases c2 : can Y h B kd bx (s : Int) with
   | false => rfl
   | true => have := (can_in c c2).2; omega) 3 1
  rw [show max Y.length B.length + (6 - max Y.length B.length) = 6 by omega] at e
  rw [e]
  exact hc
 ·simp only [if_neg c]; exact Ev.now _
theorem specPos_ev (Y : Rows) (h : Int) (B : Rows) (hY : rowsOk Y) (hB : rowsOk B) : Ev (fun k => Aa.f k Y h B) (posOf Y h B) := by
 refine Ev.bind (Ev.now _) (Ev.bind (specTerm_ev Y h B hY hB) ?_)
 unfold posOf
 by_cases c : termOk Y h B = true
 ·simp only [if_pos c]
  have hc := specPos_l0 c 3 1 [] (by omega) (by simp)
  rw [List.nil_append] at hc
  exact hc
 ·simp only [if_neg c]; exact Ev.now _
theorem posOf_len (Y : Rows) (h : Int) (B : Rows) : (posOf Y h B).1.length ≤ 1782 := by
 unfold posOf
 split
 ·have := tl0_len (can Y h B) 6 3 1; omega
 ·simp
end Go.Proofs.Ytnggfglmjdiaaaa.X

namespace Go.Proofs.Ytnggfglmjdiaaaa.Pure
open Go.RowKit Go.Proofs.YtnggfglmjdiaaaaW.PrintWords Go.Proofs.YtnggfglmjdiaaaaL Go.Proofs.Ytnggfglmjdiaaaa.X Go.Proofs.YtnggfglmjdiaaaaOwn
theorem FnExactPossibleOrders : OFnExactPossibleOrders.Pure := by
 intro x hx
 refine ev_rounds ?_
 obtain ⟨h1, h0, h2⟩ := hx
 obtain ⟨r, hr, hb⟩ := szTerm_ev x.f0.f0 x.f1.f0 x.f1.f1 (by have := h1.1; omega) (fun s hs => by have := (h1.2.2 s hs).1; omega) (by have := h2.1; omega) (fun s hs => by have := (h2.2.2 s hs).1; omega)
 unfold Dp.f
 refine Ev.bind hr ?_
 by_cases c : r < 0
 ·simp only [if_pos c]; exact Ev.now _
 ·obtain ⟨hY, hS⟩ := hb c
  generalize x.f0.f0 = Y at *
  generalize x.f1.f0 = hh at *
  generalize x.f1.f1 = S at *
  have hT := toTerm_ev Y hh S hY hS
  have hl := posOf_len Y hh S
  have hi := implPos_ev Y hh S hY hS
  have hs := specPos_ev Y hh S hY hS
  generalize posOf Y hh S = R at hl hi hs
  have hc := eqOrderS_ev R.1 (by omega)
  refine ev_past c ?_
  refine Ev.bind hT (Ev.bind hs (Ev.bind hT (Ev.bind hi ?_)))
  refine Ev.bind hc (ev_if rfl (ev_if rfl ?_))
  refine Ev.bind hT (Ev.bind (eqTerm_ev Y hh S hY hS) (ev_if rfl ?_))
  have tY := total_le 1048576 Y hY.2
  have tS := total_le 1048576 S hS.2
  have lY := Nat.mul_le_mul_left 1048576 hY.1
  have lS := Nat.mul_le_mul_left 1048576 hS.1
  refine Ev.bind (markTerm_at Y hh S 1 (by unfold termN; omega) (by have := hY.1; omega) (by have := hS.1; omega)) ?_
  refine Ev.bind hc (ev_if rfl (ev_if (by show ¬ ((1 + termN Y S : Nat) : Int) < 0; omega) (ev_if rfl ?_)))
  refine Ev.bind (markO_at R.1 1 (by omega)) ?_
  have hd := heldO_at R.1.length 1 (by omega)
  refine Ev.bind hd (ev_if (by omega) (ev_if rfl ?_))
  refine Ev.bind hT (Ev.bind hi ?_)
  refine Ev.bind hc (ev_if rfl (ev_if rfl ?_))
  refine Ev.bind hd (ev_if (by omega) (ev_if rfl ?_))
  exact Ev.now _
end Go.Proofs.Ytnggfglmjdiaaaa.Pure


namespace Go.Proofs.Ytnggfglmjdiaaaa.fnExactPossibleOrders
open Go.ChangeShapes Go.WideShapes Go.ChangeAt Go.RowKit
open Go.ChangeMaps (open_string shut_string)
open Go.Joins
open Go.Proofs.YtnggfglmjdiaaaaW.PrintWords Go.Proofs.YtnggfglmjdiaaaaW.PrintLast Go.Proofs.YtnggfglmjdiaaaaW.PrintMore
open Go.Proofs.YtnggfglmjdiaaaaZ Go.Proofs.Ytnggfglmjdiaaaa.X Go.Proofs.Ytnggfglmjdiaaaa.X.OFnExactPossibleOrders
set_option linter.unusedVariables false
set_option linter.unusedSimpArgs false
theorem own : ownKnob Try.prog.godebug = none := by kernel_rfl
theorem laidOut : laidOutB Try.prog = true := by kernel_rfl
set_option maxRecDepth 100000 in
set_option maxHeartbeats 2000000 in
theorem lifted (os : Os) (started : os.Started) (H : Type) (enc : TypeId × Value → H) :
    ReturnsInHanded {} Try.checked os 7 .any (Rows.fnExactPossibleOrdersSpec.pre6 enc Try.prog Try.f7 Rows.fnExactPossibleOrdersRow.domain false) (Rows.fnExactPossibleOrdersSpec.post enc Try.prog Try.f7 false true false false) := by
  refine returnsInHanded_of_change_sized (C := Try.checked) own started Yba_ Try.func7
    (ChangeSpec.witness6 (enc := enc) (C := Try.checked) false ⟨#[], #[.agg #[.slice none 0 0, .int .i64 0, .slice none 0 0]], []⟩ 8 Yba_ Yba_ Yba_ Yba_) ?_
  intro W base args ds gs before hval0 hW hcnd hsz0 _
  have hsz : (DataW.weightsEach Try.prog (Try.f7.params.toList ++ Rows.fnExactPossibleOrdersSpec.plain.varTypes Try.prog) (ds ++ gs)).all (· ≤ reachBytes) = true := hsz0
  have hval : ∀ (j : Nat) t v, Try.f7.params[j]? = some t → args[j]? = some v → Value.okWide Try.prog W .any base t v := hval0
  have hW' := hW
  obtain ⟨p, q, hA0, hV, rfl, hfz, hnd⟩ := hW
  have hA : DataW.TrodAll enc Try.prog W 0 (fun _ => true) true Try.f7.params.toList args.toList ds p := hA0
  rw [Try.params7] at hA hval hsz
  obtain ⟨v0, vs0, d0, ds0, p0, q0, hargs, rfl, rfl, h0, r0⟩ := trodAll_cons hA
  obtain ⟨rfl, rfl, rfl⟩ := trodAll_nil r0
  obtain rfl : args = #[v0] := by cases args; simp_all
  obtain ⟨rfl, rfl⟩ := trodVars_none hV
  obtain ⟨cs0, rfl, hs0⟩ := okWide_struct Try.underlying28 (hval 0 28 v0 rfl rfl)
  have k0 := h0
  have lt0 : ∀ x ∈ p0, x.block < W.heap.size := by obtain ⟨m, hm⟩ := k0; exact DataW.trod_lt m _ _ _ hm
  obtain ⟨x0, hK0, w0⟩ : ∃ x : S28, k28.K W x cs0.toList ∧ fitsT28 x := by
    obtain ⟨fuel, hf⟩ := h0
    exact opensT28 hf (weights_param hsz (j := 0) rfl rfl)
  obtain ⟨A0_0, c0_0, A0_2, c0_2, e0, hc0_0, hr0_0, hc0_2, hr0_2⟩ := k28_open hK0
  obtain rfl : cs0 = #[.slice A0_0 x0.f0.f0.length c0_0, .int .i64 x0.f1.f0, .slice A0_2 x0.f1.f1.length c0_2] := by cases cs0; simpa using e0
  clear hA0 hval0 hsz0 hsz
  obtain ⟨k, h⟩ := Go.Proofs.Ytnggfglmjdiaaaa.Pure.FnExactPossibleOrders x0 w0
  refine (Dp.calls k A0_0 c0_0 x0.f0.f0 x0.f1.f0 A0_2 c0_2 x0.f1.f1 true W hr0_0 hc0_0 hr0_2 hc0_2 h rfl).mono fun e W' ⟨he, bel0⟩ => ?_
  have bel : Below W.heap.size W W' := bel0
  subst he
  exact ⟨_, rfl, _, _, _, [], _, [], hW', trodAll_mk1 (shut_bool Try.underlying4 _), (trodAll_cons_mk (Below.trod laidOut Yba_ (of_decide_eq_true Yba_) k0 bel lt0) trodAll_mk0), rfl, bel.frame _, fun h => by cases h⟩
theorem over : Rows.fnExactPossibleOrdersRow.holds Try.pinned (OpenSpec.ofChange Rows.fnExactPossibleOrdersSpec) :=
  OpenClaim.holds_of_wide 7 Try.f7 rfl rfl rfl rfl rfl rfl rfl ⟨rfl, rfl, rfl, rfl, rfl⟩ rfl rfl rfl rfl rfl Yba_ Try.func7 Yba_
    (of_decide_eq_true Yba_) (by unfold Func.isWrapper; first | (rw [if_pos (by decide +kernel)]; kernel_rfl) | (rw [if_neg (by decide +kernel)]; exact ⟨rfl, rfl⟩))
    (fun os started H enc _ => lifted os started H enc)
theorem proved : Rows.FnExactPossibleOrdersSaid := over
#print axioms proved
end Go.Proofs.Ytnggfglmjdiaaaa.fnExactPossibleOrders
namespace Go.Proofs.Ytnggfglmjdiaaaa
/-- The row, under a short name, for the claim. -/
theorem fnExactPossibleOrders_holds : Rows.FnExactPossibleOrdersSaid := fnExactPossibleOrders.proved
end Go.Proofs.Ytnggfglmjdiaaaa

