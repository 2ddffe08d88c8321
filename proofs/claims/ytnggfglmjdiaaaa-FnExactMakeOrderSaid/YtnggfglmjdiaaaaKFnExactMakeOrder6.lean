/- The law FnExactMakeOrder answers true for every input that the row lets in, and leaves its arguments as they were. Conditions: none beyond the row's own. -/
import Derived.Test.YtnggfglmjdiaaaaRows
import Derived.WalkKit
import Derived.ProofKit
import Derived.OpenShut
import Derived.ShutString
import Derived.ChangeOld
import Derived.Below
import Derived.SizedLaws
import Derived.Lib.SmallJoins
import Derived.Test.YtnggfglmjdiaaaaKFnExactMakeOrder1
import Derived.Test.YtnggfglmjdiaaaaKFnExactMakeOrder2
import Derived.Test.YtnggfglmjdiaaaaKFnExactMakeOrder3
import Derived.Test.YtnggfglmjdiaaaaKFnExactMakeOrder4
import Derived.Test.YtnggfglmjdiaaaaKFnExactMakeOrder5
set_option linter.unusedVariables false
set_option linter.unusedSimpArgs false
namespace Go.Proofs.Ytnggfglmjdiaaaa.X
open Go.RowKit Go.Proofs.YtnggfglmjdiaaaaW.PrintWords Go.Proofs.YtnggfglmjdiaaaaL
theorem goodRow_iff : ∀ (s S S2 : List Int), S.Nodup → (E5 S s = some S2 ↔ (S2 = S ++ s ∧ (∀ n ∈ s, 1 ≤ n ∧ n ≤ 99) ∧ (S ++ s).Nodup))
 | [], S, S2, hS => by simp [E5, hS]; exact ⟨fun h => h.symm, fun h => h.symm⟩
 | n :: r, S, S2, hS => by
  unfold E5
  by_cases c : 1 ≤ n ∧ n ≤ 99 ∧ ¬ n ∈ S
  ·have hS' : (S ++ [n]).Nodup := by rw [List.nodup_append]; exact ⟨hS, by simp, fun a ha b hb e => c.2.2 (by simp at hb; rw [← hb, ← e]; exact ha)⟩
   rw [if_pos c, goodRow_iff r (S ++ [n]) S2 hS']
   simp only [List.append_assoc, List.singleton_append, List.mem_cons, forall_eq_or_imp]
   exact ⟨fun h => ⟨h.1, ⟨⟨c.1, c.2.1⟩, h.2.1⟩, h.2.2⟩, fun h => ⟨h.1, h.2.1.2, h.2.2⟩⟩
  ·rw [if_neg c]
   refine ⟨fun h => (by cases h), fun h => (c ⟨(h.2.1 n (by simp)).1, (h.2.1 n (by simp)).2, fun hn => ?_⟩).elim⟩
   have := h.2.2
   rw [List.nodup_append] at this
   exact this.2.2 n hn n (by simp) rfl
theorem goodRows_iff (m : Int) : ∀ (l : List (List Int)) (S : List Int), S.Nodup → (Di m S l = true ↔ ((∀ s ∈ l, (s.length : Int) ≤ m) ∧ (∀ s ∈ l, ∀ n ∈ s, 1 ≤ n ∧ n ≤ 99) ∧ (S ++ l.flatten).Nodup))
 | [], S, hS => by simp [Di, hS]
 | s :: r, S, hS => by
  unfold Di
  by_cases c : (s.length : Int) > m
  ·rw [if_pos c]; exact ⟨fun h => (by cases h), fun h => absurd (h.1 s (by simp)) (by omega)⟩
  ·rw [if_neg c]
   cases g : E5 S s with
   | none =>
    refine ⟨fun h => (by cases h), fun h => ?_⟩
    have hn : (S ++ s).Nodup := by
     have := h.2.2; rw [List.flatten_cons, ← List.append_assoc, List.nodup_append] at this; exact this.1
    have := (goodRow_iff s S (S ++ s) hS).2 ⟨rfl, h.2.1 s (by simp), hn⟩
    rw [g] at this; cases this
   | some S2 =>
    obtain ⟨rfl, h1, h2⟩ := (goodRow_iff s S S2 hS).1 g
    simp only
    rw [goodRows_iff m r (S ++ s) h2]
    simp only [List.flatten_cons, List.mem_cons, forall_eq_or_imp, List.append_assoc]
    exact ⟨fun h => ⟨⟨by omega, h.1⟩, ⟨h1, h.2.1⟩, h.2.2⟩, fun h => ⟨h.1.2, h.2.1.2, h.2.2⟩⟩
theorem idxFrom_hit : ∀ (l : List Int) (k : Nat) (n : Int), 0 ≤ idxFrom k l n → ∃ j : Nat, idxFrom k l n = ((k + j : Nat) : Int) ∧ l[j]? = some n
 | [], k, n, h => by simp [idxFrom] at h
 | x :: r, k, n, h => by
  unfold idxFrom at h ⊢
  by_cases c : x = n
  ·rw [if_pos c]; exact ⟨0, rfl, by simp [c]⟩
  ·rw [if_neg c] at h ⊢
   obtain ⟨j, hj, hx⟩ := idxFrom_hit r (k + 1) n h
   exact ⟨j + 1, by rw [hj]; congr 1; omega, by simpa using hx⟩
theorem idxFrom_in : ∀ (l : List Int) (k : Nat) (n : Int), n ∈ l → 0 ≤ idxFrom k l n
 | [], k, n, h => by simp at h
 | x :: r, k, n, h => by
  unfold idxFrom
  by_cases c : x = n
  ·rw [if_pos c]; omega
  ·rw [if_neg c]
   rcases List.mem_cons.1 h with e | h
   ·exact absurd e.symm c
   ·exact idxFrom_in r (k + 1) n h
theorem find_hit : ∀ (l : List (List Int)) (k : Nat) (n : Int), 0 ≤ (findFrom k l n).1 → ∃ (i j : Nat) (s : List Int), findFrom k l n = (((k + i : Nat) : Int), (j : Int)) ∧ l[i]? = some s ∧ s[j]? = some n
 | [], k, n, h => by simp [findFrom] at h
 | x :: r, k, n, h => by
  unfold findFrom at h ⊢
  by_cases c : idxFrom 0 x n ≥ 0
  ·rw [if_pos c]
   obtain ⟨j, hj, hx⟩ := idxFrom_hit x 0 n c
   exact ⟨0, j, x, by rw [hj]; simp, rfl, hx⟩
  ·rw [if_neg c] at h ⊢
   obtain ⟨i, j, s, hj, hs, hx⟩ := find_hit r (k + 1) n h
   exact ⟨i + 1, j, s, by rw [hj]; congr 2; omega, by simpa using hs, hx⟩
theorem find_in : ∀ (l : List (List Int)) (k : Nat) (n : Int), n ∈ l.flatten → 0 ≤ (findFrom k l n).1
 | [], k, n, h => by simp at h
 | x :: r, k, n, h => by
  unfold findFrom
  by_cases c : idxFrom 0 x n ≥ 0
  ·rw [if_pos c]; omega
  ·rw [if_neg c]
   rw [List.flatten_cons, List.mem_append] at h
   rcases h with h | h
   ·exact absurd (idxFrom_in x 0 n h) c
   ·exact find_in r (k + 1) n h
theorem place_one {l : List (List Int)} (hn : l.flatten.Nodup) {i j i' j' : Nat} {s s' : List Int} {n : Int} (h1 : l[i]? = some s) (h2 : s[j]? = some n) (h1' : l[i']? = some s') (h2' : s'[j']? = some n) : i = i' ∧ j = j' ∧ s = s' := by
 have hp := List.pairwise_flatten.1 hn
 have hi : i = i' := by
  obtain ⟨a, ea⟩ := List.getElem?_eq_some_iff.1 h1
  obtain ⟨b, eb⟩ := List.getElem?_eq_some_iff.1 h1'
  have hq := List.pairwise_iff_getElem.1 hp.2
  rcases Nat.lt_trichotomy i i' with c | c | c
  ·exact absurd rfl (hq i i' a b c n (by rw [ea]; exact List.mem_of_getElem? h2) n (by rw [eb]; exact List.mem_of_getElem? h2'))
  ·exact c
  ·exact absurd rfl (hq i' i b a c n (by rw [eb]; exact List.mem_of_getElem? h2') n (by rw [ea]; exact List.mem_of_getElem? h2))
 subst hi
 obtain rfl : s = s' := Option.some.inj (h1.symm.trans h1')
 obtain ⟨a, ea⟩ := List.getElem?_eq_some_iff.1 h2
 obtain ⟨b, eb⟩ := List.getElem?_eq_some_iff.1 h2'
 have hs := List.pairwise_iff_getElem.1 (hp.1 s (List.mem_of_getElem? h1))
 refine ⟨rfl, ?_, rfl⟩
 rcases Nat.lt_trichotomy j j' with c | c | c
 ·exact absurd (ea.trans eb.symm) (hs j j' a b c)
 ·exact c
 ·exact absurd (eb.trans ea.symm) (hs j' j b a c)
theorem topIs_iff (b : Int) (s : List Int) : topIs b s = true ↔ (0 < s.length ∧ s[s.length - 1]? = some b) := by
 unfold topIs rd
 by_cases c : 0 < s.length
 ·have e : ((s.length : Int) - 1).toNat = s.length - 1 := by omega
  rw [e]
  simp [c, List.getD_eq_getElem?_getD, List.getElem?_eq_getElem (show s.length - 1 < s.length by omega)]
 ·simp [c]
theorem find_top {l : List (List Int)} (hn : l.flatten.Nodup) {i : Nat} {s : List Int} {b : Int} (hi : l[i]? = some s) (ht : topIs b s = true) : findFrom 0 l b = ((i : Int), (s.length : Int) - 1) ∧ idxRow (topIs b) l = (i : Int) := by
 obtain ⟨h0, hl⟩ := (topIs_iff b s).1 ht
 constructor
 ·obtain ⟨i', j', s', he, h1, h2⟩ := find_hit l 0 b (find_in l 0 b (List.mem_flatten.2 ⟨s, List.mem_of_getElem? hi, List.mem_of_getElem? hl⟩))
  obtain ⟨rfl, rfl, rfl⟩ := place_one hn hi hl h1 h2
  rw [he]
  congr 1
  ·simp
  ·omega
 ·obtain ⟨hil, he⟩ := List.getElem?_eq_some_iff.1 hi
  have e : l.findIdx? (topIs b) = some i := by
   rw [List.findIdx?_eq_some_iff_getElem]
   refine ⟨hil, by rw [he]; exact ht, fun j hj => ?_⟩
   cases c : topIs b l[j] with
   | false => simp
   | true =>
    have c2 := (topIs_iff b _).1 c
    have := place_one hn hi hl (List.getElem?_eq_getElem (by omega)) c2.2
    omega
  simp [idxRow, e]
theorem idxRow_at (b : Int) (l : List (List Int)) (h : ¬ idxRow (topIs b) l < 0) : ∃ (i : Nat) (s : List Int), idxRow (topIs b) l = (i : Int) ∧ l[i]? = some s ∧ topIs b s = true := by
 unfold idxRow at h ⊢
 cases e : l.findIdx? (topIs b) with
 | none => rw [e] at h; exact absurd (by decide) h
 | some n =>
  rw [List.findIdx?_eq_some_iff_getElem] at e
  obtain ⟨hn, hp, _⟩ := e
  exact ⟨n, l[n], rfl, List.getElem?_eq_getElem hn, hp⟩
theorem find_low {l : List (List Int)} {b : Int} (hx : idxRow (topIs b) l < 0) (h : 0 ≤ (findFrom 0 l b).1) : (findFrom 0 l b).2 ≠ ((rd_L1 l (findFrom 0 l b).1).length : Int) - 1 := by
 obtain ⟨i, j, s, he, h1, h2⟩ := find_hit l 0 b h
 rw [he]
 simp only [Nat.zero_add]
 intro hc
 have er : rd_L1 l (i : Int) = s := by simp [rd_L1, List.getD_eq_getElem?_getD, h1]
 rw [er] at hc
 obtain ⟨a, ea⟩ := List.getElem?_eq_some_iff.1 h2
 have ht : topIs b s = true := (topIs_iff b s).2 ⟨by omega, by rw [show s.length - 1 = j by omega]; exact h2⟩
 unfold idxRow at hx
 cases e : l.findIdx? (topIs b) with
 | some n => rw [e] at hx; simp at hx; omega
 | none =>
  rw [List.findIdx?_eq_none_iff] at e
  rw [e s (List.mem_of_getElem? h1)] at ht; cases ht
theorem rdL_some {l : List (List Int)} {i : Nat} {s : List Int} (h : l[i]? = some s) : rd_L1 l (i : Int) = s := by simp [rd_L1, List.getD_eq_getElem?_getD, h]
theorem len_cut (l : List (List Int)) (i : Int) : (cutRow l i).length = l.length := by simp [cutRow]
abbrev Rows := List (List Int)
def finI (Y : Rows) (h : Int) (B : Rows) (a : Int) : Rows × Int × Rows × Int × Bool := if termOk Y h B = true then (Y, h, B, a, true) else ([], 0, [], 0, false)
/-- The program's step. -/
def makeI (Y : Rows) (h : Int) (B : Rows) (K b dd : Int) : Rows × Int × Rows × Int × Bool :=
 if K = 1 then (if idxRow (topIs b) Y < 0 then ([], 0, [], 0, false) else if inRows Y dd = true then (if dd = idxRow (topIs b) Y then ([], 0, [], 0, false) else finI (putRow (cutRow Y (idxRow (topIs b) Y)) dd b) h B (idxRow (topIs b) Y)) else ([], 0, [], 0, false))
 else if K = 2 then (if idxRow (topIs b) Y < 0 then ([], 0, [], 0, false) else if inRows B dd = true then finI (cutRow Y (idxRow (topIs b) Y)) h (putRow B dd b) (idxRow (topIs b) Y) else ([], 0, [], 0, false))
 else if K = 3 then (if idxRow (topIs b) B < 0 then ([], 0, [], 0, false) else if inRows Y dd = true then finI (putRow Y dd b) h (cutRow B (idxRow (topIs b) B)) (idxRow (topIs b) B) else ([], 0, [], 0, false))
 else ([], 0, [], 0, false)
def finS (Y : Rows) (h : Int) (B : Rows) : Rows × Int × Rows × Bool := if termOk Y h B = true then (Y, h, B, true) else ([], 0, [], false)
/-- The last of its row is found. -/
def Ef (l : Rows) (q : Int × Int) : Prop := 0 ≤ q.1 ∧ q.2 = ((rd_L1 l q.1).length : Int) - 1
instance (l : Rows) (q : Int × Int) : Decidable (Ef l q) := inferInstanceAs (Decidable (_ ∧ _))
/-- The reference's step. -/
def makeS (Y : Rows) (h : Int) (B : Rows) (K b dd : Int) : Rows × Int × Rows × Bool :=
 if K = 3 then (if Ef B (findFrom 0 B b) then (if inRows Y dd = true then finS (putRow Y dd b) h (cutRow B (findFrom 0 B b).1) else ([], 0, [], false)) else ([], 0, [], false))
 else if Ef Y (findFrom 0 Y b) then (if K = 1 then (if dd = (findFrom 0 Y b).1 then ([], 0, [], false) else if inRows Y dd = true then finS (putRow (cutRow Y (findFrom 0 Y b).1) dd b) h B else ([], 0, [], false))
  else if K = 2 then (if inRows B dd = true then finS (cutRow Y (findFrom 0 Y b).1) h (putRow B dd b) else ([], 0, [], false)) else ([], 0, [], false)) else ([], 0, [], false)
def four (r : Rows × Int × Rows × Int × Bool) : Rows × Int × Rows × Bool := (r.1, r.2.1, r.2.2.1, r.2.2.2.2)
theorem found_idx {l : Rows} (hn : l.flatten.Nodup) (b : Int) : (Ef l (findFrom 0 l b) ∧ ¬ idxRow (topIs b) l < 0 ∧ (findFrom 0 l b).1 = idxRow (topIs b) l) ∨ (¬ Ef l (findFrom 0 l b) ∧ idxRow (topIs b) l < 0) := by
 by_cases c : idxRow (topIs b) l < 0
 ·exact .inr ⟨fun h => find_low c h.1 h.2, c⟩
 ·obtain ⟨i, s, hi, hs, ht⟩ := idxRow_at b l c
  obtain ⟨h1, h2⟩ := find_top hn hs ht
  exact .inl ⟨⟨by rw [h1]; simp, by rw [h1]; simp only; rw [rdL_some hs]⟩, c, by rw [h1, h2]⟩
theorem four_fin (Y : Rows) (h : Int) (B : Rows) (a : Int) : four (finI Y h B a) = finS Y h B := by
 unfold finI finS; by_cases c : termOk Y h B = true
 ·rw [if_pos c, if_pos c]; rfl
 ·rw [if_neg c, if_neg c]; rfl
theorem make_eq {Y : Rows} {h : Int} {B : Rows} (hY : Y.flatten.Nodup) (hB : B.flatten.Nodup) (K b dd : Int) : makeS Y h B K b dd = four (makeI Y h B K b dd) := by
 unfold makeS makeI
 by_cases k3 : K = 3
 ·subst k3
  rw [if_pos (rfl : (3 : Int) = 3), if_neg (show ¬ (3 : Int) = 1 by decide), if_neg (show ¬ (3 : Int) = 2 by decide), if_pos (rfl : (3 : Int) = 3)]
  rcases found_idx hB b with ⟨h1, h2, h3⟩ | ⟨h1, h2⟩
  ·rw [if_pos h1, if_neg h2, h3]
   by_cases c : inRows Y dd = true
   ·rw [if_pos c, if_pos c, four_fin]
   ·rw [if_neg c, if_neg c]; rfl
  ·rw [if_neg h1, if_pos h2]; rfl
 ·rw [if_neg k3]
  rcases found_idx hY b with ⟨h1, h2, h3⟩ | ⟨h1, h2⟩
  ·rw [if_pos h1, h3]
   by_cases k1 : K = 1
   ·rw [if_pos k1, if_pos k1, if_neg h2]
    by_cases c : inRows Y dd = true
    ·rw [if_pos c, if_pos c]
     by_cases c2 : dd = idxRow (topIs b) Y
     ·rw [if_pos c2, if_pos c2]; rfl
     ·rw [if_neg c2, if_neg c2, four_fin]
    ·rw [if_neg c, if_neg c]; split <;> rfl
   ·rw [if_neg k1, if_neg k1]
    by_cases k2 : K = 2
    ·rw [if_pos k2, if_pos k2, if_neg h2]
     by_cases c : inRows B dd = true
     ·rw [if_pos c, if_pos c, four_fin]
     ·rw [if_neg c, if_neg c]; rfl
    ·rw [if_neg k2, if_neg k2, if_neg k3]; rfl
  ·rw [if_neg h1]
   by_cases k1 : K = 1
   ·rw [if_pos k1, if_pos h2]; rfl
   ·rw [if_neg k1]
    by_cases k2 : K = 2
    ·rw [if_pos k2, if_pos h2]; rfl
    ·rw [if_neg k2, if_neg k3]; rfl
theorem spec_l9Find_ev (h : Int) (l : List (List Int)) (n : Int) (hl : rowsOk l) : Ev (fun k => spec_l9Find.f k h l n) (findFrom 0 l n) := by
 have key : ∀ (d i : Nat), i + d = l.length → Ev (fun k => spec_l9Find.l0 k n i h l) (findFrom i (l.drop i) n) := by
  intro d
  induction d with
  | zero =>
   intro i hi
   rw [List.drop_of_length_le (by omega)]
   exact Ev.step (f := fun _ => some _) (fun k => by simp only [spec_l9Find.l0]; rw [if_neg (by omega)]; rfl) (Ev.now _)
  | succ d ih =>
   intro i hi
   have hil : i < l.length := by omega
   have hs := hl.2 _ (List.getElem_mem hil)
   have hl1 := hl.1
   rw [List.drop_eq_getElem_cons hil]
   unfold findFrom
   have inner : ∀ (e j : Nat), j + e = l[i].length → Ev (fun k => spec_l9Find.l1 k n i j h l) (if idxFrom j (l[i].drop j) n ≥ 0 then ((i : Int), idxFrom j (l[i].drop j) n) else findFrom (i + 1) (l.drop (i + 1)) n) := by
    intro e
    induction e with
    | zero =>
     intro j hj
     rw [List.drop_of_length_le (by omega)]
     refine Ev.step (fun k => ?_) (ih (i + 1) (by omega))
     simp only [spec_l9Find.l1]
     rw [if_pos (by omega), if_pos (by omega), rdR l i hil, if_neg (by omega), wrap_succ (by omega)]
    | succ e ih2 =>
     intro j hj
     have hjl : j < l[i].length := by omega
     rw [List.drop_eq_getElem_cons hjl]
     unfold idxFrom
     by_cases c : l[i][j] = n
     ·simp only [if_pos c, if_pos (show (j : Int) ≥ 0 by omega)]
      refine Ev.step (f := fun _ => some _) (fun k => ?_) (Ev.now _)
      simp only [spec_l9Find.l1]
      rw [if_pos (by omega), if_pos (by omega), rdR l i hil, if_pos (by omega), if_pos (by omega), rd_at l[i] j hjl, if_pos c]
     ·simp only [if_neg c]
      refine Ev.step (fun k => ?_) (ih2 (j + 1) (by omega))
      simp only [spec_l9Find.l1]
      rw [if_pos (by omega), if_pos (by omega), rdR l i hil, if_pos (by omega), if_pos (by omega), rd_at l[i] j hjl, if_neg c, wrap_succ (by omega)]
   refine Ev.step (fun k => ?_) (inner l[i].length 0 (by omega))
   simp only [spec_l9Find.l0]
   rw [if_pos (by omega)]
   rfl
 exact Ev.congr (f := fun k => spec_l9Find.l0 k n ((0 : Nat) : Int) h l) (fun k => rfl) (by simpa using key l.length 0 (by omega))
end Go.Proofs.Ytnggfglmjdiaaaa.X

namespace Go.Proofs.Ytnggfglmjdiaaaa.X
open Go.RowKit Go.Proofs.YtnggfglmjdiaaaaW.PrintWords Go.Proofs.YtnggfglmjdiaaaaL Go.Proofs.YtnggfglmjdiaaaaOwn
/-- At most six rows of at most m numbers. -/
def sm (m : Nat) (l : Rows) : Prop := l.length ≤ 6 ∧ ∀ s ∈ l, s.length ≤ m
theorem sm_ok {m : Nat} {l : Rows} (h : sm m l) (hm : m ≤ 1048576) : rowsOk l := ⟨by have := h.1; omega, fun s hs => by have := h.2 s hs; omega⟩
theorem sm_up {m n : Nat} {l : Rows} (h : sm m l) (hm : m ≤ n) : sm n l := ⟨h.1, fun s hs => by have := h.2 s hs; omega⟩
theorem sm_rd {m : Nat} {l : Rows} (h : sm m l) (i : Int) : (rd_L1 l i).length ≤ m := by
 unfold rd_L1
 rw [List.getD_eq_getElem?_getD]
 cases e : l[i.toNat]? with
 | none => simp
 | some s => exact h.2 s (List.mem_of_getElem? e)
theorem sm_set {m : Nat} {l : Rows} (h : sm m l) (i : Nat) {s : List Int} (hs : s.length ≤ m) : sm m (l.set i s) := by
 refine ⟨by rw [List.length_set]; exact h.1, fun x hx => ?_⟩
 rcases List.mem_or_eq_of_mem_set hx with hx | rfl
 ·exact h.2 x hx
 ·exact hs
theorem sm_cut {m : Nat} {l : Rows} (h : sm m l) (i : Int) : sm m (cutRow l i) := sm_set h _ (by rw [List.length_take]; have := sm_rd h i; omega)
theorem sm_put {m : Nat} {l : Rows} (h : sm m l) (i b : Int) : sm (m + 1) (putRow l i b) := sm_set (sm_up h (by omega)) _ (by rw [List.length_append, List.length_singleton]; have := sm_rd h i; omega)
theorem term_sm {Y : Rows} {h : Int} {B : Rows} (ok : termOk Y h B = true) : sm 4 Y ∧ sm 4 B := by
 obtain ⟨h1, h2, _, h4, h5, _⟩ := term_small Y h B ok
 exact ⟨⟨h1, h4⟩, ⟨by omega, h5⟩⟩
theorem term_nodup {Y : Rows} {h : Int} {B : Rows} (ok : termOk Y h B = true) : Y.flatten.Nodup ∧ B.flatten.Nodup ∧ (∀ s ∈ Y, ∀ n ∈ s, 1 ≤ n ∧ n ≤ 99) ∧ (∀ s ∈ B, ∀ n ∈ s, 1 ≤ n ∧ n ≤ 99) ∧ ∀ s ∈ B, ∀ n ∈ s, (findFrom 0 Y n).1 < 0 := by
 unfold termOk yardOk bayOk at ok
 simp only [Bool.and_eq_true, decide_eq_true_eq] at ok
 obtain ⟨⟨⟨_, a3⟩, ⟨_, b4⟩⟩, c⟩ := ok
 have h1 := (goodRows_iff 4 Y [] List.nodup_nil).1 a3
 have h2 := (goodRows_iff h B [] List.nodup_nil).1 b4
 refine ⟨by simpa using h1.2.2, by simpa using h2.2.2, h1.2.1, h2.2.1, fun s hs n hn => ?_⟩
 have := List.all_eq_true.1 c s hs
 exact of_decide_eq_true (List.all_eq_true.1 this n hn)
theorem ans_ev {Y : Rows} {h : Int} {B : Rows} (a : Int) (hY : sm 5 Y) (hB : sm 5 B) : Ev (fun k => (impl_IsValidTerminal.f k Y h B).bind fun v => moAnswer v Y h B a) (finI Y h B a) := by
 refine Ev.bind (implTerm_ev Y h B (sm_ok hY (by omega)) (sm_ok hB (by omega))) ?_
 unfold finI moAnswer
 by_cases c : termOk Y h B = true
 ·simp only [if_pos c]; exact Ev.now _
 ·simp only [if_neg c]; exact Ev.now _
theorem implMk_ev (Y : Rows) (h : Int) (B : Rows) (K b d : Int) (hY : sm 4 Y) (hB : sm 4 B) : Ev (fun k => impl_makeOrder.f k Y h B K b d) (makeI Y h B K b d) := by
 unfold impl_makeOrder.f
 refine Ev.bind (implOwnTerm_ev Y h B (sm_ok hY (by omega)) (sm_ok hB (by omega))) ?_
 unfold makeI
 dsimp only
 have f1 := sm_rd (sm_cut hY (idxRow (topIs b) Y)) d
 have f2 := sm_rd hB d
 have f3 := sm_rd hY d
 by_cases k1 : K = 1
 ·simp only [if_pos k1]
  by_cases c : idxRow (topIs b) Y < 0
  ·simp only [if_pos c]; exact Ev.now _
  ·simp only [if_neg c]
   by_cases c2 : inRows Y d = true
   ·simp only [if_pos c2]
    by_cases c3 : d = idxRow (topIs b) Y
    ·simp only [if_pos c3]; exact Ev.now _
    ·simp only [if_neg c3]
     refine ev_if (by omega) (ans_ev _ (sm_put (sm_cut hY _) _ _) (sm_up hB (by omega)))
   ·simp only [if_neg c2]; exact Ev.now _
 ·simp only [if_neg k1]
  by_cases k2 : K = 2
  ·simp only [if_pos k2]
   by_cases c : idxRow (topIs b) Y < 0
   ·simp only [if_pos c]; exact Ev.now _
   ·simp only [if_neg c]
    by_cases c2 : inRows B d = true
    ·simp only [if_pos c2]
     refine ev_if (by omega) (ans_ev _ (sm_up (sm_cut hY _) (by omega)) (sm_put hB _ _))
    ·simp only [if_neg c2]; exact Ev.now _
  ·simp only [if_neg k2]
   by_cases k3 : K = 3
   ·simp only [if_pos k3]
    by_cases c : idxRow (topIs b) B < 0
    ·simp only [if_pos c]; exact Ev.now _
    ·simp only [if_neg c]
     by_cases c2 : inRows Y d = true
     ·simp only [if_pos c2]
      refine ev_if (by omega) (ans_ev _ (sm_put hY _ _) (sm_up (sm_cut hB _) (by omega)))
     ·simp only [if_neg c2]; exact Ev.now _
   ·simp only [if_neg k3]; exact Ev.now _
theorem inRows_cut (l : Rows) (i d : Int) : inRows (cutRow l i) d = inRows l d := by unfold inRows; rw [len_cut]
theorem lmFin_ev {Y : Rows} {h : Int} {B : Rows} (hY : sm 5 Y) (hB : sm 5 B) : Ev (fun k => (Ad.f k Y h B).bind fun v => Ew v Y h B) (finS Y h B) := by
 refine Ev.bind (specTerm_ev Y h B (sm_ok hY (by omega)) (sm_ok hB (by omega))) ?_
 unfold finS Ew
 by_cases c : termOk Y h B = true
 ·simp only [if_pos c]; exact Ev.now _
 ·simp only [if_neg c]; exact Ev.now _
theorem lmPutY_ev (Y : Rows) (h : Int) (B : Rows) (b d : Int) (hY : sm 4 Y) (hB : sm 4 B) : Ev (fun k => lmPutY k Y h B b d) (if inRows Y d = true then finS (putRow Y d b) h B else ([], 0, [], false)) := by
 unfold lmPutY
 have f := sm_rd hY d
 by_cases c : inRows Y d = true
 ·simp only [if_pos c]
  have e : Ce.f (rd_L1 Y d) = some (rd_L1 Y d) := l1Own_eq _ (by omega)
  simp only [e, Option.isSome_some, if_true, Option.bind_some]
  exact ev_if (by omega) (lmFin_ev (Y := putRow Y d b) (sm_put hY _ _) (sm_up hB (by omega)))
 ·simp only [if_neg c]; exact Ev.now _
theorem lmPutB_ev (Y : Rows) (h : Int) (B : Rows) (b d : Int) (hY : sm 4 Y) (hB : sm 4 B) : Ev (fun k => lmPutB k Y h B b d) (if inRows B d = true then finS Y h (putRow B d b) else ([], 0, [], false)) := by
 unfold lmPutB
 have f := sm_rd hB d
 by_cases c : inRows B d = true
 ·simp only [if_pos c]
  have e : Ce.f (rd_L1 B d) = some (rd_L1 B d) := l1Own_eq _ (by omega)
  simp only [e, Option.isSome_some, if_true, Option.bind_some]
  exact ev_if (by omega) (lmFin_ev (B := putRow B d b) (sm_up hY (by omega)) (sm_put hB _ _))
 ·simp only [if_neg c]; exact Ev.now _
theorem lmCut_eq (F : Rows) (b : Int) (ok : Bool) (go : Rows → Option (Rows × Int × Rows × Bool)) :
  lmCut F F (findFrom 0 F b).1 (findFrom 0 F b).2 ok go = if Ef F (findFrom 0 F b) then (if ok = true then go (cutRow F (findFrom 0 F b).1) else some ([], 0, [], false)) else some ([], 0, [], false) := by
 have hl : 0 ≤ (findFrom 0 F b).1 → (findFrom 0 F b).1 < (F.length : Int) ∧ 0 ≤ (findFrom 0 F b).2 := by
  intro h0
  obtain ⟨i, j, s, he, h1, h2⟩ := find_hit F 0 b h0
  have hi := (List.getElem?_eq_some_iff.1 h1).1
  rw [he]
  simp only [Nat.zero_add]
  omega
 by_cases L : Ef F (findFrom 0 F b)
 ·rw [if_pos L]
  obtain ⟨L1, L2⟩ := L
  obtain ⟨h1, h2⟩ := hl L1
  unfold lmCut
  rw [if_neg (show ¬ (findFrom 0 F b).1 < 0 by omega), if_pos h1, if_pos L2]
  by_cases c3 : ok = true
  ·rw [if_pos c3, if_pos c3, if_pos (show 0 ≤ (findFrom 0 F b).2 ∧ (findFrom 0 F b).1 < (F.length : Int) ∧ (findFrom 0 F b).2 ≤ ((rd_L1 F (findFrom 0 F b).1).length : Int) by omega)]
   unfold cutAt cutRow
   rw [show ((findFrom 0 F b).2).toNat = (rd_L1 F (findFrom 0 F b).1).length - 1 by omega]
  ·rw [if_neg c3, if_neg c3]
 ·rw [if_neg L]
  unfold lmCut
  by_cases c : (findFrom 0 F b).1 < 0
  ·rw [if_pos c]
  ·rw [if_neg c, if_pos (hl (by omega)).1, if_neg (fun z => L ⟨by omega, z⟩)]
theorem specMk_ev (Y : Rows) (h : Int) (B : Rows) (K b d : Int) (hY : sm 4 Y) (hB : sm 4 B) : Ev (fun k => spec_l24Make.f k Y h B K b d) (makeS Y h B K b d) := by
 unfold spec_l24Make.f
 refine Ev.bind (specOwnTerm_ev Y h B (sm_ok hY (by omega)) (sm_ok hB (by omega))) ?_
 unfold makeS
 dsimp only
 by_cases k3 : K = 3
 ·simp only [if_pos k3]
  refine Ev.bind (spec_l9Find_ev h B b (sm_ok hB (by omega))) ?_
  simp only [lmCut_eq, if_true]
  by_cases c : Ef B (findFrom 0 B b)
  ·simp only [if_pos c]
   exact lmPutY_ev Y h _ b d hY (sm_cut hB _)
  ·simp only [if_neg c]; exact Ev.now _
 ·simp only [if_neg k3]
  refine Ev.bind (spec_l5Find_ev Y b (sm_ok hY (by omega))) ?_
  simp only [lmCut_eq]
  by_cases k1 : K = 1
  ·simp only [if_pos k1]
   by_cases c : Ef Y (findFrom 0 Y b)
   ·simp only [if_pos c]
    by_cases c2 : d = (findFrom 0 Y b).1
    ·rw [if_pos c2]
     exact ev_eq (fun k => if_neg (by simp [c2]))
    ·rw [if_neg c2]
     refine Ev.congr (fun k => if_pos (by simp [c2])) ?_
     have := lmPutY_ev (cutRow Y (findFrom 0 Y b).1) h B b d (sm_cut hY _) hB
     rw [inRows_cut] at this
     exact this
   ·simp only [if_neg c]; exact Ev.now _
  ·simp only [if_neg k1]
   by_cases k2 : K = 2
   ·simp only [if_pos k2, if_true]
    by_cases c : Ef Y (findFrom 0 Y b)
    ·simp only [if_pos c]
     exact lmPutB_ev _ h B b d (sm_cut hY _) hB
    ·simp only [if_neg c]; exact Ev.now _
   ·simp only [if_neg k2, if_true]
    by_cases c : Ef Y (findFrom 0 Y b)
    ·simp only [if_pos c]; exact Ev.now _
    ·simp only [if_neg c]; exact Ev.now _
/-- The order made in a valid terminal. -/
def mkOf (Y : Rows) (h : Int) (B : Rows) (K b d : Int) : Rows × Int × Rows × Bool := if termOk Y h B = true then four (makeI Y h B K b d) else ([], 0, [], false)
theorem specMk4_ev {Y : Rows} {h : Int} {B : Rows} (K b d : Int) (ok : termOk Y h B = true) : Ev (fun k => spec_l24Make.f k Y h B K b d) (four (makeI Y h B K b d)) := by
 obtain ⟨h1, h2, _⟩ := term_nodup ok
 rw [← make_eq h1 h2]
 exact specMk_ev Y h B K b d (term_sm ok).1 (term_sm ok).2
theorem makeI_small (Y : Rows) (h : Int) (B : Rows) (K b d : Int) : (makeI Y h B K b d).2.2.2.2 = true ∧ termOk (makeI Y h B K b d).1 (makeI Y h B K b d).2.1 (makeI Y h B K b d).2.2.1 = true ∨ makeI Y h B K b d = ([], 0, [], 0, false) := by
 have fin : ∀ (Y1 : Rows) (h1 : Int) (B1 : Rows) (a : Int), (finI Y1 h1 B1 a).2.2.2.2 = true ∧ termOk (finI Y1 h1 B1 a).1 (finI Y1 h1 B1 a).2.1 (finI Y1 h1 B1 a).2.2.1 = true ∨ finI Y1 h1 B1 a = ([], 0, [], 0, false) := by
  intro Y1 h1 B1 a
  unfold finI
  by_cases c : termOk Y1 h1 B1 = true
  ·rw [if_pos c]; exact .inl ⟨rfl, c⟩
  ·rw [if_neg c]; exact .inr rfl
 unfold makeI
 repeat' first | exact .inr rfl | exact fin _ _ _ _ | split
theorem implMO_ev (Y : Rows) (h : Int) (B : Rows) (K b d : Int) (hY : rowsOk Y) (hB : rowsOk B) : Ev (fun k => Bq.f k Y h B K b d) (mkOf Y h B K b d) := by
 refine Ev.bind (implTerm_ev Y h B hY hB) ?_
 unfold mkOf
 by_cases c : termOk Y h B = true
 ·simp only [if_pos c]
  exact Ev.bind (implMk_ev Y h B K b d (term_sm c).1 (term_sm c).2) (Ev.now _)
 ·simp only [if_neg c]; exact Ev.now _
theorem specMO_ev (Y : Rows) (h : Int) (B : Rows) (K b d : Int) (hY : rowsOk Y) (hB : rowsOk B) : Ev (fun k => Dj.f k Y h B K b d) (mkOf Y h B K b d) := by
 refine Ev.bind (specTerm_ev Y h B hY hB) ?_
 unfold mkOf
 by_cases c : termOk Y h B = true
 ·simp only [if_pos c]
  exact Ev.bind (specMk4_ev K b d c) (Ev.now _)
 ·simp only [if_neg c]; exact Ev.now _
theorem mkOf_small (Y : Rows) (h : Int) (B : Rows) (K b d : Int) : rowsOk (mkOf Y h B K b d).1 ∧ rowsOk (mkOf Y h B K b d).2.2.1 ∧ termN (mkOf Y h B K b d).1 (mkOf Y h B K b d).2.2.1 ≤ 44 := by
 have nil : rowsOk ([] : Rows) := ⟨by simp, by simp⟩
 unfold mkOf
 by_cases c : termOk Y h B = true
 ·rw [if_pos c]
  rcases makeI_small Y h B K b d with ⟨_, h2⟩ | h2
  ·obtain ⟨s1, s2⟩ := term_sm h2
   exact ⟨sm_ok s1 (by omega), sm_ok s2 (by omega), (term_small _ _ _ h2).2.2.2.2.2⟩
  ·rw [h2]; exact ⟨nil, nil, by simp [four, termN, total]⟩
 ·rw [if_neg c]; exact ⟨nil, nil, by simp [termN, total]⟩
end Go.Proofs.Ytnggfglmjdiaaaa.X

namespace Go.Proofs.Ytnggfglmjdiaaaa.Pure
open Go.RowKit Go.Proofs.YtnggfglmjdiaaaaW.PrintWords Go.Proofs.YtnggfglmjdiaaaaL Go.Proofs.Ytnggfglmjdiaaaa.X Go.Proofs.YtnggfglmjdiaaaaOwn
theorem FnExactMakeOrder : OFnExactMakeOrder.Pure := by
 intro x z hx hz
 refine ev_rounds ?_
 obtain ⟨h1, h0, h2⟩ := hx
 obtain ⟨r, hr, hb⟩ := szTerm_ev x.f0.f0 x.f1.f0 x.f1.f1 (by have := h1.1; omega) (fun s hs => by have := (h1.2.2 s hs).1; omega) (by have := h2.1; omega) (fun s hs => by have := (h2.2.2 s hs).1; omega)
 unfold D6.f
 refine Ev.bind hr ?_
 by_cases c : r < 0
 ·simp only [if_pos c]; exact Ev.now _
 ·obtain ⟨hY, hS⟩ := hb c
  generalize x.f0.f0 = Y at *
  generalize x.f1.f0 = hh at *
  generalize x.f1.f1 = S at *
  generalize z.f0 = K
  generalize z.f1 = b
  generalize z.f2 = d
  have hT := toTerm_ev Y hh S hY hS
  have hO : Ev (fun k => laws_toOrder.f K b d) (K, b, d) := Ev.now _
  obtain ⟨g1, g2, g3⟩ := mkOf_small Y hh S K b d
  have hi := implMO_ev Y hh S K b d hY hS
  have hs := specMO_ev Y hh S K b d hY hS
  generalize mkOf Y hh S K b d = R at g1 g2 g3 hi hs
  have hc := eqTerm_ev R.1 R.2.1 R.2.2.1 g1 g2
  refine ev_past c ?_
  refine Ev.bind hT (Ev.bind hO (Ev.bind hs (Ev.bind hT (Ev.bind hO (Ev.bind hi ?_)))))
  refine Ev.bind hc (ev_if rfl (ev_if rfl ?_))
  refine Ev.bind hT (Ev.bind (eqTerm_ev Y hh S hY hS) (ev_if rfl ?_))
  have tY := total_le 1048576 Y hY.2
  have tS := total_le 1048576 S hS.2
  have lY := Nat.mul_le_mul_left 1048576 hY.1
  have lS := Nat.mul_le_mul_left 1048576 hS.1
  refine Ev.bind (markTerm_at Y hh S 1 (by unfold termN; omega) (by have := hY.1; omega) (by have := hS.1; omega)) ?_
  refine Ev.bind hc (ev_if rfl (ev_if (by show ¬ ((1 + termN Y S : Nat) : Int) < 0; omega) (ev_if rfl ?_)))
  refine Ev.bind (markTerm_at R.1 R.2.1 R.2.2.1 1 (by omega) (by have := g1.1; omega) (by have := g2.1; omega)) ?_
  have hd := heldTerm_at R.1 R.2.1 R.2.2.1 1 (by omega) (by have := g1.1; omega) (by have := g2.1; omega)
  refine Ev.bind hd (ev_if (by omega) (ev_if rfl ?_))
  refine Ev.bind hT (Ev.bind hO (Ev.bind hi ?_))
  refine Ev.bind hc (ev_if rfl (ev_if rfl ?_))
  refine Ev.bind hd (ev_if (by omega) (ev_if rfl ?_))
  exact Ev.now _
end Go.Proofs.Ytnggfglmjdiaaaa.Pure


namespace Go.Proofs.Ytnggfglmjdiaaaa.fnExactMakeOrder
open Go.ChangeShapes Go.WideShapes Go.ChangeAt Go.RowKit
open Go.ChangeMaps (open_string shut_string)
open Go.Joins
open Go.Proofs.YtnggfglmjdiaaaaW.PrintWords Go.Proofs.YtnggfglmjdiaaaaW.PrintLast Go.Proofs.YtnggfglmjdiaaaaW.PrintMore
open Go.Proofs.YtnggfglmjdiaaaaZ Go.Proofs.Ytnggfglmjdiaaaa.X Go.Proofs.Ytnggfglmjdiaaaa.X.OFnExactMakeOrder
set_option linter.unusedVariables false
set_option linter.unusedSimpArgs false
theorem own : ownKnob Try.prog.godebug = none := by kernel_rfl
theorem laidOut : laidOutB Try.prog = true := by kernel_rfl
set_option maxRecDepth 100000 in
set_option maxHeartbeats 2000000 in
theorem lifted (os : Os) (started : os.Started) (H : Type) (enc : TypeId × Value → H) :
    ReturnsInHanded {} Try.checked os 6 .any (Rows.fnExactMakeOrderSpec.pre6 enc Try.prog Try.f6 Rows.fnExactMakeOrderRow.domain false) (Rows.fnExactMakeOrderSpec.post enc Try.prog Try.f6 false true false false) := by
  refine returnsInHanded_of_change_sized (C := Try.checked) own started Yj_ Try.func6
    (ChangeSpec.witness6 (enc := enc) (C := Try.checked) false ⟨#[], #[.agg #[.slice none 0 0, .int .i64 0, .slice none 0 0], .agg #[.int .i64 0, .int .i64 0, .int .i64 0]], []⟩ 8 Yj_ Yj_ Yj_ Yj_) ?_
  intro W base args ds gs before hval0 hW hcnd hsz0 _
  have hsz : (DataW.weightsEach Try.prog (Try.f6.params.toList ++ Rows.fnExactMakeOrderSpec.plain.varTypes Try.prog) (ds ++ gs)).all (· ≤ reachBytes) = true := hsz0
  have hval : ∀ (j : Nat) t v, Try.f6.params[j]? = some t → args[j]? = some v → Value.okWide Try.prog W .any base t v := hval0
  have hW' := hW
  obtain ⟨p, q, hA0, hV, rfl, hfz, hnd⟩ := hW
  have hA : DataW.TrodAll enc Try.prog W 0 (fun _ => true) true Try.f6.params.toList args.toList ds p := hA0
  rw [Try.params6] at hA hval hsz
  obtain ⟨v0, vs0, d0, ds0, p0, q0, hargs, rfl, rfl, h0, r0⟩ := trodAll_cons hA
  obtain ⟨v1, vs1, d1, ds1, p1, q1, rfl, rfl, rfl, h1, r1⟩ := trodAll_cons r0
  obtain ⟨rfl, rfl, rfl⟩ := trodAll_nil r1
  obtain rfl : args = #[v0, v1] := by cases args; simp_all
  obtain ⟨rfl, rfl⟩ := trodVars_none hV
  obtain ⟨cs0, rfl, hs0⟩ := okWide_struct Try.underlying28 (hval 0 28 v0 rfl rfl)
  have k0 := h0
  have lt0 : ∀ x ∈ p0, x.block < W.heap.size := by obtain ⟨m, hm⟩ := k0; exact DataW.trod_lt m _ _ _ hm
  obtain ⟨x0, hK0, w0⟩ : ∃ x : S28, k28.K W x cs0.toList ∧ fitsT28 x := by
    obtain ⟨fuel, hf⟩ := h0
    exact opensT28 hf (weights_param hsz (j := 0) rfl rfl)
  obtain ⟨A0_0, c0_0, A0_2, c0_2, e0, hc0_0, hr0_0, hc0_2, hr0_2⟩ := k28_open hK0
  obtain rfl : cs0 = #[.slice A0_0 x0.f0.f0.length c0_0, .int .i64 x0.f1.f0, .slice A0_2 x0.f1.f1.length c0_2] := by cases cs0; simpa using e0
  obtain ⟨cs1, rfl, hs1⟩ := okWide_struct Try.underlying42 (hval 1 42 v1 rfl rfl)
  have k1 := h1
  have lt1 : ∀ x ∈ p1, x.block < W.heap.size := by obtain ⟨m, hm⟩ := k1; exact DataW.trod_lt m _ _ _ hm
  obtain ⟨x1, hK1, w1⟩ : ∃ x : S42, k42.K W x cs1.toList ∧ fitsT42 x := by
    obtain ⟨fuel, hf⟩ := h1
    exact opensT42 hf (weights_param hsz (j := 1) rfl rfl)
  have e1 := k42_open hK1
  obtain rfl : cs1 = #[.int .i64 x1.f0, .int .i64 x1.f1, .int .i64 x1.f2] := by cases cs1; simpa using e1
  clear hA0 hval0 hsz0 hsz
  obtain ⟨k, h⟩ := Go.Proofs.Ytnggfglmjdiaaaa.Pure.FnExactMakeOrder x0 x1 w0 w1
  refine (D6.calls k A0_0 c0_0 x0.f0.f0 x0.f1.f0 A0_2 c0_2 x0.f1.f1 x1.f0 x1.f1 x1.f2 true W hr0_0 hc0_0 hr0_2 hc0_2 h rfl).mono fun e W' ⟨he, bel0⟩ => ?_
  have bel : Below W.heap.size W W' := bel0
  subst he
  exact ⟨_, rfl, _, _, _, [], _, [], hW', trodAll_mk1 (shut_bool Try.underlying4 _), (trodAll_cons_mk (Below.trod laidOut Yj_ (of_decide_eq_true Yj_) k0 bel lt0) (trodAll_cons_mk (Below.trod laidOut Yj_ (of_decide_eq_true Yj_) k1 bel lt1) trodAll_mk0)), rfl, bel.frame _, fun h => by cases h⟩
theorem over : Rows.fnExactMakeOrderRow.holds Try.pinned (OpenSpec.ofChange Rows.fnExactMakeOrderSpec) :=
  OpenClaim.holds_of_wide 6 Try.f6 rfl rfl rfl rfl rfl rfl rfl ⟨rfl, rfl, rfl, rfl, rfl⟩ rfl rfl rfl rfl rfl Yj_ Try.func6 Yj_
    (of_decide_eq_true Yj_) (by unfold Func.isWrapper; first | (rw [if_pos (by decide +kernel)]; kernel_rfl) | (rw [if_neg (by decide +kernel)]; exact ⟨rfl, rfl⟩))
    (fun os started H enc _ => lifted os started H enc)
theorem proved : Rows.FnExactMakeOrderSaid := over
#print axioms proved
end Go.Proofs.Ytnggfglmjdiaaaa.fnExactMakeOrder
namespace Go.Proofs.Ytnggfglmjdiaaaa
/-- The row, under a short name, for the claim. -/
theorem fnExactMakeOrder_holds : Rows.FnExactMakeOrderSaid := fnExactMakeOrder.proved
end Go.Proofs.Ytnggfglmjdiaaaa

