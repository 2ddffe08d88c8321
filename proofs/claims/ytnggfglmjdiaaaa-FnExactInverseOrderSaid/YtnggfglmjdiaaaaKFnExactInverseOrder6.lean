/- The law FnExactInverseOrder answers true for every input that the row lets in, and leaves its arguments as they were. Conditions: none beyond the row's own. -/
import Derived.Test.YtnggfglmjdiaaaaRows
import Derived.WalkKit
import Derived.ProofKit
import Derived.OpenShut
import Derived.ShutString
import Derived.ChangeOld
import Derived.Below
import Derived.SizedLaws
import Derived.Lib.SmallJoins
import Derived.Test.YtnggfglmjdiaaaaKFnExactInverseOrder1
import Derived.Test.YtnggfglmjdiaaaaKFnExactInverseOrder2
import Derived.Test.YtnggfglmjdiaaaaKFnExactInverseOrder3
import Derived.Test.YtnggfglmjdiaaaaKFnExactInverseOrder4
import Derived.Test.YtnggfglmjdiaaaaKFnExactInverseOrder5
set_option linter.unusedVariables false
set_option linter.unusedSimpArgs false
namespace Go.Proofs.Ytnggfglmjdiaaaa.X
open Go.RowKit Go.Proofs.YtnggfglmjdiaaaaW.PrintWords Go.Proofs.YtnggfglmjdiaaaaL
theorem goodRow_iff : ∀ (s S S2 : List Int), S.Nodup → (Ey S s = some S2 ↔ (S2 = S ++ s ∧ (∀ n ∈ s, 1 ≤ n ∧ n ≤ 99) ∧ (S ++ s).Nodup))
 | [], S, S2, hS => by simp [Ey, hS]; exact ⟨fun h => h.symm, fun h => h.symm⟩
 | n :: r, S, S2, hS => by
  unfold Ey
  by_cases c : 1 ≤ n ∧ n ≤ 99 ∧ ¬ n ∈ S
  ·have hS' : (S ++ [n]).Nodup := by rw [List.nodup_append]; exact ⟨hS, by simp, fun a ha b hb e => c.2.2 (by simp at hb; rw [← hb, ← e]; exact ha)⟩
   rw [if_pos c, goodRow_iff r (S ++ [n]) S2 hS']
   simp only [List.append_assoc, List.singleton_append, List.mem_cons, forall_eq_or_imp]
   exact ⟨fun h => ⟨h.1, ⟨⟨c.1, c.2.1⟩, h.2.1⟩, h.2.2⟩, fun h => ⟨h.1, h.2.1.2, h.2.2⟩⟩
  ·rw [if_neg c]
   refine ⟨fun h => (by cases h), fun h => (c ⟨(h.2.1 n (by simp)).1, (h.2.1 n (by simp)).2, fun hn => ?_⟩).elim⟩
   have := h.2.2
   rw [List.nodup_append] at this
   exact this.2.2 n hn n (by simp) rfl
theorem goodRows_iff (m : Int) : ∀ (l : List (List Int)) (S : List Int), S.Nodup → (Cm m S l = true ↔ ((∀ s ∈ l, (s.length : Int) ≤ m) ∧ (∀ s ∈ l, ∀ n ∈ s, 1 ≤ n ∧ n ≤ 99) ∧ (S ++ l.flatten).Nodup))
 | [], S, hS => by simp [Cm, hS]
 | s :: r, S, hS => by
  unfold Cm
  by_cases c : (s.length : Int) > m
  ·rw [if_pos c]; exact ⟨fun h => (by cases h), fun h => absurd (h.1 s (by simp)) (by omega)⟩
  ·rw [if_neg c]
   cases g : Ey S s with
   | none =>
    refine ⟨fun h => (by cases h), fun h => ?_⟩
    have hn : (S ++ s).Nodup := by
     have := h.2.2; rw [List.flatten_cons, ← List.append_assoc, List.nodup_append] at this; exact this.1
    have := (goodRow_iff s S (S ++ s) hS).2 ⟨rfl, h.2.1 s (by simp), hn⟩
    rw [g] at this; cases this
   | some S2 =>
    obtain ⟨rfl, h1, h2⟩ := (goodRow_iff s S S2 hS).1 g
    simp only
    rw [goodRows_iff m r (S ++ s) h2]
    simp only [List.flatten_cons, List.mem_cons, forall_eq_or_imp, List.append_assoc]
    exact ⟨fun h => ⟨⟨by omega, h.1⟩, ⟨h1, h.2.1⟩, h.2.2⟩, fun h => ⟨h.1.2, h.2.1.2, h.2.2⟩⟩
theorem idxFrom_hit : ∀ (l : List Int) (k : Nat) (n : Int), 0 ≤ idxFrom k l n → ∃ j : Nat, idxFrom k l n = ((k + j : Nat) : Int) ∧ l[j]? = some n
 | [], k, n, h => by simp [idxFrom] at h
 | x :: r, k, n, h => by
  unfold idxFrom at h ⊢
  by_cases c : x = n
  ·rw [if_pos c]; exact ⟨0, rfl, by simp [c]⟩
  ·rw [if_neg c] at h ⊢
   obtain ⟨j, hj, hx⟩ := idxFrom_hit r (k + 1) n h
   exact ⟨j + 1, by rw [hj]; congr 1; omega, by simpa using hx⟩
theorem idxFrom_in : ∀ (l : List Int) (k : Nat) (n : Int), n ∈ l → 0 ≤ idxFrom k l n
 | [], k, n, h => by simp at h
 | x :: r, k, n, h => by
  unfold idxFrom
  by_cases c : x = n
  ·rw [if_pos c]; omega
  ·rw [if_neg c]
   rcases List.mem_cons.1 h with e | h
   ·exact absurd e.symm c
   ·exact idxFrom_in r (k + 1) n h
theorem find_hit : ∀ (l : List (List Int)) (k : Nat) (n : Int), 0 ≤ (findFrom k l n).1 → ∃ (i j : Nat) (s : List Int), findFrom k l n = (((k + i : Nat) : Int), (j : Int)) ∧ l[i]? = some s ∧ s[j]? = some n
 | [], k, n, h => by simp [findFrom] at h
 | x :: r, k, n, h => by
  unfold findFrom at h ⊢
  by_cases c : idxFrom 0 x n ≥ 0
  ·rw [if_pos c]
   obtain ⟨j, hj, hx⟩ := idxFrom_hit x 0 n c
   exact ⟨0, j, x, by rw [hj]; simp, rfl, hx⟩
  ·rw [if_neg c] at h ⊢
   obtain ⟨i, j, s, hj, hs, hx⟩ := find_hit r (k + 1) n h
   exact ⟨i + 1, j, s, by rw [hj]; congr 2; omega, by simpa using hs, hx⟩
theorem find_in : ∀ (l : List (List Int)) (k : Nat) (n : Int), n ∈ l.flatten → 0 ≤ (findFrom k l n).1
 | [], k, n, h => by simp at h
 | x :: r, k, n, h => by
  unfold findFrom
  by_cases c : idxFrom 0 x n ≥ 0
  ·rw [if_pos c]; omega
  ·rw [if_neg c]
   rw [List.flatten_cons, List.mem_append] at h
   rcases h with h | h
   ·exact absurd (idxFrom_in x 0 n h) c
   ·exact find_in r (k + 1) n h
theorem place_one {l : List (List Int)} (hn : l.flatten.Nodup) {i j i' j' : Nat} {s s' : List Int} {n : Int} (h1 : l[i]? = some s) (h2 : s[j]? = some n) (h1' : l[i']? = some s') (h2' : s'[j']? = some n) : i = i' ∧ j = j' ∧ s = s' := by
 have hp := List.pairwise_flatten.1 hn
 have hi : i = i' := by
  obtain ⟨a, ea⟩ := List.getElem?_eq_some_iff.1 h1
  obtain ⟨b, eb⟩ := List.getElem?_eq_some_iff.1 h1'
  have hq := List.pairwise_iff_getElem.1 hp.2
  rcases Nat.lt_trichotomy i i' with c | c | c
  ·exact absurd rfl (hq i i' a b c n (by rw [ea]; exact List.mem_of_getElem? h2) n (by rw [eb]; exact List.mem_of_getElem? h2'))
  ·exact c
  ·exact absurd rfl (hq i' i b a c n (by rw [eb]; exact List.mem_of_getElem? h2') n (by rw [ea]; exact List.mem_of_getElem? h2))
 subst hi
 obtain rfl : s = s' := Option.some.inj (h1.symm.trans h1')
 obtain ⟨a, ea⟩ := List.getElem?_eq_some_iff.1 h2
 obtain ⟨b, eb⟩ := List.getElem?_eq_some_iff.1 h2'
 have hs := List.pairwise_iff_getElem.1 (hp.1 s (List.mem_of_getElem? h1))
 refine ⟨rfl, ?_, rfl⟩
 rcases Nat.lt_trichotomy j j' with c | c | c
 ·exact absurd (ea.trans eb.symm) (hs j j' a b c)
 ·exact c
 ·exact absurd (eb.trans ea.symm) (hs j' j b a c)
theorem topIs_iff (b : Int) (s : List Int) : topIs b s = true ↔ (0 < s.length ∧ s[s.length - 1]? = some b) := by
 unfold topIs rd
 by_cases c : 0 < s.length
 ·have e : ((s.length : Int) - 1).toNat = s.length - 1 := by omega
  rw [e]
  simp [c, List.getD_eq_getElem?_getD, List.getElem?_eq_getElem (show s.length - 1 < s.length by omega)]
 ·simp [c]
theorem find_top {l : List (List Int)} (hn : l.flatten.Nodup) {i : Nat} {s : List Int} {b : Int} (hi : l[i]? = some s) (ht : topIs b s = true) : findFrom 0 l b = ((i : Int), (s.length : Int) - 1) ∧ idxRow (topIs b) l = (i : Int) := by
 obtain ⟨h0, hl⟩ := (topIs_iff b s).1 ht
 constructor
 ·obtain ⟨i', j', s', he, h1, h2⟩ := find_hit l 0 b (find_in l 0 b (List.mem_flatten.2 ⟨s, List.mem_of_getElem? hi, List.mem_of_getElem? hl⟩))
  obtain ⟨rfl, rfl, rfl⟩ := place_one hn hi hl h1 h2
  rw [he]
  congr 1
  ·simp
  ·omega
 ·obtain ⟨hil, he⟩ := List.getElem?_eq_some_iff.1 hi
  have e : l.findIdx? (topIs b) = some i := by
   rw [List.findIdx?_eq_some_iff_getElem]
   refine ⟨hil, by rw [he]; exact ht, fun j hj => ?_⟩
   cases c : topIs b l[j] with
   | false => simp
   | true =>
    have c2 := (topIs_iff b _).1 c
    have := place_one hn hi hl (List.getElem?_eq_getElem (by omega)) c2.2
    omega
  simp [idxRow, e]
theorem idxRow_at (b : Int) (l : List (List Int)) (h : ¬ idxRow (topIs b) l < 0) : ∃ (i : Nat) (s : List Int), idxRow (topIs b) l = (i : Int) ∧ l[i]? = some s ∧ topIs b s = true := by
 unfold idxRow at h ⊢
 cases e : l.findIdx? (topIs b) with
 | none => rw [e] at h; exact absurd (by decide) h
 | some n =>
  rw [List.findIdx?_eq_some_iff_getElem] at e
  obtain ⟨hn, hp, _⟩ := e
  exact ⟨n, l[n], rfl, List.getElem?_eq_getElem hn, hp⟩
theorem find_low {l : List (List Int)} {b : Int} (hx : idxRow (topIs b) l < 0) (h : 0 ≤ (findFrom 0 l b).1) : (findFrom 0 l b).2 ≠ ((rd_L1 l (findFrom 0 l b).1).length : Int) - 1 := by
 obtain ⟨i, j, s, he, h1, h2⟩ := find_hit l 0 b h
 rw [he]
 simp only [Nat.zero_add]
 intro hc
 have er : rd_L1 l (i : Int) = s := by simp [rd_L1, List.getD_eq_getElem?_getD, h1]
 rw [er] at hc
 obtain ⟨a, ea⟩ := List.getElem?_eq_some_iff.1 h2
 have ht : topIs b s = true := (topIs_iff b s).2 ⟨by omega, by rw [show s.length - 1 = j by omega]; exact h2⟩
 unfold idxRow at hx
 cases e : l.findIdx? (topIs b) with
 | some n => rw [e] at hx; simp at hx; omega
 | none =>
  rw [List.findIdx?_eq_none_iff] at e
  rw [e s (List.mem_of_getElem? h1)] at ht; cases ht
theorem rdL_nat (l : List (List Int)) (i : Nat) : rd_L1 l (i : Int) = l.getD i [] := rfl
theorem rdL_some {l : List (List Int)} {i : Nat} {s : List Int} (h : l[i]? = some s) : rd_L1 l (i : Int) = s := by simp [rd_L1, List.getD_eq_getElem?_getD, h]
theorem len_cut (l : List (List Int)) (i : Int) : (cutRow l i).length = l.length := by simp [cutRow]
abbrev Rows := List (List Int)
def finI (Y : Rows) (h : Int) (B : Rows) (a : Int) : Rows × Int × Rows × Int × Bool := if termOk Y h B = true then (Y, h, B, a, true) else ([], 0, [], 0, false)
/-- The program's step. -/
def makeI (Y : Rows) (h : Int) (B : Rows) (K b dd : Int) : Rows × Int × Rows × Int × Bool :=
 if K = 1 then (if idxRow (topIs b) Y < 0 then ([], 0, [], 0, false) else if inRows Y dd = true then (if dd = idxRow (topIs b) Y then ([], 0, [], 0, false) else finI (putRow (cutRow Y (idxRow (topIs b) Y)) dd b) h B (idxRow (topIs b) Y)) else ([], 0, [], 0, false))
 else if K = 2 then (if idxRow (topIs b) Y < 0 then ([], 0, [], 0, false) else if inRows B dd = true then finI (cutRow Y (idxRow (topIs b) Y)) h (putRow B dd b) (idxRow (topIs b) Y) else ([], 0, [], 0, false))
 else if K = 3 then (if idxRow (topIs b) B < 0 then ([], 0, [], 0, false) else if inRows Y dd = true then finI (putRow Y dd b) h (cutRow B (idxRow (topIs b) B)) (idxRow (topIs b) B) else ([], 0, [], 0, false))
 else ([], 0, [], 0, false)
def finS (Y : Rows) (h : Int) (B : Rows) : Rows × Int × Rows × Bool := if termOk Y h B = true then (Y, h, B, true) else ([], 0, [], false)
/-- The last of its row is found. -/
def Ee (l : Rows) (q : Int × Int) : Prop := 0 ≤ q.1 ∧ q.2 = ((rd_L1 l q.1).length : Int) - 1
instance (l : Rows) (q : Int × Int) : Decidable (Ee l q) := inferInstanceAs (Decidable (_ ∧ _))
/-- The reference's step. -/
def makeS (Y : Rows) (h : Int) (B : Rows) (K b dd : Int) : Rows × Int × Rows × Bool :=
 if K = 3 then (if Ee B (findFrom 0 B b) then (if inRows Y dd = true then finS (putRow Y dd b) h (cutRow B (findFrom 0 B b).1) else ([], 0, [], false)) else ([], 0, [], false))
 else if Ee Y (findFrom 0 Y b) then (if K = 1 then (if dd = (findFrom 0 Y b).1 then ([], 0, [], false) else if inRows Y dd = true then finS (putRow (cutRow Y (findFrom 0 Y b).1) dd b) h B else ([], 0, [], false))
  else if K = 2 then (if inRows B dd = true then finS (cutRow Y (findFrom 0 Y b).1) h (putRow B dd b) else ([], 0, [], false)) else ([], 0, [], false)) else ([], 0, [], false)
def four (r : Rows × Int × Rows × Int × Bool) : Rows × Int × Rows × Bool := (r.1, r.2.1, r.2.2.1, r.2.2.2.2)
theorem found_idx {l : Rows} (hn : l.flatten.Nodup) (b : Int) : (Ee l (findFrom 0 l b) ∧ ¬ idxRow (topIs b) l < 0 ∧ (findFrom 0 l b).1 = idxRow (topIs b) l) ∨ (¬ Ee l (findFrom 0 l b) ∧ idxRow (topIs b) l < 0) := by
 by_cases c : idxRow (topIs b) l < 0
 ·exact .inr ⟨fun h => find_low c h.1 h.2, c⟩
 ·obtain ⟨i, s, hi, hs, ht⟩ := idxRow_at b l c
  obtain ⟨h1, h2⟩ := find_top hn hs ht
  exact .inl ⟨⟨by rw [h1]; simp, by rw [h1]; simp only; rw [rdL_some hs]⟩, c, by rw [h1, h2]⟩
theorem four_fin (Y : Rows) (h : Int) (B : Rows) (a : Int) : four (finI Y h B a) = finS Y h B := by
 unfold finI finS; by_cases c : termOk Y h B = true
 ·rw [if_pos c, if_pos c]; rfl
 ·rw [if_neg c, if_neg c]; rfl
theorem make_eq {Y : Rows} {h : Int} {B : Rows} (hY : Y.flatten.Nodup) (hB : B.flatten.Nodup) (K b dd : Int) : makeS Y h B K b dd = four (makeI Y h B K b dd) := by
 unfold makeS makeI
 by_cases k3 : K = 3
 ·subst k3
  rw [if_pos (rfl : (3 : Int) = 3), if_neg (show ¬ (3 : Int) = 1 by decide), if_neg (show ¬ (3 : Int) = 2 by decide), if_pos (rfl : (3 : Int) = 3)]
  rcases found_idx hB b with ⟨h1, h2, h3⟩ | ⟨h1, h2⟩
  ·rw [if_pos h1, if_neg h2, h3]
   by_cases c : inRows Y dd = true
   ·rw [if_pos c, if_pos c, four_fin]
   ·rw [if_neg c, if_neg c]; rfl
  ·rw [if_neg h1, if_pos h2]; rfl
 ·rw [if_neg k3]
  rcases found_idx hY b with ⟨h1, h2, h3⟩ | ⟨h1, h2⟩
  ·rw [if_pos h1, h3]
   by_cases k1 : K = 1
   ·rw [if_pos k1, if_pos k1, if_neg h2]
    by_cases c : inRows Y dd = true
    ·rw [if_pos c, if_pos c]
     by_cases c2 : dd = idxRow (topIs b) Y
     ·rw [if_pos c2, if_pos c2]; rfl
     ·rw [if_neg c2, if_neg c2, four_fin]
    ·rw [if_neg c, if_neg c]; split <;> rfl
   ·rw [if_neg k1, if_neg k1]
    by_cases k2 : K = 2
    ·rw [if_pos k2, if_pos k2, if_neg h2]
     by_cases c : inRows B dd = true
     ·rw [if_pos c, if_pos c, four_fin]
     ·rw [if_neg c, if_neg c]; rfl
    ·rw [if_neg k2, if_neg k2, if_neg k3]; rfl
  ·rw [if_neg h1]
   by_cases k1 : K = 1
   ·rw [if_pos k1, if_pos h2]; rfl
   ·rw [if_neg k1]
    by_cases k2 : K = 2
    ·rw [if_pos k2, if_pos h2]; rfl
    ·rw [if_neg k2, if_neg k3]; rfl
/-- What is known of a step that was made. -/
theorem makeI_made {Y : Rows} {h : Int} {B : Rows} {K b dd : Int} {Y2 : Rows} {h2 : Int} {B2 : Rows} {a : Int} (e : makeI Y h B K b dd = (Y2, h2, B2, a, true)) :
    termOk Y2 h2 B2 = true ∧ h2 = h ∧ ∃ i j : Nat, a = (i : Int) ∧ dd = (j : Int) ∧
      ((K = 1 ∧ i ≠ j ∧ j < Y.length ∧ i < Y.length ∧ topIs b (rd_L1 Y (i : Int)) = true ∧ Y2 = putRow (cutRow Y (i : Int)) (j : Int) b ∧ B2 = B) ∨
       (K = 2 ∧ j < B.length ∧ i < Y.length ∧ topIs b (rd_L1 Y (i : Int)) = true ∧ Y2 = cutRow Y (i : Int) ∧ B2 = putRow B (j : Int) b) ∨
       (K = 3 ∧ j < Y.length ∧ i < B.length ∧ topIs b (rd_L1 B (i : Int)) = true ∧ Y2 = putRow Y (j : Int) b ∧ B2 = cutRow B (i : Int))) := by
  have fin : ∀ {Y1 : Rows} {h1 : Int} {B1 : Rows} {a1 : Int}, finI Y1 h1 B1 a1 = (Y2, h2, B2, a, true) → termOk Y2 h2 B2 = true ∧ h2 = h1 ∧ a = a1 ∧ Y2 = Y1 ∧ B2 = B1 := by
    intro Y1 h1 B1 a1 hf
    unfold finI at hf
    by_cases c : termOk Y1 h1 B1 = true
    · rw [if_pos c] at hf; cases hf; exact ⟨c, rfl, rfl, rfl, rfl⟩
    · rw [if_neg c] at hf; cases hf
  have lt : ∀ {l : Rows}, inRows l dd = true → ∃ j : Nat, dd = (j : Int) ∧ j < l.length := by
    intro l hl
    unfold inRows at hl
    simp only [Bool.and_eq_true, decide_eq_true_eq] at hl
    exact ⟨dd.toNat, by omega, by omega⟩
  have ix : ∀ {l : Rows}, ¬ idxRow (topIs b) l < 0 → ∃ i : Nat, idxRow (topIs b) l = (i : Int) ∧ i < l.length ∧ topIs b (rd_L1 l (i : Int)) = true := by
    intro l hl
    obtain ⟨i, s, h1, h2, h3⟩ := idxRow_at b l hl
    exact ⟨i, h1, (List.getElem?_eq_some_iff.1 h2).1, by rw [rdL_some h2]; exact h3⟩
  unfold makeI at e
  by_cases k1 : K = 1
  · rw [if_pos k1] at e
    by_cases c : idxRow (topIs b) Y < 0
    · rw [if_pos c] at e; cases e
    · rw [if_neg c] at e
      by_cases c2 : inRows Y dd = true
      · rw [if_pos c2] at e
        by_cases c3 : dd = idxRow (topIs b) Y
        · rw [if_pos c3] at e; cases e
        · rw [if_neg c3] at e
          obtain ⟨i, h1, h2, h3⟩ := ix c
          obtain ⟨j, rfl, h5⟩ := lt c2
          rw [h1] at e c3
          obtain ⟨f1, f2, f3, f4, f5⟩ := fin e
          exact ⟨f1, f2, i, j, f3, rfl, .inl ⟨k1, fun z => c3 (by rw [z]), h5, h2, h3, f4, f5⟩⟩
      · rw [if_neg c2] at e; cases e
  · rw [if_neg k1] at e
    by_cases k2 : K = 2
    · rw [if_pos k2] at e
      by_cases c : idxRow (topIs b) Y < 0
      · rw [if_pos c] at e; cases e
      · rw [if_neg c] at e
        by_cases c2 : inRows B dd = true
        · rw [if_pos c2] at e
          obtain ⟨i, h1, h2, h3⟩ := ix c
          obtain ⟨j, rfl, h5⟩ := lt c2
          rw [h1] at e
          obtain ⟨f1, f2, f3, f4, f5⟩ := fin e
          exact ⟨f1, f2, i, j, f3, rfl, .inr (.inl ⟨k2, h5, h2, h3, f4, f5⟩)⟩
        · rw [if_neg c2] at e; cases e
    · rw [if_neg k2] at e
      by_cases k3 : K = 3
      · rw [if_pos k3] at e
        by_cases c : idxRow (topIs b) B < 0
        · rw [if_pos c] at e; cases e
        · rw [if_neg c] at e
          by_cases c2 : inRows Y dd = true
          · rw [if_pos c2] at e
            obtain ⟨i, h1, h2, h3⟩ := ix c
            obtain ⟨j, rfl, h5⟩ := lt c2
            rw [h1] at e
            obtain ⟨f1, f2, f3, f4, f5⟩ := fin e
            exact ⟨f1, f2, i, j, f3, rfl, .inr (.inr ⟨k3, h5, h2, h3, f4, f5⟩)⟩
          · rw [if_neg c2] at e; cases e
      · rw [if_neg k3] at e; cases e
def backKind (K : Int) : Int := if K = 1 then 1 else if K = 2 then 3 else 2
theorem made_from {Y : Rows} {h : Int} {B : Rows} {K b dd : Int} {Y2 : Rows} {h2 : Int} {B2 : Rows} {a : Int} (hY : Y.flatten.Nodup) (hB : B.flatten.Nodup) (e : makeI Y h B K b dd = (Y2, h2, B2, a, true)) :
  (K = 1 ∨ K = 2 ∨ K = 3) ∧ (K ≠ 3 → a = (findFrom 0 Y b).1) ∧ (K = 3 → a = (findFrom 0 B b).1) ∧ 0 ≤ a ∧ 0 ≤ dd ∧ (K ≠ 2 → dd < (Y.length : Int)) ∧ (K = 2 → dd < (B.length : Int)) ∧ (b ∈ Y.flatten ∨ b ∈ B.flatten) := by
 obtain ⟨_, rfl, i, j, rfl, rfl, hc⟩ := makeI_made e
 have at_ : ∀ {l : Rows}, i < l.length → l[i]? = some (rd_L1 l (i : Int)) := fun {l} hl => by rw [rdL_nat, List.getD_eq_getElem?_getD, List.getElem?_eq_getElem hl]; rfl
 have mem : ∀ {l : Rows}, i < l.length → topIs b (rd_L1 l (i : Int)) = true → b ∈ l.flatten := fun {l} hl ht => List.mem_flatten.2 ⟨_, List.mem_of_getElem? (at_ hl), List.mem_of_getElem? ((topIs_iff b _).1 ht).2⟩
 rcases hc with ⟨rfl, hne, hj, hi, ht, rfl, rfl⟩ | ⟨rfl, hj, hi, ht, rfl, rfl⟩ | ⟨rfl, hj, hi, ht, rfl, rfl⟩
 ·exact ⟨.inl rfl, fun _ => by rw [(find_top hY (at_ hi) ht).1], fun z => absurd z (by decide), by omega, by omega, fun _ => by omega, fun z => absurd z (by decide), .inl (mem hi ht)⟩
 ·exact ⟨.inr (.inl rfl), fun _ => by rw [(find_top hY (at_ hi) ht).1], fun z => absurd z (by decide), by omega, by omega, fun z => absurd rfl z, fun _ => by omega, .inl (mem hi ht)⟩
 ·exact ⟨.inr (.inr rfl), fun z => absurd rfl z, fun _ => by rw [(find_top hB (at_ hi) ht).1], by omega, by omega, fun _ => by omega, fun z => absurd z (by decide), .inr (mem hi ht)⟩
end Go.Proofs.Ytnggfglmjdiaaaa.X

namespace Go.Proofs.Ytnggfglmjdiaaaa.X
open Go.RowKit Go.Proofs.YtnggfglmjdiaaaaW.PrintWords Go.Proofs.YtnggfglmjdiaaaaW.PrintLast Go.Proofs.YtnggfglmjdiaaaaW.PrintMore
attribute [local go_sem] max2_int min2_int max_two min_two max_three min_three max_four min_four
def D5.f (k : Nat) (l0_0 : List (List Int)) (a0_1 : Int) (l0_2 : List (List Int)) (a1_0 : Int) (a1_1 : Int) (a1_2 : Int) : Option ((List (List Int)) × Int × (List (List Int)) × Bool) := (impl_IsValidTerminal.f k l0_0 a0_1 l0_2).bind fun t420 => (if t420 = true then ((impl_makeOrder.f k l0_0 a0_1 l0_2 a1_0 a1_1 a1_2).bind fun bt421 => (some (bt421.1, bt421.2.1, bt421.2.2.1, bt421.2.2.2.2))) else (some (([] : List (List Int)), 0, ([] : List (List Int)), false)))
theorem D5.mono : ∀ a0 a1 a2 a3 a4 a5 k, LeO (D5.f k a0 a1 a2 a3 a4 a5) (D5.f (k + 1) a0 a1 a2 a3 a4 a5) := by
 intro a0 a1 a2 a3 a4 a5 k
 unfold D5.f
 repeat' first
   | (with_reducible exact impl_IsValidTerminal.mono _ _ _ _)
   | (with_reducible exact impl_makeOrder.mono _ _ _ _ _ _ _)
   | (with_reducible exact LeO.refl _)
   | (with_reducible exact LeO.none _)
   | (with_reducible refine LeO.ite ?_ ?_)
   | (with_reducible refine LeO.bind ?_ (fun _ => ?_))
   | exact impl_IsValidTerminal.mono _ _ _ _
   | exact impl_makeOrder.mono _ _ _ _ _ _ _
   | exact LeO.none _
   | refine LeO.ite ?_ ?_
   | refine LeO.bind ?_ (fun _ => ?_)
set_option maxHeartbeats 8000000 in
set_option maxRecDepth 100000 in
theorem D5.calls2 (k : Nat) (A0_0 : Option Addr) (c0_0 : Nat) (l0_0 : List (List Int)) (a0_1 : Int) (A0_2 : Option Addr) (c0_2 : Nat) (l0_2 : List (List Int)) (a1_0 : Int) (a1_1 : Int) (a1_2 : Int) (r1 : List (List Int)) (r2 : Int) (r3 : List (List Int)) (r4 : Bool) (w : World) (hr0_0 : Kd.C (Kd.slice 3 (Kd.int .i64)) w A0_0 l0_0.length l0_0) (hc0_0 : l0_0.length ≤ c0_0) (hr0_2 : Kd.C (Kd.slice 3 (Kd.int .i64)) w A0_2 l0_2.length l0_2) (hc0_2 : l0_2.length ≤ c0_2) (h : D5.f k l0_0 a0_1 l0_2 a1_0 a1_1 a1_2 = some (r1, r2, r3, r4)) :
  Calls Try.prog 22 #[.agg #[.slice A0_0 l0_0.length c0_0, .int .i64 a0_1, .slice A0_2 l0_2.length c0_2], .agg #[.int .i64 a1_0, .int .i64 a1_1, .int .i64 a1_2]] w fun e w' => ∃ (P_ : Nat → Prop) (v0_ v2_ : Value), e = .returned (.tuple #[.agg #[v0_, .int .i64 r2, v2_], .bool r4]) ∧ Kd.S (Kd.slice 3 (Kd.int .i64)) 73 w' w.heap.size (fun k_ => P_ k_) v0_ r1 ∧ Kd.S (Kd.slice 3 (Kd.int .i64)) 73 w' w.heap.size (fun k_ => ¬ P_ k_) v2_ r3 ∧ Below w.heap.size w w' := by
 have hu34 := Try.underlying34
 have hu43 := Try.underlying43
 have HR0_0 := Aside0.mk hr0_0
 have HC0_0 := Aside0.mk hc0_0
 clear hr0_0 hc0_0
 have HR0_2 := Aside0.mk hr0_2
 have HC0_2 := Aside0.mk hc0_2
 clear hr0_2 hc0_2
 have HB := Aside0.mk (Below.refl w.heap.size w)
 have H : ((impl_IsValidTerminal.f k l0_0 a0_1 l0_2).bind fun t420 => (if t420 = true then ((impl_makeOrder.f k l0_0 a0_1 l0_2 a1_0 a1_1 a1_2).bind fun bt421 => (some (bt421.1, bt421.2.1, bt421.2.2.1, bt421.2.2.2.2))) else (some (([] : List (List Int)), 0, ([] : List (List Int)), false)))) = some (r1, r2, r3, r4) := h
 clear h
 replace H := Option.bind_eq_some_iff.mp H
 obtain ⟨t420, A30, H⟩ := H
 try dsimp only at H
 have A3 := Aside0.mk A30
 clear A30
 by_cases c4 : t420 = true
 ·subst c4
  have H1 : ((impl_makeOrder.f k l0_0 a0_1 l0_2 a1_0 a1_1 a1_2).bind fun bt421 => (some (bt421.1, bt421.2.1, bt421.2.2.1, bt421.2.2.2.2))) = some (r1, r2, r3, r4) := by rw [if_pos rfl] at H; exact H
  clear H
  have H := H1
  clear H1
  replace H := Option.bind_eq_some_iff.mp H
  obtain ⟨⟨t421, t424, t425, t428, t429⟩, A50, H⟩ := H
  try dsimp only at H
  have A5 := Aside0.mk A50
  clear A50
  simp only [Option.some.injEq, Prod.mk.injEq] at H
  obtain ⟨rfl, rfl, rfl, rfl⟩ := H
  go_enter Try.func22, Try.ntmps22
  go_wp2_with (first | ((with_reducible refine gate_dst (N := 2) rfl ?_); refine box_event ?hg (N := 2) ?hd (cs := #[.slice A0_0 l0_0.length c0_0, .int .i64 a0_1, .slice A0_2 l0_2.length c0_2]) (t := 34) ?hr ?_; (case hd => rfl); (case hg => rfl); (case hr => first | (go_simp; done) | (go_simp; rfl)); intro gb0 hg w6 hbox hb; have n0_ := Aside0.mk (below_step Yb_ hb); have n1_ := Aside0.mk (hbox); have n2_ := Aside0.mk ((by rw [hg]; exact (below_size Yb_) : w.heap.size ≤ gb0)); have n3_ := Aside0.mk ((by rw [hg]; exact (below_size Yb_) : w.heap.size ≤ gb0)); clear HB; have HB := n0_; have BK0 := n1_; have GW0 := n2_; have GE0 := n3_; clear n0_ n1_ n2_ n3_; clear hb hbox hg) | ((with_reducible refine gate_dst (N := 3) rfl ?_); refine box_event ?hg (N := 3) ?hd (cs := #[.int .i64 a1_0, .int .i64 a1_1, .int .i64 a1_2]) (t := 43) ?hr ?_; (case hd => rfl); (case hg => rfl); (case hr => first | (go_simp; done) | (go_simp; rfl)); intro gb1 hg w7 hbox hb; have n0_ := Aside0.mk (blk_below (g := gb0) (o := .cells #[.slice A0_0 l0_0.length c0_0, .int .i64 a0_1, .slice A0_2 l0_2.length c0_2] 34 (0, 0)) Yc_ hb); have n1_ := Aside0.mk (below_step Yd_ hb); have n2_ := Aside0.mk (hbox); have n3_ := Aside0.mk ((by rw [hg]; exact (below_size Yd_) : w.heap.size ≤ gb1)); have n4_ := Aside0.mk ((by rw [hg]; exact (below_size Yd_) : w.heap.size ≤ gb1)); have n5_ := Aside0.mk ((by rw [hg]; exact Nat.ne_of_lt (blk_lt (g := gb0) (o := .cells #[.slice A0_0 l0_0.length c0_0, .int .i64 a0_1, .slice A0_2 l0_2.length c0_2] 34 (0, 0)) Yc_) : gb0 ≠ gb1)); have n6_ := Aside0.mk ((by rw [hg]; exact Nat.ne_of_gt (blk_lt (g := gb0) (o := .cells #[.slice A0_0 l0_0.length c0_0, .int .i64 a0_1, .slice A0_2 l0_2.length c0_2] 34 (0, 0)) Yc_) : gb1 ≠ gb0)); clear BK0; clear HB; have BK0 := n0_; have HB := n1_; have BK1 := n2_; have GW1 := n3_; have GE1 := n4_; have NB0_1 := n5_; have NB1_0 := n6_; clear n0_ n1_ n2_ n3_ n4_ n5_ n6_; clear hb hbox hg) | ((with_reducible refine gate_dst (N := 4) rfl ?_); refine box_event ?hg (N := 4) ?hd (cs := #[.slice none 0 0, .int .i64 0, .slice none 0 0]) (t := 34) ?hr ?_; (case hd => rfl); (case hg => rfl); (case hr => first | (go_simp; done) | (go_simp; rfl)); intro gb2 hg w8 hbox hb; have n0_ := Aside0.mk (blk_below (g := gb0) (o := .cells #[.slice A0_0 l0_0.length c0_0, .int .i64 a0_1, .slice A0_2 l0_2.length c0_2] 34 (0, 0)) Yc_ hb); have n1_ := Aside0.mk (blk_below (g := gb1) (o := .cells #[.int .i64 a1_0, .int .i64 a1_1, .int .i64 a1_2] 43 (0, 0)) Yh_ hb); have n2_ := Aside0.mk (below_step Yg_ hb); have n3_ := Aside0.mk (hbox); have n4_ := Aside0.mk ((by rw [hg]; exact (below_size Yg_) : w.heap.size ≤ gb2)); have n5_ := Aside0.mk ((by rw [hg]; exact (below_size Yg_) : w.heap.size ≤ gb2)); have n6_ := Aside0.mk ((by rw [hg]; exact Nat.ne_of_lt (blk_lt (g := gb0) (o := .cells #[.slice A0_0 l0_0.length c0_0, .int .i64 a0_1, .slice A0_2 l0_2.length c0_2] 34 (0, 0)) Yc_) : gb0 ≠ gb2)); have n7_ := Aside0.mk ((by rw [hg]; exact Nat.ne_of_gt (blk_lt (g := gb0) (o := .cells #[.slice A0_0 l0_0.length c0_0, .int .i64 a0_1, .slice A0_2 l0_2.length c0_2] 34 (0, 0)) Yc_) : gb2 ≠ gb0)); have n8_ := Aside0.mk ((by rw [hg]; exact Nat.ne_of_lt (blk_lt (g := gb1) (o := .cells #[.int .i64 a1_0, .int .i64 a1_1, .int .i64 a1_2] 43 (0, 0)) Yh_) : gb1 ≠ gb2)); have n9_ := Aside0.mk ((by rw [hg]; exact Nat.ne_of_gt (blk_lt (g := gb1) (o := .cells #[.int .i64 a1_0, .int .i64 a1_1, .int .i64 a1_2] 43 (0, 0)) Yh_) : gb2 ≠ gb1)); clear BK0; clear BK1; clear HB; have BK0 := n0_; have BK1 := n1_; have HB := n2_; have BK2 := n3_; have GW2 := n4_; have GE2 := n5_; have NB0_2 := n6_; have NB2_0 := n7_; have NB1_2 := n8_; have NB2_1 := n9_; clear n0_ n1_ n2_ n3_ n4_ n5_ n6_ n7_ n8_ n9_; clear hb hbox hg; have hnb9 := NB0_1.out; have hnc9 := NB1_0.out; have hnb10 := NB0_2.out; have hnc10 := NB2_0.out; have hcz11_0 : w8.cell? ⟨gb0, 0, none⟩ = some (.slice A0_0 l0_0.length c0_0) := (blk_cell BK0.out 0).trans rfl; have hcz11_1 : w8.cell? ⟨gb0, 1, none⟩ = some (.int .i64 a0_1) := (blk_cell BK0.out 1).trans rfl; have hcz11_2 : w8.cell? ⟨gb0, 2, none⟩ = some (.slice A0_2 l0_2.length c0_2) := (blk_cell BK0.out 2).trans rfl; have hfz11_0 := blk_frozen BK0.out 0; have hfz11_1 := blk_frozen BK0.out 1; have hfz11_2 := blk_frozen BK0.out 2) | ((with_reducible refine gate_callee (f := 13) rfl ?_); refine goesL_ (some 10) rfl rfl Try.func13 Yj_ rfl #[.agg #[.slice A0_0 l0_0.length c0_0, .int .i64 a0_1, .slice A0_2 l0_2.length c0_2]] rfl Yf_ ?_; (with_reducible refine (impl_IsValidTerminal.calls k _ _ l0_0 a0_1 _ _ l0_2 true _ ?side1 ?side2 ?side3 ?side4 A3.out).mono ?_); (case side1 => repeat (first | exact (Kd.C_below HR0_0.out HB.out) | (with_reducible refine Kd.C_alloc ?_ _) | (with_reducible refine Kd.C_drewN ?_ _) | (with_reducible refine Kd.C_drew ?_))); (case side2 => exact HC0_0.out); (case side3 => repeat (first | exact (Kd.C_below HR0_2.out HB.out) | (with_reducible refine Kd.C_alloc ?_ _) | (with_reducible refine Kd.C_drewN ?_ _) | (with_reducible refine Kd.C_drew ?_))); (case side4 => exact HC0_2.out); rintro e w12 ⟨rfl, hb⟩; refine ⟨_, rfl, ?_⟩; have n0_ := Aside0.mk (blk_below (g := gb0) (o := .cells #[.slice A0_0 l0_0.length c0_0, .int .i64 a0_1, .slice A0_2 l0_2.length c0_2] 34 (0, 0)) Yc_ hb); have n1_ := Aside0.mk (blk_below (g := gb1) (o := .cells #[.int .i64 a1_0, .int .i64 a1_1, .int .i64 a1_2] 43 (0, 0)) Yh_ hb); have n2_ := Aside0.mk (blk_below (g := gb2) (o := .cells #[.slice none 0 0, .int .i64 0, .slice none 0 0] 34 (0, 0)) Ybb_ hb); have n3_ := Aside0.mk (below_step Ye_ hb); clear BK0; clear BK1; clear BK2; clear HB; have BK0 := n0_; have BK1 := n1_; have BK2 := n2_; have HB := n3_; clear n0_ n1_ n2_ n3_; (try clear hb); (try clear hb2); (try clear hk); (try clear hi); have hcz13_0 : w12.cell? ⟨gb0, 0, none⟩ = some (.slice A0_0 l0_0.length c0_0) := (blk_cell BK0.out 0).trans rfl; have hcz13_1 : w12.cell? ⟨gb0, 1, none⟩ = some (.int .i64 a0_1) := (blk_cell BK0.out 1).trans rfl; have hcz13_2 : w12.cell? ⟨gb0, 2, none⟩ = some (.slice A0_2 l0_2.length c0_2) := (blk_cell BK0.out 2).trans rfl; have hfz13_0 := blk_frozen BK0.out 0; have hfz13_1 := blk_frozen BK0.out 1; have hfz13_2 := blk_frozen BK0.out 2; have hnb14 := NB1_2.out; have hnc14 := NB2_1.out; have hcz15_0 : w12.cell? ⟨gb1, 0, none⟩ = some (.int .i64 a1_0) := (blk_cell BK1.out 0).trans rfl; have hcz15_1 : w12.cell? ⟨gb1, 1, none⟩ = some (.int .i64 a1_1) := (blk_cell BK1.out 1).trans rfl; have hcz15_2 : w12.cell? ⟨gb1, 2, none⟩ = some (.int .i64 a1_2) := (blk_cell BK1.out 2).trans rfl; have hfz15_0 := blk_frozen BK1.out 0; have hfz15_1 := blk_frozen BK1.out 1; have hfz15_2 := blk_frozen BK1.out 2) | ((with_reducible refine gate_callee (f := 50) rfl ?_); refine goesL_ (some 16) rfl rfl Try.func50 Yj_ rfl #[.agg #[.slice A0_0 l0_0.length c0_0, .int .i64 a0_1, .slice A0_2 l0_2.length c0_2], .agg #[.int .i64 a1_0, .int .i64 a1_1, .int .i64 a1_2]] rfl Yf_ ?_; (with_reducible refine (impl_makeOrder.calls2 k _ _ l0_0 a0_1 _ _ l0_2 a1_0 a1_1 a1_2 t421 t424 t425 t428 t429 _ ?side1 ?side2 ?side3 ?side4 A5.out).mono ?_); (case side1 => repeat (first | exact (Kd.C_below HR0_0.out HB.out) | (with_reducible refine Kd.C_alloc ?_ _) | (with_reducible refine Kd.C_drewN ?_ _) | (with_reducible refine Kd.C_drew ?_))); (case side2 => exact HC0_0.out); (case side3 => repeat (first | exact (Kd.C_below HR0_2.out HB.out) | (with_reducible refine Kd.C_alloc ?_ _) | (with_reducible refine Kd.C_drewN ?_ _) | (with_reducible refine Kd.C_drew ?_))); (case side4 => exact HC0_2.out); rintro e w16 ⟨P_, v422, v426, rfl, ho0, ho1, hb⟩; refine ⟨_, rfl, ?_⟩; have n0_ := Aside0.mk (Kd.S_lower ho0 (below_size Ye_)); have n1_ := Aside0.mk (Kd.S_lower ho1 (below_size Ye_)); have n2_ := Aside0.mk (blk_below (g := gb0) (o := .cells #[.slice A0_0 l0_0.length c0_0, .int .i64 a0_1, .slice A0_2 l0_2.length c0_2] 34 (0, 0)) Yc_ hb); have n3_ := Aside0.mk (blk_below (g := gb1) (o := .cells #[.int .i64 a1_0, .int .i64 a1_1, .int .i64 a1_2] 43 (0, 0)) Yh_ hb); have n4_ := Aside0.mk (blk_below (g := gb2) (o := .cells #[.slice none 0 0, .int .i64 0, .slice none 0 0] 34 (0, 0)) Ybb_ hb); have n5_ := Aside0.mk (below_step Ye_ hb); clear BK0; clear BK1; clear BK2; clear HB; have HO423 := n0_; have HO427 := n1_; have BK0 := n2_; have BK1 := n3_; have BK2 := n4_; have HB := n5_; clear n0_ n1_ n2_ n3_ n4_ n5_; (try clear hb); (try clear hb2); (try clear hk); (try clear hi); (try clear ho0); (try clear ho1)) | ((with_reducible refine gate_dst (N := 6) rfl ?_); refine box_event ?hg (N := 6) ?hd (cs := #[.slice none 0 0, .int .i64 0, .slice none 0 0]) (t := 34) ?hr ?_; (case hd => rfl); (case hg => rfl); (case hr => first | (go_simp; done) | (go_simp; rfl)); intro gb3 hg w17 hbox hb; have n0_ := Aside0.mk (Kd.Ad (by (with_reducible repeat (first | apply Kd.S_alloc | apply Kd.S_drewN | apply Kd.S_drew)); exact HO423.out) hb); have n1_ := Aside0.mk (Kd.Ad (by (with_reducible repeat (first | apply Kd.S_alloc | apply Kd.S_drewN | apply Kd.S_drew)); exact HO427.out) hb); have n2_ := Aside0.mk (blk_below (g := gb0) (o := .cells #[.slice A0_0 l0_0.length c0_0, .int .i64 a0_1, .slice A0_2 l0_2.length c0_2] 34 (0, 0)) Yc_ hb); have n3_ := Aside0.mk (blk_below (g := gb1) (o := .cells #[.int .i64 a1_0, .int .i64 a1_1, .int .i64 a1_2] 43 (0, 0)) Yh_ hb); have n4_ := Aside0.mk (blk_below (g := gb2) (o := .cells #[.slice none 0 0, .int .i64 0, .slice none 0 0] 34 (0, 0)) Ybb_ hb); have n5_ := Aside0.mk (below_step Ye_ hb); have n6_ := Aside0.mk (hbox); have n7_ := Aside0.mk ((by rw [hg]; exact (below_size Ye_) : w.heap.size ≤ gb3)); have n8_ := Aside0.mk ((by rw [hg]; exact (below_size Ye_) : w.heap.size ≤ gb3)); have n9_ := Aside0.mk ((by rw [hg]; exact Nat.ne_of_lt (blk_lt (g := gb0) (o := .cells #[.slice A0_0 l0_0.length c0_0, .int .i64 a0_1, .slice A0_2 l0_2.length c0_2] 34 (0, 0)) Yc_) : gb0 ≠ gb3)); have n10_ := Aside0.mk ((by rw [hg]; exact Nat.ne_of_gt (blk_lt (g := gb0) (o := .cells #[.slice A0_0 l0_0.length c0_0, .int .i64 a0_1, .slice A0_2 l0_2.length c0_2] 34 (0, 0)) Yc_) : gb3 ≠ gb0)); have n11_ := Aside0.mk ((by rw [hg]; exact Nat.ne_of_lt (blk_lt (g := gb1) (o := .cells #[.int .i64 a1_0, .int .i64 a1_1, .int .i64 a1_2] 43 (0, 0)) Yh_) : gb1 ≠ gb3)); have n12_ := Aside0.mk ((by rw [hg]; exact Nat.ne_of_gt (blk_lt (g := gb1) (o := .cells #[.int .i64 a1_0, .int .i64 a1_1, .int .i64 a1_2] 43 (0, 0)) Yh_) : gb3 ≠ gb1)); have n13_ := Aside0.mk ((by rw [hg]; exact Nat.ne_of_lt (blk_lt (g := gb2) (o := .cells #[.slice none 0 0, .int .i64 0, .slice none 0 0] 34 (0, 0)) Ybb_) : gb2 ≠ gb3)); have n14_ := Aside0.mk ((by rw [hg]; exact Nat.ne_of_gt (blk_lt (g := gb2) (o := .cells #[.slice none 0 0, .int .i64 0, .slice none 0 0] 34 (0, 0)) Ybb_) : gb3 ≠ gb2)); clear HO423; clear HO427; clear BK0; clear BK1; clear BK2; clear HB; have HO423 := n0_; have HO427 := n1_; have BK0 := n2_; have BK1 := n3_; have BK2 := n4_; have HB := n5_; have BK3 := n6_; have GW3 := n7_; have GE3 := n8_; have NB0_3 := n9_; have NB3_0 := n10_; have NB1_3 := n11_; have NB3_1 := n12_; have NB2_3 := n13_; have NB3_2 := n14_; clear n0_ n1_ n2_ n3_ n4_ n5_ n6_ n7_ n8_ n9_ n10_ n11_ n12_ n13_ n14_; clear hb hbox hg; obtain ⟨Ao18, co18, eo18⟩ := Kd.S_slice HO423.out; subst eo18; have hnb19 := NB3_0.out; have hnc19 := NB0_3.out; have hnb20 := NB3_1.out; have hnc20 := NB1_3.out; have hnb21 := NB3_2.out; have hnc21 := NB2_3.out; have hcz22_0 : w17.cell? ⟨gb3, 0, none⟩ = some (.slice none 0 0) := (blk_cell BK3.out 0).trans rfl; have hcz22_1 : w17.cell? ⟨gb3, 1, none⟩ = some (.int .i64 0) := (blk_cell BK3.out 1).trans rfl; have hcz22_2 : w17.cell? ⟨gb3, 2, none⟩ = some (.slice none 0 0) := (blk_cell BK3.out 2).trans rfl; have hfz22_0 := blk_frozen BK3.out 0; have hfz22_1 := blk_frozen BK3.out 1; have hfz22_2 := blk_frozen BK3.out 2; obtain ⟨Ao23, co23, eo23⟩ := Kd.S_slice HO427.out; subst eo23; have hcz24_0 : w17.cell? ⟨gb2, 0, none⟩ = some (.slice none 0 0) := (blk_cell BK2.out 0).trans rfl; have hcz24_1 : w17.cell? ⟨gb2, 1, none⟩ = some (.int .i64 0) := (blk_cell BK2.out 1).trans rfl; have hcz24_2 : w17.cell? ⟨gb2, 2, none⟩ = some (.slice none 0 0) := (blk_cell BK2.out 2).trans rfl; have hfz24_0 := blk_frozen BK2.out 0; have hfz24_1 := blk_frozen BK2.out 1; have hfz24_2 := blk_frozen BK2.out 2))
  refine bodyPost_ret (Bo rfl _ _ gb2 34 #[.slice Ao18 t421.length co18, .int .i64 t424, .slice Ao23 t425.length co23] (0, 0) _ rfl (by (with_reducible repeat (first | apply blk_drewN | apply blk_drew | apply blk_alloc)); refine blk_put (cs := #[.slice Ao18 t421.length co18, .int .i64 t424, .slice none 0 0]) ?_ 2 _ rfl; (with_reducible repeat (first | apply blk_drewN | apply blk_drew | apply blk_alloc)); refine blk_put (cs := #[.slice Ao18 t421.length co18, .int .i64 0, .slice none 0 0]) ?_ 1 _ rfl; (with_reducible repeat (first | apply blk_drewN | apply blk_drew | apply blk_alloc)); refine blk_put (cs := #[.slice none 0 0, .int .i64 0, .slice none 0 0]) ?_ 0 _ rfl; (with_reducible repeat (first | apply blk_drewN | apply blk_drew | apply blk_alloc)); refine Ah ?_ NB2_3.out _; (with_reducible repeat (first | apply blk_drewN | apply blk_drew | apply blk_alloc)); refine Ah ?_ NB2_3.out _; (with_reducible repeat (first | apply blk_drewN | apply blk_drew | apply blk_alloc)); refine Ah ?_ NB2_3.out _; (with_reducible repeat (first | apply blk_drewN | apply blk_drew | apply blk_alloc)); exact BK2.out) Try.underlying34 rfl Yj_) rfl ?_
  exact ⟨P_, _, _, by first | rfl | (simp [errW_none, errW_some] <;> rfl) | (simp [*, errW_none, errW_some] <;> rfl), by (with_reducible repeat (first | apply Kd.S_alloc | apply Kd.S_drewN | apply Kd.S_drew)); exact Kd.S_mono (Kd.S_far (p := ⟨gb2, 2, none⟩) (Kd.S_far (p := ⟨gb2, 1, none⟩) (Kd.S_far (p := ⟨gb2, 0, none⟩) (Kd.S_far (p := ⟨gb3, 2, none⟩) (Kd.S_far (p := ⟨gb3, 1, none⟩) (Kd.S_far (p := ⟨gb3, 0, none⟩) (Kd.S_types (Kd.S_types HO423.out BK3.out (by decide)) BK2.out (by decide)) (fun _ hk => hk.1.2) (.slice Ao18 t421.length co18)) (fun _ hk => hk.1.2) (.int .i64 t424)) (fun _ hk => hk.1.2) (.slice Ao23 t425.length co23)) (fun _ hk => hk.2) (.slice Ao18 t421.length co18)) (fun _ hk => hk.2) (.int .i64 t424)) (fun _ hk => hk.2) (.slice Ao23 t425.length co23)) (fun _ hk => hk.1.1), by (with_reducible repeat (first | apply Kd.S_alloc | apply Kd.S_drewN | apply Kd.S_drew)); exact Kd.S_mono (Kd.S_far (p := ⟨gb2, 2, none⟩) (Kd.S_far (p := ⟨gb2, 1, none⟩) (Kd.S_far (p := ⟨gb2, 0, none⟩) (Kd.S_far (p := ⟨gb3, 2, none⟩) (Kd.S_far (p := ⟨gb3, 1, none⟩) (Kd.S_far (p := ⟨gb3, 0, none⟩) (Kd.S_types (Kd.S_types HO427.out BK3.out (by decide)) BK2.out (by decide)) (fun _ hk => hk.1.2) (.slice Ao18 t421.length co18)) (fun _ hk => hk.1.2) (.int .i64 t424)) (fun _ hk => hk.1.2) (.slice Ao23 t425.length co23)) (fun _ hk => hk.2) (.slice Ao18 t421.length co18)) (fun _ hk => hk.2) (.int .i64 t424)) (fun _ hk => hk.2) (.slice Ao23 t425.length co23)) (fun _ hk => hk.1.1), by repeat (first | (with_reducible first | exact HB.out | apply below_alloc | apply pw_below_drewN | apply below_drew1 | refine below_set ?_ GE0.out | refine below_set ?_ GE1.out | refine below_set ?_ GE2.out | refine below_set ?_ GE3.out) | exact HB.out)⟩
 ·replace c4 := Bool.eq_false_iff.mpr c4
  subst c4
  have H1 : (some (([] : List (List Int)), 0, ([] : List (List Int)), false)) = some (r1, r2, r3, r4) := by rw [if_neg (show ¬ (false = true) by decide)] at H; exact H
  clear H
  have H := H1
  clear H1
  simp only [Option.some.injEq, Prod.mk.injEq] at H
  obtain ⟨rfl, rfl, rfl, rfl⟩ := H
  go_enter Try.func22, Try.ntmps22
  go_wp2_with (first | ((with_reducible refine gate_dst (N := 2) rfl ?_); refine box_event ?hg (N := 2) ?hd (cs := #[.slice A0_0 l0_0.length c0_0, .int .i64 a0_1, .slice A0_2 l0_2.length c0_2]) (t := 34) ?hr ?_; (case hd => rfl); (case hg => rfl); (case hr => first | (go_simp; done) | (go_simp; rfl)); intro gb0 hg w25 hbox hb; have n0_ := Aside0.mk (below_step Yb_ hb); have n1_ := Aside0.mk (hbox); have n2_ := Aside0.mk ((by rw [hg]; exact (below_size Yb_) : w.heap.size ≤ gb0)); have n3_ := Aside0.mk ((by rw [hg]; exact (below_size Yb_) : w.heap.size ≤ gb0)); clear HB; have HB := n0_; have BK0 := n1_; have GW0 := n2_; have GE0 := n3_; clear n0_ n1_ n2_ n3_; clear hb hbox hg) | ((with_reducible refine gate_dst (N := 3) rfl ?_); refine box_event ?hg (N := 3) ?hd (cs := #[.int .i64 a1_0, .int .i64 a1_1, .int .i64 a1_2]) (t := 43) ?hr ?_; (case hd => rfl); (case hg => rfl); (case hr => first | (go_simp; done) | (go_simp; rfl)); intro gb1 hg w26 hbox hb; have n0_ := Aside0.mk (blk_below (g := gb0) (o := .cells #[.slice A0_0 l0_0.length c0_0, .int .i64 a0_1, .slice A0_2 l0_2.length c0_2] 34 (0, 0)) Yc_ hb); have n1_ := Aside0.mk (below_step Yd_ hb); have n2_ := Aside0.mk (hbox); have n3_ := Aside0.mk ((by rw [hg]; exact (below_size Yd_) : w.heap.size ≤ gb1)); have n4_ := Aside0.mk ((by rw [hg]; exact (below_size Yd_) : w.heap.size ≤ gb1)); have n5_ := Aside0.mk ((by rw [hg]; exact Nat.ne_of_lt (blk_lt (g := gb0) (o := .cells #[.slice A0_0 l0_0.length c0_0, .int .i64 a0_1, .slice A0_2 l0_2.length c0_2] 34 (0, 0)) Yc_) : gb0 ≠ gb1)); have n6_ := Aside0.mk ((by rw [hg]; exact Nat.ne_of_gt (blk_lt (g := gb0) (o := .cells #[.slice A0_0 l0_0.length c0_0, .int .i64 a0_1, .slice A0_2 l0_2.length c0_2] 34 (0, 0)) Yc_) : gb1 ≠ gb0)); clear BK0; clear HB; have BK0 := n0_; have HB := n1_; have BK1 := n2_; have GW1 := n3_; have GE1 := n4_; have NB0_1 := n5_; have NB1_0 := n6_; clear n0_ n1_ n2_ n3_ n4_ n5_ n6_; clear hb hbox hg) | ((with_reducible refine gate_dst (N := 4) rfl ?_); refine box_event ?hg (N := 4) ?hd (cs := #[.slice none 0 0, .int .i64 0, .slice none 0 0]) (t := 34) ?hr ?_; (case hd => rfl); (case hg => rfl); (case hr => first | (go_simp; done) | (go_simp; rfl)); intro gb2 hg w27 hbox hb; have n0_ := Aside0.mk (blk_below (g := gb0) (o := .cells #[.slice A0_0 l0_0.length c0_0, .int .i64 a0_1, .slice A0_2 l0_2.length c0_2] 34 (0, 0)) Yc_ hb); have n1_ := Aside0.mk (blk_below (g := gb1) (o := .cells #[.int .i64 a1_0, .int .i64 a1_1, .int .i64 a1_2] 43 (0, 0)) Yh_ hb); have n2_ := Aside0.mk (below_step Yg_ hb); have n3_ := Aside0.mk (hbox); have n4_ := Aside0.mk ((by rw [hg]; exact (below_size Yg_) : w.heap.size ≤ gb2)); have n5_ := Aside0.mk ((by rw [hg]; exact (below_size Yg_) : w.heap.size ≤ gb2)); have n6_ := Aside0.mk ((by rw [hg]; exact Nat.ne_of_lt (blk_lt (g := gb0) (o := .cells #[.slice A0_0 l0_0.length c0_0, .int .i64 a0_1, .slice A0_2 l0_2.length c0_2] 34 (0, 0)) Yc_) : gb0 ≠ gb2)); have n7_ := Aside0.mk ((by rw [hg]; exact Nat.ne_of_gt (blk_lt (g := gb0) (o := .cells #[.slice A0_0 l0_0.length c0_0, .int .i64 a0_1, .slice A0_2 l0_2.length c0_2] 34 (0, 0)) Yc_) : gb2 ≠ gb0)); have n8_ := Aside0.mk ((by rw [hg]; exact Nat.ne_of_lt (blk_lt (g := gb1) (o := .cells #[.int .i64 a1_0, .int .i64 a1_1, .int .i64 a1_2] 43 (0, 0)) Yh_) : gb1 ≠ gb2)); have n9_ := Aside0.mk ((by rw [hg]; exact Nat.ne_of_gt (blk_lt (g := gb1) (o := .cells #[.int .i64 a1_0, .int .i64 a1_1, .int .i64 a1_2] 43 (0, 0)) Yh_) : gb2 ≠ gb1)); clear BK0; clear BK1; clear HB; have BK0 := n0_; have BK1 := n1_; have HB := n2_; have BK2 := n3_; have GW2 := n4_; have GE2 := n5_; have NB0_2 := n6_; have NB2_0 := n7_; have NB1_2 := n8_; have NB2_1 := n9_; clear n0_ n1_ n2_ n3_ n4_ n5_ n6_ n7_ n8_ n9_; clear hb hbox hg; have hnb28 := NB0_1.out; have hnc28 := NB1_0.out; have hnb29 := NB0_2.out; have hnc29 := NB2_0.out; have hcz30_0 : w27.cell? ⟨gb0, 0, none⟩ = some (.slice A0_0 l0_0.length c0_0) := (blk_cell BK0.out 0).trans rfl; have hcz30_1 : w27.cell? ⟨gb0, 1, none⟩ = some (.int .i64 a0_1) := (blk_cell BK0.out 1).trans rfl; have hcz30_2 : w27.cell? ⟨gb0, 2, none⟩ = some (.slice A0_2 l0_2.length c0_2) := (blk_cell BK0.out 2).trans rfl; have hfz30_0 := blk_frozen BK0.out 0; have hfz30_1 := blk_frozen BK0.out 1; have hfz30_2 := blk_frozen BK0.out 2) | ((with_reducible refine gate_callee (f := 13) rfl ?_); refine goesL_ (some 10) rfl rfl Try.func13 Yj_ rfl #[.agg #[.slice A0_0 l0_0.length c0_0, .int .i64 a0_1, .slice A0_2 l0_2.length c0_2]] rfl Yf_ ?_; (with_reducible refine (impl_IsValidTerminal.calls k _ _ l0_0 a0_1 _ _ l0_2 false _ ?side1 ?side2 ?side3 ?side4 A3.out).mono ?_); (case side1 => repeat (first | exact (Kd.C_below HR0_0.out HB.out) | (with_reducible refine Kd.C_alloc ?_ _) | (with_reducible refine Kd.C_drewN ?_ _) | (with_reducible refine Kd.C_drew ?_))); (case side2 => exact HC0_0.out); (case side3 => repeat (first | exact (Kd.C_below HR0_2.out HB.out) | (with_reducible refine Kd.C_alloc ?_ _) | (with_reducible refine Kd.C_drewN ?_ _) | (with_reducible refine Kd.C_drew ?_))); (case side4 => exact HC0_2.out); rintro e w31 ⟨rfl, hb⟩; refine ⟨_, rfl, ?_⟩; have n0_ := Aside0.mk (blk_below (g := gb0) (o := .cells #[.slice A0_0 l0_0.length c0_0, .int .i64 a0_1, .slice A0_2 l0_2.length c0_2] 34 (0, 0)) Yc_ hb); have n1_ := Aside0.mk (blk_below (g := gb1) (o := .cells #[.int .i64 a1_0, .int .i64 a1_1, .int .i64 a1_2] 43 (0, 0)) Yh_ hb); have n2_ := Aside0.mk (blk_below (g := gb2) (o := .cells #[.slice none 0 0, .int .i64 0, .slice none 0 0] 34 (0, 0)) Ybb_ hb); have n3_ := Aside0.mk (below_step Ye_ hb); clear BK0; clear BK1; clear BK2; clear HB; have BK0 := n0_; have BK1 := n1_; have BK2 := n2_; have HB := n3_; clear n0_ n1_ n2_ n3_; (try clear hb); (try clear hb2); (try clear hk); (try clear hi); have hnb32 := NB2_1.out; have hnc32 := NB1_2.out; have hcz33_0 : w31.cell? ⟨gb2, 0, none⟩ = some (.slice none 0 0) := (blk_cell BK2.out 0).trans rfl; have hcz33_1 : w31.cell? ⟨gb2, 1, none⟩ = some (.int .i64 0) := (blk_cell BK2.out 1).trans rfl; have hcz33_2 : w31.cell? ⟨gb2, 2, none⟩ = some (.slice none 0 0) := (blk_cell BK2.out 2).trans rfl; have hfz33_0 := blk_frozen BK2.out 0; have hfz33_1 := blk_frozen BK2.out 1; have hfz33_2 := blk_frozen BK2.out 2))
  refine bodyPost_ret (Bo rfl _ _ gb2 34 #[.slice none 0 0, .int .i64 0, .slice none 0 0] (0, 0) _ rfl Yce_ Try.underlying34 rfl Yj_) rfl ?_
  exact ⟨fun _ => True, _, _, by first | rfl | (simp [errW_none, errW_some] <;> rfl) | (simp [*, errW_none, errW_some] <;> rfl), by first | exact Kd.S_nil _ _ _ _ _ | exact Kd.N_nil _ _ _ _ _ | exact Kd.V_nil _ _ _ _ _ | exact Kd.Q_nil _ _ _ _ _ | exact Kd.R_nil _ _ _ _ _, by first | exact Kd.S_nil _ _ _ _ _ | exact Kd.N_nil _ _ _ _ _ | exact Kd.V_nil _ _ _ _ _ | exact Kd.Q_nil _ _ _ _ _ | exact Kd.R_nil _ _ _ _ _, by repeat (first | (with_reducible first | exact HB.out | apply below_alloc | apply pw_below_drewN | apply below_drew1 | refine below_set ?_ GE0.out | refine below_set ?_ GE1.out | refine below_set ?_ GE2.out) | exact HB.out)⟩
set_option maxRecDepth 100000 in
theorem D5.calls (k : Nat) (A0_0 : Option Addr) (c0_0 : Nat) (l0_0 : List (List Int)) (a0_1 : Int) (A0_2 : Option Addr) (c0_2 : Nat) (l0_2 : List (List Int)) (a1_0 : Int) (a1_1 : Int) (a1_2 : Int) (r1 : List (List Int)) (r2 : Int) (r3 : List (List Int)) (r4 : Bool) (w : World) (hr0_0 : Kd.C (Kd.slice 3 (Kd.int .i64)) w A0_0 l0_0.length l0_0) (hc0_0 : l0_0.length ≤ c0_0) (hr0_2 : Kd.C (Kd.slice 3 (Kd.int .i64)) w A0_2 l0_2.length l0_2) (hc0_2 : l0_2.length ≤ c0_2) (h : D5.f k l0_0 a0_1 l0_2 a1_0 a1_1 a1_2 = some (r1, r2, r3, r4)) :
  Calls Try.prog 22 #[.agg #[.slice A0_0 l0_0.length c0_0, .int .i64 a0_1, .slice A0_2 l0_2.length c0_2], .agg #[.int .i64 a1_0, .int .i64 a1_1, .int .i64 a1_2]] w fun e w' => ∃ v0_ v2_ : Value, e = .returned (.tuple #[.agg #[v0_, .int .i64 r2, v2_], .bool r4]) ∧ Kd.S (Kd.slice 3 (Kd.int .i64)) 73 w' w.heap.size (fun k_ => some k_ ≠ (v2_ : Value).ownBlock) v0_ r1 ∧ Kd.S (Kd.slice 3 (Kd.int .i64)) 73 w' w.heap.size (fun k_ => some k_ ≠ (v0_ : Value).ownBlock) v2_ r3 ∧ Below w.heap.size w w' := by
 refine (D5.calls2 k A0_0 c0_0 l0_0 a0_1 A0_2 c0_2 l0_2 a1_0 a1_1 a1_2 r1 r2 r3 r4 w hr0_0 hc0_0 hr0_2 hc0_2 h).mono ?_
 rintro e w' ⟨P_, v0_, v2_, he, h1, h2, hb⟩
 exact ⟨v0_, v2_, he, Kd.S_mono h1 (fun k_ hk e_ => ((Kd.S_R h2).1 k_ e_.symm) hk), Kd.S_mono h2 (fun k_ hk e_ => hk ((Kd.S_R h1).1 k_ e_.symm)), hb⟩
end Go.Proofs.Ytnggfglmjdiaaaa.X

namespace Go.Proofs.Ytnggfglmjdiaaaa.X
open Go.RowKit Go.Proofs.YtnggfglmjdiaaaaW.PrintWords Go.Proofs.YtnggfglmjdiaaaaL
theorem spec_l9Find_ev (h : Int) (l : List (List Int)) (n : Int) (hl : rowsOk l) : Ev (fun k => spec_l9Find.f k h l n) (findFrom 0 l n) := by
 have key : ∀ (d i : Nat), i + d = l.length → Ev (fun k => spec_l9Find.l0 k n i h l) (findFrom i (l.drop i) n) := by
  intro d
  induction d with
  | zero =>
   intro i hi
   rw [List.drop_of_length_le (by omega)]
   exact Ev.step (f := fun _ => some _) (fun k => by simp only [spec_l9Find.l0]; rw [if_neg (by omega)]; rfl) (Ev.now _)
  | succ d ih =>
   intro i hi
   have hil : i < l.length := by omega
   have hs := hl.2 _ (List.getElem_mem hil)
   have hl1 := hl.1
   rw [List.drop_eq_getElem_cons hil]
   unfold findFrom
   have inner : ∀ (e j : Nat), j + e = l[i].length → Ev (fun k => spec_l9Find.l1 k n i j h l) (if idxFrom j (l[i].drop j) n ≥ 0 then ((i : Int), idxFrom j (l[i].drop j) n) else findFrom (i + 1) (l.drop (i + 1)) n) := by
    intro e
    induction e with
    | zero =>
     intro j hj
     rw [List.drop_of_length_le (by omega)]
     refine Ev.step (fun k => ?_) (ih (i + 1) (by omega))
     simp only [spec_l9Find.l1]
     rw [if_pos (by omega), if_pos (by omega), rdR l i hil, if_neg (by omega), wrap_succ (by omega)]
    | succ e ih2 =>
     intro j hj
     have hjl : j < l[i].length := by omega
     rw [List.drop_eq_getElem_cons hjl]
     unfold idxFrom
     by_cases c : l[i][j] = n
     ·simp only [if_pos c, if_pos (show (j : Int) ≥ 0 by omega)]
      refine Ev.step (f := fun _ => some _) (fun k => ?_) (Ev.now _)
      simp only [spec_l9Find.l1]
      rw [if_pos (by omega), if_pos (by omega), rdR l i hil, if_pos (by omega), if_pos (by omega), rd_at l[i] j hjl, if_pos c]
     ·simp only [if_neg c]
      refine Ev.step (fun k => ?_) (ih2 (j + 1) (by omega))
      simp only [spec_l9Find.l1]
      rw [if_pos (by omega), if_pos (by omega), rdR l i hil, if_pos (by omega), if_pos (by omega), rd_at l[i] j hjl, if_neg c, wrap_succ (by omega)]
   refine Ev.step (fun k => ?_) (inner l[i].length 0 (by omega))
   simp only [spec_l9Find.l0]
   rw [if_pos (by omega)]
   rfl
 exact Ev.congr (f := fun k => spec_l9Find.l0 k n ((0 : Nat) : Int) h l) (fun k => rfl) (by simpa using key l.length 0 (by omega))
end Go.Proofs.Ytnggfglmjdiaaaa.X

namespace Go.Proofs.Ytnggfglmjdiaaaa.X
open Go.RowKit Go.Proofs.YtnggfglmjdiaaaaW.PrintWords Go.Proofs.YtnggfglmjdiaaaaL Go.Proofs.YtnggfglmjdiaaaaOwn
/-- At most six rows of at most m numbers. -/
def sm (m : Nat) (l : Rows) : Prop := l.length ≤ 6 ∧ ∀ s ∈ l, s.length ≤ m
theorem sm_ok {m : Nat} {l : Rows} (h : sm m l) (hm : m ≤ 1048576) : rowsOk l := ⟨by have := h.1; omega, fun s hs => by have := h.2 s hs; omega⟩
theorem sm_up {m n : Nat} {l : Rows} (h : sm m l) (hm : m ≤ n) : sm n l := ⟨h.1, fun s hs => by have := h.2 s hs; omega⟩
theorem sm_rd {m : Nat} {l : Rows} (h : sm m l) (i : Int) : (rd_L1 l i).length ≤ m := by
 unfold rd_L1
 rw [List.getD_eq_getElem?_getD]
 cases e : l[i.toNat]? with
 | none => simp
 | some s => exact h.2 s (List.mem_of_getElem? e)
theorem sm_set {m : Nat} {l : Rows} (h : sm m l) (i : Nat) {s : List Int} (hs : s.length ≤ m) : sm m (l.set i s) := by
 refine ⟨by rw [List.length_set]; exact h.1, fun x hx => ?_⟩
 rcases List.mem_or_eq_of_mem_set hx with hx | rfl
 ·exact h.2 x hx
 ·exact hs
theorem sm_cut {m : Nat} {l : Rows} (h : sm m l) (i : Int) : sm m (cutRow l i) := sm_set h _ (by rw [List.length_take]; have := sm_rd h i; omega)
theorem sm_put {m : Nat} {l : Rows} (h : sm m l) (i b : Int) : sm (m + 1) (putRow l i b) := sm_set (sm_up h (by omega)) _ (by rw [List.length_append, List.length_singleton]; have := sm_rd h i; omega)
theorem term_sm {Y : Rows} {h : Int} {B : Rows} (ok : termOk Y h B = true) : sm 4 Y ∧ sm 4 B := by
 obtain ⟨h1, h2, _, h4, h5, _⟩ := term_small Y h B ok
 exact ⟨⟨h1, h4⟩, ⟨by omega, h5⟩⟩
theorem term_nodup {Y : Rows} {h : Int} {B : Rows} (ok : termOk Y h B = true) : Y.flatten.Nodup ∧ B.flatten.Nodup ∧ (∀ s ∈ Y, ∀ n ∈ s, 1 ≤ n ∧ n ≤ 99) ∧ (∀ s ∈ B, ∀ n ∈ s, 1 ≤ n ∧ n ≤ 99) ∧ ∀ s ∈ B, ∀ n ∈ s, (findFrom 0 Y n).1 < 0 := by
 unfold termOk yardOk bayOk at ok
 simp only [Bool.and_eq_true, decide_eq_true_eq] at ok
 obtain ⟨⟨⟨_, a3⟩, ⟨_, b4⟩⟩, c⟩ := ok
 have h1 := (goodRows_iff 4 Y [] List.nodup_nil).1 a3
 have h2 := (goodRows_iff h B [] List.nodup_nil).1 b4
 refine ⟨by simpa using h1.2.2, by simpa using h2.2.2, h1.2.1, h2.2.1, fun s hs n hn => ?_⟩
 have := List.all_eq_true.1 c s hs
 exact of_decide_eq_true (List.all_eq_true.1 this n hn)
theorem ans_ev {Y : Rows} {h : Int} {B : Rows} (a : Int) (hY : sm 5 Y) (hB : sm 5 B) : Ev (fun k => (impl_IsValidTerminal.f k Y h B).bind fun v => moAnswer v Y h B a) (finI Y h B a) := by
 refine Ev.bind (implTerm_ev Y h B (sm_ok hY (by omega)) (sm_ok hB (by omega))) ?_
 unfold finI moAnswer
 by_cases c : termOk Y h B = true
 ·simp only [if_pos c]; exact Ev.now _
 ·simp only [if_neg c]; exact Ev.now _
theorem implMk_ev (Y : Rows) (h : Int) (B : Rows) (K b d : Int) (hY : sm 4 Y) (hB : sm 4 B) : Ev (fun k => impl_makeOrder.f k Y h B K b d) (makeI Y h B K b d) := by
 unfold impl_makeOrder.f
 refine Ev.bind (implOwnTerm_ev Y h B (sm_ok hY (by omega)) (sm_ok hB (by omega))) ?_
 unfold makeI
 dsimp only
 have f1 := sm_rd (sm_cut hY (idxRow (topIs b) Y)) d
 have f2 := sm_rd hB d
 have f3 := sm_rd hY d
 by_cases k1 : K = 1
 ·simp only [if_pos k1]
  by_cases c : idxRow (topIs b) Y < 0
  ·simp only [if_pos c]; exact Ev.now _
  ·simp only [if_neg c]
   by_cases c2 : inRows Y d = true
   ·simp only [if_pos c2]
    by_cases c3 : d = idxRow (topIs b) Y
    ·simp only [if_pos c3]; exact Ev.now _
    ·simp only [if_neg c3]
     refine ev_if (by omega) (ans_ev _ (sm_put (sm_cut hY _) _ _) (sm_up hB (by omega)))
   ·simp only [if_neg c2]; exact Ev.now _
 ·simp only [if_neg k1]
  by_cases k2 : K = 2
  ·simp only [if_pos k2]
   by_cases c : idxRow (topIs b) Y < 0
   ·simp only [if_pos c]; exact Ev.now _
   ·simp only [if_neg c]
    by_cases c2 : inRows B d = true
    ·simp only [if_pos c2]
     refine ev_if (by omega) (ans_ev _ (sm_up (sm_cut hY _) (by omega)) (sm_put hB _ _))
    ·simp only [if_neg c2]; exact Ev.now _
  ·simp only [if_neg k2]
   by_cases k3 : K = 3
   ·simp only [if_pos k3]
    by_cases c : idxRow (topIs b) B < 0
    ·simp only [if_pos c]; exact Ev.now _
    ·simp only [if_neg c]
     by_cases c2 : inRows Y d = true
     ·simp only [if_pos c2]
      refine ev_if (by omega) (ans_ev _ (sm_put hY _ _) (sm_up (sm_cut hB _) (by omega)))
     ·simp only [if_neg c2]; exact Ev.now _
   ·simp only [if_neg k3]; exact Ev.now _
theorem inRows_cut (l : Rows) (i d : Int) : inRows (cutRow l i) d = inRows l d := by unfold inRows; rw [len_cut]
theorem lmFin_ev {Y : Rows} {h : Int} {B : Rows} (hY : sm 5 Y) (hB : sm 5 B) : Ev (fun k => (Aa.f k Y h B).bind fun v => Es v Y h B) (finS Y h B) := by
 refine Ev.bind (specTerm_ev Y h B (sm_ok hY (by omega)) (sm_ok hB (by omega))) ?_
 unfold finS Es
 by_cases c : termOk Y h B = true
 ·simp only [if_pos c]; exact Ev.now _
 ·simp only [if_neg c]; exact Ev.now _
theorem lmPutY_ev (Y : Rows) (h : Int) (B : Rows) (b d : Int) (hY : sm 4 Y) (hB : sm 4 B) : Ev (fun k => lmPutY k Y h B b d) (if inRows Y d = true then finS (putRow Y d b) h B else ([], 0, [], false)) := by
 unfold lmPutY
 have f := sm_rd hY d
 by_cases c : inRows Y d = true
 ·simp only [if_pos c]
  have e : Cb.f (rd_L1 Y d) = some (rd_L1 Y d) := l1Own_eq _ (by omega)
  simp only [e, Option.isSome_some, if_true, Option.bind_some]
  exact ev_if (by omega) (lmFin_ev (Y := putRow Y d b) (sm_put hY _ _) (sm_up hB (by omega)))
 ·simp only [if_neg c]; exact Ev.now _
theorem lmPutB_ev (Y : Rows) (h : Int) (B : Rows) (b d : Int) (hY : sm 4 Y) (hB : sm 4 B) : Ev (fun k => lmPutB k Y h B b d) (if inRows B d = true then finS Y h (putRow B d b) else ([], 0, [], false)) := by
 unfold lmPutB
 have f := sm_rd hB d
 by_cases c : inRows B d = true
 ·simp only [if_pos c]
  have e : Cb.f (rd_L1 B d) = some (rd_L1 B d) := l1Own_eq _ (by omega)
  simp only [e, Option.isSome_some, if_true, Option.bind_some]
  exact ev_if (by omega) (lmFin_ev (B := putRow B d b) (sm_up hY (by omega)) (sm_put hB _ _))
 ·simp only [if_neg c]; exact Ev.now _
theorem lmCut_eq (F : Rows) (b : Int) (ok : Bool) (go : Rows → Option (Rows × Int × Rows × Bool)) :
  lmCut F F (findFrom 0 F b).1 (findFrom 0 F b).2 ok go = if Ee F (findFrom 0 F b) then (if ok = true then go (cutRow F (findFrom 0 F b).1) else some ([], 0, [], false)) else some ([], 0, [], false) := by
 have hl : 0 ≤ (findFrom 0 F b).1 → (findFrom 0 F b).1 < (F.length : Int) ∧ 0 ≤ (findFrom 0 F b).2 := by
  intro h0
  obtain ⟨i, j, s, he, h1, h2⟩ := find_hit F 0 b h0
  have hi := (List.getElem?_eq_some_iff.1 h1).1
  rw [he]
  simp only [Nat.zero_add]
  omega
 by_cases L : Ee F (findFrom 0 F b)
 ·rw [if_pos L]
  obtain ⟨L1, L2⟩ := L
  obtain ⟨h1, h2⟩ := hl L1
  unfold lmCut
  rw [if_neg (show ¬ (findFrom 0 F b).1 < 0 by omega), if_pos h1, if_pos L2]
  by_cases c3 : ok = true
  ·rw [if_pos c3, if_pos c3, if_pos (show 0 ≤ (findFrom 0 F b).2 ∧ (findFrom 0 F b).1 < (F.length : Int) ∧ (findFrom 0 F b).2 ≤ ((rd_L1 F (findFrom 0 F b).1).length : Int) by omega)]
   unfold cutAt cutRow
   rw [show ((findFrom 0 F b).2).toNat = (rd_L1 F (findFrom 0 F b).1).length - 1 by omega]
  ·rw [if_neg c3, if_neg c3]
 ·rw [if_neg L]
  unfold lmCut
  by_cases c : (findFrom 0 F b).1 < 0
  ·rw [if_pos c]
  ·rw [if_neg c, if_pos (hl (by omega)).1, if_neg (fun z => L ⟨by omega, z⟩)]
theorem specMk_ev (Y : Rows) (h : Int) (B : Rows) (K b d : Int) (hY : sm 4 Y) (hB : sm 4 B) : Ev (fun k => spec_l24Make.f k Y h B K b d) (makeS Y h B K b d) := by
 unfold spec_l24Make.f
 refine Ev.bind (specOwnTerm_ev Y h B (sm_ok hY (by omega)) (sm_ok hB (by omega))) ?_
 unfold makeS
 dsimp only
 by_cases k3 : K = 3
 ·simp only [if_pos k3]
  refine Ev.bind (spec_l9Find_ev h B b (sm_ok hB (by omega))) ?_
  simp only [lmCut_eq, if_true]
  by_cases c : Ee B (findFrom 0 B b)
  ·simp only [if_pos c]
   exact lmPutY_ev Y h _ b d hY (sm_cut hB _)
  ·simp only [if_neg c]; exact Ev.now _
 ·simp only [if_neg k3]
  refine Ev.bind (spec_l5Find_ev Y b (sm_ok hY (by omega))) ?_
  simp only [lmCut_eq]
  by_cases k1 : K = 1
  ·simp only [if_pos k1]
   by_cases c : Ee Y (findFrom 0 Y b)
   ·simp only [if_pos c]
    by_cases c2 : d = (findFrom 0 Y b).1
    ·rw [if_pos c2]
     exact ev_eq (fun k => if_neg (by simp [c2]))
    ·rw [if_neg c2]
     refine Ev.congr (fun k => if_pos (by simp [c2])) ?_
     have := lmPutY_ev (cutRow Y (findFrom 0 Y b).1) h B b d (sm_cut hY _) hB
     rw [inRows_cut] at this
     exact this
   ·simp only [if_neg c]; exact Ev.now _
  ·simp only [if_neg k1]
   by_cases k2 : K = 2
   ·simp only [if_pos k2, if_true]
    by_cases c : Ee Y (findFrom 0 Y b)
    ·simp only [if_pos c]
     exact lmPutB_ev _ h B b d (sm_cut hY _) hB
    ·simp only [if_neg c]; exact Ev.now _
   ·simp only [if_neg k2, if_true]
    by_cases c : Ee Y (findFrom 0 Y b)
    ·simp only [if_pos c]; exact Ev.now _
    ·simp only [if_neg c]; exact Ev.now _
theorem makeI_etaP {Y : Rows} {h : Int} {B : Rows} {K b d : Int} (c : (makeI Y h B K b d).2.2.2.2 = true) : makeI Y h B K b d = ((makeI Y h B K b d).1, (makeI Y h B K b d).2.1, (makeI Y h B K b d).2.2.1, (makeI Y h B K b d).2.2.2.1, true) := by
 rw [← c]
/-- The order made in a valid terminal. -/
def mkOf (Y : Rows) (h : Int) (B : Rows) (K b d : Int) : Rows × Int × Rows × Bool := if termOk Y h B = true then four (makeI Y h B K b d) else ([], 0, [], false)
theorem specMk4_ev {Y : Rows} {h : Int} {B : Rows} (K b d : Int) (ok : termOk Y h B = true) : Ev (fun k => spec_l24Make.f k Y h B K b d) (four (makeI Y h B K b d)) := by
 obtain ⟨h1, h2, _⟩ := term_nodup ok
 rw [← make_eq h1 h2]
 exact specMk_ev Y h B K b d (term_sm ok).1 (term_sm ok).2
theorem specMO_ev (Y : Rows) (h : Int) (B : Rows) (K b d : Int) (hY : rowsOk Y) (hB : rowsOk B) : Ev (fun k => Ce.f k Y h B K b d) (mkOf Y h B K b d) := by
 refine Ev.bind (specTerm_ev Y h B hY hB) ?_
 unfold mkOf
 by_cases c : termOk Y h B = true
 ·simp only [if_pos c]
  exact Ev.bind (specMk4_ev K b d c) (Ev.now _)
 ·simp only [if_neg c]; exact Ev.now _
def invOf (Y : Rows) (h : Int) (B : Rows) (K b d : Int) : Int × Int × Int × Bool := if termOk Y h B = true then (if (makeI Y h B K b d).2.2.2.2 = true then (backKind K, b, (makeI Y h B K b d).2.2.2.1, true) else (0, 0, 0, false)) else (0, 0, 0, false)
theorem implInv_ev (Y : Rows) (h : Int) (B : Rows) (K b d : Int) (hY : rowsOk Y) (hB : rowsOk B) : Ev (fun k => Bg.f k Y h B K b d) (invOf Y h B K b d) := by
 refine Ev.bind (implTerm_ev Y h B hY hB) ?_
 unfold invOf
 by_cases c : termOk Y h B = true
 ·simp only [if_pos c]
  refine Ev.bind (implMk_ev Y h B K b d (term_sm c).1 (term_sm c).2) ?_
  by_cases c2 : (makeI Y h B K b d).2.2.2.2 = true
  ·obtain ⟨hk, _⟩ := made_from (term_nodup c).1 (term_nodup c).2.1 (makeI_etaP c2)
   simp only [if_pos c2, Option.bind_some]
   refine ev_eq (fun k => ?_)
   rw [if_pos (by omega), if_pos (by simp; omega)]
   rcases hk with rfl | rfl | rfl <;> rfl
  ·simp only [if_neg c2]; exact Ev.now _
 ·simp only [if_neg c]; exact Ev.now _
theorem specInv_ev (Y : Rows) (h : Int) (B : Rows) (K b d : Int) (hY : rowsOk Y) (hB : rowsOk B) : Ev (fun k => Cf.f k Y h B K b d) (invOf Y h B K b d) := by
 refine Ev.bind (specMO_ev Y h B K b d hY hB) ?_
 unfold invOf mkOf
 by_cases c : termOk Y h B = true
 ·simp only [if_pos c, four]
  by_cases c2 : (makeI Y h B K b d).2.2.2.2 = true
  ·obtain ⟨hk, h3, h4, _⟩ := made_from (term_nodup c).1 (term_nodup c).2.1 (makeI_etaP c2)
   simp only [if_pos c2]
   refine Ev.bind (spec_l5Find_ev Y b hY) (Ev.bind (spec_l9Find_ev h B b hB) ?_)
   rcases hk with rfl | rfl | rfl
   ·rw [← h3 (by decide)]; exact Ev.now _
   ·rw [← h3 (by decide)]; exact Ev.now _
   ·rw [← h4 rfl]; exact Ev.now _
  ·simp only [if_neg c2]; exact Ev.now _
 ·simp only [if_neg c]; exact ev_eq (fun k => if_neg (by simp))
end Go.Proofs.Ytnggfglmjdiaaaa.X

namespace Go.Proofs.Ytnggfglmjdiaaaa.Pure
open Go.RowKit Go.Proofs.YtnggfglmjdiaaaaW.PrintWords Go.Proofs.YtnggfglmjdiaaaaL Go.Proofs.Ytnggfglmjdiaaaa.X Go.Proofs.YtnggfglmjdiaaaaOwn
theorem FnExactInverseOrder : OFnExactInverseOrder.Pure := by
 intro x z hx hz
 refine ev_rounds ?_
 obtain ⟨h1, h0, h2⟩ := hx
 obtain ⟨r, hr, hb⟩ := szTerm_ev x.f0.f0 x.f1.f0 x.f1.f1 (by have := h1.1; omega) (fun s hs => by have := (h1.2.2 s hs).1; omega) (by have := h2.1; omega) (fun s hs => by have := (h2.2.2 s hs).1; omega)
 unfold Di.f
 refine Ev.bind hr ?_
 by_cases c : r < 0
 ·simp only [if_pos c]; exact Ev.now _
 ·obtain ⟨hY, hS⟩ := hb c
  generalize x.f0.f0 = Y at *
  generalize x.f1.f0 = hh at *
  generalize x.f1.f1 = S at *
  generalize z.f0 = K
  generalize z.f1 = b
  generalize z.f2 = d
  have hT := toTerm_ev Y hh S hY hS
  have hO : Ev (fun k => laws_toOrder.f K b d) (K, b, d) := Ev.now _
  have hi := implInv_ev Y hh S K b d hY hS
  have hs := specInv_ev Y hh S K b d hY hS
  generalize invOf Y hh S K b d = R at hi hs
  refine ev_past c ?_
  refine Ev.bind hT (Ev.bind hO (Ev.bind hs (Ev.bind hT (Ev.bind hO (Ev.bind hi ?_)))))
  have he : laws_eqOrder.f R.1 R.2.1 R.2.2.1 R.1 R.2.1 R.2.2.1 = some true := by
   unfold laws_eqOrder.f
   rw [if_pos rfl, if_pos rfl, if_pos rfl]
  have hE : Ev (fun _ => laws_eqOrder.f R.1 R.2.1 R.2.2.1 R.1 R.2.1 R.2.2.1) true := ev_eq (fun _ => he)
  refine Ev.bind hE (ev_if rfl (ev_if rfl ?_))
  refine Ev.bind hT (Ev.bind (eqTerm_ev Y hh S hY hS) (ev_if rfl ?_))
  exact Ev.now _
end Go.Proofs.Ytnggfglmjdiaaaa.Pure


namespace Go.Proofs.Ytnggfglmjdiaaaa.fnExactInverseOrder
open Go.ChangeShapes Go.WideShapes Go.ChangeAt Go.RowKit
open Go.ChangeMaps (open_string shut_string)
open Go.Joins
open Go.Proofs.YtnggfglmjdiaaaaW.PrintWords Go.Proofs.YtnggfglmjdiaaaaW.PrintLast Go.Proofs.YtnggfglmjdiaaaaW.PrintMore
open Go.Proofs.YtnggfglmjdiaaaaZ Go.Proofs.Ytnggfglmjdiaaaa.X Go.Proofs.Ytnggfglmjdiaaaa.X.OFnExactInverseOrder
set_option linter.unusedVariables false
set_option linter.unusedSimpArgs false
theorem own : ownKnob Try.prog.godebug = none := by kernel_rfl
theorem laidOut : laidOutB Try.prog = true := by kernel_rfl
set_option maxRecDepth 100000 in
set_option maxHeartbeats 2000000 in
theorem lifted (os : Os) (started : os.Started) (H : Type) (enc : TypeId × Value → H) :
    ReturnsInHanded {} Try.checked os 5 .any (Rows.fnExactInverseOrderSpec.pre6 enc Try.prog Try.f5 Rows.fnExactInverseOrderRow.domain false) (Rows.fnExactInverseOrderSpec.post enc Try.prog Try.f5 false true false false) := by
  refine returnsInHanded_of_change_sized (C := Try.checked) own started Yj_ Try.func5
    (ChangeSpec.witness6 (enc := enc) (C := Try.checked) false ⟨#[], #[.agg #[.slice none 0 0, .int .i64 0, .slice none 0 0], .agg #[.int .i64 0, .int .i64 0, .int .i64 0]], []⟩ 8 Yj_ Yj_ Yj_ Yj_) ?_
  intro W base args ds gs before hval0 hW hcnd hsz0 _
  have hsz : (DataW.weightsEach Try.prog (Try.f5.params.toList ++ Rows.fnExactInverseOrderSpec.plain.varTypes Try.prog) (ds ++ gs)).all (· ≤ reachBytes) = true := hsz0
  have hval : ∀ (j : Nat) t v, Try.f5.params[j]? = some t → args[j]? = some v → Value.okWide Try.prog W .any base t v := hval0
  have hW' := hW
  obtain ⟨p, q, hA0, hV, rfl, hfz, hnd⟩ := hW
  have hA : DataW.TrodAll enc Try.prog W 0 (fun _ => true) true Try.f5.params.toList args.toList ds p := hA0
  rw [Try.params5] at hA hval hsz
  obtain ⟨v0, vs0, d0, ds0, p0, q0, hargs, rfl, rfl, h0, r0⟩ := trodAll_cons hA
  obtain ⟨v1, vs1, d1, ds1, p1, q1, rfl, rfl, rfl, h1, r1⟩ := trodAll_cons r0
  obtain ⟨rfl, rfl, rfl⟩ := trodAll_nil r1
  obtain rfl : args = #[v0, v1] := by cases args; simp_all
  obtain ⟨rfl, rfl⟩ := trodVars_none hV
  obtain ⟨cs0, rfl, hs0⟩ := okWide_struct Try.underlying28 (hval 0 28 v0 rfl rfl)
  have k0 := h0
  have lt0 : ∀ x ∈ p0, x.block < W.heap.size := by obtain ⟨m, hm⟩ := k0; exact DataW.trod_lt m _ _ _ hm
  obtain ⟨x0, hK0, w0⟩ : ∃ x : S28, k28.K W x cs0.toList ∧ fitsT28 x := by
    obtain ⟨fuel, hf⟩ := h0
    exact opensT28 hf (weights_param hsz (j := 0) rfl rfl)
  obtain ⟨A0_0, c0_0, A0_2, c0_2, e0, hc0_0, hr0_0, hc0_2, hr0_2⟩ := k28_open hK0
  obtain rfl : cs0 = #[.slice A0_0 x0.f0.f0.length c0_0, .int .i64 x0.f1.f0, .slice A0_2 x0.f1.f1.length c0_2] := by cases cs0; simpa using e0
  obtain ⟨cs1, rfl, hs1⟩ := okWide_struct Try.underlying42 (hval 1 42 v1 rfl rfl)
  have k1 := h1
  have lt1 : ∀ x ∈ p1, x.block < W.heap.size := by obtain ⟨m, hm⟩ := k1; exact DataW.trod_lt m _ _ _ hm
  obtain ⟨x1, hK1, w1⟩ : ∃ x : S42, k42.K W x cs1.toList ∧ fitsT42 x := by
    obtain ⟨fuel, hf⟩ := h1
    exact opensT42 hf (weights_param hsz (j := 1) rfl rfl)
  have e1 := k42_open hK1
  obtain rfl : cs1 = #[.int .i64 x1.f0, .int .i64 x1.f1, .int .i64 x1.f2] := by cases cs1; simpa using e1
  clear hA0 hval0 hsz0 hsz
  obtain ⟨k, h⟩ := Go.Proofs.Ytnggfglmjdiaaaa.Pure.FnExactInverseOrder x0 x1 w0 w1
  refine (Di.calls k A0_0 c0_0 x0.f0.f0 x0.f1.f0 A0_2 c0_2 x0.f1.f1 x1.f0 x1.f1 x1.f2 true W hr0_0 hc0_0 hr0_2 hc0_2 h rfl).mono fun e W' ⟨he, bel0⟩ => ?_
  have bel : Below W.heap.size W W' := bel0
  subst he
  exact ⟨_, rfl, _, _, _, [], _, [], hW', trodAll_mk1 (shut_bool Try.underlying4 _), (trodAll_cons_mk (Below.trod laidOut Yj_ (of_decide_eq_true Yj_) k0 bel lt0) (trodAll_cons_mk (Below.trod laidOut Yj_ (of_decide_eq_true Yj_) k1 bel lt1) trodAll_mk0)), rfl, bel.frame _, fun h => by cases h⟩
theorem over : Rows.fnExactInverseOrderRow.holds Try.pinned (OpenSpec.ofChange Rows.fnExactInverseOrderSpec) :=
  OpenClaim.holds_of_wide 5 Try.f5 rfl rfl rfl rfl rfl rfl rfl ⟨rfl, rfl, rfl, rfl, rfl⟩ rfl rfl rfl rfl rfl Yj_ Try.func5 Yj_
    (of_decide_eq_true Yj_) (by unfold Func.isWrapper; first | (rw [if_pos (by decide +kernel)]; kernel_rfl) | (rw [if_neg (by decide +kernel)]; exact ⟨rfl, rfl⟩))
    (fun os started H enc _ => lifted os started H enc)
theorem proved : Rows.FnExactInverseOrderSaid := over
#print axioms proved
end Go.Proofs.Ytnggfglmjdiaaaa.fnExactInverseOrder
namespace Go.Proofs.Ytnggfglmjdiaaaa
/-- The row, under a short name, for the claim. -/
theorem fnExactInverseOrder_holds : Rows.FnExactInverseOrderSaid := fnExactInverseOrder.proved
end Go.Proofs.Ytnggfglmjdiaaaa

