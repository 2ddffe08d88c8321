/- The law FnLogLines answers true for every input that the row lets in, and leaves its arguments as they were. Conditions: none beyond the row's own. -/
import Derived.Lib.ItoaNum
import Derived.Lib.ItoaLen
import Derived.Lib.IndexAny
import Derived.Test.YtkpieljmhgfofaaDoorRows
import Derived.WalkKit
import Derived.ProofKit
import Derived.OpenShut
import Derived.ShutString
import Derived.ChangeOld
import Derived.Below
import Derived.SizedLaws
import Derived.Lib.SmallJoins
import Derived.Handy
import Derived.Lay
import Derived.SevenTiedAt
import Derived.LaidSub
import Derived.Lib.LaidTab
import Derived.Test.YtkpieljmhgfofaaDoorCards
import Derived.Test.YtkpieljmhgfofaaDoorTie
import Derived.Test.YtkpieljmhgfofaaDoorKFnLogLines1
import Derived.Test.YtkpieljmhgfofaaDoorKFnLogLines2
import Derived.Test.YtkpieljmhgfofaaDoorKFnLogLines3
import Derived.Test.YtkpieljmhgfofaaDoorKFnLogLines4
namespace Go.Proofs.YtkpieljmhgfofaaDoor.X
open Go.RowKit Go.Proofs.YtkpieljmhgfofaaDoorW.PrintWords Go.Proofs.YtkpieljmhgfofaaDoorL
set_option linter.unusedVariables false
set_option linter.unusedSimpArgs false
theorem within_eq' (a b c : Int) : Ff.f a b c = some (decide (b ≤ a) && decide (a ≤ c)) := by
  unfold Ff.f
  by_cases h : a ≥ b
  · rw [if_pos h]; simp [show b ≤ a from h]
  · rw [if_neg h]; simp [show ¬ b ≤ a from h]
theorem l1In_eq' (a b c : Int) : F7.f a b c = some (decide (b ≤ a) && decide (a ≤ c)) := by
  unfold F7.f
  by_cases h : a ≥ b
  · rw [if_pos h]; simp [show b ≤ a from h]
  · rw [if_neg h]; simp [show ¬ b ≤ a from h]
/-- Bytes that can be printed, none of some. -/
def okP (bad : List UInt8) (b : UInt8) : Bool := decide (32 ≤ b.toNat) && decide (b.toNat ≤ 126) && !bad.contains b
def rngP (b : UInt8) : Bool := decide (32 ≤ b.toNat) && decide (b.toNat ≤ 126)
theorem implPrint_ev (s c : ByteArray) (hs : s.size < 4294967281) (hc : asciiB c = true) : Ev (fun k => Bz.f k s c) ((B s).all (okP (B c))) := by
  have hlen := Dw s
  have hB : ∀ x : ByteArray, x.data.toList = B x := fun _ => rfl
  have key : ∀ (d n : Nat), n + d = s.size → ((B s).take n).all rngP = true → Ev (fun k => Bz.l0 k s c (s.size : Int) n) ((B s).all rngP && !Lib.containsAny (B s) (B c)) := by
    intro d
    induction d with
    | zero =>
      intro n hn hr
      obtain rfl : n = s.size := by omega
      rw [List.take_of_length_le (by omega)] at hr
      refine Ev.step (f := fun _ => some _) (fun k => ?_) (Ev.now _)
      simp only [Bz.l0]
      have ha : asciiB s = true := by
        unfold asciiB
        simp only [Bool.and_eq_true, decide_eq_true_eq, List.all_eq_true]
        refine ⟨hs, fun b hb => ?_⟩
        have := List.all_eq_true.1 hr b hb
        simp [rngP] at this; omega
      rw [if_neg (by omega)]
      unfold strings_ContainsAny.f
      rw [if_pos ⟨ha, hc⟩, hr, hB, hB]
      simp
    | succ d ih =>
      intro n hn hr
      have hl : n < (B s).length := by omega
      have hb := bt_B s n hl
      by_cases e : rngP (B s)[n] = true
      · refine Ev.step (f := fun k => Bz.l0 k s c (s.size : Int) ((n + 1 : Nat) : Int)) (fun k => ?_) (ih (n + 1) (by omega) (by rw [List.take_succ_eq_append_getElem hl, List.all_append, hr]; simp [e]))
        simp only [Bz.l0]
        simp [rngP] at e
        rw [if_pos (by omega), if_pos (by omega), if_pos (by omega), hb, if_neg (by omega), if_neg (by omega), wrap_succ (by omega)]
      · have hf : (B s).all rngP = false := by
          rw [List.all_eq_false]; exact ⟨_, List.getElem_mem hl, by simpa using e⟩
        rw [hf, Bool.false_and]
        refine Ev.step (f := fun _ => some false) (fun k => ?_) (Ev.now _)
        simp only [Bz.l0]
        simp [rngP] at e
        rw [if_pos (by omega), if_pos (by omega), if_pos (by omega), hb]
        by_cases z : ((B s)[n].toNat : Int) < 32
        · rw [if_pos z]
        · rw [if_neg z, if_pos (by have := e (by omega); omega)]
  have e : (B s).all (okP (B c)) = ((B s).all rngP && !Lib.containsAny (B s) (B c)) := by
    rw [containsAny_any]
    generalize B s = l
    induction l with
    | nil => rfl
    | cons b l ih =>
      simp only [List.all_cons, List.any_cons, ih, okP, rngP]
      cases decide (32 ≤ b.toNat) <;> cases decide (b.toNat ≤ 126) <;> cases (B c).contains b <;> cases l.all rngP <;> simp
  rw [e]
  exact Ev.congr (fun k => rfl) (key s.size 0 (by omega) (by simp))
theorem specPlain_ev (s : ByteArray) (m : Int) (hs : s.size < 4294967281) : Ev (fun k => Ci.f k s m) ((B s).all (okP [35]) && decide ((s.size : Int) ≤ m)) := by
  have hlen := Dw s
  have key : ∀ (d n : Nat), n + d = s.size → Ev (fun k => Ci.l0 k s m n) (((B s).drop n).all (okP [35]) && decide ((s.size : Int) ≤ m)) := by
    intro d
    induction d with
    | zero =>
      intro n hn
      obtain rfl : n = s.size := by omega
      refine Ev.step (f := fun _ => some _) (fun k => ?_) (Ev.now _)
      simp only [Ci.l0]
      rw [if_neg (by omega), List.drop_of_length_le (by omega)]
      simp
    | succ d ih =>
      intro n hn
      have hl : n < (B s).length := by omega
      have hb := bt_B s n hl
      rw [List.drop_eq_getElem_cons hl, List.all_cons]
      have h255 := bt_range s n
      have e35 : (([35] : List UInt8).contains (B s)[n]) = decide ((B s)[n].toNat = 35) := by
        by_cases z : (B s)[n] = 35
        · simp [z]
        · have : ¬ (B s)[n].toNat = 35 := fun y => z (UInt8.toNat_inj.1 (by simpa using y))
          simp [z, this]
      by_cases e : okP [35] (B s)[n] = true
      · rw [e, Bool.true_and]
        refine Ev.step (f := fun k => Ci.l0 k s m ((n + 1 : Nat) : Int)) (fun k => ?_) (ih (n + 1) (by omega))
        simp only [Ci.l0, l1In_eq']
        unfold okP at e
        rw [e35] at e
        simp only [Bool.and_eq_true, decide_eq_true_eq, Bool.not_eq_true', decide_eq_false_iff_not] at e
        rw [if_pos (by omega), if_pos (by omega), wrap_id (x := bt s n) (by omega) (by omega), hb, decide_eq_true (show (32 : Int) ≤ ((B s)[n].toNat : Int) by omega), decide_eq_true (show ((B s)[n].toNat : Int) ≤ 126 by omega)]
        simp only [Option.bind_some, Bool.and_self, if_true]
        rw [if_neg (by omega), wrap_succ (by omega)]
      · have e2 : okP [35] (B s)[n] = false := by simpa using e
        rw [e2, Bool.false_and, Bool.false_and]
        refine Ev.step (f := fun _ => some false) (fun k => ?_) (Ev.now _)
        simp only [Ci.l0, l1In_eq']
        unfold okP at e2
        rw [e35] at e2
        rw [if_pos (by omega), if_pos (by omega), wrap_id (x := bt s n) (by omega) (by omega), hb]
        by_cases c1 : 32 ≤ (B s)[n].toNat
        · by_cases c2 : (B s)[n].toNat ≤ 126
          · have c3 : (B s)[n].toNat = 35 := by simpa [c1, c2] using e2
            rw [decide_eq_true (show (32 : Int) ≤ ((B s)[n].toNat : Int) by omega), decide_eq_true (show ((B s)[n].toNat : Int) ≤ 126 by omega)]
            simp only [Option.bind_some, Bool.and_self, if_true]
            rw [if_pos (by omega)]
          · rw [decide_eq_false (show ¬ ((B s)[n].toNat : Int) ≤ 126 by omega)]; simp
        · rw [decide_eq_false (show ¬ (32 : Int) ≤ ((B s)[n].toNat : Int) by omega)]; simp
  exact Ev.congr (f := fun k => Ci.l0 k s m ((0 : Nat) : Int)) (fun k => rfl) (by simpa using key s.size 0 (by omega))
theorem specStands_ev (s : ByteArray) (c : UInt8) (hs : s.size < 4294967281) : Ev (fun k => Dl.f k s (c.toNat : Int)) ((B s).any fun b => b == c) := by
  have hlen := Dw s
  have key : ∀ (d n : Nat), n + d = s.size → Ev (fun k => Dl.l0 k s (c.toNat : Int) n) (((B s).drop n).any fun b => b == c) := by
    intro d
    induction d with
    | zero =>
      intro n hn
      obtain rfl : n = s.size := by omega
      refine Ev.step (f := fun _ => some _) (fun k => ?_) (Ev.now _)
      simp only [Dl.l0]
      rw [if_neg (by omega), List.drop_of_length_le (by omega)]
      simp
    | succ d ih =>
      intro n hn
      have hl : n < (B s).length := by omega
      have hb := bt_B s n hl
      rw [List.drop_eq_getElem_cons hl, List.any_cons]
      by_cases e : (B s)[n] = c
      · have : ((B s)[n] == c) = true := by simpa using e
        rw [this, Bool.true_or]
        refine Ev.step (f := fun _ => some true) (fun k => ?_) (Ev.now _)
        simp only [Dl.l0]
        rw [if_pos (by omega), if_pos (by omega), hb, if_pos (by rw [e])]
      · have : ((B s)[n] == c) = false := by simpa using e
        rw [this, Bool.false_or]
        refine Ev.step (f := fun k => Dl.l0 k s (c.toNat : Int) ((n + 1 : Nat) : Int)) (fun k => ?_) (ih (n + 1) (by omega))
        simp only [Dl.l0]
        rw [if_pos (by omega), if_pos (by omega), hb, if_neg (fun z => e (UInt8.toNat_inj.1 (by omega))), wrap_succ (by omega)]
  exact Ev.congr (f := fun k => Dl.l0 k s (c.toNat : Int) ((0 : Nat) : Int)) (fun k => rfl) (by simpa using key s.size 0 (by omega))
/-- Is it a record? -/
def Eb (c r : ByteArray) : Bool := decide (1 ≤ c.size) && decide (c.size ≤ 160) && (B c).all (okP [35, 64]) && decide (r.size ≤ 200) && (B r).all (okP [35])
def cmdOk (c : ByteArray) : Bool := decide (1 ≤ c.size) && decide (c.size ≤ 160) && (B c).all (okP [35, 64])
theorem implCmd_ev (c : ByteArray) : Ev (fun k => Eu.f k c) (cmdOk c) := by
  unfold Eu.f cmdOk
  simp only [within_eq', Option.bind_some]
  by_cases h : 1 ≤ c.size ∧ c.size ≤ 160
  · have h1 : (decide ((1 : Int) ≤ (c.size : Int)) && decide ((c.size : Int) ≤ 160)) = true := by simp; omega
    simp only [h1, if_true, h.1, h.2, decide_true, Bool.true_and]
    exact Ev.bind (implPrint_ev c _ (by omega) (by decide)) (Ev.now _)
  · have h1 : (decide ((1 : Int) ≤ (c.size : Int)) && decide ((c.size : Int) ≤ 160)) = false := by
      rw [Bool.and_eq_false_iff]; simp only [decide_eq_false_iff_not]; omega
    have h2 : (decide (1 ≤ c.size) && decide (c.size ≤ 160)) = false := by
      rw [Bool.and_eq_false_iff]; simp only [decide_eq_false_iff_not]; omega
    simp only [h1, h2, Bool.false_and, Bool.false_eq_true, if_false]
    exact Ev.now _
theorem implRec_ev (c r : ByteArray) : Ev (fun k => Bi.f k c r) (Eb c r) := by
  unfold Bi.f
  have e : Eb c r = (cmdOk c && (decide (r.size ≤ 200) && (B r).all (okP [35]))) := by simp [Eb, cmdOk, Bool.and_assoc]
  rw [e]
  refine Ev.bind (implCmd_ev c) ?_
  cases hc : cmdOk c with
  | false => simp only [Bool.false_and, Bool.false_eq_true, if_false]; exact Ev.now _
  | true =>
    simp only [Bool.true_and, if_true]
    by_cases h : r.size ≤ 200
    · simp only [if_pos (show (r.size : Int) ≤ 200 by omega), h, decide_true, Bool.true_and]
      exact Ev.bind (implPrint_ev r _ (by omega) (by decide)) (Ev.now _)
    · simp only [if_neg (show ¬ (r.size : Int) ≤ 200 by omega), h, decide_false, Bool.false_and]; exact Ev.now _
theorem okP_both (l : List UInt8) : l.all (okP [35, 64]) = (l.all (okP [35]) && !(l.any fun b => b == 64)) := by
  induction l with
  | nil => rfl
  | cons b l ih =>
    simp only [List.all_cons, List.any_cons, ih, okP, List.contains_cons, List.contains_nil]
    cases decide (32 ≤ b.toNat) <;> cases decide (b.toNat ≤ 126) <;> cases (b == 35) <;> cases (b == 64) <;> simp
theorem specRec_ev (c r : ByteArray) (hc : c.size < 4294967281) (hr : r.size < 4294967281) : Ev (fun k => Dk.f k c r) (Eb c r) := by
  unfold Dk.f
  rw [Hf]
  by_cases h : B c = []
  · have h0 : c.size = 0 := by rw [← Dw, h]; rfl
    simp only [if_pos h]
    have e : Eb c r = false := by simp [Eb, h0]
    rw [e]; exact Ev.now _
  · have h1 : 1 ≤ c.size := by
      rw [← Dw]; exact Nat.one_le_iff_ne_zero.2 (fun z => h (List.length_eq_zero_iff.1 z))
    simp only [if_neg h]
    refine Ev.bind (specPlain_ev c 160 hc) ?_
    have e : Eb c r = (((B c).all (okP [35]) && decide ((c.size : Int) ≤ 160)) && (!((B c).any fun b => b == 64) && ((B r).all (okP [35]) && decide ((r.size : Int) ≤ 200)))) := by
      unfold Eb
      rw [okP_both, show decide (1 ≤ c.size) = true from decide_eq_true h1, show decide (c.size ≤ 160) = decide ((c.size : Int) ≤ 160) from by simp <;> omega, show decide (r.size ≤ 200) = decide ((r.size : Int) ≤ 200) from by simp <;> omega]
      cases decide ((c.size : Int) ≤ 160) <;> cases decide ((r.size : Int) ≤ 200) <;> cases (B c).all (okP [35]) <;> cases ((B c).any fun b => b == 64) <;> simp
    rw [e]
    cases hz : ((B c).all (okP [35]) && decide ((c.size : Int) ≤ 160)) with
    | false => simp only [Bool.false_and, Bool.false_eq_true, if_false]; exact Ev.now _
    | true =>
      simp only [Bool.true_and, if_true]
      refine Ev.bind (specStands_ev c 64 hc) ?_
      cases hy : ((B c).any fun b => b == 64) with
      | true => simp only [if_true, Bool.not_true, Bool.false_and]; exact Ev.now _
      | false =>
        simp only [Bool.false_eq_true, if_false, Bool.not_false, Bool.true_and]
        exact Ev.bind (specPlain_ev r 200 hr) (Ev.now _)
end Go.Proofs.YtkpieljmhgfofaaDoor.X


namespace Go.Proofs.YtkpieljmhgfofaaDoor.X
open Go.RowKit Go.Proofs.YtkpieljmhgfofaaDoorW.PrintWords Go.Proofs.YtkpieljmhgfofaaDoorL
set_option linter.unusedVariables false
set_option linter.unusedSimpArgs false
theorem F9 (s t : ByteArray) : B (s ++ t) = B s ++ B t := by unfold B; simp
theorem B_mk (l : List UInt8) : B ⟨l.toArray⟩ = l := by simp [B]
theorem size_B (s : ByteArray) : s.size = (B s).length := (Dw s).symm
theorem mk_append (a b : List UInt8) : (⟨a.toArray⟩ : ByteArray) ++ ⟨b.toArray⟩ = ⟨(a ++ b).toArray⟩ := B_inj (by rw [F9, B_mk, B_mk, B_mk])
def dec (n : Int) : ByteArray := ⟨(Lib.itoa n).toArray⟩
theorem B_dec (n : Int) : B (dec n) = Lib.itoa n := B_mk _
theorem Gs (n : Int) (h0 : -9223372036854775808 ≤ n) (h1 : n ≤ 9223372036854775807) : (dec n).size ≤ 21 := by
  rw [size_B, B_dec]; exact Lib.itoa_length_le n h0 h1
theorem implDec (n : Int) (h0 : -9223372036854775808 ≤ n) (h1 : n ≤ 9223372036854775807) : D8.f n = some (dec n) := by
  unfold D8.f Gh.f
  rw [if_pos ⟨h0, h1⟩]
  rfl
theorem digit_cut (d : Nat) (h : d < 10) : (⟨#[48, 49, 50, 51, 52, 53, 54, 55, 56, 57]⟩ : ByteArray).extract d (d + 1) = ⟨[UInt8.ofNat (48 + d)].toArray⟩ := by
  have : d = 0 ∨ d = 1 ∨ d = 2 ∨ d = 3 ∨ d = 4 ∨ d = 5 ∨ d = 6 ∨ d = 7 ∨ d = 8 ∨ d = 9 := by omega
  rcases this with rfl | rfl | rfl | rfl | rfl | rfl | rfl | rfl | rfl | rfl <;> rfl
theorem decDigits_le (u : Nat) (h : u ≤ 9223372036854775807) : (Lib.decDigits u).length ≤ 21 := by
  have := Lib.itoa_length_le (u : Int) (by omega) (by omega)
  unfold Lib.itoa at this
  rw [if_neg (by omega), Int.toNat_natCast] at this
  exact this
theorem specNum_nat : ∀ (m u : Nat), u ≤ m → u ≤ 9223372036854775807 → Ev (fun k => Df.f k (u : Int)) ⟨(Lib.decDigits u).toArray⟩ := by
  intro m
  induction m with
  | zero =>
    intro u hu hb
    obtain rfl : u = 0 := by omega
    refine Ev.step (f := fun _ => some _) (fun k => ?_) (Ev.now _)
    simp only [Df.f]
    rw [if_neg (by omega), if_pos (by omega), if_pos (by omega), wrap_id (by omega) (by omega), if_pos (by omega), if_pos (by omega), Lib.decDigits, dif_pos (by omega)]
    rfl
  | succ m ih =>
    intro u hu hb
    by_cases h : u < 10
    · refine Ev.step (f := fun _ => some _) (fun k => ?_) (Ev.now _)
      simp only [Df.f]
      rw [if_neg (by omega), if_pos (by omega), if_pos (by omega), wrap_id (by omega) (by omega), if_pos (by omega), if_pos (by omega), Lib.decDigits, dif_pos h, ← digit_cut u h]
      rfl
    · have hd : wrap64 (Int.tdiv (u : Int) 10) = ((u / 10 : Nat) : Int) := by
        rw [Int.tdiv_eq_ediv_of_nonneg (by omega), wrap_id (by omega) (by omega)]; omega
      have hm : Int.tmod (u : Int) 10 = ((u % 10 : Nat) : Int) := by rw [Int.tmod_eq_emod_of_nonneg (by omega)]; omega
      refine Ev.step (f := fun k => (Df.f k ((u / 10 : Nat) : Int)).bind fun t => if t.size + (⟨[UInt8.ofNat (48 + u % 10)].toArray⟩ : ByteArray).size ≤ 9223372036854775807 then some (t ++ ⟨[UInt8.ofNat (48 + u % 10)].toArray⟩) else none) (fun k => ?_) ?_
      · simp only [Df.f]
        rw [if_neg (by omega), if_neg (by omega), hd, hm]
        congr 1
        funext t
        rw [if_pos (by omega), wrap_id (x := ((u % 10 : Nat) : Int) + 1) (by omega) (by omega), if_pos (by omega), if_pos (by omega)]
        have e : (((u % 10 : Nat) : Int) + 1).toNat = u % 10 + 1 := by omega
        rw [Int.toNat_natCast, e, digit_cut (u % 10) (by omega)]
      · have i1 := ih (u / 10) (by omega) (by omega)
        have hs := decDigits_le (u / 10) (by omega)
        refine Ev.bind i1 (Ev.congr (fun k => if_pos ?_) ?_)
        · rw [size_B, size_B, B_mk, B_mk]; simp only [List.length_cons, List.length_nil]; omega
        · rw [mk_append, Lib.decDigits.eq_1 u, dif_neg h]; exact Ev.now _
theorem specNum_ev (n : Int) (h0 : -9223372036854775807 ≤ n) (h1 : n ≤ 9223372036854775807) : Ev (fun k => Df.f k n) (dec n) := by
  by_cases h : n < 0
  · have e : wrap64 (-n) = ((n.natAbs : Nat) : Int) := by rw [wrap_id (by omega) (by omega)]; omega
    have hs := decDigits_le n.natAbs (by omega)
    refine Ev.step (f := fun k => (Df.f k ((n.natAbs : Nat) : Int)).bind fun t => if 1 + t.size ≤ 9223372036854775807 then some ((⟨#[45]⟩ : ByteArray) ++ t) else none) (fun k => ?_) (Ev.bind (specNum_nat n.natAbs n.natAbs (Nat.le_refl _) (by omega)) (Ev.congr (fun k => if_pos ?_) ?_))
    · simp only [Df.f]
      rw [if_pos h, e]
    · rw [size_B, B_mk]; omega
    · have : dec n = (⟨#[45]⟩ : ByteArray) ++ ⟨(Lib.decDigits n.natAbs).toArray⟩ := B_inj (by rw [F9, B_dec, B_mk]; unfold Lib.itoa; rw [if_pos h]; rfl)
      rw [this]; exact Ev.now _
  · obtain ⟨u, rfl⟩ : ∃ u : Nat, n = (u : Int) := ⟨n.toNat, by omega⟩
    have : dec (u : Int) = ⟨(Lib.decDigits u).toArray⟩ := by unfold dec Lib.itoa; rw [if_neg h, Int.toNat_natCast]
    rw [this]
    exact specNum_nat u u (Nat.le_refl _) (by omega)
end Go.Proofs.YtkpieljmhgfofaaDoor.X


namespace Go.Proofs.YtkpieljmhgfofaaDoor.X
open Go.RowKit Go.Proofs.YtkpieljmhgfofaaDoorW.PrintWords Go.Proofs.YtkpieljmhgfofaaDoorL
set_option linter.unusedVariables false
set_option linter.unusedSimpArgs false
def sumStep (h : Int) (b : UInt8) : Int := Int.tmod (41 * h + (b.toNat : Int) + 1) 999979
def sumB (l : List UInt8) : Int := l.foldl sumStep 7
theorem sumStep_bound (h : Int) (b : UInt8) (h0 : 0 ≤ h) : 0 ≤ sumStep h b ∧ sumStep h b < 999979 := by
  have := b.toNat_lt
  exact ⟨Int.tmod_nonneg _ (by omega), Int.tmod_lt_of_pos _ (by omega)⟩
theorem Hz (l : List UInt8) (n : Nat) (h : n < l.length) : sumB (l.take (n + 1)) = sumStep (sumB (l.take n)) l[n] := by
  unfold sumB; rw [List.take_succ_eq_append_getElem h, List.foldl_append]; rfl
theorem sumB_bound (l : List UInt8) : ∀ n, n ≤ l.length → 0 ≤ sumB (l.take n) ∧ sumB (l.take n) < 999979 := by
  intro n
  induction n with
  | zero => intro _; simp [sumB]
  | succ n ih => intro h; rw [Hz l n (by omega)]; exact sumStep_bound _ _ (ih (by omega)).1
theorem sumB_ok (l : List UInt8) : 0 ≤ sumB l ∧ sumB l < 999979 := by have := sumB_bound l l.length (Nat.le_refl _); rwa [List.take_length] at this
theorem sum_expr (h : Int) (b : UInt8) (h0 : 0 ≤ h) (h1 : h < 999979) : Int.tmod (wrap64 ((wrap64 ((wrap64 (41 * h)) + (wrap64 (b.toNat : Int)))) + 1)) 999979 = sumStep h b := by
  have := b.toNat_lt
  unfold sumStep
  rw [wrap_id (x := 41 * h) (by omega) (by omega), wrap_id (x := (b.toNat : Int)) (by omega) (by omega), wrap_id (x := 41 * h + (b.toNat : Int)) (by omega) (by omega), wrap_id (x := 41 * h + (b.toNat : Int) + 1) (by omega) (by omega)]
theorem specSum_ev (s : ByteArray) (hs : s.size ≤ 1000000000) : Ev (fun k => D9.f k s) (sumB (B s)) := by
  have key : ∀ (d n : Nat), n + d = (B s).length → Ev (fun k => D9.l0 k s (sumB ((B s).take n)) n) (sumB (B s)) := by
    intro d
    induction d with
    | zero =>
      intro n hn
      obtain rfl : n = (B s).length := by omega
      rw [List.take_length]
      exact Ev.step (f := fun _ => some _) (fun k => by simp only [D9.l0]; rw [if_neg (by rw [size_B]; omega)]) (Ev.now _)
    | succ d ih =>
      intro n hn
      have hb := sumB_bound (B s) n (by omega)
      have i1 := ih (n + 1) (by omega)
      rw [Hz _ n (by omega)] at i1
      rw [size_B] at hs
      refine Ev.step (fun k => ?_) i1
      simp only [D9.l0]
      rw [if_pos (by rw [size_B]; omega), if_pos (by omega), bt_B s n (by omega), sum_expr _ _ hb.1 hb.2, wrap_succ (by omega)]
  exact key (B s).length 0 (by omega)
theorem implSum_ev (s : ByteArray) (hs : s.size ≤ 4000) : Ev (fun k => Dp.f k s) (sumB (B s), true) := by
  have key : ∀ (d n : Nat), n + d = (B s).length → Ev (fun k => Dp.l0 k s (sumB ((B s).take n)) (s.size : Int) n) (sumB (B s), true) := by
    intro d
    induction d with
    | zero =>
      intro n hn
      obtain rfl : n = (B s).length := by omega
      rw [List.take_length]
      exact Ev.step (f := fun _ => some _) (fun k => by simp only [Dp.l0]; rw [if_neg (by rw [size_B]; omega)]) (Ev.now _)
    | succ d ih =>
      intro n hn
      have hb := sumB_bound (B s) n (by omega)
      have i1 := ih (n + 1) (by omega)
      rw [Hz _ n (by omega)] at i1
      have hs2 := hs
      rw [size_B] at hs2
      refine Ev.step (fun k => ?_) i1
      simp only [Dp.l0]
      rw [if_pos (by rw [size_B]; omega), if_pos (by omega), if_pos (by rw [size_B]; omega), bt_B s n (by omega), sum_expr _ _ hb.1 hb.2, wrap_succ (by omega)]
  refine Ev.congr (fun k => ?_) (key (B s).length 0 (by omega))
  unfold Dp.f
  rw [if_neg (by omega)]
  rfl
/-- A text with its checksum. -/
def Fb (s : ByteArray) : ByteArray := (s ++ ⟨#[35]⟩) ++ dec (sumB (B s))
theorem Ho (s : ByteArray) : s.size + 2 ≤ (Fb s).size + 1 ∧ (Fb s).size ≤ s.size + 22 := by
  have h := sumB_ok (B s)
  have hd := Gs (sumB (B s)) (by omega) (by omega)
  have : (Fb s).size = s.size + 1 + (dec (sumB (B s))).size := by unfold Fb; rw [ByteArray.size_append, ByteArray.size_append]; rfl
  omega
theorem specSeal_ev (s : ByteArray) (hs : s.size ≤ 1000000000) : Ev (fun k => Fa.f k s) (Fb s) := by
  have h := sumB_ok (B s)
  have hd := Gs (sumB (B s)) (by omega) (by omega)
  unfold Fa.f
  simp only [if_pos (show s.size + 1 ≤ 9223372036854775807 by omega)]
  refine Ev.bind (specSum_ev s hs) (Ev.bind (specNum_ev _ (by omega) (by omega)) (Ev.congr (fun k => if_pos ?_) (Ev.now _)))
  rw [ByteArray.size_append]
  show s.size + 1 + _ ≤ _
  omega
theorem contains35 (s : ByteArray) (c : UInt8) : strings_Contains.f s ⟨#[c]⟩ = some ((B s).contains c) := by
  have e : stringslite_Index.f s ⟨#[c]⟩ = some (Lib.indexByte (B s) c) := rfl
  unfold strings_Contains.f strings_Index.f
  rw [e]
  simp only [Option.bind_some]
  rw [Lib.contains_iff_indexByte]
theorem implSeal_ev (s : ByteArray) (hs : s.size ≤ 3900) (hn : (B s).contains 35 = false) : Ev (fun k => Di.f k s) (Fb s, true) := by
  have h := sumB_ok (B s)
  have hd := Gs (sumB (B s)) (by omega) (by omega)
  have hz := (Ho s).2
  unfold Di.f
  refine Ev.bind (implSum_ev s (by omega)) ?_
  simp only [if_pos (show s.size + 1 ≤ 9223372036854775807 by omega), implDec _ (show -9223372036854775808 ≤ sumB (B s) by omega) (show sumB (B s) ≤ 9223372036854775807 by omega), Option.bind_some, if_true]
  refine Ev.congr (fun k => ?_) (Ev.now _)
  rw [if_pos (by rw [ByteArray.size_append]; show s.size + 1 + _ ≤ _; omega), contains35, hn]
  simp only [Option.bind_some, Bool.false_eq_true, if_false]
  rw [if_neg]
  · rfl
  · show ¬ (((Fb s).size : Nat) : Int) > 4000
    omega
end Go.Proofs.YtkpieljmhgfofaaDoor.X


namespace Go.Proofs.YtkpieljmhgfofaaDoor.X
open Go.RowKit Go.Proofs.YtkpieljmhgfofaaDoorW.PrintWords Go.Proofs.YtkpieljmhgfofaaDoorL
set_option linter.unusedVariables false
set_option linter.unusedSimpArgs false
def Ej (n : Int) (c r : ByteArray) : ByteArray := (((dec n ++ ⟨#[32]⟩) ++ c) ++ ⟨#[64]⟩) ++ r
def Eg (n : Int) (c r : ByteArray) : ByteArray := Fb (Ej n c r) ++ ⟨#[10]⟩
theorem Hu (n : Int) (c r : ByteArray) : (Ej n c r).size = (dec n).size + 1 + c.size + 1 + r.size := by
  unfold Ej; simp only [ByteArray.size_append]; rfl
theorem rec_sizes {c r : ByteArray} (h : Eb c r = true) : 1 ≤ c.size ∧ c.size ≤ 160 ∧ r.size ≤ 200 := by
  unfold Eb at h; simp only [Bool.and_eq_true, decide_eq_true_eq] at h; omega
theorem ok35 {l c : List UInt8} (hc : c.contains 35 = true) (h : l.all (okP c) = true) : l.contains 35 = false := by
  rw [List.contains_eq_any_beq]
  rw [List.all_eq_true] at h
  rw [List.any_eq_false]
  intro x hx
  have := h x hx
  unfold okP at this
  simp only [Bool.and_eq_true, Bool.not_eq_true'] at this
  intro e
  have e2 : 35 = x := by simpa using e
  subst e2
  rw [hc] at this
  simp at this
theorem dec_no35 (n : Int) (h0 : 0 ≤ n) (h1 : n ≤ 59) : (B (dec n)).contains 35 = false := by
  obtain ⟨u, rfl⟩ : ∃ u : Nat, n = (u : Int) := ⟨n.toNat, by omega⟩
  rw [B_dec]
  have : u < 60 := by omega
  clear h0 h1
  unfold Lib.itoa
  rw [if_neg (by omega), Int.toNat_natCast]
  rw [Lib.decDigits]
  by_cases h : u < 10
  · rw [dif_pos h]
    have : ∀ v : Fin 10, ([UInt8.ofNat (48 + v.val)] : List UInt8).contains 35 = false := by decide
    exact this ⟨u, h⟩
  · rw [dif_neg h, Lib.decDigits, dif_pos (by omega)]
    have : ∀ v w : Fin 10, ([UInt8.ofNat (48 + v.val)] ++ [UInt8.ofNat (48 + w.val)] : List UInt8).contains 35 = false := by decide
    exact this ⟨u / 10, by omega⟩ ⟨u % 10, by omega⟩
theorem body_no35 {n : Int} {c r : ByteArray} (h0 : 0 ≤ n) (h1 : n ≤ 59) (h : Eb c r = true) : (B (Ej n c r)).contains 35 = false := by
  unfold Eb at h
  simp only [Bool.and_eq_true] at h
  have hc := ok35 (c := [35, 64]) (by decide) (show (B c).all (okP [35, 64]) = true by simp [h])
  have hr := ok35 (c := [35]) (by decide) (show (B r).all (okP [35]) = true by simp [h])
  have hd := dec_no35 n h0 h1
  unfold Ej
  simp only [F9, List.contains_eq_any_beq, List.any_append] at hc hr hd ⊢
  rw [hc, hr, hd]
  rfl
theorem implLine_ev (n : Int) (c r : ByteArray) (h0 : 0 ≤ n) (h1 : n ≤ 59) (h : Eb c r = true) : Ev (fun k => Bd.f k n c r) (Eg n c r) := by
  obtain ⟨s1, s2, s3⟩ := rec_sizes h
  have hd := Gs n (by omega) (by omega)
  have hb := Hu n c r
  have hz := (Ho (Ej n c r)).2
  unfold Bd.f
  rw [implDec n (by omega) (by omega)]
  simp only [Option.bind_some]
  refine Ev.congr (f := fun k => (Di.f k (Ej n c r)).bind fun bt157 => (if bt157.1.size + 1 ≤ 9223372036854775807 then (some (bt157.1 ++ (⟨#[10]⟩ : ByteArray))) else (none))) (fun k => ?_) (Ev.bind (implSeal_ev _ (by omega) (body_no35 h0 h1 h)) (Ev.congr (fun k => if_pos (by show (Fb (Ej n c r)).size + 1 ≤ _; omega)) (Ev.now _)))
  have z1 : (dec n ++ (⟨#[32]⟩ : ByteArray)).size = (dec n).size + 1 := by rw [ByteArray.size_append]; rfl
  have z2 : ((dec n ++ (⟨#[32]⟩ : ByteArray)) ++ c).size = (dec n).size + 1 + c.size := by rw [ByteArray.size_append, z1]
  have z3 : (((dec n ++ (⟨#[32]⟩ : ByteArray)) ++ c) ++ (⟨#[64]⟩ : ByteArray)).size = (dec n).size + 1 + c.size + 1 := by rw [ByteArray.size_append, z2]; rfl
  rw [if_pos (by omega), if_pos (by omega), if_pos (by omega), if_pos (by omega)]
  rfl
theorem specLine_ev (n : Int) (c r : ByteArray) (h0 : 0 ≤ n) (h1 : n ≤ 59) (h : Eb c r = true) : Ev (fun k => Bg.f k n c r) (Eg n c r) := by
  obtain ⟨s1, s2, s3⟩ := rec_sizes h
  have hd := Gs n (by omega) (by omega)
  have hb := Hu n c r
  have hz := (Ho (Ej n c r)).2
  unfold Bg.f
  refine Ev.bind (specNum_ev n (by omega) (by omega)) ?_
  refine Ev.congr (f := fun k => (Fa.f k (Ej n c r)).bind fun t113 => (if t113.size + 1 ≤ 9223372036854775807 then (some (t113 ++ (⟨#[10]⟩ : ByteArray))) else (none))) (fun k => ?_) (Ev.bind (specSeal_ev _ (by omega)) (Ev.congr (fun k => if_pos (by omega)) (Ev.now _)))
  have z1 : (dec n ++ (⟨#[32]⟩ : ByteArray)).size = (dec n).size + 1 := by rw [ByteArray.size_append]; rfl
  have z2 : ((dec n ++ (⟨#[32]⟩ : ByteArray)) ++ c).size = (dec n).size + 1 + c.size := by rw [ByteArray.size_append, z1]
  have z3 : (((dec n ++ (⟨#[32]⟩ : ByteArray)) ++ c) ++ (⟨#[64]⟩ : ByteArray)).size = (dec n).size + 1 + c.size + 1 := by rw [ByteArray.size_append, z2]; rfl
  rw [if_pos (by omega), if_pos (by omega), if_pos (by omega), if_pos (by omega)]
  rfl
def enc (n : Int) (c r : ByteArray) : ByteArray × Bool := if 0 ≤ n ∧ n ≤ 59 ∧ Eb c r = true then (Eg n c r, true) else (⟨#[]⟩, false)
theorem specEnc_ev (n : Int) (c r : ByteArray) (hc : c.size < 4294967281) (hr : r.size < 4294967281) : Ev (fun k => Dy.f k n c r) (enc n c r) := by
  unfold Dy.f enc F7.f
  by_cases a : n ≥ 0
  · by_cases b : n ≤ 59
    · simp only [if_pos a, b, decide_true, Option.bind_some, if_true, if_pos, true_and]
      refine Ev.bind (specRec_ev c r hc hr) ?_
      by_cases h : Eb c r = true
      · simp only [h, if_true, if_pos (show 0 ≤ n ∧ True from ⟨a, trivial⟩)]; exact Ev.bind (specLine_ev n c r a b h) (Ev.now _)
      · simp only [h, if_neg (show ¬ (0 ≤ n ∧ False) from fun z => z.2), Bool.false_eq_true, if_false]; exact Ev.now _
    · simp only [if_pos a, b, decide_false, Option.bind_some, Bool.false_eq_true, if_false, false_and, and_false]; exact Ev.now _
  · simp only [if_neg a, Option.bind_some, Bool.false_eq_true, if_false, if_neg (show ¬ (0 ≤ n ∧ n ≤ 59 ∧ Eb c r = true) from fun z => a z.1)]; exact Ev.now _
theorem implEnc_ev (n : Int) (c r : ByteArray) : Ev (fun k => D5.f k n c r) (enc n c r) := by
  unfold D5.f enc Ff.f
  by_cases a : n ≥ 0
  · by_cases b : n ≤ 59
    · simp only [if_pos a, b, decide_true, Option.bind_some, if_true, if_pos, true_and]
      refine Ev.bind (implRec_ev c r) ?_
      by_cases h : Eb c r = true
      · simp only [h, if_true, if_pos (show 0 ≤ n ∧ True from ⟨a, trivial⟩)]; exact Ev.bind (implLine_ev n c r a b h) (Ev.now _)
      · simp only [h, if_neg (show ¬ (0 ≤ n ∧ False) from fun z => z.2), Bool.false_eq_true, if_false]; exact Ev.now _
    · simp only [if_pos a, b, decide_false, Option.bind_some, Bool.false_eq_true, if_false, false_and, and_false]; exact Ev.now _
  · simp only [if_neg a, Option.bind_some, Bool.false_eq_true, if_false, if_neg (show ¬ (0 ≤ n ∧ n ≤ 59 ∧ Eb c r = true) from fun z => a z.1)]; exact Ev.now _
end Go.Proofs.YtkpieljmhgfofaaDoor.X


namespace Go.Proofs.YtkpieljmhgfofaaDoor.X
open Go.RowKit Go.Proofs.YtkpieljmhgfofaaDoorW.PrintWords Go.Proofs.YtkpieljmhgfofaaDoorL
set_option linter.unusedVariables false
set_option linter.unusedSimpArgs false
def mk (l : List UInt8) : ByteArray := ⟨l.toArray⟩
theorem Fg (l : List UInt8) : B (mk l) = l := B_mk l
theorem Gt (s : ByteArray) : mk (B s) = s := B_inj (B_mk _)
theorem Gm (l : List UInt8) : (mk l).size = l.length := by rw [size_B, Fg]
theorem Gp (s : ByteArray) (i j : Nat) : B (s.extract i j) = ((B s).drop i).take (j - i) := by
  unfold B; simp [List.extract_eq_take_drop]
def Dz (c : UInt8) : List UInt8 → List UInt8 × List UInt8 × Bool
  | [] => ([], [], false)
  | b :: l => if b = c then ([], l, true) else (b :: (Dz c l).1, (Dz c l).2.1, (Dz c l).2.2)
theorem cutL_hit (c : UInt8) : ∀ (a b : List UInt8), c ∉ a → Dz c (a ++ c :: b) = (a, b, true)
  | [], b, _ => by simp [Dz]
  | x :: a, b, h => by
    have hx : x ≠ c := fun e => h (by simp [e])
    have ih := cutL_hit c a b (fun e => h (by simp [e]))
    simp only [List.cons_append, Dz, if_neg hx, ih]
theorem Ht (c : UInt8) : ∀ l : List UInt8, (Dz c l).2.2 = true → l = (Dz c l).1 ++ c :: (Dz c l).2.1
  | [], h => by simp [Dz] at h
  | x :: l, h => by
    by_cases hx : x = c
    · subst hx; simp [Dz]
    · simp only [Dz, if_neg hx] at h ⊢
      have := Ht c l h
      rw [List.cons_append, ← this]
theorem cutL_notin (c : UInt8) : ∀ l : List UInt8, c ∉ (Dz c l).1
  | [] => by simp [Dz]
  | x :: l => by
    by_cases hx : x = c
    · subst hx; simp [Dz]
    · simp only [Dz, if_neg hx, List.mem_cons, not_or]
      exact ⟨fun e => hx e.symm, cutL_notin c l⟩
theorem cutL_lost (c : UInt8) : ∀ l : List UInt8, (Dz c l).2.2 = false → Dz c l = (l, [], false)
  | [], h => rfl
  | x :: l, h => by
    by_cases hx : x = c
    · subst hx; simp [Dz] at h
    · simp only [Dz, if_neg hx] at h ⊢
      rw [cutL_lost c l h]
theorem cutL_index (c : UInt8) : ∀ l : List UInt8, Lib.indexByte l c = if (Dz c l).2.2 = true then ((Dz c l).1.length : Int) else -1
  | [] => by simp [Dz, Lib.indexByte]
  | x :: l => by
    by_cases hx : x = c
    · subst hx; simp [Dz, Lib.indexByte]
    · have hb : (x == c) = false := by simpa using hx
      have ih := cutL_index c l
      simp only [Dz, if_neg hx, Lib.indexByte, hb, Bool.false_eq_true, if_false, ih]
      by_cases h : (Dz c l).2.2 = true
      · rw [if_pos h, if_pos h, if_neg (by simp <;> omega)]; simp
      · rw [if_neg h, if_neg h]; simp
theorem stringsCut_eq (s : ByteArray) (c : UInt8) (hs : s.size ≤ 9223372036854775807) : strings_Cut.f s ⟨#[c]⟩ = some (mk (Dz c (B s)).1, mk (Dz c (B s)).2.1, (Dz c (B s)).2.2) := by
  have e : stringslite_Index.f s ⟨#[c]⟩ = some (Lib.indexByte (B s) c) := rfl
  have h1 : (⟨#[c]⟩ : ByteArray).size = 1 := rfl
  unfold strings_Cut.f stringslite_Cut.f
  rw [e, cutL_index]
  simp only [Option.bind_some]
  by_cases h : (Dz c (B s)).2.2 = true
  · have hf := Ht c (B s) h
    have hl : (B s).length = (Dz c (B s)).1.length + 1 + (Dz c (B s)).2.1.length := by
      conv => lhs; rw [hf]
      simp; omega
    rw [Dw] at hl
    simp only [if_pos h]
    rw [if_pos (by omega), if_pos (by omega), if_pos (by omega), h1, wrap_id (by omega) (by omega), if_pos (by omega), if_pos (by omega)]
    simp only [Option.bind_some, Option.some.injEq, Prod.mk.injEq]
    generalize (Dz c (B s)).1 = a at *
    generalize (Dz c (B s)).2.1 = b at *
    refine ⟨B_inj ?_, B_inj ?_, h.symm⟩
    · rw [Gp, Fg, hf]
      simp
    · rw [Gp, Fg, hf]
      rw [show ((a.length : Int) + ((1 : Nat) : Int)).toNat = a.length + 1 by omega]
      rw [List.take_of_length_le (by simp; omega)]
      rw [List.drop_append, List.drop_of_length_le (by omega)]
      simp
  · have hl := cutL_lost c (B s) (by simpa using h)
    simp only [if_neg h]
    rw [if_neg (by omega), hl]
    simp only [Option.bind_some, Gt]
    rfl
/-- A text's pieces between all of a byte. -/
def Gl (p : List UInt8) : List (List UInt8) → List (List UInt8)
  | [] => [p]
  | q :: r => (p ++ q) :: r
def pieces (c : UInt8) : List UInt8 → List (List UInt8)
  | [] => [[]]
  | b :: l => if b = c then [] :: pieces c l else Gl [b] (pieces c l)
theorem pieces_ne (c : UInt8) : ∀ l, pieces c l ≠ []
  | [] => by simp [pieces]
  | b :: l => by
    unfold pieces
    by_cases h : b = c
    · rw [if_pos h]; simp
    · rw [if_neg h]; cases pieces c l <;> simp [Gl]
theorem addHead_two (p q : List UInt8) (r : List (List UInt8)) : Gl p (Gl q r) = Gl (p ++ q) r := by cases r <;> simp [Gl]
theorem addHead_nil (c : UInt8) (l : List UInt8) : Gl [] (pieces c l) = pieces c l := by
  cases h : pieces c l with
  | nil => exact absurd h (pieces_ne c l)
  | cons a b => simp [Gl]
theorem addHead_length (p : List UInt8) (c : UInt8) (l : List UInt8) : (Gl p (pieces c l)).length = (pieces c l).length := by
  cases h : pieces c l with
  | nil => exact absurd h (pieces_ne c l)
  | cons a b => simp [Gl]
theorem pieces_head (c : UInt8) : ∀ l : List UInt8, (pieces c l)[0]? = some (Dz c l).1
  | [] => rfl
  | b :: l => by
    have ih := pieces_head c l
    unfold pieces Dz
    by_cases h : b = c
    · rw [if_pos h, if_pos h]; rfl
    · rw [if_neg h, if_neg h]
      cases hp : pieces c l with
      | nil => exact absurd hp (pieces_ne c l)
      | cons a r => rw [hp] at ih; simp at ih; simp [Gl, ih]
theorem pieces_two (c : UInt8) : ∀ l : List UInt8, (2 ≤ (pieces c l).length) = ((Dz c l).2.2 = true)
  | [] => by simp [pieces, Dz]
  | b :: l => by
    have ih := pieces_two c l
    unfold pieces Dz
    by_cases h : b = c
    · rw [if_pos h, if_pos h]
      have := List.length_pos_iff.2 (pieces_ne c l)
      simp; omega
    · rw [if_neg h, if_neg h, addHead_length]; exact ih
theorem pieces_length (c : UInt8) : ∀ l : List UInt8, 1 ≤ (pieces c l).length ∧ (pieces c l).length ≤ l.length + 1
  | [] => by simp [pieces]
  | b :: l => by
    have ih := pieces_length c l
    unfold pieces
    by_cases h : b = c
    · rw [if_pos h]; simp; omega
    · rw [if_neg h, addHead_length]; simp; omega
def seg (s : ByteArray) (i j : Nat) : List UInt8 := ((B s).drop i).take (j - i)
theorem seg_succ (s : ByteArray) (i j : Nat) (h : i ≤ j) (hj : j < (B s).length) : seg s i (j + 1) = seg s i j ++ [(B s)[j]] := by
  unfold seg
  rw [show j + 1 - i = (j - i) + 1 by omega, List.take_succ_eq_append_getElem (by simp; omega)]
  simp [show i + (j - i) = j by omega]
theorem specSplit_ev (s : ByteArray) (c : UInt8) (hs : s.size ≤ 1000000000) : Ev (fun k => Bq.f k s (c.toNat : Int)) ((pieces c (B s)).map mk) := by
  have hlen := Dw s
  have key : ∀ (d i st : Nat) (xs : List ByteArray), i + d = (B s).length → st ≤ i → xs.length ≤ i →
      Ev (fun k => Bq.l0 k s (c.toNat : Int) xs st i) (xs ++ (Gl (seg s st i) (pieces c ((B s).drop i))).map mk) := by
    intro d
    induction d with
    | zero =>
      intro i st xs hi hst hx
      obtain rfl : i = (B s).length := by omega
      refine Ev.step (f := fun _ => some _) (fun k => ?_) (Ev.now _)
      simp only [Bq.l0]
      rw [if_neg (by omega), if_pos (by omega), if_pos (by omega), if_pos (by omega), List.drop_length]
      have e : s.extract (st : Int).toNat s.size = mk (seg s st (B s).length) := B_inj (by rw [Gp, Fg, hlen]; rfl)
      rw [e]
      simp [pieces, Gl]
    | succ d ih =>
      intro i st xs hi hst hx
      have hl : i < (B s).length := by omega
      have hb := bt_B s i hl
      rw [List.drop_eq_getElem_cons hl]
      unfold pieces
      by_cases e : (B s)[i] = c
      · rw [if_pos e]
        have i1 := ih (i + 1) (i + 1) (xs ++ [mk (seg s st i)]) (by omega) (by omega) (by simp; omega)
        have e0 : seg s (i + 1) (i + 1) = [] := by simp [seg]
        rw [e0, addHead_nil] at i1
        have e1 : Gl (seg s st i) ([] :: pieces c ((B s).drop (i + 1))) = seg s st i :: pieces c ((B s).drop (i + 1)) := by simp [Gl]
        rw [e1, List.map_cons]
        rw [List.append_assoc] at i1
        refine Ev.step (fun k => ?_) i1
        simp only [Bq.l0]
        have e2 : s.extract (st : Int).toNat (i : Int).toNat = mk (seg s st i) := B_inj (by rw [Gp, Fg]; rfl)
        rw [if_pos (by omega), if_pos (by omega), hb, e, if_pos rfl, if_pos (by omega), if_pos (by omega), if_pos (by omega), if_pos (by omega), e2, wrap_succ (by omega)]
      · rw [if_neg e]
        have i1 := ih (i + 1) st xs (by omega) (by omega) (by omega)
        rw [seg_succ s st i hst hl, ← addHead_two] at i1
        refine Ev.step (fun k => ?_) i1
        simp only [Bq.l0]
        rw [if_pos (by omega), if_pos (by omega), hb, if_neg (fun z => e (UInt8.toNat_inj.1 (by omega))), wrap_succ (by omega)]
  have := key (B s).length 0 0 [] (by omega) (by omega) (by simp)
  have e0 : seg s 0 0 = [] := by simp [seg]
  rw [e0, List.drop_zero, addHead_nil, List.nil_append] at this
  exact this
end Go.Proofs.YtkpieljmhgfofaaDoor.X


namespace Go.Proofs.YtkpieljmhgfofaaDoor.X
open Go.RowKit Go.Proofs.YtkpieljmhgfofaaDoorW.PrintWords Go.Proofs.YtkpieljmhgfofaaDoorL
set_option linter.unusedVariables false
set_option linter.unusedSimpArgs false
theorem digit_range (d : Nat) (h : d < 10) : 48 ≤ (UInt8.ofNat (48 + d)).toNat ∧ (UInt8.ofNat (48 + d)).toNat ≤ 57 := by
  have : (UInt8.ofNat (48 + d)).toNat = 48 + d := by simp; omega
  omega
theorem decDigits_range : ∀ (m u : Nat), u ≤ m → ∀ b ∈ Lib.decDigits u, 48 ≤ b.toNat ∧ b.toNat ≤ 57 := by
  intro m
  induction m with
  | zero =>
    intro u hu b hb
    rw [Lib.decDigits, dif_pos (by omega)] at hb
    simp only [List.mem_singleton] at hb
    subst hb; exact digit_range u (by omega)
  | succ m ih =>
    intro u hu b hb
    by_cases h : u < 10
    · rw [Lib.decDigits, dif_pos h] at hb
      simp only [List.mem_singleton] at hb
      subst hb; exact digit_range u h
    · rw [Lib.decDigits.eq_1 u, dif_neg h] at hb
      rcases List.mem_append.1 hb with hb | hb
      · exact ih (u / 10) (by omega) b hb
      · simp only [List.mem_singleton] at hb
        subst hb; exact digit_range (u % 10) (by omega)
theorem itoa_range (n : Int) (h : 0 ≤ n) : ∀ b ∈ Lib.itoa n, 48 ≤ b.toNat ∧ b.toNat ≤ 57 := by
  unfold Lib.itoa
  rw [if_neg (by omega)]
  exact decDigits_range _ _ (Nat.le_refl _)
theorem B_sealed (s : ByteArray) : B (Fb s) = B s ++ 35 :: Lib.itoa (sumB (B s)) := by
  unfold Fb
  rw [F9, F9, B_dec, List.append_assoc]; rfl
theorem B_body (n : Int) (c r : ByteArray) : B (Ej n c r) = Lib.itoa n ++ 32 :: (B c ++ 64 :: B r) := by
  unfold Ej
  simp only [F9, B_dec, List.append_assoc]; rfl
theorem B_line (n : Int) (c r : ByteArray) : B (Eg n c r) = B (Fb (Ej n c r)) ++ [10] := by
  unfold Eg; rw [F9]; rfl
theorem all_range {l bad : List UInt8} (h : l.all (okP bad) = true) : ∀ b ∈ l, 32 ≤ b.toNat ∧ b.toNat ≤ 126 := by
  intro b hb
  have := List.all_eq_true.1 h b hb
  unfold okP at this
  simp only [Bool.and_eq_true, decide_eq_true_eq] at this
  exact this.1
theorem rec_parts {c r : ByteArray} (h : Eb c r = true) : (∀ b ∈ B c, 32 ≤ b.toNat ∧ b.toNat ≤ 126) ∧ (∀ b ∈ B r, 32 ≤ b.toNat ∧ b.toNat ≤ 126) ∧ (64 : UInt8) ∉ B c := by
  unfold Eb at h
  simp only [Bool.and_eq_true] at h
  refine ⟨all_range h.1.1.2, all_range h.2, fun hm => ?_⟩
  have := List.all_eq_true.1 h.1.1.2 _ hm
  simp [okP] at this
theorem sealed_range {n : Int} {c r : ByteArray} (h0 : 0 ≤ n) (h : Eb c r = true) : ∀ b ∈ B (Fb (Ej n c r)), 32 ≤ b.toNat ∧ b.toNat ≤ 126 := by
  intro b hb
  rw [B_sealed, B_body] at hb
  obtain ⟨hc, hr, _⟩ := rec_parts h
  have hn := itoa_range n h0
  have hs := itoa_range (sumB (Lib.itoa n ++ 32 :: (B c ++ 64 :: B r))) (sumB_ok _).1
  simp only [List.mem_append, List.mem_cons] at hb
  rcases hb with ((hb | rfl | hb | rfl | hb) | rfl | hb)
  · have := hn b hb; omega
  · decide
  · exact hc b hb
  · decide
  · exact hr b hb
  · decide
  · have := hs b hb; omega
theorem sealed_no10 {n : Int} {c r : ByteArray} (h0 : 0 ≤ n) (h : Eb c r = true) : (10 : UInt8) ∉ B (Fb (Ej n c r)) := fun hm => by
  have := (sealed_range h0 h _ hm).1
  revert this; decide
theorem body_not35 {n : Int} {c r : ByteArray} (h0 : 0 ≤ n) (h1 : n ≤ 59) (h : Eb c r = true) : (35 : UInt8) ∉ B (Ej n c r) := fun hm => by
  have := body_no35 h0 h1 h
  rw [List.contains_eq_any_beq, List.any_eq_false] at this
  exact this _ hm (by simp)
/-- A text begins with the n-th record, and t follows. -/
def F5 (n : Int) (s : List UInt8) (c r : ByteArray) (t : List UInt8) : Prop := Eb c r = true ∧ s = B (Eg n c r) ++ t
theorem F5.line {n : Int} {s : List UInt8} {c r : ByteArray} {t : List UInt8} (h0 : 0 ≤ n) (h : F5 n s c r t) : Dz 10 s = (B (Fb (Ej n c r)), t, true) := by
  rw [h.2, B_line, List.append_assoc]
  exact cutL_hit 10 _ _ (sealed_no10 h0 h.1)
theorem body_cut {n : Int} {c r : ByteArray} (h0 : 0 ≤ n) (h1 : n ≤ 59) (h : Eb c r = true) : Dz 35 (B (Fb (Ej n c r))) = (B (Ej n c r), Lib.itoa (sumB (B (Ej n c r))), true) := by
  rw [B_sealed]
  exact cutL_hit 35 _ _ (body_not35 h0 h1 h)
theorem ask_cut {c r : ByteArray} (h : Eb c r = true) : Dz 64 (B c ++ 64 :: B r) = (B c, B r, true) := cutL_hit 64 _ _ (rec_parts h).2.2
theorem line_inj {n : Int} {c r c' r' : ByteArray} (h0 : 0 ≤ n) (h1 : n ≤ 59) (h : Eb c r = true) (h' : Eb c' r' = true) (e : B (Fb (Ej n c r)) = B (Fb (Ej n c' r'))) : c = c' ∧ r = r' := by
  have e1 := body_cut h0 h1 h
  have e2 := body_cut h0 h1 h'
  rw [e, e2] at e1
  simp only [Prod.mk.injEq] at e1
  have e3 := e1.1
  rw [B_body, B_body] at e3
  have e4 := List.append_cancel_left e3
  simp only [List.cons.injEq, true_and] at e4
  have e5 := ask_cut h
  rw [← e4, ask_cut h'] at e5
  simp only [Prod.mk.injEq] at e5
  exact ⟨(B_inj e5.1).symm, (B_inj e5.2.1).symm⟩
theorem F5.inj {n : Int} {s : List UInt8} {c r c' r' : ByteArray} {t t' : List UInt8} (h0 : 0 ≤ n) (h1 : n ≤ 59) (h : F5 n s c r t) (h' : F5 n s c' r' t') : c = c' ∧ r = r' ∧ t = t' := by
  have e1 := h.line h0
  rw [h'.line h0] at e1
  simp only [Prod.mk.injEq] at e1
  obtain ⟨a, b⟩ := line_inj h0 h1 h.1 h'.1 e1.1.symm
  exact ⟨a, b, e1.2.1.symm⟩
-- the checksum of whatever text
def apC (s : ByteArray) : ByteArray × Bool := if s.size ≤ 4000 ∧ (Fb s).size ≤ 4000 then (Fb s, true) else (⟨#[]⟩, false)
theorem implSeal_any (s : ByteArray) (hs : s.size ≤ 1000000000) (hn : (35 : UInt8) ∉ B s) : Ev (fun k => Di.f k s) (apC s) := by
  have hb := sumB_ok (B s)
  have hd := Gs (sumB (B s)) (by omega) (by omega)
  have hn2 : (B s).contains 35 = false := by
    rw [List.contains_eq_any_beq, List.any_eq_false]
    intro x hx e
    have : (35 : UInt8) = x := by simpa using e
    exact hn (this ▸ hx)
  unfold Di.f apC
  by_cases h : s.size ≤ 4000
  · refine Ev.bind (implSum_ev s h) ?_
    simp only [if_pos (show s.size + 1 ≤ 9223372036854775807 by omega), implDec _ (show -9223372036854775808 ≤ sumB (B s) by omega) (show sumB (B s) ≤ 9223372036854775807 by omega), Option.bind_some, if_true]
    refine Ev.congr (fun k => ?_) (Ev.now _)
    rw [if_pos (by rw [ByteArray.size_append]; show s.size + 1 + _ ≤ _; omega), contains35, hn2]
    simp only [Option.bind_some, Bool.false_eq_true, if_false]
    rw [show (s ++ (⟨#[35]⟩ : ByteArray)) ++ dec (sumB (B s)) = Fb s from rfl]
    by_cases h2 : (Fb s).size ≤ 4000
    · rw [if_neg (by omega), if_pos ⟨h, h2⟩]
    · rw [if_pos (by omega), if_neg (fun z => h2 z.2)]
  · rw [if_neg (fun z => h z.1)]
    refine Ev.bind (Ev.congr (f := fun _ => some (0, false)) (fun k => by unfold Dp.f; rw [if_pos (by omega)]) (Ev.now _)) ?_
    have z0 := Gs 0 (by omega) (by omega)
    simp only [if_pos (show s.size + 1 ≤ 9223372036854775807 by omega), implDec 0 (by omega) (by omega), Option.bind_some]
    refine Ev.congr (fun k => ?_) (Ev.now _)
    rw [if_pos (by rw [ByteArray.size_append]; show s.size + 1 + _ ≤ _; omega)]
    simp
theorem toList_eq (s t : ByteArray) : (s.toList = t.toList) = (s = t) := by
  rw [Hf, Hf]; exact propext ⟨B_inj, fun h => by rw [h]⟩
def veri (s : ByteArray) : ByteArray × Bool := if (apC (mk (Dz 35 (B s)).1)).2 = true ∧ (apC (mk (Dz 35 (B s)).1)).1 = s then (mk (Dz 35 (B s)).1, true) else (⟨#[]⟩, false)
theorem cut_size (c : UInt8) (l : List UInt8) : (Dz c l).1.length ≤ l.length ∧ (Dz c l).2.1.length ≤ l.length := by
  by_cases h : (Dz c l).2.2 = true
  · have := congrArg List.length (Ht c l h)
    simp at this; omega
  · rw [cutL_lost c l (by simpa using h)]; simp
theorem implVeri_ev (s : ByteArray) (hs : s.size ≤ 1000000000) : Ev (fun k => Dv.f k s) (veri s) := by
  have hc := (cut_size 35 (B s)).1
  rw [Dw] at hc
  unfold Dv.f veri
  rw [stringsCut_eq s 35 (by omega)]
  simp only [Option.bind_some]
  refine Ev.bind (implSeal_any _ (by rw [Gm]; omega) (by rw [Fg]; exact cutL_notin 35 _)) ?_
  generalize apC (mk (Dz 35 (B s)).1) = p
  simp only [toList_eq]
  by_cases h : p.2 = true
  · simp only [if_pos h, h, true_and]
    by_cases h2 : p.1 = s
    · simp only [if_pos h2]; exact Ev.now _
    · simp only [if_neg h2]; exact Ev.now _
  · simp only [if_neg h, h, false_and, if_false]; exact Ev.now _
theorem veri_rec {n : Int} {c r : ByteArray} (h0 : 0 ≤ n) (h1 : n ≤ 59) (h : Eb c r = true) : veri (Fb (Ej n c r)) = (Ej n c r, true) := by
  obtain ⟨s1, s2, s3⟩ := rec_sizes h
  have hd := Gs n (by omega) (by omega)
  have hb := Hu n c r
  have hz := (Ho (Ej n c r)).2
  have ha : apC (Ej n c r) = (Fb (Ej n c r), true) := by unfold apC; rw [if_pos ⟨by omega, by omega⟩]
  unfold veri
  rw [body_cut h0 h1 h, Gt, ha]
  simp
theorem stringsCutPrefix_eq (s p : ByteArray) (hs : s.size ≤ 9223372036854775807) (hp : p.size ≤ 9223372036854775807) : strings_CutPrefix.f s p = some (if (B p).isPrefixOf (B s) = true then (mk ((B s).drop (B p).length), true) else (s, false)) := by
  have hsl := Dw s
  have hpl := Dw p
  unfold strings_CutPrefix.f stringslite_CutPrefix.f
  have e : stringslite_HasPrefix.f s p = some ((B p).isPrefixOf (B s)) := by
    unfold stringslite_HasPrefix.f
    by_cases h : (s.size : Int) ≥ (p.size : Int)
    · have hx : s.extract 0 (p.size : Int).toNat = mk ((B s).take (B p).length) := B_inj (by rw [Gp, Fg, hpl]; rfl)
      simp only [if_pos h]
      repeat' (first | rw [if_pos (by omega)])
      rw [hx, Hf, Hf, Fg]
      simp only [Option.some.injEq]
      rw [Bool.eq_iff_iff]
      simp only [beq_iff_eq, List.isPrefixOf_iff_prefix]
      constructor
      · intro z; rw [← z]; exact List.take_prefix _ _
      · intro z; exact (List.prefix_iff_eq_take.1 z).symm
    · simp only [if_neg h]
      congr 1
      symm
      rw [Bool.eq_false_iff]
      intro z
      have := (List.isPrefixOf_iff_prefix.1 z).length_le
      omega
  rw [e]
  simp only [Option.bind_some]
  by_cases h : (B p).isPrefixOf (B s) = true
  · have := (List.isPrefixOf_iff_prefix.1 h).length_le
    rw [if_pos h, if_pos h, if_pos (by omega), if_pos (by omega)]
    simp only [Option.bind_some, Option.some.injEq, Prod.mk.injEq, and_true]
    refine B_inj ?_
    rw [Gp, Fg, hpl, Int.toNat_natCast, List.take_of_length_le (by simp; omega)]
  · rw [if_neg h, if_neg h]; rfl
end Go.Proofs.YtkpieljmhgfofaaDoor.X


namespace Go.Proofs.YtkpieljmhgfofaaDoor.X
open Go.RowKit Go.Proofs.YtkpieljmhgfofaaDoorW.PrintWords Go.Proofs.YtkpieljmhgfofaaDoorL
set_option linter.unusedVariables false
set_option linter.unusedSimpArgs false
theorem exB {α β : Type} {f : Nat → Option α} {g : Nat → α → Option β} {Q : β → Prop} {a : α} (hf : Ev f a) (h : ∃ v, Ev (fun k => g k a) v ∧ Q v) : ∃ v, Ev (fun k => (f k).bind (g k)) v ∧ Q v := by
  obtain ⟨v, hv, q⟩ := h
  exact ⟨v, Ev.bind hf hv, q⟩
theorem exC {β : Type} {f g : Nat → Option β} {Q : β → Prop} (e : ∀ k, g k = f k) (h : ∃ v, Ev f v ∧ Q v) : ∃ v, Ev g v ∧ Q v := by
  obtain ⟨v, hv, q⟩ := h
  exact ⟨v, Ev.congr e hv, q⟩
def ahead (n : Int) : ByteArray := dec n ++ ⟨#[32]⟩
theorem B_ahead (n : Int) : B (ahead n) = Lib.itoa n ++ [32] := by unfold ahead; rw [F9, B_dec]; rfl
theorem ahead_size (n : Int) : (ahead n).size = (dec n).size + 1 := by unfold ahead; rw [ByteArray.size_append]; rfl
def pre (n : Int) (x : ByteArray) : ByteArray × Bool := if (B (ahead n)).isPrefixOf (B x) = true then (mk ((B x).drop (B (ahead n)).length), true) else (x, false)
theorem body_pre (n : Int) (c r : ByteArray) : (B (ahead n)) <+: B (Ej n c r) ∧ (B (Ej n c r)).drop (B (ahead n)).length = B c ++ 64 :: B r := by
  have e : B (Ej n c r) = B (ahead n) ++ (B c ++ 64 :: B r) := by rw [B_body, B_ahead]; simp
  rw [e]
  exact ⟨List.prefix_append _ _, by simp⟩
theorem pre_rec (n : Int) (c r : ByteArray) : pre n (Ej n c r) = (mk (B c ++ 64 :: B r), true) := by
  obtain ⟨h1, h2⟩ := body_pre n c r
  unfold pre
  rw [if_pos (List.isPrefixOf_iff_prefix.2 h1), h2]
theorem pre_size (n : Int) (x : ByteArray) : (pre n x).1.size ≤ x.size := by
  unfold pre
  by_cases h : (B (ahead n)).isPrefixOf (B x) = true
  · rw [if_pos h, Gm, List.length_drop, Dw]; omega
  · rw [if_neg h]; exact Nat.le_refl _
theorem veri_size (x : ByteArray) : (veri x).1.size ≤ x.size := by
  have := (cut_size 35 (B x)).1
  rw [Dw] at this
  unfold veri
  split
  · rw [Gm]; exact this
  · exact Nat.zero_le _
/-- What reading a record gives where there is none. -/
def noRec (s : ByteArray) : ByteArray × ByteArray × ByteArray × Bool := (⟨#[]⟩, ⟨#[]⟩, s, false)
theorem implRead_ev (n : Int) (s : ByteArray) (h0 : 0 ≤ n) (h1 : n ≤ 59) (hs : s.size ≤ 1000000000) :
    ∃ v, Ev (fun k => Ey.f k n s) v ∧ ((v.2.2.2 = true ∧ F5 n (B s) v.1 v.2.1 (B v.2.2.1)) ∨ (v = noRec s ∧ ∀ c r t, ¬ F5 n (B s) c r t)) := by
  have hL := cut_size 10 (B s)
  rw [Dw] at hL
  have hd := Gs n (by omega) (by omega)
  have flags : ∀ c r t, F5 n (B s) c r t → Dz 10 (B s) = (B (Fb (Ej n c r)), t, true) ∧ veri (mk (Dz 10 (B s)).1) = (Ej n c r, true) ∧ pre n (veri (mk (Dz 10 (B s)).1)).1 = (mk (B c ++ 64 :: B r), true) ∧
      Dz 64 (B (pre n (veri (mk (Dz 10 (B s)).1)).1).1) = (B c, B r, true) := by
    intro c r t h
    have e1 := h.line h0
    have e2 : veri (mk (Dz 10 (B s)).1) = (Ej n c r, true) := by rw [e1, Gt, veri_rec h0 h1 h.1]
    have e3 : pre n (veri (mk (Dz 10 (B s)).1)).1 = (mk (B c ++ 64 :: B r), true) := by rw [e2, pre_rec]
    exact ⟨e1, e2, e3, by rw [e3, Fg, ask_cut h.1]⟩
  unfold Ey.f
  rw [stringsCut_eq s 10 (by omega)]
  simp only [Option.bind_some]
  have hv := implVeri_ev (mk (Dz 10 (B s)).1) (by rw [Gm]; omega)
  have hvs := veri_size (mk (Dz 10 (B s)).1)
  rw [Gm] at hvs
  refine exB hv ?_
  have hps := pre_size n (veri (mk (Dz 10 (B s)).1)).1
  simp only [implDec n (by omega) (by omega), Option.bind_some, if_pos (show (dec n).size + 1 ≤ 9223372036854775807 by omega)]
  rw [show (dec n ++ (⟨#[32]⟩ : ByteArray)) = ahead n from rfl, stringsCutPrefix_eq _ _ (by omega) (by rw [ahead_size]; omega)]
  rw [show (if (B (ahead n)).isPrefixOf (B (veri (mk (Dz 10 (B s)).1)).1) = true then (mk ((B (veri (mk (Dz 10 (B s)).1)).1).drop (B (ahead n)).length), true) else ((veri (mk (Dz 10 (B s)).1)).1, false)) = pre n (veri (mk (Dz 10 (B s)).1)).1 from rfl]
  simp only [Option.bind_some]
  rw [stringsCut_eq _ 64 (by omega)]
  simp only [Option.bind_some]
  have fail : ∀ {g : Nat → Option (ByteArray × ByteArray × ByteArray × Bool)}, (∀ k, g k = some ((⟨#[]⟩ : ByteArray), (⟨#[]⟩ : ByteArray), s, false)) → (∀ c r t, F5 n (B s) c r t → False) →
      ∃ v, Ev g v ∧ ((v.2.2.2 = true ∧ F5 n (B s) v.1 v.2.1 (B v.2.2.1)) ∨ (v = noRec s ∧ ∀ c r t, ¬ F5 n (B s) c r t)) :=
    fun hg hn => ⟨_, ev_eq hg, .inr ⟨rfl, hn⟩⟩
  by_cases f1 : (Dz 10 (B s)).2.2 = true
  · by_cases f2 : (veri (mk (Dz 10 (B s)).1)).2 = true
    · by_cases f3 : (pre n (veri (mk (Dz 10 (B s)).1)).1).2 = true
      · by_cases f4 : (Dz 64 (B (pre n (veri (mk (Dz 10 (B s)).1)).1).1)).2.2 = true
        · simp only [if_pos f1, if_pos f2, if_pos f3, if_pos f4]
          refine exB (implRec_ev _ _) ?_
          by_cases f5 : Eb (mk (Dz 64 (B (pre n (veri (mk (Dz 10 (B s)).1)).1).1)).1) (mk (Dz 64 (B (pre n (veri (mk (Dz 10 (B s)).1)).1).1)).2.1) = true
          · simp only [if_pos f5]
            refine exB (implLine_ev n _ _ h0 h1 f5) ?_
            simp only [toList_eq, if_pos (show (mk (Dz 10 (B s)).1).size + 1 ≤ 9223372036854775807 by rw [Gm]; omega)]
            by_cases f6 : Eg n (mk (Dz 64 (B (pre n (veri (mk (Dz 10 (B s)).1)).1).1)).1) (mk (Dz 64 (B (pre n (veri (mk (Dz 10 (B s)).1)).1).1)).2.1) = mk (Dz 10 (B s)).1 ++ ⟨#[10]⟩
            · refine ⟨_, ev_eq (fun k => if_pos f6), .inl ⟨rfl, f5, ?_⟩⟩
              show B s = B (Eg n _ _) ++ B (mk (Dz 10 (B s)).2.1)
              rw [f6, F9, Fg, Fg, List.append_assoc]
              exact Ht 10 (B s) f1
            · refine fail (fun k => if_neg f6) (fun c r t h => f6 ?_)
              obtain ⟨e1, e2, e3, e4⟩ := flags c r t h
              rw [e4, e1, Gt, Gt, Gt]
              rfl
          · refine fail (fun k => if_neg f5) (fun c r t h => f5 ?_)
            obtain ⟨e1, e2, e3, e4⟩ := flags c r t h
            rw [e4, Gt, Gt]
            exact h.1
        · refine fail (fun k => by rw [if_pos f1, if_pos f2, if_pos f3, if_neg f4]) (fun c r t h => f4 ?_)
          rw [(flags c r t h).2.2.2]
      · refine fail (fun k => by rw [if_pos f1, if_pos f2, if_neg f3]) (fun c r t h => f3 ?_)
        rw [(flags c r t h).2.2.1]
    · refine fail (fun k => by rw [if_pos f1, if_neg f2]) (fun c r t h => f2 ?_)
      rw [(flags c r t h).2.1]
  · refine fail (fun k => by rw [if_neg f1]) (fun c r t h => f1 ?_)
    rw [(flags c r t h).1]
theorem line_of_eq {n : Int} {c r x : ByteArray} (e : Eg n c r = x ++ ⟨#[10]⟩) : x = Fb (Ej n c r) := by
  have := congrArg B e
  rw [B_line, F9] at this
  exact (B_inj (List.append_cancel_right this)).symm
theorem first_piece (c : UInt8) (s : ByteArray) : 0 < ((pieces c (B s)).map mk).length ∧ Bh ByteArray.empty ((pieces c (B s)).map mk) 0 = mk (Dz c (B s)).1 := by
  have h := pieces_head c (B s)
  refine ⟨by have := (pieces_length c (B s)).1; simp; omega, ?_⟩
  simp [Bh, List.getD_eq_getElem?_getD, h]
theorem specRest_ev (n : Int) (x R : ByteArray) (h0 : 0 ≤ n) (h1 : n ≤ 59) (hs : x.size ≤ 1000000000) (hRs : R.size ≤ x.size) (body2 : ∀ c r, Eb c r = true → Eg n c r = x ++ ⟨#[10]⟩ → R = mk (B c ++ 64 :: B r)) :
    ∃ v, Ev (fun k => (Bq.f k R 64).bind fun t188 => (if 0 < (t188.length : Int) then (if ((Bh ByteArray.empty t188 0).size : Int) = (R.size : Int) then (some ((⟨#[]⟩ : ByteArray), (⟨#[]⟩ : ByteArray), false)) else (if 0 ≤ (wrap64 (((Bh ByteArray.empty t188 0).size : Int) + 1)) then (if (wrap64 (((Bh ByteArray.empty t188 0).size : Int) + 1)) ≤ (R.size : Int) then ((Dk.f k (Bh ByteArray.empty t188 0) (R.extract ((wrap64 (((Bh ByteArray.empty t188 0).size : Int) + 1)) : Int).toNat R.size)).bind fun t193 => (if t193 = true then ((Bg.f k n (Bh ByteArray.empty t188 0) (R.extract ((wrap64 (((Bh ByteArray.empty t188 0).size : Int) + 1)) : Int).toNat R.size)).bind fun t194 => (if x.size + 1 ≤ 9223372036854775807 then (some (Bh ByteArray.empty t188 0, R.extract ((wrap64 (((Bh ByteArray.empty t188 0).size : Int) + 1)) : Int).toNat R.size, (t194.toList == (x ++ (⟨#[10]⟩ : ByteArray)).toList))) else (none))) else (some (Bh ByteArray.empty t188 0, R.extract ((wrap64 (((Bh ByteArray.empty t188 0).size : Int) + 1)) : Int).toNat R.size, false)))) else (none)) else (none))) else (none))) v ∧ ((v.2.2 = true ∧ Eb v.1 v.2.1 = true ∧ Eg n v.1 v.2.1 = x ++ ⟨#[10]⟩) ∨ (v.2.2 = false ∧ ∀ c r, Eb c r = true → Eg n c r ≠ x ++ ⟨#[10]⟩)) := by
  refine exB (specSplit_ev R 64 (by omega)) ?_
  obtain ⟨q1, q2⟩ := first_piece 64 R
  simp only [q2, if_pos (show (0 : Int) < (((pieces 64 (B R)).map mk).length : Int) by omega)]
  clear q1 q2
  have hRl := Dw R
  have hfd := Ht 64 (B R)
  have hlo := cutL_lost 64 (B R)
  have hask : ∀ c r, Eb c r = true → Eg n c r = x ++ ⟨#[10]⟩ → Dz 64 (B R) = (B c, B r, true) := by
    intro c r h e; rw [body2 c r h e, Fg, ask_cut h]
  clear body2
  obtain ⟨a, b, f, hK⟩ : ∃ a b f, Dz 64 (B R) = (a, b, f) := ⟨_, _, _, rfl⟩
  rw [hK] at hfd hlo hask ⊢
  clear hK
  dsimp only at hfd hlo hask ⊢
  cases f with
  | true =>
    have hf : B R = a ++ 64 :: b := hfd rfl
    clear hfd hlo
    have hl := congrArg List.length hf
    simp only [List.length_append, List.length_cons] at hl
    have w1 : wrap64 ((a.length : Int) + 1) = (a.length : Int) + 1 := wrap_id (by omega) (by omega)
    have hz : R.extract ((a.length : Int) + 1).toNat R.size = mk b := by
      refine B_inj ?_
      rw [Gp, Fg, List.take_of_length_le (by simp; omega), show ((a.length : Int) + 1).toNat = a.length + 1 by omega]
      rw [hf, List.drop_append, List.drop_of_length_le (by omega)]
      simp
    refine exC (f := fun k => ((Dk.f k (mk a) (mk b)).bind fun t193 => (if t193 = true then ((Bg.f k n (mk a) (mk b)).bind fun t194 => (if x.size + 1 ≤ 9223372036854775807 then some (mk a, mk b, (t194.toList == (x ++ (⟨#[10]⟩ : ByteArray)).toList)) else none)) else some (mk a, mk b, false)))) (fun k => by rw [Gm, if_neg (by omega), w1, if_pos (by omega), if_pos (by omega), hz]) ?_
    refine exB (specRec_ev _ _ (by rw [Gm]; omega) (by rw [Gm]; omega)) ?_
    by_cases f4 : Eb (mk a) (mk b) = true
    · simp only [if_pos f4]
      refine exB (specLine_ev n _ _ h0 h1 f4) ?_
      simp only [if_pos (show x.size + 1 ≤ 9223372036854775807 by omega)]
      refine ⟨_, Ev.now _, ?_⟩
      by_cases f5 : Eg n (mk a) (mk b) = x ++ ⟨#[10]⟩
      · exact .inl ⟨by rw [f5]; simp, f4, f5⟩
      · refine .inr ⟨?_, fun c r h e => f5 ?_⟩
        · rw [← toList_eq] at f5
          exact beq_eq_false_iff_ne.2 f5
        · have := hask c r h e
          simp only [Prod.mk.injEq] at this
          rw [this.1, this.2.1, Gt, Gt, e]
    · refine ⟨_, ev_eq (fun k => if_neg f4), .inr ⟨rfl, fun c r h e => f4 ?_⟩⟩
      have := hask c r h e
      simp only [Prod.mk.injEq] at this
      rw [this.1, this.2.1, Gt, Gt]; exact h
  | false =>
    have hl : a = B R := by have := hlo rfl; simp only [Prod.mk.injEq] at this; exact this.1
    have hm : (mk a).size = R.size := by rw [hl]; exact (Gm _).trans hRl
    refine ⟨_, ev_eq (fun k => if_pos (by omega)), .inr ⟨rfl, fun c r h e => ?_⟩⟩
    have := hask c r h e
    simp at this
theorem specRead_ev (n : Int) (x : ByteArray) (h0 : 0 ≤ n) (h1 : n ≤ 59) (hs : x.size ≤ 1000000000) :
    ∃ v, Ev (fun k => Bo.f k x n) v ∧ ((v.2.2 = true ∧ Eb v.1 v.2.1 = true ∧ Eg n v.1 v.2.1 = x ++ ⟨#[10]⟩) ∨ (v.2.2 = false ∧ ∀ c r, Eb c r = true → Eg n c r ≠ x ++ ⟨#[10]⟩)) := by
  have hd := Gs n (by omega) (by omega)
  have hT := (cut_size 35 (B x)).1
  rw [Dw] at hT
  have fail : ∀ {g : Nat → Option (ByteArray × ByteArray × Bool)} {a b : ByteArray}, (∀ k, g k = some (a, b, false)) → (∀ c r, Eb c r = true → Eg n c r = x ++ ⟨#[10]⟩ → False) →
      ∃ v, Ev g v ∧ ((v.2.2 = true ∧ Eb v.1 v.2.1 = true ∧ Eg n v.1 v.2.1 = x ++ ⟨#[10]⟩) ∨ (v.2.2 = false ∧ ∀ c r, Eb c r = true → Eg n c r ≠ x ++ ⟨#[10]⟩)) :=
    fun hg hn => ⟨_, ev_eq hg, .inr ⟨rfl, hn⟩⟩
  have body : ∀ c r, Eb c r = true → Eg n c r = x ++ ⟨#[10]⟩ → mk (Dz 35 (B x)).1 = Ej n c r := by
    intro c r h e
    rw [line_of_eq e, body_cut h0 h1 h, Gt]
  unfold Bo.f
  refine exB (specNum_ev n (by omega) (by omega)) ?_
  simp only [if_pos (show (dec n).size + 1 ≤ 9223372036854775807 by omega)]
  refine exB (specSplit_ev x 35 hs) ?_
  obtain ⟨p1, p2⟩ := first_piece 35 x
  simp only [p2, if_pos (show (0 : Int) < (((pieces 35 (B x)).map mk).length : Int) by omega)]
  rw [show (dec n ++ (⟨#[32]⟩ : ByteArray)) = ahead n from rfl]
  have hTs : (mk (Dz 35 (B x)).1).size ≤ x.size := by rw [Gm]; exact hT
  have hTb : (B (mk (Dz 35 (B x)).1)).length = (mk (Dz 35 (B x)).1).size := Dw _
  generalize mk (Dz 35 (B x)).1 = T at hTs hTb body ⊢
  have has := Dw (ahead n)
  have tf : ∀ {g : Nat → Option (ByteArray × ByteArray × Bool)}, (∀ k, g k = Bo.j0 k x n (ahead n) T true) → ∃ k0, ∀ k, k0 ≤ k → g k = some ((⟨#[]⟩ : ByteArray), (⟨#[]⟩ : ByteArray), false) := by
    intro g hg
    refine ⟨1, fun k hk => ?_⟩
    obtain ⟨k, rfl⟩ : ∃ m, k = m + 1 := ⟨k - 1, by omega⟩
    rw [hg]; simp only [Bo.j0]; exact if_pos trivial
  by_cases f1 : (T.size : Int) < ((ahead n).size : Int)
  · simp only [if_pos f1]
    refine ⟨_, tf (fun k => rfl), .inr ⟨rfl, fun c r h e => ?_⟩⟩
    have := (body_pre n c r).1.length_le
    rw [body c r h e] at f1
    rw [Dw, Dw] at this
    omega
  · simp only [if_neg f1, if_pos (show (0 : Int) ≤ ((ahead n).size : Int) by omega), if_pos (show ((ahead n).size : Int) ≤ (T.size : Int) by omega)]
    have hx : T.extract 0 (((ahead n).size : Int) : Int).toNat = mk ((B T).take (B (ahead n)).length) := B_inj (by rw [Gp, Fg, has]; rfl)
    have hy : T.extract (((ahead n).size : Int) : Int).toNat T.size = mk ((B T).drop (B (ahead n)).length) := B_inj (by rw [Gp, Fg, has, Int.toNat_natCast, List.take_of_length_le (by simp; omega)])
    rw [hx]
    have ht : ((mk ((B T).take (B (ahead n)).length)).toList != (ahead n).toList) = !(B (ahead n)).isPrefixOf (B T) := by
      rw [Hf, Hf, Fg]
      simp only [bne, Bool.not_inj_iff]
      rw [Bool.eq_iff_iff]
      simp only [beq_iff_eq, List.isPrefixOf_iff_prefix]
      constructor
      · intro z; rw [← z]; exact List.take_prefix _ _
      · intro z; exact (List.prefix_iff_eq_take.1 z).symm
    rw [ht]
    by_cases f2 : (B (ahead n)).isPrefixOf (B T) = true
    · simp only [f2, Bool.not_true]
      have hRs : (mk ((B T).drop (B (ahead n)).length)).size ≤ x.size := by rw [Gm, List.length_drop]; omega
      have body2 : ∀ c r, Eb c r = true → Eg n c r = x ++ ⟨#[10]⟩ → mk ((B T).drop (B (ahead n)).length) = mk (B c ++ 64 :: B r) := by
        intro c r h e; rw [body c r h e, (body_pre n c r).2]
      suffices h : ∃ v, Ev (fun k => (Bq.f k (mk ((B T).drop (B (ahead n)).length)) 64).bind fun t188 => (if 0 < (t188.length : Int) then (if ((Bh ByteArray.empty t188 0).size : Int) = ((mk ((B T).drop (B (ahead n)).length)).size : Int) then (some ((⟨#[]⟩ : ByteArray), (⟨#[]⟩ : ByteArray), false)) else (if 0 ≤ (wrap64 (((Bh ByteArray.empty t188 0).size : Int) + 1)) then (if (wrap64 (((Bh ByteArray.empty t188 0).size : Int) + 1)) ≤ ((mk ((B T).drop (B (ahead n)).length)).size : Int) then ((Dk.f k (Bh ByteArray.empty t188 0) ((mk ((B T).drop (B (ahead n)).length)).extract ((wrap64 (((Bh ByteArray.empty t188 0).size : Int) + 1)) : Int).toNat (mk ((B T).drop (B (ahead n)).length)).size)).bind fun t193 => (if t193 = true then ((Bg.f k n (Bh ByteArray.empty t188 0) ((mk ((B T).drop (B (ahead n)).length)).extract ((wrap64 (((Bh ByteArray.empty t188 0).size : Int) + 1)) : Int).toNat (mk ((B T).drop (B (ahead n)).length)).size)).bind fun t194 => (if x.size + 1 ≤ 9223372036854775807 then (some (Bh ByteArray.empty t188 0, (mk ((B T).drop (B (ahead n)).length)).extract ((wrap64 (((Bh ByteArray.empty t188 0).size : Int) + 1)) : Int).toNat (mk ((B T).drop (B (ahead n)).length)).size, (t194.toList == (x ++ (⟨#[10]⟩ : ByteArray)).toList))) else (none))) else (some (Bh ByteArray.empty t188 0, (mk ((B T).drop (B (ahead n)).length)).extract ((wrap64 (((Bh ByteArray.empty t188 0).size : Int) + 1)) : Int).toNat (mk ((B T).drop (B (ahead n)).length)).size, false)))) else (none)) else (none))) else (none))) v ∧ ((v.2.2 = true ∧ Eb v.1 v.2.1 = true ∧ Eg n v.1 v.2.1 = x ++ ⟨#[10]⟩) ∨ (v.2.2 = false ∧ ∀ c r, Eb c r = true → Eg n c r ≠ x ++ ⟨#[10]⟩)) by
        obtain ⟨v, hv, hq⟩ := h
        refine ⟨v, Ev.step (fun k => ?_) hv, hq⟩
        simp only [Bo.j0]
        rw [if_neg (by decide), if_pos (by omega), if_pos (by omega), hy]
      exact specRest_ev n x (mk ((B T).drop (B (ahead n)).length)) h0 h1 hs hRs body2
    · simp only [f2, Bool.not_false]
      refine ⟨_, tf (fun k => rfl), .inr ⟨rfl, fun c r h e => f2 ?_⟩⟩
      rw [body c r h e]
      exact List.isPrefixOf_iff_prefix.2 (body_pre n c r).1
end Go.Proofs.YtkpieljmhgfofaaDoor.X


namespace Go.Proofs.YtkpieljmhgfofaaDoor.X
open Go.RowKit Go.Proofs.YtkpieljmhgfofaaDoorW.PrintWords Go.Proofs.YtkpieljmhgfofaaDoorL
set_option linter.unusedVariables false
set_option linter.unusedSimpArgs false
abbrev RecT := S27
open Classical in
noncomputable def recAt (n : Int) (s : List UInt8) : Option (ByteArray × ByteArray × List UInt8) :=
  if h : ∃ p : ByteArray × ByteArray × List UInt8, F5 n s p.1 p.2.1 p.2.2 then some h.choose else none
theorem He {n : Int} {s : List UInt8} {c r : ByteArray} {t : List UInt8} (h0 : 0 ≤ n) (h1 : n ≤ 59) (h : F5 n s c r t) : recAt n s = some (c, r, t) := by
  have hx : ∃ p : ByteArray × ByteArray × List UInt8, F5 n s p.1 p.2.1 p.2.2 := ⟨(c, r, t), h⟩
  unfold recAt
  rw [dif_pos hx]
  obtain ⟨a, b, d⟩ := F5.inj h0 h1 hx.choose_spec h
  rw [← a, ← b, ← d]
theorem Hy {n : Int} {s : List UInt8} (h : ∀ c r t, ¬ F5 n s c r t) : recAt n s = none := by
  unfold recAt
  rw [dif_neg (fun z => by obtain ⟨p, hp⟩ := z; exact h _ _ _ hp)]
theorem recAt_is {n : Int} {s : List UInt8} {p : ByteArray × ByteArray × List UInt8} (h : recAt n s = some p) : F5 n s p.1 p.2.1 p.2.2 := by
  unfold recAt at h
  split at h
  · rename_i hx
    simp only [Option.some.injEq] at h
    rw [← h]; exact hx.choose_spec
  · cases h
theorem line_pos (n : Int) (c r : ByteArray) : 1 ≤ (B (Eg n c r)).length := by rw [B_line]; simp
theorem F5.lt {n : Int} {s : List UInt8} {c r : ByteArray} {t : List UInt8} (h : F5 n s c r t) : t.length < s.length := by
  have := line_pos n c r
  rw [h.2, List.length_append]; omega
theorem recAt_nil (n : Int) : recAt n [] = none := Hy (fun c r t h => by have := h.lt; simp at this)
/-- The records from the n-th on, d at most, and what is left. -/
noncomputable def reads : Nat → Nat → List UInt8 → List RecT × List UInt8
  | 0, _, s => ([], s)
  | d + 1, n, s => match recAt (n : Int) s with
    | none => ([], s)
    | some p => ((⟨p.1, p.2.1⟩ : RecT) :: (reads d (n + 1) p.2.2).1, (reads d (n + 1) p.2.2).2)
noncomputable def G7 (L : Nat) : Nat → Nat → List UInt8 → List Int
  | 0, _, _ => []
  | d + 1, n, s => match recAt (n : Int) s with
    | none => []
    | some p => ((L : Int) - (p.2.2.length : Int)) :: G7 L d (n + 1) p.2.2
theorem F6 {d n : Nat} {s : List UInt8} (h : recAt (n : Int) s = none) : reads d n s = ([], s) := by
  cases d with
  | zero => rfl
  | succ d => unfold reads; rw [h]
theorem G6 {d n : Nat} {s : List UInt8} {p : ByteArray × ByteArray × List UInt8} (h : recAt (n : Int) s = some p) : reads (d + 1) n s = ((⟨p.1, p.2.1⟩ : RecT) :: (reads d (n + 1) p.2.2).1, (reads d (n + 1) p.2.2).2) := by
  conv => lhs; unfold reads
  rw [h]
theorem endsOf_none {L d n : Nat} {s : List UInt8} (h : recAt (n : Int) s = none) : G7 L d n s = [] := by
  cases d with
  | zero => rfl
  | succ d => unfold G7; rw [h]
theorem endsOf_some {L d n : Nat} {s : List UInt8} {p : ByteArray × ByteArray × List UInt8} (h : recAt (n : Int) s = some p) : G7 L (d + 1) n s = ((L : Int) - (p.2.2.length : Int)) :: G7 L d (n + 1) p.2.2 := by
  conv => lhs; unfold G7
  rw [h]
theorem Hm : ∀ (d n : Nat) (s : List UInt8), (reads d n s).1.length ≤ d ∧ (reads d n s).2.length ≤ s.length
  | 0, n, s => by simp [reads]
  | d + 1, n, s => by
    cases h : recAt (n : Int) s with
    | none => rw [F6 h]; simp
    | some p =>
      have ih := Hm d (n + 1) p.2.2
      have := (recAt_is h).lt
      rw [G6 h]; simp; omega
theorem implReads_ev (s : ByteArray) (hs : s.size ≤ 1000000000) : Ev (fun k => Cc.f k s) ((reads 60 0 (B s)).1, 0 :: G7 s.size 60 0 (B s), (s.size : Int) - ((reads 60 0 (B s)).2.length : Int)) := by
  have key : ∀ (d n : Nat) (xs : List RecT) (S : List Int) (t : ByteArray), n + d = 60 → xs.length = n → t.size ≤ s.size →
      Ev (fun k => Cc.l0 k s xs S t) (xs ++ (reads d n (B t)).1, S ++ G7 s.size d n (B t), (s.size : Int) - ((reads d n (B t)).2.length : Int)) := by
    intro d
    induction d with
    | zero =>
      intro n xs S t hn hx ht
      refine Ev.step (f := fun _ => some _) (fun k => ?_) (Ev.now _)
      simp only [Cc.l0]
      rw [if_neg (by omega), wrap_id (by omega) (by omega)]
      simp [reads, G7, Dw]
    | succ d ih =>
      intro n xs S t hn hx ht
      obtain ⟨v, hv, hq⟩ := implRead_ev (n : Int) t (by omega) (by omega) (by omega)
      refine Ev.step (f := fun k => (Ey.f k (n : Int) t).bind fun b => if b.2.2.2 = true then Cc.l0 k s (xs ++ [(⟨b.1, b.2.1⟩ : RecT)]) (S ++ [wrap64 ((s.size : Int) - (b.2.2.1.size : Int))]) b.2.2.1 else some (xs, S, wrap64 ((s.size : Int) - (t.size : Int)))) (fun k => ?_) (Ev.bind hv ?_)
      · simp only [Cc.l0]
        rw [if_pos (by omega), hx]
      · rcases hq with ⟨f, hr⟩ | ⟨rfl, hno⟩
        · have hsz : v.2.2.1.size ≤ s.size := by have := hr.lt; rw [Dw, Dw] at this; omega
          rw [G6 (He (by omega) (by omega) hr), endsOf_some (He (by omega) (by omega) hr)]
          simp only [if_pos f, wrap_id (x := (s.size : Int) - (v.2.2.1.size : Int)) (by omega) (by omega)]
          have i1 := ih (n + 1) (xs ++ [(⟨v.1, v.2.1⟩ : RecT)]) (S ++ [(s.size : Int) - (v.2.2.1.size : Int)]) v.2.2.1 (by omega) (by simp; omega) hsz
          rw [List.append_assoc, List.append_assoc] at i1
          rw [Dw]
          exact i1
        · rw [F6 (Hy hno), endsOf_none (Hy hno), Dw]
          refine ev_eq (fun k => ?_)
          show (if false = true then _ else some (xs, S, wrap64 ((s.size : Int) - (t.size : Int)))) = _
          rw [if_neg (by decide), wrap_id (by omega) (by omega)]
          simp
  have := key 60 0 [] [0] s (by omega) rfl (Nat.le_refl _)
  exact Ev.congr (f := fun k => Cc.l0 k s [] [0] s) (fun k => rfl) (by simpa using this)
theorem specOpen_ev (s : ByteArray) (hs : s.size ≤ 1000000000) : Ev (fun k => Be.f k s) ((reads 60 0 (B s)).1, (s.size : Int) - ((reads 60 0 (B s)).2.length : Int)) := by
  have hBs := Dw s
  have key : ∀ (d n at_ : Nat) (xs : List RecT), n + d = 60 → xs.length = n → at_ ≤ s.size →
      Ev (fun k => Be.l0 k s xs (at_ : Int)) (xs ++ (reads d n ((B s).drop at_)).1, (s.size : Int) - ((reads d n ((B s).drop at_)).2.length : Int)) := by
    intro d
    induction d with
    | zero =>
      intro n at_ xs hn hx ha
      have fin : ∀ b, b = false → Ev (fun k => Be.j1 k s xs (at_ : Int) b) (xs ++ (reads 0 n ((B s).drop at_)).1, (s.size : Int) - ((reads 0 n ((B s).drop at_)).2.length : Int)) := by
        rintro b rfl
        refine Ev.step (f := fun _ => some _) (fun k => ?_) (Ev.now _)
        simp only [Be.j1]
        rw [if_neg (by decide)]
        simp [reads]; omega
      by_cases h : (at_ : Int) < (s.size : Int)
      · refine Ev.step (f := fun k => Be.j1 k s xs (at_ : Int) (decide ((xs.length : Int) < 60))) (fun k => ?_) (fin _ (decide_eq_false (by omega)))
        simp only [Be.l0]; rw [if_pos h]
      · refine Ev.step (f := fun k => Be.j1 k s xs (at_ : Int) false) (fun k => ?_) (fin _ rfl)
        simp only [Be.l0]; rw [if_neg h]
    | succ d ih =>
      intro n at_ xs hn hx ha
      by_cases h : (at_ : Int) < (s.size : Int)
      · have hrest : s.extract (at_ : Int).toNat s.size = mk ((B s).drop at_) := B_inj (by rw [Gp, Fg, Int.toNat_natCast, List.take_of_length_le (by simp; omega)])
        have hrl : ((B s).drop at_).length = s.size - at_ := by rw [List.length_drop, hBs]
        have hrs : (mk ((B s).drop at_)).size = s.size - at_ := by rw [Gm, hrl]
        refine Ev.step (f := fun k => Be.j1 k s xs (at_ : Int) true) (fun k => ?_) ?_
        · simp only [Be.l0]; rw [if_pos h, decide_eq_true (by omega)]
        obtain ⟨q1, q2⟩ := first_piece 10 (mk ((B s).drop at_))
        have q3 := pieces_two 10 ((B s).drop at_)
        have hcs := (cut_size 10 ((B s).drop at_)).1
        rw [Fg] at q2
        obtain ⟨v, hv, hq⟩ := specRead_ev (n : Int) (mk (Dz 10 ((B s).drop at_)).1) (by omega) (by omega) (by rw [Gm]; omega)
        refine Ev.step (f := fun k => (Bq.f k (mk ((B s).drop at_)) 10).bind fun t198 => if 0 < (t198.length : Int) then ((Bo.f k (Bh ByteArray.empty t198 0) (xs.length : Int)).bind fun bt202 => (if (t198.length : Int) < 2 then (some (xs, (at_ : Int))) else (if bt202.2.2 = true then (if xs.length < 4398046511104 then (Be.l0 k s (xs ++ [(⟨bt202.1, bt202.2.1⟩ : RecT)]) (wrap64 ((wrap64 ((at_ : Int) + ((Bh ByteArray.empty t198 0).size : Int))) + 1))) else none) else (some (xs, (at_ : Int)))))) else none) (fun k => ?_) (Ev.bind (specSplit_ev (mk ((B s).drop at_)) 10 (by omega)) ?_)
        · simp only [Be.j1]
          rw [if_pos trivial, if_pos (by omega), if_pos (by omega), hrest]
        · simp only [Fg, q2, List.length_map, hx]
          refine Ev.congr (f := fun k => (Bo.f k (mk (Dz 10 ((B s).drop at_)).1) (n : Int)).bind fun bt202 => (if ((pieces 10 ((B s).drop at_)).length : Int) < 2 then (some (xs, (at_ : Int))) else (if bt202.2.2 = true then (if xs.length < 4398046511104 then (Be.l0 k s (xs ++ [(⟨bt202.1, bt202.2.1⟩ : RecT)]) (wrap64 ((wrap64 ((at_ : Int) + ((mk (Dz 10 ((B s).drop at_)).1).size : Int))) + 1))) else none) else (some (xs, (at_ : Int)))))) (fun k => by rw [if_pos (by have := (pieces_length 10 ((B s).drop at_)).1; omega)]; try simp only [hx]) (Ev.bind hv ?_)
          rw [Gm]
          have hfd := Ht 10 ((B s).drop at_)
          have hln : ∀ c r t, 0 ≤ (n : Int) → F5 (n : Int) ((B s).drop at_) c r t → Dz 10 ((B s).drop at_) = (B (Fb (Ej n c r)), t, true) := fun c r t h0 h => h.line h0
          have stop : (∀ c r t, ¬ F5 (n : Int) ((B s).drop at_) c r t) → ((xs ++ (reads (d + 1) n ((B s).drop at_)).1, (s.size : Int) - ((reads (d + 1) n ((B s).drop at_)).2.length : Int)) : List RecT × Int) = (xs, (at_ : Int)) := by
            intro hno
            rw [F6 (Hy hno)]
            simp only [List.append_nil, Prod.mk.injEq, true_and]; omega
          have hdd : ∀ m, ((B s).drop at_).drop m = (B s).drop (at_ + m) := fun m => by rw [List.drop_drop]
          have step := fun (v1 v2 : ByteArray) (t : List UInt8) (hr : F5 (n : Int) ((B s).drop at_) v1 v2 t) => G6 (d := d) (He (n := (n : Int)) (by omega) (by omega) hr)
          generalize (B s).drop at_ = R at *
          obtain ⟨a, b, f, hK⟩ : ∃ a b f, Dz 10 R = (a, b, f) := ⟨_, _, _, rfl⟩
          rw [hK] at hfd hcs q3 hq hln ⊢
          dsimp only at hfd hcs q3 hq hln ⊢
          clear hK hv
          cases f with
          | true =>
            have hR : R = a ++ 10 :: b := hfd rfl
            have hl := congrArg List.length hR
            simp only [List.length_append, List.length_cons] at hl
            have h2 : 2 ≤ (pieces 10 R).length := q3 ▸ rfl
            rcases hq with ⟨f, hg, hr⟩ | ⟨f, hno⟩
            · have hrec : F5 (n : Int) R v.1 v.2.1 b := ⟨hg, by rw [hr, F9, Fg, hR, List.append_assoc]; rfl⟩
              rw [step _ _ _ hrec]
              have hb : b = (B s).drop (at_ + a.length + 1) := by
                have := hdd (a.length + 1)
                rw [← Nat.add_assoc] at this
                rw [← this, hR, List.drop_append, List.drop_of_length_le (by omega)]
                simp
              have i1 := ih (n + 1) (at_ + a.length + 1) (xs ++ [(⟨v.1, v.2.1⟩ : RecT)]) (by omega) (by simp; omega) (by omega)
              rw [← hb, List.append_assoc] at i1
              refine Ev.congr (fun k => ?_) i1
              rw [if_neg (by omega), if_pos f, if_pos (by omega), wrap_id (x := (at_ : Int) + (a.length : Int)) (by omega) (by omega), wrap_id (x := (at_ : Int) + (a.length : Int) + 1) (by omega) (by omega)]
              rfl
            · rw [stop (fun c r t h => hno c r h.1 (by
                have e := hln c r t (by omega) h
                simp only [Prod.mk.injEq] at e
                refine B_inj ?_
                rw [B_line, F9, Fg, e.1]; rfl))]
              exact ev_eq (fun k => by rw [if_neg (by omega), if_neg (by rw [f]; decide)])
          | false =>
            have h2 : ¬ 2 ≤ (pieces 10 R).length := fun z => by rw [q3] at z; cases z
            rw [stop (fun c r t h => by have e := hln c r t (by omega) h; simp at e)]
            exact ev_eq (fun k => by rw [if_pos (by omega)])
      · obtain rfl : at_ = s.size := by omega
        have e : (B s).drop s.size = [] := List.drop_of_length_le (by omega)
        rw [e, F6 (recAt_nil _)]
        refine Ev.step (f := fun k => Be.j1 k s xs (s.size : Int) false) (fun k => ?_) (Ev.step (f := fun _ => some _) (fun k => ?_) (Ev.now _))
        · simp only [Be.l0]; rw [if_neg h]
        · simp only [Be.j1]; rw [if_neg (by decide)]; simp
  have := key 60 0 0 [] (by omega) rfl (Nat.zero_le _)
  exact Ev.congr (f := fun k => Be.l0 k s [] 0) (fun k => rfl) (by simpa using this)
end Go.Proofs.YtkpieljmhgfofaaDoor.X


-- written by a program of this session (wip/ext.py) out of the translation. Not trusted: Lean checks it.
namespace Go.Proofs.YtkpieljmhgfofaaDoor.X
open Go.RowKit Go.Proofs.YtkpieljmhgfofaaDoorW.PrintWords Go.Proofs.YtkpieljmhgfofaaDoorW.PrintLast Go.Proofs.YtkpieljmhgfofaaDoorW.PrintMore
attribute [local go_sem] max2_int min2_int max_two min_two max_three min_three max_four min_four   -- for this text's walks alone
open Go.Proofs.YtkpieljmhgfofaaDoorG
set_option linter.unusedVariables false
set_option linter.unusedSimpArgs false

def laws_szLog.f (a0_0 : ByteArray) (a0_1 : ByteArray) (a0_2 : Int) (a1 : Int) : Option (Int) := if (wrap64 (a1 - (a0_0.size : Int))) < 0 then (some (-1)) else (if (wrap64 ((wrap64 (a1 - (a0_0.size : Int))) - (a0_1.size : Int))) < 0 then (some (-1)) else (some (wrap64 ((wrap64 (a1 - (a0_0.size : Int))) - (a0_1.size : Int)))))
set_option maxHeartbeats 8000000 in
set_option maxRecDepth 100000 in
theorem laws_szLog.calls (a0_0 : ByteArray) (a0_1 : ByteArray) (a0_2 : Int) (a1 : Int) (r : Int) (w : World) (h : laws_szLog.f a0_0 a0_1 a0_2 a1 = some r) :
    Calls Tryd.prog 20 #[.agg #[.string a0_0, .string a0_1, .int .i64 a0_2], .int .i64 a1] w fun e w' => e = .returned (.int .i64 r) ∧ Below w.heap.size w w' := by
  have hu36 := Tryd.underlying36
  have HB := Aside0.mk (Below.refl w.heap.size w)
  have H : (if (wrap64 (a1 - (a0_0.size : Int))) < 0 then (some (-1)) else (if (wrap64 ((wrap64 (a1 - (a0_0.size : Int))) - (a0_1.size : Int))) < 0 then (some (-1)) else (some (wrap64 ((wrap64 (a1 - (a0_0.size : Int))) - (a0_1.size : Int)))))) = some r := h
  clear h
  by_cases c3 : (wrap64 (a1 - (a0_0.size : Int))) < 0
  · rw [if_pos c3] at H
    have c3b0 : decide ((wrap64 (a1 - (a0_0.size : Int))) < 0) = true := decide_eq_true c3
    clear c3
    obtain rfl := Option.some.inj H
    go_enter Tryd.func20, Tryd.ntmps20
    go_wp2_with (first | ((with_reducible refine Az (N := 2) rfl ?_); refine Ba ?hg (N := 2) ?hd (cs := #[.string a0_0, .string a0_1, .int .i64 a0_2]) (t := 36) ?hr ?_; (case hd => rfl); (case hg => rfl); (case hr => first | (go_simp; done) | (go_simp; rfl)); intro gb263 hg w4 hbox hb; have n0_ := Aside0.mk (Ag (by repeat (first | (with_reducible first | exact HB.out | apply below_alloc | apply pw_below_drewN | apply below_drew1) | exact HB.out)) hb); have n1_ := Aside0.mk (hbox); have n2_ := Aside0.mk ((by rw [hg]; exact (Ah (by repeat (first | (with_reducible first | exact HB.out | apply below_alloc | apply pw_below_drewN | apply below_drew1) | exact HB.out))) : w.heap.size ≤ gb263)); have n3_ := Aside0.mk ((by rw [hg]; exact (Ah (by repeat (first | (with_reducible first | exact HB.out | apply below_alloc | apply pw_below_drewN | apply below_drew1) | exact HB.out))) : w.heap.size ≤ gb263)); clear HB; have HB := n0_; have BK263 := n1_; have GW263 := n2_; have GE263 := n3_; clear n0_ n1_ n2_ n3_; clear hb hbox hg; have hcz5_0 : w4.cell? ⟨gb263, 0, none⟩ = some (.string a0_0) := (Af BK263.out 0).trans rfl; have hcz5_1 : w4.cell? ⟨gb263, 1, none⟩ = some (.string a0_1) := (Af BK263.out 1).trans rfl; have hcz5_2 : w4.cell? ⟨gb263, 2, none⟩ = some (.int .i64 a0_2) := (Af BK263.out 2).trans rfl; have hfz5_0 := Ae BK263.out 0; have hfz5_1 := Ae BK263.out 1; have hfz5_2 := Ae BK263.out 2))
    go_ret
    exact ⟨by first | rfl | (simp [Aj, Ai] <;> rfl) | (simp [*, Aj, Ai] <;> rfl), by repeat (first | (with_reducible first | exact HB.out | apply below_alloc | apply pw_below_drewN | apply below_drew1 | refine below_set ?_ GE263.out) | exact HB.out)⟩
  · rw [if_neg c3] at H
    have c3b0 : decide ((wrap64 (a1 - (a0_0.size : Int))) < 0) = false := decide_eq_false c3
    clear c3
    by_cases c6 : (wrap64 ((wrap64 (a1 - (a0_0.size : Int))) - (a0_1.size : Int))) < 0
    · rw [if_pos c6] at H
      have c6b0 : decide ((wrap64 ((wrap64 (a1 - (a0_0.size : Int))) - (a0_1.size : Int))) < 0) = true := decide_eq_true c6
      clear c6
      obtain rfl := Option.some.inj H
      go_enter Tryd.func20, Tryd.ntmps20
      go_wp2_with (first | ((with_reducible refine Az (N := 2) rfl ?_); refine Ba ?hg (N := 2) ?hd (cs := #[.string a0_0, .string a0_1, .int .i64 a0_2]) (t := 36) ?hr ?_; (case hd => rfl); (case hg => rfl); (case hr => first | (go_simp; done) | (go_simp; rfl)); intro gb263 hg w7 hbox hb; have n0_ := Aside0.mk (Ag (by repeat (first | (with_reducible first | exact HB.out | apply below_alloc | apply pw_below_drewN | apply below_drew1) | exact HB.out)) hb); have n1_ := Aside0.mk (hbox); have n2_ := Aside0.mk ((by rw [hg]; exact (Ah (by repeat (first | (with_reducible first | exact HB.out | apply below_alloc | apply pw_below_drewN | apply below_drew1) | exact HB.out))) : w.heap.size ≤ gb263)); have n3_ := Aside0.mk ((by rw [hg]; exact (Ah (by repeat (first | (with_reducible first | exact HB.out | apply below_alloc | apply pw_below_drewN | apply below_drew1) | exact HB.out))) : w.heap.size ≤ gb263)); clear HB; have HB := n0_; have BK263 := n1_; have GW263 := n2_; have GE263 := n3_; clear n0_ n1_ n2_ n3_; clear hb hbox hg; have hcz8_0 : w7.cell? ⟨gb263, 0, none⟩ = some (.string a0_0) := (Af BK263.out 0).trans rfl; have hcz8_1 : w7.cell? ⟨gb263, 1, none⟩ = some (.string a0_1) := (Af BK263.out 1).trans rfl; have hcz8_2 : w7.cell? ⟨gb263, 2, none⟩ = some (.int .i64 a0_2) := (Af BK263.out 2).trans rfl; have hfz8_0 := Ae BK263.out 0; have hfz8_1 := Ae BK263.out 1; have hfz8_2 := Ae BK263.out 2))
      go_ret
      exact ⟨by first | rfl | (simp [Aj, Ai] <;> rfl) | (simp [*, Aj, Ai] <;> rfl), by repeat (first | (with_reducible first | exact HB.out | apply below_alloc | apply pw_below_drewN | apply below_drew1 | refine below_set ?_ GE263.out) | exact HB.out)⟩
    · rw [if_neg c6] at H
      have c6b0 : decide ((wrap64 ((wrap64 (a1 - (a0_0.size : Int))) - (a0_1.size : Int))) < 0) = false := decide_eq_false c6
      clear c6
      obtain rfl := Option.some.inj H
      go_enter Tryd.func20, Tryd.ntmps20
      go_wp2_with (first | ((with_reducible refine Az (N := 2) rfl ?_); refine Ba ?hg (N := 2) ?hd (cs := #[.string a0_0, .string a0_1, .int .i64 a0_2]) (t := 36) ?hr ?_; (case hd => rfl); (case hg => rfl); (case hr => first | (go_simp; done) | (go_simp; rfl)); intro gb263 hg w9 hbox hb; have n0_ := Aside0.mk (Ag (by repeat (first | (with_reducible first | exact HB.out | apply below_alloc | apply pw_below_drewN | apply below_drew1) | exact HB.out)) hb); have n1_ := Aside0.mk (hbox); have n2_ := Aside0.mk ((by rw [hg]; exact (Ah (by repeat (first | (with_reducible first | exact HB.out | apply below_alloc | apply pw_below_drewN | apply below_drew1) | exact HB.out))) : w.heap.size ≤ gb263)); have n3_ := Aside0.mk ((by rw [hg]; exact (Ah (by repeat (first | (with_reducible first | exact HB.out | apply below_alloc | apply pw_below_drewN | apply below_drew1) | exact HB.out))) : w.heap.size ≤ gb263)); clear HB; have HB := n0_; have BK263 := n1_; have GW263 := n2_; have GE263 := n3_; clear n0_ n1_ n2_ n3_; clear hb hbox hg; have hcz10_0 : w9.cell? ⟨gb263, 0, none⟩ = some (.string a0_0) := (Af BK263.out 0).trans rfl; have hcz10_1 : w9.cell? ⟨gb263, 1, none⟩ = some (.string a0_1) := (Af BK263.out 1).trans rfl; have hcz10_2 : w9.cell? ⟨gb263, 2, none⟩ = some (.int .i64 a0_2) := (Af BK263.out 2).trans rfl; have hfz10_0 := Ae BK263.out 0; have hfz10_1 := Ae BK263.out 1; have hfz10_2 := Ae BK263.out 2))
      go_ret
      exact ⟨by first | rfl | (simp [Aj, Ai] <;> rfl) | (simp [*, Aj, Ai] <;> rfl), by repeat (first | (with_reducible first | exact HB.out | apply below_alloc | apply pw_below_drewN | apply below_drew1 | refine below_set ?_ GE263.out) | exact HB.out)⟩

end Go.Proofs.YtkpieljmhgfofaaDoor.X


namespace Go.Proofs.YtkpieljmhgfofaaDoor.X
open Go.RowKit Go.Proofs.YtkpieljmhgfofaaDoorW.PrintWords Go.Proofs.YtkpieljmhgfofaaDoorL
set_option linter.unusedVariables false
set_option linter.unusedSimpArgs false
theorem line_size {n : Int} {c r : ByteArray} (h0 : 0 ≤ n) (h1 : n ≤ 59) (h : Eb c r = true) : (B (Eg n c r)).length ≤ 406 := by
  obtain ⟨s1, s2, s3⟩ := rec_sizes h
  have hd := Gs n (by omega) (by omega)
  have hb := Hu n c r
  have hz := (Ho (Ej n c r)).2
  rw [B_line, List.length_append, Dw]
  simp; omega
theorem reads_size : ∀ (d n : Nat) (s : List UInt8), n + d ≤ 60 → s.length ≤ (reads d n s).2.length + 406 * d
  | 0, n, s, _ => by simp [reads]
  | d + 1, n, s, hn => by
    cases h : recAt (n : Int) s with
    | none => rw [F6 h]; simp
    | some p =>
      have ih := reads_size d (n + 1) p.2.2 (by omega)
      have hr := recAt_is h
      have := line_size (n := (n : Int)) (by omega) (by omega) hr.1
      have e := congrArg List.length hr.2
      rw [List.length_append] at e
      rw [G6 h]; simp only; omega
theorem endsOf_ge : ∀ (d n L : Nat) (s : List UInt8), s.length ≤ L → ∀ e ∈ G7 L d n s, (L : Int) - (s.length : Int) + 1 ≤ e
  | 0, n, L, s, _ => by simp [G7]
  | d + 1, n, L, s, hL => by
    intro e he
    cases h : recAt (n : Int) s with
    | none => rw [endsOf_none h] at he; cases he
    | some p =>
      have hlt := (recAt_is h).lt
      rw [endsOf_some h] at he
      rcases List.mem_cons.1 he with rfl | he
      · omega
      · have := endsOf_ge d (n + 1) L p.2.2 (by omega) e he
        omega
/-- That what was read came by the place behind D says that D alone can be read to its end. -/
theorem mem_ends : ∀ (d n L : Nat) (D P : List UInt8), n + d ≤ 60 → (D ++ P).length ≤ L → ((((L : Int) - ((D ++ P).length : Int) + (D.length : Int)) ∈ G7 L d n (D ++ P) ∨ D = []) ↔ (reads d n D).2 = [])
  | 0, n, L, D, P, _, _ => by simp [G7, reads]
  | d + 1, n, L, D, P, hn, hL => by
    by_cases hD : D = []
    · subst hD
      rw [F6 (recAt_nil _)]
      simp
    cases h : recAt (n : Int) (D ++ P) with
    | none =>
      have hno : recAt (n : Int) D = none := by
        cases h2 : recAt (n : Int) D with
        | none => rfl
        | some q =>
          have hq := recAt_is h2
          have : F5 (n : Int) (D ++ P) q.1 q.2.1 (q.2.2 ++ P) := ⟨hq.1, by rw [← List.append_assoc, ← hq.2]⟩
          rw [He (by omega) (by omega) this] at h
          cases h
      rw [endsOf_none h, F6 hno]
      simp [hD]
    | some p =>
      have hp := recAt_is h
      have hlen := congrArg List.length hp.2
      rw [List.length_append, List.length_append] at hlen
      rw [endsOf_some h]
      by_cases hc : (B (Eg (n : Int) p.1 p.2.1)).length ≤ D.length
      · obtain ⟨D', hD'⟩ : ∃ D', D = B (Eg (n : Int) p.1 p.2.1) ++ D' := by
          have : B (Eg (n : Int) p.1 p.2.1) <+: D ++ P := ⟨p.2.2, hp.2.symm⟩
          obtain ⟨t, ht⟩ := List.prefix_of_prefix_length_le this (List.prefix_append D P) hc
          exact ⟨t, ht.symm⟩
        have ht : p.2.2 = D' ++ P := by
          have := hp.2
          rw [hD', List.append_assoc] at this
          exact (List.append_cancel_left this).symm
        have hr : F5 (n : Int) D p.1 p.2.1 D' := ⟨hp.1, hD'⟩
        rw [G6 (He (by omega) (by omega) hr)]
        have hdl := congrArg List.length hD'
        rw [List.length_append] at hdl
        rw [List.length_append] at hL
        have ih := mem_ends d (n + 1) L D' P (by omega) (by rw [List.length_append]; omega)
        simp only
        rw [← ih, ht, List.mem_cons]
        simp only [List.length_append, hD, or_false]
        have e1 : (L : Int) - ((D.length + P.length : Nat) : Int) + (D.length : Int) = (L : Int) - ((D'.length + P.length : Nat) : Int) + (D'.length : Int) := by omega
        rw [e1]
        constructor
        · rintro (a | a)
          · exact .inr (List.length_eq_zero_iff.1 (by omega))
          · exact .inl a
        · rintro (a | a)
          · exact .inr a
          · left; rw [a]; simp
      · have hno : recAt (n : Int) D = none := by
          cases h2 : recAt (n : Int) D with
          | none => rfl
          | some q =>
            exfalso
            have hq := recAt_is h2
            have hl := hq.2
            rw [B_line, List.append_assoc] at hl
            have h10 : (10 : UInt8) ∈ D := by rw [hl]; simp
            have hpre : D <+: B (Fb (Ej (n : Int) p.1 p.2.1)) := by
              have a1 : D <+: D ++ P := List.prefix_append D P
              have a2 : B (Fb (Ej (n : Int) p.1 p.2.1)) <+: D ++ P := by rw [hp.2, B_line, List.append_assoc]; exact List.prefix_append _ _
              refine List.prefix_of_prefix_length_le a1 a2 ?_
              rw [B_line, List.length_append] at hc
              simp at hc; omega
            exact sealed_no10 (by omega) hp.1 (hpre.subset h10)
        rw [F6 hno]
        simp only [hD, or_false, iff_false]
        intro hm
        rw [List.length_append] at hm
        rw [List.length_append] at hL
        rcases List.mem_cons.1 hm with e | e
        · omega
        · have := endsOf_ge d (n + 1) L p.2.2 (by omega) _ e
          omega
noncomputable def allOf (D P : ByteArray) : List RecT := (reads 60 0 (B D ++ B P)).1
noncomputable def logOk (D P : ByteArray) (c : Int) : Bool := decide ((reads 60 0 (B D ++ B P)).2 = []) && decide ((reads 60 0 (B D)).2 = []) && decide (((allOf D P).length : Int) = c)
theorem logOk_size {D P : ByteArray} {c : Int} (h : logOk D P c = true) : D.size + P.size ≤ 24360 := by
  unfold logOk at h
  simp only [Bool.and_eq_true, decide_eq_true_eq] at h
  have := reads_size 60 0 (B D ++ B P) (by omega)
  rw [h.1.1, List.length_append, Dw, Dw] at this
  simp at this; omega
theorem left_nil (l : List UInt8) (n : Nat) (hl : l.length ≤ n) : (((n : Int) - (l.length : Int)) = (n : Int)) = (l = []) := by
  apply propext
  constructor
  · intro h; exact List.length_eq_zero_iff.1 (by omega)
  · rintro rfl; simp
theorem specLog_ev (D P : ByteArray) (c : Int) (hD : D.size ≤ 1048576) (hP : P.size ≤ 1048576) : Ev (fun k => Em.f k D P c) (logOk D P c) := by
  unfold Em.f
  rw [wrap_id (x := (D.size : Int) + (P.size : Int)) (by omega) (by omega)]
  by_cases h : (D.size : Int) + (P.size : Int) > 30000
  · have : logOk D P c = false := by
      rw [Bool.eq_false_iff]; intro z; have := logOk_size z; omega
    rw [this]; exact ev_eq (fun k => if_pos h)
  · simp only [if_neg h, if_pos (show D.size + P.size ≤ 9223372036854775807 by omega)]
    have hs : (D ++ P).size = D.size + P.size := ByteArray.size_append
    refine Ev.bind (specOpen_ev (D ++ P) (by omega)) (Ev.bind (specOpen_ev D (by omega)) (ev_eq (fun k => ?_)))
    rw [F9, hs]
    have b1 := (Hm 60 0 (B D ++ B P)).2
    rw [List.length_append, Dw, Dw] at b1
    have b2 := (Hm 60 0 (B D)).2
    rw [Dw] at b2
    have e1 := left_nil (reads 60 0 (B D ++ B P)).2 (D.size + P.size) b1
    rw [Int.natCast_add] at e1
    have e2 := left_nil (reads 60 0 (B D)).2 D.size b2
    simp only [Int.natCast_add, e1, e2]
    unfold logOk allOf
    by_cases g1 : (reads 60 0 (B D ++ B P)).2 = []
    · by_cases g2 : (reads 60 0 (B D)).2 = []
      · rw [if_pos g1, if_pos g2, decide_eq_true g1, decide_eq_true g2]
        simp only [Bool.true_and, Option.some.injEq]
        rw [Bool.eq_iff_iff]; simp
      · rw [if_pos g1, if_neg g2, decide_eq_true g1, decide_eq_false g2]; rfl
    · rw [if_neg g1, decide_eq_false g1]; rfl
theorem implRecs_ev (D P : ByteArray) (c : Int) (hD : D.size ≤ 1048576) (hP : P.size ≤ 1048576) : Ev (fun k => Ec.f k D P c) (allOf D P, logOk D P c) := by
  unfold Ec.f
  have hs : (D ++ P).size = D.size + P.size := ByteArray.size_append
  simp only [if_pos (show D.size + P.size ≤ 9223372036854775807 by omega)]
  refine Ev.bind (implReads_ev (D ++ P) (by omega)) (ev_eq (fun k => ?_))
  rw [F9, hs]
  have b1 := (Hm 60 0 (B D ++ B P)).2
  rw [List.length_append, Dw, Dw] at b1
  have e1 := left_nil (reads 60 0 (B D ++ B P)).2 (D.size + P.size) b1
  simp only [Option.some.injEq, Prod.mk.injEq]
  refine ⟨rfl, ?_⟩
  have hm := mem_ends 60 0 (D.size + P.size) (B D) (B P) (by omega) (by rw [List.length_append, Dw, Dw]; exact Nat.le_refl _)
  rw [List.length_append, Dw, Dw, show ((D.size + P.size : Nat) : Int) - ((D.size + P.size : Nat) : Int) + (D.size : Int) = (D.size : Int) by omega] at hm
  have hm2 : (decide ((D.size : Int) ∈ 0 :: G7 (D.size + P.size) 60 0 (B D ++ B P))) = decide ((reads 60 0 (B D)).2 = []) := by
    rw [decide_eq_decide, ← hm, List.mem_cons]
    constructor
    · rintro (a | a)
      · exact .inr (List.length_eq_zero_iff.1 (by rw [Dw]; omega))
      · exact .inl a
    · rintro (a | a)
      · exact .inr a
      · have : D.size = 0 := by rw [← Dw, a]; rfl
        left; omega
  rw [hm2]
  unfold logOk allOf
  have e3 : ((((D.size + P.size : Nat) : Int) - ((reads 60 0 (B D ++ B P)).2.length : Int)) == ((D.size : Int) + (P.size : Int))) = decide ((reads 60 0 (B D ++ B P)).2 = []) := by
    rw [← Int.natCast_add, Bool.eq_iff_iff]
    simp only [beq_iff_eq, decide_eq_true_eq, e1]
  rw [e3]
  congr 1
  rw [Bool.eq_iff_iff]
  simp only [beq_iff_eq, decide_eq_true_eq]
  exact ⟨fun h => h.symm, fun h => h.symm⟩
end Go.Proofs.YtkpieljmhgfofaaDoor.X


-- written by a program of this session (wip/ext.py) out of the translation. Not trusted: Lean checks it.
namespace Go.Proofs.YtkpieljmhgfofaaDoor.X
open Go.RowKit Go.Proofs.YtkpieljmhgfofaaDoorW.PrintWords Go.Proofs.YtkpieljmhgfofaaDoorW.PrintLast Go.Proofs.YtkpieljmhgfofaaDoorW.PrintMore
attribute [local go_sem] max2_int min2_int max_two min_two max_three min_three max_four min_four   -- for this text's walks alone
open Go.Proofs.YtkpieljmhgfofaaDoorG
set_option linter.unusedVariables false
set_option linter.unusedSimpArgs false

def Ce.j0 : Nat → Bool → ByteArray → ByteArray → Int → ByteArray → ByteArray → Option (ByteArray × ByteArray × Int × Int)
  | 0, _, _, _, _, _, _ => none
  | k + 1, x6, x336000, x336001, x336002, x337000, x337001 => if x6 = true then (some (x336000, x336001, x336002, 1)) else (if x336002 = 60 then (some (x336000, x336001, x336002, 2)) else ((Bd.f k x336002 x337000 x337001).bind fun t340 => (if x336001.size + t340.size ≤ 9223372036854775807 then (some (x336000, x336001 ++ t340, wrap64 (x336002 + 1), 0)) else (none))))
def Ce.f (k : Nat) (a0_0 : ByteArray) (a0_1 : ByteArray) (a0_2 : Int) (a1_0 : ByteArray) (a1_1 : ByteArray) : Option (ByteArray × ByteArray × Int × Int) := (Cm.f k a0_0 a0_1 a0_2).bind fun t338 => (if t338 = true then ((Bi.f k a1_0 a1_1).bind fun t339 => (Ce.j0 k (!t339) a0_0 a0_1 a0_2 a1_0 a1_1)) else (Ce.j0 k true a0_0 a0_1 a0_2 a1_0 a1_1))
theorem Ce.Ee : ∀ k, (∀ y0 y1 y2 y3 y4 y5, LeO (Ce.j0 k y0 y1 y2 y3 y4 y5) (Ce.j0 (k + 1) y0 y1 y2 y3 y4 y5))
  | 0 => fun _ _ _ _ _ _ r h => by simp [Ce.j0] at h
  | k + 1 => by
    have ih0 := Ce.Ee k
    · intro y0 y1 y2 y3 y4 y5
      unfold Ce.j0
      repeat' first
      | (with_reducible exact ih0 _ _ _ _ _ _)
      | (with_reducible exact Cm.mono _ _ _ _)
      | (with_reducible exact Bi.mono _ _ _)
      | (with_reducible exact Bd.mono _ _ _ _)
      | (with_reducible exact LeO.refl _)
      | (with_reducible exact LeO.none _)
      | (with_reducible refine LeO.ite ?_ ?_)
      | (with_reducible refine LeO.bind ?_ (fun _ => ?_))
      | exact ih0 _ _ _ _ _ _
      | exact Cm.mono _ _ _ _
      | exact Bi.mono _ _ _
      | exact Bd.mono _ _ _ _
      | exact LeO.none _
      | refine LeO.ite ?_ ?_
      | refine LeO.bind ?_ (fun _ => ?_)
theorem Ce.mono : ∀ a0 a1 a2 a3 a4 k, LeO (Ce.f k a0 a1 a2 a3 a4) (Ce.f (k + 1) a0 a1 a2 a3 a4) := by
  intro a0 a1 a2 a3 a4 k
  have ih0 := Ce.Ee k
  unfold Ce.f
  repeat' first
      | (with_reducible exact ih0 _ _ _ _ _ _)
      | (with_reducible exact Cm.mono _ _ _ _)
      | (with_reducible exact Bi.mono _ _ _)
      | (with_reducible exact Bd.mono _ _ _ _)
      | (with_reducible exact LeO.refl _)
      | (with_reducible exact LeO.none _)
      | (with_reducible refine LeO.ite ?_ ?_)
      | (with_reducible refine LeO.bind ?_ (fun _ => ?_))
      | exact ih0 _ _ _ _ _ _
      | exact Cm.mono _ _ _ _
      | exact Bi.mono _ _ _
      | exact Bd.mono _ _ _ _
      | exact LeO.none _
      | refine LeO.ite ?_ ?_
      | refine LeO.bind ?_ (fun _ => ?_)
def Ce.T5 : Bool × List (List Nat × List Nat) := (true, [([], []), ([0], [0]), ([], []), ([2], [2]), ([], []), ([4], [4]), ([], []), ([5, 6], [5, 6]), ([3, 7], [3, 7]), ([], []), ([9], [9]), ([10], [10]), ([1, 8, 11], [1, 8, 11]), ([12, 7, 0, 1, 2, 3, 4, 5, 6, 7, 8, 9, 10, 11, 12], [12]), ([13, 0, 1, 2, 3, 4, 5, 6, 7, 8, 9, 10, 11, 12, 13], [])])
def Ce.B5 : List Nat := [0, 1, 0, 4, 0, 16, 0, 112, 252, 0, 512, 1536, 4095, 8191, 16383]
theorem Ce.tab5 : rtab .any (opsOf Tryd.f29 5) = Ce.T5 := by kernel_rfl
theorem Ce.bits5 : G9 Ce.T5.2 Ce.B5 = true := by kernel_rfl
set_option maxHeartbeats 8000000 in
set_option maxRecDepth 100000 in
theorem Ce.calls (k : Nat) (a0_0 : ByteArray) (a0_1 : ByteArray) (a0_2 : Int) (a1_0 : ByteArray) (a1_1 : ByteArray) (r1 : ByteArray) (r2 : ByteArray) (r3 : Int) (r4 : Int) (w : World) (hG : Ea w) (h : Ce.f k a0_0 a0_1 a0_2 a1_0 a1_1 = some (r1, r2, r3, r4)) :
    Calls Tryd.prog 29 #[.agg #[.string a0_0, .string a0_1, .int .i64 a0_2], .agg #[.string a1_0, .string a1_1]] w fun e w' => e = .returned (.tuple #[.agg #[.string r1, .string r2, .int .i64 r3], .int .i64 r4]) ∧ Below w.heap.size w w' := by
  have hu31 := Tryd.underlying31
  have hu27 := Tryd.underlying27
  have HGL := Aside0.mk hG
  clear hG
  have HB := Aside0.mk (Below.refl w.heap.size w)
  have H : ((Cm.f k a0_0 a0_1 a0_2).bind fun t338 => (if t338 = true then ((Bi.f k a1_0 a1_1).bind fun t339 => (Ce.j0 k (!t339) a0_0 a0_1 a0_2 a1_0 a1_1)) else (Ce.j0 k true a0_0 a0_1 a0_2 a1_0 a1_1))) = some (r1, r2, r3, r4) := h
  clear h
  have HC3 := Aside0.mk H
  clear H
  go_enter Tryd.func29, Tryd.ntmps29
  go_upto_region 1 with (first | ((with_reducible refine Az (N := 2) rfl ?_); refine Ba ?hg (N := 2) ?hd (cs := #[.string a0_0, .string a0_1, .int .i64 a0_2]) (t := 31) ?hr ?_; (case hd => rfl); (case hg => rfl); (case hr => first | (go_simp; done) | (go_simp; rfl)); intro gb335 hg w4 hbox hb; have n0_ := Aside0.mk (Ag (by repeat (first | (with_reducible first | exact HB.out | apply below_alloc | apply pw_below_drewN | apply below_drew1) | exact HB.out)) hb); have n1_ := Aside0.mk (hbox); have n2_ := Aside0.mk ((by rw [hg]; exact (Ah (by repeat (first | (with_reducible first | exact HB.out | apply below_alloc | apply pw_below_drewN | apply below_drew1) | exact HB.out))) : w.heap.size ≤ gb335)); have n3_ := Aside0.mk ((by rw [hg]; exact (Ah (by repeat (first | (with_reducible first | exact HB.out | apply below_alloc | apply pw_below_drewN | apply below_drew1) | exact HB.out))) : w.heap.size ≤ gb335)); clear HB; have HB := n0_; have BK335 := n1_; have GW335 := n2_; have GE335 := n3_; clear n0_ n1_ n2_ n3_; clear hb hbox hg) | ((with_reducible refine Az (N := 3) rfl ?_); refine Ba ?hg (N := 3) ?hd (cs := #[.string a1_0, .string a1_1]) (t := 27) ?hr ?_; (case hd => rfl); (case hg => rfl); (case hr => first | (go_simp; done) | (go_simp; rfl)); intro gb336 hg w5 hbox hb; have n0_ := Aside0.mk (Ak (g := gb335) (o := .cells #[.string a0_0, .string a0_1, .int .i64 a0_2] 31 (0, 0)) (by (with_reducible repeat (first | refine Ac ?_ _ | refine Ad ?_ | refine Aa ?_ _)); exact BK335.out) hb); have n1_ := Aside0.mk (Ag (by repeat (first | (with_reducible first | exact HB.out | apply below_alloc | apply pw_below_drewN | apply below_drew1 | refine below_set ?_ GE335.out) | exact HB.out)) hb); have n2_ := Aside0.mk (hbox); have n3_ := Aside0.mk ((by rw [hg]; exact (Ah (by repeat (first | (with_reducible first | exact HB.out | apply below_alloc | apply pw_below_drewN | apply below_drew1 | refine below_set ?_ GE335.out) | exact HB.out))) : w.heap.size ≤ gb336)); have n4_ := Aside0.mk ((by rw [hg]; exact (Ah (by repeat (first | (with_reducible first | exact HB.out | apply below_alloc | apply pw_below_drewN | apply below_drew1 | refine below_set ?_ GE335.out) | exact HB.out))) : w.heap.size ≤ gb336)); have n5_ := Aside0.mk ((by rw [hg]; exact Nat.ne_of_lt (Cf (g := gb335) (o := .cells #[.string a0_0, .string a0_1, .int .i64 a0_2] 31 (0, 0)) (by (with_reducible repeat (first | refine Ac ?_ _ | refine Ad ?_ | refine Aa ?_ _)); exact BK335.out)) : gb335 ≠ gb336)); have n6_ := Aside0.mk ((by rw [hg]; exact Nat.ne_of_gt (Cf (g := gb335) (o := .cells #[.string a0_0, .string a0_1, .int .i64 a0_2] 31 (0, 0)) (by (with_reducible repeat (first | refine Ac ?_ _ | refine Ad ?_ | refine Aa ?_ _)); exact BK335.out)) : gb336 ≠ gb335)); clear BK335; clear HB; have BK335 := n0_; have HB := n1_; have BK336 := n2_; have GW336 := n3_; have GE336 := n4_; have NB335_336 := n5_; have NB336_335 := n6_; clear n0_ n1_ n2_ n3_ n4_ n5_ n6_; clear hb hbox hg) | ((with_reducible refine Az (N := 4) rfl ?_); refine Ba ?hg (N := 4) ?hd (cs := #[.string (⟨#[]⟩ : ByteArray), .string (⟨#[]⟩ : ByteArray), .int .i64 0]) (t := 31) ?hr ?_; (case hd => rfl); (case hg => rfl); (case hr => first | (go_simp; done) | (go_simp; rfl)); intro gb337 hg w6 hbox hb; have n0_ := Aside0.mk (Ak (g := gb335) (o := .cells #[.string a0_0, .string a0_1, .int .i64 a0_2] 31 (0, 0)) (by (with_reducible repeat (first | refine Ac ?_ _ | refine Ad ?_ | refine Aa ?_ _)); exact BK335.out) hb); have n1_ := Aside0.mk (Ak (g := gb336) (o := .cells #[.string a1_0, .string a1_1] 27 (0, 0)) (by (with_reducible repeat (first | refine Ac ?_ _ | refine Ad ?_ | refine Aa ?_ _)); exact BK336.out) hb); have n2_ := Aside0.mk (Ag (by repeat (first | (with_reducible first | exact HB.out | apply below_alloc | apply pw_below_drewN | apply below_drew1 | refine below_set ?_ GE335.out | refine below_set ?_ GE336.out) | exact HB.out)) hb); have n3_ := Aside0.mk (hbox); have n4_ := Aside0.mk ((by rw [hg]; exact (Ah (by repeat (first | (with_reducible first | exact HB.out | apply below_alloc | apply pw_below_drewN | apply below_drew1 | refine below_set ?_ GE335.out | refine below_set ?_ GE336.out) | exact HB.out))) : w.heap.size ≤ gb337)); have n5_ := Aside0.mk ((by rw [hg]; exact (Ah (by repeat (first | (with_reducible first | exact HB.out | apply below_alloc | apply pw_below_drewN | apply below_drew1 | refine below_set ?_ GE335.out | refine below_set ?_ GE336.out) | exact HB.out))) : w.heap.size ≤ gb337)); have n6_ := Aside0.mk ((by rw [hg]; exact Nat.ne_of_lt (Cf (g := gb335) (o := .cells #[.string a0_0, .string a0_1, .int .i64 a0_2] 31 (0, 0)) (by (with_reducible repeat (first | refine Ac ?_ _ | refine Ad ?_ | refine Aa ?_ _)); exact BK335.out)) : gb335 ≠ gb337)); have n7_ := Aside0.mk ((by rw [hg]; exact Nat.ne_of_gt (Cf (g := gb335) (o := .cells #[.string a0_0, .string a0_1, .int .i64 a0_2] 31 (0, 0)) (by (with_reducible repeat (first | refine Ac ?_ _ | refine Ad ?_ | refine Aa ?_ _)); exact BK335.out)) : gb337 ≠ gb335)); have n8_ := Aside0.mk ((by rw [hg]; exact Nat.ne_of_lt (Cf (g := gb336) (o := .cells #[.string a1_0, .string a1_1] 27 (0, 0)) (by (with_reducible repeat (first | refine Ac ?_ _ | refine Ad ?_ | refine Aa ?_ _)); exact BK336.out)) : gb336 ≠ gb337)); have n9_ := Aside0.mk ((by rw [hg]; exact Nat.ne_of_gt (Cf (g := gb336) (o := .cells #[.string a1_0, .string a1_1] 27 (0, 0)) (by (with_reducible repeat (first | refine Ac ?_ _ | refine Ad ?_ | refine Aa ?_ _)); exact BK336.out)) : gb337 ≠ gb336)); clear BK335; clear BK336; clear HB; have BK335 := n0_; have BK336 := n1_; have HB := n2_; have BK337 := n3_; have GW337 := n4_; have GE337 := n5_; have NB335_337 := n6_; have NB337_335 := n7_; have NB336_337 := n8_; have NB337_336 := n9_; clear n0_ n1_ n2_ n3_ n4_ n5_ n6_ n7_ n8_ n9_; clear hb hbox hg))
  (try simp only [Act.put, List.setIfInBounds_toArray, List.set_cons_zero, List.set_cons_succ])
  go_cut [6] (fun v6 wc => ∃ (kq : Nat) (x6_2 : Bool), v6 = .bool x6_2 ∧ Aside0 (Ce.j0 kq x6_2 a0_0 a0_1 a0_2 a1_0 a1_1 = some (r1, r2, r3, r4)) ∧ Aside0 (kq ≤ k) ∧ Aside0 (wc.heap[gb335]? = some (.cells #[.string a0_0, .string a0_1, .int .i64 a0_2] 31 (0, 0))) ∧ Aside0 (wc.heap[gb336]? = some (.cells #[.string a1_0, .string a1_1] 27 (0, 0))) ∧ Aside0 (wc.heap[gb337]? = some (.cells #[.string (⟨#[]⟩ : ByteArray), .string (⟨#[]⟩ : ByteArray), .int .i64 0] 31 (0, 0))) ∧ Aside0 (Below w.heap.size w wc))
  case first =>
    have H := HC3.out
    clear HC3
    replace H := Option.bind_eq_some_iff.mp H
    obtain ⟨t338, A70, H⟩ := H
    replace H : (if t338 = true then ((Bi.f k a1_0 a1_1).bind fun t339 => (Ce.j0 k (!t339) a0_0 a0_1 a0_2 a1_0 a1_1)) else (Ce.j0 k true a0_0 a0_1 a0_2 a1_0 a1_1)) = some (r1, r2, r3, r4) := H
    have A7 := Aside0.mk A70
    clear A70
    by_cases c8 : t338 = true
    · subst c8
      have H1 : ((Bi.f k a1_0 a1_1).bind fun t339 => (Ce.j0 k (!t339) a0_0 a0_1 a0_2 a1_0 a1_1)) = some (r1, r2, r3, r4) := by rw [if_pos rfl] at H; exact H
      clear H
      have H := H1
      clear H1
      replace H := Option.bind_eq_some_iff.mp H
      obtain ⟨t339, A90, H⟩ := H
      replace H : (Ce.j0 k (!t339) a0_0 a0_1 a0_2 a1_0 a1_1) = some (r1, r2, r3, r4) := H
      have A9 := Aside0.mk A90
      clear A90
      have H' := Aside0.mk H
      clear H
      have hnb10 := NB335_336.out
      have hnc10 := NB336_335.out
      have hnb11 := NB335_337.out
      have hnc11 := NB337_335.out
      have hcz12_0 : w6.cell? ⟨gb335, 0, none⟩ = some (.string a0_0) := (Af BK335.out 0).trans rfl
      have hcz12_1 : w6.cell? ⟨gb335, 1, none⟩ = some (.string a0_1) := (Af BK335.out 1).trans rfl
      have hcz12_2 : w6.cell? ⟨gb335, 2, none⟩ = some (.int .i64 a0_2) := (Af BK335.out 2).trans rfl
      have hfz12_0 := Ae BK335.out 0
      have hfz12_1 := Ae BK335.out 1
      have hfz12_2 := Ae BK335.out 2
      go_wp2_with (first | ((with_reducible refine Am (f := 23) rfl ?_); refine Au (some 8) rfl rfl Tryd.func23 (by kernel_rfl) rfl #[.agg #[.string a0_0, .string a0_1, .int .i64 a0_2]] rfl (by (try simp only [List.map_toArray, List.map_cons, List.map_nil]); first | done | rfl | (simp only [List.length_drop, List.length_take]; rfl)) ?_; (with_reducible refine (Cm.calls k a0_0 a0_1 a0_2 true _ ?side1 A7.out).mono ?_); (case side1 => exact Ea.below HGL.out (by repeat (first | (with_reducible first | exact HB.out | apply below_alloc | apply pw_below_drewN | apply below_drew1 | refine below_set ?_ GE335.out | refine below_set ?_ GE336.out | refine below_set ?_ GE337.out) | exact HB.out))); rintro e w13 ⟨rfl, hb⟩; refine ⟨_, rfl, ?_⟩; have n0_ := Aside0.mk (Ak (g := gb335) (o := .cells #[.string a0_0, .string a0_1, .int .i64 a0_2] 31 (0, 0)) (by (with_reducible repeat (first | refine Ac ?_ _ | refine Ad ?_ | refine Aa ?_ _)); exact BK335.out) hb); have n1_ := Aside0.mk (Ak (g := gb336) (o := .cells #[.string a1_0, .string a1_1] 27 (0, 0)) (by (with_reducible repeat (first | refine Ac ?_ _ | refine Ad ?_ | refine Aa ?_ _)); exact BK336.out) hb); have n2_ := Aside0.mk (Ak (g := gb337) (o := .cells #[.string (⟨#[]⟩ : ByteArray), .string (⟨#[]⟩ : ByteArray), .int .i64 0] 31 (0, 0)) (by (with_reducible repeat (first | refine Ac ?_ _ | refine Ad ?_ | refine Aa ?_ _)); exact BK337.out) hb); have n3_ := Aside0.mk (Ag (by repeat (first | (with_reducible first | exact HB.out | apply below_alloc | apply pw_below_drewN | apply below_drew1 | refine below_set ?_ GE335.out | refine below_set ?_ GE336.out | refine below_set ?_ GE337.out) | exact HB.out)) hb); clear BK335; clear BK336; clear BK337; clear HB; have BK335 := n0_; have BK336 := n1_; have BK337 := n2_; have HB := n3_; clear n0_ n1_ n2_ n3_; (try clear hb); (try clear hb2); (try clear hk); (try clear hi); have hnb14 := NB336_337.out; have hnc14 := NB337_336.out; have hcz15_0 : w13.cell? ⟨gb336, 0, none⟩ = some (.string a1_0) := (Af BK336.out 0).trans rfl; have hcz15_1 : w13.cell? ⟨gb336, 1, none⟩ = some (.string a1_1) := (Af BK336.out 1).trans rfl; have hfz15_0 := Ae BK336.out 0; have hfz15_1 := Ae BK336.out 1) | (go_at_call 37; (with_reducible refine (Bi.calls k a1_0 a1_1 t339 _ A9.out).mono ?_); rintro e w16 ⟨rfl, hb⟩; have n0_ := Aside0.mk (Ak (g := gb335) (o := .cells #[.string a0_0, .string a0_1, .int .i64 a0_2] 31 (0, 0)) (by (with_reducible repeat (first | refine Ac ?_ _ | refine Ad ?_ | refine Aa ?_ _)); exact BK335.out) hb); have n1_ := Aside0.mk (Ak (g := gb336) (o := .cells #[.string a1_0, .string a1_1] 27 (0, 0)) (by (with_reducible repeat (first | refine Ac ?_ _ | refine Ad ?_ | refine Aa ?_ _)); exact BK336.out) hb); have n2_ := Aside0.mk (Ak (g := gb337) (o := .cells #[.string (⟨#[]⟩ : ByteArray), .string (⟨#[]⟩ : ByteArray), .int .i64 0] 31 (0, 0)) (by (with_reducible repeat (first | refine Ac ?_ _ | refine Ad ?_ | refine Aa ?_ _)); exact BK337.out) hb); have n3_ := Aside0.mk (Ag (by repeat (first | (with_reducible first | exact HB.out | apply below_alloc | apply pw_below_drewN | apply below_drew1 | refine below_set ?_ GE335.out | refine below_set ?_ GE336.out | refine below_set ?_ GE337.out) | exact HB.out)) hb); clear BK335; clear BK336; clear BK337; clear HB; have BK335 := n0_; have BK336 := n1_; have BK337 := n2_; have HB := n3_; clear n0_ n1_ n2_ n3_; (try clear hb); (try clear hb2); (try clear hk); (try clear hi)))
      go_meet
      case rel => exact ⟨_, (!t339), (by first | rfl | (simp; done) | (simp [*]; done)), H', ⟨by first | omega | exact Nat.le_refl _⟩, ⟨by (with_reducible repeat (first | refine Ac ?_ _ | refine Ad ?_ | refine Aa ?_ _)); exact BK335.out⟩, ⟨by (with_reducible repeat (first | refine Ac ?_ _ | refine Ad ?_ | refine Aa ?_ _)); exact BK336.out⟩, ⟨by (with_reducible repeat (first | refine Ac ?_ _ | refine Ad ?_ | refine Aa ?_ _)); exact BK337.out⟩, ⟨by repeat (first | (with_reducible first | exact HB.out | apply below_alloc | apply pw_below_drewN | apply below_drew1 | refine below_set ?_ GE335.out | refine below_set ?_ GE336.out | refine below_set ?_ GE337.out) | exact HB.out)⟩⟩
    · replace c8 := Bool.eq_false_iff.mpr c8
      subst c8
      have H1 : (Ce.j0 k true a0_0 a0_1 a0_2 a1_0 a1_1) = some (r1, r2, r3, r4) := by rw [if_neg (show ¬ (false = true) by decide)] at H; exact H
      clear H
      have H := H1
      clear H1
      have H' := Aside0.mk H
      clear H
      have hnb17 := NB335_336.out
      have hnc17 := NB336_335.out
      have hnb18 := NB335_337.out
      have hnc18 := NB337_335.out
      have hcz19_0 : w6.cell? ⟨gb335, 0, none⟩ = some (.string a0_0) := (Af BK335.out 0).trans rfl
      have hcz19_1 : w6.cell? ⟨gb335, 1, none⟩ = some (.string a0_1) := (Af BK335.out 1).trans rfl
      have hcz19_2 : w6.cell? ⟨gb335, 2, none⟩ = some (.int .i64 a0_2) := (Af BK335.out 2).trans rfl
      have hfz19_0 := Ae BK335.out 0
      have hfz19_1 := Ae BK335.out 1
      have hfz19_2 := Ae BK335.out 2
      go_wp2_with (first | ((with_reducible refine Am (f := 23) rfl ?_); refine Au (some 8) rfl rfl Tryd.func23 (by kernel_rfl) rfl #[.agg #[.string a0_0, .string a0_1, .int .i64 a0_2]] rfl (by (try simp only [List.map_toArray, List.map_cons, List.map_nil]); first | done | rfl | (simp only [List.length_drop, List.length_take]; rfl)) ?_; (with_reducible refine (Cm.calls k a0_0 a0_1 a0_2 false _ ?side1 A7.out).mono ?_); (case side1 => exact Ea.below HGL.out (by repeat (first | (with_reducible first | exact HB.out | apply below_alloc | apply pw_below_drewN | apply below_drew1 | refine below_set ?_ GE335.out | refine below_set ?_ GE336.out | refine below_set ?_ GE337.out) | exact HB.out))); rintro e w20 ⟨rfl, hb⟩; refine ⟨_, rfl, ?_⟩; have n0_ := Aside0.mk (Ak (g := gb335) (o := .cells #[.string a0_0, .string a0_1, .int .i64 a0_2] 31 (0, 0)) (by (with_reducible repeat (first | refine Ac ?_ _ | refine Ad ?_ | refine Aa ?_ _)); exact BK335.out) hb); have n1_ := Aside0.mk (Ak (g := gb336) (o := .cells #[.string a1_0, .string a1_1] 27 (0, 0)) (by (with_reducible repeat (first | refine Ac ?_ _ | refine Ad ?_ | refine Aa ?_ _)); exact BK336.out) hb); have n2_ := Aside0.mk (Ak (g := gb337) (o := .cells #[.string (⟨#[]⟩ : ByteArray), .string (⟨#[]⟩ : ByteArray), .int .i64 0] 31 (0, 0)) (by (with_reducible repeat (first | refine Ac ?_ _ | refine Ad ?_ | refine Aa ?_ _)); exact BK337.out) hb); have n3_ := Aside0.mk (Ag (by repeat (first | (with_reducible first | exact HB.out | apply below_alloc | apply pw_below_drewN | apply below_drew1 | refine below_set ?_ GE335.out | refine below_set ?_ GE336.out | refine below_set ?_ GE337.out) | exact HB.out)) hb); clear BK335; clear BK336; clear BK337; clear HB; have BK335 := n0_; have BK336 := n1_; have BK337 := n2_; have HB := n3_; clear n0_ n1_ n2_ n3_; (try clear hb); (try clear hb2); (try clear hk); (try clear hi)))
      go_meet
      case rel => exact ⟨_, (true), (by first | rfl | (simp; done) | (simp [*]; done)), H', ⟨by first | omega | exact Nat.le_refl _⟩, ⟨by (with_reducible repeat (first | refine Ac ?_ _ | refine Ad ?_ | refine Aa ?_ _)); exact BK335.out⟩, ⟨by (with_reducible repeat (first | refine Ac ?_ _ | refine Ad ?_ | refine Aa ?_ _)); exact BK336.out⟩, ⟨by (with_reducible repeat (first | refine Ac ?_ _ | refine Ad ?_ | refine Aa ?_ _)); exact BK337.out⟩, ⟨by repeat (first | (with_reducible first | exact HB.out | apply below_alloc | apply pw_below_drewN | apply below_drew1 | refine below_set ?_ GE335.out | refine below_set ?_ GE336.out | refine below_set ?_ GE337.out) | exact HB.out)⟩⟩
  case rest =>
    clear HC3
    try clear c1
    try clear c2
    try clear p2
    try clear c8
    try clear c10
    try clear c11
    try clear c14
    try clear c17
    try clear c18
    try clear hcz12_0
    try clear hcz12_1
    try clear hcz12_2
    try clear hcz15_0
    try clear hcz15_1
    try clear hcz19_0
    try clear hcz19_1
    try clear hcz19_2
    try clear hfz12_0
    try clear hfz12_1
    try clear hfz12_2
    try clear hfz15_0
    try clear hfz15_1
    try clear hfz19_0
    try clear hfz19_1
    try clear hfz19_2
    obtain ⟨kq, x6_2, rfl, HA, HJ2, BK335, BK336, BK337, HB⟩ := hcut
    cases kq with
    | zero => exact absurd HA.out (by simp [Ce.j0])
    | succ kj2 =>
      have H := HA.out
      clear HA
      simp only [Ce.j0] at H
      by_cases c21 : x6_2 = true
      · subst c21
        have H1 : (some (a0_0, a0_1, a0_2, 1)) = some (r1, r2, r3, r4) := by rw [if_pos rfl] at H; exact H
        clear H
        have H := H1
        clear H1
        simp only [Option.some.injEq, Prod.mk.injEq] at H
        obtain ⟨rfl, rfl, rfl, rfl⟩ := H
        have hnb22 := NB335_336.out
        have hnc22 := NB336_335.out
        have hnb23 := NB335_337.out
        have hnc23 := NB337_335.out
        have hcz24_0 : wc.cell? ⟨gb335, 0, none⟩ = some (.string a0_0) := (Af BK335.out 0).trans rfl
        have hcz24_1 : wc.cell? ⟨gb335, 1, none⟩ = some (.string a0_1) := (Af BK335.out 1).trans rfl
        have hcz24_2 : wc.cell? ⟨gb335, 2, none⟩ = some (.int .i64 a0_2) := (Af BK335.out 2).trans rfl
        have hfz24_0 := Ae BK335.out 0
        have hfz24_1 := Ae BK335.out 1
        have hfz24_2 := Ae BK335.out 2
        have hnb25 := NB337_336.out
        have hnc25 := NB336_337.out
        have hcz26_0 : wc.cell? ⟨gb337, 0, none⟩ = some (.string (⟨#[]⟩ : ByteArray)) := (Af BK337.out 0).trans rfl
        have hcz26_1 : wc.cell? ⟨gb337, 1, none⟩ = some (.string (⟨#[]⟩ : ByteArray)) := (Af BK337.out 1).trans rfl
        have hcz26_2 : wc.cell? ⟨gb337, 2, none⟩ = some (.int .i64 0) := (Af BK337.out 2).trans rfl
        have hfz26_0 := Ae BK337.out 0
        have hfz26_1 := Ae BK337.out 1
        have hfz26_2 := Ae BK337.out 2
        go_wp2
        refine bodyPost_ret (Fq rfl _ _ gb337 31 #[.string a0_0, .string a0_1, .int .i64 a0_2] (0, 0) _ rfl (by (with_reducible repeat (first | refine Ac ?_ _ | refine Ad ?_ | refine Aa ?_ _)); refine Ar (cs := #[.string a0_0, .string a0_1, .int .i64 0]) ?_ 2 _ rfl; (with_reducible repeat (first | refine Ac ?_ _ | refine Ad ?_ | refine Aa ?_ _)); refine Ar (cs := #[.string a0_0, .string (⟨#[]⟩ : ByteArray), .int .i64 0]) ?_ 1 _ rfl; (with_reducible repeat (first | refine Ac ?_ _ | refine Ad ?_ | refine Aa ?_ _)); refine Ar (cs := #[.string (⟨#[]⟩ : ByteArray), .string (⟨#[]⟩ : ByteArray), .int .i64 0]) ?_ 0 _ rfl; (with_reducible repeat (first | refine Ac ?_ _ | refine Ad ?_ | refine Aa ?_ _)); exact BK337.out) Tryd.underlying31 rfl (by kernel_rfl)) rfl ?_
        exact ⟨by first | rfl | (simp [Aj, Ai] <;> rfl) | (simp [*, Aj, Ai] <;> rfl), by repeat (first | (with_reducible first | exact HB.out | apply below_alloc | apply pw_below_drewN | apply below_drew1 | refine below_set ?_ GE335.out | refine below_set ?_ GE336.out | refine below_set ?_ GE337.out) | exact HB.out)⟩
      · replace c21 := Bool.eq_false_iff.mpr c21
        subst c21
        have H1 : (if a0_2 = 60 then (some (a0_0, a0_1, a0_2, 2)) else ((Bd.f kj2 a0_2 a1_0 a1_1).bind fun t340 => (if a0_1.size + t340.size ≤ 9223372036854775807 then (some (a0_0, a0_1 ++ t340, wrap64 (a0_2 + 1), 0)) else (none)))) = some (r1, r2, r3, r4) := by rw [if_neg (show ¬ (false = true) by decide)] at H; exact H
        clear H
        have H := H1
        clear H1
        by_cases c27 : a0_2 = 60
        · rw [if_pos c27] at H
          have c27b0 : (a0_2 == 60) = true := beq_iff_eq.mpr c27
          have c27b1 : (a0_2 != 60) = false := bne_eq_false_iff_eq.mpr c27
          clear c27
          simp only [Option.some.injEq, Prod.mk.injEq] at H
          obtain ⟨rfl, rfl, rfl, rfl⟩ := H
          have hnb28 := NB335_336.out
          have hnc28 := NB336_335.out
          have hnb29 := NB335_337.out
          have hnc29 := NB337_335.out
          have hcz30_0 : wc.cell? ⟨gb335, 0, none⟩ = some (.string a0_0) := (Af BK335.out 0).trans rfl
          have hcz30_1 : wc.cell? ⟨gb335, 1, none⟩ = some (.string a0_1) := (Af BK335.out 1).trans rfl
          have hcz30_2 : wc.cell? ⟨gb335, 2, none⟩ = some (.int .i64 a0_2) := (Af BK335.out 2).trans rfl
          have hfz30_0 := Ae BK335.out 0
          have hfz30_1 := Ae BK335.out 1
          have hfz30_2 := Ae BK335.out 2
          have hnb31 := NB337_336.out
          have hnc31 := NB336_337.out
          have hcz32_0 : wc.cell? ⟨gb337, 0, none⟩ = some (.string (⟨#[]⟩ : ByteArray)) := (Af BK337.out 0).trans rfl
          have hcz32_1 : wc.cell? ⟨gb337, 1, none⟩ = some (.string (⟨#[]⟩ : ByteArray)) := (Af BK337.out 1).trans rfl
          have hcz32_2 : wc.cell? ⟨gb337, 2, none⟩ = some (.int .i64 0) := (Af BK337.out 2).trans rfl
          have hfz32_0 := Ae BK337.out 0
          have hfz32_1 := Ae BK337.out 1
          have hfz32_2 := Ae BK337.out 2
          go_wp2
          refine bodyPost_ret (Fq rfl _ _ gb337 31 #[.string a0_0, .string a0_1, .int .i64 a0_2] (0, 0) _ rfl (by (with_reducible repeat (first | refine Ac ?_ _ | refine Ad ?_ | refine Aa ?_ _)); refine Ar (cs := #[.string a0_0, .string a0_1, .int .i64 0]) ?_ 2 _ rfl; (with_reducible repeat (first | refine Ac ?_ _ | refine Ad ?_ | refine Aa ?_ _)); refine Ar (cs := #[.string a0_0, .string (⟨#[]⟩ : ByteArray), .int .i64 0]) ?_ 1 _ rfl; (with_reducible repeat (first | refine Ac ?_ _ | refine Ad ?_ | refine Aa ?_ _)); refine Ar (cs := #[.string (⟨#[]⟩ : ByteArray), .string (⟨#[]⟩ : ByteArray), .int .i64 0]) ?_ 0 _ rfl; (with_reducible repeat (first | refine Ac ?_ _ | refine Ad ?_ | refine Aa ?_ _)); exact BK337.out) Tryd.underlying31 rfl (by kernel_rfl)) rfl ?_
          exact ⟨by first | rfl | (simp [Aj, Ai] <;> rfl) | (simp [*, Aj, Ai] <;> rfl), by repeat (first | (with_reducible first | exact HB.out | apply below_alloc | apply pw_below_drewN | apply below_drew1 | refine below_set ?_ GE335.out | refine below_set ?_ GE336.out | refine below_set ?_ GE337.out) | exact HB.out)⟩
        · rw [if_neg c27] at H
          have c27b0 : (a0_2 == 60) = false := beq_eq_false_iff_ne.mpr c27
          have c27b1 : (a0_2 != 60) = true := bne_iff_ne.mpr c27
          replace H := Option.bind_eq_some_iff.mp H
          obtain ⟨t340, A330, H⟩ := H
          replace H : (if a0_1.size + t340.size ≤ 9223372036854775807 then (some (a0_0, a0_1 ++ t340, wrap64 (a0_2 + 1), 0)) else (none)) = some (r1, r2, r3, r4) := H
          have A33 := Aside0.mk A330
          clear A330
          by_cases c34 : a0_1.size + t340.size ≤ 9223372036854775807
          · rw [if_pos c34] at H
            have c34b0 := eq_true c34
            have c34b1 : decide (a0_1.size + t340.size ≤ 9223372036854775807) = true := decide_eq_true c34
            try have c34b2 : (9223372036854775807 < a0_1.size + t340.size) = False := eq_false (Nat.not_lt.2 c34)
            simp only [Option.some.injEq, Prod.mk.injEq] at H
            obtain ⟨rfl, rfl, rfl, rfl⟩ := H
            have hnb35 := NB335_336.out
            have hnc35 := NB336_335.out
            have hnb36 := NB335_337.out
            have hnc36 := NB337_335.out
            have hcz37_0 : wc.cell? ⟨gb335, 0, none⟩ = some (.string a0_0) := (Af BK335.out 0).trans rfl
            have hcz37_1 : wc.cell? ⟨gb335, 1, none⟩ = some (.string a0_1) := (Af BK335.out 1).trans rfl
            have hcz37_2 : wc.cell? ⟨gb335, 2, none⟩ = some (.int .i64 a0_2) := (Af BK335.out 2).trans rfl
            have hfz37_0 := Ae BK335.out 0
            have hfz37_1 := Ae BK335.out 1
            have hfz37_2 := Ae BK335.out 2
            try go_wp2
            have n0_ := Aside0.mk (Ad BK335.out)
            have n1_ := Aside0.mk (Ad BK336.out)
            have n2_ := Aside0.mk (Ad BK337.out)
            have n3_ := Aside0.mk (below_drew1 HB.out)
            clear BK335
            clear BK336
            clear BK337
            clear HB
            have BK335 := n0_
            have BK336 := n1_
            have BK337 := n2_
            have HB := n3_
            clear n0_ n1_ n2_ n3_
            refine start_ (n := 15) (S := fun w' => w'.cell? ⟨gb335, 0, none⟩ = some (.string a0_0) ∧ w'.cell? ⟨gb335, 1, none⟩ = some (.string a0_1) ∧ w'.cell? ⟨gb335, 2, none⟩ = some (.int .i64 a0_2) ∧ w'.cell? ⟨gb336, 0, none⟩ = some (.string a1_0) ∧ w'.cell? ⟨gb336, 1, none⟩ = some (.string a1_1)) (ds := []) #[false, false, false, false, false, false, false, false, false, false, false, false, false, false, false] (by kernel_rfl) rfl rfl ⟨(Af BK335.out 0).trans rfl, (Af BK335.out 1).trans rfl, (Af BK335.out 2).trans rfl, (Af BK336.out 0).trans rfl, (Af BK336.out 1).trans rfl⟩ (fun hHeld => ?_); refine Gy Ce.tab5 Ce.bits5 (fun HT_ HW_ => ?_)
            generalize wc.drew = w38 at BK335 BK336 BK337 HB hHeld ⊢
            refine D6 (i := 0) (N := some 21) (v := ?_) (a' := ?_) #[true, false, false, false, false, false, false, false, false, false, false, false, false, false, false] rfl rfl (Dt HT_.out (by kernel_rfl)) (fun _ _ _ h => h) (Or.inl ⟨by rfl, ?_⟩) ?_ ?_
            rotate_left
            · intro w'
              go_simp
              with_reducible rfl
            rotate_left
            · simp only [Act.put, List.setIfInBounds_toArray, List.set_cons_zero, List.set_cons_succ, Cj, C9]
              rfl
            refine D6 (i := 2) (N := some 23) (v := ?_) (a' := ?_) #[true, false, true, false, false, false, false, false, false, false, false, false, false, false, false] rfl rfl (Dt HT_.out (by kernel_rfl)) (fun _ _ _ h => h) (Or.inl ⟨by rfl, ?_⟩) ?_ ?_
            rotate_left
            · intro w'
              go_simp
              with_reducible rfl
            rotate_left
            · simp only [Act.put, List.setIfInBounds_toArray, List.set_cons_zero, List.set_cons_succ, Cj, C9]
              rfl
            refine D6 (i := 4) (N := some 25) (v := ?_) (a' := ?_) #[true, false, true, false, true, false, false, false, false, false, false, false, false, false, false] rfl rfl (Dt HT_.out (by kernel_rfl)) (fun _ _ _ h => h) (Or.inl ⟨by rfl, ?_⟩) ?_ ?_
            rotate_left
            · intro w'
              go_simp
              with_reducible rfl
            rotate_left
            · simp only [Act.put, List.setIfInBounds_toArray, List.set_cons_zero, List.set_cons_succ, Cj, C9]
              rfl
            refine D6 (i := 9) (N := some 30) (v := ?_) (a' := ?_) #[true, false, true, false, true, false, false, false, false, true, false, false, false, false, false] rfl rfl (Dt HT_.out (by kernel_rfl)) (fun _ _ _ h => h) (Or.inl ⟨by rfl, ?_⟩) ?_ ?_
            rotate_left
            · intro w'
              go_simp
              with_reducible rfl
            rotate_left
            · simp only [Act.put, List.setIfInBounds_toArray, List.set_cons_zero, List.set_cons_succ, Cj, C9]
              rfl
            refine Gn (i := 1) (N := some 22) (v := ?_) (a' := ?_) #[true, true, true, false, true, false, false, false, false, true, false, false, false, false, false] rfl rfl (Fh HT_.out HW_.out (by kernel_rfl)) (fun _ _ _ h => h) (Or.inl ⟨by rfl, ?_⟩) hHeld ?_ ?_
            rotate_left
            · rintro w' ⟨s0, s1, s2, s3, s4⟩
              go_simp
              with_reducible rfl
            rotate_left
            · simp only [Act.put, List.setIfInBounds_toArray, List.set_cons_zero, List.set_cons_succ, Cj, C9]
              rfl
            refine Gn (i := 3) (N := some 24) (v := ?_) (a' := ?_) #[true, true, true, true, true, false, false, false, false, true, false, false, false, false, false] rfl rfl (Fh HT_.out HW_.out (by kernel_rfl)) (fun _ _ _ h => h) (Or.inl ⟨by rfl, ?_⟩) hHeld ?_ ?_
            rotate_left
            · rintro w' ⟨s0, s1, s2, s3, s4⟩
              go_simp
              with_reducible rfl
            rotate_left
            · simp only [Act.put, List.setIfInBounds_toArray, List.set_cons_zero, List.set_cons_succ, Cj, C9]
              rfl
            refine Gn (i := 5) (N := some 26) (v := ?_) (a' := ?_) #[true, true, true, true, true, true, false, false, false, true, false, false, false, false, false] rfl rfl (Fh HT_.out HW_.out (by kernel_rfl)) (fun _ _ _ h => h) (Or.inl ⟨by rfl, ?_⟩) hHeld ?_ ?_
            rotate_left
            · rintro w' ⟨s0, s1, s2, s3, s4⟩
              go_simp
              with_reducible rfl
            rotate_left
            · simp only [Act.put, List.setIfInBounds_toArray, List.set_cons_zero, List.set_cons_succ, Cj, C9]
              rfl
            refine Gn (i := 6) (N := some 27) (v := ?_) (a' := ?_) #[true, true, true, true, true, true, true, false, false, true, false, false, false, false, false] rfl rfl (Fh HT_.out HW_.out (by kernel_rfl)) (fun _ _ _ h => h) (Or.inl ⟨by rfl, ?_⟩) hHeld ?_ ?_
            rotate_left
            · rintro w' ⟨s0, s1, s2, s3, s4⟩
              go_simp
              with_reducible rfl
            rotate_left
            · simp only [Act.put, List.setIfInBounds_toArray, List.set_cons_zero, List.set_cons_succ, Cj, C9]
              rfl
            refine Gn (i := 10) (N := some 31) (v := ?_) (a' := ?_) #[true, true, true, true, true, true, true, false, false, true, true, false, false, false, false] rfl rfl (Fh HT_.out HW_.out (by kernel_rfl)) (fun _ _ _ h => h) (Or.inl ⟨by rfl, ?_⟩) hHeld ?_ ?_
            rotate_left
            · rintro w' ⟨s0, s1, s2, s3, s4⟩
              go_simp
              with_reducible rfl
            rotate_left
            · simp only [Act.put, List.setIfInBounds_toArray, List.set_cons_zero, List.set_cons_succ, Cj, C9]
              rfl
            refine D6 (i := 11) (N := some 32) (v := ?_) (a' := ?_) #[true, true, true, true, true, true, true, false, false, true, true, true, false, false, false] rfl rfl (Dt HT_.out (by kernel_rfl)) (fun _ _ _ h => h) (Or.inl ⟨by rfl, ?_⟩) ?_ ?_
            rotate_left
            · intro w'
              go_simp
              with_reducible rfl
            rotate_left
            · simp only [Act.put, List.setIfInBounds_toArray, List.set_cons_zero, List.set_cons_succ, Cj, C9]
              rfl
            refine one_ (i := 7) (N := some 28) #[true, true, true, true, true, true, true, true, false, true, true, true, false, false, false] rfl rfl (Gg HT_.out (by kernel_rfl)) (by decide) (fun K hK => ?_)
            refine goes_ Tryd.func46 (by kernel_rfl) rfl #[.int .i64 a0_2, .agg #[.string a1_0, .string a1_1]] (by rfl) rfl rfl (by (try simp only [List.map_toArray, List.map_cons, List.map_nil]); first | done | rfl | (simp only [List.length_drop, List.length_take]; rfl)) ?_
            with_reducible refine (Bd.calls kj2 a0_2 a1_0 a1_1 t340 _ ?side1 A33.out).mono ?_
            (case side1 => exact Ea.below HGL.out (by repeat (first | (with_reducible first | exact HB.out | apply below_alloc | apply pw_below_drewN | apply below_drew1 | refine below_set ?_ GE335.out | refine below_set ?_ GE336.out | refine below_set ?_ GE337.out) | exact HB.out)))
            rintro e w39 ⟨rfl, hb⟩
            refine ⟨_, rfl, ?_⟩
            have n0_ := Aside0.mk (Ak (g := gb335) (o := .cells #[.string a0_0, .string a0_1, .int .i64 a0_2] 31 (0, 0)) (by (with_reducible repeat (first | refine Ac ?_ _ | refine Ad ?_ | refine Aa ?_ _)); exact BK335.out) hb)
            have n1_ := Aside0.mk (Ak (g := gb336) (o := .cells #[.string a1_0, .string a1_1] 27 (0, 0)) (by (with_reducible repeat (first | refine Ac ?_ _ | refine Ad ?_ | refine Aa ?_ _)); exact BK336.out) hb)
            have n2_ := Aside0.mk (Ak (g := gb337) (o := .cells #[.string (⟨#[]⟩ : ByteArray), .string (⟨#[]⟩ : ByteArray), .int .i64 0] 31 (0, 0)) (by (with_reducible repeat (first | refine Ac ?_ _ | refine Ad ?_ | refine Aa ?_ _)); exact BK337.out) hb)
            have n3_ := Aside0.mk (Ag (by repeat (first | (with_reducible first | exact HB.out | apply below_alloc | apply pw_below_drewN | apply below_drew1 | refine below_set ?_ GE335.out | refine below_set ?_ GE336.out | refine below_set ?_ GE337.out) | exact HB.out)) hb)
            clear BK335
            clear BK336
            clear BK337
            clear HB
            have BK335 := n0_
            have BK336 := n1_
            have BK337 := n2_
            have HB := n3_
            clear n0_ n1_ n2_ n3_
            (try clear hb)
            (try clear hb2)
            (try clear hk)
            (try clear hi)
            refine hK.out _ _ ⟨(Af BK335.out 0).trans rfl, (Af BK335.out 1).trans rfl, (Af BK335.out 2).trans rfl, (Af BK336.out 0).trans rfl, (Af BK336.out 1).trans rfl⟩ (fun hHeld => ?_)
            clear hK K
            refine norm_ (a' := ?_) ?_ ?_
            rotate_left
            · show Act.put _ (some 28) _ = _
              simp only [Act.put, List.setIfInBounds_toArray, List.set_cons_zero, List.set_cons_succ, Cj, C9]
              rfl
            refine D6 (i := 8) (N := some 29) (v := ?_) (a' := ?_) #[true, true, true, true, true, true, true, true, true, true, true, true, false, false, false] rfl rfl (Dt HT_.out (by kernel_rfl)) (fun _ _ _ h => h) (Or.inl ⟨by rfl, ?_⟩) ?_ ?_
            rotate_left
            · intro w'
              go_simp
              with_reducible rfl
            rotate_left
            · simp only [Act.put, List.setIfInBounds_toArray, List.set_cons_zero, List.set_cons_succ, Cj, C9]
              rfl
            refine D6 (i := 12) (N := some 33) (v := ?_) (a' := ?_) #[true, true, true, true, true, true, true, true, true, true, true, true, true, false, false] rfl rfl (Dt HT_.out (by kernel_rfl)) (fun _ _ _ h => h) (Or.inl ⟨by rfl, ?_⟩) ?_ ?_
            rotate_left
            · intro w'
              go_simp
              with_reducible rfl
            rotate_left
            · simp only [Act.put, List.setIfInBounds_toArray, List.set_cons_zero, List.set_cons_succ, Cj, C9]
              rfl
            refine one_ (i := 13) (N := none) #[true, true, true, true, true, true, true, true, true, true, true, true, true, true, false] rfl rfl (Gg HT_.out (by kernel_rfl)) (by decide) (fun K hK => ?_)
            have hs40 : w39.cell? ⟨gb337, 0, none⟩ = some (.string (⟨#[]⟩ : ByteArray)) := (Af BK337.out 0).trans rfl
            have hfs40 := Ae BK337.out 0
            have hns40_0 := NB335_337.out
            have hns40_1 := NB336_337.out
            have hms40_0 := NB337_335.out
            have hms40_1 := NB337_336.out
            have hs41 : w39.cell? ⟨gb337, 1, none⟩ = some (.string (⟨#[]⟩ : ByteArray)) := (Af BK337.out 1).trans rfl
            have hfs41 := Ae BK337.out 1
            have hns41_0 := NB335_337.out
            have hns41_1 := NB336_337.out
            have hms41_0 := NB337_335.out
            have hms41_1 := NB337_336.out
            have hs42 : w39.cell? ⟨gb337, 2, none⟩ = some (.int .i64 0) := (Af BK337.out 2).trans rfl
            have hfs42 := Ae BK337.out 2
            have hns42_0 := NB335_337.out
            have hns42_1 := NB336_337.out
            have hms42_0 := NB337_335.out
            have hms42_1 := NB337_336.out
            refine skip_ (w1 := ?_) (by rfl) rfl ?_ ?_
            rotate_left
            · go_simp
              rfl
            refine hK.out _ _ ⟨((cell_far (p := ⟨gb337, _, none⟩) NB335_337.out _).trans (((cell_far (p := ⟨gb337, _, none⟩) NB335_337.out _).trans (((cell_far (p := ⟨gb337, _, none⟩) NB335_337.out _).trans (hHeld.1)))))), ((cell_far (p := ⟨gb337, _, none⟩) NB335_337.out _).trans (((cell_far (p := ⟨gb337, _, none⟩) NB335_337.out _).trans (((cell_far (p := ⟨gb337, _, none⟩) NB335_337.out _).trans (hHeld.2.1)))))), ((cell_far (p := ⟨gb337, _, none⟩) NB335_337.out _).trans (((cell_far (p := ⟨gb337, _, none⟩) NB335_337.out _).trans (((cell_far (p := ⟨gb337, _, none⟩) NB335_337.out _).trans (hHeld.2.2.1)))))), ((cell_far (p := ⟨gb337, _, none⟩) NB336_337.out _).trans (((cell_far (p := ⟨gb337, _, none⟩) NB336_337.out _).trans (((cell_far (p := ⟨gb337, _, none⟩) NB336_337.out _).trans (hHeld.2.2.2.1)))))), ((cell_far (p := ⟨gb337, _, none⟩) NB336_337.out _).trans (((cell_far (p := ⟨gb337, _, none⟩) NB336_337.out _).trans (((cell_far (p := ⟨gb337, _, none⟩) NB336_337.out _).trans (hHeld.2.2.2.2))))))⟩ (fun hHeld => ?_)
            clear hK K
            refine D6 (i := 14) (N := some 5) (v := ?_) (a' := ?_) #[true, true, true, true, true, true, true, true, true, true, true, true, true, true, true] rfl rfl (Dt HT_.out (by kernel_rfl)) (fun _ _ _ h => h) (Or.inl ⟨by rfl, ?_⟩) ?_ ?_
            rotate_left
            · intro w'
              go_simp
              with_reducible rfl
            rotate_left
            · simp only [Act.put, List.setIfInBounds_toArray, List.set_cons_zero, List.set_cons_succ, Cj, C9]
              rfl
            refine done_ (done_of HT_.out (by kernel_rfl)) ?_
            try go_wp2
            refine bodyPost_ret (Fq rfl _ _ gb337 31 #[.string a0_0, .string (a0_1 ++ t340), .int .i64 (wrap64 (a0_2 + 1))] (0, 0) _ rfl (by (with_reducible repeat (first | refine Ac ?_ _ | refine Ad ?_ | refine Aa ?_ _)); refine Ar (cs := #[.string a0_0, .string (a0_1 ++ t340), .int .i64 0]) ?_ 2 _ rfl; (with_reducible repeat (first | refine Ac ?_ _ | refine Ad ?_ | refine Aa ?_ _)); refine Ar (cs := #[.string a0_0, .string (⟨#[]⟩ : ByteArray), .int .i64 0]) ?_ 1 _ rfl; (with_reducible repeat (first | refine Ac ?_ _ | refine Ad ?_ | refine Aa ?_ _)); refine Ar (cs := #[.string (⟨#[]⟩ : ByteArray), .string (⟨#[]⟩ : ByteArray), .int .i64 0]) ?_ 0 _ rfl; (with_reducible repeat (first | refine Ac ?_ _ | refine Ad ?_ | refine Aa ?_ _)); exact BK337.out) Tryd.underlying31 rfl (by kernel_rfl)) rfl ?_
            exact ⟨by first | rfl | (simp [Aj, Ai] <;> rfl) | (simp [*, Aj, Ai] <;> rfl), by repeat (first | (with_reducible first | exact HB.out | apply below_alloc | apply pw_below_drewN | apply below_drew1 | refine below_set ?_ GE335.out | refine below_set ?_ GE336.out | refine below_set ?_ GE337.out) | exact HB.out)⟩
          · rw [if_neg c34] at H
            exact absurd H (by simp)

end Go.Proofs.YtkpieljmhgfofaaDoor.X


-- written by a program of this session (wip/ext.py) out of the translation. Not trusted: Lean checks it.
namespace Go.Proofs.YtkpieljmhgfofaaDoor.X
open Go.RowKit Go.Proofs.YtkpieljmhgfofaaDoorW.PrintWords Go.Proofs.YtkpieljmhgfofaaDoorW.PrintLast Go.Proofs.YtkpieljmhgfofaaDoorW.PrintMore
attribute [local go_sem] max2_int min2_int max_two min_two max_three min_three max_four min_four   -- for this text's walks alone
open Go.Proofs.YtkpieljmhgfofaaDoorG
set_option linter.unusedVariables false
set_option linter.unusedSimpArgs false

def laws_szLogRecord.f (a0_0 : ByteArray) (a0_1 : ByteArray) (a1 : Int) : Option (Int) := if (wrap64 (a1 - (a0_0.size : Int))) < 0 then (some (-1)) else (if (wrap64 ((wrap64 (a1 - (a0_0.size : Int))) - (a0_1.size : Int))) < 0 then (some (-1)) else (some (wrap64 ((wrap64 (a1 - (a0_0.size : Int))) - (a0_1.size : Int)))))
set_option maxHeartbeats 8000000 in
set_option maxRecDepth 100000 in
theorem laws_szLogRecord.calls (a0_0 : ByteArray) (a0_1 : ByteArray) (a1 : Int) (r : Int) (w : World) (h : laws_szLogRecord.f a0_0 a0_1 a1 = some r) :
    Calls Tryd.prog 13 #[.agg #[.string a0_0, .string a0_1], .int .i64 a1] w fun e w' => e = .returned (.int .i64 r) ∧ Below w.heap.size w w' := by
  have hu23 := Tryd.underlying23
  have HB := Aside0.mk (Below.refl w.heap.size w)
  have H : (if (wrap64 (a1 - (a0_0.size : Int))) < 0 then (some (-1)) else (if (wrap64 ((wrap64 (a1 - (a0_0.size : Int))) - (a0_1.size : Int))) < 0 then (some (-1)) else (some (wrap64 ((wrap64 (a1 - (a0_0.size : Int))) - (a0_1.size : Int)))))) = some r := h
  clear h
  by_cases c3 : (wrap64 (a1 - (a0_0.size : Int))) < 0
  · rw [if_pos c3] at H
    have c3b0 : decide ((wrap64 (a1 - (a0_0.size : Int))) < 0) = true := decide_eq_true c3
    clear c3
    obtain rfl := Option.some.inj H
    go_enter Tryd.func13, Tryd.ntmps13
    go_wp2_with (first | ((with_reducible refine Az (N := 2) rfl ?_); refine Ba ?hg (N := 2) ?hd (cs := #[.string a0_0, .string a0_1]) (t := 23) ?hr ?_; (case hd => rfl); (case hg => rfl); (case hr => first | (go_simp; done) | (go_simp; rfl)); intro gb101 hg w4 hbox hb; have n0_ := Aside0.mk (Ag (by repeat (first | (with_reducible first | exact HB.out | apply below_alloc | apply pw_below_drewN | apply below_drew1) | exact HB.out)) hb); have n1_ := Aside0.mk (hbox); have n2_ := Aside0.mk ((by rw [hg]; exact (Ah (by repeat (first | (with_reducible first | exact HB.out | apply below_alloc | apply pw_below_drewN | apply below_drew1) | exact HB.out))) : w.heap.size ≤ gb101)); have n3_ := Aside0.mk ((by rw [hg]; exact (Ah (by repeat (first | (with_reducible first | exact HB.out | apply below_alloc | apply pw_below_drewN | apply below_drew1) | exact HB.out))) : w.heap.size ≤ gb101)); clear HB; have HB := n0_; have BK101 := n1_; have GW101 := n2_; have GE101 := n3_; clear n0_ n1_ n2_ n3_; clear hb hbox hg; have hcz5_0 : w4.cell? ⟨gb101, 0, none⟩ = some (.string a0_0) := (Af BK101.out 0).trans rfl; have hcz5_1 : w4.cell? ⟨gb101, 1, none⟩ = some (.string a0_1) := (Af BK101.out 1).trans rfl; have hfz5_0 := Ae BK101.out 0; have hfz5_1 := Ae BK101.out 1))
    go_ret
    exact ⟨by first | rfl | (simp [Aj, Ai] <;> rfl) | (simp [*, Aj, Ai] <;> rfl), by repeat (first | (with_reducible first | exact HB.out | apply below_alloc | apply pw_below_drewN | apply below_drew1 | refine below_set ?_ GE101.out) | exact HB.out)⟩
  · rw [if_neg c3] at H
    have c3b0 : decide ((wrap64 (a1 - (a0_0.size : Int))) < 0) = false := decide_eq_false c3
    clear c3
    by_cases c6 : (wrap64 ((wrap64 (a1 - (a0_0.size : Int))) - (a0_1.size : Int))) < 0
    · rw [if_pos c6] at H
      have c6b0 : decide ((wrap64 ((wrap64 (a1 - (a0_0.size : Int))) - (a0_1.size : Int))) < 0) = true := decide_eq_true c6
      clear c6
      obtain rfl := Option.some.inj H
      go_enter Tryd.func13, Tryd.ntmps13
      go_wp2_with (first | ((with_reducible refine Az (N := 2) rfl ?_); refine Ba ?hg (N := 2) ?hd (cs := #[.string a0_0, .string a0_1]) (t := 23) ?hr ?_; (case hd => rfl); (case hg => rfl); (case hr => first | (go_simp; done) | (go_simp; rfl)); intro gb101 hg w7 hbox hb; have n0_ := Aside0.mk (Ag (by repeat (first | (with_reducible first | exact HB.out | apply below_alloc | apply pw_below_drewN | apply below_drew1) | exact HB.out)) hb); have n1_ := Aside0.mk (hbox); have n2_ := Aside0.mk ((by rw [hg]; exact (Ah (by repeat (first | (with_reducible first | exact HB.out | apply below_alloc | apply pw_below_drewN | apply below_drew1) | exact HB.out))) : w.heap.size ≤ gb101)); have n3_ := Aside0.mk ((by rw [hg]; exact (Ah (by repeat (first | (with_reducible first | exact HB.out | apply below_alloc | apply pw_below_drewN | apply below_drew1) | exact HB.out))) : w.heap.size ≤ gb101)); clear HB; have HB := n0_; have BK101 := n1_; have GW101 := n2_; have GE101 := n3_; clear n0_ n1_ n2_ n3_; clear hb hbox hg; have hcz8_0 : w7.cell? ⟨gb101, 0, none⟩ = some (.string a0_0) := (Af BK101.out 0).trans rfl; have hcz8_1 : w7.cell? ⟨gb101, 1, none⟩ = some (.string a0_1) := (Af BK101.out 1).trans rfl; have hfz8_0 := Ae BK101.out 0; have hfz8_1 := Ae BK101.out 1))
      go_ret
      exact ⟨by first | rfl | (simp [Aj, Ai] <;> rfl) | (simp [*, Aj, Ai] <;> rfl), by repeat (first | (with_reducible first | exact HB.out | apply below_alloc | apply pw_below_drewN | apply below_drew1 | refine below_set ?_ GE101.out) | exact HB.out)⟩
    · rw [if_neg c6] at H
      have c6b0 : decide ((wrap64 ((wrap64 (a1 - (a0_0.size : Int))) - (a0_1.size : Int))) < 0) = false := decide_eq_false c6
      clear c6
      obtain rfl := Option.some.inj H
      go_enter Tryd.func13, Tryd.ntmps13
      go_wp2_with (first | ((with_reducible refine Az (N := 2) rfl ?_); refine Ba ?hg (N := 2) ?hd (cs := #[.string a0_0, .string a0_1]) (t := 23) ?hr ?_; (case hd => rfl); (case hg => rfl); (case hr => first | (go_simp; done) | (go_simp; rfl)); intro gb101 hg w9 hbox hb; have n0_ := Aside0.mk (Ag (by repeat (first | (with_reducible first | exact HB.out | apply below_alloc | apply pw_below_drewN | apply below_drew1) | exact HB.out)) hb); have n1_ := Aside0.mk (hbox); have n2_ := Aside0.mk ((by rw [hg]; exact (Ah (by repeat (first | (with_reducible first | exact HB.out | apply below_alloc | apply pw_below_drewN | apply below_drew1) | exact HB.out))) : w.heap.size ≤ gb101)); have n3_ := Aside0.mk ((by rw [hg]; exact (Ah (by repeat (first | (with_reducible first | exact HB.out | apply below_alloc | apply pw_below_drewN | apply below_drew1) | exact HB.out))) : w.heap.size ≤ gb101)); clear HB; have HB := n0_; have BK101 := n1_; have GW101 := n2_; have GE101 := n3_; clear n0_ n1_ n2_ n3_; clear hb hbox hg; have hcz10_0 : w9.cell? ⟨gb101, 0, none⟩ = some (.string a0_0) := (Af BK101.out 0).trans rfl; have hcz10_1 : w9.cell? ⟨gb101, 1, none⟩ = some (.string a0_1) := (Af BK101.out 1).trans rfl; have hfz10_0 := Ae BK101.out 0; have hfz10_1 := Ae BK101.out 1))
      go_ret
      exact ⟨by first | rfl | (simp [Aj, Ai] <;> rfl) | (simp [*, Aj, Ai] <;> rfl), by repeat (first | (with_reducible first | exact HB.out | apply below_alloc | apply pw_below_drewN | apply below_drew1 | refine below_set ?_ GE101.out) | exact HB.out)⟩

end Go.Proofs.YtkpieljmhgfofaaDoor.X


-- written by a program of this session (wip/ext.py) out of the translation. Not trusted: Lean checks it.
namespace Go.Proofs.YtkpieljmhgfofaaDoor.X
open Go.RowKit Go.Proofs.YtkpieljmhgfofaaDoorW.PrintWords Go.Proofs.YtkpieljmhgfofaaDoorW.PrintLast Go.Proofs.YtkpieljmhgfofaaDoorW.PrintMore
attribute [local go_sem] max2_int min2_int max_two min_two max_three min_three max_four min_four   -- for this text's walks alone
open Go.Proofs.YtkpieljmhgfofaaDoorG
set_option linter.unusedVariables false
set_option linter.unusedSimpArgs false

def laws_eqLog.f (a0_0 : ByteArray) (a0_1 : ByteArray) (a0_2 : Int) (a1_0 : ByteArray) (a1_1 : ByteArray) (a1_2 : Int) : Option (Bool) := if a0_0.toList = a1_0.toList then (if a0_1.toList = a1_1.toList then (if a0_2 = a1_2 then (some true) else (some false)) else (some false)) else (some false)
set_option maxHeartbeats 8000000 in
set_option maxRecDepth 100000 in
theorem laws_eqLog.calls (a0_0 : ByteArray) (a0_1 : ByteArray) (a0_2 : Int) (a1_0 : ByteArray) (a1_1 : ByteArray) (a1_2 : Int) (r : Bool) (w : World) (h : laws_eqLog.f a0_0 a0_1 a0_2 a1_0 a1_1 a1_2 = some r) :
    Calls Tryd.prog 19 #[.agg #[.string a0_0, .string a0_1, .int .i64 a0_2], .agg #[.string a1_0, .string a1_1, .int .i64 a1_2]] w fun e w' => e = .returned (.bool r) ∧ Below w.heap.size w w' := by
  have hu31 := Tryd.underlying31
  have HB := Aside0.mk (Below.refl w.heap.size w)
  have H : (if a0_0.toList = a1_0.toList then (if a0_1.toList = a1_1.toList then (if a0_2 = a1_2 then (some true) else (some false)) else (some false)) else (some false)) = some r := h
  clear h
  by_cases c3 : a0_0.toList = a1_0.toList
  · rw [if_pos c3] at H
    have c3b0 : (a0_0.toList == a1_0.toList) = true := beq_iff_eq.mpr c3
    have c3b1 : (a0_0.toList != a1_0.toList) = false := bne_eq_false_iff_eq.mpr c3
    clear c3
    by_cases c4 : a0_1.toList = a1_1.toList
    · rw [if_pos c4] at H
      have c4b0 : (a0_1.toList == a1_1.toList) = true := beq_iff_eq.mpr c4
      have c4b1 : (a0_1.toList != a1_1.toList) = false := bne_eq_false_iff_eq.mpr c4
      clear c4
      by_cases c5 : a0_2 = a1_2
      · rw [if_pos c5] at H
        have c5b0 : (a0_2 == a1_2) = true := beq_iff_eq.mpr c5
        have c5b1 : (a0_2 != a1_2) = false := bne_eq_false_iff_eq.mpr c5
        clear c5
        obtain rfl := Option.some.inj H
        go_enter Tryd.func19, Tryd.ntmps19
        go_wp2_with (first | ((with_reducible refine Az (N := 2) rfl ?_); refine Ba ?hg (N := 2) ?hd (cs := #[.string a0_0, .string a0_1, .int .i64 a0_2]) (t := 31) ?hr ?_; (case hd => rfl); (case hg => rfl); (case hr => first | (go_simp; done) | (go_simp; rfl)); intro gb248 hg w6 hbox hb; have n0_ := Aside0.mk (Ag (by repeat (first | (with_reducible first | exact HB.out | apply below_alloc | apply pw_below_drewN | apply below_drew1) | exact HB.out)) hb); have n1_ := Aside0.mk (hbox); have n2_ := Aside0.mk ((by rw [hg]; exact (Ah (by repeat (first | (with_reducible first | exact HB.out | apply below_alloc | apply pw_below_drewN | apply below_drew1) | exact HB.out))) : w.heap.size ≤ gb248)); have n3_ := Aside0.mk ((by rw [hg]; exact (Ah (by repeat (first | (with_reducible first | exact HB.out | apply below_alloc | apply pw_below_drewN | apply below_drew1) | exact HB.out))) : w.heap.size ≤ gb248)); clear HB; have HB := n0_; have BK248 := n1_; have GW248 := n2_; have GE248 := n3_; clear n0_ n1_ n2_ n3_; clear hb hbox hg) | ((with_reducible refine Az (N := 3) rfl ?_); refine Ba ?hg (N := 3) ?hd (cs := #[.string a1_0, .string a1_1, .int .i64 a1_2]) (t := 31) ?hr ?_; (case hd => rfl); (case hg => rfl); (case hr => first | (go_simp; done) | (go_simp; rfl)); intro gb249 hg w7 hbox hb; have n0_ := Aside0.mk (Ak (g := gb248) (o := .cells #[.string a0_0, .string a0_1, .int .i64 a0_2] 31 (0, 0)) (by (with_reducible repeat (first | refine Ac ?_ _ | refine Ad ?_ | refine Aa ?_ _)); exact BK248.out) hb); have n1_ := Aside0.mk (Ag (by repeat (first | (with_reducible first | exact HB.out | apply below_alloc | apply pw_below_drewN | apply below_drew1 | refine below_set ?_ GE248.out) | exact HB.out)) hb); have n2_ := Aside0.mk (hbox); have n3_ := Aside0.mk ((by rw [hg]; exact (Ah (by repeat (first | (with_reducible first | exact HB.out | apply below_alloc | apply pw_below_drewN | apply below_drew1 | refine below_set ?_ GE248.out) | exact HB.out))) : w.heap.size ≤ gb249)); have n4_ := Aside0.mk ((by rw [hg]; exact (Ah (by repeat (first | (with_reducible first | exact HB.out | apply below_alloc | apply pw_below_drewN | apply below_drew1 | refine below_set ?_ GE248.out) | exact HB.out))) : w.heap.size ≤ gb249)); have n5_ := Aside0.mk ((by rw [hg]; exact Nat.ne_of_lt (Cf (g := gb248) (o := .cells #[.string a0_0, .string a0_1, .int .i64 a0_2] 31 (0, 0)) (by (with_reducible repeat (first | refine Ac ?_ _ | refine Ad ?_ | refine Aa ?_ _)); exact BK248.out)) : gb248 ≠ gb249)); have n6_ := Aside0.mk ((by rw [hg]; exact Nat.ne_of_gt (Cf (g := gb248) (o := .cells #[.string a0_0, .string a0_1, .int .i64 a0_2] 31 (0, 0)) (by (with_reducible repeat (first | refine Ac ?_ _ | refine Ad ?_ | refine Aa ?_ _)); exact BK248.out)) : gb249 ≠ gb248)); clear BK248; clear HB; have BK248 := n0_; have HB := n1_; have BK249 := n2_; have GW249 := n3_; have GE249 := n4_; have NB248_249 := n5_; have NB249_248 := n6_; clear n0_ n1_ n2_ n3_ n4_ n5_ n6_; clear hb hbox hg; have hnb8 := NB248_249.out; have hnc8 := NB249_248.out; have hcz9_0 : w7.cell? ⟨gb248, 0, none⟩ = some (.string a0_0) := (Af BK248.out 0).trans rfl; have hcz9_1 : w7.cell? ⟨gb248, 1, none⟩ = some (.string a0_1) := (Af BK248.out 1).trans rfl; have hcz9_2 : w7.cell? ⟨gb248, 2, none⟩ = some (.int .i64 a0_2) := (Af BK248.out 2).trans rfl; have hfz9_0 := Ae BK248.out 0; have hfz9_1 := Ae BK248.out 1; have hfz9_2 := Ae BK248.out 2; have hcz10_0 : w7.cell? ⟨gb249, 0, none⟩ = some (.string a1_0) := (Af BK249.out 0).trans rfl; have hcz10_1 : w7.cell? ⟨gb249, 1, none⟩ = some (.string a1_1) := (Af BK249.out 1).trans rfl; have hcz10_2 : w7.cell? ⟨gb249, 2, none⟩ = some (.int .i64 a1_2) := (Af BK249.out 2).trans rfl; have hfz10_0 := Ae BK249.out 0; have hfz10_1 := Ae BK249.out 1; have hfz10_2 := Ae BK249.out 2))
        go_ret
        exact ⟨by first | rfl | (simp [Aj, Ai] <;> rfl) | (simp [*, Aj, Ai] <;> rfl), by repeat (first | (with_reducible first | exact HB.out | apply below_alloc | apply pw_below_drewN | apply below_drew1 | refine below_set ?_ GE248.out | refine below_set ?_ GE249.out) | exact HB.out)⟩
      · rw [if_neg c5] at H
        have c5b0 : (a0_2 == a1_2) = false := beq_eq_false_iff_ne.mpr c5
        have c5b1 : (a0_2 != a1_2) = true := bne_iff_ne.mpr c5
        obtain rfl := Option.some.inj H
        go_enter Tryd.func19, Tryd.ntmps19
        go_wp2_with (first | ((with_reducible refine Az (N := 2) rfl ?_); refine Ba ?hg (N := 2) ?hd (cs := #[.string a0_0, .string a0_1, .int .i64 a0_2]) (t := 31) ?hr ?_; (case hd => rfl); (case hg => rfl); (case hr => first | (go_simp; done) | (go_simp; rfl)); intro gb248 hg w11 hbox hb; have n0_ := Aside0.mk (Ag (by repeat (first | (with_reducible first | exact HB.out | apply below_alloc | apply pw_below_drewN | apply below_drew1) | exact HB.out)) hb); have n1_ := Aside0.mk (hbox); have n2_ := Aside0.mk ((by rw [hg]; exact (Ah (by repeat (first | (with_reducible first | exact HB.out | apply below_alloc | apply pw_below_drewN | apply below_drew1) | exact HB.out))) : w.heap.size ≤ gb248)); have n3_ := Aside0.mk ((by rw [hg]; exact (Ah (by repeat (first | (with_reducible first | exact HB.out | apply below_alloc | apply pw_below_drewN | apply below_drew1) | exact HB.out))) : w.heap.size ≤ gb248)); clear HB; have HB := n0_; have BK248 := n1_; have GW248 := n2_; have GE248 := n3_; clear n0_ n1_ n2_ n3_; clear hb hbox hg) | ((with_reducible refine Az (N := 3) rfl ?_); refine Ba ?hg (N := 3) ?hd (cs := #[.string a1_0, .string a1_1, .int .i64 a1_2]) (t := 31) ?hr ?_; (case hd => rfl); (case hg => rfl); (case hr => first | (go_simp; done) | (go_simp; rfl)); intro gb249 hg w12 hbox hb; have n0_ := Aside0.mk (Ak (g := gb248) (o := .cells #[.string a0_0, .string a0_1, .int .i64 a0_2] 31 (0, 0)) (by (with_reducible repeat (first | refine Ac ?_ _ | refine Ad ?_ | refine Aa ?_ _)); exact BK248.out) hb); have n1_ := Aside0.mk (Ag (by repeat (first | (with_reducible first | exact HB.out | apply below_alloc | apply pw_below_drewN | apply below_drew1 | refine below_set ?_ GE248.out) | exact HB.out)) hb); have n2_ := Aside0.mk (hbox); have n3_ := Aside0.mk ((by rw [hg]; exact (Ah (by repeat (first | (with_reducible first | exact HB.out | apply below_alloc | apply pw_below_drewN | apply below_drew1 | refine below_set ?_ GE248.out) | exact HB.out))) : w.heap.size ≤ gb249)); have n4_ := Aside0.mk ((by rw [hg]; exact (Ah (by repeat (first | (with_reducible first | exact HB.out | apply below_alloc | apply pw_below_drewN | apply below_drew1 | refine below_set ?_ GE248.out) | exact HB.out))) : w.heap.size ≤ gb249)); have n5_ := Aside0.mk ((by rw [hg]; exact Nat.ne_of_lt (Cf (g := gb248) (o := .cells #[.string a0_0, .string a0_1, .int .i64 a0_2] 31 (0, 0)) (by (with_reducible repeat (first | refine Ac ?_ _ | refine Ad ?_ | refine Aa ?_ _)); exact BK248.out)) : gb248 ≠ gb249)); have n6_ := Aside0.mk ((by rw [hg]; exact Nat.ne_of_gt (Cf (g := gb248) (o := .cells #[.string a0_0, .string a0_1, .int .i64 a0_2] 31 (0, 0)) (by (with_reducible repeat (first | refine Ac ?_ _ | refine Ad ?_ | refine Aa ?_ _)); exact BK248.out)) : gb249 ≠ gb248)); clear BK248; clear HB; have BK248 := n0_; have HB := n1_; have BK249 := n2_; have GW249 := n3_; have GE249 := n4_; have NB248_249 := n5_; have NB249_248 := n6_; clear n0_ n1_ n2_ n3_ n4_ n5_ n6_; clear hb hbox hg; have hnb13 := NB248_249.out; have hnc13 := NB249_248.out; have hcz14_0 : w12.cell? ⟨gb248, 0, none⟩ = some (.string a0_0) := (Af BK248.out 0).trans rfl; have hcz14_1 : w12.cell? ⟨gb248, 1, none⟩ = some (.string a0_1) := (Af BK248.out 1).trans rfl; have hcz14_2 : w12.cell? ⟨gb248, 2, none⟩ = some (.int .i64 a0_2) := (Af BK248.out 2).trans rfl; have hfz14_0 := Ae BK248.out 0; have hfz14_1 := Ae BK248.out 1; have hfz14_2 := Ae BK248.out 2; have hcz15_0 : w12.cell? ⟨gb249, 0, none⟩ = some (.string a1_0) := (Af BK249.out 0).trans rfl; have hcz15_1 : w12.cell? ⟨gb249, 1, none⟩ = some (.string a1_1) := (Af BK249.out 1).trans rfl; have hcz15_2 : w12.cell? ⟨gb249, 2, none⟩ = some (.int .i64 a1_2) := (Af BK249.out 2).trans rfl; have hfz15_0 := Ae BK249.out 0; have hfz15_1 := Ae BK249.out 1; have hfz15_2 := Ae BK249.out 2))
        go_ret
        exact ⟨by first | rfl | (simp [Aj, Ai] <;> rfl) | (simp [*, Aj, Ai] <;> rfl), by repeat (first | (with_reducible first | exact HB.out | apply below_alloc | apply pw_below_drewN | apply below_drew1 | refine below_set ?_ GE248.out | refine below_set ?_ GE249.out) | exact HB.out)⟩
    · rw [if_neg c4] at H
      have c4b0 : (a0_1.toList == a1_1.toList) = false := beq_eq_false_iff_ne.mpr c4
      have c4b1 : (a0_1.toList != a1_1.toList) = true := bne_iff_ne.mpr c4
      obtain rfl := Option.some.inj H
      go_enter Tryd.func19, Tryd.ntmps19
      go_wp2_with (first | ((with_reducible refine Az (N := 2) rfl ?_); refine Ba ?hg (N := 2) ?hd (cs := #[.string a0_0, .string a0_1, .int .i64 a0_2]) (t := 31) ?hr ?_; (case hd => rfl); (case hg => rfl); (case hr => first | (go_simp; done) | (go_simp; rfl)); intro gb248 hg w16 hbox hb; have n0_ := Aside0.mk (Ag (by repeat (first | (with_reducible first | exact HB.out | apply below_alloc | apply pw_below_drewN | apply below_drew1) | exact HB.out)) hb); have n1_ := Aside0.mk (hbox); have n2_ := Aside0.mk ((by rw [hg]; exact (Ah (by repeat (first | (with_reducible first | exact HB.out | apply below_alloc | apply pw_below_drewN | apply below_drew1) | exact HB.out))) : w.heap.size ≤ gb248)); have n3_ := Aside0.mk ((by rw [hg]; exact (Ah (by repeat (first | (with_reducible first | exact HB.out | apply below_alloc | apply pw_below_drewN | apply below_drew1) | exact HB.out))) : w.heap.size ≤ gb248)); clear HB; have HB := n0_; have BK248 := n1_; have GW248 := n2_; have GE248 := n3_; clear n0_ n1_ n2_ n3_; clear hb hbox hg) | ((with_reducible refine Az (N := 3) rfl ?_); refine Ba ?hg (N := 3) ?hd (cs := #[.string a1_0, .string a1_1, .int .i64 a1_2]) (t := 31) ?hr ?_; (case hd => rfl); (case hg => rfl); (case hr => first | (go_simp; done) | (go_simp; rfl)); intro gb249 hg w17 hbox hb; have n0_ := Aside0.mk (Ak (g := gb248) (o := .cells #[.string a0_0, .string a0_1, .int .i64 a0_2] 31 (0, 0)) (by (with_reducible repeat (first | refine Ac ?_ _ | refine Ad ?_ | refine Aa ?_ _)); exact BK248.out) hb); have n1_ := Aside0.mk (Ag (by repeat (first | (with_reducible first | exact HB.out | apply below_alloc | apply pw_below_drewN | apply below_drew1 | refine below_set ?_ GE248.out) | exact HB.out)) hb); have n2_ := Aside0.mk (hbox); have n3_ := Aside0.mk ((by rw [hg]; exact (Ah (by repeat (first | (with_reducible first | exact HB.out | apply below_alloc | apply pw_below_drewN | apply below_drew1 | refine below_set ?_ GE248.out) | exact HB.out))) : w.heap.size ≤ gb249)); have n4_ := Aside0.mk ((by rw [hg]; exact (Ah (by repeat (first | (with_reducible first | exact HB.out | apply below_alloc | apply pw_below_drewN | apply below_drew1 | refine below_set ?_ GE248.out) | exact HB.out))) : w.heap.size ≤ gb249)); have n5_ := Aside0.mk ((by rw [hg]; exact Nat.ne_of_lt (Cf (g := gb248) (o := .cells #[.string a0_0, .string a0_1, .int .i64 a0_2] 31 (0, 0)) (by (with_reducible repeat (first | refine Ac ?_ _ | refine Ad ?_ | refine Aa ?_ _)); exact BK248.out)) : gb248 ≠ gb249)); have n6_ := Aside0.mk ((by rw [hg]; exact Nat.ne_of_gt (Cf (g := gb248) (o := .cells #[.string a0_0, .string a0_1, .int .i64 a0_2] 31 (0, 0)) (by (with_reducible repeat (first | refine Ac ?_ _ | refine Ad ?_ | refine Aa ?_ _)); exact BK248.out)) : gb249 ≠ gb248)); clear BK248; clear HB; have BK248 := n0_; have HB := n1_; have BK249 := n2_; have GW249 := n3_; have GE249 := n4_; have NB248_249 := n5_; have NB249_248 := n6_; clear n0_ n1_ n2_ n3_ n4_ n5_ n6_; clear hb hbox hg; have hnb18 := NB248_249.out; have hnc18 := NB249_248.out; have hcz19_0 : w17.cell? ⟨gb248, 0, none⟩ = some (.string a0_0) := (Af BK248.out 0).trans rfl; have hcz19_1 : w17.cell? ⟨gb248, 1, none⟩ = some (.string a0_1) := (Af BK248.out 1).trans rfl; have hcz19_2 : w17.cell? ⟨gb248, 2, none⟩ = some (.int .i64 a0_2) := (Af BK248.out 2).trans rfl; have hfz19_0 := Ae BK248.out 0; have hfz19_1 := Ae BK248.out 1; have hfz19_2 := Ae BK248.out 2; have hcz20_0 : w17.cell? ⟨gb249, 0, none⟩ = some (.string a1_0) := (Af BK249.out 0).trans rfl; have hcz20_1 : w17.cell? ⟨gb249, 1, none⟩ = some (.string a1_1) := (Af BK249.out 1).trans rfl; have hcz20_2 : w17.cell? ⟨gb249, 2, none⟩ = some (.int .i64 a1_2) := (Af BK249.out 2).trans rfl; have hfz20_0 := Ae BK249.out 0; have hfz20_1 := Ae BK249.out 1; have hfz20_2 := Ae BK249.out 2))
      go_ret
      exact ⟨by first | rfl | (simp [Aj, Ai] <;> rfl) | (simp [*, Aj, Ai] <;> rfl), by repeat (first | (with_reducible first | exact HB.out | apply below_alloc | apply pw_below_drewN | apply below_drew1 | refine below_set ?_ GE248.out | refine below_set ?_ GE249.out) | exact HB.out)⟩
  · rw [if_neg c3] at H
    have c3b0 : (a0_0.toList == a1_0.toList) = false := beq_eq_false_iff_ne.mpr c3
    have c3b1 : (a0_0.toList != a1_0.toList) = true := bne_iff_ne.mpr c3
    obtain rfl := Option.some.inj H
    go_enter Tryd.func19, Tryd.ntmps19
    go_wp2_with (first | ((with_reducible refine Az (N := 2) rfl ?_); refine Ba ?hg (N := 2) ?hd (cs := #[.string a0_0, .string a0_1, .int .i64 a0_2]) (t := 31) ?hr ?_; (case hd => rfl); (case hg => rfl); (case hr => first | (go_simp; done) | (go_simp; rfl)); intro gb248 hg w21 hbox hb; have n0_ := Aside0.mk (Ag (by repeat (first | (with_reducible first | exact HB.out | apply below_alloc | apply pw_below_drewN | apply below_drew1) | exact HB.out)) hb); have n1_ := Aside0.mk (hbox); have n2_ := Aside0.mk ((by rw [hg]; exact (Ah (by repeat (first | (with_reducible first | exact HB.out | apply below_alloc | apply pw_below_drewN | apply below_drew1) | exact HB.out))) : w.heap.size ≤ gb248)); have n3_ := Aside0.mk ((by rw [hg]; exact (Ah (by repeat (first | (with_reducible first | exact HB.out | apply below_alloc | apply pw_below_drewN | apply below_drew1) | exact HB.out))) : w.heap.size ≤ gb248)); clear HB; have HB := n0_; have BK248 := n1_; have GW248 := n2_; have GE248 := n3_; clear n0_ n1_ n2_ n3_; clear hb hbox hg) | ((with_reducible refine Az (N := 3) rfl ?_); refine Ba ?hg (N := 3) ?hd (cs := #[.string a1_0, .string a1_1, .int .i64 a1_2]) (t := 31) ?hr ?_; (case hd => rfl); (case hg => rfl); (case hr => first | (go_simp; done) | (go_simp; rfl)); intro gb249 hg w22 hbox hb; have n0_ := Aside0.mk (Ak (g := gb248) (o := .cells #[.string a0_0, .string a0_1, .int .i64 a0_2] 31 (0, 0)) (by (with_reducible repeat (first | refine Ac ?_ _ | refine Ad ?_ | refine Aa ?_ _)); exact BK248.out) hb); have n1_ := Aside0.mk (Ag (by repeat (first | (with_reducible first | exact HB.out | apply below_alloc | apply pw_below_drewN | apply below_drew1 | refine below_set ?_ GE248.out) | exact HB.out)) hb); have n2_ := Aside0.mk (hbox); have n3_ := Aside0.mk ((by rw [hg]; exact (Ah (by repeat (first | (with_reducible first | exact HB.out | apply below_alloc | apply pw_below_drewN | apply below_drew1 | refine below_set ?_ GE248.out) | exact HB.out))) : w.heap.size ≤ gb249)); have n4_ := Aside0.mk ((by rw [hg]; exact (Ah (by repeat (first | (with_reducible first | exact HB.out | apply below_alloc | apply pw_below_drewN | apply below_drew1 | refine below_set ?_ GE248.out) | exact HB.out))) : w.heap.size ≤ gb249)); have n5_ := Aside0.mk ((by rw [hg]; exact Nat.ne_of_lt (Cf (g := gb248) (o := .cells #[.string a0_0, .string a0_1, .int .i64 a0_2] 31 (0, 0)) (by (with_reducible repeat (first | refine Ac ?_ _ | refine Ad ?_ | refine Aa ?_ _)); exact BK248.out)) : gb248 ≠ gb249)); have n6_ := Aside0.mk ((by rw [hg]; exact Nat.ne_of_gt (Cf (g := gb248) (o := .cells #[.string a0_0, .string a0_1, .int .i64 a0_2] 31 (0, 0)) (by (with_reducible repeat (first | refine Ac ?_ _ | refine Ad ?_ | refine Aa ?_ _)); exact BK248.out)) : gb249 ≠ gb248)); clear BK248; clear HB; have BK248 := n0_; have HB := n1_; have BK249 := n2_; have GW249 := n3_; have GE249 := n4_; have NB248_249 := n5_; have NB249_248 := n6_; clear n0_ n1_ n2_ n3_ n4_ n5_ n6_; clear hb hbox hg; have hnb23 := NB248_249.out; have hnc23 := NB249_248.out; have hcz24_0 : w22.cell? ⟨gb248, 0, none⟩ = some (.string a0_0) := (Af BK248.out 0).trans rfl; have hcz24_1 : w22.cell? ⟨gb248, 1, none⟩ = some (.string a0_1) := (Af BK248.out 1).trans rfl; have hcz24_2 : w22.cell? ⟨gb248, 2, none⟩ = some (.int .i64 a0_2) := (Af BK248.out 2).trans rfl; have hfz24_0 := Ae BK248.out 0; have hfz24_1 := Ae BK248.out 1; have hfz24_2 := Ae BK248.out 2; have hcz25_0 : w22.cell? ⟨gb249, 0, none⟩ = some (.string a1_0) := (Af BK249.out 0).trans rfl; have hcz25_1 : w22.cell? ⟨gb249, 1, none⟩ = some (.string a1_1) := (Af BK249.out 1).trans rfl; have hcz25_2 : w22.cell? ⟨gb249, 2, none⟩ = some (.int .i64 a1_2) := (Af BK249.out 2).trans rfl; have hfz25_0 := Ae BK249.out 0; have hfz25_1 := Ae BK249.out 1; have hfz25_2 := Ae BK249.out 2))
    go_ret
    exact ⟨by first | rfl | (simp [Aj, Ai] <;> rfl) | (simp [*, Aj, Ai] <;> rfl), by repeat (first | (with_reducible first | exact HB.out | apply below_alloc | apply pw_below_drewN | apply below_drew1 | refine below_set ?_ GE248.out | refine below_set ?_ GE249.out) | exact HB.out)⟩

end Go.Proofs.YtkpieljmhgfofaaDoor.X


namespace Go.Proofs.YtkpieljmhgfofaaDoor.X
open Go.RowKit Go.Proofs.YtkpieljmhgfofaaDoorW.PrintWords Go.Proofs.YtkpieljmhgfofaaDoorL
set_option linter.unusedVariables false
set_option linter.unusedSimpArgs false
theorem logOk_count {D P : ByteArray} {c : Int} (h : logOk D P c = true) : 0 ≤ c ∧ c ≤ 60 := by
  unfold logOk at h
  simp only [Bool.and_eq_true, decide_eq_true_eq] at h
  have := (Hm 60 0 (B D ++ B P)).1
  unfold allOf at h
  omega
noncomputable def appd (D P : ByteArray) (c : Int) (q r : ByteArray) : ByteArray × ByteArray × Int × Int :=
  if logOk D P c = true ∧ Eb q r = true then (if c = 60 then (D, P, c, 2) else (D, P ++ Eg c q r, c + 1, 0)) else (D, P, c, 1)
theorem line_bytes {n : Int} {c r : ByteArray} (h0 : 0 ≤ n) (h1 : n ≤ 59) (h : Eb c r = true) : (Eg n c r).size ≤ 406 := by
  have := line_size h0 h1 h
  rwa [Dw] at this
theorem specAppend_ev (D P : ByteArray) (c : Int) (q r : ByteArray) (hD : D.size ≤ 1048576) (hP : P.size ≤ 1048576) (hq : q.size ≤ 1048576) (hr : r.size ≤ 1048576) : Ev (fun k => Bc.f k D P c q r) (appd D P c q r) := by
  have stop : Ev (fun k => Bc.j0 k true D P c q r) (D, P, c, 1) := Ev.step (f := fun _ => some _) (fun k => by simp only [Bc.j0]; rw [if_pos trivial]) (Ev.now _)
  unfold Bc.f
  refine Ev.bind (specLog_ev D P c hD hP) ?_
  by_cases h : logOk D P c = true
  · simp only [if_pos h]
    refine Ev.bind (specRec_ev q r (by omega) (by omega)) ?_
    by_cases g : Eb q r = true
    · unfold appd
      rw [if_pos ⟨h, g⟩, g]
      obtain ⟨c0, c1⟩ := logOk_count h
      have hsz := logOk_size h
      by_cases e : c = 60
      · rw [if_pos e]
        refine Ev.step (f := fun _ => some _) (fun k => ?_) (Ev.now _)
        simp only [Bc.j0]
        rw [if_neg (by decide), if_pos e]
      · rw [if_neg e]
        have hl := line_bytes c0 (by omega) g
        refine Ev.step (f := fun k => (Bg.f k c q r).bind fun t => if P.size + t.size ≤ 9223372036854775807 then some (D, P ++ t, wrap64 (c + 1), 0) else none) (fun k => ?_) (Ev.bind (specLine_ev c q r c0 (by omega) g) ?_)
        · simp only [Bc.j0]
          rw [if_neg (by decide), if_neg e]
        · rw [wrap_id (x := c + 1) (by omega) (by omega)]
          exact ev_eq (fun k => if_pos (by omega))
    · unfold appd
      rw [if_neg (fun z => g z.2)]
      have : Eb q r = false := by simpa using g
      rw [this]; exact stop
  · simp only [if_neg h]
    unfold appd
    rw [if_neg (fun z => h z.1)]
    exact stop
end Go.Proofs.YtkpieljmhgfofaaDoor.X


namespace Go.Proofs.YtkpieljmhgfofaaDoor.X
open Go.RowKit Go.Proofs.YtkpieljmhgfofaaDoorW.PrintWords Go.Proofs.YtkpieljmhgfofaaDoorL
set_option linter.unusedVariables false
set_option linter.unusedSimpArgs false
/-- How much of a text can be read. -/
noncomputable def upTo (s : ByteArray) : Nat := s.size - (reads 60 0 (B s)).2.length
theorem upTo_int (s : ByteArray) : (s.size : Int) - ((reads 60 0 (B s)).2.length : Int) = (upTo s : Int) ∧ upTo s ≤ s.size := by
  have := (Hm 60 0 (B s)).2
  rw [Dw] at this
  unfold upTo; omega
noncomputable def Fj (s : ByteArray) : ByteArray × ByteArray × Int × Int × Bool := if s.size > 30000 then (⟨#[]⟩, ⟨#[]⟩, 0, 0, false) else (s.extract 0 (upTo s), ⟨#[]⟩, ((reads 60 0 (B s)).1.length : Int), (upTo s : Int), true)
theorem specRecover_ev (s : ByteArray) (hs : s.size ≤ 1048576) : Ev (fun k => Dx.f k s) (Fj s) := by
  unfold Dx.f Fj
  obtain ⟨u1, u2⟩ := upTo_int s
  by_cases c : (s.size : Int) > 30000
  · simp only [if_pos c, if_pos (show s.size > 30000 by omega)]; exact Ev.now _
  · simp only [if_neg c, if_neg (show ¬ s.size > 30000 by omega)]
    refine Ev.bind (specOpen_ev s (by omega)) ?_
    simp only [u1, if_pos (show (0 : Int) ≤ (upTo s : Int) by omega), if_pos (show (upTo s : Int) ≤ (s.size : Int) by omega), Int.toNat_natCast]
    exact Ev.now _
theorem implRecover_ev (s : ByteArray) (hs : s.size ≤ 1048576) : Ev (fun k => Dq.f k s) (Fj s) := by
  unfold Dq.f Fj
  obtain ⟨u1, u2⟩ := upTo_int s
  by_cases c : (s.size : Int) > 30000
  · simp only [if_pos c, if_pos (show s.size > 30000 by omega)]; exact Ev.now _
  · simp only [if_neg c, if_neg (show ¬ s.size > 30000 by omega)]
    refine Ev.bind (implReads_ev s (by omega)) ?_
    simp only [u1, if_pos (show (0 : Int) ≤ (upTo s : Int) by omega), if_pos (show (upTo s : Int) ≤ (s.size : Int) by omega), Int.toNat_natCast]
    exact Ev.now _
end Go.Proofs.YtkpieljmhgfofaaDoor.X


-- written by a program of this session (wip/ext.py) out of the translation. Not trusted: Lean checks it.
namespace Go.Proofs.YtkpieljmhgfofaaDoor.X
open Go.RowKit Go.Proofs.YtkpieljmhgfofaaDoorW.PrintWords Go.Proofs.YtkpieljmhgfofaaDoorW.PrintLast Go.Proofs.YtkpieljmhgfofaaDoorW.PrintMore
attribute [local go_sem] max2_int min2_int max_two min_two max_three min_three max_four min_four   -- for this text's walks alone
open Go.Proofs.YtkpieljmhgfofaaDoorG
set_option linter.unusedVariables false
set_option linter.unusedSimpArgs false

def Gq.f (k : Nat) (a0_0 : ByteArray) (a0_1 : ByteArray) (a0_2 : Int) : Option ((List (S27)) × Bool) := (Ec.f k a0_0 a0_1 a0_2).bind fun bt376 => (if bt376.2 = true then (some (bt376.1, true)) else (some (([] : List (S27)), false)))
theorem Gq.mono : ∀ a0 a1 a2 k, LeO (Gq.f k a0 a1 a2) (Gq.f (k + 1) a0 a1 a2) := by
  intro a0 a1 a2 k
  unfold Gq.f
  repeat' first
      | (with_reducible exact Ec.mono _ _ _ _)
      | (with_reducible exact LeO.refl _)
      | (with_reducible exact LeO.none _)
      | (with_reducible refine LeO.ite ?_ ?_)
      | (with_reducible refine LeO.bind ?_ (fun _ => ?_))
      | exact Ec.mono _ _ _ _
      | exact LeO.none _
      | refine LeO.ite ?_ ?_
      | refine LeO.bind ?_ (fun _ => ?_)
set_option maxHeartbeats 8000000 in
set_option maxRecDepth 100000 in
theorem Gq.calls (k : Nat) (a0_0 : ByteArray) (a0_1 : ByteArray) (a0_2 : Int) (r1 : List (S27)) (r2 : Bool) (w : World) (hG : Ea w) (h : Gq.f k a0_0 a0_1 a0_2 = some (r1, r2)) :
    Calls Tryd.prog 31 #[.agg #[.string a0_0, .string a0_1, .int .i64 a0_2]] w fun e w' => ∃ v0_ : Value, e = .returned (.tuple #[v0_, .bool r2]) ∧ Kd.R k27 27 w' w.heap.size (fun _ => True) v0_ r1 ∧ Below w.heap.size w w' := by
  have hu31 := Tryd.underlying31
  have HGL := Aside0.mk hG
  clear hG
  have HB := Aside0.mk (Below.refl w.heap.size w)
  have H : ((Ec.f k a0_0 a0_1 a0_2).bind fun bt376 => (if bt376.2 = true then (some (bt376.1, true)) else (some (([] : List (S27)), false)))) = some (r1, r2) := h
  clear h
  replace H := Option.bind_eq_some_iff.mp H
  obtain ⟨⟨t376, t379⟩, A20, H⟩ := H
  replace H : (if t379 = true then (some (t376, true)) else (some (([] : List (S27)), false))) = some (r1, r2) := H
  have A2 := Aside0.mk A20
  clear A20
  by_cases c3 : t379 = true
  · subst c3
    have H1 : (some (t376, true)) = some (r1, r2) := by rw [if_pos rfl] at H; exact H
    clear H
    have H := H1
    clear H1
    simp only [Option.some.injEq, Prod.mk.injEq] at H
    obtain ⟨rfl, rfl⟩ := H
    go_enter Tryd.func31, Tryd.ntmps31
    go_wp2_with (first | ((with_reducible refine Az (N := 1) rfl ?_); refine Ba ?hg (N := 1) ?hd (cs := #[.string a0_0, .string a0_1, .int .i64 a0_2]) (t := 31) ?hr ?_; (case hd => rfl); (case hg => rfl); (case hr => first | (go_simp; done) | (go_simp; rfl)); intro gb375 hg w4 hbox hb; have n0_ := Aside0.mk (Ag (by repeat (first | (with_reducible first | exact HB.out | apply below_alloc | apply pw_below_drewN | apply below_drew1) | exact HB.out)) hb); have n1_ := Aside0.mk (hbox); have n2_ := Aside0.mk ((by rw [hg]; exact (Ah (by repeat (first | (with_reducible first | exact HB.out | apply below_alloc | apply pw_below_drewN | apply below_drew1) | exact HB.out))) : w.heap.size ≤ gb375)); have n3_ := Aside0.mk ((by rw [hg]; exact (Ah (by repeat (first | (with_reducible first | exact HB.out | apply below_alloc | apply pw_below_drewN | apply below_drew1) | exact HB.out))) : w.heap.size ≤ gb375)); clear HB; have HB := n0_; have BK375 := n1_; have GW375 := n2_; have GE375 := n3_; clear n0_ n1_ n2_ n3_; clear hb hbox hg; have hcz5_0 : w4.cell? ⟨gb375, 0, none⟩ = some (.string a0_0) := (Af BK375.out 0).trans rfl; have hcz5_1 : w4.cell? ⟨gb375, 1, none⟩ = some (.string a0_1) := (Af BK375.out 1).trans rfl; have hcz5_2 : w4.cell? ⟨gb375, 2, none⟩ = some (.int .i64 a0_2) := (Af BK375.out 2).trans rfl; have hfz5_0 := Ae BK375.out 0; have hfz5_1 := Ae BK375.out 1; have hfz5_2 := Ae BK375.out 2) | ((with_reducible refine Am (f := 50) rfl ?_); refine Au (some 8) rfl rfl Tryd.func50 (by kernel_rfl) rfl #[.agg #[.string a0_0, .string a0_1, .int .i64 a0_2]] rfl (by (try simp only [List.map_toArray, List.map_cons, List.map_nil]); first | done | rfl | (simp only [List.length_drop, List.length_take]; rfl)) ?_; (with_reducible refine (Ec.calls k a0_0 a0_1 a0_2 t376 true _ ?side1 A2.out).mono ?_); (case side1 => exact Ea.below HGL.out (by repeat (first | (with_reducible first | exact HB.out | apply below_alloc | apply pw_below_drewN | apply below_drew1 | refine below_set ?_ GE375.out) | exact HB.out))); rintro e w6 ⟨v377, rfl, ho0, hb⟩; refine ⟨_, rfl, ?_⟩; have n0_ := Aside0.mk (Kd.Ef ho0 (Ah (by repeat (first | (with_reducible first | exact HB.out | apply below_alloc | apply pw_below_drewN | apply below_drew1 | refine below_set ?_ GE375.out) | exact HB.out)))); have n1_ := Aside0.mk (Ak (g := gb375) (o := .cells #[.string a0_0, .string a0_1, .int .i64 a0_2] 31 (0, 0)) (by (with_reducible repeat (first | refine Ac ?_ _ | refine Ad ?_ | refine Aa ?_ _)); exact BK375.out) hb); have n2_ := Aside0.mk (Ag (by repeat (first | (with_reducible first | exact HB.out | apply below_alloc | apply pw_below_drewN | apply below_drew1 | refine below_set ?_ GE375.out) | exact HB.out)) hb); clear BK375; clear HB; have HO378 := n0_; have BK375 := n1_; have HB := n2_; clear n0_ n1_ n2_; (try clear hb); (try clear hb2); (try clear hk); (try clear hi); (try clear ho0)))
    go_ret2
    exact ⟨_, by first | rfl | (simp [Aj, Ai] <;> rfl) | (simp [*, Aj, Ai] <;> rfl), by (with_reducible repeat (first | apply Kd.Bj | apply Kd.Bl | apply Kd.Cb)); exact HO378.out, by repeat (first | (with_reducible first | exact HB.out | apply below_alloc | apply pw_below_drewN | apply below_drew1 | refine below_set ?_ GE375.out) | exact HB.out)⟩
  · replace c3 := Bool.eq_false_iff.mpr c3
    subst c3
    have H1 : (some (([] : List (S27)), false)) = some (r1, r2) := by rw [if_neg (show ¬ (false = true) by decide)] at H; exact H
    clear H
    have H := H1
    clear H1
    simp only [Option.some.injEq, Prod.mk.injEq] at H
    obtain ⟨rfl, rfl⟩ := H
    go_enter Tryd.func31, Tryd.ntmps31
    go_wp2_with (first | ((with_reducible refine Az (N := 1) rfl ?_); refine Ba ?hg (N := 1) ?hd (cs := #[.string a0_0, .string a0_1, .int .i64 a0_2]) (t := 31) ?hr ?_; (case hd => rfl); (case hg => rfl); (case hr => first | (go_simp; done) | (go_simp; rfl)); intro gb375 hg w7 hbox hb; have n0_ := Aside0.mk (Ag (by repeat (first | (with_reducible first | exact HB.out | apply below_alloc | apply pw_below_drewN | apply below_drew1) | exact HB.out)) hb); have n1_ := Aside0.mk (hbox); have n2_ := Aside0.mk ((by rw [hg]; exact (Ah (by repeat (first | (with_reducible first | exact HB.out | apply below_alloc | apply pw_below_drewN | apply below_drew1) | exact HB.out))) : w.heap.size ≤ gb375)); have n3_ := Aside0.mk ((by rw [hg]; exact (Ah (by repeat (first | (with_reducible first | exact HB.out | apply below_alloc | apply pw_below_drewN | apply below_drew1) | exact HB.out))) : w.heap.size ≤ gb375)); clear HB; have HB := n0_; have BK375 := n1_; have GW375 := n2_; have GE375 := n3_; clear n0_ n1_ n2_ n3_; clear hb hbox hg; have hcz8_0 : w7.cell? ⟨gb375, 0, none⟩ = some (.string a0_0) := (Af BK375.out 0).trans rfl; have hcz8_1 : w7.cell? ⟨gb375, 1, none⟩ = some (.string a0_1) := (Af BK375.out 1).trans rfl; have hcz8_2 : w7.cell? ⟨gb375, 2, none⟩ = some (.int .i64 a0_2) := (Af BK375.out 2).trans rfl; have hfz8_0 := Ae BK375.out 0; have hfz8_1 := Ae BK375.out 1; have hfz8_2 := Ae BK375.out 2) | ((with_reducible refine Am (f := 50) rfl ?_); refine Au (some 8) rfl rfl Tryd.func50 (by kernel_rfl) rfl #[.agg #[.string a0_0, .string a0_1, .int .i64 a0_2]] rfl (by (try simp only [List.map_toArray, List.map_cons, List.map_nil]); first | done | rfl | (simp only [List.length_drop, List.length_take]; rfl)) ?_; (with_reducible refine (Ec.calls k a0_0 a0_1 a0_2 t376 false _ ?side1 A2.out).mono ?_); (case side1 => exact Ea.below HGL.out (by repeat (first | (with_reducible first | exact HB.out | apply below_alloc | apply pw_below_drewN | apply below_drew1 | refine below_set ?_ GE375.out) | exact HB.out))); rintro e w9 ⟨v377, rfl, ho0, hb⟩; refine ⟨_, rfl, ?_⟩; have n0_ := Aside0.mk (Kd.Ef ho0 (Ah (by repeat (first | (with_reducible first | exact HB.out | apply below_alloc | apply pw_below_drewN | apply below_drew1 | refine below_set ?_ GE375.out) | exact HB.out)))); have n1_ := Aside0.mk (Ak (g := gb375) (o := .cells #[.string a0_0, .string a0_1, .int .i64 a0_2] 31 (0, 0)) (by (with_reducible repeat (first | refine Ac ?_ _ | refine Ad ?_ | refine Aa ?_ _)); exact BK375.out) hb); have n2_ := Aside0.mk (Ag (by repeat (first | (with_reducible first | exact HB.out | apply below_alloc | apply pw_below_drewN | apply below_drew1 | refine below_set ?_ GE375.out) | exact HB.out)) hb); clear BK375; clear HB; have HO378 := n0_; have BK375 := n1_; have HB := n2_; clear n0_ n1_ n2_; (try clear hb); (try clear hb2); (try clear hk); (try clear hi); (try clear ho0)))
    go_ret2
    exact ⟨_, by first | rfl | (simp [Aj, Ai] <;> rfl) | (simp [*, Aj, Ai] <;> rfl), by first | exact Kd.R_nil _ _ _ _ _ | exact Kd.N_nil _ _ _ _ _ | exact Kd.V_nil _ _ _ _ _ | exact Kd.Q_nil _ _ _ _ _ | exact Kd.S_nil _ _ _ _ _, by repeat (first | (with_reducible first | exact HB.out | apply below_alloc | apply pw_below_drewN | apply below_drew1 | refine below_set ?_ GE375.out) | exact HB.out)⟩

end Go.Proofs.YtkpieljmhgfofaaDoor.X


namespace Go.Proofs.YtkpieljmhgfofaaDoor.X
open Go.RowKit Go.Proofs.YtkpieljmhgfofaaDoorW.PrintWords Go.Proofs.YtkpieljmhgfofaaDoorL
set_option linter.unusedVariables false
set_option linter.unusedSimpArgs false
def okB (l : List Int) : Prop := ∀ y ∈ l, 0 ≤ y ∧ y ≤ 255
theorem okB_of {l : List Int} (h : ∀ y ∈ l, (Lit.int .u8 y).wf = true) : okB l := fun y hy => by have := h y hy; simpa [Lit.wf, IntKind.min, IntKind.max, IntKind.signed, IntKind.bits] using this
theorem bits255 (x : Int) : 0 ≤ Go.bits .and .u64 x 255 ∧ Go.bits .and .u64 x 255 ≤ 255 := by
  have h : (BitVec.ofInt 64 x &&& BitVec.ofInt 64 255).toNat ≤ 255 := by
    rw [BitVec.toNat_and]; exact Nat.le_trans Nat.and_le_right (by decide)
  have e : Go.bits .and .u64 x 255 = IntKind.u64.wrap ((BitVec.ofInt 64 x &&& BitVec.ofInt 64 255).toNat : Int) := rfl
  rw [e]
  generalize (BitVec.ofInt 64 x &&& BitVec.ofInt 64 255).toNat = n at h
  have : IntKind.u64.wrap (n : Int) = (n : Int) := by
    simp only [IntKind.wrap, IntKind.bits, IntKind.signed]
    simp
    omega
  rw [this]; omega
theorem rd_okB {l : List Int} (h : okB l) (p : Int) : 0 ≤ rd l p ∧ rd l p ≤ 255 := by
  unfold rd
  rw [List.getD_eq_getElem?_getD]
  cases e : l[p.toNat]? with
  | none => simp
  | some y => simpa using h y (List.mem_of_getElem? e)
theorem next_ok {l : List Int} (h : okB l) (p s : Int) (h0 : 0 ≤ p) (h1 : p ≤ 1000000000000) : ∃ v s', E8.f l p s = some (v, p + 1, s') ∧ 0 ≤ v ∧ v ≤ 255 := by
  have hr := rd_okB h p
  have hw : wrap64 (p + 1) = p + 1 := wrap_id (by omega) (by omega)
  have hr2 : wrap64 (rd l p) = rd l p := wrap_id (by omega) (by omega)
  unfold E8.f
  rw [hw]
  have hb : ∀ x, 0 ≤ wrap64 (Go.bits .and .u64 x 255) ∧ wrap64 (Go.bits .and .u64 x 255) ≤ 255 := fun x => by have := bits255 x; rw [wrap_id (by omega) (by omega)]; exact this
  by_cases a : p < (l.length : Int)
  · rw [if_pos a, if_pos h0]
    by_cases b : p + 1 ≤ (l.length : Int)
    · rw [if_pos b]; exact ⟨_, _, rfl, by omega, by omega⟩
    · omega
  · rw [if_neg a]
    by_cases b : p + 1 ≤ (l.length : Int)
    · omega
    · rw [if_neg b]; exact ⟨_, _, rfl, (hb _).1, (hb _).2⟩
/-- What every draw gives: a value with a property, and a cursor moved on by n at most. -/
def Drawn {α : Type} (o : Option (α × Int × Int)) (p : Int) (n : Int) (q : α → Prop) : Prop := ∃ v p' s', o = some (v, p', s') ∧ q v ∧ p ≤ p' ∧ p' ≤ p + n
theorem Gx {l : List Int} (h : okB l) (p s a : Int) (h0 : 0 ≤ p) (h1 : p ≤ 900000000000) (ha : a ≤ 9223372036854775807) : Drawn (spec_l1Cur_pick.f l p s a) p 2 (fun v => 0 ≤ v ∧ (1 ≤ a → v < a) ∧ (a ≤ 1 → v = 0)) := by
  unfold spec_l1Cur_pick.f
  by_cases c : a ≤ 1
  · rw [if_pos c]; exact ⟨0, p, s, rfl, ⟨by omega, by omega, fun _ => rfl⟩, by omega, by omega⟩
  · rw [if_neg c]
    obtain ⟨v, s1, e, v0, v1⟩ := next_ok h p s h0 (by omega)
    rw [e]
    simp only [Option.bind_some]
    by_cases d : a > 200
    · rw [if_pos d]
      obtain ⟨w, s2, e2, w0, w1⟩ := next_ok h (p + 1) s1 (by omega) (by omega)
      rw [e2]
      simp only [Option.bind_some]
      rw [if_neg (by omega), wrap_id (x := v * 256) (by omega) (by omega), wrap_id (x := v * 256 + w) (by omega) (by omega)]
      exact ⟨_, _, _, rfl, ⟨Int.tmod_nonneg _ (by omega), fun _ => Int.tmod_lt_of_pos _ (by omega), fun z => absurd z c⟩, by omega, by omega⟩
    · rw [if_neg d, if_neg (by omega)]
      exact ⟨_, _, _, rfl, ⟨Int.tmod_nonneg _ v0, fun _ => Int.tmod_lt_of_pos _ (by omega), fun z => absurd z c⟩, by omega, by omega⟩
theorem one_ok {l : List Int} (h : okB l) (p s a : Int) (h0 : 0 ≤ p) (h1 : p ≤ 900000000000) (ha : a ≤ 9223372036854775807) : Drawn (Ez.f l p s a) p 2 (fun _ => True) := by
  obtain ⟨v, p', s', e, q, b⟩ := Gx h p s a h0 h1 ha
  exact ⟨v == 0, p', s', by unfold Ez.f; rw [e]; rfl, trivial, b⟩
theorem among_ok {l : List Int} (h : okB l) (p s : Int) (x : List Int) (h0 : 0 ≤ p) (h1 : p ≤ 900000000000) (hx : 1 ≤ x.length) (hx2 : x.length ≤ 9223372036854775807) : Drawn (Fz.f l p s x) p 2 (fun v => v ∈ x) := by
  obtain ⟨v, p', s', e, q, b⟩ := Gx h p s x.length h0 h1 (by omega)
  have hlt := q.2.1 (by omega)
  have e3 : v = (v.toNat : Int) := by omega
  refine ⟨rd x v, p', s', ?_, ?_, b⟩
  · unfold Fz.f; rw [e]; simp only [Option.bind_some]; rw [if_pos q.1, if_pos hlt]
  · rw [e3, rd_at x v.toNat (by omega)]; exact List.getElem_mem _
end Go.Proofs.YtkpieljmhgfofaaDoor.X


namespace Go.Proofs.YtkpieljmhgfofaaDoor.X
open Go.RowKit Go.Proofs.YtkpieljmhgfofaaDoorW.PrintWords Go.Proofs.YtkpieljmhgfofaaDoorL
set_option linter.unusedVariables false
set_option linter.unusedSimpArgs false
theorem of_ok {l : List Int} (h : okB l) (p s : Int) (x : List ByteArray) (h0 : 0 ≤ p) (h1 : p ≤ 900000000000) (hx : 1 ≤ x.length) (hx2 : x.length ≤ 1000) : Drawn (Dj.f l p s x) p 2 (fun v => v ∈ x) := by
  obtain ⟨v, p', s', e, q, b⟩ := Gx h p s x.length h0 h1 (by omega)
  have hlt := q.2.1 (by omega)
  have hv : v.toNat < x.length := by omega
  refine ⟨Bh ByteArray.empty x v, p', s', ?_, ?_, b⟩
  · unfold Dj.f; rw [e]; simp only [Option.bind_some]; rw [if_pos q.1, if_pos hlt]
  · simp only [Bh, List.getD_eq_getElem?_getD, List.getElem?_eq_getElem hv, Option.getD_some]; exact List.getElem_mem _
theorem logRecord_ok {l : List Int} (h : okB l) (p s : Int) (h0 : 0 ≤ p) (h1 : p ≤ 800000000000) : ∃ q r p' s', Du.f l p s = some (q, r, p', s') ∧ q.size ≤ 20 ∧ r.size ≤ 20 ∧ p ≤ p' ∧ p' ≤ p + 8 := by
  unfold Du.f
  obtain ⟨v1, p1, s1, e1, m1, b1, b1'⟩ := of_ok h p s [(⟨#[99, 111, 117, 110, 116]⟩ : ByteArray), (⟨#[115, 111, 114, 116, 32, 109, 101, 114, 103, 101]⟩ : ByteArray), (⟨#[120]⟩ : ByteArray), (⟨#[115, 101, 108, 101, 99, 116, 32, 50]⟩ : ByteArray), (⟨#[48, 32, 49]⟩ : ByteArray)] h0 (by omega) (by simp) (by simp)
  have z1 : v1.size ≤ 20 := (show ∀ v ∈ [(⟨#[99, 111, 117, 110, 116]⟩ : ByteArray), (⟨#[115, 111, 114, 116, 32, 109, 101, 114, 103, 101]⟩ : ByteArray), (⟨#[120]⟩ : ByteArray), (⟨#[115, 101, 108, 101, 99, 116, 32, 50]⟩ : ByteArray), (⟨#[48, 32, 49]⟩ : ByteArray)], v.size ≤ 20 by decide) _ m1
  rw [e1]; simp only [Option.bind_some]
  obtain ⟨v2, p2, s2, e2, m2, b2, b2'⟩ := of_ok h p1 s1 [(⟨#[]⟩ : ByteArray), (⟨#[51]⟩ : ByteArray), (⟨#[63]⟩ : ByteArray), (⟨#[97, 64, 98]⟩ : ByteArray), (⟨#[51, 32, 49, 32, 50]⟩ : ByteArray)] (by omega) (by omega) (by simp) (by simp)
  have z2 : v2.size ≤ 20 := (show ∀ v ∈ [(⟨#[]⟩ : ByteArray), (⟨#[51]⟩ : ByteArray), (⟨#[63]⟩ : ByteArray), (⟨#[97, 64, 98]⟩ : ByteArray), (⟨#[51, 32, 49, 32, 50]⟩ : ByteArray)], v.size ≤ 20 by decide) _ m2
  rw [e2]; simp only [Option.bind_some]
  obtain ⟨v3, p3, s3, e3, _, b3, b3'⟩ := Gx h p2 s2 24 (by omega) (by omega) (by omega)
  rw [e3]; simp only [Option.bind_some]
  by_cases c1 : v3 = 0
  · rw [if_pos c1, if_pos (by omega)]
    obtain ⟨v4, p4, s4, e4, m4, b4, b4'⟩ := of_ok h p3 s3 [(⟨#[]⟩ : ByteArray), (⟨#[97, 64, 98]⟩ : ByteArray), (⟨#[97, 35]⟩ : ByteArray), (⟨#[10]⟩ : ByteArray), strOfNums (List.replicate 3 0)] (by omega) (by omega) (by simp) (by simp)
    have z4 : v4.size ≤ 20 := (show ∀ v ∈ [(⟨#[]⟩ : ByteArray), (⟨#[97, 64, 98]⟩ : ByteArray), (⟨#[97, 35]⟩ : ByteArray), (⟨#[10]⟩ : ByteArray), strOfNums (List.replicate 3 0)], v.size ≤ 20 by decide) _ m4
    rw [e4]; simp only [Option.bind_some]
    exact ⟨_, _, _, _, rfl, z4, z2, by omega, by omega⟩
  · rw [if_neg c1]
    by_cases c2 : v3 = 1
    · rw [if_pos c2]
      obtain ⟨v4, p4, s4, e4, m4, b4, b4'⟩ := of_ok h p3 s3 [(⟨#[35]⟩ : ByteArray), (⟨#[10]⟩ : ByteArray), (⟨#[127]⟩ : ByteArray)] (by omega) (by omega) (by simp) (by simp)
      have z4 : v4.size ≤ 20 := (show ∀ v ∈ [(⟨#[35]⟩ : ByteArray), (⟨#[10]⟩ : ByteArray), (⟨#[127]⟩ : ByteArray)], v.size ≤ 20 by decide) _ m4
      rw [e4]; simp only [Option.bind_some]
      exact ⟨_, _, _, _, rfl, z1, z4, by omega, by omega⟩
    · rw [if_neg c2]
      exact ⟨_, _, _, _, rfl, z1, z2, by omega, by omega⟩
noncomputable def syncd (D P : ByteArray) (c : Int) : ByteArray × ByteArray × Int × Bool := if logOk D P c = true then (D ++ P, ⟨#[]⟩, c, true) else (⟨#[]⟩, ⟨#[]⟩, 0, false)
theorem specSync_ev (D P : ByteArray) (c : Int) (hD : D.size ≤ 1048576) (hP : P.size ≤ 1048576) : Ev (fun k => En.f k D P c) (syncd D P c) := by
  unfold En.f syncd
  refine Ev.bind (specLog_ev D P c hD hP) ?_
  simp only [if_pos (show D.size + P.size ≤ 9223372036854775807 by omega)]
  by_cases h : logOk D P c = true
  · simp only [if_pos h]; exact Ev.now _
  · simp only [if_neg h]; exact Ev.now _
theorem appd_size (D P : ByteArray) (c : Int) (q r : ByteArray) : (appd D P c q r).1.size + (appd D P c q r).2.1.size ≤ D.size + P.size + 406 := by
  unfold appd
  by_cases h : logOk D P c = true ∧ Eb q r = true
  · rw [if_pos h]
    obtain ⟨c0, c1⟩ := logOk_count h.1
    by_cases e : c = 60
    · rw [if_pos e]; simp only; omega
    · rw [if_neg e]
      have := line_bytes c0 (by omega) h.2
      simp only [ByteArray.size_append]; omega
  · rw [if_neg h]; simp only; omega
theorem syncd_size (D P : ByteArray) (c : Int) : (syncd D P c).1.size + (syncd D P c).2.1.size ≤ D.size + P.size := by
  unfold syncd
  by_cases h : logOk D P c = true
  · rw [if_pos h]; simp only [ByteArray.size_append]; show _ + 0 ≤ _; omega
  · rw [if_neg h]; show 0 + 0 ≤ _; omega
theorem log_ok {l : List Int} (h : okB l) (p s : Int) (h0 : 0 ≤ p) (h1 : p ≤ 700000000000) : ∃ D P c p' s', Ev (fun k => Bf.f k l p s) (D, P, c, p', s') ∧ D.size + P.size ≤ 3000 ∧ p ≤ p' ∧ p' ≤ p + 100 := by
  unfold Bf.f
  obtain ⟨v, p1, s1, e1, q, b1, b1'⟩ := Gx h p s 7 h0 (by omega) (by omega)
  have key : ∀ (d : Nat) (D P : ByteArray) (c p s : Int), d ≤ 7 → 0 ≤ p → p + 10 * (d : Int) ≤ 700000001000 → D.size + P.size + 406 * d ≤ 3000 →
      ∃ D' P' c' p' s', Ev (fun k => Bf.l0 k (d : Int) l p s D P c) (D', P', c', p', s') ∧ D'.size + P'.size ≤ 3000 ∧ p ≤ p' ∧ p' ≤ p + 10 * d := by
    intro d
    induction d with
    | zero =>
      intro D P c p s hd hp hp2 hz
      exact ⟨D, P, c, p, s, Ev.step (f := fun _ => some _) (fun k => by simp only [Bf.l0]; rw [if_neg (by omega)]) (Ev.now _), by omega, by omega, by omega⟩
    | succ d ih =>
      intro D P c p s hd hp hp2 hz
      obtain ⟨q, r, p2, s2, e2, z1, z2, b2, b2'⟩ := logRecord_ok h p s hp (by omega)
      have ha := specAppend_ev D P c q r (by omega) (by omega) (by omega) (by omega)
      have hsz := appd_size D P c q r
      obtain ⟨t, p3, s3, e3, _, b3, b3'⟩ := one_ok h p2 s2 4 (by omega) (by omega) (by omega)
      generalize appd D P c q r = A at ha hsz
      have hw : wrap64 (((d + 1 : Nat) : Int) - 1) = (d : Int) := by rw [wrap_id (by omega) (by omega)]; omega
      by_cases ht : t = true
      · have hs := specSync_ev A.1 A.2.1 A.2.2.1 (by omega) (by omega)
        have hsy := syncd_size A.1 A.2.1 A.2.2.1
        generalize syncd A.1 A.2.1 A.2.2.1 = Y at hs hsy
        obtain ⟨D', P', c', p', s', hev, hz', q1, q2⟩ := ih Y.1 Y.2.1 Y.2.2.1 p3 s3 (by omega) (by omega) (by omega) (by omega)
        refine ⟨D', P', c', p', s', ?_, hz', by omega, by omega⟩
        refine Ev.step (f := fun k => (Bc.f k D P c q r).bind fun bt480 => (En.f k bt480.1 bt480.2.1 bt480.2.2.1).bind fun bt487 => Bf.l0 k (d : Int) l p3 s3 bt487.1 bt487.2.1 bt487.2.2.1) (fun k => ?_) (Ev.bind ha (Ev.bind hs hev))
        simp only [Bf.l0]
        rw [if_pos (by omega), e2, Option.bind_some]
        refine congrArg _ (funext fun bt480 => ?_)
        show ((Ez.f l p2 s2 4).bind _) = _
        rw [e3, Option.bind_some]
        show (if t = true then _ else _) = _
        rw [if_pos ht, hw]
      · obtain ⟨D', P', c', p', s', hev, hz', q1, q2⟩ := ih A.1 A.2.1 A.2.2.1 p3 s3 (by omega) (by omega) (by omega) (by omega)
        refine ⟨D', P', c', p', s', ?_, hz', by omega, by omega⟩
        refine Ev.step (f := fun k => (Bc.f k D P c q r).bind fun bt480 => Bf.l0 k (d : Int) l p3 s3 bt480.1 bt480.2.1 bt480.2.2.1) (fun k => ?_) (Ev.bind ha hev)
        simp only [Bf.l0]
        rw [if_pos (by omega), e2, Option.bind_some]
        refine congrArg _ (funext fun bt480 => ?_)
        show ((Ez.f l p2 s2 4).bind _) = _
        rw [e3, Option.bind_some]
        show (if t = true then _ else _) = _
        rw [if_neg ht, hw]
  obtain ⟨d, rfl⟩ := Int.eq_ofNat_of_zero_le q.1
  have hd := q.2.1 (by omega)
  obtain ⟨D', P', c', p', s', hev, hz', q1, q2⟩ := key d ⟨#[]⟩ ⟨#[]⟩ 0 p1 s1 (by omega) (by omega) (by omega) (by show 0 + 0 + 406 * d ≤ 3000; omega)
  refine ⟨D', P', c', p', s', ?_, hz', by omega, by omega⟩
  rw [e1]
  simp only [Option.bind_some]
  exact hev
theorem spoilt_ok {l : List Int} (h : okB l) (p s : Int) (a b : ByteArray) (h0 : 0 ≤ p) (h1 : p ≤ 800000000000) (ha : a.size ≤ 1000000) (hb : 1 ≤ b.size) (hb2 : b.size ≤ 100) : Drawn (spec_l1Cur_spoilt.f l p s a b) p 6 (fun v => v.size ≤ a.size + 1) := by
  unfold spec_l1Cur_spoilt.f
  by_cases c : a.toList = ([] : List UInt8)
  · rw [if_pos c, if_pos (by omega)]
    exact ⟨_, _, _, rfl, by simp only [ByteArray.size_extract]; omega, by omega, by omega⟩
  · rw [if_neg c]
    have ha1 : 1 ≤ a.size := by
      rcases Nat.eq_zero_or_pos a.size with e | e
      · exfalso; apply c; rw [Hf]; exact List.length_eq_zero_iff.1 (by rw [Dw]; exact e)
      · exact e
    obtain ⟨v1, p1, s1, e1, m1, b1, b1'⟩ := Gx h p s a.size h0 (by omega) (by omega)
    obtain ⟨v2, p2, s2, e2, m2, b2, b2'⟩ := Gx h p1 s1 b.size (by omega) (by omega) (by omega)
    obtain ⟨v3, p3, s3, e3, m3, b3, b3'⟩ := Gx h p2 s2 3 (by omega) (by omega) (by omega)
    have k1 := m1.2.1 (by omega)
    have k2 := m2.2.1 (by omega)
    rw [e1]; simp only [Option.bind_some]
    rw [e2]; simp only [Option.bind_some]
    rw [e3]; simp only [Option.bind_some]
    rw [if_pos ⟨⟨m2.1, k2⟩, ⟨m1.1, k1⟩, by omega, by omega⟩]
    by_cases d0 : v3 = 0
    · rw [if_pos d0]
      exact ⟨_, _, _, rfl, by simp only [ByteArray.size_append, ByteArray.size_extract]; omega, by omega, by omega⟩
    · rw [if_neg d0]
      by_cases d1 : v3 = 1
      · rw [if_pos d1]
        exact ⟨_, _, _, rfl, by simp only [ByteArray.size_append, ByteArray.size_extract]; omega, by omega, by omega⟩
      · rw [if_neg d1]
        exact ⟨_, _, _, rfl, by simp only [ByteArray.size_append, ByteArray.size_extract]; omega, by omega, by omega⟩
theorem lineAny_ok (n : Int) (c r : ByteArray) (h0 : 0 ≤ n) (h1 : n ≤ 1000) (hc : c.size ≤ 1000) (hr : r.size ≤ 1000) : ∃ y, Ev (fun k => Bg.f k n c r) y ∧ y.size ≤ 3000 := by
  have hd := Gs n (by omega) (by omega)
  have hb := Hu n c r
  have hz := (Ho (Ej n c r)).2
  refine ⟨Eg n c r, ?_, by unfold Eg; rw [ByteArray.size_append]; show _ + 1 ≤ _; omega⟩
  unfold Bg.f
  refine Ev.bind (specNum_ev n (by omega) (by omega)) ?_
  refine Ev.congr (f := fun k => (Fa.f k (Ej n c r)).bind fun t113 => (if t113.size + 1 ≤ 9223372036854775807 then (some (t113 ++ (⟨#[10]⟩ : ByteArray))) else (none))) (fun k => ?_) (Ev.bind (specSeal_ev _ (by omega)) (Ev.congr (fun k => if_pos (by omega)) (Ev.now _)))
  have z1 : (dec n ++ (⟨#[32]⟩ : ByteArray)).size = (dec n).size + 1 := by rw [ByteArray.size_append]; rfl
  have z2 : ((dec n ++ (⟨#[32]⟩ : ByteArray)) ++ c).size = (dec n).size + 1 + c.size := by rw [ByteArray.size_append, z1]
  have z3 : (((dec n ++ (⟨#[32]⟩ : ByteArray)) ++ c) ++ (⟨#[64]⟩ : ByteArray)).size = (dec n).size + 1 + c.size + 1 := by rw [ByteArray.size_append, z2]; rfl
  rw [if_pos (by omega), if_pos (by omega), if_pos (by omega), if_pos (by omega)]
  rfl
theorem drawRecover_ok {l : List Int} (h : okB l) : ∃ t, Ev (fun k => Aq.f k l) t ∧ t.size ≤ 40000 := by
  have fin : ∀ (x : ByteArray) (p s : Int), 0 ≤ p → p ≤ 700000100000 → x.size ≤ 40000 → ∃ t, Ev (fun k => Aq.j0 k x l p s) t ∧ t.size ≤ 40000 := by
    intro x p s h0 h1 hx
    obtain ⟨t, p3, s3, e3, _, b3, b3'⟩ := one_ok h p s 40 h0 (by omega) (by omega)
    by_cases ht : t = true
    · obtain ⟨v, p4, s4, e4, m4, b4, b4'⟩ := Gx h p3 s3 2 (by omega) (by omega) (by omega)
      have hv := m4.2.1 (by omega)
      have hw : wrap64 (30000 + v) = 30000 + v := wrap_id (by omega) (by omega)
      refine ⟨strOfNums (List.replicate (30000 + v).toNat 0), Ev.step (f := fun _ => some _) (fun k => ?_) (Ev.now _), by rw [strOfNums_size, List.length_replicate]; omega⟩
      simp only [Aq.j0]
      rw [e3]; simp only [Option.bind_some]
      rw [if_pos ht, e4]; simp only [Option.bind_some]
      rw [hw, if_pos (by omega), if_pos (by omega)]
    · refine ⟨x, Ev.step (f := fun _ => some _) (fun k => ?_) (Ev.now _), hx⟩
      simp only [Aq.j0]
      rw [e3]; simp only [Option.bind_some]
      rw [if_neg ht]
  unfold Aq.f
  obtain ⟨D, P, c, p1, s1, hlog, hz, b1, b1'⟩ := log_ok h 0 0 (by omega) (by omega)
  have hDP : (D ++ P).size = D.size + P.size := ByteArray.size_append
  obtain ⟨v, p2, s2, e2, m2, b2, b2'⟩ := Gx h p1 s1 4 (by omega) (by omega) (by omega)
  suffices hs : ∃ t, Ev (fun k => if v = 0 then ((spec_l1Cur_spoilt.f l p2 s2 (D ++ P) (⟨#[35, 64, 10, 48, 49]⟩ : ByteArray)).bind fun bt613 => (Aq.j0 k bt613.1 l bt613.2.1 bt613.2.2)) else (if v = 1 then ((spec_l1Cur_pick.f l p2 s2 (wrap64 (((D ++ P).size : Int) + 1))).bind fun bt616 => (if 0 ≤ bt616.1 then (if bt616.1 ≤ ((D ++ P).size : Int) then (Aq.j0 k ((D ++ P).extract 0 (bt616.1 : Int).toNat) l bt616.2.1 bt616.2.2) else (none)) else (none))) else (if v = 2 then ((spec_l1Cur_pick.f l p2 s2 4).bind fun bt619 => ((Du.f l bt619.2.1 bt619.2.2).bind fun bt622 => ((Bg.f k bt619.1 bt622.1 bt622.2.1).bind fun t626 => (if (D ++ P).size + t626.size ≤ 9223372036854775807 then (Aq.j0 k ((D ++ P) ++ t626) l bt622.2.2.1 bt622.2.2.2) else (none))))) else (Aq.j0 k (D ++ P) l p2 s2)))) t ∧ t.size ≤ 40000 by
    obtain ⟨t, ht, hq⟩ := hs
    refine ⟨t, Ev.bind hlog ?_, hq⟩
    refine Ev.congr (fun k => ?_) ht
    rw [if_pos (show D.size + P.size ≤ 9223372036854775807 by omega), e2]
    rfl
  by_cases c0 : v = 0
  · obtain ⟨x, p3, s3, e3, hx, b3, b3'⟩ := spoilt_ok h p2 s2 (D ++ P) ⟨#[35, 64, 10, 48, 49]⟩ (by omega) (by omega) (by omega) (by decide) (by decide)
    obtain ⟨t, ht, hq⟩ := fin x p3 s3 (by omega) (by omega) (by omega)
    refine ⟨t, Ev.congr (fun k => ?_) ht, hq⟩
    rw [if_pos c0, e3]; rfl
  · by_cases c1 : v = 1
    · have hw : wrap64 (((D ++ P).size : Int) + 1) = ((D ++ P).size : Int) + 1 := wrap_id (by omega) (by omega)
      obtain ⟨x, p3, s3, e3, m3, b3, b3'⟩ := Gx h p2 s2 (((D ++ P).size : Int) + 1) (by omega) (by omega) (by omega)
      have hlt : x ≤ ((D ++ P).size : Int) := by
        by_cases z : 1 ≤ ((D ++ P).size : Int) + 1
        · have := m3.2.1 z; omega
        · omega
      obtain ⟨t, ht, hq⟩ := fin ((D ++ P).extract 0 x.toNat) p3 s3 (by omega) (by omega) (by simp only [ByteArray.size_extract]; omega)
      refine ⟨t, Ev.congr (fun k => ?_) ht, hq⟩
      rw [if_neg c0, if_pos c1, hw, e3]
      simp only [Option.bind_some]
      rw [if_pos m3.1, if_pos hlt]
    · by_cases c2 : v = 2
      · obtain ⟨x, p3, s3, e3, m3, b3, b3'⟩ := Gx h p2 s2 4 (by omega) (by omega) (by omega)
        have hx := m3.2.1 (by omega)
        obtain ⟨q, r, p4, s4, e4, z1, z2, b4, b4'⟩ := logRecord_ok h p3 s3 (by omega) (by omega)
        obtain ⟨y, hy, hys⟩ := lineAny_ok x q r m3.1 (by omega) (by omega) (by omega)
        have hle : (D ++ P).size + y.size ≤ 9223372036854775807 := by omega
        have hyz : ((D ++ P) ++ y).size ≤ 40000 := by rw [ByteArray.size_append]; omega
        obtain ⟨t, ht, hq⟩ := fin ((D ++ P) ++ y) p4 s4 (by omega) (by omega) hyz
        refine ⟨t, Ev.congr (f := fun k => (Bg.f k x q r).bind fun t626 => (if (D ++ P).size + t626.size ≤ 9223372036854775807 then (Aq.j0 k ((D ++ P) ++ t626) l p4 s4) else (none))) (fun k => ?_) (Ev.bind hy (Ev.congr (fun k => if_pos hle) ht)), hq⟩
        rw [if_neg c0, if_neg c1, if_pos c2, e3]
        simp only [Option.bind_some]
        rw [e4]
        rfl
      · obtain ⟨t, ht, hq⟩ := fin (D ++ P) p2 s2 (by omega) (by omega) (by omega)
        refine ⟨t, Ev.congr (fun k => ?_) ht, hq⟩
        rw [if_neg c0, if_neg c1, if_neg c2]
end Go.Proofs.YtkpieljmhgfofaaDoor.X


namespace Go.Proofs.YtkpieljmhgfofaaDoor.X
open Go.RowKit Go.Proofs.YtkpieljmhgfofaaDoorW.PrintWords Go.Proofs.YtkpieljmhgfofaaDoorL
set_option linter.unusedVariables false
set_option linter.unusedSimpArgs false
theorem reads_split : ∀ (d n : Nat) (s : List UInt8), n + d ≤ 60 → ∃ pre, s = pre ++ (reads d n s).2 ∧ reads d n pre = ((reads d n s).1, [])
  | 0, n, s, _ => ⟨[], by simp [reads], by simp [reads]⟩
  | d + 1, n, s, hn => by
    cases h : recAt (n : Int) s with
    | none => exact ⟨[], by rw [F6 h]; rfl, by rw [F6 h, F6 (recAt_nil _)]⟩
    | some p =>
      obtain ⟨pre, e1, e2⟩ := reads_split d (n + 1) p.2.2 (by omega)
      have hp := recAt_is h
      rw [G6 h]
      refine ⟨B (Eg (n : Int) p.1 p.2.1) ++ pre, ?_, ?_⟩
      · simp only; rw [List.append_assoc, ← e1]; exact hp.2
      · rw [G6 (He (by omega) (by omega) (show F5 (n : Int) (B (Eg (n : Int) p.1 p.2.1) ++ pre) p.1 p.2.1 pre from ⟨hp.1, rfl⟩)), e2]
theorem recov_ok (t : ByteArray) (ht : t.size ≤ 30000) : Fj t = (t.extract 0 (upTo t), ⟨#[]⟩, ((reads 60 0 (B t)).1.length : Int), (upTo t : Int), true) ∧ logOk (t.extract 0 (upTo t)) ⟨#[]⟩ ((reads 60 0 (B t)).1.length : Int) = true := by
  refine ⟨by unfold Fj; rw [if_neg (by omega)], ?_⟩
  obtain ⟨pre, e1, e2⟩ := reads_split 60 0 (B t) (by omega)
  have hl := congrArg List.length e1
  rw [List.length_append, Dw] at hl
  have hB : B (t.extract 0 (upTo t)) = pre := by
    rw [Gp]
    have : upTo t - 0 = pre.length := by unfold upTo; omega
    rw [this]
    conv => lhs; rw [e1]
    simp
  unfold logOk allOf
  have e0 : B (⟨#[]⟩ : ByteArray) = [] := rfl
  rw [hB, e0, List.append_nil, e2]
  simp
theorem implSync_ev (D P : ByteArray) (c : Int) (hD : D.size ≤ 1048576) (hP : P.size ≤ 1048576) : Ev (fun k => Eh.f k D P c) (syncd D P c) := by
  unfold Eh.f Cm.f syncd
  refine Ev.bind (Ev.bind (implRecs_ev D P c hD hP) (Ev.now _)) ?_
  simp only [if_pos (show D.size + P.size ≤ 9223372036854775807 by omega)]
  by_cases h : logOk D P c = true
  · simp only [if_pos h]; exact Ev.now _
  · simp only [if_neg h]; exact Ev.now _
theorem implValid_ev (D P : ByteArray) (c : Int) (hD : D.size ≤ 1048576) (hP : P.size ≤ 1048576) : Ev (fun k => Cm.f k D P c) (logOk D P c) := by
  unfold Cm.f
  exact Ev.bind (implRecs_ev D P c hD hP) (Ev.now _)
theorem itoa_32 (n : Int) (h : 0 ≤ n) : (32 : UInt8) ∉ Lib.itoa n := fun hm => by
  have := (itoa_range n h _ hm).1
  revert this; decide
theorem itoa_zero {n : Int} (h0 : 0 ≤ n) (h1 : n ≤ 59) (e : Lib.itoa 0 = Lib.itoa n) : n = 0 := by
  obtain ⟨u, rfl⟩ := Int.eq_ofNat_of_zero_le h0
  have z : Lib.itoa 0 = [48] := by unfold Lib.itoa; rw [if_neg (by omega), Lib.decDigits, dif_pos (by decide)]; rfl
  rw [z] at e
  unfold Lib.itoa at e
  rw [if_neg (by omega), Int.toNat_natCast] at e
  by_cases h : u < 10
  · rw [Lib.decDigits, dif_pos h] at e
    simp only [List.cons.injEq, and_true] at e
    have := congrArg UInt8.toNat e
    have h2 : (UInt8.ofNat (48 + u)).toNat = 48 + u := by simp; omega
    rw [h2] at this
    have h3 : (48 : UInt8).toNat = 48 := rfl
    omega
  · rw [Lib.decDigits, dif_neg h] at e
    have := congrArg List.length e
    rw [List.length_append, Lib.decDigits, dif_pos (by omega)] at this
    simp at this
theorem first_zero {n : Int} {q r : ByteArray} (h0 : 0 ≤ n) (h1 : n ≤ 59) (hg : Eb q r = true) (hn : n ≠ 0) : recAt 0 (B (Eg n q r)) = none := by
  refine Hy (fun c r' t h => hn ?_)
  have hl := h.line (by omega)
  rw [B_line, cutL_hit 10 _ _ (sealed_no10 h0 hg)] at hl
  simp only [Prod.mk.injEq] at hl
  have e1 := body_cut h0 h1 hg
  rw [hl.1, body_cut (by omega) (by omega) h.1] at e1
  simp only [Prod.mk.injEq] at e1
  have e2 := e1.1
  rw [B_body, B_body] at e2
  have e3 := cutL_hit 32 (Lib.itoa 0) (B c ++ 64 :: B r') (itoa_32 0 (by omega))
  rw [e2, cutL_hit 32 (Lib.itoa n) _ (itoa_32 n h0)] at e3
  simp only [Prod.mk.injEq] at e3
  exact itoa_zero h0 h1 e3.1.symm
theorem recov_line {n : Int} {q r : ByteArray} (h0 : 0 ≤ n) (h1 : n ≤ 59) (hg : Eb q r = true) : (0 < (Fj (Eg n q r)).2.2.2.1 ↔ n = 0) ∧ (n = 0 → (Fj (Eg n q r)).2.2.1 = 1) := by
  have hs := line_bytes h0 h1 hg
  have hp : 1 ≤ (Eg n q r).size := by rw [← Dw]; exact line_pos n q r
  rw [(recov_ok (Eg n q r) (by omega)).1]
  simp only
  unfold upTo
  by_cases hn : n = 0
  · subst hn
    have hr : F5 ((0 : Nat) : Int) (B (Eg 0 q r)) q r [] := ⟨hg, by simp⟩
    rw [G6 (d := 59) (He (by omega) (by omega) hr), F6 (recAt_nil _)]
    simp; omega
  · have hr : reads 60 0 (B (Eg n q r)) = ([], B (Eg n q r)) := F6 (first_zero h0 h1 hg hn)
    rw [hr]
    simp only [Dw]
    constructor
    · constructor
      · intro h; omega
      · intro h; exact absurd h hn
    · intro h; exact absurd h hn
theorem drawEnc_ok {l : List Int} (h : okB l) : ∃ n q r, Es.f l = some (n, q, r) ∧ q.size ≤ 20 ∧ r.size ≤ 20 := by
  unfold Es.f
  obtain ⟨v, p1, s1, e1, _, b1, b1'⟩ := among_ok h 0 0 [0, 1, 12, 59, 60, -1] (by omega) (by omega) (by simp) (by simp)
  rw [e1]; simp only [Option.bind_some]
  obtain ⟨q, r, p2, s2, e2, z1, z2, _, _⟩ := logRecord_ok h p1 s1 (by omega) (by omega)
  rw [e2]; simp only [Option.bind_some]
  exact ⟨_, _, _, rfl, z1, z2⟩
end Go.Proofs.YtkpieljmhgfofaaDoor.X


namespace Go.Proofs.YtkpieljmhgfofaaDoor.Pure
open Go.RowKit Go.Proofs.YtkpieljmhgfofaaDoorW.PrintWords Go.Proofs.YtkpieljmhgfofaaDoorL Go.Proofs.YtkpieljmhgfofaaDoor.X
set_option linter.unusedVariables false
set_option linter.unusedSimpArgs false
theorem FnLogLines : OFnLogLines.Pure := by
  intro l hl
  refine ev_rounds ?_
  have hok : okB l := okB_of hl.2.2
  unfold Ap.f
  refine Ev.bind (show Ev (fun _ => Hr.f l) (decide ((l.length : Int) > 65536)) from Ev.now _) ?_
  by_cases c : (l.length : Int) > 65536
  · simp only [decide_eq_true c, if_true]; exact Ev.now _
  simp only [decide_eq_false c, Bool.false_eq_true, if_false]
  obtain ⟨n, q, r, e1, z1, z2⟩ := drawEnc_ok hok
  obtain ⟨t, ht, hts⟩ := drawRecover_ok hok
  refine Ev.bind (show Ev (fun _ => Es.f l) (n, q, r) from ev_eq (fun _ => e1)) ?_
  refine Ev.bind (implEnc_ev n q r) (Ev.bind (specEnc_ev n q r (by omega) (by omega)) (Ev.bind ht (Ev.bind (implRecover_ev t (by omega)) (Ev.bind (specRecover_ev t (by omega)) ?_))))
  simp only [if_true, bne_self_eq_false, beq_self_eq_true, Bool.not_true, Bool.or_self, Bool.false_eq_true, if_false]
  have hE : (enc n q r).1.size ≤ 1000 ∧ ((enc n q r).2 = true → (0 ≤ n ∧ n ≤ 59 ∧ Eb q r = true) ∧ (enc n q r).1 = Eg n q r) ∧ ((enc n q r).2 = false → (enc n q r).1 = ⟨#[]⟩) := by
    unfold enc
    by_cases h : 0 ≤ n ∧ n ≤ 59 ∧ Eb q r = true
    · rw [if_pos h]
      have := line_bytes h.1 h.2.1 h.2.2
      exact ⟨by simp only; omega, fun _ => ⟨h, rfl⟩, fun z => Bool.noConfusion (show true = false from z)⟩
    · rw [if_neg h]
      exact ⟨Nat.zero_le 1000, fun z => absurd z (by decide), fun _ => rfl⟩
  generalize enc n q r = E at hE ⊢
  obtain ⟨E1, E2⟩ := E
  obtain ⟨hz, hy, hn⟩ := hE
  dsimp only at hz hy hn ⊢
  have last : Ev (fun k => Ap.j1 k E1 E2 (Fj t).2.2.2.2 false (Fj t).1 (Fj t).2.1 (Fj t).2.2.1) true := by
    by_cases h3 : t.size ≤ 30000
    · obtain ⟨m1, m2⟩ := recov_ok t h3
      have hDs : (t.extract 0 (upTo t)).size ≤ 40000 := by rw [ByteArray.size_extract]; omega
      rw [m1]
      dsimp only
      have hsy : syncd (t.extract 0 (upTo t)) ⟨#[]⟩ ((reads 60 0 (B t)).1.length : Int) = (t.extract 0 (upTo t), ⟨#[]⟩, ((reads 60 0 (B t)).1.length : Int), true) := by
        unfold syncd
        rw [if_pos m2]
        have : t.extract 0 (upTo t) ++ (⟨#[]⟩ : ByteArray) = t.extract 0 (upTo t) := B_inj (by rw [F9]; show _ ++ [] = _; simp)
        rw [this]
      have hs := implSync_ev (t.extract 0 (upTo t)) ⟨#[]⟩ ((reads 60 0 (B t)).1.length : Int) (by omega) (by show 0 ≤ _; omega)
      have hv := implValid_ev (t.extract 0 (upTo t)) ⟨#[]⟩ ((reads 60 0 (B t)).1.length : Int) (by omega) (by show 0 ≤ _; omega)
      rw [hsy] at hs
      rw [m2] at hv
      generalize t.extract 0 (upTo t) = Y at hs hv ⊢
      generalize ((reads 60 0 (B t)).1.length : Int) = C at hs hv ⊢
      refine Ev.step (f := fun k => (Eh.f k Y ⟨#[]⟩ C).bind fun bt664 => (if bt664.2.2.2 = true then (if (bt664.1.toList == Y.toList && (bt664.2.1.toList == (⟨#[]⟩ : ByteArray).toList && (bt664.2.2.1 == C))) = true then ((Cm.f k Y ⟨#[]⟩ C).bind fun t669 => (if t669 = true then (if E2 = true then (some true) else (some (E1.toList == ([] : List UInt8)))) else (some false))) else (some false)) else (some false))) (fun k => ?_) (Ev.bind hs ?_)
      · simp only [Ap.j1]
        rw [if_neg (by decide)]
        simp only [if_true]
      · simp only [beq_self_eq_true, Bool.and_self, if_true]
        refine Ev.bind hv ?_
        simp only [if_true]
        cases h2 : E2 with
        | true => simp only [if_true]; exact Ev.now _
        | false =>
          rw [hn h2]
          simp only [Bool.false_eq_true, if_false]
          exact ev_eq (fun k => by show some ((⟨#[]⟩ : ByteArray).toList == []) = some true; rw [Hf]; rfl)
    · have hm : Fj t = (⟨#[]⟩, ⟨#[]⟩, 0, 0, false) := by unfold Fj; rw [if_pos (by omega)]
      rw [hm]
      have hs := implSync_ev ⟨#[]⟩ ⟨#[]⟩ 0 (by show 0 ≤ _; omega) (by show 0 ≤ _; omega)
      refine Ev.step (f := fun k => (Eh.f k ⟨#[]⟩ ⟨#[]⟩ 0).bind fun bt664 => some true) (fun k => ?_) (Ev.bind hs (Ev.now _))
      simp only [Ap.j1]
      rw [if_neg (by decide)]
      simp only [Bool.false_eq_true, if_false]
  refine Ev.step (f := fun k => (Dq.f k E1).bind fun bt658 => (if E2 = true then (if ((decide (bt658.2.2.2.1 > 0)) != (n == 0)) = true then (Ap.j1 k E1 E2 (Fj t).2.2.2.2 true (Fj t).1 (Fj t).2.1 (Fj t).2.2.1) else (if n = 0 then (Ap.j1 k E1 E2 (Fj t).2.2.2.2 (bt658.2.2.1 != 1) (Fj t).1 (Fj t).2.1 (Fj t).2.2.1) else (Ap.j1 k E1 E2 (Fj t).2.2.2.2 false (Fj t).1 (Fj t).2.1 (Fj t).2.2.1))) else (Ap.j1 k E1 E2 (Fj t).2.2.2.2 false (Fj t).1 (Fj t).2.1 (Fj t).2.2.1))) (fun k => ?_) (Ev.bind (implRecover_ev E1 (by omega)) ?_)
  · simp only [Ap.j0]
    rw [if_neg (by decide)]
  · cases h2 : E2 with
    | false =>
      rw [h2] at last
      simp only [Bool.false_eq_true, if_false]; exact last
    | true =>
      rw [h2] at last
      obtain ⟨⟨n0, n1, hg⟩, hE⟩ := hy h2
      obtain ⟨r1, r2⟩ := recov_line n0 n1 hg
      rw [← hE] at r1 r2
      simp only [if_true]
      have hx : ((decide ((Fj E1).2.2.2.1 > 0)) != (n == 0)) = false := by
        by_cases hn0 : n = 0
        · rw [decide_eq_true (r1.2 hn0)]; simp [hn0]
        · rw [decide_eq_false (fun z => hn0 (r1.1 z))]; simp [hn0]
      simp only [hx, Bool.false_eq_true, if_false]
      by_cases hn0 : n = 0
      · simp only [if_pos hn0, r2 hn0, bne_self_eq_false]; exact last
      · simp only [if_neg hn0]; exact last
end Go.Proofs.YtkpieljmhgfofaaDoor.Pure



namespace Go.Proofs.YtkpieljmhgfofaaDoor.fnLogLines
open Go.ChangeShapes Go.WideShapes Go.ChangeAt Go.RowKit
open Go.ChangeMaps (open_string shut_string)
open Go.Joins
open Go.Proofs.YtkpieljmhgfofaaDoorW.PrintWords Go.Proofs.YtkpieljmhgfofaaDoorW.PrintLast Go.Proofs.YtkpieljmhgfofaaDoorW.PrintMore
open Go.Proofs.YtkpieljmhgfofaaDoorZ Go.Proofs.YtkpieljmhgfofaaDoor.X Go.Proofs.YtkpieljmhgfofaaDoor.X.OFnLogLines
set_option linter.unusedVariables false
set_option linter.unusedSimpArgs false
theorem own : ownKnob Tryd.prog.godebug = none := by kernel_rfl
theorem laidOut : laidOutB Tryd.prog = true := by kernel_rfl
open Go Go.Proofs.YtkpieljmhgfofaaDoorG
def laidL : List (String × DataW Unit) := [("math/bits.deBruijn32tab", Rows.laid_math_bits_deBruijn32tab), ("math/bits.deBruijn64tab", Rows.laid_math_bits_deBruijn64tab), ("internal/strconv.uint64pow10", Rows.laid_internal_strconv_uint64pow10)]
theorem globOf {W : World} (h : laidMetH Tryd.prog laidL W) : Ea W := by
  rw [MakeChecks.laidMetH_plain _ _ _ (by kernel_rfl)] at h
  exact Ea.of_tab (h.filter fun x => x.1 == "internal/strconv.uint64pow10")
set_option maxRecDepth 100000 in
set_option maxHeartbeats 2000000 in
theorem lifted (os : Os) (started : os.Started) (H : Type) (enc : TypeId × Value → H) :
    ReturnsInHanded {} Tryd.checked os 11 .any (fun w args => (Rows.fnLogLinesSpec.pre enc Tryd.prog Tryd.f11 Rows.fnLogLinesRow.domain false w args ∧ laidMetH Tryd.prog laidL w) ∧ sizedMet enc Tryd.prog Tryd.f11 (OpenSpec.ofChange Rows.fnLogLinesSpec) false w args) (Rows.fnLogLinesSpec.post enc Tryd.prog Tryd.f11 false true false false) := by
  refine returnsInHanded_of_change_and (C := Tryd.checked) (X := fun w _ => laidMetH Tryd.prog laidL w) (fun _ _ _ hh h => h.of_heap hh) own started (by kernel_rfl) Tryd.func11
    (ChangeSpec.witness_shaped (enc := enc) (C := Tryd.checked) (os := os) (X := fun w _ => laidMetH Tryd.prog laidL w) false (World.laidAll Tryd.prog os laidL) #[.slice none 0 0] 8 (World.laidAll_os _ _ _)
      (World.shaped_of_ZipB (by kernel_rfl) (by kernel_rfl)) (by kernel_rfl) (by kernel_rfl) (by kernel_rfl)
      (by rw [MakeChecks.laidMetH_plain _ _ _ (by kernel_rfl)]; exact laidMet_laidAll _ (by kernel_rfl) (by kernel_rfl))) ?_
  intro W base args ds gs before hval0 hW hcnd hsz0 hL _
  have hG := globOf hL
  have hsz : (DataW.weightsEach Tryd.prog (Tryd.f11.params.toList ++ Rows.fnLogLinesSpec.plain.varTypes Tryd.prog) (ds ++ gs)).all (· ≤ reachBytes) = true := hsz0
  have hval : ∀ (j : Nat) t v, Tryd.f11.params[j]? = some t → args[j]? = some v → Value.okWide Tryd.prog W .any base t v := hval0
  have hW' := hW
  obtain ⟨p, q, hA0, hV, rfl, hfz, hnd⟩ := hW
  have hA : DataW.TrodAll enc Tryd.prog W 0 (fun _ => true) true Tryd.f11.params.toList args.toList ds p := hA0
  rw [Tryd.params11] at hA hval hsz
  obtain ⟨v0, vs0, d0, ds0, p0, q0, hargs, rfl, rfl, h0, r0⟩ := trodAll_cons hA
  obtain ⟨rfl, rfl, rfl⟩ := trodAll_nil r0
  obtain rfl : args = #[v0] := by cases args; simp_all
  obtain ⟨rfl, rfl⟩ := trodVars_none hV
  obtain ⟨a0, len0, cap0, rfl⟩ := okWide_slice Tryd.underlying53 (hval 0 53 v0 rfl rfl)
  have k0 := h0
  have lt0 : ∀ x ∈ p0, x.block < W.heap.size := by obtain ⟨m, hm⟩ := k0; exact DataW.trod_lt m _ _ _ hm
  obtain ⟨l0, rfl, hc0, hr0, w0⟩ : ∃ l : List Int, len0 = l.length ∧ l.length ≤ cap0 ∧ Kd.C (Kd.int .u8) W a0 l.length l ∧ (l.length * 1 ≤ 140737488351232 ∧ l.length ≤ 9223372036854775807 ∧ ∀ y1 ∈ l, (Lit.int .u8 y1).wf = true) := by
    obtain ⟨fuel, hf⟩ := h0
    obtain ⟨l, ⟨A_, c_, e_, hl_, hC_⟩, hfit_⟩ := (opens_slice 0 Tryd.underlying53 (by kernel_rfl) (opens_int Tryd.underlying5) (by kernel_rfl)) hf (weights_param hsz (j := 0) rfl rfl)
    simp [Value.cells] at e_
    obtain ⟨rfl, rfl, rfl⟩ := e_
    exact ⟨l, rfl, hl_, hC_, hfit_⟩
  clear hA0 hval0 hsz0 hsz
  obtain ⟨k, h⟩ := Go.Proofs.YtkpieljmhgfofaaDoor.Pure.FnLogLines l0 w0
  refine (Ap.calls k a0 cap0 l0 true W hr0 hc0 hG h rfl).mono fun e W' ⟨he, bel0⟩ => ?_
  have bel : Below W.heap.size W W' := bel0
  subst he
  exact ⟨_, rfl, _, _, _, [], _, [], hW', trodAll_mk1 (shut_bool Tryd.underlying4 _), (trodAll_cons_mk (Below.trod laidOut (by kernel_rfl) (of_decide_eq_true (by kernel_rfl)) k0 bel lt0) trodAll_mk0), rfl, bel.frame _, fun h => by cases h⟩
theorem over : Rows.fnLogLinesRow.holds Tryd.pinned (OpenSpec.ofChange Rows.fnLogLinesSpec) :=
  OpenClaim.holds_of_wide 11 Tryd.f11 rfl rfl rfl rfl rfl rfl rfl ⟨rfl, rfl, rfl, rfl, rfl⟩ rfl rfl rfl rfl rfl (by kernel_rfl) Tryd.func11 (by kernel_rfl)
    (of_decide_eq_true (by kernel_rfl)) (by unfold Func.isWrapper; first | (rw [if_pos (by decide +kernel)]; kernel_rfl) | (rw [if_neg (by decide +kernel)]; exact ⟨rfl, rfl⟩))
    (fun os started H enc _ => lifted os started H enc)
theorem proved : Rows.FnLogLinesSaid := over
theorem carded : Rows.FnLogLinesCardSaid :=
  Claim7.holds_tied_plain_at .later [] [.data, .data, .data] true (true, "235852b07b7bca440ed8a65975df4a4d7818d0c8db91fbf0ad52c0286e8ae3e3") false
    proved (fun _ h => by cases h) (by kernel_rfl) (fun _ h => by cases h) fnLogLines_row_tie rfl ⟨rfl, rfl⟩ (by kernel_rfl) rfl
    (fun f fn hf hfn => by
      obtain rfl : f = 11 := Option.some.inj ((show Tryd.prog.funcNamed "loop.example/g00906/laws.FnLogLines" = some 11 by kernel_rfl).symm.trans hf) |>.symm
      obtain rfl : fn = Tryd.f11 := (Option.some.inj (Tryd.func11.symm.trans hfn)).symm
      exact ⟨by kernel_rfl, fun j t ht => by
        rw [Tryd.params11] at ht
        have hm : t ∈ [53] := by simpa using Array.mem_of_getElem? ht
        have hall : ([53].all fun u => !Tryd.prog.wantsStandIn u) = true := by kernel_rfl
        exact (show Tryd.prog.wantsStandIn t = false by simpa using List.all_eq_true.1 hall t hm)⟩)
    (by kernel_rfl)
#print axioms carded
end Go.Proofs.YtkpieljmhgfofaaDoor.fnLogLines
namespace Go.Proofs.YtkpieljmhgfofaaDoor
/-- The card, under a short name, for the claim. -/
theorem fnLogLines_holds : Rows.FnLogLinesCardSaid := fnLogLines.carded
end Go.Proofs.YtkpieljmhgfofaaDoor

