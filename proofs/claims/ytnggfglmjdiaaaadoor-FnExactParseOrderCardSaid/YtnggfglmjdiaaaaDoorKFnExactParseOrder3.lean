/- The law FnExactParseOrder answers true for every input that the row lets in, and leaves its arguments as they were. Conditions: none beyond the row's own. -/
import Derived.Lib.AtoiAll
import Derived.Lib.SplitLaws
import Derived.Lib.IndexMore
import Derived.Handed
import Derived.HandedShaped
import Derived.Test.YtnggfglmjdiaaaaDoorProg
import Derived.Test.YtnggfglmjdiaaaaDoorRows
import Derived.WalkKit
import Derived.ProofKit
import Derived.OpenShut
import Derived.ShutString
import Derived.ChangeOld
import Derived.Below
import Derived.SizedLaws
import Derived.Lib.SmallJoins
import Derived.Handy
import Derived.Lay
import Derived.SevenTiedAt
import Derived.LaidSub
import Derived.Lib.LaidTab
import Derived.Test.YtnggfglmjdiaaaaDoorCards
import Derived.Test.YtnggfglmjdiaaaaDoorTie
import Derived.Test.YtnggfglmjdiaaaaDoorKFnExactParseOrder1
import Derived.Test.YtnggfglmjdiaaaaDoorKFnExactParseOrder2
namespace Go.Proofs.YtnggfglmjdiaaaaDoor.X
open Go.RowKit Go.Proofs.YtnggfglmjdiaaaaDoorW.PrintWords Go.Proofs.YtnggfglmjdiaaaaDoorL
set_option linter.unusedVariables false
set_option linter.unusedSimpArgs false
def okO (a b c : Int) : Prop := (1 ≤ a ∧ a ≤ 3) ∧ (1 ≤ b ∧ b ≤ 99) ∧ (0 ≤ c ∧ c ≤ 9)
instance (a b c : Int) : Decidable (okO a b c) := by unfold okO; exact inferInstance
def wordsO : List ByteArray := [(⟨#[]⟩ : ByteArray), (⟨#[109, 111, 118, 101]⟩ : ByteArray), (⟨#[108, 111, 97, 100]⟩ : ByteArray), (⟨#[117, 110, 108, 111, 97, 100]⟩ : ByteArray)]
def textO (a b c : Int) : ByteArray := ((((rdOf ByteArray.empty wordsO a) ++ (⟨#[32]⟩ : ByteArray)) ++ dec b) ++ (⟨#[32]⟩ : ByteArray)) ++ dec c
def orderText (a b c : Int) : ByteArray × Bool := if okO a b c then (textO a b c, true) else (⟨#[]⟩, false)
theorem word_size (a : Int) (h0 : 1 ≤ a) (h1 : a ≤ 3) : (rdOf ByteArray.empty wordsO a).size ≤ 6 := by
  have : a = 1 ∨ a = 2 ∨ a = 3 := by omega
  rcases this with rfl | rfl | rfl <;> decide
theorem in_eq (a b c : Int) : spec_l1In.f a b c = some (decide (b ≤ a ∧ a ≤ c)) := by
  unfold spec_l1In.f
  by_cases h : a ≥ b
  · rw [if_pos h]; congr 1; by_cases z : a ≤ c <;> simp [z] <;> omega
  · rw [if_neg h]; congr 1; simp; omega
theorem within_eq (a b c : Int) : impl_within.f a b c = some (decide (b ≤ a ∧ a ≤ c)) := by
  unfold impl_within.f
  by_cases h : a ≥ b
  · rw [if_pos h]; congr 1; by_cases z : a ≤ c <;> simp [z] <;> omega
  · rw [if_neg h]; congr 1; simp; omega
theorem specTextO_ev (a b c : Int) (h : okO a b c) : Ev (fun k => spec_l24Text.f k a b c) (textO a b c) := by
  obtain ⟨⟨a0, a1⟩, ⟨b0, b1⟩, c0, c1⟩ := h
  have hw := word_size a a0 a1
  have hb := dec_size b (by omega) (by omega)
  have hc := dec_size c (by omega) (by omega)
  unfold spec_l24Text.f
  simp only [Option.bind_some]
  show Ev (fun k => if 0 ≤ a then (if a < (wordsO.length : Int) then (if (rdOf ByteArray.empty wordsO a).size + 1 ≤ 9223372036854775807 then ((spec_l1Num.f k b).bind fun t112 => (if ((rdOf ByteArray.empty wordsO a) ++ (⟨#[32]⟩ : ByteArray)).size + t112.size ≤ 9223372036854775807 then (if (((rdOf ByteArray.empty wordsO a) ++ (⟨#[32]⟩ : ByteArray)) ++ t112).size + 1 ≤ 9223372036854775807 then ((spec_l1Num.f k c).bind fun t113 => (if ((((rdOf ByteArray.empty wordsO a) ++ (⟨#[32]⟩ : ByteArray)) ++ t112) ++ (⟨#[32]⟩ : ByteArray)).size + t113.size ≤ 9223372036854775807 then (some (((((rdOf ByteArray.empty wordsO a) ++ (⟨#[32]⟩ : ByteArray)) ++ t112) ++ (⟨#[32]⟩ : ByteArray)) ++ t113)) else (none))) else (none)) else (none))) else (none)) else (none)) else (none)) _
  have z1 : ((rdOf ByteArray.empty wordsO a) ++ (⟨#[32]⟩ : ByteArray)).size = (rdOf ByteArray.empty wordsO a).size + 1 := by rw [ByteArray.size_append]; rfl
  have z2 : (((rdOf ByteArray.empty wordsO a) ++ (⟨#[32]⟩ : ByteArray)) ++ dec b).size = (rdOf ByteArray.empty wordsO a).size + 1 + (dec b).size := by rw [ByteArray.size_append, z1]
  have z3 : ((((rdOf ByteArray.empty wordsO a) ++ (⟨#[32]⟩ : ByteArray)) ++ dec b) ++ (⟨#[32]⟩ : ByteArray)).size = (rdOf ByteArray.empty wordsO a).size + 1 + (dec b).size + 1 := by rw [ByteArray.size_append, z2]; rfl
  have hl : (wordsO.length : Int) = 4 := rfl
  refine Ev.congr (fun k => by rw [if_pos (by omega), if_pos (by omega), if_pos (by omega)]) (Ev.bind (specNum_ev b (by omega) (by omega)) ?_)
  refine Ev.congr (fun k => by rw [if_pos (by omega), if_pos (by omega)]) (Ev.bind (specNum_ev c (by omega) (by omega)) ?_)
  exact Ev.congr (fun k => if_pos (by omega)) (Ev.now _)
theorem implOrderText_ev (a b c : Int) : Ev (fun k => impl_OrderText.f k a b c) (orderText a b c) := by
  unfold impl_OrderText.f orderText
  simp only [within_eq, Option.bind_some]
  have bad : Ev (fun k => impl_OrderText.j0 k true a b c) ((⟨#[]⟩ : ByteArray), false) := Ev.step (f := fun _ => some _) (fun k => by simp only [impl_OrderText.j0, if_true]) (Ev.now _)
  by_cases h : okO a b c
  · obtain ⟨h1, h2, h3⟩ := id h
    simp only [decide_eq_true h1, decide_eq_true h2, decide_eq_true h3, if_true, Option.bind_some, if_pos h, Bool.not_true]
    obtain ⟨⟨a0, a1⟩, ⟨b0, b1⟩, c0, c1⟩ := h
    have hw := word_size a a0 a1
    have hb := dec_size b (by omega) (by omega)
    have hc := dec_size c (by omega) (by omega)
    have z1 : ((rdOf ByteArray.empty wordsO a) ++ (⟨#[32]⟩ : ByteArray)).size = (rdOf ByteArray.empty wordsO a).size + 1 := by rw [ByteArray.size_append]; rfl
    have z2 : (((rdOf ByteArray.empty wordsO a) ++ (⟨#[32]⟩ : ByteArray)) ++ dec b).size = (rdOf ByteArray.empty wordsO a).size + 1 + (dec b).size := by rw [ByteArray.size_append, z1]
    have z3 : ((((rdOf ByteArray.empty wordsO a) ++ (⟨#[32]⟩ : ByteArray)) ++ dec b) ++ (⟨#[32]⟩ : ByteArray)).size = (rdOf ByteArray.empty wordsO a).size + 1 + (dec b).size + 1 := by rw [ByteArray.size_append, z2]; rfl
    have hl : (wordsO.length : Int) = 4 := rfl
    have ew : impl_orderWords.f = some wordsO := rfl
    refine Ev.step (f := fun _ => some _) (fun k => ?_) (Ev.now _)
    simp only [impl_OrderText.j0, Bool.false_eq_true, if_false, ew, Option.bind_some]
    rw [if_pos (by omega), if_pos (by omega), if_pos (by omega), implDec b (by omega) (by omega)]
    simp only [Option.bind_some]
    rw [if_pos (by omega), if_pos (by omega), implDec c (by omega) (by omega)]
    simp only [Option.bind_some]
    rw [if_pos (by omega)]
    rfl
  · rw [if_neg h]
    by_cases h1 : 1 ≤ a ∧ a ≤ 3
    · by_cases h2 : 1 ≤ b ∧ b ≤ 99
      · have h3 : ¬ (0 ≤ c ∧ c ≤ 9) := fun z => h ⟨h1, h2, z⟩
        simp only [decide_eq_true h1, decide_eq_true h2, decide_eq_false h3, if_true, Option.bind_some, Bool.not_false]; exact bad
      · simp only [decide_eq_true h1, decide_eq_false h2, if_true, Option.bind_some, Bool.false_eq_true, if_false]; exact bad
    · simp only [decide_eq_false h1, Option.bind_some, Bool.false_eq_true, if_false]; exact bad
end Go.Proofs.YtnggfglmjdiaaaaDoor.X


namespace Go.Proofs.YtnggfglmjdiaaaaDoor.X
open Go.RowKit Go.Proofs.YtnggfglmjdiaaaaDoorW.PrintWords Go.Proofs.YtnggfglmjdiaaaaDoorL
set_option linter.unusedVariables false
set_option linter.unusedSimpArgs false
def mk (l : List UInt8) : ByteArray := ⟨l.toArray⟩
theorem B_of_mk (l : List UInt8) : B (mk l) = l := B_mk l
theorem mk_of_B (s : ByteArray) : mk (B s) = s := B_inj (B_mk _)
theorem mk_size (l : List UInt8) : (mk l).size = l.length := by rw [size_B, B_of_mk]
theorem B_extract (s : ByteArray) (i j : Nat) : B (s.extract i j) = ((B s).drop i).take (j - i) := by
  unfold B; simp [List.extract_eq_take_drop]
end Go.Proofs.YtnggfglmjdiaaaaDoor.X


namespace Go.Proofs.YtnggfglmjdiaaaaDoor.X
open Go.RowKit Go.Proofs.YtnggfglmjdiaaaaDoorW.PrintWords Go.Proofs.YtnggfglmjdiaaaaDoorL
set_option linter.unusedVariables false
set_option linter.unusedSimpArgs false
def isD (b : UInt8) : Prop := 48 ≤ b.toNat ∧ b.toNat ≤ 57
theorem digit_ofNat (d : Nat) (h : d < 10) : (UInt8.ofNat (48 + d)).toNat = 48 + d := by simp; omega
theorem dd_range : ∀ (m u : Nat), u ≤ m → ∀ b ∈ Lib.decDigits u, isD b := by
  intro m
  have one : ∀ d : Nat, d < 10 → isD (UInt8.ofNat (48 + d)) := by
    intro d hd
    have := digit_ofNat d hd
    unfold isD; omega
  induction m with
  | zero =>
    intro u hu b hb
    rw [Lib.decDigits, dif_pos (by omega)] at hb
    simp only [List.mem_singleton] at hb
    subst hb; exact one u (by omega)
  | succ m ih =>
    intro u hu b hb
    by_cases c : u < 10
    · rw [Lib.decDigits, dif_pos c] at hb
      simp only [List.mem_singleton] at hb
      subst hb; exact one u c
    · rw [Lib.decDigits.eq_1 u, dif_neg c] at hb
      rcases List.mem_append.1 hb with hb | hb
      · exact ih (u / 10) (by omega) b hb
      · simp only [List.mem_singleton] at hb
        subst hb; exact one _ (by omega)
@[irreducible] def push (a : Nat) (b : UInt8) : Nat := a * 10 + (b.toNat - 48)
theorem push_eq (a : Nat) (b : UInt8) : push a b = a * 10 + (b.toNat - 48) := by unfold push; rfl
def val (a : Nat) (l : List UInt8) : Nat := l.foldl push a
theorem val_nil (a : Nat) : val a [] = a := rfl
theorem val_cons (a : Nat) (b : UInt8) (l : List UInt8) : val a (b :: l) = val (a * 10 + (b.toNat - 48)) l := by rw [← push_eq]; rfl
theorem val_snoc (b : UInt8) (l : List UInt8) (a : Nat) : val a (l ++ [b]) = val a l * 10 + (b.toNat - 48) := by rw [← push_eq]; unfold val; rw [List.foldl_append]; rfl
theorem val_ge : ∀ (l : List UInt8) (a : Nat), a ≤ val a l
  | [], a => by rw [val_nil]; exact Nat.le_refl _
  | b :: l, a => by have := val_ge l (a * 10 + (b.toNat - 48)); rw [val_cons]; omega
theorem val_dd : ∀ (m u : Nat), u ≤ m → val 0 (Lib.decDigits u) = u := by
  intro m
  induction m with
  | zero =>
    intro u hu
    obtain rfl : u = 0 := by omega
    rw [Lib.decDigits, dif_pos (by omega)]
    rw [val_cons, val_nil, digit_ofNat 0 (by omega)]
  | succ m ih =>
    intro u hu
    by_cases c : u < 10
    · rw [Lib.decDigits, dif_pos c]; rw [val_cons, val_nil, digit_ofNat u c]; omega
    · rw [Lib.decDigits.eq_1 u, dif_neg c, val_snoc, ih (u / 10) (by omega), digit_ofNat _ (by omega)]; omega
theorem val_lt : ∀ (l : List UInt8) (a n : Nat), (∀ b ∈ l, isD b) → a < 10 ^ n → val a l < 10 ^ (n + l.length)
  | [], a, n, _, h => by rw [val_nil]; exact h
  | b :: l, a, n, hl, h => by
    have hb := hl b (by simp)
    unfold isD at hb
    rw [val_cons, List.length_cons, show n + (l.length + 1) = (n + 1) + l.length from by omega]
    exact val_lt l _ (n + 1) (fun x hx => hl x (by simp [hx])) (by rw [Nat.pow_succ]; omega)
theorem dd_ne (u : Nat) : Lib.decDigits u ≠ [] := by
  rw [Lib.decDigits]; split <;> simp
theorem dd_len : ∀ (n u : Nat), 1 ≤ n → u < 10 ^ n → (Lib.decDigits u).length ≤ n := by
  intro n
  induction n with
  | zero => intro u h; omega
  | succ n ih =>
    intro u _ h
    rw [Lib.decDigits]
    by_cases c : u < 10
    · rw [dif_pos c]; simp
    · rw [dif_neg c, List.length_append]
      have : 1 ≤ n := by
        rcases Nat.eq_zero_or_pos n with rfl | h2
        · simp at h; omega
        · exact h2
      have := ih (u / 10) this (by rw [Nat.pow_succ] at h; omega)
      simp; omega
theorem parse10 : ∀ (l : List UInt8) (a : Nat), (∀ b ∈ l, isD b) → val a l < 1000000000 → Lib.parseUint10 a l = .ok (val a l)
  | [], a, _, _ => by rw [val_nil]; rfl
  | b :: l, a, hl, h => by
    have hb := hl b (by simp)
    unfold isD at hb
    rw [val_cons] at h ⊢
    have := val_ge l (a * 10 + (b.toNat - 48))
    rw [Lib.parseUint10, if_pos hb, if_neg (by omega), if_neg (by omega)]
    exact parse10 l _ (fun x hx => hl x (by simp [hx])) h
theorem B_decN (u : Nat) : B (dec (u : Int)) = Lib.decDigits u := by rw [B_dec]; unfold Lib.itoa; rw [if_neg (by omega)]; simp
theorem atoi_dd (u : Nat) (h : u ≤ 999999) : Lib.atoiAll (Lib.decDigits u) = .ok (u : Int) := by
  have hr := dd_range u u (Nat.le_refl _)
  have hv := val_dd u u (Nat.le_refl _)
  cases e : Lib.decDigits u with
  | nil => exact absurd e (dd_ne u)
  | cons c r =>
    rw [e] at hr hv
    have hc := hr c (by simp)
    unfold isD at hc
    have hp := parse10 (c :: r) 0 hr (by omega)
    unfold Lib.atoiAll
    simp only [if_neg (show ¬ (c.toNat = 43 ∨ c.toNat = 45) by omega)]
    unfold Lib.parseMag
    rw [if_neg (by simp), hp, hv]
    simp only [show ¬ c.toNat = 45 from by omega, false_and, not_false_eq_true, true_and, if_false]
    rw [if_neg (by omega)]
theorem parseInt_dd (u : Nat) (h : u ≤ 999999) : impl_ParseInt.f (mk (Lib.decDigits u)) = some ((u : Int), true) := by
  have hl := dd_len 6 u (by omega) (by omega)
  unfold impl_ParseInt.f
  rw [if_pos (by rw [mk_size]; omega), show (mk (Lib.decDigits u)).data.toList = Lib.decDigits u from B_of_mk _, atoi_dd u h]
  simp only [implDec (u : Int) (by omega) (by omega), Option.bind_some]
  rw [if_pos (by omega), if_pos (by rw [B_toList, B_toList, B_decN, B_of_mk])]
/-- ParseInt comes to an end. -/
theorem parseInt_total (w : ByteArray) (h : w.size ≤ 281474976710656) : ∃ v o, impl_ParseInt.f w = some (v, o) := by
  unfold impl_ParseInt.f
  rw [if_pos h]
  rcases Lib.atoiAll w.data.toList with v | _ | _
  · dsimp only
    by_cases c : -999999 ≤ v ∧ v ≤ 999999
    · rw [if_pos c, implDec v (by omega) (by omega), Option.bind_some]
      by_cases d : (dec v).toList = w.toList
      · rw [if_pos d]; exact ⟨_, _, rfl⟩
      · rw [if_neg d]; exact ⟨_, _, rfl⟩
    · rw [if_neg c]; exact ⟨_, _, rfl⟩
  · exact ⟨_, _, rfl⟩
  · exact ⟨_, _, rfl⟩
end Go.Proofs.YtnggfglmjdiaaaaDoor.X


namespace Go.Proofs.YtnggfglmjdiaaaaDoor.X
open Go.RowKit Go.Proofs.YtnggfglmjdiaaaaDoorW.PrintWords Go.Proofs.YtnggfglmjdiaaaaDoorL
set_option linter.unusedVariables false
set_option linter.unusedSimpArgs false
theorem l1In_is (a b c : Int) : spec_l1In.f a b c = some (decide (b ≤ a) && decide (a ≤ c)) := by
  unfold spec_l1In.f
  by_cases h : a ≥ b
  · rw [if_pos h]; simp [show b ≤ a from h]
  · rw [if_neg h]; simp [show ¬ b ≤ a from h]
end Go.Proofs.YtnggfglmjdiaaaaDoor.X


namespace Go.Proofs.YtnggfglmjdiaaaaDoor.X
open Go.RowKit Go.Proofs.YtnggfglmjdiaaaaDoorW.PrintWords Go.Proofs.YtnggfglmjdiaaaaDoorL
set_option linter.unusedVariables false
set_option linter.unusedSimpArgs false
abbrev zeroO : Int × Int × Int × Bool := (0, 0, 0, false)
/-- An order, if it is one and s is its text. -/
def ansO (s : ByteArray) (a b c : Int) : Int × Int × Int × Bool := if okO a b c ∧ textO a b c = s then (a, b, c, true) else zeroO
theorem rdW (l : List ByteArray) (n : Nat) (h : n < l.length) : rdOf ByteArray.empty l (n : Int) = l[n] := by simp [rdOf, List.getD_eq_getElem?_getD, List.getElem?_eq_getElem h]
/-- The words' places, found by both. -/
theorem implIndex_ev (l : List ByteArray) (x : ByteArray) (hl : l.length ≤ 1000) : ∃ r, Ev (fun k => slices_Index_string_string.f k l x) r ∧ ∀ j : Nat, (h : j < l.length) → l[j] = x → (∀ i : Nat, (h2 : i < j) → l[i]'(by omega) ≠ x) → r = (j : Int) := by
  have key : ∀ (d n : Nat), n + d = l.length → ∃ r, Ev (fun k => slices_Index_string_string.l0 k l x (l.length : Int) (n : Int)) r ∧ ∀ j : Nat, n ≤ j → (h : j < l.length) → l[j] = x → (∀ i : Nat, n ≤ i → (h2 : i < j) → l[i]'(by omega) ≠ x) → r = (j : Int) := by
    intro d
    induction d with
    | zero =>
      intro n hn
      refine ⟨-1, Ev.step (f := fun _ => some _) (fun k => ?_) (Ev.now _), fun j h1 h2 => by omega⟩
      simp only [slices_Index_string_string.l0]
      rw [if_neg (by omega)]
    | succ d ih =>
      intro n hn
      have hn2 : n < l.length := by omega
      by_cases c : x.toList = l[n].toList
      · refine ⟨(n : Int), Ev.step (f := fun _ => some _) (fun k => ?_) (Ev.now _), fun j h1 h2 h3 h4 => ?_⟩
        · simp only [slices_Index_string_string.l0]
          rw [if_pos (by omega), if_pos (by omega), if_pos (by omega), rdW l n hn2, if_pos c]
        · by_cases e : j = n
          · rw [e]
          · exact absurd (B_inj (by rw [B_toList, B_toList] at c; exact c.symm)) (h4 n (Nat.le_refl _) (by omega))
      · obtain ⟨r, h1, h2⟩ := ih (n + 1) (by omega)
        refine ⟨r, Ev.step (fun k => ?_) h1, fun j q1 q2 q3 q4 => ?_⟩
        · simp only [slices_Index_string_string.l0]
          rw [if_pos (by omega), if_pos (by omega), if_pos (by omega), rdW l n hn2, if_neg c, wrap_succ (by omega)]
        · by_cases e : j = n
          · subst e; exact absurd (by rw [q3]) c
          · exact h2 j (by omega) q2 q3 (fun i hi hij => q4 i (by omega) hij)
  obtain ⟨r, h1, h2⟩ := key l.length 0 (by omega)
  exact ⟨r, Ev.congr (fun k => rfl) h1, fun j h q1 q2 => h2 j (by omega) h q1 (fun i _ hij => q2 i hij)⟩
theorem specIndex_ev (l : List ByteArray) (x : ByteArray) (hl : l.length ≤ 1000) : ∃ r, Ev (fun k => spec_l4Index.f k l x) r ∧ ∀ j : Nat, 1 ≤ j → (h : j < l.length) → l[j] = x → (∀ i : Nat, 1 ≤ i → (h2 : i < j) → l[i]'(by omega) ≠ x) → r = (j : Int) := by
  have key : ∀ (d n : Nat), n + d = l.length ∨ (d = 0 ∧ l.length ≤ n) → ∃ r, Ev (fun k => spec_l4Index.l0 k l x (n : Int)) r ∧ ∀ j : Nat, n ≤ j → (h : j < l.length) → l[j] = x → (∀ i : Nat, n ≤ i → (h2 : i < j) → l[i]'(by omega) ≠ x) → r = (j : Int) := by
    intro d
    induction d with
    | zero =>
      intro n hn
      refine ⟨0, Ev.step (f := fun _ => some _) (fun k => ?_) (Ev.now _), fun j h1 h2 => by omega⟩
      simp only [spec_l4Index.l0]
      rw [if_neg (by omega)]
    | succ d ih =>
      intro n hn
      have hn2 : n < l.length := by omega
      by_cases c : l[n].toList = x.toList
      · refine ⟨(n : Int), Ev.step (f := fun _ => some _) (fun k => ?_) (Ev.now _), fun j h1 h2 h3 h4 => ?_⟩
        · simp only [spec_l4Index.l0]
          rw [if_pos (by omega), if_pos (by omega), rdW l n hn2, if_pos c]
        · by_cases e : j = n
          · rw [e]
          · exact absurd (B_inj (by rw [B_toList, B_toList] at c; exact c)) (h4 n (Nat.le_refl _) (by omega))
      · obtain ⟨r, h1, h2⟩ := ih (n + 1) (by omega)
        refine ⟨r, Ev.step (fun k => ?_) h1, fun j q1 q2 q3 q4 => ?_⟩
        · simp only [spec_l4Index.l0]
          rw [if_pos (by omega), if_pos (by omega), rdW l n hn2, if_neg c, wrap_succ (by omega)]
        · by_cases e : j = n
          · subst e; exact absurd (by rw [q3]) c
          · exact h2 j (by omega) q2 q3 (fun i hi hij => q4 i (by omega) hij)
  obtain ⟨r, h1, h2⟩ := key (l.length - 1) 1 (by omega)
  exact ⟨r, Ev.congr (fun k => rfl) h1, h2⟩
end Go.Proofs.YtnggfglmjdiaaaaDoor.X


namespace Go.Proofs.YtnggfglmjdiaaaaDoor.X
open Go.RowKit Go.Proofs.YtnggfglmjdiaaaaDoorW.PrintWords Go.Proofs.YtnggfglmjdiaaaaDoorL
set_option linter.unusedVariables false
set_option linter.unusedSimpArgs false
abbrev sepS : ByteArray := ⟨#[32]⟩
theorem split_piece : ∀ (k : Nat) (s : ByteArray), ∀ x ∈ Lib.splitB sepS 0 k s, x.size ≤ s.size
  | 0, s, x, h => by rw [Lib.splitB_zero] at h; simp only [List.mem_singleton] at h; rw [h]; exact Nat.le_refl _
  | k + 1, s, x, h => by
    rcases Lib.indexB_cases s sepS with hix | ⟨i, hix, _⟩
    · rw [Lib.splitB_miss sepS 0 (k + 1) s hix] at h; simp only [List.mem_singleton] at h; rw [h]; exact Nat.le_refl _
    · rw [Lib.splitB_hit sepS 0 k s i hix] at h
      rcases List.mem_cons.1 h with h | h
      · rw [h, ByteArray.size_extract]; omega
      · have := split_piece k _ x h
        rw [ByteArray.size_extract] at this
        omega
theorem split_total (s : ByteArray) (hs : s.size ≤ 1048576) : ∃ ws, strings_Split.f s sepS = some ws ∧ 1 ≤ ws.length ∧ ∀ x ∈ ws, x.size ≤ s.size := by
  have h1 : 1 ≤ (sepS).size := Nat.le_refl 1
  have hl := Lib.splitB_all sepS h1 0 (Lib.countB s sepS) s rfl
  have hc := Lib.countB_le sepS h1 s.size s (Nat.le_refl _)
  refine ⟨Lib.splitB sepS 0 (Lib.countB s sepS) s, ?_, by rw [hl]; omega, split_piece _ s⟩
  unfold strings_Split.f
  rw [if_pos ⟨by omega, h1, hl, by omega⟩]
theorem idx32 (s : ByteArray) (a t : List UInt8) (e : B s = a ++ 32 :: t) (ha : ∀ b ∈ a, b ≠ 32) : Lib.indexB s sepS = (a.length : Int) := by
  show Lib.index (B s) [32] = _
  rw [e]
  refine Lib.index_first (by simp) (by unfold Lib.occAt; rw [List.drop_left' rfl]; rfl) (fun j hj => ?_)
  unfold Lib.occAt
  rw [List.drop_append_of_le_length (by omega), List.drop_eq_getElem_cons hj, List.cons_append]
  have hne := ha _ (List.getElem_mem hj)
  simp only [List.isPrefixOf]
  rw [show (32 == a[j]) = false from beq_eq_false_iff_ne.2 (fun h => hne h.symm), Bool.false_and]
theorem idx_none (s : ByteArray) (ha : ∀ b ∈ B s, b ≠ 32) : Lib.indexB s sepS = -1 := by
  show Lib.index (B s) [32] = _
  refine Lib.index_none (fun j hj => ?_)
  unfold Lib.occAt
  rcases Nat.lt_or_ge j (B s).length with h | h
  · rw [List.drop_eq_getElem_cons h]
    have hne := ha _ (List.getElem_mem h)
    simp only [List.isPrefixOf]
    rw [show (32 == (B s)[j]) = false from beq_eq_false_iff_ne.2 (fun h => hne h.symm), Bool.false_and]
  · rw [List.drop_eq_nil_of_le h]; rfl
theorem tail_at (s : ByteArray) (a t : List UInt8) (e : B s = a ++ 32 :: t) : s.extract (a.length + (sepS).size) s.size = mk t ∧ s.extract 0 (a.length + 0) = mk a := by
  have hl := B_length s
  refine ⟨B_inj ?_, B_inj ?_⟩
  · rw [B_extract, B_of_mk, List.take_of_length_le (by rw [List.length_drop]; omega), e, show a.length + (sepS).size = (a ++ [32]).length from by simp; rfl, show a ++ 32 :: t = (a ++ [32]) ++ t from by simp, List.drop_left' rfl]
  · rw [B_extract, B_of_mk, e, List.drop_zero, Nat.sub_zero, Nat.add_zero, List.take_left' rfl]
theorem split3 (s : ByteArray) (hs : s.size ≤ 1048576) (w d1 d2 : List UInt8) (e : B s = w ++ 32 :: (d1 ++ 32 :: d2)) (hw : ∀ b ∈ w, b ≠ 32) (h1 : ∀ b ∈ d1, b ≠ 32) (h2 : ∀ b ∈ d2, b ≠ 32) : strings_Split.f s sepS = some [mk w, mk d1, mk d2] := by
  have hp : 1 ≤ (sepS).size := Nat.le_refl 1
  have i1 := idx32 s w _ e hw
  obtain ⟨t1, a1⟩ := tail_at s w _ e
  have i2 := idx32 (mk (d1 ++ 32 :: d2)) d1 d2 (B_of_mk _) h1
  obtain ⟨t2, a2⟩ := tail_at (mk (d1 ++ 32 :: d2)) d1 d2 (B_of_mk _)
  have i3 := idx_none (mk d2) (by rw [B_of_mk]; exact h2)
  have c : Lib.countB s sepS = 2 := by
    rw [Lib.countB_hit s sepS _ hp i1, t1, Lib.countB_hit _ sepS _ hp i2, t2, Lib.countB_miss _ sepS i3]
  have sp : Lib.splitB sepS 0 2 s = [mk w, mk d1, mk d2] := by
    rw [Lib.splitB_hit sepS 0 1 s _ i1, a1, t1, Lib.splitB_hit sepS 0 0 _ _ i2, a2, t2, Lib.splitB_zero]
  unfold strings_Split.f
  rw [c, sp, if_pos ⟨by omega, hp, rfl, by omega⟩]
/-- The words as the reference cuts them. -/
def spl : List UInt8 → List UInt8 → List (List UInt8)
  | [], cur => [cur]
  | b :: l, cur => if b = 32 then cur :: spl l [] else spl l (cur ++ [b])
theorem spl_word (w l cur : List UInt8) (hw : ∀ b ∈ w, b ≠ 32) : spl (w ++ l) cur = spl l (cur ++ w) := by
  induction w generalizing cur with
  | nil => simp
  | cons b w ih =>
    simp only [List.cons_append, spl, if_neg (hw b (by simp))]
    rw [ih _ (fun x hx => hw x (by simp [hx]))]
    simp
theorem cut_more1 (s : ByteArray) (a pos : Nat) (h : a ≤ pos) (hp : pos < (B s).length) : B (s.extract a (pos + 1)) = B (s.extract a pos) ++ [(B s)[pos]] := by
  rw [B_extract, B_extract, show pos + 1 - a = (pos - a) + 1 from by omega, List.take_succ_eq_append_getElem (by rw [List.length_drop]; omega), List.getElem_drop]
  congr 2
  congr 1
  omega
theorem specSpl_ev (s : ByteArray) (hs : s.size ≤ 1048576) : Ev (fun k => spec_l1Split.f k s 32) ((spl (B s) []).map mk) := by
  have hl := B_length s
  have key : ∀ (d i fr : Nat) (out : List ByteArray), i + d = s.size → fr ≤ i → out.length ≤ i → Ev (fun k => spec_l1Split.l0 k s 32 out (fr : Int) (i : Int)) (out ++ (spl ((B s).drop i) (B (s.extract fr i))).map mk) := by
    intro d
    induction d with
    | zero =>
      intro i fr out hi hf ho
      obtain rfl : i = s.size := by omega
      refine Ev.step (f := fun _ => some _) (fun k => ?_) (Ev.now _)
      simp only [spec_l1Split.l0]
      rw [if_neg (by omega), if_pos (by omega), if_pos (by omega), if_pos (by omega), Int.toNat_natCast, ← hl, List.drop_length]
      simp only [spl, List.map_cons, List.map_nil, mk_of_B]
    | succ d ih =>
      intro i fr out hi hf ho
      have hi2 : i < (B s).length := by omega
      have hb := bt_B s i hi2
      rw [List.drop_eq_getElem_cons hi2]
      by_cases c : (B s)[i] = 32
      · have ih := ih (i + 1) (i + 1) (out ++ [s.extract fr i]) (by omega) (Nat.le_refl _) (by rw [List.length_append]; simp; omega)
        have e0 : B (s.extract (i + 1) (i + 1)) = [] := by rw [B_extract]; simp
        rw [e0] at ih
        simp only [spl, if_pos c, List.map_cons, mk_of_B]
        rw [List.append_assoc] at ih
        refine Ev.step (fun k => ?_) ih
        simp only [spec_l1Split.l0]
        rw [if_pos (by omega), if_pos (by omega), if_pos (by rw [hb, c]; rfl), if_pos (by omega), if_pos (by omega), if_pos (by omega), if_pos (by omega), wrap_succ (by omega), Int.toNat_natCast, Int.toNat_natCast]
      · have ih := ih (i + 1) fr out (by omega) (by omega) (by omega)
        rw [cut_more1 s fr i hf hi2] at ih
        simp only [spl, if_neg c]
        refine Ev.step (fun k => ?_) ih
        simp only [spec_l1Split.l0]
        rw [if_pos (by omega), if_pos (by omega), if_neg, wrap_succ (by omega)]
        rw [hb]
        intro h
        exact c (UInt8.toNat_inj.1 (by show (B s)[i].toNat = 32; omega))
  have := key s.size 0 0 [] (by omega) (Nat.le_refl _) (Nat.zero_le _)
  have e0 : B (s.extract 0 0) = [] := by rw [B_extract]; simp
  rw [e0, List.drop_zero, List.nil_append] at this
  exact Ev.congr (fun k => rfl) this
theorem readAny_ev (x : ByteArray) (hx : x.size ≤ 1000) : ∃ v o, Ev (fun k => spec_l1Read.f k x) (v, o) ∧ ∀ u : Nat, u ≤ 999999 → B x = Lib.decDigits u → v = (u : Int) ∧ o = true := by
  have hs := B_length x
  have loop : ∀ y : ByteArray, (B y).length ≤ 6 → ∀ (d n : Nat), n + d = (B y).length → (∀ b ∈ (B y).take n, isD b) → ∃ v o, Ev (fun k => spec_l1Read.l0 k x y (val 0 ((B y).take n) : Int) (n : Int)) (v, o) ∧ (y = x → ∀ u : Nat, u ≤ 999999 → B x = Lib.decDigits u → v = (u : Int) ∧ o = true) := by
    intro y hy6 d
    have hys := B_length y
    have vb : ∀ n, n ≤ (B y).length → (∀ b ∈ (B y).take n, isD b) → val 0 ((B y).take n) < 1000000 := fun n hn hd => by
      have hv := val_lt ((B y).take n) 0 0 hd (by simp)
      have hv2 : val 0 ((B y).take n) < 10 ^ 6 := Nat.lt_of_lt_of_le hv (Nat.pow_le_pow_right (by omega) (by rw [List.length_take]; omega))
      exact hv2
    induction d with
    | zero =>
      intro n hn hd
      obtain rfl : n = (B y).length := by omega
      have hv3 := vb _ (Nat.le_refl _) hd
      rw [List.take_length] at hd hv3 ⊢
      by_cases c : (y.size : Int) < (x.size : Int)
      · have w1 : wrap64 (-(val 0 (B y) : Int)) = -(val 0 (B y) : Int) := wrap_id (by omega) (by omega)
        have fin : ∀ r, Ev (fun k => (spec_l1Num.f k (-(val 0 (B y) : Int))).bind fun t => if t.toList = x.toList then some (-(val 0 (B y) : Int), true) else some (0, false)) r → Ev (fun k => spec_l1Read.l0 k x y (val 0 (B y) : Int) ((B y).length : Int)) r := fun r h => by
          refine Ev.step (fun k => ?_) h
          simp only [spec_l1Read.l0]
          rw [if_neg (by omega), if_pos c, w1]
        by_cases e : (dec (-(val 0 (B y) : Int))).toList = x.toList
        · exact ⟨_, true, fin _ (Ev.bind (specNum_ev _ (by omega) (by omega)) (Ev.congr (fun k => if_pos e) (Ev.now _))), fun h => by subst h; omega⟩
        · exact ⟨0, false, fin _ (Ev.bind (specNum_ev _ (by omega) (by omega)) (Ev.congr (fun k => if_neg e) (Ev.now _))), fun h => by subst h; omega⟩
      · have fin : ∀ r, Ev (fun k => (spec_l1Num.f k (val 0 (B y) : Int)).bind fun t => if t.toList = x.toList then some ((val 0 (B y) : Int), true) else some (0, false)) r → Ev (fun k => spec_l1Read.l0 k x y (val 0 (B y) : Int) ((B y).length : Int)) r := fun r h => by
          refine Ev.step (fun k => ?_) h
          simp only [spec_l1Read.l0]
          rw [if_neg (by omega), if_neg c]
        by_cases e : (dec (val 0 (B y) : Int)).toList = x.toList
        · refine ⟨_, true, fin _ (Ev.bind (specNum_ev _ (by omega) (by omega)) (Ev.congr (fun k => if_pos e) (Ev.now _))), fun h u hu eu => ⟨?_, rfl⟩⟩
          rw [h, eu, val_dd u u (Nat.le_refl _)]
        · refine ⟨0, false, fin _ (Ev.bind (specNum_ev _ (by omega) (by omega)) (Ev.congr (fun k => if_neg e) (Ev.now _))), fun h u hu eu => absurd ?_ e⟩
          rw [B_toList, B_toList, h, eu, val_dd u u (Nat.le_refl _), B_decN]
    | succ d ih =>
      intro n hn hd
      have hl2 : n < (B y).length := by omega
      have hb := bt_B y n hl2
      by_cases c : isD (B y)[n]
      · have hd2 : ∀ b ∈ (B y).take (n + 1), isD b := by
          intro b hb2
          rw [List.take_succ_eq_append_getElem hl2, List.mem_append] at hb2
          rcases hb2 with h | h
          · exact hd b h
          · simp only [List.mem_singleton] at h; rw [h]; exact c
        obtain ⟨v, o, he, hr⟩ := ih (n + 1) (by omega) hd2
        refine ⟨v, o, Ev.step (fun k => ?_) he, hr⟩
        have hv3 := vb (n + 1) (by omega) hd2
        unfold isD at c
        rw [List.take_succ_eq_append_getElem hl2, val_snoc] at hv3 ⊢
        simp only [spec_l1Read.l0]
        rw [if_pos (by omega), if_pos (by omega), if_neg (by omega), if_neg (by omega), wrap_succ (by omega)]
        have e1 : wrap64 (10 * (val 0 ((B y).take n) : Int)) = 10 * (val 0 ((B y).take n) : Int) := wrap_id (by omega) (by omega)
        have e2 : (bt y (n : Int) - 48) % 256 = ((B y)[n].toNat - 48 : Nat) := by omega
        have e3 : wrap64 (10 * (val 0 ((B y).take n) : Int) + (((B y)[n].toNat - 48 : Nat) : Int)) = ((val 0 ((B y).take n) * 10 + ((B y)[n].toNat - 48) : Nat) : Int) := by rw [wrap_id (by omega) (by omega)]; omega
        rw [e1, e2, e3]
      · refine ⟨0, false, Ev.step (f := fun _ => some (0, false)) (fun k => ?_) (Ev.now _), fun h u hu eu => absurd ?_ c⟩
        · simp only [spec_l1Read.l0]
          unfold isD at c
          rw [if_pos (by omega), if_pos (by omega)]
          by_cases q : bt y (n : Int) < 48
          · rw [if_pos q]
          · rw [if_neg q, if_pos (by omega)]
        · subst h
          have := dd_range u u (Nat.le_refl _)
          rw [← eu] at this
          exact this _ (List.getElem_mem hl2)
  have j1 : ∀ y : ByteArray, y.size ≤ 1000 → ∃ v o, Ev (fun k => spec_l1Read.j1 k x y) (v, o) ∧ (y = x → ∀ u : Nat, u ≤ 999999 → B x = Lib.decDigits u → v = (u : Int) ∧ o = true) := by
    intro y hy
    have hys := B_length y
    by_cases c : 1 ≤ y.size ∧ y.size ≤ 6
    · obtain ⟨v, o, he, hr⟩ := loop y (by omega) (B y).length 0 (by omega) (by simp)
      refine ⟨v, o, Ev.step (fun k => ?_) he, hr⟩
      simp only [spec_l1Read.j1, l1In_is, Option.bind_some]
      rw [show (decide ((1 : Int) ≤ (y.size : Int)) && decide ((y.size : Int) ≤ 6)) = true from by simp; omega, if_pos rfl]
      rfl
    · refine ⟨0, false, Ev.step (f := fun _ => some (0, false)) (fun k => ?_) (Ev.now _), fun h u hu eu => absurd ?_ c⟩
      · simp only [spec_l1Read.j1, l1In_is, Option.bind_some]
        rw [show (decide ((1 : Int) ≤ (y.size : Int)) && decide ((y.size : Int) ≤ 6)) = false from by simp; omega]
        rfl
      · subst h
        have h1 := dd_len 6 u (by omega) (by omega)
        have h2 := List.length_pos_iff.2 (dd_ne u)
        rw [← eu] at h1 h2
        omega
  by_cases c : (x.size : Int) > 1
  · by_cases m : (bt x 0 == 45) = true
    · obtain ⟨v, o, he, _⟩ := j1 (x.extract 1 x.size) (by rw [ByteArray.size_extract]; omega)
      refine ⟨v, o, Ev.congr (f := fun k => spec_l1Read.j0 k x x true) (fun k => ?_) (Ev.step (fun k => ?_) he), fun u hu eu => ?_⟩
      · unfold spec_l1Read.f; rw [if_pos c, if_pos (by omega), m]
      · simp only [spec_l1Read.j0, if_true]; rw [if_pos (by omega)]
      · exfalso
        have hl0 : 0 < (B x).length := by omega
        have h0 := bt_B x 0 hl0
        have hh := dd_range u u (Nat.le_refl _)
        rw [← eu] at hh
        have := hh _ (List.getElem_mem hl0)
        unfold isD at this
        have m2 : bt x 0 = 45 := by simpa using m
        have h1 : bt x ((0 : Nat) : Int) = 45 := m2
        omega
    · obtain ⟨v, o, he, hr⟩ := j1 x (by omega)
      refine ⟨v, o, Ev.congr (f := fun k => spec_l1Read.j0 k x x false) (fun k => ?_) (Ev.step (fun k => ?_) he), hr rfl⟩
      · unfold spec_l1Read.f; rw [if_pos c, if_pos (by omega), Bool.eq_false_iff.2 m]
      · simp only [spec_l1Read.j0, Bool.false_eq_true, if_false]
  · obtain ⟨v, o, he, hr⟩ := j1 x (by omega)
    refine ⟨v, o, Ev.congr (f := fun k => spec_l1Read.j0 k x x false) (fun k => ?_) (Ev.step (fun k => ?_) he), hr rfl⟩
    · unfold spec_l1Read.f; rw [if_neg c]
    · simp only [spec_l1Read.j0, Bool.false_eq_true, if_false]
end Go.Proofs.YtnggfglmjdiaaaaDoor.X


namespace Go.Proofs.YtnggfglmjdiaaaaDoor.X
open Go.RowKit Go.Proofs.YtnggfglmjdiaaaaDoorW.PrintWords Go.Proofs.YtnggfglmjdiaaaaDoorL
set_option linter.unusedVariables false
set_option linter.unusedSimpArgs false
theorem words_all : ∀ p q : Fin 4, p ≠ q → wordsO.getD p.val ByteArray.empty ≠ wordsO.getD q.val ByteArray.empty := by decide
theorem words_ne (i j : Nat) (hi : i < wordsO.length) (hj : j < wordsO.length) (h : i ≠ j) : wordsO[i] ≠ wordsO[j] := by
  have := words_all ⟨i, hi⟩ ⟨j, hj⟩ (fun e => h (congrArg Fin.val e))
  simpa [List.getD_eq_getElem?_getD, List.getElem?_eq_getElem hi, List.getElem?_eq_getElem hj] using this
theorem l24Order_eq (a b c : Int) : spec_l24Order.f a b c = some (decide (okO a b c)) := by
  unfold spec_l24Order.f okO
  simp only [in_eq, Option.bind_some]
  by_cases h1 : 1 ≤ a ∧ a ≤ 3
  · by_cases h2 : 1 ≤ b ∧ b ≤ 99
    · by_cases h3 : 0 ≤ c ∧ c ≤ 9
      · simp [h1, h2, h3]
      · simp [h1, h2, h3]
    · simp [h1, h2]
  · simp [h1]
theorem no32 (u : Nat) : ∀ b ∈ Lib.decDigits u, b ≠ 32 := fun b hb e => by
  have := dd_range u u (Nat.le_refl _) b hb
  rw [e] at this
  unfold isD at this
  exact absurd this.1 (by decide)
/-- What an order's text is made of. -/
theorem order_facts (s : ByteArray) (a b c : Int) (h : okO a b c) (e : textO a b c = s) : ∃ (j u v : Nat), (j : Int) = a ∧ 1 ≤ j ∧ j ≤ 3 ∧ (u : Int) = b ∧ u ≤ 99 ∧ (v : Int) = c ∧ v ≤ 9 ∧
    B s = B (rdOf ByteArray.empty wordsO a) ++ 32 :: (Lib.decDigits u ++ 32 :: Lib.decDigits v) ∧ (∀ x ∈ B (rdOf ByteArray.empty wordsO a), x ≠ 32) ∧ (B s).length ≤ 20 := by
  obtain ⟨⟨a0, a1⟩, ⟨b0, b1⟩, c0, c1⟩ := h
  obtain ⟨j, rfl⟩ := Int.eq_ofNat_of_zero_le (show 0 ≤ a by omega)
  obtain ⟨u, rfl⟩ := Int.eq_ofNat_of_zero_le (show 0 ≤ b by omega)
  obtain ⟨v, rfl⟩ := Int.eq_ofNat_of_zero_le c0
  have es : B s = B (rdOf ByteArray.empty wordsO (j : Int)) ++ 32 :: (Lib.decDigits u ++ 32 :: Lib.decDigits v) := by
    rw [← e]
    unfold textO
    simp only [B_append, B_decN, List.append_assoc]
    rfl
  have hw := word_size (j : Int) (by omega) (by omega)
  have l1 := dd_len 2 u (by omega) (by omega)
  have l2 := dd_len 1 v (by omega) (by omega)
  refine ⟨j, u, v, rfl, by omega, by omega, rfl, by omega, rfl, by omega, es, ?_, ?_⟩
  · have : j = 1 ∨ j = 2 ∨ j = 3 := by omega
    rcases this with rfl | rfl | rfl <;> decide
  · rw [es, List.length_append, List.length_cons, List.length_append, List.length_cons, B_length]; omega
theorem implOrder_ev (s : ByteArray) (hs : s.size ≤ 1048576) : ∃ r, Ev (fun k => impl_ParseOrder.f k s) r ∧ (r = zeroO ∨ ∃ a b c, okO a b c ∧ textO a b c = s ∧ r = (a, b, c, true)) ∧ ∀ a b c, okO a b c → textO a b c = s → r = (a, b, c, true) := by
  obtain ⟨ws, hws, h1, hsz⟩ := split_total s hs
  have shape : ∀ a b c, okO a b c → textO a b c = s → ∃ j u v : Nat, (j : Int) = a ∧ 1 ≤ j ∧ j ≤ 3 ∧ (u : Int) = b ∧ u ≤ 99 ∧ (v : Int) = c ∧ v ≤ 9 ∧ ws = [rdOf ByteArray.empty wordsO a, mk (Lib.decDigits u), mk (Lib.decDigits v)] := by
    intro a b c h e
    obtain ⟨j, u, v, q1, q2, q3, q4, q5, q6, q7, es, hw, _⟩ := order_facts s a b c h e
    have := split3 s hs _ _ _ es hw (no32 u) (no32 v)
    rw [hws, mk_of_B] at this
    exact ⟨j, u, v, q1, q2, q3, q4, q5, q6, q7, Option.some.inj this⟩
  by_cases c3 : ws.length = 3
  · obtain ⟨x, y, z, rfl⟩ : ∃ x y z, ws = [x, y, z] := by
      match ws, c3 with
      | [x, y, z], _ => exact ⟨x, y, z, rfl⟩
    obtain ⟨i, hi, hip⟩ := implIndex_ev wordsO x (by decide)
    obtain ⟨v1, o1, e1⟩ := parseInt_total y (by have := hsz y (by simp); omega)
    obtain ⟨v2, o2, e2⟩ := parseInt_total z (by have := hsz z (by simp); omega)
    refine ⟨ansO s i v1 v2, ?_, ?_, fun a b c h e => ?_⟩
    · unfold impl_ParseOrder.f
      have hw : strings_Split.f s (⟨#[32]⟩ : ByteArray) = some [x, y, z] := hws
      have ew : impl_orderWords.f = some wordsO := rfl
      have r0 : rdOf ByteArray.empty [x, y, z] 0 = x := rfl
      have r1 : rdOf ByteArray.empty [x, y, z] 1 = y := rfl
      have r2 : rdOf ByteArray.empty [x, y, z] 2 = z := rfl
      simp only [hw, Option.bind_some, ew, r0, r1, r2, e1, e2]
      refine Ev.congr (f := fun k => (slices_Index_string_string.f k wordsO x).bind fun t => (impl_OrderText.f k t v1 v2).bind fun bt => if bt.2 = true then (if bt.1.toList = s.toList then some (t, v1, v2, true) else some zeroO) else some zeroO) (fun k => by
        rw [if_pos (show (([x, y, z] : List ByteArray).length : Int) = 3 from rfl), if_pos (show (0 : Int) < (([x, y, z] : List ByteArray).length : Int) by simp)]
        refine congrArg (Option.bind _) (funext fun t => ?_)
        rw [if_pos (show (1 : Int) < (([x, y, z] : List ByteArray).length : Int) by simp), if_pos (show (2 : Int) < (([x, y, z] : List ByteArray).length : Int) by simp)]) (Ev.bind hi (Ev.bind (implOrderText_ev i v1 v2) ?_))
      unfold orderText ansO
      by_cases h : okO i v1 v2
      · by_cases d : textO i v1 v2 = s
        · simp only [if_pos h, h, d, and_self, if_true]; exact Ev.now _
        · have d2 : ¬ (textO i v1 v2).toList = s.toList := fun q => d (B_inj (by rw [B_toList, B_toList] at q; exact q))
          simp only [if_pos h, h, d, and_false, if_true, if_false, if_neg d2]; exact Ev.now _
      · simp only [if_neg h, h, false_and, if_false, Bool.false_eq_true]; exact Ev.now _
    · unfold ansO
      by_cases h : okO i v1 v2 ∧ textO i v1 v2 = s
      · rw [if_pos h]; exact .inr ⟨i, v1, v2, h.1, h.2, rfl⟩
      · rw [if_neg h]; exact .inl rfl
    · obtain ⟨j, u, v, q1, q2, q3, q4, q5, q6, q7, ew⟩ := shape a b c h e
      injection ew with ex ew
      injection ew with ey ew
      injection ew with ez _
      have p1 := parseInt_dd u (by omega)
      have p2 := parseInt_dd v (by omega)
      rw [ey, p1] at e1
      rw [ez, p2] at e2
      simp only [Option.some.injEq, Prod.mk.injEq] at e1 e2
      have hx : i = (j : Int) := by
        have hjl : j < wordsO.length := by show j < 4; omega
        refine hip j hjl ?_ ?_
        · rw [ex, ← q1, rdW wordsO j hjl]
        · intro k hk
          rw [ex, ← q1, rdW wordsO j hjl]
          exact words_ne k j (by omega) hjl (by omega)
      have hi2 : i = a := hx.trans q1
      have hv1 : v1 = b := by rw [← e1.1, q4]
      have hv2 : v2 = c := by rw [← e2.1, q6]
      rw [hi2, hv1, hv2]
      exact if_pos ⟨h, e⟩
  · refine ⟨zeroO, ev_eq (fun k => ?_), .inl rfl, fun a b c h e => absurd ?_ c3⟩
    · unfold impl_ParseOrder.f
      have hw : strings_Split.f s (⟨#[32]⟩ : ByteArray) = some ws := hws
      rw [hw, Option.bind_some, if_neg (by omega)]
    · obtain ⟨j, u, v, _, _, _, _, _, _, _, ew⟩ := shape a b c h e
      rw [ew]; rfl
theorem specOrder_ev (s : ByteArray) (hs : s.size ≤ 1048576) : ∃ r, Ev (fun k => spec_ParseOrder.f k s) r ∧ (r = zeroO ∨ ∃ a b c, okO a b c ∧ textO a b c = s ∧ r = (a, b, c, true)) ∧ ∀ a b c, okO a b c → textO a b c = s → r = (a, b, c, true) := by
  have hlen := B_length s
  have bad : ∀ ws, Ev (fun k => spec_ParseOrder.j0 k s ws true) zeroO := fun ws => Ev.step (f := fun _ => some _) (fun k => by simp only [spec_ParseOrder.j0, if_true]) (Ev.now _)
  have shape : ∀ a b c, okO a b c → textO a b c = s → ∃ j u v : Nat, (j : Int) = a ∧ 1 ≤ j ∧ j ≤ 3 ∧ (u : Int) = b ∧ u ≤ 99 ∧ (v : Int) = c ∧ v ≤ 9 ∧ (spl (B s) []).map mk = [rdOf ByteArray.empty wordsO a, mk (Lib.decDigits u), mk (Lib.decDigits v)] := by
    intro a b c h e
    obtain ⟨j, u, v, q1, q2, q3, q4, q5, q6, q7, es, hw, _⟩ := order_facts s a b c h e
    refine ⟨j, u, v, q1, q2, q3, q4, q5, q6, q7, ?_⟩
    rw [es, spl_word _ _ _ hw]
    simp only [spl, if_true, List.nil_append]
    rw [spl_word _ _ _ (no32 u)]
    simp only [spl, if_true, List.nil_append]
    have := spl_word (Lib.decDigits v) [] [] (no32 v)
    rw [List.append_nil] at this
    rw [this]
    simp only [spl, List.nil_append, List.map_cons, List.map_nil, mk_of_B]
  by_cases c20 : (s.size : Int) > 20
  · refine ⟨zeroO, ?_, .inl rfl, fun a b c h e => ?_⟩
    · unfold spec_ParseOrder.f
      exact Ev.bind (specSpl_ev s hs) (Ev.congr (fun k => if_pos c20) (bad _))
    · obtain ⟨_, _, _, _, _, _, _, _, _, _, _, _, hl⟩ := order_facts s a b c h e
      omega
  · by_cases c3 : ((spl (B s) []).map mk).length = 3
    · obtain ⟨x, y, z, hxyz⟩ : ∃ x y z, (spl (B s) []).map mk = [x, y, z] := by
        match (spl (B s) []).map mk, c3 with
        | [x, y, z], _ => exact ⟨x, y, z, rfl⟩
      have psz : ∀ w ∈ (spl (B s) []).map mk, w.size ≤ 1000 := by
        have gen : ∀ (l cur : List UInt8), ∀ w ∈ spl l cur, w.length ≤ l.length + cur.length := by
          intro l
          induction l with
          | nil => intro cur w hw; simp only [spl, List.mem_singleton] at hw; rw [hw]; simp
          | cons b l ih =>
            intro cur w hw
            simp only [spl] at hw
            split at hw
            · rcases List.mem_cons.1 hw with h | h
              · rw [h]; omega
              · have := ih [] w h; simp at this; simp; omega
            · have := ih _ w hw; simp at this; simp; omega
        intro w hw
        obtain ⟨q, hq, rfl⟩ := List.mem_map.1 hw
        have := gen _ _ q hq
        rw [mk_size]
        simp at this
        omega
      rw [hxyz] at psz
      obtain ⟨v1, o1, e1, r1⟩ := readAny_ev y (psz y (by simp))
      obtain ⟨v2, o2, e2, r2⟩ := readAny_ev z (psz z (by simp))
      obtain ⟨i, hi, hip⟩ := specIndex_ev wordsO x (by decide)
      have run : Ev (fun k => spec_ParseOrder.f k s) (if o1 = true then (if o2 = true then ansO s i v1 v2 else zeroO) else zeroO) := by
        unfold spec_ParseOrder.f
        refine Ev.bind (specSpl_ev s hs) ?_
        rw [hxyz]
        refine Ev.congr (f := fun k => spec_ParseOrder.j0 k s [x, y, z] false) (fun k => by rw [if_neg c20]; rfl) ?_
        refine Ev.step (f := fun k => (spec_l1Read.f k y).bind fun bt => (spec_l1Read.f k z).bind fun bt2 => (spec_l4Index.f k wordsO x).bind fun t => if bt.2 = true then (if bt2.2 = true then ((spec_l24Order.f t bt.1 bt2.1).bind fun t2 => if t2 = true then ((spec_l24Text.f k t bt.1 bt2.1).bind fun t3 => if t3.toList = s.toList then some (t, bt.1, bt2.1, true) else some zeroO) else some zeroO) else some zeroO) else some zeroO) (fun k => ?_) (Ev.bind e1 (Ev.bind e2 (Ev.bind hi ?_)))
        · simp only [spec_ParseOrder.j0, Bool.false_eq_true, if_false]
          rw [if_pos (show (1 : Int) < (([x, y, z] : List ByteArray).length : Int) by simp)]
          refine congrArg (Option.bind _) (funext fun t => ?_)
          rw [if_pos (show (2 : Int) < (([x, y, z] : List ByteArray).length : Int) by simp)]
          refine congrArg (Option.bind _) (funext fun t => ?_)
          rw [if_pos (show (0 : Int) < (([x, y, z] : List ByteArray).length : Int) by simp)]
          rfl
        · simp only [l24Order_eq, Option.bind_some]
          cases o1 with
          | false => simp only [Bool.false_eq_true, if_false]; exact Ev.now _
          | true => cases o2 with
            | false => simp only [Bool.false_eq_true, if_false, if_true]; exact Ev.now _
            | true =>
              simp only [if_true]
              by_cases h : okO i v1 v2
              · simp only [decide_eq_true h, if_true]
                refine Ev.bind (specTextO_ev i v1 v2 h) ?_
                by_cases d : textO i v1 v2 = s
                · have e9 : ansO s i v1 v2 = (i, v1, v2, true) := if_pos ⟨h, d⟩
                  rw [e9]; exact Ev.congr (fun k => if_pos (by rw [d])) (Ev.now _)
                · have e9 : ansO s i v1 v2 = zeroO := if_neg (fun q => d q.2)
                  rw [e9]
                  exact Ev.congr (fun k => if_neg (fun q => d (B_inj (by rw [B_toList, B_toList] at q; exact q)))) (Ev.now _)
              · simp only [decide_eq_false h, Bool.false_eq_true, if_false]
                have e9 : ansO s i v1 v2 = zeroO := if_neg (fun q => h q.1)
                rw [e9]
                exact Ev.now _
      refine ⟨_, run, ?_, fun a b c h e => ?_⟩
      · unfold ansO
        repeat' split
        all_goals first | exact .inl rfl | (rename_i hh; exact .inr ⟨i, v1, v2, hh.1, hh.2, rfl⟩)
      · obtain ⟨j, u, v, q1, q2, q3, q4, q5, q6, q7, ew⟩ := shape a b c h e
        rw [hxyz] at ew
        injection ew with ex ew
        injection ew with ey ew
        injection ew with ez _
        obtain ⟨w1, w2⟩ := r1 u (by omega) (by rw [ey, B_of_mk])
        obtain ⟨w3, w4⟩ := r2 v (by omega) (by rw [ez, B_of_mk])
        have hx : i = (j : Int) := by
          have hjl : j < wordsO.length := by show j < 4; omega
          refine hip j q2 hjl ?_ ?_
          · rw [ex, ← q1, rdW wordsO j hjl]
          · intro k hk1 hk
            rw [ex, ← q1, rdW wordsO j hjl]
            exact words_ne k j (by omega) hjl (by omega)
        rw [w2, w4, if_pos rfl, if_pos rfl, hx, w1, w3, q1, q4, q6]
        exact if_pos ⟨h, e⟩
    · refine ⟨zeroO, ?_, .inl rfl, fun a b c h e => absurd ?_ c3⟩
      · unfold spec_ParseOrder.f
        refine Ev.bind (specSpl_ev s hs) (Ev.congr (f := fun k => spec_ParseOrder.j0 k s ((spl (B s) []).map mk) true) (fun k => ?_) (bad _))
        rw [if_neg c20]
        congr 1
        exact bne_iff_ne.2 (fun h => c3 (by omega))
      · obtain ⟨j, u, v, _, _, _, _, _, _, _, ew⟩ := shape a b c h e
        rw [ew]; rfl
theorem orderBoth (s : ByteArray) (hs : s.size ≤ 1048576) : ∃ r, Ev (fun k => spec_ParseOrder.f k s) r ∧ Ev (fun k => impl_ParseOrder.f k s) r := by
  obtain ⟨r, h1, h2, h3⟩ := implOrder_ev s hs
  obtain ⟨q, g1, g2, g3⟩ := specOrder_ev s hs
  have : q = r := by
    rcases h2 with h | ⟨a, b, c, k1, k2, k3⟩
    · rcases g2 with g | ⟨a, b, c, k1, k2, k3⟩
      · rw [h, g]
      · rw [k3, h3 a b c k1 k2]
    · rw [k3, g3 a b c k1 k2]
  exact ⟨r, this ▸ g1, h1⟩
end Go.Proofs.YtnggfglmjdiaaaaDoor.X


namespace Go.Proofs.YtnggfglmjdiaaaaDoor.Pure
open Go.RowKit Go.Proofs.YtnggfglmjdiaaaaDoorW.PrintWords Go.Proofs.YtnggfglmjdiaaaaDoorL Go.Proofs.YtnggfglmjdiaaaaDoor.X
theorem FnExactParseOrder : OFnExactParseOrder.Pure := by
  intro s hs
  refine ev_rounds ?_
  unfold laws_FnExactParseOrder.f
  by_cases c : (s.size : Int) > 1048576
  · simp only [if_pos c]; exact Ev.now _
  · simp only [if_neg c]
    obtain ⟨r, h1, h2⟩ := orderBoth s (by omega)
    refine Ev.bind h1 (Ev.bind h2 ?_)
    simp [laws_eqOrder.f]
    exact Ev.now _
end Go.Proofs.YtnggfglmjdiaaaaDoor.Pure


namespace Go.Proofs.YtnggfglmjdiaaaaDoorHs
open Go
set_option linter.unusedVariables false
set_option linter.unusedSimpArgs false
theorem handed_shaped {H : Type} {enc : TypeId × Value → H} {a : Assume} {C : Checked} {os : Os} {f : FuncId} {fn : Func} {s : ChangeSpec} {conds : List PathCond} {apart fresh handsOn again : Bool} {X : World → Array Value → Prop}
    (hX : ∀ (w w' : World) (args : Array Value), w.heap = w'.heap → X w args → X w' args)
    (own : ownKnob C.prog.godebug = none) (started : os.Started) (noInit : C.prog.inits.idxOf? f = none) (hfn : C.prog.funcs[f]? = some fn)
    (witness : ∃ (w : World) (tape : Tape) (i : Input), w.os = os ∧ (w.forCall tape i).Shaped C.prog ∧ i.vars = [] ∧ Input.okWide C.prog (w.forCall tape i) .any w.heap.size f i ∧
      ((s.pre enc C.prog fn conds apart (w.forCall tape i).memory i.args ∧ X (w.forCall tape i).memory i.args) ∧ sizedMet enc C.prog fn (OpenSpec.ofChange s) apart (w.forCall tape i).memory i.args) ∧ a.holds C.prog (lone (Frame.enter C.prog f i.args .normal) [] (w.forCall tape i)))
    (contract : ∀ (W : World) (base : Nat) (args : Array Value) (ds gs : List (DataW H)) (before : List MemPlace),
      (∀ (j : Nat) t v, fn.params[j]? = some t → args[j]? = some v → Value.okWide C.prog W .any base t v) →
      DataW.Whole enc C.prog fn.params.toList s.vars apart W args.toList ds gs before →
      conds.all (PathCond.test C.prog ⟨fn.params.toList, ds, s.plain.varTypes C.prog, gs⟩) = true →
      (DataW.weightsEach C.prog (fn.params.toList ++ s.plain.varTypes C.prog) (ds ++ gs)).all (· ≤ reachBytes) = true → X W args →
      W.ShapedOpen C.prog →
      Calls C.prog f args W fun e W' => ∃ v, e = .returned v ∧ s.post enc C.prog fn apart fresh handsOn again W args v W') :
    ReturnsInHanded a C os f .any (fun w args => (s.pre enc C.prog fn conds apart w args ∧ X w args) ∧ sizedMet enc C.prog fn (OpenSpec.ofChange s) apart w args) (s.post enc C.prog fn apart fresh handsOn again) := by
  refine returnsInHanded_of_calls own started noInit witness ?_
  intro w tape i _ hsh _ hok hpre hholds
  obtain ⟨_, _, _, fn', hfn', _, _, _, _, hval⟩ := hok
  obtain rfl : fn' = fn := Option.some.inj (hfn'.symm.trans hfn)
  obtain ⟨⟨⟨ds, gs, before, hw, hc⟩, hx⟩, hz⟩ := hpre
  have hw' := DataW.Whole.of_heap (w' := w.forCall tape i) (by rfl) hw
  refine (contract (w.forCall tape i) w.heap.size i.args ds gs before hval hw' hc (hz.weights hw) (hX _ _ _ (by rfl) hx) hsh).mono fun e W' ⟨v, he, hp⟩ => ?_
  subst he
  exact ChangeSpec.post_blind hp
end Go.Proofs.YtnggfglmjdiaaaaDoorHs



namespace Go.Proofs.YtnggfglmjdiaaaaDoor.fnExactParseOrder
open Go.ChangeShapes Go.WideShapes Go.ChangeAt Go.RowKit
open Go.ChangeMaps (open_string shut_string)
open Go.Joins
open Go.Proofs.YtnggfglmjdiaaaaDoorW.PrintWords Go.Proofs.YtnggfglmjdiaaaaDoorW.PrintLast Go.Proofs.YtnggfglmjdiaaaaDoorW.PrintMore
open Go.Proofs.YtnggfglmjdiaaaaDoorZ Go.Proofs.YtnggfglmjdiaaaaDoor.X Go.Proofs.YtnggfglmjdiaaaaDoor.X.OFnExactParseOrder
set_option linter.unusedVariables false
set_option linter.unusedSimpArgs false
theorem own : ownKnob Tryd.prog.godebug = none := by kernel_rfl
theorem laidOut : laidOutB Tryd.prog = true := by kernel_rfl
open Go Go.Proofs.YtnggfglmjdiaaaaDoorG
def laidL : List (String × DataW Unit) := [("math/bits.deBruijn32tab", Rows.laid_math_bits_deBruijn32tab), ("math/bits.deBruijn64tab", Rows.laid_math_bits_deBruijn64tab), ("internal/strconv.uint64pow10", Rows.laid_internal_strconv_uint64pow10), ("unicode/utf8.acceptRanges", Rows.laid_unicode_utf8_acceptRanges), ("strconv.ErrRange", Rows.laid_strconv_ErrRange), ("strconv.ErrSyntax", Rows.laid_strconv_ErrSyntax), ("unicode/utf8.first", Rows.laid_unicode_utf8_first)]
theorem globOf {W : World} (h : laidMetH Tryd.prog laidL W) (hs : W.ShapedOpen Tryd.prog) : Glob W := by
  rw [MakeChecks.laidMetH_plain _ _ _ (by kernel_rfl)] at h
  exact Glob.of_tabs (ts := [105, 110, 118, 97, 108, 105, 100, 32, 115, 121, 110, 116, 97, 120]) (tr := [118, 97, 108, 117, 101, 32, 111, 117, 116, 32, 111, 102, 32, 114, 97, 110, 103, 101]) (h.filter fun x => x.1 == "internal/strconv.uint64pow10") (h.filter fun x => x.1 == "strconv.ErrSyntax") (h.filter fun x => x.1 == "strconv.ErrRange") (Go.Proofs.Tryd.laysM219.s1_3 W hs)
set_option maxRecDepth 100000 in
set_option maxHeartbeats 2000000 in
theorem lifted (os : Os) (started : os.Started) (H : Type) (enc : TypeId × Value → H) :
    ReturnsInHanded {} Tryd.checked os 4 .any (fun w args => (Rows.fnExactParseOrderSpec.pre enc Tryd.prog Tryd.f4 Rows.fnExactParseOrderRow.domain false w args ∧ laidMetH Tryd.prog laidL w) ∧ sizedMet enc Tryd.prog Tryd.f4 (OpenSpec.ofChange Rows.fnExactParseOrderSpec) false w args) (Rows.fnExactParseOrderSpec.post enc Tryd.prog Tryd.f4 false true false false) := by
  refine Go.Proofs.YtnggfglmjdiaaaaDoorHs.handed_shaped (C := Tryd.checked) (X := fun w _ => laidMetH Tryd.prog laidL w) (fun _ _ _ hh h => h.of_heap hh) own started (by kernel_rfl) Tryd.func4
    (ChangeSpec.witness_shaped (enc := enc) (C := Tryd.checked) (os := os) (X := fun w _ => laidMetH Tryd.prog laidL w) false (World.laidAll Tryd.prog os laidL) #[.string ByteArray.empty] 8 (World.laidAll_os _ _ _)
      (World.shaped_of_ZipB (by kernel_rfl) (by kernel_rfl)) (by kernel_rfl) (by kernel_rfl) (by kernel_rfl)
      (by rw [MakeChecks.laidMetH_plain _ _ _ (by kernel_rfl)]; exact laidMet_laidAll _ (by kernel_rfl) (by kernel_rfl))) ?_
  intro W base args ds gs before hval0 hW hcnd hsz0 hL hSh
  have hG := globOf hL hSh
  have hsz : (DataW.weightsEach Tryd.prog (Tryd.f4.params.toList ++ Rows.fnExactParseOrderSpec.plain.varTypes Tryd.prog) (ds ++ gs)).all (· ≤ reachBytes) = true := hsz0
  have hval : ∀ (j : Nat) t v, Tryd.f4.params[j]? = some t → args[j]? = some v → Value.okWide Tryd.prog W .any base t v := hval0
  have hW' := hW
  obtain ⟨p, q, hA0, hV, rfl, hfz, hnd⟩ := hW
  have hA : DataW.TrodAll enc Tryd.prog W 0 (fun _ => true) true Tryd.f4.params.toList args.toList ds p := hA0
  rw [Tryd.params4] at hA hval hsz
  obtain ⟨v0, vs0, d0, ds0, p0, q0, hargs, rfl, rfl, h0, r0⟩ := trodAll_cons hA
  obtain ⟨rfl, rfl, rfl⟩ := trodAll_nil r0
  obtain rfl : args = #[v0] := by cases args; simp_all
  obtain ⟨rfl, rfl⟩ := trodVars_none hV
  obtain ⟨a0, rfl, rfl, rfl, y0⟩ := open_string Tryd.underlying9 (hval 0 9 v0 rfl rfl) h0
  have w0 : a0.size ≤ 140737488351232 := by
    have z := sized_string hsz (j := 0) (t := 9) rfl rfl
    rw [Array.length_toList] at z
    exact z
  clear hA0 hval0 hsz0 hsz
  obtain ⟨k, h⟩ := Go.Proofs.YtnggfglmjdiaaaaDoor.Pure.FnExactParseOrder a0 w0
  refine (laws_FnExactParseOrder.calls k a0 true W hG h rfl).mono fun e W' ⟨he, bel0⟩ => ?_
  have bel : Below W.heap.size W W' := bel0
  subst he
  exact ⟨_, rfl, _, _, _, [], _, [], hW', trodAll_mk1 (shut_bool Tryd.underlying4 _), (trodAll_cons_mk (shut_string Tryd.underlying9 y0) trodAll_mk0), rfl, bel.frame _, fun h => by cases h⟩
theorem over : Rows.fnExactParseOrderRow.holds Tryd.pinned (OpenSpec.ofChange Rows.fnExactParseOrderSpec) :=
  OpenClaim.holds_of_wide 4 Tryd.f4 rfl rfl rfl rfl rfl rfl rfl ⟨rfl, rfl, rfl, rfl, rfl⟩ rfl rfl rfl rfl rfl (by kernel_rfl) Tryd.func4 (by kernel_rfl)
    (of_decide_eq_true (by kernel_rfl)) (by unfold Func.isWrapper; first | (rw [if_pos (by decide +kernel)]; kernel_rfl) | (rw [if_neg (by decide +kernel)]; exact ⟨rfl, rfl⟩))
    (fun os started H enc _ => lifted os started H enc)
theorem proved : Rows.FnExactParseOrderSaid := over
theorem carded : Rows.FnExactParseOrderCardSaid :=
  Claim7.holds_tied_plain_at .later [] [.data, .data, .data, .data, .sentinel, .sentinel, .pinned] true (true, "f472f0b8ad48c11012409fd7aa9c67f015ab0876ddc790509be06f2996a7c473") true
    proved (fun _ h => by cases h) (by kernel_rfl) (fun _ h => by cases h) fnExactParseOrder_row_tie rfl ⟨rfl, rfl⟩ (by kernel_rfl) rfl
    (fun f fn hf hfn => by
      obtain rfl : f = 4 := Option.some.inj ((show Tryd.prog.funcNamed "loop.example/g00906/laws.FnExactParseOrder" = some 4 by kernel_rfl).symm.trans hf) |>.symm
      obtain rfl : fn = Tryd.f4 := (Option.some.inj (Tryd.func4.symm.trans hfn)).symm
      exact ⟨by kernel_rfl, fun j t ht => by
        rw [Tryd.params4] at ht
        have hm : t ∈ [9] := by simpa using Array.mem_of_getElem? ht
        have hall : ([9].all fun u => !Tryd.prog.wantsStandIn u) = true := by kernel_rfl
        exact (show Tryd.prog.wantsStandIn t = false by simpa using List.all_eq_true.1 hall t hm)⟩)
    (by kernel_rfl)
#print axioms carded
end Go.Proofs.YtnggfglmjdiaaaaDoor.fnExactParseOrder
namespace Go.Proofs.YtnggfglmjdiaaaaDoor
/-- The card, under a short name, for the claim. -/
theorem fnExactParseOrder_holds : Rows.FnExactParseOrderCardSaid := fnExactParseOrder.carded
end Go.Proofs.YtnggfglmjdiaaaaDoor

