/- The law FnExactAppendRecord answers true for every input that the row lets in, and leaves its arguments as they were. Conditions: none beyond the row's own. -/
import Derived.Test.YtkpieljmhgfofaaDoorRows
import Derived.WalkKit
import Derived.ProofKit
import Derived.OpenShut
import Derived.ShutString
import Derived.ChangeOld
import Derived.Below
import Derived.SizedLaws
import Derived.Lib.SmallJoins
import Derived.Handy
import Derived.Lay
import Derived.SevenTiedAt
import Derived.LaidSub
import Derived.Lib.LaidTab
import Derived.Test.YtkpieljmhgfofaaDoorCards
import Derived.Test.YtkpieljmhgfofaaDoorTie
import Derived.Test.YtkpieljmhgfofaaDoorKFnExactAppendRecord1
import Derived.Test.YtkpieljmhgfofaaDoorKFnExactAppendRecord2
import Derived.Test.YtkpieljmhgfofaaDoorKFnExactAppendRecord3
import Derived.Test.YtkpieljmhgfofaaDoorKFnExactAppendRecord4
/- Reading all records of a log. -/
namespace Go.Proofs.YtkpieljmhgfofaaDoor.X
open Go.RowKit Go.Proofs.YtkpieljmhgfofaaDoorW.PrintWords Go.Proofs.YtkpieljmhgfofaaDoorL
set_option linter.unusedVariables false
set_option linter.unusedSimpArgs false
abbrev RecT := S27
open Classical in
noncomputable def recAt (n : Int) (s : List UInt8) : Option (ByteArray × ByteArray × List UInt8) :=
  if h : ∃ p : ByteArray × ByteArray × List UInt8, IsRec n s p.1 p.2.1 p.2.2 then some h.choose else none
theorem recAt_some {n : Int} {s : List UInt8} {c r : ByteArray} {t : List UInt8} (h0 : 0 ≤ n) (h1 : n ≤ 59) (h : IsRec n s c r t) : recAt n s = some (c, r, t) := by
  have hx : ∃ p : ByteArray × ByteArray × List UInt8, IsRec n s p.1 p.2.1 p.2.2 := ⟨(c, r, t), h⟩
  unfold recAt
  rw [dif_pos hx]
  obtain ⟨a, b, d⟩ := IsRec.inj h0 h1 hx.choose_spec h
  rw [← a, ← b, ← d]
theorem recAt_none {n : Int} {s : List UInt8} (h : ∀ c r t, ¬ IsRec n s c r t) : recAt n s = none := by
  unfold recAt
  rw [dif_neg (fun z => by obtain ⟨p, hp⟩ := z; exact h _ _ _ hp)]
theorem recAt_is {n : Int} {s : List UInt8} {p : ByteArray × ByteArray × List UInt8} (h : recAt n s = some p) : IsRec n s p.1 p.2.1 p.2.2 := by
  unfold recAt at h
  split at h
  · rename_i hx
    simp only [Option.some.injEq] at h
    rw [← h]; exact hx.choose_spec
  · cases h
theorem line_pos (n : Int) (c r : ByteArray) : 1 ≤ (B (lineOf n c r)).length := by rw [B_line]; simp
theorem IsRec.lt {n : Int} {s : List UInt8} {c r : ByteArray} {t : List UInt8} (h : IsRec n s c r t) : t.length < s.length := by
  have := line_pos n c r
  rw [h.2, List.length_append]; omega
theorem recAt_nil (n : Int) : recAt n [] = none := recAt_none (fun c r t h => by have := h.lt; simp at this)
/-- The records from the n-th on, d at most, and what is left. -/
noncomputable def reads : Nat → Nat → List UInt8 → List RecT × List UInt8
  | 0, _, s => ([], s)
  | d + 1, n, s => match recAt (n : Int) s with
    | none => ([], s)
    | some p => ((⟨p.1, p.2.1⟩ : RecT) :: (reads d (n + 1) p.2.2).1, (reads d (n + 1) p.2.2).2)
noncomputable def endsOf (L : Nat) : Nat → Nat → List UInt8 → List Int
  | 0, _, _ => []
  | d + 1, n, s => match recAt (n : Int) s with
    | none => []
    | some p => ((L : Int) - (p.2.2.length : Int)) :: endsOf L d (n + 1) p.2.2
theorem reads_none {d n : Nat} {s : List UInt8} (h : recAt (n : Int) s = none) : reads d n s = ([], s) := by
  cases d with
  | zero => rfl
  | succ d => unfold reads; rw [h]
theorem reads_some {d n : Nat} {s : List UInt8} {p : ByteArray × ByteArray × List UInt8} (h : recAt (n : Int) s = some p) : reads (d + 1) n s = ((⟨p.1, p.2.1⟩ : RecT) :: (reads d (n + 1) p.2.2).1, (reads d (n + 1) p.2.2).2) := by
  conv => lhs; unfold reads
  rw [h]
theorem endsOf_none {L d n : Nat} {s : List UInt8} (h : recAt (n : Int) s = none) : endsOf L d n s = [] := by
  cases d with
  | zero => rfl
  | succ d => unfold endsOf; rw [h]
theorem endsOf_some {L d n : Nat} {s : List UInt8} {p : ByteArray × ByteArray × List UInt8} (h : recAt (n : Int) s = some p) : endsOf L (d + 1) n s = ((L : Int) - (p.2.2.length : Int)) :: endsOf L d (n + 1) p.2.2 := by
  conv => lhs; unfold endsOf
  rw [h]
theorem reads_bound : ∀ (d n : Nat) (s : List UInt8), (reads d n s).1.length ≤ d ∧ (reads d n s).2.length ≤ s.length
  | 0, n, s => by simp [reads]
  | d + 1, n, s => by
    cases h : recAt (n : Int) s with
    | none => rw [reads_none h]; simp
    | some p =>
      have ih := reads_bound d (n + 1) p.2.2
      have := (recAt_is h).lt
      rw [reads_some h]; simp; omega
theorem implReads_ev (s : ByteArray) (hs : s.size ≤ 1000000000) : Ev (fun k => impl_readRecords.f k s) ((reads 60 0 (B s)).1, 0 :: endsOf s.size 60 0 (B s), (s.size : Int) - ((reads 60 0 (B s)).2.length : Int)) := by
  have key : ∀ (d n : Nat) (xs : List RecT) (S : List Int) (t : ByteArray), n + d = 60 → xs.length = n → t.size ≤ s.size →
      Ev (fun k => impl_readRecords.l0 k s xs S t) (xs ++ (reads d n (B t)).1, S ++ endsOf s.size d n (B t), (s.size : Int) - ((reads d n (B t)).2.length : Int)) := by
    intro d
    induction d with
    | zero =>
      intro n xs S t hn hx ht
      refine Ev.step (f := fun _ => some _) (fun k => ?_) (Ev.now _)
      simp only [impl_readRecords.l0]
      rw [if_neg (by omega), wrap_id (by omega) (by omega)]
      simp [reads, endsOf, B_length]
    | succ d ih =>
      intro n xs S t hn hx ht
      obtain ⟨v, hv, hq⟩ := implRead_ev (n : Int) t (by omega) (by omega) (by omega)
      refine Ev.step (f := fun k => (impl_readRecord.f k (n : Int) t).bind fun b => if b.2.2.2 = true then impl_readRecords.l0 k s (xs ++ [(⟨b.1, b.2.1⟩ : RecT)]) (S ++ [wrap64 ((s.size : Int) - (b.2.2.1.size : Int))]) b.2.2.1 else some (xs, S, wrap64 ((s.size : Int) - (t.size : Int)))) (fun k => ?_) (Ev.bind hv ?_)
      · simp only [impl_readRecords.l0]
        rw [if_pos (by omega), hx]
      · rcases hq with ⟨f, hr⟩ | ⟨rfl, hno⟩
        · have hsz : v.2.2.1.size ≤ s.size := by have := hr.lt; rw [B_length, B_length] at this; omega
          rw [reads_some (recAt_some (by omega) (by omega) hr), endsOf_some (recAt_some (by omega) (by omega) hr)]
          simp only [if_pos f, wrap_id (x := (s.size : Int) - (v.2.2.1.size : Int)) (by omega) (by omega)]
          have i1 := ih (n + 1) (xs ++ [(⟨v.1, v.2.1⟩ : RecT)]) (S ++ [(s.size : Int) - (v.2.2.1.size : Int)]) v.2.2.1 (by omega) (by simp; omega) hsz
          rw [List.append_assoc, List.append_assoc] at i1
          rw [B_length]
          exact i1
        · rw [reads_none (recAt_none hno), endsOf_none (recAt_none hno), B_length]
          refine ev_eq (fun k => ?_)
          show (if false = true then _ else some (xs, S, wrap64 ((s.size : Int) - (t.size : Int)))) = _
          rw [if_neg (by decide), wrap_id (by omega) (by omega)]
          simp
  have := key 60 0 [] [0] s (by omega) rfl (Nat.le_refl _)
  exact Ev.congr (f := fun k => impl_readRecords.l0 k s [] [0] s) (fun k => rfl) (by simpa using this)
theorem specOpen_ev (s : ByteArray) (hs : s.size ≤ 1000000000) : Ev (fun k => spec_l27Open.f k s) ((reads 60 0 (B s)).1, (s.size : Int) - ((reads 60 0 (B s)).2.length : Int)) := by
  have hBs := B_length s
  have key : ∀ (d n at_ : Nat) (xs : List RecT), n + d = 60 → xs.length = n → at_ ≤ s.size →
      Ev (fun k => spec_l27Open.l0 k s xs (at_ : Int)) (xs ++ (reads d n ((B s).drop at_)).1, (s.size : Int) - ((reads d n ((B s).drop at_)).2.length : Int)) := by
    intro d
    induction d with
    | zero =>
      intro n at_ xs hn hx ha
      have fin : ∀ b, b = false → Ev (fun k => spec_l27Open.j1 k s xs (at_ : Int) b) (xs ++ (reads 0 n ((B s).drop at_)).1, (s.size : Int) - ((reads 0 n ((B s).drop at_)).2.length : Int)) := by
        rintro b rfl
        refine Ev.step (f := fun _ => some _) (fun k => ?_) (Ev.now _)
        simp only [spec_l27Open.j1]
        rw [if_neg (by decide)]
        simp [reads]; omega
      by_cases h : (at_ : Int) < (s.size : Int)
      · refine Ev.step (f := fun k => spec_l27Open.j1 k s xs (at_ : Int) (decide ((xs.length : Int) < 60))) (fun k => ?_) (fin _ (decide_eq_false (by omega)))
        simp only [spec_l27Open.l0]; rw [if_pos h]
      · refine Ev.step (f := fun k => spec_l27Open.j1 k s xs (at_ : Int) false) (fun k => ?_) (fin _ rfl)
        simp only [spec_l27Open.l0]; rw [if_neg h]
    | succ d ih =>
      intro n at_ xs hn hx ha
      by_cases h : (at_ : Int) < (s.size : Int)
      · have hrest : s.extract (at_ : Int).toNat s.size = mk ((B s).drop at_) := B_inj (by rw [B_extract, B_of_mk, Int.toNat_natCast, List.take_of_length_le (by simp; omega)])
        have hrl : ((B s).drop at_).length = s.size - at_ := by rw [List.length_drop, hBs]
        have hrs : (mk ((B s).drop at_)).size = s.size - at_ := by rw [mk_size, hrl]
        refine Ev.step (f := fun k => spec_l27Open.j1 k s xs (at_ : Int) true) (fun k => ?_) ?_
        · simp only [spec_l27Open.l0]; rw [if_pos h, decide_eq_true (by omega)]
        obtain ⟨q1, q2⟩ := first_piece 10 (mk ((B s).drop at_))
        have q3 := pieces_two 10 ((B s).drop at_)
        have hcs := (cut_size 10 ((B s).drop at_)).1
        rw [B_of_mk] at q2
        obtain ⟨v, hv, hq⟩ := specRead_ev (n : Int) (mk (cutL 10 ((B s).drop at_)).1) (by omega) (by omega) (by rw [mk_size]; omega)
        refine Ev.step (f := fun k => (spec_l1Split.f k (mk ((B s).drop at_)) 10).bind fun t198 => if 0 < (t198.length : Int) then ((spec_l27Read.f k (rdOf ByteArray.empty t198 0) (xs.length : Int)).bind fun bt202 => (if (t198.length : Int) < 2 then (some (xs, (at_ : Int))) else (if bt202.2.2 = true then (if xs.length < 4398046511104 then (spec_l27Open.l0 k s (xs ++ [(⟨bt202.1, bt202.2.1⟩ : RecT)]) (wrap64 ((wrap64 ((at_ : Int) + ((rdOf ByteArray.empty t198 0).size : Int))) + 1))) else none) else (some (xs, (at_ : Int)))))) else none) (fun k => ?_) (Ev.bind (specSplit_ev (mk ((B s).drop at_)) 10 (by omega)) ?_)
        · simp only [spec_l27Open.j1]
          rw [if_pos trivial, if_pos (by omega), if_pos (by omega), hrest]
        · simp only [B_of_mk, q2, List.length_map, hx]
          refine Ev.congr (f := fun k => (spec_l27Read.f k (mk (cutL 10 ((B s).drop at_)).1) (n : Int)).bind fun bt202 => (if ((pieces 10 ((B s).drop at_)).length : Int) < 2 then (some (xs, (at_ : Int))) else (if bt202.2.2 = true then (if xs.length < 4398046511104 then (spec_l27Open.l0 k s (xs ++ [(⟨bt202.1, bt202.2.1⟩ : RecT)]) (wrap64 ((wrap64 ((at_ : Int) + ((mk (cutL 10 ((B s).drop at_)).1).size : Int))) + 1))) else none) else (some (xs, (at_ : Int)))))) (fun k => by rw [if_pos (by have := (pieces_length 10 ((B s).drop at_)).1; omega)]; try simp only [hx]) (Ev.bind hv ?_)
          rw [mk_size]
          have hfd := cutL_found 10 ((B s).drop at_)
          have hln : ∀ c r t, 0 ≤ (n : Int) → IsRec (n : Int) ((B s).drop at_) c r t → cutL 10 ((B s).drop at_) = (B (sealed (bodyOf n c r)), t, true) := fun c r t h0 h => h.line h0
          have stop : (∀ c r t, ¬ IsRec (n : Int) ((B s).drop at_) c r t) → ((xs ++ (reads (d + 1) n ((B s).drop at_)).1, (s.size : Int) - ((reads (d + 1) n ((B s).drop at_)).2.length : Int)) : List RecT × Int) = (xs, (at_ : Int)) := by
            intro hno
            rw [reads_none (recAt_none hno)]
            simp only [List.append_nil, Prod.mk.injEq, true_and]; omega
          have hdd : ∀ m, ((B s).drop at_).drop m = (B s).drop (at_ + m) := fun m => by rw [List.drop_drop]
          have step := fun (v1 v2 : ByteArray) (t : List UInt8) (hr : IsRec (n : Int) ((B s).drop at_) v1 v2 t) => reads_some (d := d) (recAt_some (n := (n : Int)) (by omega) (by omega) hr)
          generalize (B s).drop at_ = R at *
          obtain ⟨a, b, f, hK⟩ : ∃ a b f, cutL 10 R = (a, b, f) := ⟨_, _, _, rfl⟩
          rw [hK] at hfd hcs q3 hq hln ⊢
          dsimp only at hfd hcs q3 hq hln ⊢
          clear hK hv
          cases f with
          | true =>
            have hR : R = a ++ 10 :: b := hfd rfl
            have hl := congrArg List.length hR
            simp only [List.length_append, List.length_cons] at hl
            have h2 : 2 ≤ (pieces 10 R).length := q3 ▸ rfl
            rcases hq with ⟨f, hg, hr⟩ | ⟨f, hno⟩
            · have hrec : IsRec (n : Int) R v.1 v.2.1 b := ⟨hg, by rw [hr, B_append, B_of_mk, hR, List.append_assoc]; rfl⟩
              rw [step _ _ _ hrec]
              have hb : b = (B s).drop (at_ + a.length + 1) := by
                have := hdd (a.length + 1)
                rw [← Nat.add_assoc] at this
                rw [← this, hR, List.drop_append, List.drop_of_length_le (by omega)]
                simp
              have i1 := ih (n + 1) (at_ + a.length + 1) (xs ++ [(⟨v.1, v.2.1⟩ : RecT)]) (by omega) (by simp; omega) (by omega)
              rw [← hb, List.append_assoc] at i1
              refine Ev.congr (fun k => ?_) i1
              rw [if_neg (by omega), if_pos f, if_pos (by omega), wrap_id (x := (at_ : Int) + (a.length : Int)) (by omega) (by omega), wrap_id (x := (at_ : Int) + (a.length : Int) + 1) (by omega) (by omega)]
              rfl
            · rw [stop (fun c r t h => hno c r h.1 (by
                have e := hln c r t (by omega) h
                simp only [Prod.mk.injEq] at e
                refine B_inj ?_
                rw [B_line, B_append, B_of_mk, e.1]; rfl))]
              exact ev_eq (fun k => by rw [if_neg (by omega), if_neg (by rw [f]; decide)])
          | false =>
            have h2 : ¬ 2 ≤ (pieces 10 R).length := fun z => by rw [q3] at z; cases z
            rw [stop (fun c r t h => by have e := hln c r t (by omega) h; simp at e)]
            exact ev_eq (fun k => by rw [if_pos (by omega)])
      · obtain rfl : at_ = s.size := by omega
        have e : (B s).drop s.size = [] := List.drop_of_length_le (by omega)
        rw [e, reads_none (recAt_nil _)]
        refine Ev.step (f := fun k => spec_l27Open.j1 k s xs (s.size : Int) false) (fun k => ?_) (Ev.step (f := fun _ => some _) (fun k => ?_) (Ev.now _))
        · simp only [spec_l27Open.l0]; rw [if_neg h]
        · simp only [spec_l27Open.j1]; rw [if_neg (by decide)]; simp
  have := key 60 0 0 [] (by omega) rfl (Nat.zero_le _)
  exact Ev.congr (f := fun k => spec_l27Open.l0 k s [] 0) (fun k => rfl) (by simpa using this)
end Go.Proofs.YtkpieljmhgfofaaDoor.X

/- Valid logs. -/
namespace Go.Proofs.YtkpieljmhgfofaaDoor.X
open Go.RowKit Go.Proofs.YtkpieljmhgfofaaDoorW.PrintWords Go.Proofs.YtkpieljmhgfofaaDoorL
set_option linter.unusedVariables false
set_option linter.unusedSimpArgs false
theorem line_size {n : Int} {c r : ByteArray} (h0 : 0 ≤ n) (h1 : n ≤ 59) (h : recOk c r = true) : (B (lineOf n c r)).length ≤ 406 := by
  obtain ⟨s1, s2, s3⟩ := rec_sizes h
  have hd := dec_size n (by omega) (by omega)
  have hb := bodyOf_size n c r
  have hz := (sealed_size (bodyOf n c r)).2
  rw [B_line, List.length_append, B_length]
  simp; omega
theorem reads_size : ∀ (d n : Nat) (s : List UInt8), n + d ≤ 60 → s.length ≤ (reads d n s).2.length + 406 * d
  | 0, n, s, _ => by simp [reads]
  | d + 1, n, s, hn => by
    cases h : recAt (n : Int) s with
    | none => rw [reads_none h]; simp
    | some p =>
      have ih := reads_size d (n + 1) p.2.2 (by omega)
      have hr := recAt_is h
      have := line_size (n := (n : Int)) (by omega) (by omega) hr.1
      have e := congrArg List.length hr.2
      rw [List.length_append] at e
      rw [reads_some h]; simp only; omega
theorem endsOf_ge : ∀ (d n L : Nat) (s : List UInt8), s.length ≤ L → ∀ e ∈ endsOf L d n s, (L : Int) - (s.length : Int) + 1 ≤ e
  | 0, n, L, s, _ => by simp [endsOf]
  | d + 1, n, L, s, hL => by
    intro e he
    cases h : recAt (n : Int) s with
    | none => rw [endsOf_none h] at he; cases he
    | some p =>
      have hlt := (recAt_is h).lt
      rw [endsOf_some h] at he
      rcases List.mem_cons.1 he with rfl | he
      · omega
      · have := endsOf_ge d (n + 1) L p.2.2 (by omega) e he
        omega
/-- That what was read came by the place behind D says that D alone can be read to its end. -/
theorem mem_ends : ∀ (d n L : Nat) (D P : List UInt8), n + d ≤ 60 → (D ++ P).length ≤ L → ((((L : Int) - ((D ++ P).length : Int) + (D.length : Int)) ∈ endsOf L d n (D ++ P) ∨ D = []) ↔ (reads d n D).2 = [])
  | 0, n, L, D, P, _, _ => by simp [endsOf, reads]
  | d + 1, n, L, D, P, hn, hL => by
    by_cases hD : D = []
    · subst hD
      rw [reads_none (recAt_nil _)]
      simp
    cases h : recAt (n : Int) (D ++ P) with
    | none =>
      have hno : recAt (n : Int) D = none := by
        cases h2 : recAt (n : Int) D with
        | none => rfl
        | some q =>
          have hq := recAt_is h2
          have : IsRec (n : Int) (D ++ P) q.1 q.2.1 (q.2.2 ++ P) := ⟨hq.1, by rw [← List.append_assoc, ← hq.2]⟩
          rw [recAt_some (by omega) (by omega) this] at h
          cases h
      rw [endsOf_none h, reads_none hno]
      simp [hD]
    | some p =>
      have hp := recAt_is h
      have hlen := congrArg List.length hp.2
      rw [List.length_append, List.length_append] at hlen
      rw [endsOf_some h]
      by_cases hc : (B (lineOf (n : Int) p.1 p.2.1)).length ≤ D.length
      · obtain ⟨D', hD'⟩ : ∃ D', D = B (lineOf (n : Int) p.1 p.2.1) ++ D' := by
          have : B (lineOf (n : Int) p.1 p.2.1) <+: D ++ P := ⟨p.2.2, hp.2.symm⟩
          obtain ⟨t, ht⟩ := List.prefix_of_prefix_length_le this (List.prefix_append D P) hc
          exact ⟨t, ht.symm⟩
        have ht : p.2.2 = D' ++ P := by
          have := hp.2
          rw [hD', List.append_assoc] at this
          exact (List.append_cancel_left this).symm
        have hr : IsRec (n : Int) D p.1 p.2.1 D' := ⟨hp.1, hD'⟩
        rw [reads_some (recAt_some (by omega) (by omega) hr)]
        have hdl := congrArg List.length hD'
        rw [List.length_append] at hdl
        rw [List.length_append] at hL
        have ih := mem_ends d (n + 1) L D' P (by omega) (by rw [List.length_append]; omega)
        simp only
        rw [← ih, ht, List.mem_cons]
        simp only [List.length_append, hD, or_false]
        have e1 : (L : Int) - ((D.length + P.length : Nat) : Int) + (D.length : Int) = (L : Int) - ((D'.length + P.length : Nat) : Int) + (D'.length : Int) := by omega
        rw [e1]
        constructor
        · rintro (a | a)
          · exact .inr (List.length_eq_zero_iff.1 (by omega))
          · exact .inl a
        · rintro (a | a)
          · exact .inr a
          · left; rw [a]; simp
      · have hno : recAt (n : Int) D = none := by
          cases h2 : recAt (n : Int) D with
          | none => rfl
          | some q =>
            exfalso
            have hq := recAt_is h2
            have hl := hq.2
            rw [B_line, List.append_assoc] at hl
            have h10 : (10 : UInt8) ∈ D := by rw [hl]; simp
            have hpre : D <+: B (sealed (bodyOf (n : Int) p.1 p.2.1)) := by
              have a1 : D <+: D ++ P := List.prefix_append D P
              have a2 : B (sealed (bodyOf (n : Int) p.1 p.2.1)) <+: D ++ P := by rw [hp.2, B_line, List.append_assoc]; exact List.prefix_append _ _
              refine List.prefix_of_prefix_length_le a1 a2 ?_
              rw [B_line, List.length_append] at hc
              simp at hc; omega
            exact sealed_no10 (by omega) hp.1 (hpre.subset h10)
        rw [reads_none hno]
        simp only [hD, or_false, iff_false]
        intro hm
        rw [List.length_append] at hm
        rw [List.length_append] at hL
        rcases List.mem_cons.1 hm with e | e
        · omega
        · have := endsOf_ge d (n + 1) L p.2.2 (by omega) _ e
          omega
noncomputable def allOf (D P : ByteArray) : List RecT := (reads 60 0 (B D ++ B P)).1
noncomputable def logOk (D P : ByteArray) (c : Int) : Bool := decide ((reads 60 0 (B D ++ B P)).2 = []) && decide ((reads 60 0 (B D)).2 = []) && decide (((allOf D P).length : Int) = c)
theorem logOk_size {D P : ByteArray} {c : Int} (h : logOk D P c = true) : D.size + P.size ≤ 24360 := by
  unfold logOk at h
  simp only [Bool.and_eq_true, decide_eq_true_eq] at h
  have := reads_size 60 0 (B D ++ B P) (by omega)
  rw [h.1.1, List.length_append, B_length, B_length] at this
  simp at this; omega
theorem left_nil (l : List UInt8) (n : Nat) (hl : l.length ≤ n) : (((n : Int) - (l.length : Int)) = (n : Int)) = (l = []) := by
  apply propext
  constructor
  · intro h; exact List.length_eq_zero_iff.1 (by omega)
  · rintro rfl; simp
theorem specLog_ev (D P : ByteArray) (c : Int) (hD : D.size ≤ 1048576) (hP : P.size ≤ 1048576) : Ev (fun k => spec_l27Log.f k D P c) (logOk D P c) := by
  unfold spec_l27Log.f
  rw [wrap_id (x := (D.size : Int) + (P.size : Int)) (by omega) (by omega)]
  by_cases h : (D.size : Int) + (P.size : Int) > 30000
  · have : logOk D P c = false := by
      rw [Bool.eq_false_iff]; intro z; have := logOk_size z; omega
    rw [this]; exact ev_eq (fun k => if_pos h)
  · simp only [if_neg h, if_pos (show D.size + P.size ≤ 9223372036854775807 by omega)]
    have hs : (D ++ P).size = D.size + P.size := ByteArray.size_append
    refine Ev.bind (specOpen_ev (D ++ P) (by omega)) (Ev.bind (specOpen_ev D (by omega)) (ev_eq (fun k => ?_)))
    rw [B_append, hs]
    have b1 := (reads_bound 60 0 (B D ++ B P)).2
    rw [List.length_append, B_length, B_length] at b1
    have b2 := (reads_bound 60 0 (B D)).2
    rw [B_length] at b2
    have e1 := left_nil (reads 60 0 (B D ++ B P)).2 (D.size + P.size) b1
    rw [Int.natCast_add] at e1
    have e2 := left_nil (reads 60 0 (B D)).2 D.size b2
    simp only [Int.natCast_add, e1, e2]
    unfold logOk allOf
    by_cases g1 : (reads 60 0 (B D ++ B P)).2 = []
    · by_cases g2 : (reads 60 0 (B D)).2 = []
      · rw [if_pos g1, if_pos g2, decide_eq_true g1, decide_eq_true g2]
        simp only [Bool.true_and, Option.some.injEq]
        rw [Bool.eq_iff_iff]; simp
      · rw [if_pos g1, if_neg g2, decide_eq_true g1, decide_eq_false g2]; rfl
    · rw [if_neg g1, decide_eq_false g1]; rfl
theorem implRecs_ev (D P : ByteArray) (c : Int) (hD : D.size ≤ 1048576) (hP : P.size ≤ 1048576) : Ev (fun k => impl_recordsOf.f k D P c) (allOf D P, logOk D P c) := by
  unfold impl_recordsOf.f
  have hs : (D ++ P).size = D.size + P.size := ByteArray.size_append
  simp only [if_pos (show D.size + P.size ≤ 9223372036854775807 by omega)]
  refine Ev.bind (implReads_ev (D ++ P) (by omega)) (ev_eq (fun k => ?_))
  rw [B_append, hs]
  have b1 := (reads_bound 60 0 (B D ++ B P)).2
  rw [List.length_append, B_length, B_length] at b1
  have e1 := left_nil (reads 60 0 (B D ++ B P)).2 (D.size + P.size) b1
  simp only [Option.some.injEq, Prod.mk.injEq]
  refine ⟨rfl, ?_⟩
  have hm := mem_ends 60 0 (D.size + P.size) (B D) (B P) (by omega) (by rw [List.length_append, B_length, B_length]; exact Nat.le_refl _)
  rw [List.length_append, B_length, B_length, show ((D.size + P.size : Nat) : Int) - ((D.size + P.size : Nat) : Int) + (D.size : Int) = (D.size : Int) by omega] at hm
  have hm2 : (decide ((D.size : Int) ∈ 0 :: endsOf (D.size + P.size) 60 0 (B D ++ B P))) = decide ((reads 60 0 (B D)).2 = []) := by
    rw [decide_eq_decide, ← hm, List.mem_cons]
    constructor
    · rintro (a | a)
      · exact .inr (List.length_eq_zero_iff.1 (by rw [B_length]; omega))
      · exact .inl a
    · rintro (a | a)
      · exact .inr a
      · have : D.size = 0 := by rw [← B_length, a]; rfl
        left; omega
  rw [hm2]
  unfold logOk allOf
  have e3 : ((((D.size + P.size : Nat) : Int) - ((reads 60 0 (B D ++ B P)).2.length : Int)) == ((D.size : Int) + (P.size : Int))) = decide ((reads 60 0 (B D ++ B P)).2 = []) := by
    rw [← Int.natCast_add, Bool.eq_iff_iff]
    simp only [beq_iff_eq, decide_eq_true_eq, e1]
  rw [e3]
  congr 1
  rw [Bool.eq_iff_iff]
  simp only [beq_iff_eq, decide_eq_true_eq]
  exact ⟨fun h => h.symm, fun h => h.symm⟩
theorem szLog_eq (D P : ByteArray) (c : Int) (hD : D.size ≤ 140737488351232) (hP : P.size ≤ 140737488351232) : ∃ r, laws_szLog.f D P c 1048576 = some r ∧ (¬ r < 0 → D.size + P.size ≤ 1048576) := by
  unfold laws_szLog.f
  rw [wrap_id (x := 1048576 - (D.size : Int)) (by omega) (by omega), wrap_id (x := 1048576 - (D.size : Int) - (P.size : Int)) (by omega) (by omega)]
  by_cases c1 : (1048576 : Int) - (D.size : Int) < 0
  · exact ⟨-1, if_pos c1, fun h => absurd (by decide) h⟩
  · rw [if_neg c1]
    by_cases c2 : (1048576 : Int) - (D.size : Int) - (P.size : Int) < 0
    · exact ⟨-1, if_pos c2, fun h => absurd (by decide) h⟩
    · exact ⟨_, if_neg c2, fun h => by omega⟩
end Go.Proofs.YtkpieljmhgfofaaDoor.X

/- AppendRecord. -/
namespace Go.Proofs.YtkpieljmhgfofaaDoor.X
open Go.RowKit Go.Proofs.YtkpieljmhgfofaaDoorW.PrintWords Go.Proofs.YtkpieljmhgfofaaDoorL
set_option linter.unusedVariables false
set_option linter.unusedSimpArgs false
theorem logOk_count {D P : ByteArray} {c : Int} (h : logOk D P c = true) : 0 ≤ c ∧ c ≤ 60 := by
  unfold logOk at h
  simp only [Bool.and_eq_true, decide_eq_true_eq] at h
  have := (reads_bound 60 0 (B D ++ B P)).1
  unfold allOf at h
  omega
noncomputable def appd (D P : ByteArray) (c : Int) (q r : ByteArray) : ByteArray × ByteArray × Int × Int :=
  if logOk D P c = true ∧ recOk q r = true then (if c = 60 then (D, P, c, 2) else (D, P ++ lineOf c q r, c + 1, 0)) else (D, P, c, 1)
theorem line_bytes {n : Int} {c r : ByteArray} (h0 : 0 ≤ n) (h1 : n ≤ 59) (h : recOk c r = true) : (lineOf n c r).size ≤ 406 := by
  have := line_size h0 h1 h
  rwa [B_length] at this
theorem specAppend_ev (D P : ByteArray) (c : Int) (q r : ByteArray) (hD : D.size ≤ 1048576) (hP : P.size ≤ 1048576) (hq : q.size ≤ 1048576) (hr : r.size ≤ 1048576) : Ev (fun k => spec_AppendRecord.f k D P c q r) (appd D P c q r) := by
  have stop : Ev (fun k => spec_AppendRecord.j0 k true D P c q r) (D, P, c, 1) := Ev.step (f := fun _ => some _) (fun k => by simp only [spec_AppendRecord.j0]; rw [if_pos trivial]) (Ev.now _)
  unfold spec_AppendRecord.f
  refine Ev.bind (specLog_ev D P c hD hP) ?_
  by_cases h : logOk D P c = true
  · simp only [if_pos h]
    refine Ev.bind (specRec_ev q r (by omega) (by omega)) ?_
    by_cases g : recOk q r = true
    · unfold appd
      rw [if_pos ⟨h, g⟩, g]
      obtain ⟨c0, c1⟩ := logOk_count h
      have hsz := logOk_size h
      by_cases e : c = 60
      · rw [if_pos e]
        refine Ev.step (f := fun _ => some _) (fun k => ?_) (Ev.now _)
        simp only [spec_AppendRecord.j0]
        rw [if_neg (by decide), if_pos e]
      · rw [if_neg e]
        have hl := line_bytes c0 (by omega) g
        refine Ev.step (f := fun k => (spec_l27Line.f k c q r).bind fun t => if P.size + t.size ≤ 9223372036854775807 then some (D, P ++ t, wrap64 (c + 1), 0) else none) (fun k => ?_) (Ev.bind (specLine_ev c q r c0 (by omega) g) ?_)
        · simp only [spec_AppendRecord.j0]
          rw [if_neg (by decide), if_neg e]
        · rw [wrap_id (x := c + 1) (by omega) (by omega)]
          exact ev_eq (fun k => if_pos (by omega))
    · unfold appd
      rw [if_neg (fun z => g z.2)]
      have : recOk q r = false := by simpa using g
      rw [this]; exact stop
  · simp only [if_neg h]
    unfold appd
    rw [if_neg (fun z => h z.1)]
    exact stop
theorem implAppend_ev (D P : ByteArray) (c : Int) (q r : ByteArray) (hD : D.size ≤ 1048576) (hP : P.size ≤ 1048576) : Ev (fun k => impl_AppendRecord.f k D P c q r) (appd D P c q r) := by
  have stop : Ev (fun k => impl_AppendRecord.j0 k true D P c q r) (D, P, c, 1) := Ev.step (f := fun _ => some _) (fun k => by simp only [impl_AppendRecord.j0]; rw [if_pos trivial]) (Ev.now _)
  unfold impl_AppendRecord.f impl_IsValidLog.f
  refine Ev.bind (Ev.bind (implRecs_ev D P c hD hP) (Ev.now _)) ?_
  by_cases h : logOk D P c = true
  · simp only [if_pos h]
    refine Ev.bind (implRec_ev q r) ?_
    by_cases g : recOk q r = true
    · unfold appd
      rw [if_pos ⟨h, g⟩, g]
      obtain ⟨c0, c1⟩ := logOk_count h
      have hsz := logOk_size h
      by_cases e : c = 60
      · rw [if_pos e]
        refine Ev.step (f := fun _ => some _) (fun k => ?_) (Ev.now _)
        simp only [impl_AppendRecord.j0]
        rw [if_neg (by decide), if_pos e]
      · rw [if_neg e]
        have hl := line_bytes c0 (by omega) g
        refine Ev.step (f := fun k => (impl_encodeRecord.f k c q r).bind fun t => if P.size + t.size ≤ 9223372036854775807 then some (D, P ++ t, wrap64 (c + 1), 0) else none) (fun k => ?_) (Ev.bind (implLine_ev c q r c0 (by omega) g) ?_)
        · simp only [impl_AppendRecord.j0]
          rw [if_neg (by decide), if_neg e]
        · rw [wrap_id (x := c + 1) (by omega) (by omega)]
          exact ev_eq (fun k => if_pos (by omega))
    · unfold appd
      rw [if_neg (fun z => g z.2)]
      have : recOk q r = false := by simpa using g
      rw [this]; exact stop
  · simp only [if_neg h]
    unfold appd
    rw [if_neg (fun z => h z.1)]
    exact stop
theorem eqLog_self (a b : ByteArray) (c : Int) : laws_eqLog.f a b c a b c = some true := by
  unfold laws_eqLog.f
  rw [if_pos rfl, if_pos rfl, if_pos rfl]
theorem szRec_eq (a b : ByteArray) (x : Int) (h0 : 0 ≤ x) (h1 : x ≤ 1048576) (ha : a.size ≤ 140737488351232) (hb : b.size ≤ 140737488351232) : ∃ r, laws_szLogRecord.f a b x = some r ∧ (¬ r < 0 → a.size ≤ 1048576 ∧ b.size ≤ 1048576) := by
  unfold laws_szLogRecord.f
  rw [wrap_id (x := x - (a.size : Int)) (by omega) (by omega), wrap_id (x := x - (a.size : Int) - (b.size : Int)) (by omega) (by omega)]
  by_cases c1 : x - (a.size : Int) < 0
  · exact ⟨-1, if_pos c1, fun h => absurd (by decide) h⟩
  · rw [if_neg c1]
    by_cases c2 : x - (a.size : Int) - (b.size : Int) < 0
    · exact ⟨-1, if_pos c2, fun h => absurd (by decide) h⟩
    · exact ⟨_, if_neg c2, fun h => by omega⟩
end Go.Proofs.YtkpieljmhgfofaaDoor.X

/- AppendRecord of the program and of the reference answer alike, whatever the log and the record. -/
namespace Go.Proofs.YtkpieljmhgfofaaDoor.Pure
open Go.RowKit Go.Proofs.YtkpieljmhgfofaaDoorW.PrintWords Go.Proofs.YtkpieljmhgfofaaDoorL Go.Proofs.YtkpieljmhgfofaaDoor.X
set_option linter.unusedVariables false
set_option linter.unusedSimpArgs false
theorem FnExactAppendRecord : OFnExactAppendRecord.Pure := by
  intro x y hx hy
  refine ev_rounds ?_
  unfold laws_FnExactAppendRecord.f
  obtain ⟨r, hr, hb, hr0⟩ : ∃ r, laws_szLog.f x.f0 x.f1 x.f2 1048576 = some r ∧ (¬ r < 0 → x.f0.size + x.f1.size ≤ 1048576) ∧ (¬ r < 0 → r ≤ 1048576) := by
    obtain ⟨r, hr, hb⟩ := szLog_eq x.f0 x.f1 x.f2 hx.1 hx.2.1
    refine ⟨r, hr, hb, fun h => ?_⟩
    have hb := hb h
    unfold laws_szLog.f at hr
    rw [wrap_id (x := 1048576 - (x.f0.size : Int)) (by omega) (by omega), wrap_id (x := 1048576 - (x.f0.size : Int) - (x.f1.size : Int)) (by omega) (by omega), if_neg (by omega), if_neg (by omega)] at hr
    simp only [Option.some.injEq] at hr
    omega
  rw [hr]
  simp only [Option.bind_some]
  by_cases c : r < 0
  · simp only [if_pos c]; exact Ev.now _
  · have hb := hb c
    have hr0 := hr0 c
    simp only [if_neg c]
    obtain ⟨s, hs, hsb⟩ := szRec_eq y.f0 y.f1 r (by omega) hr0 hy.1 hy.2
    rw [hs]
    simp only [Option.bind_some]
    by_cases d : s < 0
    · simp only [if_pos d]; exact Ev.now _
    · obtain ⟨q1, q2⟩ := hsb d
      simp only [if_neg d]
      have hT : Ev (fun _ => laws_toLog.f x.f0 x.f1 x.f2) (x.f0, x.f1, x.f2) := Ev.now _
      have hR : Ev (fun _ => laws_toLogRecord.f y.f0 y.f1) (y.f0, y.f1) := Ev.now _
      refine Ev.bind hT (Ev.bind hR (Ev.bind (specAppend_ev x.f0 x.f1 x.f2 y.f0 y.f1 (by omega) (by omega) q1 q2) (Ev.bind hT (Ev.bind hR (Ev.bind (implAppend_ev x.f0 x.f1 x.f2 y.f0 y.f1 (by omega) (by omega)) ?_)))))
      rw [eqLog_self]
      simp only [Option.bind_some, if_true]
      exact Ev.now _
end Go.Proofs.YtkpieljmhgfofaaDoor.Pure


namespace Go.Proofs.YtkpieljmhgfofaaDoor.fnExactAppendRecord
open Go.ChangeShapes Go.WideShapes Go.ChangeAt Go.RowKit
open Go.ChangeMaps (open_string shut_string)
open Go.Joins
open Go.Proofs.YtkpieljmhgfofaaDoorW.PrintWords Go.Proofs.YtkpieljmhgfofaaDoorW.PrintLast Go.Proofs.YtkpieljmhgfofaaDoorW.PrintMore
open Go.Proofs.YtkpieljmhgfofaaDoorZ Go.Proofs.YtkpieljmhgfofaaDoor.X Go.Proofs.YtkpieljmhgfofaaDoor.X.OFnExactAppendRecord
set_option linter.unusedVariables false
set_option linter.unusedSimpArgs false
theorem own : ownKnob Tryd.prog.godebug = none := by kernel_rfl
theorem laidOut : laidOutB Tryd.prog = true := by kernel_rfl
open Go Go.Proofs.YtkpieljmhgfofaaDoorG
def laidL : List (String × DataW Unit) := [("math/bits.deBruijn32tab", Rows.laid_math_bits_deBruijn32tab), ("math/bits.deBruijn64tab", Rows.laid_math_bits_deBruijn64tab), ("internal/strconv.uint64pow10", Rows.laid_internal_strconv_uint64pow10)]
theorem globOf {W : World} (h : laidMetH Tryd.prog laidL W) : Glob W := by
  rw [MakeChecks.laidMetH_plain _ _ _ (by kernel_rfl)] at h
  exact Glob.of_tab (h.filter fun x => x.1 == "internal/strconv.uint64pow10")
set_option maxRecDepth 100000 in
set_option maxHeartbeats 2000000 in
theorem lifted (os : Os) (started : os.Started) (H : Type) (enc : TypeId × Value → H) :
    ReturnsInHanded {} Tryd.checked os 8 .any (fun w args => (Rows.fnExactAppendRecordSpec.pre enc Tryd.prog Tryd.f8 Rows.fnExactAppendRecordRow.domain false w args ∧ laidMetH Tryd.prog laidL w) ∧ sizedMet enc Tryd.prog Tryd.f8 (OpenSpec.ofChange Rows.fnExactAppendRecordSpec) false w args) (Rows.fnExactAppendRecordSpec.post enc Tryd.prog Tryd.f8 false true false false) := by
  refine returnsInHanded_of_change_and (C := Tryd.checked) (X := fun w _ => laidMetH Tryd.prog laidL w) (fun _ _ _ hh h => h.of_heap hh) own started (by kernel_rfl) Tryd.func8
    (ChangeSpec.witness_shaped (enc := enc) (C := Tryd.checked) (os := os) (X := fun w _ => laidMetH Tryd.prog laidL w) false (World.laidAll Tryd.prog os laidL) #[.agg #[.string ByteArray.empty, .string ByteArray.empty, .int .i64 0], .agg #[.string ByteArray.empty, .string ByteArray.empty]] 8 (World.laidAll_os _ _ _)
      (World.shaped_of_ZipB (by kernel_rfl) (by kernel_rfl)) (by kernel_rfl) (by kernel_rfl) (by kernel_rfl)
      (by rw [MakeChecks.laidMetH_plain _ _ _ (by kernel_rfl)]; exact laidMet_laidAll _ (by kernel_rfl) (by kernel_rfl))) ?_
  intro W base args ds gs before hval0 hW hcnd hsz0 hL _
  have hG := globOf hL
  have hsz : (DataW.weightsEach Tryd.prog (Tryd.f8.params.toList ++ Rows.fnExactAppendRecordSpec.plain.varTypes Tryd.prog) (ds ++ gs)).all (· ≤ reachBytes) = true := hsz0
  have hval : ∀ (j : Nat) t v, Tryd.f8.params[j]? = some t → args[j]? = some v → Value.okWide Tryd.prog W .any base t v := hval0
  have hW' := hW
  obtain ⟨p, q, hA0, hV, rfl, hfz, hnd⟩ := hW
  have hA : DataW.TrodAll enc Tryd.prog W 0 (fun _ => true) true Tryd.f8.params.toList args.toList ds p := hA0
  rw [Tryd.params8] at hA hval hsz
  obtain ⟨v0, vs0, d0, ds0, p0, q0, hargs, rfl, rfl, h0, r0⟩ := trodAll_cons hA
  obtain ⟨v1, vs1, d1, ds1, p1, q1, rfl, rfl, rfl, h1, r1⟩ := trodAll_cons r0
  obtain ⟨rfl, rfl, rfl⟩ := trodAll_nil r1
  obtain rfl : args = #[v0, v1] := by cases args; simp_all
  obtain ⟨rfl, rfl⟩ := trodVars_none hV
  obtain ⟨cs0, rfl, hs0⟩ := okWide_struct Tryd.underlying36 (hval 0 36 v0 rfl rfl)
  have k0 := h0
  have lt0 : ∀ x ∈ p0, x.block < W.heap.size := by obtain ⟨m, hm⟩ := k0; exact DataW.trod_lt m _ _ _ hm
  obtain ⟨x0, hK0, w0⟩ : ∃ x : S36, k36.K W x cs0.toList ∧ fitsT36 x := by
    obtain ⟨fuel, hf⟩ := h0
    exact opensT36 hf (weights_param hsz (j := 0) rfl rfl)
  have e0 := k36_open hK0
  obtain rfl : cs0 = #[.string x0.f0, .string x0.f1, .int .i64 x0.f2] := by cases cs0; simpa using e0
  obtain ⟨cs1, rfl, hs1⟩ := okWide_struct Tryd.underlying23 (hval 1 23 v1 rfl rfl)
  have k1 := h1
  have lt1 : ∀ x ∈ p1, x.block < W.heap.size := by obtain ⟨m, hm⟩ := k1; exact DataW.trod_lt m _ _ _ hm
  obtain ⟨x1, hK1, w1⟩ : ∃ x : S23, k23.K W x cs1.toList ∧ fitsT23 x := by
    obtain ⟨fuel, hf⟩ := h1
    exact opensT23 hf (weights_param hsz (j := 1) rfl rfl)
  have e1 := k23_open hK1
  obtain rfl : cs1 = #[.string x1.f0, .string x1.f1] := by cases cs1; simpa using e1
  clear hA0 hval0 hsz0 hsz
  obtain ⟨k, h⟩ := Go.Proofs.YtkpieljmhgfofaaDoor.Pure.FnExactAppendRecord x0 x1 w0 w1
  refine (laws_FnExactAppendRecord.calls k x0.f0 x0.f1 x0.f2 x1.f0 x1.f1 true W hG h rfl).mono fun e W' ⟨he, bel0⟩ => ?_
  have bel : Below W.heap.size W W' := bel0
  subst he
  exact ⟨_, rfl, _, _, _, [], _, [], hW', trodAll_mk1 (shut_bool Tryd.underlying4 _), (trodAll_cons_mk (Below.trod laidOut (by kernel_rfl) (of_decide_eq_true (by kernel_rfl)) k0 bel lt0) (trodAll_cons_mk (Below.trod laidOut (by kernel_rfl) (of_decide_eq_true (by kernel_rfl)) k1 bel lt1) trodAll_mk0)), rfl, bel.frame _, fun h => by cases h⟩
theorem over : Rows.fnExactAppendRecordRow.holds Tryd.pinned (OpenSpec.ofChange Rows.fnExactAppendRecordSpec) :=
  OpenClaim.holds_of_wide 8 Tryd.f8 rfl rfl rfl rfl rfl rfl rfl ⟨rfl, rfl, rfl, rfl, rfl⟩ rfl rfl rfl rfl rfl (by kernel_rfl) Tryd.func8 (by kernel_rfl)
    (of_decide_eq_true (by kernel_rfl)) (by unfold Func.isWrapper; first | (rw [if_pos (by decide +kernel)]; kernel_rfl) | (rw [if_neg (by decide +kernel)]; exact ⟨rfl, rfl⟩))
    (fun os started H enc _ => lifted os started H enc)
theorem proved : Rows.FnExactAppendRecordSaid := over
theorem carded : Rows.FnExactAppendRecordCardSaid :=
  Claim7.holds_tied_plain_at .later [] [.data, .data, .data] true (true, "235852b07b7bca440ed8a65975df4a4d7818d0c8db91fbf0ad52c0286e8ae3e3") false
    proved (fun _ h => by cases h) (by kernel_rfl) (fun _ h => by cases h) fnExactAppendRecord_row_tie rfl ⟨rfl, rfl⟩ (by kernel_rfl) rfl
    (fun f fn hf hfn => by
      obtain rfl : f = 8 := Option.some.inj ((show Tryd.prog.funcNamed "loop.example/g00906/laws.FnExactAppendRecord" = some 8 by kernel_rfl).symm.trans hf) |>.symm
      obtain rfl : fn = Tryd.f8 := (Option.some.inj (Tryd.func8.symm.trans hfn)).symm
      exact ⟨by kernel_rfl, fun j t ht => by
        rw [Tryd.params8] at ht
        have hm : t ∈ [36, 23] := by simpa using Array.mem_of_getElem? ht
        have hall : ([36, 23].all fun u => !Tryd.prog.wantsStandIn u) = true := by kernel_rfl
        exact (show Tryd.prog.wantsStandIn t = false by simpa using List.all_eq_true.1 hall t hm)⟩)
    (by kernel_rfl)
#print axioms carded
end Go.Proofs.YtkpieljmhgfofaaDoor.fnExactAppendRecord
namespace Go.Proofs.YtkpieljmhgfofaaDoor
/-- The card, under a short name, for the claim. -/
theorem fnExactAppendRecord_holds : Rows.FnExactAppendRecordCardSaid := fnExactAppendRecord.carded
end Go.Proofs.YtkpieljmhgfofaaDoor

