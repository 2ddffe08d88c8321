/- The law FnOccupancy answers true for every input that the row lets in, and leaves its arguments as they were. Conditions: none beyond the row's own. -/
import Derived.Test.YtolaplcjbmjlmaaRows
import Derived.WalkKit
import Derived.ProofKit
import Derived.OpenShut
import Derived.ShutString
import Derived.ChangeOld
import Derived.Below
import Derived.SizedLaws
import Derived.Lib.SmallJoins
import Derived.Test.YtolaplcjbmjlmaaKFnOccupancy1
import Derived.Test.YtolaplcjbmjlmaaKFnOccupancy2
import Derived.Test.YtolaplcjbmjlmaaKFnOccupancy3
import Derived.Test.YtolaplcjbmjlmaaKFnOccupancy4
namespace Go.Proofs.Ytolaplcjbmjlmaa.X
open Go.RowKit Go.Proofs.YtolaplcjbmjlmaaW.PrintWords Go.Proofs.YtolaplcjbmjlmaaW.PrintMore Go.Proofs.YtolaplcjbmjlmaaL
set_option linter.unusedVariables false
set_option linter.unusedSimpArgs false
/-- The hours of a stay within [f, t). -/
def ov (s : Stay) (f t : Int) : Int := mx 0 (mn s.f1 t - mx s.f0 f)
theorem ov_end (s : Stay) (t : Int) : ov s t t = 0 := by unfold ov mx mn; repeat' split <;> omega
theorem ov_step (s : Stay) (f t : Int) (h : f < t) : ov s f t = (if s.f0 ≤ f ∧ f < s.f1 then 1 else 0) + ov s (f + 1) t := by
  unfold ov mx mn
  by_cases e : s.f0 ≤ f ∧ f < s.f1
  · rw [if_pos e]; repeat' split <;> omega
  · rw [if_neg e]; repeat' split <;> omega
theorem sum_add {α : Type} (f g : α → Int) : ∀ l : List α, (l.map fun x => f x + g x).sum = (l.map f).sum + (l.map g).sum
  | [] => rfl
  | x :: l => by simp only [List.map_cons, List.sum_cons, sum_add f g l]; omega
theorem inside_sum (h : Int) : ∀ l : List Stay, inside l h = (l.map fun s => if s.f0 ≤ h ∧ h < s.f1 then (1 : Int) else 0).sum
  | [] => rfl
  | s :: l => by
    have ih := inside_sum h l
    unfold inside at ih ⊢
    rw [List.countP_cons, List.map_cons, List.sum_cons, ← ih]
    by_cases e : s.f0 ≤ h ∧ h < s.f1
    · rw [if_pos e, if_pos (by simp [e.1, e.2])]; omega
    · rw [if_neg e, if_neg (by simpa using e)]; omega
theorem occ_sum (l : List Stay) : ∀ (d : Nat) (f n : Int), loopN (fun h n => n + inside l h) d f n = n + (l.map fun s => ov s f (f + d)).sum := by
  intro d
  induction d with
  | zero =>
    intro f n
    have : (l.map fun s => ov s f (f + (0 : Nat))).sum = 0 := by
      have e : (l.map fun s => ov s f (f + (0 : Nat))) = l.map fun _ => (0 : Int) := List.map_congr_left fun s _ => by simpa using ov_end s f
      rw [e]
      induction l with
      | nil => rfl
      | cons _ _ ih => simpa using ih (List.map_congr_left fun s _ => by simpa using ov_end s f)
    rw [this]; simp [loopN]
  | succ d ih =>
    intro f n
    show loopN _ d (f + 1) (n + inside l f) = _
    rw [ih, inside_sum]
    have e : (l.map fun s => ov s f (f + ((d + 1 : Nat) : Int))) = l.map fun s => (if s.f0 ≤ f ∧ f < s.f1 then (1 : Int) else 0) + ov s (f + 1) (f + 1 + d) := List.map_congr_left fun s _ => by
      rw [ov_step s f _ (by omega), show f + ((d + 1 : Nat) : Int) = f + 1 + d by omega]
    rw [e, sum_add]; omega
theorem sum_bound {l : List Int} {b : Int} (hb : ∀ x ∈ l, 0 ≤ x ∧ x ≤ b) : 0 ≤ l.sum ∧ l.sum ≤ b * l.length := by
  induction l with
  | nil => simp
  | cons x l ih =>
    have h1 := hb x (by simp)
    have h2 := ih (fun y hy => hb y (by simp [hy]))
    rw [List.sum_cons, List.length_cons]
    have e : b * ((l.length + 1 : Nat) : Int) = b * (l.length : Int) + b := by rw [Int.natCast_add, Int.mul_add]; simp
    omega
theorem sum_take_succ (l : List Int) (n : Nat) (h : n < l.length) : (l.take (n + 1)).sum = (l.take n).sum + l[n] := by
  rw [List.take_succ_eq_append_getElem h, List.sum_append]; simp
theorem take_bound {l : List Int} {b : Int} (n : Nat) (hl : l.length ≤ 20) (hb : ∀ x ∈ l, 0 ≤ x ∧ x ≤ b) (h0 : 0 ≤ b) : 0 ≤ (l.take n).sum ∧ (l.take n).sum ≤ b * 20 := by
  have h := sum_bound (l := l.take n) (b := b) (fun x hx => hb x (List.mem_of_mem_take hx))
  have hle : ((l.take n).length : Int) ≤ 20 := by rw [List.length_take]; omega
  have := Int.mul_le_mul_of_nonneg_left hle h0
  omega
def hours (l : List Stay) : List Int := l.map fun s => s.f1 - s.f0
def occOk (l : List Stay) (f t p : Int) : Prop := valid l = true ∧ 0 ≤ f ∧ f < t ∧ t ≤ 240 ∧ 1 ≤ p ∧ p ≤ 1000
instance (l : List Stay) (f t p : Int) : Decidable (occOk l f t p) := inferInstanceAs (Decidable (_ ∧ _))
def ovs (l : List Stay) (f t : Int) : List Int := l.map fun s => ov s f t
def occ (l : List Stay) (f t p : Int) : Int × Int × Bool := if occOk l f t p then ((frac (ovs l f t).sum.toNat (p * (t - f)).toNat).1, (frac (ovs l f t).sum.toNat (p * (t - f)).toNat).2, true) else (0, 0, false)
theorem ovs_bound {l : List Stay} {f t p : Int} (h : occOk l f t p) : ∀ x ∈ ovs l f t, 0 ≤ x ∧ x ≤ 240 := by
  intro x hx
  obtain ⟨s, hs, rfl⟩ := List.mem_map.1 hx
  have := (okStay_iff s).1 ((valid_ok h.1).1 s hs)
  obtain ⟨_, h1, h2, h3, _, _⟩ := h
  unfold ov mx mn
  repeat' split <;> omega
theorem ovs_sum {l : List Stay} {f t p : Int} (h : occOk l f t p) : 0 ≤ (ovs l f t).sum ∧ (ovs l f t).sum ≤ 4800 := by
  have h1 := take_bound (l := ovs l f t) (ovs l f t).length (by simpa [ovs] using (valid_ok h.1).2) (ovs_bound h) (by omega)
  rw [List.take_length] at h1; omega
theorem occ_den {l : List Stay} {f t p : Int} (h : occOk l f t p) : 0 < p * (t - f) ∧ p * (t - f) ≤ 240000 := by
  obtain ⟨_, h1, h2, h3, h4, h5⟩ := h
  have a : 0 < p * (t - f) := Int.mul_pos (by omega) (by omega)
  have b : p * (t - f) ≤ 1000 * (t - f) := Int.mul_le_mul_of_nonneg_right h5 (by omega)
  omega
theorem specOcc_ev (l : List Stay) (hl : l.length ≤ 1048576) (f t p : Int) : Ev (fun k => spec_Occupancy.f k l f t p) (occ l f t p) := by
  have no : ∀ {x : Bool}, x = true → ¬ occOk l f t p → Ev (fun k => spec_Occupancy.j0 k l f t p x) (occ l f t p) := by
    intro x hx h; subst hx; unfold occ; rw [if_neg h]
    exact Ev.step (f := fun _ => some (0, 0, false)) (fun k => by simp [spec_Occupancy.j0]) (Ev.now _)
  unfold spec_Occupancy.f
  refine Ev.bind (specGood_ev l hl) ?_
  by_cases hv : valid l = true
  · simp only [hv, if_true]
    by_cases h1 : f < 0
    · simp only [if_pos h1]; exact no rfl (fun h => by have := h.2.1; omega)
    · by_cases h2 : f ≥ t
      · simp only [if_neg h1, if_pos h2]; exact no rfl (fun h => by have := h.2.2.1; omega)
      · by_cases h3 : t > 240
        · simp only [if_neg h1, if_neg h2, if_pos h3]; exact no rfl (fun h => by have := h.2.2.2.1; omega)
        · simp only [if_neg h1, if_neg h2, if_neg h3, spec_l1In.f]
          by_cases h4 : p ≥ 1
          · by_cases h5 : p ≤ 1000
            · have hok : occOk l f t p := ⟨hv, by omega, by omega, by omega, h4, h5⟩
              simp only [if_pos h4, h5, decide_true, Option.bind_some, Bool.not_true]
              refine Ev.step (f := fun k => spec_Occupancy.l0 k l f t p 0 f) (fun k => by simp [spec_Occupancy.j0]) ?_
              have hs := ovs_sum hok
              have hd := occ_den hok
              have key : ∀ (d : Nat) (h n : Int), h + d = t → f ≤ h → 0 ≤ n → n ≤ 20 * (h - f) → loopN (fun h n => n + inside l h) d h n = (ovs l f t).sum → Ev (fun k => spec_Occupancy.l0 k l f t p n h) (occ l f t p) := by
                intro d
                induction d with
                | zero =>
                  intro h n e hf n0 hn hsum
                  have hsum : n = (ovs l f t).sum := hsum
                  unfold occ; rw [if_pos hok]
                  refine Ev.step (f := fun k => (spec_l15Reduce.f k (((ovs l f t).sum.toNat : Nat) : Int) (((p * (t - f)).toNat : Nat) : Int)).bind fun b => some (b.1, b.2, true)) (fun k => ?_) (Ev.bind (specReduce_ev _ _ (by omega) (by omega) (by omega)) (Ev.now _))
                  simp only [spec_Occupancy.l0]
                  rw [if_neg (by omega), hsum, wrap_id (x := t - f) (by omega) (by omega), wrap_id (x := p * (t - f)) (by omega) (by omega), Int.toNat_of_nonneg hs.1, Int.toNat_of_nonneg (by omega)]
                | succ d ih =>
                  intro h n e hf n0 hn hsum
                  have a1 := inside_le l h
                  have a0 := inside_nonneg l h
                  have h20 := (valid_ok hv).2
                  refine Ev.step (f := fun k => (spec_l25At.f k l h).bind fun x => spec_Occupancy.l0 k l f t p (wrap64 (n + x)) (wrap64 (h + 1))) (fun k => by simp only [spec_Occupancy.l0]; rw [if_pos (by omega)]) ?_
                  refine Ev.bind (specAt_ev l hv h) ?_
                  rw [wrap_id (x := n + inside l h) (by omega) (by omega), wrap_id (x := h + 1) (by omega) (by omega)]
                  exact ih (h + 1) (n + inside l h) (by omega) (by omega) (by omega) (by omega) hsum
              refine key (t - f).toNat f 0 (by omega) (by omega) (by omega) (by omega) ?_
              rw [occ_sum, show f + ((t - f).toNat : Int) = t by omega]
              simp [ovs]
            · simp only [if_pos h4, h5, decide_false, Option.bind_some, Bool.not_false]; exact no rfl (fun h => by have := h.2.2.2.2.2; omega)
          · simp only [if_neg h4, Option.bind_some, Bool.not_false]; exact no rfl (fun h => by have := h.2.2.2.2.1; omega)
  · simp only [hv, if_false]; exact no rfl (fun h => hv h.1)
theorem implOcc_ev (l : List Stay) (f t p : Int) : Ev (fun k => impl_Occupancy.f k l f t p) (occ l f t p) := by
  have no : ∀ {x : Bool}, x = true → ¬ occOk l f t p → Ev (fun k => impl_Occupancy.j0 k l f t p x) (occ l f t p) := by
    intro x hx h; subst hx; unfold occ; rw [if_neg h]
    exact Ev.step (f := fun _ => some (0, 0, false)) (fun k => by simp [impl_Occupancy.j0]) (Ev.now _)
  unfold impl_Occupancy.f
  simp only [implValid, Option.bind_some]
  by_cases hv : valid l = true
  · simp only [hv, if_true]
    by_cases h1 : f < 0
    · simp only [if_pos h1]; exact no rfl (fun h => by have := h.2.1; omega)
    · by_cases h2 : f ≥ t
      · simp only [if_neg h1, if_pos h2]; exact no rfl (fun h => by have := h.2.2.1; omega)
      · by_cases h3 : t > 240
        · simp only [if_neg h1, if_neg h2, if_pos h3]; exact no rfl (fun h => by have := h.2.2.2.1; omega)
        · simp only [if_neg h1, if_neg h2, if_neg h3, impl_within.f]
          by_cases h4 : p ≥ 1
          · by_cases h5 : p ≤ 1000
            · have hok : occOk l f t p := ⟨hv, by omega, by omega, by omega, h4, h5⟩
              simp only [if_pos h4, h5, decide_true, Option.bind_some, Bool.not_true]
              refine Ev.step (f := fun k => impl_Occupancy.l0 k f t p 0 l (l.length : Int) 0) (fun k => by simp [impl_Occupancy.j0]) ?_
              have hs := ovs_sum hok
              have hd := occ_den hok
              have h20 := (valid_ok hv).2
              have hlen : (ovs l f t).length = l.length := by simp [ovs]
              have key : ∀ (d n : Nat), n + d = l.length → Ev (fun k => impl_Occupancy.l0 k f t p ((ovs l f t).take n).sum l (l.length : Int) n) (occ l f t p) := by
                intro d
                induction d with
                | zero =>
                  intro n hn
                  obtain rfl : n = l.length := by omega
                  unfold occ; rw [if_pos hok]
                  refine Ev.step (f := fun k => (impl_fraction.f k (((ovs l f t).sum.toNat : Nat) : Int) (((p * (t - f)).toNat : Nat) : Int)).bind fun b => some (b.1, b.2, true)) (fun k => ?_) (Ev.bind (implFraction_ev _ _ (by omega) (by omega) (by omega)) (Ev.now _))
                  simp only [impl_Occupancy.l0]
                  rw [if_neg (by omega), List.take_of_length_le (by omega), wrap_id (x := t - f) (by omega) (by omega), wrap_id (x := p * (t - f)) (by omega) (by omega), Int.toNat_of_nonneg hs.1, Int.toNat_of_nonneg (by omega)]
                | succ d ih =>
                  intro n hn
                  have hl2 : n < l.length := by omega
                  have hl3 : n < (ovs l f t).length := by omega
                  have e1 : (ovs l f t)[n] = ov l[n] f t := by simp [ovs]
                  have h1 := take_bound (l := ovs l f t) (n + 1) (by omega) (ovs_bound hok) (by omega)
                  rw [sum_take_succ _ n hl3] at h1
                  have hv2 := valid_at hv n hl2
                  refine Ev.step (f := fun k => impl_Occupancy.l0 k f t p ((ovs l f t).take (n + 1)).sum l (l.length : Int) ((n + 1 : Nat) : Int)) (fun k => ?_) (ih (n + 1) (by omega))
                  simp only [impl_Occupancy.l0]
                  have e2 : wrap64 (mn l[n].f1 t - mx l[n].f0 f) = mn l[n].f1 t - mx l[n].f0 f := wrap_id (by unfold mn mx; repeat' split <;> omega) (by unfold mn mx; repeat' split <;> omega)
                  rw [if_pos (by omega), if_pos (by omega), if_pos (by omega), rdS l n hl2, wrap_succ (by omega), e2]
                  have e3 : mx 0 (mn l[n].f1 t - mx l[n].f0 f) = (ovs l f t)[n] := by rw [e1]; rfl
                  rw [e3, sum_take_succ _ n hl3, wrap_id (by omega) (by omega)]
              exact Ev.congr (fun k => rfl) (key l.length 0 (by omega))
            · simp only [if_pos h4, h5, decide_false, Option.bind_some, Bool.not_false]; exact no rfl (fun h => by have := h.2.2.2.2.2; omega)
          · simp only [if_neg h4, Option.bind_some, Bool.not_false]; exact no rfl (fun h => by have := h.2.2.2.2.1; omega)
  · simp only [hv, if_false]; exact no rfl (fun h => hv h.1)
end Go.Proofs.Ytolaplcjbmjlmaa.X


/- The draws of the laws: a cursor over bytes always tells a number in range, and moves on by two at most. -/
namespace Go.Proofs.Ytolaplcjbmjlmaa.X
open Go.RowKit Go.Proofs.YtolaplcjbmjlmaaW.PrintWords Go.Proofs.YtolaplcjbmjlmaaL
set_option linter.unusedVariables false
set_option linter.unusedSimpArgs false
def okB (l : List Int) : Prop := ∀ y ∈ l, 0 ≤ y ∧ y ≤ 255
theorem okB_of {l : List Int} (h : ∀ y ∈ l, (Lit.int .u8 y).wf = true) : okB l := fun y hy => by have := h y hy; simpa [Lit.wf, IntKind.min, IntKind.max, IntKind.signed, IntKind.bits] using this
theorem bits255 (x : Int) : 0 ≤ Go.bits .and .u64 x 255 ∧ Go.bits .and .u64 x 255 ≤ 255 := by
  have h : (BitVec.ofInt 64 x &&& BitVec.ofInt 64 255).toNat ≤ 255 := by
    rw [BitVec.toNat_and]; exact Nat.le_trans Nat.and_le_right (by decide)
  have e : Go.bits .and .u64 x 255 = IntKind.u64.wrap ((BitVec.ofInt 64 x &&& BitVec.ofInt 64 255).toNat : Int) := rfl
  rw [e]
  generalize (BitVec.ofInt 64 x &&& BitVec.ofInt 64 255).toNat = n at h
  have : IntKind.u64.wrap (n : Int) = (n : Int) := by
    simp only [IntKind.wrap, IntKind.bits, IntKind.signed]
    simp
    omega
  rw [this]; omega
theorem rd_okB {l : List Int} (h : okB l) (p : Int) : 0 ≤ rd l p ∧ rd l p ≤ 255 := by
  unfold rd
  rw [List.getD_eq_getElem?_getD]
  cases e : l[p.toNat]? with
  | none => simp
  | some y => simpa using h y (List.mem_of_getElem? e)
theorem next_ok {l : List Int} (h : okB l) (p s : Int) (h0 : 0 ≤ p) (h1 : p ≤ 1000000000000) : ∃ v s', spec_l1Cur_next.f l p s = some (v, p + 1, s') ∧ 0 ≤ v ∧ v ≤ 255 := by
  have hr := rd_okB h p
  have hw : wrap64 (p + 1) = p + 1 := wrap_id (by omega) (by omega)
  have hr2 : wrap64 (rd l p) = rd l p := wrap_id (by omega) (by omega)
  unfold spec_l1Cur_next.f
  rw [hw]
  have hb : ∀ x, 0 ≤ wrap64 (Go.bits .and .u64 x 255) ∧ wrap64 (Go.bits .and .u64 x 255) ≤ 255 := fun x => by have := bits255 x; rw [wrap_id (by omega) (by omega)]; exact this
  by_cases a : p < (l.length : Int)
  · rw [if_pos a, if_pos h0]
    by_cases b : p + 1 ≤ (l.length : Int)
    · rw [if_pos b]; exact ⟨_, _, rfl, by omega, by omega⟩
    · omega
  · rw [if_neg a]
    by_cases b : p + 1 ≤ (l.length : Int)
    · omega
    · rw [if_neg b]; exact ⟨_, _, rfl, (hb _).1, (hb _).2⟩
/-- What every draw gives: a value with a property, and a cursor moved on by n at most. -/
def Drawn {α : Type} (o : Option (α × Int × Int)) (p : Int) (n : Int) (q : α → Prop) : Prop := ∃ v p' s', o = some (v, p', s') ∧ q v ∧ p ≤ p' ∧ p' ≤ p + n
theorem pick_ok {l : List Int} (h : okB l) (p s a : Int) (h0 : 0 ≤ p) (h1 : p ≤ 900000000000) (ha : a ≤ 9223372036854775807) : Drawn (spec_l1Cur_pick.f l p s a) p 2 (fun v => 0 ≤ v ∧ (1 ≤ a → v < a) ∧ (a ≤ 1 → v = 0)) := by
  unfold spec_l1Cur_pick.f
  by_cases c : a ≤ 1
  · rw [if_pos c]; exact ⟨0, p, s, rfl, ⟨by omega, by omega, fun _ => rfl⟩, by omega, by omega⟩
  · rw [if_neg c]
    obtain ⟨v, s1, e, v0, v1⟩ := next_ok h p s h0 (by omega)
    rw [e]
    simp only [Option.bind_some]
    by_cases d : a > 200
    · rw [if_pos d]
      obtain ⟨w, s2, e2, w0, w1⟩ := next_ok h (p + 1) s1 (by omega) (by omega)
      rw [e2]
      simp only [Option.bind_some]
      rw [if_neg (by omega), wrap_id (x := v * 256) (by omega) (by omega), wrap_id (x := v * 256 + w) (by omega) (by omega)]
      exact ⟨_, _, _, rfl, ⟨Int.tmod_nonneg _ (by omega), fun _ => Int.tmod_lt_of_pos _ (by omega), fun z => absurd z c⟩, by omega, by omega⟩
    · rw [if_neg d, if_neg (by omega)]
      exact ⟨_, _, _, rfl, ⟨Int.tmod_nonneg _ v0, fun _ => Int.tmod_lt_of_pos _ (by omega), fun z => absurd z c⟩, by omega, by omega⟩
theorem one_ok {l : List Int} (h : okB l) (p s a : Int) (h0 : 0 ≤ p) (h1 : p ≤ 900000000000) (ha : a ≤ 9223372036854775807) : Drawn (spec_l1Cur_one.f l p s a) p 2 (fun _ => True) := by
  obtain ⟨v, p', s', e, q, b⟩ := pick_ok h p s a h0 h1 ha
  exact ⟨v == 0, p', s', by unfold spec_l1Cur_one.f; rw [e]; rfl, trivial, b⟩
theorem among_ok {l : List Int} (h : okB l) (p s : Int) (x : List Int) (h0 : 0 ≤ p) (h1 : p ≤ 900000000000) (hx : 1 ≤ x.length) (hx2 : x.length ≤ 9223372036854775807) : Drawn (spec_l1Cur_among.f l p s x) p 2 (fun v => v ∈ x) := by
  obtain ⟨v, p', s', e, q, b⟩ := pick_ok h p s x.length h0 h1 (by omega)
  have hlt := q.2.1 (by omega)
  have e3 : v = (v.toNat : Int) := by omega
  refine ⟨rd x v, p', s', ?_, ?_, b⟩
  · unfold spec_l1Cur_among.f; rw [e]; simp only [Option.bind_some]; rw [if_pos q.1, if_pos hlt]
  · rw [e3, rd_at x v.toNat (by omega)]; exact List.getElem_mem _
/-- A draw among the first so many of a list, where how many is drawn too. -/
theorem cutAmong_ok {α : Type} {l : List Int} (h : okB l) (p s c n : Int) (y : List Int) (g : Int × Int × Int → Option α) (h0 : 0 ≤ p) (h1 : p ≤ 800000000000) (hc : 1 ≤ c) (hn : 2 ≤ n) (hn2 : n ≤ 200) (hy : c + (n - 1) / 11 ≤ y.length) (hy2 : y.length ≤ 100) :
    ∃ v p' s', v ∈ y ∧ p ≤ p' ∧ p' ≤ p + 4 ∧ ((some y).bind fun y => (spec_l1Cur_pick.f l p s n).bind fun bt => if 0 ≤ (wrap64 (c + (wrap64 (Int.tdiv bt.1 11)))) then (if (wrap64 (c + (wrap64 (Int.tdiv bt.1 11)))) ≤ (y.length : Int) then ((spec_l1Cur_among.f l bt.2.1 bt.2.2 (y.take ((wrap64 (c + (wrap64 (Int.tdiv bt.1 11)))) : Int).toNat)).bind g) else none) else none) = g (v, p', s') := by
  obtain ⟨v, pa, sa, ea, qa, ba, ba2⟩ := pick_ok h p s n h0 (by omega) (by omega)
  have v1 := qa.2.1 (by omega)
  have hd : Int.tdiv v 11 = v / 11 := Int.tdiv_eq_ediv_of_nonneg qa.1
  have hw : wrap64 (c + wrap64 (Int.tdiv v 11)) = c + v / 11 := by rw [hd, wrap_id (x := v / 11) (by omega) (by omega), wrap_id (by omega) (by omega)]
  obtain ⟨w, pb, sb, eb, qb, bb, bb2⟩ := among_ok h pa sa (y.take (c + v / 11).toNat) (by omega) (by omega) (by rw [List.length_take]; omega) (by rw [List.length_take]; omega)
  refine ⟨w, pb, sb, List.mem_of_mem_take qb, by omega, by omega, ?_⟩
  simp only [Option.bind_some, ea]
  rw [hw, if_pos (by omega), if_pos (by omega), eb]
  rfl
/-- The rounds of a draw. -/
def DrawnE {α : Type} (o : Nat → Option (α × Int × Int)) (p : Int) (n : Int) (q : α → Prop) : Prop := ∃ v p' s', Ev o (v, p', s') ∧ q v ∧ p ≤ p' ∧ p' ≤ p + n
end Go.Proofs.Ytolaplcjbmjlmaa.X

/- Drawn stays: the draw comes to an end, and its list is short. -/
namespace Go.Proofs.Ytolaplcjbmjlmaa.X
open Go.RowKit Go.Proofs.YtolaplcjbmjlmaaW.PrintWords Go.Proofs.YtolaplcjbmjlmaaL
set_option linter.unusedVariables false
set_option linter.unusedSimpArgs false
theorem stays_l1 {b : List Int} (hb : okB b) (x6 y0 y1 y2 : Int) : ∀ (d : Nat) (l : List Stay) (p sd : Int), l.length + d = 22 → 0 ≤ x6 → x6 < l.length → 0 ≤ p → p + 2 * d ≤ 800000000000 →
    DrawnE (fun k => spec_l1Cur_stays.l1 k l x6 b p sd y0 y1 y2) p (2 * d + 2) (fun r => r.length ≤ 22) := by
  intro d
  induction d with
  | zero =>
    intro l p sd hx x0 x1 p0 p1
    obtain ⟨v, pa, sa, ea, qa, ba, ba2⟩ := pick_ok hb p sd 2 p0 (by omega) (by omega)
    have v1 := qa.2.1 (by omega)
    have v0 := qa.1
    refine ⟨_, pa, sa, Ev.step (f := fun _ => some _) (fun k => ?_) (Ev.now _), show (l.set x6.toNat (⟨y0, y1, y2⟩ : Stay)).length ≤ 22 by rw [List.length_set]; omega, by omega, by omega⟩
    simp only [spec_l1Cur_stays.l1, ea, Option.bind_some]
    rw [wrap_id (x := 20 + v) (by omega) (by omega), if_neg (by omega), if_pos x0, if_pos x1]
  | succ d ih =>
    intro l p sd hx x0 x1 p0 p1
    obtain ⟨v, pa, sa, ea, qa, ba, ba2⟩ := pick_ok hb p sd 2 p0 (by omega) (by omega)
    have v1 := qa.2.1 (by omega)
    have v0 := qa.1
    by_cases c : (l.length : Int) < 20 + v
    · obtain ⟨r, pc, sc, ec, qc, bc, bc2⟩ := ih (l ++ [⟨1, 2, 1⟩]) pa sa (by rw [List.length_append]; simp; omega) x0 (by rw [List.length_append]; simp; omega) (by omega) (by omega)
      refine ⟨r, pc, sc, Ev.step (fun k => ?_) ec, qc, by omega, by omega⟩
      simp only [spec_l1Cur_stays.l1, ea, Option.bind_some]
      rw [wrap_id (x := 20 + v) (by omega) (by omega), if_pos c, if_pos (by omega)]
    · refine ⟨_, pa, sa, Ev.step (f := fun _ => some _) (fun k => ?_) (Ev.now _), show (l.set x6.toNat (⟨y0, y1, y2⟩ : Stay)).length ≤ 22 by rw [List.length_set]; omega, by omega, by omega⟩
      simp only [spec_l1Cur_stays.l1, ea, Option.bind_some]
      rw [wrap_id (x := 20 + v) (by omega) (by omega), if_neg c, if_pos x0, if_pos x1]
theorem stays_l0 {b : List Int} (hb : okB b) : ∀ (d : Nat) (l : List Stay) (p sd : Int), l.length + d ≤ 7 → 0 ≤ p → p + 6 * d ≤ 700000000000 →
    DrawnE (fun k => spec_l1Cur_stays.l0 k l (d : Int) b p sd) p (6 * d + 100) (fun r => r.length ≤ 22) := by
  intro d
  induction d with
  | zero =>
    intro l p sd hl p0 p1
    by_cases c : (l.length : Int) = 0
    · refine ⟨l, p, sd, Ev.step (f := fun _ => some _) (fun k => ?_) (Ev.now _), show l.length ≤ 22 by omega, by omega, by omega⟩
      simp only [spec_l1Cur_stays.l0]
      rw [if_neg (by omega), if_pos c]
    · obtain ⟨v, pa, sa, ea, qa, ba, ba2⟩ := pick_ok hb p sd (l.length : Int) p0 (by omega) (by omega)
      have v1 := qa.2.1 (by omega)
      have v0 := qa.1
      obtain ⟨w, pb, sb, eb, qb, bb, bb2⟩ := pick_ok hb pa sa 40 (by omega) (by omega) (by omega)
      have st : ∀ k, spec_l1Cur_stays.l0 (k + 1) l ((0 : Nat) : Int) b p sd = if w = 0 then ((spec_l1Cur_among.f b pb sb (([(-1), wrap64 (((rd_T59 l v).f1) + 1)] : List Int))).bind fun bt384 => (some ((l.set (v : Int).toNat (⟨bt384.1, (rd_T59 l v).f1, (rd_T59 l v).f2⟩ : Stay)), bt384.2.1, bt384.2.2))) else (if w = 1 then ((spec_l1Cur_among.f b pb sb (([240, 241] : List Int))).bind fun bt391 => (some ((l.set (v : Int).toNat (⟨(rd_T59 l v).f0, bt391.1, (rd_T59 l v).f2⟩ : Stay)), bt391.2.1, bt391.2.2))) else (if w = 2 then ((spec_l1Cur_among.f b pb sb (([0, 9, 10] : List Int))).bind fun bt398 => (some ((l.set (v : Int).toNat (⟨(rd_T59 l v).f0, (rd_T59 l v).f1, bt398.1⟩ : Stay)), bt398.2.1, bt398.2.2))) else (if w = 3 then (spec_l1Cur_stays.l1 k l v b pb sb ((rd_T59 l v).f0) ((rd_T59 l v).f1) ((rd_T59 l v).f2)) else (some ((l.set (v : Int).toNat (⟨(rd_T59 l v).f0, (rd_T59 l v).f1, (rd_T59 l v).f2⟩ : Stay)), pb, sb))))) := by
        intro k
        simp only [spec_l1Cur_stays.l0]
        rw [if_neg (by omega), if_neg c, ea]
        simp only [Option.bind_some]
        rw [if_pos v0, if_pos v1, eb]
        rfl
      by_cases w0 : w = 0
      · obtain ⟨z, pd, sd2, ed, qd, bd, bd2⟩ := among_ok hb pb sb [(-1), wrap64 (((rd_T59 l v).f1) + 1)] (by omega) (by omega) (by simp) (by simp)
        refine ⟨_, pd, sd2, Ev.step (f := fun _ => some _) (fun k => ?_) (Ev.now _), show (l.set v.toNat (⟨z, (rd_T59 l v).f1, (rd_T59 l v).f2⟩ : Stay)).length ≤ 22 by rw [List.length_set]; omega, by omega, by omega⟩
        rw [st, if_pos w0, ed]; rfl
      · by_cases w1 : w = 1
        · obtain ⟨z, pd, sd2, ed, qd, bd, bd2⟩ := among_ok hb pb sb [240, 241] (by omega) (by omega) (by simp) (by simp)
          refine ⟨_, pd, sd2, Ev.step (f := fun _ => some _) (fun k => ?_) (Ev.now _), show (l.set v.toNat (⟨(rd_T59 l v).f0, z, (rd_T59 l v).f2⟩ : Stay)).length ≤ 22 by rw [List.length_set]; omega, by omega, by omega⟩
          rw [st, if_neg w0, if_pos w1, ed]; rfl
        · by_cases w2 : w = 2
          · obtain ⟨z, pd, sd2, ed, qd, bd, bd2⟩ := among_ok hb pb sb [0, 9, 10] (by omega) (by omega) (by simp) (by simp)
            refine ⟨_, pd, sd2, Ev.step (f := fun _ => some _) (fun k => ?_) (Ev.now _), show (l.set v.toNat (⟨(rd_T59 l v).f0, (rd_T59 l v).f1, z⟩ : Stay)).length ≤ 22 by rw [List.length_set]; omega, by omega, by omega⟩
            rw [st, if_neg w0, if_neg w1, if_pos w2, ed]; rfl
          · by_cases w3 : w = 3
            · obtain ⟨r, pc, sc, ec, qc, bc, bc2⟩ := stays_l1 hb v ((rd_T59 l v).f0) ((rd_T59 l v).f1) ((rd_T59 l v).f2) (22 - l.length) l pb sb (by omega) v0 v1 (by omega) (by omega)
              refine ⟨r, pc, sc, Ev.step (fun k => ?_) ec, qc, by omega, by omega⟩
              rw [st, if_neg w0, if_neg w1, if_neg w2, if_pos w3]
            · refine ⟨_, pb, sb, Ev.step (f := fun _ => some _) (fun k => ?_) (Ev.now _), show (l.set v.toNat (⟨(rd_T59 l v).f0, (rd_T59 l v).f1, (rd_T59 l v).f2⟩ : Stay)).length ≤ 22 by rw [List.length_set]; omega, by omega, by omega⟩
              rw [st, if_neg w0, if_neg w1, if_neg w2, if_neg w3]
  | succ d ih =>
    intro l p sd hl p0 p1
    obtain ⟨v, pa, sa, ea, qa, ba, ba2⟩ := pick_ok hb p sd 40 p0 (by omega) (by omega)
    obtain ⟨w, pb, sb, eb, qb, bb, bb2⟩ := among_ok hb pa sa [0, 1, 5, 12, 24, 60, 200] (by omega) (by omega) (by simp) (by simp)
    obtain ⟨y, pd, sd2, ed, qd, bd, bd2⟩ := pick_ok hb pb sb 4 (by omega) (by omega) (by omega)
    obtain ⟨r, pc, sc, ec, qc, bc, bc2⟩ := ih (l ++ [⟨v, wrap64 (v + w), wrap64 (1 + y)⟩]) pd sd2 (by rw [List.length_append]; simp; omega) (by omega) (by omega)
    refine ⟨r, pc, sc, Ev.step (fun k => ?_) ec, qc, by omega, by omega⟩
    simp only [spec_l1Cur_stays.l0]
    rw [if_pos (by omega), ea]
    simp only [Option.bind_some, eb, ed]
    rw [if_pos (by omega), wrap_id (x := ((d + 1 : Nat) : Int) - 1) (by omega) (by omega), show ((d + 1 : Nat) : Int) - 1 = (d : Int) by omega]
theorem stays_ok {b : List Int} (hb : okB b) (p sd : Int) (p0 : 0 ≤ p) (p1 : p ≤ 600000000000) : DrawnE (fun k => spec_l1Cur_stays.f k b p sd) p 200 (fun r => r.length ≤ 22) := by
  obtain ⟨v, pa, sa, ea, qa, ba, ba2⟩ := pick_ok hb p sd 8 p0 (by omega) (by omega)
  have v1 := qa.2.1 (by omega)
  obtain ⟨r, pc, sc, ec, qc, bc, bc2⟩ := stays_l0 hb v.toNat [] pa sa (by simp; omega) (by omega) (by omega)
  refine ⟨r, pc, sc, Ev.congr (fun k => ?_) ec, qc, by omega, by omega⟩
  unfold spec_l1Cur_stays.f
  rw [ea]; simp only [Option.bind_some]
  rw [show ((v.toNat : Nat) : Int) = v by omega]
end Go.Proofs.Ytolaplcjbmjlmaa.X

/- The law of the occupancy: whatever the draw, peak, busy hours and rates answer as it says. -/
namespace Go.Proofs.Ytolaplcjbmjlmaa.X
open Go.RowKit Go.Proofs.YtolaplcjbmjlmaaW.PrintWords Go.Proofs.YtolaplcjbmjlmaaL
set_option linter.unusedVariables false
set_option linter.unusedSimpArgs false
theorem loopN_ind {σ : Type} (step : Int → σ → σ) (P : Int → σ → Prop) : ∀ (d : Nat) (i : Int) (s : σ), P i s → (∀ j s, i ≤ j → j < i + d → P j s → P (j + 1) (step j s)) → P (i + d) (loopN step d i s) := by
  intro d
  induction d with
  | zero => intro i s h _; simpa [loopN] using h
  | succ d ih =>
    intro i s h hs
    have := ih (i + 1) (step i s) (hs i s (by omega) (by omega) h) (fun j s hj hj2 hp => hs j s (by omega) (by omega) hp)
    rw [show i + 1 + (d : Int) = i + ((d + 1 : Nat) : Int) by omega] at this
    exact this
theorem peak_inv (l : List Stay) : 0 ≤ (loopN (peakStep l) 241 0 (0, 0)).2 ∧ (∀ h, 0 ≤ h → h < 241 → inside l h ≤ (loopN (peakStep l) 241 0 (0, 0)).2) ∧ (0 < (loopN (peakStep l) 241 0 (0, 0)).2 → 0 ≤ (loopN (peakStep l) 241 0 (0, 0)).1 ∧ (loopN (peakStep l) 241 0 (0, 0)).1 < 241 ∧ inside l (loopN (peakStep l) 241 0 (0, 0)).1 = (loopN (peakStep l) 241 0 (0, 0)).2) := by
  have := loopN_ind (peakStep l) (fun i p => 0 ≤ p.2 ∧ (∀ h, 0 ≤ h → h < i → inside l h ≤ p.2) ∧ (0 < p.2 → 0 ≤ p.1 ∧ p.1 < i ∧ inside l p.1 = p.2)) 241 0 (0, 0) ⟨by show (0:Int) ≤ 0; omega, fun h a b => by omega, fun a => by have : (0 : Int) < 0 := a; omega⟩ (fun j p hj hj2 hp => by
    obtain ⟨a, b, c⟩ := hp
    unfold peakStep
    by_cases e : inside l j > p.2
    · rw [if_pos e]
      refine ⟨inside_nonneg l j, fun h h0 h1 => ?_, fun _ => ⟨hj, by show j < j + 1; omega, rfl⟩⟩
      show inside l h ≤ inside l j
      by_cases z : h = j
      · subst z; omega
      · have := b h h0 (by omega); omega
    · rw [if_neg e]
      refine ⟨a, fun h h0 h1 => ?_, fun z => ⟨(c z).1, by have := (c z).2.1; omega, (c z).2.2⟩⟩
      by_cases z : h = j
      · subst z; omega
      · exact b h h0 (by omega))
  exact this
theorem busy_zero (l : List Stay) (m : Int) (h : ∀ j, 0 ≤ j → j < 241 → inside l j < m) : loopN (busyStep l m) 241 0 0 = 0 := by
  have := loopN_ind (busyStep l m) (fun _ c => c = 0) 241 0 0 rfl (fun j c hj hj2 hp => by
    unfold busyStep; have := h j hj (by omega); rw [if_neg (by omega)]; exact hp)
  exact this
theorem busy_one (l : List Stay) (m h0 : Int) (a : 0 ≤ h0) (b : h0 < 241) (h : m ≤ inside l h0) : 1 ≤ loopN (busyStep l m) 241 0 0 := by
  have := loopN_ind (busyStep l m) (fun i c => 0 ≤ c ∧ (h0 < i → 1 ≤ c)) 241 0 0 ⟨by omega, fun z => by omega⟩ (fun j c hj hj2 hp => by
    obtain ⟨c0, c1⟩ := hp
    unfold busyStep
    by_cases e : inside l j ≥ m
    · rw [if_pos e]; exact ⟨by omega, fun _ => by omega⟩
    · rw [if_neg e]
      refine ⟨c0, fun z => c1 ?_⟩
      by_cases y : h0 = j
      · subst y; omega
      · omega)
  exact this.2 (by omega)
theorem occ_one {l : List Stay} (hv : valid l = true) (h : Int) (h0 : 0 ≤ h) (h1 : h < 240) : occ l h (h + 1) 1 = (inside l h, 1, true) := by
  have ok : occOk l h (h + 1) 1 := ⟨hv, h0, by omega, by omega, by omega, by omega⟩
  have es : (ovs l h (h + 1)).sum = inside l h := by
    have := occ_sum l 1 h 0
    simp only [loopN] at this
    unfold ovs
    rw [show h + ((1 : Nat) : Int) = h + 1 by omega] at this
    omega
  unfold occ
  rw [if_pos ok, es]
  have e1 : (1 * (h + 1 - h)).toNat = 1 := by omega
  rw [e1]
  unfold frac
  have := inside_nonneg l h
  simp only [Nat.gcd_one_right, Nat.div_one]
  rw [show ((inside l h).toNat : Int) = inside l h by omega]
  rfl
theorem cmp_ev (a b c d : Int) : ∃ r, Ev (fun k => impl_CompareRates.f k a b c d) r ∧ Ev (fun k => spec_CompareRates.f k a b c d) r ∧ (r.2 = true → 0 ≤ a ∧ a ≤ 100000 ∧ 1 ≤ b ∧ b ≤ 100000) := by
  have e : ∀ k, impl_CompareRates.f k a b c d = spec_CompareRates.f k a b c d := by
    intro k; cases k <;> rfl
  have key : ∃ r, Ev (fun k => spec_CompareRates.f k a b c d) r ∧ (r.2 = true → 0 ≤ a ∧ a ≤ 100000 ∧ 1 ≤ b ∧ b ≤ 100000) := by
    by_cases h : (0 ≤ a ∧ a ≤ 100000) ∧ (0 ≤ c ∧ c ≤ 100000) ∧ (1 ≤ b ∧ b ≤ 100000) ∧ (1 ≤ d ∧ d ≤ 100000)
    · obtain ⟨⟨h1, h2⟩, ⟨h3, h4⟩, ⟨h5, h6⟩, h7, h8⟩ := h
      refine ⟨if wrap64 (a * d) > wrap64 (c * b) then (1, true) else if wrap64 (a * d) < wrap64 (c * b) then (2, true) else (0, true), Ev.congr (f := fun k => spec_CompareRates.j0 k a b c d false) (fun k => ?_) (Ev.step (f := fun _ => some _) (fun k => ?_) (Ev.now _)), fun _ => ⟨h1, h2, h5, h6⟩⟩
      · unfold spec_CompareRates.f spec_l1In.f
        simp [h1, h2, h3, h4, h5, h6, h7, h8]
      · simp only [spec_CompareRates.j0, Bool.false_eq_true, if_false]
        by_cases z : wrap64 (a * d) > wrap64 (c * b)
        · rw [if_pos z, if_pos z]
        · rw [if_neg z, if_neg z]
          by_cases y : wrap64 (a * d) < wrap64 (c * b)
          · rw [if_pos y, if_pos y]
          · rw [if_neg y, if_neg y]
    · refine ⟨(0, false), Ev.congr (f := fun k => spec_CompareRates.j0 k a b c d true) (fun k => ?_) (Ev.step (f := fun _ => some _) (fun k => by simp only [spec_CompareRates.j0, if_true]) (Ev.now _)), fun z => by cases z⟩
      unfold spec_CompareRates.f spec_l1In.f
      by_cases h1 : a ≥ 0
      · by_cases h2 : a ≤ 100000
        · by_cases h3 : c ≥ 0
          · by_cases h4 : c ≤ 100000
            · by_cases h5 : b ≥ 1
              · by_cases h6 : b ≤ 100000
                · by_cases h7 : d ≥ 1
                  · by_cases h8 : d ≤ 100000
                    · exact absurd ⟨⟨h1, h2⟩, ⟨h3, h4⟩, ⟨h5, h6⟩, h7, h8⟩ h
                    · simp [h1, h2, h3, h4, h5, h6, h7, h8]
                  · simp [h1, h2, h3, h4, h5, h6, h7]
                · simp [h1, h2, h3, h4, h5, h6]
              · simp [h1, h2, h3, h4, h5]
            · simp [h1, h2, h3, h4]
          · simp [h1, h2, h3]
        · simp [h1, h2]
      · simp [h1]
  obtain ⟨r, hr, h2⟩ := key
  exact ⟨r, Ev.congr e hr, hr, h2⟩
theorem cmp_same (a b : Int) (h1 : 0 ≤ a) (h2 : a ≤ 100000) (h3 : 1 ≤ b) (h4 : b ≤ 100000) : Ev (fun k => impl_CompareRates.f k a b a b) (0, true) := by
  refine Ev.congr (f := fun k => impl_CompareRates.j0 k a b a b false) (fun k => ?_) (Ev.step (f := fun _ => some _) (fun k => ?_) (Ev.now _))
  · unfold impl_CompareRates.f impl_within.f
    simp [h1, h2, h3, h4]
  · simp only [impl_CompareRates.j0, Bool.false_eq_true, if_false]
    rw [if_neg (by omega), if_neg (by omega)]
theorem drawCmp_ok {b : List Int} (hb : okB b) : ∃ r, spec_DrawCompareRates.f b = some r := by
  unfold spec_DrawCompareRates.f
  obtain ⟨v, pa, sa, ea, _, _, _⟩ := among_ok hb 0 0 [0, 1, 2, 30, 100000] (by omega) (by omega) (by simp) (by simp)
  rw [ea]
  simp only [Option.bind_some]
  obtain ⟨w, pb, sb, _, _, _, eb⟩ := cutAmong_ok hb pa sa 5 12 [1, 2, 3, 10, 100000, 0] (fun bt503 => ((spec_l1Cur_one.f b bt503.2.1 bt503.2.2 3).bind fun bt506 => (if bt506.1 = true then (some (v, bt503.1, wrap64 (2 * v), wrap64 (2 * bt503.1))) else ((some (([0, 1, 3, 45, 100000, (-1), 100001] : List Int) : List Int)).bind fun y509 => ((spec_l1Cur_pick.f b bt506.2.1 bt506.2.2 24).bind fun bt512 => (if 0 ≤ (wrap64 (5 + (wrap64 (Int.tdiv bt512.1 11)))) then (if (wrap64 (5 + (wrap64 (Int.tdiv bt512.1 11)))) ≤ (y509.length : Int) then ((spec_l1Cur_among.f b bt512.2.1 bt512.2.2 (y509.take ((wrap64 (5 + (wrap64 (Int.tdiv bt512.1 11)))) : Int).toNat)).bind fun bt519 => ((spec_l1Cur_among.f b bt519.2.1 bt519.2.2 (([1, 2, 7, 15] : List Int))).bind fun bt525 => (some (v, bt503.1, bt519.1, bt525.1)))) else (none)) else (none))))))) (by omega) (by omega) (by omega) (by omega) (by omega) (by simp) (by simp)
  simp only [Option.bind_some] at eb
  rw [eb]
  obtain ⟨o, pc, sc, ec, _, _, _⟩ := one_ok hb pb sb 3 (by omega) (by omega) (by omega)
  rw [ec]
  simp only [Option.bind_some]
  cases o with
  | true => exact ⟨_, rfl⟩
  | false =>
    simp only [Bool.false_eq_true, if_false]
    obtain ⟨y, pd, sd, _, _, _, ed⟩ := cutAmong_ok hb pc sc 5 24 [0, 1, 3, 45, 100000, (-1), 100001] (fun bt519 => ((spec_l1Cur_among.f b bt519.2.1 bt519.2.2 (([1, 2, 7, 15] : List Int))).bind fun bt525 => (some (v, w, bt519.1, bt525.1)))) (by omega) (by omega) (by omega) (by omega) (by omega) (by simp) (by simp)
    simp only [Option.bind_some] at ed
    rw [ed]
    obtain ⟨u, pe, se, ee, _, _, _⟩ := among_ok hb pd sd [1, 2, 7, 15] (by omega) (by omega) (by simp) (by simp)
    rw [ee]
    exact ⟨_, rfl⟩
theorem drawBusy_ok {b : List Int} (hb : okB b) : ∃ l m, Ev (fun k => spec_DrawBusyHours.f k b) (l, m) ∧ l.length ≤ 22 := by
  obtain ⟨l, pa, sa, ea, qa, ba, ba2⟩ := stays_ok hb 0 0 (by omega) (by omega)
  obtain ⟨w, pb, sb, _, _, _, eb⟩ := cutAmong_ok hb pa sa 4 24 [1, 2, 3, 20, 0, 21] (fun bt480 => (some (l, bt480.1))) (by omega) (by omega) (by omega) (by omega) (by omega) (by simp) (by simp)
  refine ⟨l, w, ?_, qa⟩
  unfold spec_DrawBusyHours.f
  exact Ev.bind ea (ev_eq fun k => eb)
theorem drawOcc_ok {b : List Int} (hb : okB b) : ∃ l f t p, Ev (fun k => spec_DrawOccupancy.f k b) (l, f, t, p) ∧ l.length ≤ 22 := by
  obtain ⟨l, pa, sa, ea, qa, ba, ba2⟩ := stays_ok hb 0 0 (by omega) (by omega)
  unfold spec_DrawOccupancy.f
  have key : ∃ f t p, ∀ k : Nat, ((some (([0, 5, 20, 239, (-1), 240] : List Int) : List Int)).bind fun y425 => ((spec_l1Cur_pick.f b pa sa 24).bind fun bt428 => (if 0 ≤ (wrap64 (4 + (wrap64 (Int.tdiv bt428.1 11)))) then (if (wrap64 (4 + (wrap64 (Int.tdiv bt428.1 11)))) ≤ (y425.length : Int) then ((spec_l1Cur_among.f b bt428.2.1 bt428.2.2 (y425.take ((wrap64 (4 + (wrap64 (Int.tdiv bt428.1 11)))) : Int).toNat)).bind fun bt435 => ((some (([240, 30, 60, wrap64 (bt435.1 + 1), bt435.1, 241] : List Int) : List Int)).bind fun y438 => ((spec_l1Cur_pick.f b bt435.2.1 bt435.2.2 24).bind fun bt441 => (if 0 ≤ (wrap64 (4 + (wrap64 (Int.tdiv bt441.1 11)))) then (if (wrap64 (4 + (wrap64 (Int.tdiv bt441.1 11)))) ≤ (y438.length : Int) then ((spec_l1Cur_among.f b bt441.2.1 bt441.2.2 (y438.take ((wrap64 (4 + (wrap64 (Int.tdiv bt441.1 11)))) : Int).toNat)).bind fun bt448 => ((some (([1, 2, 6, 1000, 0, 1001] : List Int) : List Int)).bind fun y451 => ((spec_l1Cur_pick.f b bt448.2.1 bt448.2.2 24).bind fun bt454 => (if 0 ≤ (wrap64 (4 + (wrap64 (Int.tdiv bt454.1 11)))) then (if (wrap64 (4 + (wrap64 (Int.tdiv bt454.1 11)))) ≤ (y451.length : Int) then ((spec_l1Cur_among.f b bt454.2.1 bt454.2.2 (y451.take ((wrap64 (4 + (wrap64 (Int.tdiv bt454.1 11)))) : Int).toNat)).bind fun bt461 => (some (l, bt435.1, bt448.1, bt461.1))) else (none)) else (none))))) else (none)) else (none))))) else (none)) else (none)))) = some (l, f, t, p) := by
    obtain ⟨f, pb, sb, _, _, _, eb⟩ := cutAmong_ok hb pa sa 4 24 [0, 5, 20, 239, (-1), 240] (fun bt435 => ((some (([240, 30, 60, wrap64 (bt435.1 + 1), bt435.1, 241] : List Int) : List Int)).bind fun y438 => ((spec_l1Cur_pick.f b bt435.2.1 bt435.2.2 24).bind fun bt441 => (if 0 ≤ (wrap64 (4 + (wrap64 (Int.tdiv bt441.1 11)))) then (if (wrap64 (4 + (wrap64 (Int.tdiv bt441.1 11)))) ≤ (y438.length : Int) then ((spec_l1Cur_among.f b bt441.2.1 bt441.2.2 (y438.take ((wrap64 (4 + (wrap64 (Int.tdiv bt441.1 11)))) : Int).toNat)).bind fun bt448 => ((some (([1, 2, 6, 1000, 0, 1001] : List Int) : List Int)).bind fun y451 => ((spec_l1Cur_pick.f b bt448.2.1 bt448.2.2 24).bind fun bt454 => (if 0 ≤ (wrap64 (4 + (wrap64 (Int.tdiv bt454.1 11)))) then (if (wrap64 (4 + (wrap64 (Int.tdiv bt454.1 11)))) ≤ (y451.length : Int) then ((spec_l1Cur_among.f b bt454.2.1 bt454.2.2 (y451.take ((wrap64 (4 + (wrap64 (Int.tdiv bt454.1 11)))) : Int).toNat)).bind fun bt461 => (some (l, bt435.1, bt448.1, bt461.1))) else (none)) else (none))))) else (none)) else (none))))) (by omega) (by omega) (by omega) (by omega) (by omega) (by simp) (by simp)
    obtain ⟨t, pc, sc, _, _, _, ec⟩ := cutAmong_ok hb pb sb 4 24 [240, 30, 60, wrap64 (f + 1), f, 241] (fun bt448 => ((some (([1, 2, 6, 1000, 0, 1001] : List Int) : List Int)).bind fun y451 => ((spec_l1Cur_pick.f b bt448.2.1 bt448.2.2 24).bind fun bt454 => (if 0 ≤ (wrap64 (4 + (wrap64 (Int.tdiv bt454.1 11)))) then (if (wrap64 (4 + (wrap64 (Int.tdiv bt454.1 11)))) ≤ (y451.length : Int) then ((spec_l1Cur_among.f b bt454.2.1 bt454.2.2 (y451.take ((wrap64 (4 + (wrap64 (Int.tdiv bt454.1 11)))) : Int).toNat)).bind fun bt461 => (some (l, f, bt448.1, bt461.1))) else (none)) else (none))))) (by omega) (by omega) (by omega) (by omega) (by omega) (by simp) (by simp)
    obtain ⟨p, pd, sd, _, _, _, ed⟩ := cutAmong_ok hb pc sc 4 24 [1, 2, 6, 1000, 0, 1001] (fun bt461 => (some (l, f, t, bt461.1))) (by omega) (by omega) (by omega) (by omega) (by omega) (by simp) (by simp)
    exact ⟨f, t, p, fun _ => eb.trans (ec.trans ed)⟩
  obtain ⟨f, t, p, h⟩ := key
  exact ⟨l, f, t, p, Ev.bind ea (ev_eq h), qa⟩
theorem occ_j5 {b : List Int} (hb : okB b) : Ev (fun k => laws_FnOccupancy.j5 k b false) true := by
  obtain ⟨⟨x, y, z, u⟩, hd⟩ := drawCmp_ok hb
  obtain ⟨r, h1, h2, h3⟩ := cmp_ev x y z u
  obtain ⟨r2, g1, _, _⟩ := cmp_ev x y x y
  refine Ev.step (f := fun k => (impl_CompareRates.f k x y z u).bind fun bt569 => ((spec_CompareRates.f k x y z u).bind fun bt571 => ((impl_CompareRates.f k x y x y).bind fun bt573 => (if bt569.1 = bt571.1 then (if (bt569.2 == bt571.2) = true then (if bt569.2 = true then (if bt573.2 = true then (some (bt573.1 == 0)) else (some false)) else (some true)) else (some false)) else (some false))))) (fun k => ?_) ?_
  · simp only [laws_FnOccupancy.j5, hd, Option.bind_some, Bool.false_eq_true, if_false]
  · refine Ev.bind h1 (Ev.bind h2 ?_)
    simp only [beq_self_eq_true, if_true]
    cases c : r.2 with
    | false => simp only [Bool.false_eq_true, if_false]; exact Ev.bind g1 (Ev.now _)
    | true =>
      have k := h3 c
      refine Ev.bind (cmp_same x y k.1 k.2.1 k.2.2.1 k.2.2.2) ?_
      simp only [if_true]
      exact Ev.now _
theorem occ_j3 {b : List Int} (hb : okB b) : Ev (fun k => laws_FnOccupancy.j3 k b) true := by
  obtain ⟨l, f, t, p, hd, hl⟩ := drawOcc_ok hb
  obtain ⟨l2, m, hd2, hl2⟩ := drawBusy_ok hb
  refine Ev.step (f := fun k => (spec_DrawOccupancy.f k b).bind fun bt545 => ((impl_Occupancy.f k bt545.1 bt545.2.1 bt545.2.2.1 bt545.2.2.2).bind fun bt551 => ((spec_Occupancy.f k bt545.1 bt545.2.1 bt545.2.2.1 bt545.2.2.2).bind fun bt554 => (if bt551.1 = bt554.1 then (if bt551.2.1 = bt554.2.1 then (laws_FnOccupancy.j4 k b (bt551.2.2 != bt554.2.2)) else (laws_FnOccupancy.j4 k b true)) else (laws_FnOccupancy.j4 k b true))))) (fun k => by simp only [laws_FnOccupancy.j3]) ?_
  refine Ev.bind hd (Ev.bind (implOcc_ev l f t p) (Ev.bind (specOcc_ev l (by omega) f t p) ?_))
  simp only [if_true, bne_self_eq_false]
  refine Ev.step (f := fun k => (spec_DrawBusyHours.f k b).bind fun bt557 => ((impl_BusyHours.f k bt557.1 bt557.2).bind fun bt561 => ((spec_BusyHours.f k bt557.1 bt557.2).bind fun bt563 => (if bt561.1 = bt563.1 then (laws_FnOccupancy.j5 k b (bt561.2 != bt563.2)) else (laws_FnOccupancy.j5 k b true))))) (fun k => by simp only [laws_FnOccupancy.j4, Bool.false_eq_true, if_false]) ?_
  refine Ev.bind hd2 (Ev.bind (implBusy_ev l2 m) (Ev.bind (specBusy_ev l2 (by omega) m) ?_))
  simp only [if_true, bne_self_eq_false]
  exact occ_j5 hb
end Go.Proofs.Ytolaplcjbmjlmaa.X
namespace Go.Proofs.Ytolaplcjbmjlmaa.Pure
open Go.RowKit Go.Proofs.YtolaplcjbmjlmaaW.PrintWords Go.Proofs.YtolaplcjbmjlmaaL Go.Proofs.Ytolaplcjbmjlmaa.X
theorem FnOccupancy : OFnOccupancy.Pure := by
  intro b hb
  refine ev_rounds ?_
  have hB := okB_of hb.2.2
  unfold laws_FnOccupancy.f laws_rBig.f
  simp only [Option.bind_some]
  by_cases big : (b.length : Int) > 65536
  · simp only [decide_eq_true big, if_true]; exact Ev.now _
  · simp only [decide_eq_false big, Bool.false_eq_true, if_false]
    obtain ⟨l, pa, sa, ea, qa, _, _⟩ := stays_ok hB 0 0 (by omega) (by omega)
    have hl : l.length ≤ 22 := qa
    have hd : Ev (fun k => spec_DrawPeakHour.f k b) l := by
      unfold spec_DrawPeakHour.f spec_DrawIsValidStays.f
      exact Ev.bind (Ev.bind ea (Ev.now _)) (Ev.now _)
    refine Ev.bind hd (Ev.bind (implPeak_ev l) (Ev.bind (specPeak_ev l (by omega)) ?_))
    simp only [if_true, bne_self_eq_false]
    by_cases hv : valid l = true
    · have hp : peak l = ((loopN (peakStep l) 241 0 (0, 0)).1, (loopN (peakStep l) 241 0 (0, 0)).2, true) := by unfold peak; rw [if_pos hv]
      obtain ⟨i1, i2, i3⟩ := peak_inv l
      rw [hp]
      generalize loopN (peakStep l) 241 0 (0, 0) = pk at i1 i2 i3
      refine Ev.step (f := fun k => laws_FnOccupancy.j1 k b l pk.1 pk.2 (decide (pk.2 > 0))) (fun k => by simp only [laws_FnOccupancy.j0, Bool.false_eq_true, if_false, if_true]) ?_
      by_cases c : pk.2 > 0
      · rw [decide_eq_true c]
        obtain ⟨h0, h1, he⟩ := i3 c
        have hle := inside_le l pk.1
        have hlt : pk.1 < 240 := by
          rcases Int.lt_or_le pk.1 240 with z | z
          · exact z
          · have : inside l pk.1 = 0 := by
              unfold inside
              have : (l.countP fun s => decide (s.f0 ≤ pk.1) && decide (pk.1 < s.f1)) = 0 := by
                rw [List.countP_eq_zero]
                intro s hs
                have := (okStay_iff s).1 ((valid_ok hv).1 s hs)
                simp; omega
              rw [this]; rfl
            omega
        have h20 := (valid_ok hv).2
        refine Ev.step (f := fun k => (impl_Occupancy.f k l pk.1 (pk.1 + 1) 1).bind fun bt538 => ((impl_BusyHours.f k l pk.2).bind fun bt541 => (if bt538.2.2 = true then (if bt538.1 = pk.2 then (if bt538.2.1 = 1 then (if bt541.2 = true then (laws_FnOccupancy.j2 k b l pk.2 (decide (bt541.1 < 1))) else (laws_FnOccupancy.j2 k b l pk.2 true)) else (laws_FnOccupancy.j2 k b l pk.2 true)) else (laws_FnOccupancy.j2 k b l pk.2 true)) else (laws_FnOccupancy.j2 k b l pk.2 true)))) (fun k => by simp only [laws_FnOccupancy.j1, if_true]; rw [wrap_id (x := pk.1 + 1) (by omega) (by omega)]) ?_
        refine Ev.bind (implOcc_ev l pk.1 (pk.1 + 1) 1) (Ev.bind (implBusy_ev l pk.2) ?_)
        rw [occ_one hv pk.1 h0 hlt, he]
        have hb1 : busy l pk.2 = (loopN (busyStep l pk.2) 241 0 0, true) := by unfold busy; rw [if_pos ⟨hv, by omega, by omega⟩]
        have h1b := busy_one l pk.2 pk.1 h0 (by omega) (by omega)
        rw [hb1]
        simp only [if_true, decide_eq_false (show ¬ loopN (busyStep l pk.2) 241 0 0 < 1 by omega)]
        refine Ev.step (f := fun k => (impl_BusyHours.f k l (pk.2 + 1)).bind fun bt543 => (if bt543.2 = true then (if bt543.1 = 0 then (laws_FnOccupancy.j3 k b) else (some false)) else (laws_FnOccupancy.j3 k b))) (fun k => by simp only [laws_FnOccupancy.j2, Bool.false_eq_true, if_false]; rw [wrap_id (x := pk.2 + 1) (by omega) (by omega)]) ?_
        refine Ev.bind (implBusy_ev l (pk.2 + 1)) ?_
        by_cases d : pk.2 + 1 ≤ 20
        · have hb2 : busy l (pk.2 + 1) = (loopN (busyStep l (pk.2 + 1)) 241 0 0, true) := by unfold busy; rw [if_pos ⟨hv, by omega, by omega⟩]
          rw [hb2, busy_zero l (pk.2 + 1) (fun j a e => by have := i2 j a e; omega)]
          simp only [if_true]
          exact occ_j3 hB
        · have hb2 : busy l (pk.2 + 1) = (0, false) := by unfold busy; rw [if_neg (fun z => d z.2.2)]
          rw [hb2]
          simp only [Bool.false_eq_true, if_false]
          exact occ_j3 hB
      · rw [decide_eq_false c]
        exact Ev.step (f := fun k => laws_FnOccupancy.j3 k b) (fun k => by simp only [laws_FnOccupancy.j1, Bool.false_eq_true, if_false]) (occ_j3 hB)
    · have hp : peak l = (0, 0, false) := by unfold peak; rw [if_neg hv]
      rw [hp]
      refine Ev.step (f := fun k => laws_FnOccupancy.j1 k b l 0 0 false) (fun k => by simp only [laws_FnOccupancy.j0, Bool.false_eq_true, if_false]) ?_
      exact Ev.step (f := fun k => laws_FnOccupancy.j3 k b) (fun k => by simp only [laws_FnOccupancy.j1, Bool.false_eq_true, if_false]) (occ_j3 hB)
end Go.Proofs.Ytolaplcjbmjlmaa.Pure


namespace Go.Proofs.Ytolaplcjbmjlmaa.fnOccupancy
open Go.ChangeShapes Go.WideShapes Go.ChangeAt Go.RowKit
open Go.ChangeMaps (open_string shut_string)
open Go.Joins
open Go.Proofs.YtolaplcjbmjlmaaW.PrintWords Go.Proofs.YtolaplcjbmjlmaaW.PrintLast Go.Proofs.YtolaplcjbmjlmaaW.PrintMore
open Go.Proofs.YtolaplcjbmjlmaaZ Go.Proofs.Ytolaplcjbmjlmaa.X Go.Proofs.Ytolaplcjbmjlmaa.X.OFnOccupancy
set_option linter.unusedVariables false
set_option linter.unusedSimpArgs false
theorem own : ownKnob Try.prog.godebug = none := by kernel_rfl
theorem laidOut : laidOutB Try.prog = true := by kernel_rfl
set_option maxRecDepth 100000 in
set_option maxHeartbeats 2000000 in
theorem lifted (os : Os) (started : os.Started) (H : Type) (enc : TypeId × Value → H) :
    ReturnsInHanded {} Try.checked os 10 .any (Rows.fnOccupancySpec.pre6 enc Try.prog Try.f10 Rows.fnOccupancyRow.domain false) (Rows.fnOccupancySpec.post enc Try.prog Try.f10 false true false false) := by
  refine returnsInHanded_of_change_sized (C := Try.checked) own started (by kernel_rfl) Try.func10
    (ChangeSpec.witness6 (enc := enc) (C := Try.checked) false ⟨#[], #[.slice none 0 0], []⟩ 8 (by kernel_rfl) (by kernel_rfl) (by kernel_rfl) (by kernel_rfl)) ?_
  intro W base args ds gs before hval0 hW hcnd hsz0 _
  have hsz : (DataW.weightsEach Try.prog (Try.f10.params.toList ++ Rows.fnOccupancySpec.plain.varTypes Try.prog) (ds ++ gs)).all (· ≤ reachBytes) = true := hsz0
  have hval : ∀ (j : Nat) t v, Try.f10.params[j]? = some t → args[j]? = some v → Value.okWide Try.prog W .any base t v := hval0
  have hW' := hW
  obtain ⟨p, q, hA0, hV, rfl, hfz, hnd⟩ := hW
  have hA : DataW.TrodAll enc Try.prog W 0 (fun _ => true) true Try.f10.params.toList args.toList ds p := hA0
  rw [Try.params10] at hA hval hsz
  obtain ⟨v0, vs0, d0, ds0, p0, q0, hargs, rfl, rfl, h0, r0⟩ := trodAll_cons hA
  obtain ⟨rfl, rfl, rfl⟩ := trodAll_nil r0
  obtain rfl : args = #[v0] := by cases args; simp_all
  obtain ⟨rfl, rfl⟩ := trodVars_none hV
  obtain ⟨a0, len0, cap0, rfl⟩ := okWide_slice Try.underlying44 (hval 0 44 v0 rfl rfl)
  have k0 := h0
  have lt0 : ∀ x ∈ p0, x.block < W.heap.size := by obtain ⟨m, hm⟩ := k0; exact DataW.trod_lt m _ _ _ hm
  obtain ⟨l0, rfl, hc0, hr0, w0⟩ : ∃ l : List Int, len0 = l.length ∧ l.length ≤ cap0 ∧ Kd.C (Kd.int .u8) W a0 l.length l ∧ (l.length * 1 ≤ 140737488351232 ∧ l.length ≤ 9223372036854775807 ∧ ∀ y1 ∈ l, (Lit.int .u8 y1).wf = true) := by
    obtain ⟨fuel, hf⟩ := h0
    obtain ⟨l, ⟨A_, c_, e_, hl_, hC_⟩, hfit_⟩ := (opens_slice 0 Try.underlying44 (by kernel_rfl) (opens_int Try.underlying5) (by kernel_rfl)) hf (weights_param hsz (j := 0) rfl rfl)
    simp [Value.cells] at e_
    obtain ⟨rfl, rfl, rfl⟩ := e_
    exact ⟨l, rfl, hl_, hC_, hfit_⟩
  clear hA0 hval0 hsz0 hsz
  obtain ⟨k, h⟩ := Go.Proofs.Ytolaplcjbmjlmaa.Pure.FnOccupancy l0 w0
  refine (laws_FnOccupancy.calls k a0 cap0 l0 true W hr0 hc0 h).mono fun e W' ⟨he, bel0⟩ => ?_
  have bel : Below W.heap.size W W' := bel0
  subst he
  exact ⟨_, rfl, _, _, _, [], _, [], hW', trodAll_mk1 (shut_bool Try.underlying4 _), (trodAll_cons_mk (Below.trod laidOut (by kernel_rfl) (of_decide_eq_true (by kernel_rfl)) k0 bel lt0) trodAll_mk0), rfl, bel.frame _, fun h => by cases h⟩
theorem over : Rows.fnOccupancyRow.holds Try.pinned (OpenSpec.ofChange Rows.fnOccupancySpec) :=
  OpenClaim.holds_of_wide 10 Try.f10 rfl rfl rfl rfl rfl rfl rfl ⟨rfl, rfl, rfl, rfl, rfl⟩ rfl rfl rfl rfl rfl (by kernel_rfl) Try.func10 (by kernel_rfl)
    (of_decide_eq_true (by kernel_rfl)) (by unfold Func.isWrapper; first | (rw [if_pos (by decide +kernel)]; kernel_rfl) | (rw [if_neg (by decide +kernel)]; exact ⟨rfl, rfl⟩))
    (fun os started H enc _ => lifted os started H enc)
theorem proved : Rows.FnOccupancySaid := over
#print axioms proved
end Go.Proofs.Ytolaplcjbmjlmaa.fnOccupancy
namespace Go.Proofs.Ytolaplcjbmjlmaa
/-- The row, under a short name, for the claim. -/
theorem fnOccupancy_holds : Rows.FnOccupancySaid := fnOccupancy.proved
end Go.Proofs.Ytolaplcjbmjlmaa

