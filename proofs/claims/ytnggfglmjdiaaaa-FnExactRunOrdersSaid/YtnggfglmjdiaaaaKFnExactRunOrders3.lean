/- Texts that the proof of the law FnExactRunOrders leans on, part 4 of 7. -/
import Derived.Test.YtnggfglmjdiaaaaProg
import Derived.Test.YtnggfglmjdiaaaaKFnExactRunOrders1
import Derived.Test.YtnggfglmjdiaaaaKFnExactRunOrders2
set_option linter.unusedVariables false
set_option linter.unusedSimpArgs false
namespace Go.Proofs.YtnggfglmjdiaaaaOwn
open Go.RowKit Go.Proofs.YtnggfglmjdiaaaaW.PrintWords
/-- Two rows of rows of the call's own: no block is in both. -/
def TT (e : Nat) (w : World) (base : Nat) (vX : Value) (lX : List (List Int)) (vY : Value) (lY : List (List Int)) : Prop :=
 ∃ okX okY : Nat → Prop, (∀ k, okX k → okY k → False) ∧ Kd.S (Kd.slice 3 (Kd.int .i64)) e w base okX vX lX ∧ Kd.S (Kd.slice 3 (Kd.int .i64)) e w base okY vY lY
section
variable {e base g n cap : Nat} {w w1 W : World} {vX vY v : Value} {lX lY : List (List Int)} {i : Int}
theorem TT.swap (h : TT e w base vX lX vY lY) : TT e w base vY lY vX lX := by
 obtain ⟨a, b, hd, h1, h2⟩ := h
 exact ⟨b, a, fun k x y => hd k y x, h2, h1⟩
theorem TT.of2 {P : Nat → Prop} (h1 : Kd.S (Kd.slice 3 (Kd.int .i64)) e w base (fun k => P k) vX lX) (h2 : Kd.S (Kd.slice 3 (Kd.int .i64)) e w base (fun k => ¬ P k) vY lY) : TT e w base vX lX vY lY :=
 ⟨_, _, fun k x y => y x, h1, h2⟩
theorem TT.to2 (h : TT e w base vX lX vY lY) : ∃ P : Nat → Prop, Kd.S (Kd.slice 3 (Kd.int .i64)) e w base (fun k => P k) vX lX ∧ Kd.S (Kd.slice 3 (Kd.int .i64)) e w base (fun k => ¬ P k) vY lY := by
 obtain ⟨a, b, hd, h1, h2⟩ := h
 exact ⟨a, h1, Kd.S_mono h2 (fun k hk hx => hd k hx hk)⟩
theorem TT.nil (e : Nat) (w : World) (base : Nat) : TT e w base (.slice none 0 0) [] (.slice none 0 0) [] :=
 ⟨fun _ => False, fun _ => False, fun _ h _ => h, Kd.S_nil _ _ _ _ _, Kd.S_nil _ _ _ _ _⟩
theorem TT.below (h : TT e w base vX lX vY lY) (hb : Below w.heap.size w w1) : TT e w1 base vX lX vY lY := by
 obtain ⟨a, b, hd, h1, h2⟩ := h
 exact ⟨a, b, hd, Kd.Ac h1 hb, Kd.Ac h2 hb⟩
theorem TT.lower {base' : Nat} (h : TT e w base vX lX vY lY) (hb : base' ≤ base) : TT e w base' vX lX vY lY := by
 obtain ⟨a, b, hd, h1, h2⟩ := h
 exact ⟨a, b, hd, Kd.S_lower h1 hb, Kd.S_lower h2 hb⟩
theorem TT.drew (h : TT e w base vX lX vY lY) : TT e w.drew base vX lX vY lY := h.below (below_drew (Below.refl _ _))
theorem TT.only {t : Nat} {cells : Array Value} (h : TT e w base vX lX vY lY) (hb : w.heap[g]? = some (.cells cells t (0, 0))) (ht : ∀ q, q ∈ e :: (Kd.slice 3 (Kd.int .i64)).E → q ≠ t) (ho : Only w w1 g) : TT e w1 base vX lX vY lY := by
 obtain ⟨a, b, hd, h1, h2⟩ := h
 exact ⟨a, b, hd, Dy h1 hb ht ho, Dy h2 hb ht ho⟩
theorem TT.read (h : TT e w base vX lX vY lY) : ∃ A c, vX = .slice A lX.length c ∧ lX.length ≤ c ∧ (Kd.slice 3 (Kd.int .i64)).C w A lX.length lX := by
 obtain ⟨a, b, hd, h1, h2⟩ := h
 exact Kd.S_reads h1
theorem TT.reads {A : Option Addr} {c : Nat} (h : TT e w base (.slice A n c) lX vY lY) : n = lX.length ∧ n ≤ c ∧ (Kd.slice 3 (Kd.int .i64)).C w A lX.length lX := by
 obtain ⟨a, b, hd, h1, h2⟩ := h
 exact Kd.Af h1
theorem TT.form {A : Option Addr} {c : Nat} (h : TT e w base (.slice A n c) lX vY lY) (hp : 0 < lX.length) : ∃ g, A = some ⟨g, 0, none⟩ ∧ base ≤ g ∧ g < w.heap.size := by
 obtain ⟨a, b, hd, h1, h2⟩ := h
 obtain ⟨g, c', ev, hb, hl, _⟩ := Kd.S_form h1 hp
 injection ev with ea _ _
 exact ⟨g, ea, hb, hl⟩
theorem TT.ne {t gb : Nat} {cells : Array Value} (h : TT e w base (.slice (some ⟨g, 0, none⟩) n cap) lX vY lY) (hb : w.heap[gb]? = some (.cells cells t (0, 0))) (ht : e ≠ t) : gb ≠ g := by
 obtain ⟨a, b, hd, h1, h2⟩ := h
 intro he
 exact Kd.S_ne h1 hb ht (by rw [he]; rfl)
theorem one_sz (i : Nat) : i * (Kd.slice 3 (Kd.int .i64)).sz + 0 = i := by
 rw [show (Kd.slice 3 (Kd.int .i64)).sz = 1 from rfl]; omega
/-- xs[i] = xs[i][:m] -/
theorem TT.cut {A : Option Addr} {len c m : Nat} (h : TT e W base (.slice (some ⟨g, 0, none⟩) n cap) lX vY lY) (h0 : 0 ≤ i) (h1 : i < n) (hv : W.cell? ⟨g, i.toNat, none⟩ = some (.slice A len c)) (hm : m ≤ (lX.getD i.toNat []).length) :
  TT e (W.setCell ⟨g, i.toNat, none⟩ (.slice A m c)) base (.slice (some ⟨g, 0, none⟩) n cap) (lX.set i.toNat ((lX.getD i.toNat []).take m)) vY lY ∧ W.grownBy (W.setCell ⟨g, i.toNat, none⟩ (.slice A m c)) (some g) := by
 obtain ⟨a, b, hd, hX, hY⟩ := h
 have hga : a g := (Kd.S_R hX).1 g rfl
 obtain ⟨oki, cc, hcl, hM, hcc, hfr, hoki, hH⟩ := Kd.S_elem hX [] i h0 h1
 obtain ⟨v, rfl, hR⟩ := hM
 have h2 := hcc 0 v rfl
 rw [one_sz] at h2
 obtain rfl : v = .slice A len c := by rw [h2] at hv; exact Option.some.inj hv
 have key := Kd.S_seg (okg := fun _ => False) (ok := a) (okp := oki) (seg := [.slice A m c]) (j := 0) (x' := (lX.getD i.toNat []).take m) (Kd.H_mono hH (fun k hk => ⟨hk, fun f => f.elim⟩)) h0 h1 (Nat.le_refl 1) ⟨_, rfl, Kd.R_take hR hm⟩ (fun k hk => .inl hk) (fun k hk => hk.elim)
 rw [one_sz] at key
 exact ⟨⟨a, b, hd, key.1, Kd.S_grown hY key.2 (fun k hk he => hd k (by injection he with he; rw [he]; exact hga) hk)⟩, key.2⟩
/-- Element i, lent for an append: its value v; what comes back (v1) is put in its place. -/
theorem TT.lend (h : TT e W base (.slice (some ⟨g, 0, none⟩) n cap) lX vY lY) (h0 : 0 ≤ i) (h1 : i < n) :
  ∃ (okF : Nat → Prop) (v : Value), W.cell? ⟨g, i.toNat, none⟩ = some v ∧ Kd.R (Kd.int .i64) 3 W base okF v (lX.getD i.toNat []) ∧ (∀ k, W.heap.size ≤ k → okF k) ∧
   (∀ w1 : World, W.grownBy w1 v.ownBlock → w1.cell? ⟨g, i.toNat, none⟩ = some v ∧ w1.frozen? ⟨g, i.toNat, none⟩ = false) ∧
   ∀ (w1 : World) (ok1 : Nat → Prop) (v1 : Value) (x1 : List Int), W.grownBy w1 v.ownBlock → Kd.R (Kd.int .i64) 3 w1 base ok1 v1 x1 → (v1.ownBlock = v.ownBlock ∨ ∃ b, v1.ownBlock = some b ∧ W.heap.size ≤ b) →
    TT e (w1.setCell ⟨g, i.toNat, none⟩ v1) base (.slice (some ⟨g, 0, none⟩) n cap) (lX.set i.toNat x1) vY lY ∧ w1.grownBy (w1.setCell ⟨g, i.toNat, none⟩ v1) (some g) := by
 obtain ⟨a, b, hd, hX, hY⟩ := h
 have hga : a g := (Kd.S_R hX).1 g rfl
 have hgl : g < W.heap.size := Kd.S_lt hX g rfl
 have hX3 : Kd.S (Kd.slice 3 (Kd.int .i64)) e W base (fun k => a k ∧ k < W.heap.size) (.slice (some ⟨g, 0, none⟩) n cap) lX := Kd.S_mono (Kd.D6 hX) (fun k hk => ⟨hk.1, hk.2.2.1⟩)
 obtain ⟨oki, cc, hcl, hM, hcc, hfr, hoki, hH⟩ := Kd.S_elem hX3 [] i h0 h1
 obtain ⟨v, rfl, hR⟩ := hM
 have h2 := hcc 0 v rfl
 rw [one_sz] at h2
 have hf2 := hfr 0
 rw [one_sz] at hf2
 have hvg : some g ≠ v.ownBlock := fun he => (hoki g (hR.1 g he.symm)).2 rfl
 refine ⟨fun k => oki k ∨ W.heap.size ≤ k, v, h2, Kd.Dl hR (fun k hk => .inl hk), fun k hk => .inr hk, fun w1 hg => ?_, fun w1 ok1 v1 x1 hg hR1 hat => ?_⟩
 ·have hb := hg.block g hgl hvg
  refine ⟨?_, ?_⟩
  ·rw [← h2]; simp [World.cell?, hb]
  ·rw [← hf2]; simp [World.frozen?, hb]
 ·have hH1 := Kd.H_grown (Kd.H_mono hH (ok' := fun k => (a k ∨ W.heap.size ≤ k) ∧ ¬ W.heap.size ≤ k) (fun k hk => ⟨.inl hk.1, Nat.not_le.2 hk.2⟩)) hg (fun k hk => hR.1 k hk)
  have key := Kd.S_seg (okg := fun k => W.heap.size ≤ k) (ok := fun k => a k ∨ W.heap.size ≤ k) (okp := fun k => some k = v1.ownBlock) (seg := [v1]) (j := 0) (x' := x1) hH1 h0 h1 (Nat.le_refl 1) ⟨v1, rfl, Kd.R_tight rfl hR1⟩
   (fun k hk => by
    rcases hat with hat | ⟨b2, hb2, hle⟩
    ·exact .inl (hR.1 k (by rw [← hat]; exact hk.symm))
    ·rw [hb2] at hk
     injection hk with hk
     exact .inr (by rw [hk]; exact hle)) (fun k hk => ⟨.inr hk, by omega⟩)
  rw [one_sz] at key
  have hY3 : Kd.S (Kd.slice 3 (Kd.int .i64)) e W base (fun k => b k ∧ k < W.heap.size) vY lY := Kd.S_mono (Kd.D6 hY) (fun k hk => ⟨hk.1, hk.2.2.1⟩)
  have hY1 := Kd.S_grown hY3 hg (fun k hk he => hd k (hoki k (hR.1 k he.symm)).1.1 hk.1)
  have hY2 := Kd.S_grown hY1 key.2 (fun k hk he => hd k (by injection he with he; rw [he]; exact hga) hk.1)
  exact ⟨⟨_, _, fun k hx hy => hx.elim (fun z => hd k z hy.1) (fun z => by have := hy.2; omega), key.1, hY2⟩, key.2⟩
/-- xs[i] = v1, a row made since w0. -/
theorem TT.put {w0 : World} {ok1 : Nat → Prop} {v1 : Value} {x1 : List Int} (h : TT e w0 base (.slice (some ⟨g, 0, none⟩) n cap) lX vY lY) (hbase : base ≤ w0.heap.size) (hb : Below w0.heap.size w0 W) (h0 : 0 ≤ i) (h1 : i < n) (hR : Kd.R (Kd.int .i64) 3 W w0.heap.size ok1 v1 x1) :
  TT e (W.setCell ⟨g, i.toNat, none⟩ v1) base (.slice (some ⟨g, 0, none⟩) n cap) (lX.set i.toNat x1) vY lY ∧ W.grownBy (W.setCell ⟨g, i.toNat, none⟩ v1) (some g) := by
 obtain ⟨a, b, hd, hX, hY⟩ := h
 have hga : a g := (Kd.S_R hX).1 g rfl
 have hgl : g < w0.heap.size := Kd.S_lt hX g rfl
 have hX1 : Kd.S (Kd.slice 3 (Kd.int .i64)) e W base (fun k => (a k ∨ w0.heap.size ≤ k) ∧ ¬ w0.heap.size ≤ k) (.slice (some ⟨g, 0, none⟩) n cap) lX := Kd.S_mono (Kd.S_old hX hb) (fun k hk => ⟨.inl hk.1, Nat.not_le.2 hk.2⟩)
 have hY1 := Kd.S_old hY hb
 obtain ⟨oki, cc, hcl, hM, hcc, hfr, hoki, hH⟩ := Kd.S_elem hX1 [] i h0 h1
 have key := Kd.S_seg (okg := fun k => w0.heap.size ≤ k) (ok := fun k => a k ∨ w0.heap.size ≤ k) (okp := fun k => some k = v1.ownBlock) (seg := [v1]) (j := 0) (x' := x1) hH h0 h1 (Nat.le_refl 1) (by
  obtain ⟨v, rfl, _⟩ := hM
  exact ⟨v1, rfl, Kd.R_tight rfl (Kd.R_lower hR hbase)⟩) (fun k hk => .inr ((Kd.Ff hR).1 k hk.symm).2.1) (fun k hk => ⟨.inr hk, by omega⟩)
 rw [one_sz] at key
 have hY2 := Kd.S_grown hY1 key.2 (fun k hk he => hd k (by injection he with he; rw [he]; exact hga) hk.1)
 exact ⟨⟨_, _, fun k hx hy => hx.elim (fun z => hd k z hy.1) (fun z => by have := hy.2; omega), key.1, hY2⟩, key.2⟩
/-- Element i as it is read: its cell, its numbers. -/
theorem TT.elem (h : TT e W base (.slice (some ⟨g, 0, none⟩) n cap) lX vY lY) (h0 : 0 ≤ i) (h1 : i < n) :
  ∃ A c, W.cell? ⟨g, i.toNat, none⟩ = some (.slice A (lX.getD i.toNat []).length c) ∧ (lX.getD i.toNat []).length ≤ c ∧ Kd.C (Kd.int .i64) W A (lX.getD i.toNat []).length (lX.getD i.toNat []) ∧ W.frozen? ⟨g, i.toNat, none⟩ = false := by
 obtain ⟨_, v, hv, hR, _, hfr, _⟩ := TT.lend h h0 h1
 obtain ⟨A, c, rfl, hc, hC⟩ := Kd.R_reads hR
 exact ⟨A, c, hv, hc, hC, (hfr W (World.grownBy.refl _ _)).2⟩
theorem TT.open_ (h : TT e W base vX lX vY lY) : ∃ n A c, vX = .slice A n c ∧ n = lX.length := by
 obtain ⟨A, c, e, _, _⟩ := TT.read h
 exact ⟨_, A, c, e, rfl⟩
end
section
variable {ops : Array Oper} {rest : List Oper} {o : Oper} {a : Act} {Q : Exit → Act → World → Prop}
set_option maxRecDepth 100000 in
/-- A terminal (a yard's rows, a height, a bay's rows) laid into a variable. -/
theorem sto3 {W w0 : World} {g t p : Nat} {v : Operand} {A B A' B' : Option Addr} {n c m d n' c' m' d' : Nat} {x x' : Int} (hz : (sizeOf t).run Try.prog W = .ok 3 W) (hgd : o.guard = none) (ho : o.op = .store t (.tmp p) v) (hN : o.dst = none)
  (hp : a.eval (.tmp p) = .pointer (some ⟨g, 0, none⟩)) (hv : a.eval v = .agg #[.slice A' n' c', .int .i64 x', .slice B' m' d'])
  (hb : W.heap[g]? = some (.cells #[.slice A n c, .int .i64 x, .slice B m d] t (0, 0))) (hB : Below w0.heap.size w0 W) (hg : w0.heap.size ≤ g)
  (h : ∀ w', w'.heap[g]? = some (.cells #[.slice A' n' c', .int .i64 x', .slice B' m' d'] t (0, 0)) → Below w0.heap.size w0 w' → Only W w' g → wpList Try.prog ops Q rest a w') : wpList Try.prog ops Q (o :: rest) a W := by
 have hs0 : W.cell? ⟨g, 0, none⟩ = some (.slice A n c) := (blk_cell hb 0).trans rfl
 have hs1 : W.cell? ⟨g, 1, none⟩ = some (.int .i64 x) := (blk_cell hb 1).trans rfl
 have hs2 : W.cell? ⟨g, 2, none⟩ = some (.slice B m d) := (blk_cell hb 2).trans rfl
 have hf0 := blk_frozen hb 0
 have hf1 := blk_frozen hb 1
 have hf2 := blk_frozen hb 2
 refine Ei (w1 := ((W.setCell ⟨g, 0, none⟩ (.slice A' n' c')).setCell ⟨g, 1, none⟩ (.int .i64 x')).setCell ⟨g, 2, none⟩ (.slice B' m' d')) hgd ho hN ?_ ?_
 ·unfold execOp
  rw [ho]
  simp only [hp, hv]
  go_simp
 ·intro w' hw
  have hO : Only W w' g := by rw [hw]; exact (((Only.refl _ _).set 0 _).set 1 _).set 2 _
  refine h w' ?_ (hO.below hB hg) hO
  rw [hw]
  refine blk_put (cs := #[.slice A' n' c', .int .i64 x', .slice B m d]) ?_ 2 _ rfl
  refine blk_put (cs := #[.slice A' n' c', .int .i64 x, .slice B m d]) ?_ 1 _ rfl
  refine blk_put (cs := #[.slice A n c, .int .i64 x, .slice B m d]) ?_ 0 _ rfl
  exact hb
end
end Go.Proofs.YtnggfglmjdiaaaaOwn

namespace Go.Proofs.Ytnggfglmjdiaaaa.X
open Go.RowKit Go.Proofs.YtnggfglmjdiaaaaW.PrintWords Go.Proofs.YtnggfglmjdiaaaaW.PrintLast Go.Proofs.YtnggfglmjdiaaaaW.PrintMore
attribute [local go_sem] max2_int min2_int max_two min_two max_three min_three max_four min_four
/-- A row whose top is b. -/
def topIs (b : Int) (s : List Int) : Bool := decide (0 < s.length) && (rd s ((s.length : Int) - 1) == b)
theorem topIs_pos {b : Int} {s : List Int} (h : topIs b s = true) : 0 < s.length := by simp [topIs] at h; exact h.1
def inRows (l : List (List Int)) (i : Int) : Bool := decide (0 ≤ i) && decide (i ≤ (l.length : Int) - 1)
theorem inRows_lt {l : List (List Int)} {i : Int} (h : inRows l i = true) : 0 ≤ i ∧ i < (l.length : Int) := by simp [inRows] at h; omega
def cutRow (F : List (List Int)) (i : Int) : List (List Int) := F.set i.toNat ((rd_L1 F i).take ((rd_L1 F i).length - 1))
def putRow (T : List (List Int)) (i b : Int) : List (List Int) := T.set i.toNat (rd_L1 T i ++ [b])
def moAnswer (v : Bool) (Y : List (List Int)) (h : Int) (B : List (List Int)) (at_ : Int) : Option (List (List Int) × Int × List (List Int) × Int × Bool) := if v = true then some (Y, h, B, at_, true) else some ([], 0, [], 0, false)
def impl_makeOrder.f (k : Nat) (l0_0 : List (List Int)) (a0_1 : Int) (l0_2 : List (List Int)) (a1_0 a1_1 a1_2 : Int) : Option (List (List Int) × Int × List (List Int) × Int × Bool) :=
 (impl_ownTerminal.f k l0_0 a0_1 l0_2).bind fun t =>
 if a1_0 = 1 then (if idxRow (topIs a1_1) t.1 < 0 then some ([], 0, [], 0, false) else if inRows t.1 a1_2 = true then (if a1_2 = idxRow (topIs a1_1) t.1 then some ([], 0, [], 0, false) else if (rd_L1 (cutRow t.1 (idxRow (topIs a1_1) t.1)) a1_2).length < 17592186044415 then (impl_IsValidTerminal.f k (putRow (cutRow t.1 (idxRow (topIs a1_1) t.1)) a1_2 a1_1) t.2.1 t.2.2).bind fun v => moAnswer v (putRow (cutRow t.1 (idxRow (topIs a1_1) t.1)) a1_2 a1_1) t.2.1 t.2.2 (idxRow (topIs a1_1) t.1) else none) else some ([], 0, [], 0, false))
 else if a1_0 = 2 then (if idxRow (topIs a1_1) t.1 < 0 then some ([], 0, [], 0, false) else if inRows t.2.2 a1_2 = true then (if (rd_L1 t.2.2 a1_2).length < 17592186044415 then (impl_IsValidTerminal.f k (cutRow t.1 (idxRow (topIs a1_1) t.1)) t.2.1 (putRow t.2.2 a1_2 a1_1)).bind fun v => moAnswer v (cutRow t.1 (idxRow (topIs a1_1) t.1)) t.2.1 (putRow t.2.2 a1_2 a1_1) (idxRow (topIs a1_1) t.1) else none) else some ([], 0, [], 0, false))
 else if a1_0 = 3 then (if idxRow (topIs a1_1) t.2.2 < 0 then some ([], 0, [], 0, false) else if inRows t.1 a1_2 = true then (if (rd_L1 t.1 a1_2).length < 17592186044415 then (impl_IsValidTerminal.f k (putRow t.1 a1_2 a1_1) t.2.1 (cutRow t.2.2 (idxRow (topIs a1_1) t.2.2))).bind fun v => moAnswer v (putRow t.1 a1_2 a1_1) t.2.1 (cutRow t.2.2 (idxRow (topIs a1_1) t.2.2)) (idxRow (topIs a1_1) t.2.2) else none) else some ([], 0, [], 0, false))
 else some ([], 0, [], 0, false)
theorem impl_makeOrder.mono (l0_0 : List (List Int)) (a0_1 : Int) (l0_2 : List (List Int)) (a1_0 a1_1 a1_2 : Int) (k : Nat) : LeO (impl_makeOrder.f k l0_0 a0_1 l0_2 a1_0 a1_1 a1_2) (impl_makeOrder.f (k + 1) l0_0 a0_1 l0_2 a1_0 a1_1 a1_2) := by
 unfold impl_makeOrder.f
 refine LeO.bind (impl_ownTerminal.mono _ _ _ _) (fun t => ?_)
 repeat' first | exact LeO.refl _ | refine LeO.bind (impl_IsValidTerminal.mono _ _ _ _) (fun _ => LeO.refl _) | refine LeO.ite ?_ ?_
set_option maxHeartbeats 8000000 in
set_option maxRecDepth 100000 in
theorem clo_mo.ok {gx : Nat} {k b t : Int} (W : World) (A : Option Addr) (c : Nat) (s : List Int) (hx : W.heap[gx]? = some (.cells #[.int .i64 k, .int .i64 b, .int .i64 t] 43 (0, 0))) (hC : Kd.C (Kd.int .i64) W A s.length s) (hc : s.length ≤ c) :
  Calls Try.prog 69 #[.slice A s.length c, .pointer (some ⟨gx, 0, none⟩)] W fun e w' => e = .returned (.bool (topIs b s)) ∧ Below W.heap.size W w' := by
 have hu := Try.underlying43
 have HX := Aside0.mk hx
 have HR := Aside0.mk hC
 have HC := Aside0.mk hc
 have HB := Aside0.mk (Below.refl W.heap.size W)
 have hL : s.length ≤ 9223372036854775807 := hC.2.1
 clear hx hC hc
 by_cases c0 : 0 < s.length
 ·have htop : impl_topOf.f s = some (rd s ((s.length : Int) - 1)) := by
   have hw : wrap64 ((s.length : Int) - 1) = (s.length : Int) - 1 := by unfold wrap64; omega
   unfold impl_topOf.f
   rw [hw, if_neg (by omega), if_pos (by omega), if_pos (by omega)]
  have HTOP := Aside0.mk htop
  have C0 := Aside0.mk c0
  have d0 : decide ((0 : Int) < (s.length : Int)) = true := decide_eq_true (by omega)
  have d1 : decide (0 < s.length) = true := decide_eq_true c0
  clear htop c0
  go_enter Try.func69, Try.ntmps69
  go_upto_region 1 with (fail)
  replace HX := Aside0.mk (blk_drew HX.out)
  replace HB := Aside0.mk (below_drew1 HB.out)
  refine start_ (n := 11) (S := fun w' => w'.cell? ⟨gx, 1, none⟩ = some (.int .i64 b)) (ds := []) #[false, false, false, false, false, false, false, false, false, false, false] Ybb_ rfl rfl ((blk_cell HX.out 1).trans rfl) (fun hHeld => ?_)
  generalize W.drew = w2 at HX HB hHeld ⊢
  refine pure_ (i := 0) (N := some 4) #[true, false, false, false, false, false, false, false, false, false, false] rfl rfl Ybb_ (fun _ _ _ h => h) (Or.inl ⟨by rfl, Ybg_⟩) Ya_ ?_
  refine pure_ (i := 1) (N := some 5) #[true, true, false, false, false, false, false, false, false, false, false] rfl rfl Ybb_ (fun _ _ _ h => h) (Or.inl ⟨by rfl, Ybg_⟩) Ya_ ?_
  refine pure_ (i := 2) (N := some 6) #[true, true, true, false, false, false, false, false, false, false, false] rfl rfl Ybb_ (fun _ _ _ h => h) (Or.inl ⟨by rfl, Ybg_⟩) Ya_ ?_
  refine pure_ (i := 3) (N := some 7) #[true, true, true, true, false, false, false, false, false, false, false] rfl rfl Ybb_ (fun _ _ _ h => h) (Or.inl ⟨by rfl, Ybg_⟩) Ya_ ?_
  refine pure_ (i := 4) (N := some 8) #[true, true, true, true, true, false, false, false, false, false, false] rfl rfl Ybb_ (fun _ _ _ h => h) (Or.inl ⟨by rfl, Ybg_⟩) Ya_ ?_
  refine pure_ (i := 6) (N := some 10) #[true, true, true, true, true, false, true, false, false, false, false] rfl rfl Ybb_ (fun _ _ _ h => h) (Or.inl ⟨by rfl, Ybg_⟩) Ya_ ?_
  refine take_ (i := 7) (N := some 11) #[true, true, true, true, true, false, true, true, false, false, false] rfl rfl Ybb_ (fun _ _ _ h => h) (Or.inl ⟨by rfl, (by intro w' s0; go_simp; with_reducible rfl)⟩) hHeld Ya_ ?_
  refine one_ (i := 5) (N := some 9) #[true, true, true, true, true, true, true, true, false, false, false] rfl rfl Ybb_ (by decide) (fun K hK => ?_)
  refine goes_ Try.func70 Ybb_ rfl #[.slice A s.length c] (by rfl) rfl rfl Yfa_ ?_
  with_reducible refine (impl_topOf.calls _ _ s (rd s ((s.length : Int) - 1)) _ (Kd.C_below HR.out HB.out) HC.out HTOP.out).mono ?_
  rintro e w3 ⟨rfl, hd_⟩
  refine ⟨_, rfl, ?_⟩
  have hb := Drawn0.below hd_
  clear hd_
  replace HX := Aside0.mk (blk_below HX.out hb)
  replace HB := Aside0.mk (below_step HB.out hb)
  clear hb
  refine hK.out _ _ ((blk_cell HX.out 1).trans rfl) (fun hHeld => ?_)
  clear hK K
  refine norm_ (show Act.put _ (some 9) _ = _ from Ya_) ?_
  refine pure_ (i := 8) (N := some 12) #[true, true, true, true, true, true, true, true, true, false, false] rfl rfl Ybb_ (fun _ _ _ h => h) (Or.inl ⟨by rfl, Ybg_⟩) Ya_ ?_
  refine pure_ (i := 9) (N := some 13) #[true, true, true, true, true, true, true, true, true, true, false] rfl rfl Ybb_ (fun _ _ _ h => h) (Or.inl ⟨by rfl, Ybg_⟩) Ya_ ?_
  refine pure_ (i := 10) (N := some 3) #[true, true, true, true, true, true, true, true, true, true, true] rfl rfl Ybb_ (fun _ _ _ h => h) (Or.inl ⟨by rfl, Ybg_⟩) Ya_ ?_
  refine done_ Ybb_ ?_
  (try go_wp2)
  go_ret
  exact ⟨by simp [topIs, C0.out], HB.out⟩
 ·have C0 := Aside0.mk c0
  have d0 : decide ((0 : Int) < (s.length : Int)) = false := decide_eq_false (by omega)
  have d1 : decide (0 < s.length) = false := decide_eq_false c0
  clear c0
  go_enter Try.func69, Try.ntmps69
  go_upto_region 1 with (fail)
  replace HX := Aside0.mk (blk_drew HX.out)
  replace HB := Aside0.mk (below_drew1 HB.out)
  refine start_ (n := 11) (S := fun w' => w'.cell? ⟨gx, 1, none⟩ = some (.int .i64 b)) (ds := []) #[false, false, false, false, false, false, false, false, false, false, false] Ybb_ rfl rfl ((blk_cell HX.out 1).trans rfl) (fun hHeld => ?_)
  generalize W.drew = w2 at HX HB hHeld ⊢
  refine pure_ (i := 0) (N := some 4) #[true, false, false, false, false, false, false, false, false, false, false] rfl rfl Ybb_ (fun _ _ _ h => h) (Or.inl ⟨by rfl, Ybg_⟩) Ya_ ?_
  refine pure_ (i := 1) (N := some 5) #[true, true, false, false, false, false, false, false, false, false, false] rfl rfl Ybb_ (fun _ _ _ h => h) (Or.inl ⟨by rfl, Ybg_⟩) Ya_ ?_
  refine pure_ (i := 2) (N := some 6) #[true, true, true, false, false, false, false, false, false, false, false] rfl rfl Ybb_ (fun _ _ _ h => h) (Or.inl ⟨by rfl, Ybg_⟩) Ya_ ?_
  refine pure_ (i := 3) (N := some 7) #[true, true, true, true, false, false, false, false, false, false, false] rfl rfl Ybb_ (fun _ _ _ h => h) (Or.inl ⟨by rfl, Ybg_⟩) Ya_ ?_
  refine pure_ (i := 4) (N := some 8) (v := undef) #[true, true, true, true, true, false, false, false, false, false, false] rfl rfl Ybb_ (fun _ _ _ h => h) (Or.inr ⟨by rfl, rfl⟩) Ya_ ?_
  refine pure_ (i := 5) (N := some 9) (v := undef) #[true, true, true, true, true, true, false, false, false, false, false] rfl rfl Ybb_ (fun _ _ _ h => h) (Or.inr ⟨by rfl, rfl⟩) Ya_ ?_
  refine pure_ (i := 6) (N := some 10) (v := undef) #[true, true, true, true, true, true, true, false, false, false, false] rfl rfl Ybb_ (fun _ _ _ h => h) (Or.inr ⟨by rfl, rfl⟩) Ya_ ?_
  refine pure_ (i := 7) (N := some 11) (v := undef) #[true, true, true, true, true, true, true, true, false, false, false] rfl rfl Ybb_ (fun _ _ _ h => h) (Or.inr ⟨by rfl, rfl⟩) Ya_ ?_
  refine pure_ (i := 8) (N := some 12) (v := undef) #[true, true, true, true, true, true, true, true, true, false, false] rfl rfl Ybb_ (fun _ _ _ h => h) (Or.inr ⟨by rfl, rfl⟩) Ya_ ?_
  refine pure_ (i := 9) (N := some 13) #[true, true, true, true, true, true, true, true, true, true, false] rfl rfl Ybb_ (fun _ _ _ h => h) (Or.inl ⟨by rfl, Ybg_⟩) Ya_ ?_
  refine pure_ (i := 10) (N := some 3) #[true, true, true, true, true, true, true, true, true, true, true] rfl rfl Ybb_ (fun _ _ _ h => h) (Or.inl ⟨by rfl, Ybg_⟩) Ya_ ?_
  refine done_ Ybb_ ?_
  (try go_wp2)
  go_ret
  exact ⟨by simp [topIs, C0.out], HB.out⟩
set_option maxHeartbeats 16000000 in
set_option maxRecDepth 100000 in
theorem impl_makeOrder.callsT (k : Nat) (A0_0 : Option Addr) (c0_0 : Nat) (l0_0 : List (List Int)) (a0_1 : Int) (A0_2 : Option Addr) (c0_2 : Nat) (l0_2 : List (List Int)) (a1_0 a1_1 a1_2 : Int) (r1 : List (List Int)) (r2 : Int) (r3 : List (List Int)) (r4 : Int) (r5 : Bool) (w : World) (hr0_0 : Kd.C (Kd.slice 3 (Kd.int .i64)) w A0_0 l0_0.length l0_0) (hc0_0 : l0_0.length ≤ c0_0) (hr0_2 : Kd.C (Kd.slice 3 (Kd.int .i64)) w A0_2 l0_2.length l0_2) (hc0_2 : l0_2.length ≤ c0_2) (h : impl_makeOrder.f k l0_0 a0_1 l0_2 a1_0 a1_1 a1_2 = some (r1, r2, r3, r4, r5)) :
  Calls Try.prog 50 #[.agg #[.slice A0_0 l0_0.length c0_0, .int .i64 a0_1, .slice A0_2 l0_2.length c0_2], .agg #[.int .i64 a1_0, .int .i64 a1_1, .int .i64 a1_2]] w fun e w' => ∃ v0_ v2_ : Value, e = .returned (.tuple #[.agg #[v0_, .int .i64 r2, v2_], .int .i64 r4, .bool r5]) ∧ Go.Proofs.YtnggfglmjdiaaaaOwn.TT 73 w' w.heap.size v0_ r1 v2_ r3 ∧ Below w.heap.size w w' := by
 have hu34 := Try.underlying34
 have hu43 := Try.underlying43
 have hu31 := Try.underlying31
 have hu32 := Try.underlying32
 have HR0_0 := Aside0.mk hr0_0
 have HC0_0 := Aside0.mk hc0_0
 clear hr0_0 hc0_0
 have HR0_2 := Aside0.mk hr0_2
 have HC0_2 := Aside0.mk hc0_2
 clear hr0_2 hc0_2
 have HB := Aside0.mk (Below.refl w.heap.size w)
 unfold impl_makeOrder.f at h
 replace h := Option.bind_eq_some_iff.mp h
 obtain ⟨⟨Y, hh, B⟩, a_, h⟩ := h
 have A1 := Aside0.mk a_
 clear a_
 dsimp only at h
 go_enter Try.func50, Try.ntmps50
 go_upto_region 2 with (first | ((with_reducible refine gate_dst (N := 2) rfl ?_); refine box_event (by rfl) (N := 2) (by rfl) (cs := #[.slice A0_0 l0_0.length c0_0, .int .i64 a0_1, .slice A0_2 l0_2.length c0_2]) (t := 34) Ybf_ ?_; intro gt hg w70 hbox hb; have GEgt := Aside0.mk (show w.heap.size ≤ gt by rw [hg]; exact below_size HB.out); have BKt := Aside0.mk hbox; replace HB := Aside0.mk (below_step HB.out hb); clear hb hbox hg; obtain ⟨hzgt_0, hzgt_1, hzgt_2⟩ := cl3_ BKt.out) | ((with_reducible refine gate_dst (N := 3) rfl ?_); refine box_event (by rfl) (N := 3) (by rfl) (cs := #[.int .i64 a1_0, .int .i64 a1_1, .int .i64 a1_2]) (t := 43) Ybf_ ?_; intro gx hg w71 hbox hb; (try clear hzgt_0); (try clear hzgt_1); (try clear hzgt_2); have NBgt_gx := Aside0.mk (show gt ≠ gx by rw [hg]; exact Nat.ne_of_lt (blk_lt BKt.out)); have GEgx := Aside0.mk (show w.heap.size ≤ gx by rw [hg]; exact below_size HB.out); have BKx := Aside0.mk hbox; replace BKt := Aside0.mk (blk_below BKt.out hb); replace HB := Aside0.mk (below_step HB.out hb); clear hb hbox hg; obtain ⟨hzgt_0, hzgt_1, hzgt_2⟩ := cl3_ BKt.out) | ((with_reducible refine gate_dst (N := 4) rfl ?_); refine box_event (by rfl) (N := 4) (by rfl) (cs := #[.slice none 0 0, .int .i64 0, .slice none 0 0]) (t := 34) Ybf_ ?_; intro gr hg w72 hbox hb; (try clear hzgt_0); (try clear hzgt_1); (try clear hzgt_2); have NBgt_gr := Aside0.mk (show gt ≠ gr by rw [hg]; exact Nat.ne_of_lt (blk_lt BKt.out)); have NBgx_gr := Aside0.mk (show gx ≠ gr by rw [hg]; exact Nat.ne_of_lt (blk_lt BKx.out)); have GEgr := Aside0.mk (show w.heap.size ≤ gr by rw [hg]; exact below_size HB.out); have BKr := Aside0.mk hbox; replace BKt := Aside0.mk (blk_below BKt.out hb); replace BKx := Aside0.mk (blk_below BKx.out hb); replace HB := Aside0.mk (below_step HB.out hb); clear hb hbox hg; obtain ⟨hzgt_0, hzgt_1, hzgt_2⟩ := cl3_ BKt.out) | (go_at_call 60; (with_reducible refine (impl_ownTerminal.calls2 k _ _ l0_0 a0_1 _ _ l0_2 Y hh B _ (Kd.C_below HR0_0.out HB.out) HC0_0.out (Kd.C_below HR0_2.out HB.out) HC0_2.out A1.out).mono ?_); rintro e w73 ⟨P_, v0_, v2_, rfl, ho0, ho1, hb⟩; (try clear hzgt_0); (try clear hzgt_1); (try clear hzgt_2); have ht_ := (Go.Proofs.YtnggfglmjdiaaaaOwn.TT.of2 ho0 ho1).lower (below_size HB.out); clear ho0 ho1; obtain ⟨nY, AY, cY, ey_, hn_⟩ := ht_.open_; subst ey_; clear hn_; obtain ⟨nB, AB, cB, eb_, hn_⟩ := ht_.swap.open_; subst eb_; clear hn_; replace BKt := Aside0.mk (blk_below BKt.out hb); replace BKx := Aside0.mk (blk_below BKx.out hb); replace BKr := Aside0.mk (blk_below BKr.out hb); replace HB := Aside0.mk (below_step HB.out hb); have HT := Aside0.mk ht_; clear ht_ hb; obtain ⟨hzgt_0, hzgt_1, hzgt_2⟩ := cl3_ BKt.out) | ((with_reducible refine gate_dst (N := 7) rfl ?_); refine box_event (by rfl) (N := 7) (by rfl) (cs := #[.slice none 0 0, .int .i64 0, .slice none 0 0]) (t := 34) Ybf_ ?_; intro go hg w74 hbox hb; (try clear hzgt_0); (try clear hzgt_1); (try clear hzgt_2); have NBgt_go := Aside0.mk (show gt ≠ go by rw [hg]; exact Nat.ne_of_lt (blk_lt BKt.out)); have NBgx_go := Aside0.mk (show gx ≠ go by rw [hg]; exact Nat.ne_of_lt (blk_lt BKx.out)); have NBgr_go := Aside0.mk (show gr ≠ go by rw [hg]; exact Nat.ne_of_lt (blk_lt BKr.out)); have GEgo := Aside0.mk (show w.heap.size ≤ go by rw [hg]; exact below_size HB.out); have BKo := Aside0.mk hbox; replace HT := Aside0.mk (HT.out.below hb); replace BKt := Aside0.mk (blk_below BKt.out hb); replace BKx := Aside0.mk (blk_below BKx.out hb); replace BKr := Aside0.mk (blk_below BKr.out hb); replace HB := Aside0.mk (below_step HB.out hb); clear hb hbox hg; obtain ⟨hzgt_0, hzgt_1, hzgt_2⟩ := cl3_ BKt.out) | ((with_reducible refine gate_store (t := 34) (p := 7) rfl ?_); refine Go.Proofs.YtnggfglmjdiaaaaOwn.sto3 (t := 34) (p := 7) (g := go) (w0 := w) Ybb_ rfl rfl rfl rfl (by rfl) BKo.out HB.out GEgo.out ?_; intro w75 hbx_ hB_ hO_; (try clear hzgt_0); (try clear hzgt_1); (try clear hzgt_2); replace HT := Aside0.mk (HT.out.only BKo.out (by decide) hO_); replace BKt := Aside0.mk ((hO_.others _ NBgt_go.out).trans BKt.out); replace BKx := Aside0.mk ((hO_.others _ NBgx_go.out).trans BKx.out); replace BKr := Aside0.mk ((hO_.others _ NBgr_go.out).trans BKr.out); clear BKo HB hO_; have BKo := Aside0.mk hbx_; have HB := Aside0.mk hB_; clear hbx_ hB_; obtain ⟨hzgt_0, hzgt_1, hzgt_2⟩ := cl3_ BKt.out))
 clear BKt
 (try clear hzgt_0)
 (try clear hzgt_1)
 (try clear hzgt_2)
 replace HT := Aside0.mk (HT.out.drew)
 replace BKx := Aside0.mk (blk_drew BKx.out)
 replace BKr := Aside0.mk (blk_drew BKr.out)
 replace BKo := Aside0.mk (blk_drew BKo.out)
 replace HB := Aside0.mk (below_drew1 HB.out)
 refine start_ (n := 8) (S := fun w' => w'.cell? ⟨go, 0, none⟩ = some (.slice AY nY cY) ∧ w'.cell? ⟨go, 1, none⟩ = some (.int .i64 hh) ∧ w'.cell? ⟨go, 2, none⟩ = some (.slice AB nB cB)) (ds := []) #[false, false, false, false, false, false, false, false] Ybb_ rfl rfl ⟨(blk_cell BKo.out 0).trans rfl, (blk_cell BKo.out 1).trans rfl, (blk_cell BKo.out 2).trans rfl⟩ (fun hHeld => ?_)
 generalize w75.drew = w76 at HT BKx BKr BKo HB hHeld ⊢
 refine pure_ (i := 0) (N := some 13) #[true, false, false, false, false, false, false, false] rfl rfl Ybb_ (fun _ _ _ h => h) (Or.inl ⟨by rfl, Yba_⟩) Ya_ ?_
 refine pure_ (i := 1) (N := some 14) #[true, true, false, false, false, false, false, false] rfl rfl Ybb_ (fun _ _ _ h => h) (Or.inl ⟨by rfl, Yba_⟩) Ya_ ?_
 refine pure_ (i := 3) (N := some 16) #[true, true, false, true, false, false, false, false] rfl rfl Ybb_ (fun _ _ _ h => h) (Or.inl ⟨by rfl, Yba_⟩) Ya_ ?_
 refine pure_ (i := 4) (N := some 17) #[true, true, false, true, true, false, false, false] rfl rfl Ybb_ (fun _ _ _ h => h) (Or.inl ⟨by rfl, Yba_⟩) Ya_ ?_
 refine take_ (i := 2) (N := some 15) #[true, true, true, true, true, false, false, false] rfl rfl Ybb_ (fun _ _ _ h => h) (Or.inl ⟨by rfl, Yci_⟩) hHeld Ya_ ?_
 refine pure_ (i := 6) (N := some 8) #[true, true, true, true, true, false, true, false] rfl rfl Ybb_ (fun _ _ _ h => h) (Or.inl ⟨by rfl, Yba_⟩) Ya_ ?_
 refine take_ (i := 5) (N := some 18) #[true, true, true, true, true, true, true, false] rfl rfl Ybb_ (fun _ _ _ h => h) (Or.inl ⟨by rfl, Yci_⟩) hHeld Ya_ ?_
 refine pure_ (i := 7) (N := some 9) #[true, true, true, true, true, true, true, true] rfl rfl Ybb_ (fun _ _ _ h => h) (Or.inl ⟨by rfl, Yba_⟩) Ya_ ?_
 refine done_ Ybb_ ?_
 obtain ⟨hzgx_0, hzgx_1, hzgx_2⟩ := cl3_ BKx.out
 obtain ⟨hzgo_0, hzgo_1, hzgo_2⟩ := cl3_ BKo.out
 by_cases k1 : a1_0 = 1
 ·rw [if_pos k1] at h
  subst k1
  by_cases cA : idxRow (topIs a1_1) Y < 0
  ·rw [if_pos cA] at h
   simp only [Option.some.injEq, Prod.mk.injEq] at h
   obtain ⟨rfl, rfl, rfl, rfl, rfl⟩ := h
   obtain ⟨at_, hat_⟩ : ∃ x : Int, idxRow (topIs a1_1) Y = x := ⟨_, rfl⟩
   rw [hat_] at cA
   have hn_ := HT.out.reads
   have callR_ := slices_IndexFunc_row.calls (p := topIs a1_1) (g := 69) (lb := #[.pointer (some ⟨gx, 0, none⟩)]) (enters_of Try.func69 Ybb_ rfl) AY cY Y _ hn_.2.2 (fun W_ A_ c_ s_ hW_ hC_ hc_ => (clo_mo.ok W_ A_ c_ s_ (blk_below BKx.out hW_) hC_ hc_).mono (fun e_ w_ h_ => ⟨h_.1, below_step hW_ h_.2⟩))
   rw [← hn_.1, hat_] at callR_
   have CALLR := Aside0.mk callR_
   clear callR_ hn_
   clear hat_
   have cb1 : decide (at_ < 0) = true := decide_eq_true cA
   clear cA
   clear BKo
   clear HT
   go_wp2_with (first | (go_at_call 68; (with_reducible refine (CALLR.out).mono ?_); rintro e w77 ⟨rfl, hb⟩; (try clear hzgo_0); (try clear hzgo_1); (try clear hzgo_2); (try clear hzgx_0); (try clear hzgx_1); (try clear hzgx_2); replace BKx := Aside0.mk (blk_below BKx.out hb); replace BKr := Aside0.mk (blk_below BKr.out hb); replace HB := Aside0.mk (below_step HB.out hb); clear hb; obtain ⟨hzgx_0, hzgx_1, hzgx_2⟩ := cl3_ BKx.out) | ((with_reducible refine gate_store (t := 34) (p := 4) rfl ?_); refine Go.Proofs.YtnggfglmjdiaaaaOwn.sto3 (t := 34) (p := 4) (g := gr) (w0 := w) Ybb_ rfl rfl rfl rfl (by rfl) BKr.out HB.out GEgr.out ?_; intro w78 hbx_ hB_ hO_; (try clear hzgx_0); (try clear hzgx_1); (try clear hzgx_2); clear BKr HB hO_; have BKr := Aside0.mk hbx_; have HB := Aside0.mk hB_; clear hbx_ hB_))
   refine bodyPost_ret (Di rfl _ _ gr 34 #[.slice none 0 0, .int .i64 0, .slice none 0 0] (0, 0) _ rfl BKr.out Try.underlying34 rfl Ybb_) rfl ?_
   exact ⟨_, _, rfl, Go.Proofs.YtnggfglmjdiaaaaOwn.TT.nil _ _ _, HB.out⟩
  ·rw [if_neg cA] at h
   obtain ⟨at_, hat_, hge_, hlt_, htop_⟩ := idxRow_int (topIs a1_1) Y cA
   clear cA
   have hn_ := HT.out.reads
   have callR_ := slices_IndexFunc_row.calls (p := topIs a1_1) (g := 69) (lb := #[.pointer (some ⟨gx, 0, none⟩)]) (enters_of Try.func69 Ybb_ rfl) AY cY Y _ hn_.2.2 (fun W_ A_ c_ s_ hW_ hC_ hc_ => (clo_mo.ok W_ A_ c_ s_ (blk_below BKx.out hW_) hC_ hc_).mono (fun e_ w_ h_ => ⟨h_.1, below_step hW_ h_.2⟩))
   rw [← hn_.1, hat_] at callR_
   have CALLR := Aside0.mk callR_
   clear callR_ hn_
   rw [hat_] at h
   clear hat_
   have cb1 : decide (at_ < 0) = false := decide_eq_false (by omega)
   have Pat_ := Aside0.mk (show 0 ≤ at_ ∧ at_ < (nY : Int) from ⟨hge_, by have := HT.out.reads.1; omega⟩)
   have HTOP := Aside0.mk htop_
   clear hge_ hlt_ htop_
   have hwn_ : wrap64 ((nY : Int) - 1) = (nY : Int) - 1 := by have h1_ := HT.out.reads; have h2_ := h1_.2.2.2.1; have h3_ := h1_.1; unfold wrap64; omega
   have HWI := Aside0.mk (show Bz.f a1_2 0 ((nY : Int) - 1) = some (inRows Y a1_2) from by rw [HT.out.reads.1]; exact Gh _ _ _)
   cases cW : inRows Y a1_2 with
   | false =>
    rw [cW] at HWI
    rw [cW, if_neg (by decide)] at h
    simp only [Option.some.injEq, Prod.mk.injEq] at h
    obtain ⟨rfl, rfl, rfl, rfl, rfl⟩ := h
    clear BKo
    clear HT
    go_wp2_with (first | (go_at_call 68; (with_reducible refine (CALLR.out).mono ?_); rintro e w79 ⟨rfl, hb⟩; (try clear hzgo_0); (try clear hzgo_1); (try clear hzgo_2); (try clear hzgx_0); (try clear hzgx_1); (try clear hzgx_2); replace BKx := Aside0.mk (blk_below BKx.out hb); replace BKr := Aside0.mk (blk_below BKr.out hb); replace HB := Aside0.mk (below_step HB.out hb); clear hb; obtain ⟨hzgx_0, hzgx_1, hzgx_2⟩ := cl3_ BKx.out) | (go_at_call 65; (with_reducible refine (Bz.calls a1_2 0 ((nY : Int) - 1) false _ HWI.out).mono ?_); rintro e w80 ⟨rfl, hd_⟩; (try clear hzgx_0); (try clear hzgx_1); (try clear hzgx_2); have hb := Drawn0.below hd_; clear hd_; replace BKx := Aside0.mk (blk_below BKx.out hb); replace BKr := Aside0.mk (blk_below BKr.out hb); replace HB := Aside0.mk (below_step HB.out hb); clear hb; obtain ⟨hzgx_0, hzgx_1, hzgx_2⟩ := cl3_ BKx.out) | ((with_reducible refine gate_store (t := 34) (p := 4) rfl ?_); refine Go.Proofs.YtnggfglmjdiaaaaOwn.sto3 (t := 34) (p := 4) (g := gr) (w0 := w) Ybb_ rfl rfl rfl rfl (by rfl) BKr.out HB.out GEgr.out ?_; intro w81 hbx_ hB_ hO_; (try clear hzgx_0); (try clear hzgx_1); (try clear hzgx_2); clear BKr HB hO_; have BKr := Aside0.mk hbx_; have HB := Aside0.mk hB_; clear hbx_ hB_))
    refine bodyPost_ret (Di rfl _ _ gr 34 #[.slice none 0 0, .int .i64 0, .slice none 0 0] (0, 0) _ rfl BKr.out Try.underlying34 rfl Ybb_) rfl ?_
    exact ⟨_, _, rfl, Go.Proofs.YtnggfglmjdiaaaaOwn.TT.nil _ _ _, HB.out⟩
   | true =>
    rw [cW] at HWI
    rw [cW, if_pos rfl] at h
    have Pa1_2 := Aside0.mk (show 0 ≤ a1_2 ∧ a1_2 < (nY : Int) from by have h1_ := inRows_lt cW; have h2_ := HT.out.reads.1; omega)
    clear cW
    by_cases cT : a1_2 = at_
    ·rw [if_pos cT] at h
     simp only [Option.some.injEq, Prod.mk.injEq] at h
     obtain ⟨rfl, rfl, rfl, rfl, rfl⟩ := h
     have cb2 : (a1_2 == at_) = true := by simp [cT]
     have cb3 : decide (a1_2 = at_) = true := decide_eq_true cT
     clear cT
     clear BKo
     clear HT
     go_wp2_with (first | (go_at_call 68; (with_reducible refine (CALLR.out).mono ?_); rintro e w82 ⟨rfl, hb⟩; (try clear hzgo_0); (try clear hzgo_1); (try clear hzgo_2); (try clear hzgx_0); (try clear hzgx_1); (try clear hzgx_2); replace BKx := Aside0.mk (blk_below BKx.out hb); replace BKr := Aside0.mk (blk_below BKr.out hb); replace HB := Aside0.mk (below_step HB.out hb); clear hb; obtain ⟨hzgx_0, hzgx_1, hzgx_2⟩ := cl3_ BKx.out) | (go_at_call 65; (with_reducible refine (Bz.calls a1_2 0 ((nY : Int) - 1) true _ HWI.out).mono ?_); rintro e w83 ⟨rfl, hd_⟩; (try clear hzgx_0); (try clear hzgx_1); (try clear hzgx_2); have hb := Drawn0.below hd_; clear hd_; replace BKx := Aside0.mk (blk_below BKx.out hb); replace BKr := Aside0.mk (blk_below BKr.out hb); replace HB := Aside0.mk (below_step HB.out hb); clear hb; obtain ⟨hzgx_0, hzgx_1, hzgx_2⟩ := cl3_ BKx.out) | ((with_reducible refine gate_store (t := 34) (p := 4) rfl ?_); refine Go.Proofs.YtnggfglmjdiaaaaOwn.sto3 (t := 34) (p := 4) (g := gr) (w0 := w) Ybb_ rfl rfl rfl rfl (by rfl) BKr.out HB.out GEgr.out ?_; intro w84 hbx_ hB_ hO_; (try clear hzgx_0); (try clear hzgx_1); (try clear hzgx_2); clear BKr HB hO_; have BKr := Aside0.mk hbx_; have HB := Aside0.mk hB_; clear hbx_ hB_))
     refine bodyPost_ret (Di rfl _ _ gr 34 #[.slice none 0 0, .int .i64 0, .slice none 0 0] (0, 0) _ rfl BKr.out Try.underlying34 rfl Ybb_) rfl ?_
     exact ⟨_, _, rfl, Go.Proofs.YtnggfglmjdiaaaaOwn.TT.nil _ _ _, HB.out⟩
    ·rw [if_neg cT] at h
     have cb2 : (a1_2 == at_) = false := by simp [cT]
     have cb3 : decide (a1_2 = at_) = false := decide_eq_false cT
     clear cT
     obtain ⟨sF, hsF⟩ : ∃ z, z = rd_L1 Y at_ := ⟨_, rfl⟩
     rw [← hsF] at HTOP
     have HSsF := Aside0.mk hsF
     have hpos_ := topIs_pos HTOP.out
     obtain ⟨mF, hmF⟩ : ∃ z : Nat, z = sF.length - 1 := ⟨_, rfl⟩
     have HMmF := Aside0.mk (show mF ≤ sF.length from by omega)
     have HMF := Aside0.mk (show (sF.length : Int) - 1 = (mF : Int) from by omega)
     obtain ⟨lF, hlF⟩ : ∃ z, z = cutRow Y at_ := ⟨_, rfl⟩
     have HLlF := Aside0.mk (show lF = Y.set (at_).toNat ((Y.getD (at_).toNat []).take mF) from by rw [hlF, hmF, hsF]; rfl)
     rw [← hlF] at h
     clear hlF hmF hsF
     obtain ⟨sG, hsG⟩ : ∃ z, z = rd_L1 lF a1_2 := ⟨_, rfl⟩
     rw [← hsG] at h
     have HSsG := Aside0.mk hsG
     by_cases cL : sG.length < 17592186044415
     ·rw [if_pos cL] at h
      have HLsG := Aside0.mk cL
      clear cL
      obtain ⟨sH, hsH⟩ : ∃ z, z = sG ++ [a1_1] := ⟨_, rfl⟩
      have HSsH := Aside0.mk hsH
      obtain ⟨lG, hlG⟩ : ∃ z, z = putRow lF a1_2 a1_1 := ⟨_, rfl⟩
      have HLlG := Aside0.mk (show lG = lF.set (a1_2).toNat sH from by rw [hlG, hsH, hsG]; rfl)
      rw [← hlG] at h
      clear hlG hsH hsG
      replace h := Option.bind_eq_some_iff.mp h
      obtain ⟨vv, a_, h⟩ := h
      have A2 := Aside0.mk a_
      clear a_
      go_upto_region 13 with (first | (go_at_call 68; (with_reducible refine (CALLR.out).mono ?_); rintro e w85 ⟨rfl, hb⟩; (try clear hzgo_0); (try clear hzgo_1); (try clear hzgo_2); (try clear hzgx_0); (try clear hzgx_1); (try clear hzgx_2); replace HT := Aside0.mk (HT.out.below hb); replace BKx := Aside0.mk (blk_below BKx.out hb); replace BKr := Aside0.mk (blk_below BKr.out hb); replace BKo := Aside0.mk (blk_below BKo.out hb); replace HB := Aside0.mk (below_step HB.out hb); clear hb; obtain ⟨hzgx_0, hzgx_1, hzgx_2⟩ := cl3_ BKx.out) | (go_at_call 65; (with_reducible refine (Bz.calls a1_2 0 ((nY : Int) - 1) true _ HWI.out).mono ?_); rintro e w86 ⟨rfl, hd_⟩; (try clear hzgx_0); (try clear hzgx_1); (try clear hzgx_2); have hb := Drawn0.below hd_; clear hd_; replace HT := Aside0.mk (HT.out.below hb); replace BKx := Aside0.mk (blk_below BKx.out hb); replace BKr := Aside0.mk (blk_below BKr.out hb); replace BKo := Aside0.mk (blk_below BKo.out hb); replace HB := Aside0.mk (below_step HB.out hb); clear hb; obtain ⟨hzgx_0, hzgx_1, hzgx_2⟩ := cl3_ BKx.out))
      clear hwn_ HWI CALLR
      (try clear hzgx_0)
      (try clear hzgx_1)
      (try clear hzgx_2)
      obtain ⟨gY_, eg_, gb_, gl_⟩ := HT.out.form Yff_
      have GEY := Aside0.mk gb_
      clear gb_ gl_
      subst eg_
      obtain ⟨AsF, csF, hv_, hc_, hC_, hf_⟩ := Go.Proofs.YtnggfglmjdiaaaaOwn.TT.elem HT.out (i := at_) Pat_.out.1 Yff_
      have e_ : (Y.getD (at_).toNat []) = sF := HSsF.out.symm
      rw [e_] at hv_ hc_ hC_
      clear e_
      have HVsF := Aside0.mk hv_
      have HCsF := Aside0.mk hc_
      have HRsF := Aside0.mk hC_
      have HFsF := Aside0.mk hf_
      clear hv_ hc_ hC_ hf_
      have NXY_gx := Aside0.mk (Go.Proofs.YtnggfglmjdiaaaaOwn.TT.ne HT.out BKx.out (by decide))
      have NXY_gr := Aside0.mk (Go.Proofs.YtnggfglmjdiaaaaOwn.TT.ne HT.out BKr.out (by decide))
      have NXY_go := Aside0.mk (Go.Proofs.YtnggfglmjdiaaaaOwn.TT.ne HT.out BKo.out (by decide))
      have p_at_ : 0 ≤ at_ := Pat_.out.1
      have q_at_ : at_ < (nY : Int) := Pat_.out.2
      replace p_at_ := eq_true p_at_
      replace q_at_ := eq_true q_at_
      obtain ⟨i0_, hi0_, _, hsz0_, _⟩ := info_parts info3
      have hcut_ := cut_to (P := Try.prog) 73 3 .i64 Try.underlying73 hi0_ AsF sF.length csF (mF : Int) (by omega) (by have := HMmF.out; omega) HCsF.out
      simp only [Int.toNat_natCast] at hcut_
      have hwl_ : wrap64 ((sF.length : Int) - 1) = (mF : Int) := by have h1_ := HMF.out; have h2_ := HRsF.out.2.1; unfold wrap64; omega
      replace HT := Aside0.mk (HT.out.drew)
      replace BKx := Aside0.mk (blk_drew BKx.out)
      replace BKr := Aside0.mk (blk_drew BKr.out)
      replace BKo := Aside0.mk (blk_drew BKo.out)
      replace HB := Aside0.mk (below_drew1 HB.out)
      replace HVsF := Aside0.mk ((show (w86.drew).cell? ⟨gY_, (at_).toNat, none⟩ = some (.slice AsF sF.length csF) from HVsF.out))
      replace HFsF := Aside0.mk ((show (w86.drew).frozen? ⟨gY_, (at_).toNat, none⟩ = false from HFsF.out))
      refine start_ (n := 15) (S := fun w' => w'.cell? ⟨gY_, (at_).toNat, none⟩ = some (.slice AsF sF.length csF)) (ds := [14]) #[false, false, false, false, false, false, false, false, false, false, false, false, false, false, false] Ybb_ rfl rfl (HVsF.out) (fun hHeld => ?_)
      generalize w86.drew = w87 at HT BKx BKr BKo HB HVsF HFsF hHeld ⊢
      refine pure_ (i := 0) (N := some 60) #[true, false, false, false, false, false, false, false, false, false, false, false, false, false, false] rfl rfl Ybb_ (fun _ _ _ h => h) (Or.inl ⟨by rfl, Yba_⟩) Ya_ ?_
      refine pure_ (i := 1) (N := some 61) #[true, true, false, false, false, false, false, false, false, false, false, false, false, false, false] rfl rfl Ybb_ (fun _ _ _ h => h) (Or.inl ⟨by rfl, Yba_⟩) Ya_ ?_
      refine pure_ (i := 2) (N := some 62) #[true, true, true, false, false, false, false, false, false, false, false, false, false, false, false] rfl rfl Ybb_ (fun _ _ _ h => h) (Or.inl ⟨by rfl, Yba_⟩) Ya_ ?_
      refine pure_ (i := 3) (N := some 63) #[true, true, true, true, false, false, false, false, false, false, false, false, false, false, false] rfl rfl Ybb_ (fun _ _ _ h => h) (Or.inl ⟨by rfl, Yba_⟩) Ya_ ?_
      refine pure_ (i := 4) (N := some 64) #[true, true, true, true, true, false, false, false, false, false, false, false, false, false, false] rfl rfl Ybb_ (fun _ _ _ h => h) (Or.inl ⟨by rfl, Yba_⟩) Ya_ ?_
      refine pure_ (i := 6) (N := some 66) #[true, true, true, true, true, false, true, false, false, false, false, false, false, false, false] rfl rfl Ybb_ (fun _ _ _ h => h) (Or.inl ⟨by rfl, Yba_⟩) Ya_ ?_
      refine pure_ (i := 7) (N := some 67) #[true, true, true, true, true, false, true, true, false, false, false, false, false, false, false] rfl rfl Ybb_ (fun _ _ _ h => h) (Or.inl ⟨by rfl, Yba_⟩) Ya_ ?_
      refine pure_ (i := 8) (N := some 68) #[true, true, true, true, true, false, true, true, true, false, false, false, false, false, false] rfl rfl Ybb_ (fun _ _ _ h => h) (Or.inl ⟨by rfl, Yba_⟩) Ya_ ?_
      refine take_ (i := 5) (N := some 65) #[true, true, true, true, true, true, true, true, true, false, false, false, false, false, false] rfl rfl Ybb_ (fun _ _ _ h => h) (Or.inl ⟨by rfl, Yfg_⟩) hHeld Ya_ ?_
      refine take_ (i := 9) (N := some 69) #[true, true, true, true, true, true, true, true, true, true, false, false, false, false, false] rfl rfl Ybb_ (fun _ _ _ h => h) (Or.inl ⟨by rfl, Yfg_⟩) hHeld Ya_ ?_
      refine pure_ (i := 10) (N := some 70) #[true, true, true, true, true, true, true, true, true, true, true, false, false, false, false] rfl rfl Ybb_ (fun _ _ _ h => h) (Or.inl ⟨by rfl, Yba_⟩) Ya_ ?_
      refine pure_ (i := 11) (N := some 71) #[true, true, true, true, true, true, true, true, true, true, true, true, false, false, false] rfl rfl Ybb_ (fun _ _ _ h => h) (Or.inl ⟨by rfl, Yba_⟩) Ya_ ?_
      refine pure_ (i := 12) (N := some 72) #[true, true, true, true, true, true, true, true, true, true, true, true, true, false, false] rfl rfl Ybb_ (fun _ _ _ h => h) (Or.inl ⟨by rfl, Yba_⟩) Ya_ ?_
      refine pure_ (i := 13) (N := some 73) #[true, true, true, true, true, true, true, true, true, true, true, true, true, true, false] rfl rfl Ybb_ (fun _ _ _ h => h) (Or.inl ⟨by rfl, Yba_⟩) Ya_ ?_
      refine last_ (i := 14) (N := none) #[true, true, true, true, true, true, true, true, true, true, true, true, true, true, true] rfl rfl Ybb_ (by decide) (fun K hK => ?_)
      have hv_ := HVsF.out
      have hf_ := HFsF.out
      refine Go.Proofs.YtnggfglmjdiaaaaOwn.F6 (w1 := (w87.setCell ⟨gY_, (at_).toNat, none⟩ (.slice AsF mF csF))) (by rfl) rfl ?_ ?_
      ·first | (go_simp; done) | (go_simp; rfl)
      intro w88 hw
      clear hv_ hf_
      have hO_ : Go.Proofs.YtnggfglmjdiaaaaOwn.Only w87 w88 gY_ := Ycj_
      have ht_ := (Go.Proofs.YtnggfglmjdiaaaaOwn.TT.cut HT.out Pat_.out.1 Yff_ HVsF.out (by rw [show (Y.getD (at_).toNat []) = sF from HSsF.out.symm]; exact HMmF.out)).1
      rw [← hw] at ht_
      clear HT
      have HT := Aside0.mk ht_
      clear ht_ hw
      replace BKx := Aside0.mk ((hO_.others _ NXY_gx.out).trans BKx.out)
      replace BKr := Aside0.mk ((hO_.others _ NXY_gr.out).trans BKr.out)
      replace BKo := Aside0.mk ((hO_.others _ NXY_go.out).trans BKo.out)
      replace HB := Aside0.mk (hO_.below HB.out GEY.out)
      clear hO_
      clear NXY_gx
      clear NXY_gr
      clear NXY_go
      rw [show Y.set (at_).toNat ((Y.getD (at_).toNat []).take mF) = lF from HLlF.out.symm] at HT
      refine hK.out _ _ ?_
      clear hK K
      refine done_ Ybb_ ?_
      clear p_at_ q_at_ HVsF HFsF HCsF HRsF
      clear hcut_ hwl_ hi0_ hsz0_ HMF HMmF HTOP
      go_upto_region 14 with (fail)
      obtain ⟨gY_, eg_, gb_, gl_⟩ := HT.out.form Ydi_
      have GEY := Aside0.mk gb_
      clear gb_ gl_
      obtain rfl := (Addr.mk.inj (Option.some.inj eg_)).1
      clear eg_
      obtain ⟨AsG, csG, hv_, hc_, hC_, hf_⟩ := Go.Proofs.YtnggfglmjdiaaaaOwn.TT.elem HT.out (i := a1_2) Pa1_2.out.1 Ydi_
      have e_ : (lF.getD (a1_2).toNat []) = sG := HSsG.out.symm
      rw [e_] at hv_ hc_ hC_
      clear e_
      have HVsG := Aside0.mk hv_
      have HCsG := Aside0.mk hc_
      have HRsG := Aside0.mk hC_
      have HFsG := Aside0.mk hf_
      clear hv_ hc_ hC_ hf_
      have NXY_gx := Aside0.mk (Go.Proofs.YtnggfglmjdiaaaaOwn.TT.ne HT.out BKx.out (by decide))
      have NXY_gr := Aside0.mk (Go.Proofs.YtnggfglmjdiaaaaOwn.TT.ne HT.out BKr.out (by decide))
      have NXY_go := Aside0.mk (Go.Proofs.YtnggfglmjdiaaaaOwn.TT.ne HT.out BKo.out (by decide))
      have p_a1_2 : 0 ≤ a1_2 := Pa1_2.out.1
      have q_a1_2 : a1_2 < (nY : Int) := Pa1_2.out.2
      replace p_a1_2 := eq_true p_a1_2
      replace q_a1_2 := eq_true q_a1_2
      replace HT := Aside0.mk (HT.out.drew)
      replace BKx := Aside0.mk (blk_drew BKx.out)
      replace BKr := Aside0.mk (blk_drew BKr.out)
      replace BKo := Aside0.mk (blk_drew BKo.out)
      replace HB := Aside0.mk (below_drew1 HB.out)
      replace HVsG := Aside0.mk ((show (w88.drew).cell? ⟨gY_, (a1_2).toNat, none⟩ = some (.slice AsG sG.length csG) from HVsG.out))
      replace HFsG := Aside0.mk ((show (w88.drew).frozen? ⟨gY_, (a1_2).toNat, none⟩ = false from HFsG.out))
      refine start_ (n := 14) (S := fun w' => w'.cell? ⟨gY_, (a1_2).toNat, none⟩ = some (.slice AsG sG.length csG) ∧ w'.cell? ⟨gx, 1, none⟩ = some (.int .i64 a1_1) ∧ w'.cell? ⟨gx, 2, none⟩ = some (.int .i64 a1_2)) (ds := [13]) #[false, false, false, false, false, false, false, false, false, false, false, false, false, false] Ybb_ rfl rfl ⟨HVsG.out, (blk_cell BKx.out 1).trans rfl, (blk_cell BKx.out 2).trans rfl⟩ (fun hHeld => ?_)
      generalize w88.drew = w89 at HT BKx BKr BKo HB HVsG HFsG hHeld ⊢
      refine pure_ (i := 0) (N := some 74) #[true, false, false, false, false, false, false, false, false, false, false, false, false, false] rfl rfl Ybb_ (fun _ _ _ h => h) (Or.inl ⟨by rfl, Yba_⟩) Ya_ ?_
      refine pure_ (i := 1) (N := some 75) #[true, true, false, false, false, false, false, false, false, false, false, false, false, false] rfl rfl Ybb_ (fun _ _ _ h => h) (Or.inl ⟨by rfl, Yba_⟩) Ya_ ?_
      refine pure_ (i := 3) (N := some 77) #[true, true, false, true, false, false, false, false, false, false, false, false, false, false] rfl rfl Ybb_ (fun _ _ _ h => h) (Or.inl ⟨by rfl, Yba_⟩) Ya_ ?_
      refine pure_ (i := 4) (N := some 78) #[true, true, false, true, true, false, false, false, false, false, false, false, false, false] rfl rfl Ybb_ (fun _ _ _ h => h) (Or.inl ⟨by rfl, Yba_⟩) Ya_ ?_
      refine pure_ (i := 8) (N := some 82) #[true, true, false, true, true, false, false, false, true, false, false, false, false, false] rfl rfl Ybb_ (fun _ _ _ h => h) (Or.inl ⟨by rfl, Yba_⟩) Ya_ ?_
      refine take_ (i := 2) (N := some 76) #[true, true, true, true, true, false, false, false, true, false, false, false, false, false] rfl rfl Ybb_ (fun _ _ _ h => h) (Or.inl ⟨by rfl, Yci_⟩) hHeld Ya_ ?_
      refine take_ (i := 5) (N := some 79) #[true, true, true, true, true, true, false, false, true, false, false, false, false, false] rfl rfl Ybb_ (fun _ _ _ h => h) (Or.inl ⟨by rfl, Yci_⟩) hHeld Ya_ ?_
      refine pure_ (i := 6) (N := some 80) #[true, true, true, true, true, true, true, false, true, false, false, false, false, false] rfl rfl Ybb_ (fun _ _ _ h => h) (Or.inl ⟨by rfl, Yba_⟩) Ya_ ?_
      refine take_ (i := 7) (N := some 81) #[true, true, true, true, true, true, true, true, true, false, false, false, false, false] rfl rfl Ybb_ (fun _ _ _ h => h) (Or.inl ⟨by rfl, Yci_⟩) hHeld Ya_ ?_
      refine take_ (i := 9) (N := some 83) #[true, true, true, true, true, true, true, true, true, true, false, false, false, false] rfl rfl Ybb_ (fun _ _ _ h => h) (Or.inl ⟨by rfl, Yci_⟩) hHeld Ya_ ?_
      refine one_ (i := 10) (N := some 84) #[true, true, true, true, true, true, true, true, true, true, true, false, false, false] rfl rfl Ybb_ (by decide) (fun K hK => ?_)
      refine value_ (w1 := ?_) (v := ?_) (by rfl) rfl ?_ ?_
      rotate_left 2
      ·go_simp
       constructor
       ·rfl
       ·rfl
      refine hK.out _ _ ⟨(World.cell?_alloc_lt _ _ _ (World.block_lt_of_cell? _ _ HVsG.out)).trans HVsG.out, (blk_cell (blk_alloc BKx.out _) 1).trans rfl, (blk_cell (blk_alloc BKx.out _) 2).trans rfl⟩ (fun hHeld => ?_)
      clear hK K
      refine norm_ (show Act.put _ (some 84) _ = _ from Ya_) ?_
      refine one_ (i := 11) (N := some 85) #[true, true, true, true, true, true, true, true, true, true, true, true, false, false] rfl rfl Ybb_ (by decide) (fun K hK => ?_)
      obtain ⟨oksG, v_, hv_, hR_, hfr_, hst_, hbk_⟩ := Go.Proofs.YtnggfglmjdiaaaaOwn.TT.lend HT.out (i := a1_2) Pa1_2.out.1 Ydi_
      obtain rfl : v_ = .slice AsG sG.length csG := Option.some.inj (hv_.symm.trans HVsG.out)
      rw [show (lF.getD (a1_2).toNat []) = sG from HSsG.out.symm] at hR_
      have HGsG := Aside0.mk hR_
      have HFRsG := Aside0.mk hfr_
      have HSTsG := Aside0.mk hst_
      have HKsG := Aside0.mk hbk_
      clear hv_ hR_ hfr_ hst_ hbk_
      refine Kd.Gm (w0 := w) (Kd.int .i64) w.heap.size (by rfl) (.tmp 81) (.tmp 84) 73 3 (.int .i64 0) 8 rfl Try.underlying73 info3 rfl (by decide) (by omega) (.slice AsG sG.length csG) sG a1_1 [.int .i64 a1_1] oksG (fun _ => False) rfl rfl ?aP (fun _ hk => hk.elim) ?aF ?aO ?aB ?aS ?aL ?_
      (case aP => exact rfl)
      (case aF => exact HFRsG.out)
      (case aO => exact HGsG.out)
      (case aB => exact HB.out)
      (case aS => exact below_size HB.out)
      (case aL => have := HLsG.out; omega)
      intro v_ w90 ho hb hg hat
      rw [← HSsH.out] at ho
      have hk_ := (HKsG.out _ _ _ _ hg ho hat).1
      obtain ⟨AsH, csH, ev_⟩ := Kd.Dc ho
      subst ev_
      have HT2 := Aside0.mk hk_
      clear hk_ HT
      obtain ⟨hv_, hf_⟩ := HSTsG.out _ hg
      clear HVsG HFsG
      have HVsG := Aside0.mk hv_
      have HFsG := Aside0.mk hf_
      clear hv_ hf_
      replace BKx := Aside0.mk (C9 BKx.out hg (Kd.R_ne HGsG.out BKx.out (by decide)))
      replace BKr := Aside0.mk (C9 BKr.out hg (Kd.R_ne HGsG.out BKr.out (by decide)))
      replace BKo := Aside0.mk (C9 BKo.out hg (Kd.R_ne HGsG.out BKo.out (by decide)))
      clear HB
      have HB := Aside0.mk hb
      clear hb hg hat ho HFRsG HSTsG HKsG HGsG
      refine hK.out _ _ ⟨HVsG.out, (blk_cell BKx.out 1).trans rfl, (blk_cell BKx.out 2).trans rfl⟩ (fun hHeld => ?_)
      clear hK K
      refine norm_ (show Act.put _ (some 85) _ = _ from Ya_) ?_
      refine pure_ (i := 12) (N := some 86) #[true, true, true, true, true, true, true, true, true, true, true, true, true, false] rfl rfl Ybb_ (fun _ _ _ h => h) (Or.inl ⟨by rfl, Yba_⟩) Ya_ ?_
      refine last_ (i := 13) (N := none) #[true, true, true, true, true, true, true, true, true, true, true, true, true, true] rfl rfl Ybb_ (by decide) (fun K hK => ?_)
      have hv_ := HVsG.out
      have hf_ := HFsG.out
      refine Go.Proofs.YtnggfglmjdiaaaaOwn.F6 (w1 := (w90.setCell ⟨gY_, (a1_2).toNat, none⟩ (.slice AsH sH.length csH))) (by rfl) rfl ?_ ?_
      ·first | (go_simp; done) | (go_simp; rfl)
      intro w91 hw
      clear hv_ hf_
      have HT := HT2
      clear HT2
      have hO_ : Go.Proofs.YtnggfglmjdiaaaaOwn.Only w90 w91 gY_ := Ycj_
      have ht_ := HT.out
      rw [← hw] at ht_
      clear HT
      have HT := Aside0.mk ht_
      clear ht_ hw
      replace BKx := Aside0.mk ((hO_.others _ NXY_gx.out).trans BKx.out)
      replace BKr := Aside0.mk ((hO_.others _ NXY_gr.out).trans BKr.out)
      replace BKo := Aside0.mk ((hO_.others _ NXY_go.out).trans BKo.out)
      replace HB := Aside0.mk (hO_.below HB.out GEY.out)
      clear hO_
      clear NXY_gx
      clear NXY_gr
      clear NXY_go
      rw [show lF.set (a1_2).toNat sH = lG from HLlG.out.symm] at HT
      refine hK.out _ _ ?_
      clear hK K
      refine done_ Ybb_ ?_
      clear p_a1_2 q_a1_2 HVsG HFsG HCsG HRsG
      have hy_ := HT.out.reads
      have hb_ := HT.out.swap.reads
      have call_ := impl_IsValidTerminal.calls k (some ⟨gY_, 0, none⟩) cY lG hh AB cB B vv _ hy_.2.2 (hy_.1 ▸ hy_.2.1) hb_.2.2 (hb_.1 ▸ hb_.2.1) A2.out
      rw [← hy_.1, ← hb_.1] at call_
      have CALLV := Aside0.mk call_
      clear call_ hy_ hb_
      clear BKx
      obtain ⟨hzgo_0, hzgo_1, hzgo_2⟩ := cl3_ BKo.out
      cases vv with
      | false =>
       simp only [moAnswer, Bool.false_eq_true, if_false] at h
       simp only [Option.some.injEq, Prod.mk.injEq] at h
       obtain ⟨rfl, rfl, rfl, rfl, rfl⟩ := h
       clear BKo
       clear HT
       go_wp2_with (first | (go_at_call 13; (with_reducible refine (CALLV.out).mono ?_); rintro e w92 ⟨rfl, hb⟩; (try clear hzgo_0); (try clear hzgo_1); (try clear hzgo_2); replace BKr := Aside0.mk (blk_below BKr.out hb); replace HB := Aside0.mk (below_step HB.out hb); clear hb) | ((with_reducible refine gate_store (t := 34) (p := 4) rfl ?_); refine Go.Proofs.YtnggfglmjdiaaaaOwn.sto3 (t := 34) (p := 4) (g := gr) (w0 := w) Ybb_ rfl rfl rfl rfl (by rfl) BKr.out HB.out GEgr.out ?_; intro w93 hbx_ hB_ hO_; clear BKr HB hO_; have BKr := Aside0.mk hbx_; have HB := Aside0.mk hB_; clear hbx_ hB_))
       refine bodyPost_ret (Di rfl _ _ gr 34 #[.slice none 0 0, .int .i64 0, .slice none 0 0] (0, 0) _ rfl BKr.out Try.underlying34 rfl Ybb_) rfl ?_
       exact ⟨_, _, rfl, Go.Proofs.YtnggfglmjdiaaaaOwn.TT.nil _ _ _, HB.out⟩
      | true =>
       simp only [moAnswer, if_true] at h
       simp only [Option.some.injEq, Prod.mk.injEq] at h
       obtain ⟨rfl, rfl, rfl, rfl, rfl⟩ := h
       go_wp2_with (first | (go_at_call 13; (with_reducible refine (CALLV.out).mono ?_); rintro e w94 ⟨rfl, hb⟩; (try clear hzgo_0); (try clear hzgo_1); (try clear hzgo_2); replace HT := Aside0.mk (HT.out.below hb); replace BKr := Aside0.mk (blk_below BKr.out hb); replace BKo := Aside0.mk (blk_below BKo.out hb); replace HB := Aside0.mk (below_step HB.out hb); clear hb; obtain ⟨hzgo_0, hzgo_1, hzgo_2⟩ := cl3_ BKo.out) | ((with_reducible refine gate_store (t := 34) (p := 4) rfl ?_); refine Go.Proofs.YtnggfglmjdiaaaaOwn.sto3 (t := 34) (p := 4) (g := gr) (w0 := w) Ybb_ rfl rfl rfl rfl (by rfl) BKr.out HB.out GEgr.out ?_; intro w95 hbx_ hB_ hO_; (try clear hzgo_0); (try clear hzgo_1); (try clear hzgo_2); replace HT := Aside0.mk (HT.out.only BKr.out (by decide) hO_); clear BKr HB hO_; have BKr := Aside0.mk hbx_; have HB := Aside0.mk hB_; clear hbx_ hB_))
       refine bodyPost_ret (Di rfl _ _ gr 34 #[.slice (some ⟨gY_, 0, none⟩) nY cY, .int .i64 hh, .slice AB nB cB] (0, 0) _ rfl BKr.out Try.underlying34 rfl Ybb_) rfl ?_
       exact ⟨_, _, rfl, HT.out, HB.out⟩
     ·rw [if_neg cL] at h
      cases h
 ·rw [if_neg k1] at h
  by_cases k2 : a1_0 = 2
  ·rw [if_pos k2] at h
   subst k2
   by_cases cA : idxRow (topIs a1_1) Y < 0
   ·rw [if_pos cA] at h
    simp only [Option.some.injEq, Prod.mk.injEq] at h
    obtain ⟨rfl, rfl, rfl, rfl, rfl⟩ := h
    obtain ⟨at_, hat_⟩ : ∃ x : Int, idxRow (topIs a1_1) Y = x := ⟨_, rfl⟩
    rw [hat_] at cA
    have hn_ := HT.out.reads
    have callR_ := slices_IndexFunc_row.calls (p := topIs a1_1) (g := 69) (lb := #[.pointer (some ⟨gx, 0, none⟩)]) (enters_of Try.func69 Ybb_ rfl) AY cY Y _ hn_.2.2 (fun W_ A_ c_ s_ hW_ hC_ hc_ => (clo_mo.ok W_ A_ c_ s_ (blk_below BKx.out hW_) hC_ hc_).mono (fun e_ w_ h_ => ⟨h_.1, below_step hW_ h_.2⟩))
    rw [← hn_.1, hat_] at callR_
    have CALLR := Aside0.mk callR_
    clear callR_ hn_
    clear hat_
    have cb1 : decide (at_ < 0) = true := decide_eq_true cA
    clear cA
    clear BKo
    clear HT
    go_wp2_with (first | (go_at_call 68; (with_reducible refine (CALLR.out).mono ?_); rintro e w96 ⟨rfl, hb⟩; (try clear hzgo_0); (try clear hzgo_1); (try clear hzgo_2); (try clear hzgx_0); (try clear hzgx_1); (try clear hzgx_2); replace BKx := Aside0.mk (blk_below BKx.out hb); replace BKr := Aside0.mk (blk_below BKr.out hb); replace HB := Aside0.mk (below_step HB.out hb); clear hb; obtain ⟨hzgx_0, hzgx_1, hzgx_2⟩ := cl3_ BKx.out) | ((with_reducible refine gate_store (t := 34) (p := 4) rfl ?_); refine Go.Proofs.YtnggfglmjdiaaaaOwn.sto3 (t := 34) (p := 4) (g := gr) (w0 := w) Ybb_ rfl rfl rfl rfl (by rfl) BKr.out HB.out GEgr.out ?_; intro w97 hbx_ hB_ hO_; (try clear hzgx_0); (try clear hzgx_1); (try clear hzgx_2); clear BKr HB hO_; have BKr := Aside0.mk hbx_; have HB := Aside0.mk hB_; clear hbx_ hB_))
    refine bodyPost_ret (Di rfl _ _ gr 34 #[.slice none 0 0, .int .i64 0, .slice none 0 0] (0, 0) _ rfl BKr.out Try.underlying34 rfl Ybb_) rfl ?_
    exact ⟨_, _, rfl, Go.Proofs.YtnggfglmjdiaaaaOwn.TT.nil _ _ _, HB.out⟩
   ·rw [if_neg cA] at h
    obtain ⟨at_, hat_, hge_, hlt_, htop_⟩ := idxRow_int (topIs a1_1) Y cA
    clear cA
    have hn_ := HT.out.reads
    have callR_ := slices_IndexFunc_row.calls (p := topIs a1_1) (g := 69) (lb := #[.pointer (some ⟨gx, 0, none⟩)]) (enters_of Try.func69 Ybb_ rfl) AY cY Y _ hn_.2.2 (fun W_ A_ c_ s_ hW_ hC_ hc_ => (clo_mo.ok W_ A_ c_ s_ (blk_below BKx.out hW_) hC_ hc_).mono (fun e_ w_ h_ => ⟨h_.1, below_step hW_ h_.2⟩))
    rw [← hn_.1, hat_] at callR_
    have CALLR := Aside0.mk callR_
    clear callR_ hn_
    rw [hat_] at h
    clear hat_
    have cb1 : decide (at_ < 0) = false := decide_eq_false (by omega)
    have Pat_ := Aside0.mk (show 0 ≤ at_ ∧ at_ < (nY : Int) from ⟨hge_, by have := HT.out.reads.1; omega⟩)
    have HTOP := Aside0.mk htop_
    clear hge_ hlt_ htop_
    have hwn_ : wrap64 ((nB : Int) - 1) = (nB : Int) - 1 := by have h1_ := HT.out.swap.reads; have h2_ := h1_.2.2.2.1; have h3_ := h1_.1; unfold wrap64; omega
    have HWI := Aside0.mk (show Bz.f a1_2 0 ((nB : Int) - 1) = some (inRows B a1_2) from by rw [HT.out.swap.reads.1]; exact Gh _ _ _)
    cases cW : inRows B a1_2 with
    | false =>
     rw [cW] at HWI
     rw [cW, if_neg (by decide)] at h
     simp only [Option.some.injEq, Prod.mk.injEq] at h
     obtain ⟨rfl, rfl, rfl, rfl, rfl⟩ := h
     clear BKo
     clear HT
     go_wp2_with (first | (go_at_call 68; (with_reducible refine (CALLR.out).mono ?_); rintro e w98 ⟨rfl, hb⟩; (try clear hzgo_0); (try clear hzgo_1); (try clear hzgo_2); (try clear hzgx_0); (try clear hzgx_1); (try clear hzgx_2); replace BKx := Aside0.mk (blk_below BKx.out hb); replace BKr := Aside0.mk (blk_below BKr.out hb); replace HB := Aside0.mk (below_step HB.out hb); clear hb; obtain ⟨hzgx_0, hzgx_1, hzgx_2⟩ := cl3_ BKx.out) | (go_at_call 65; (with_reducible refine (Bz.calls a1_2 0 ((nB : Int) - 1) false _ HWI.out).mono ?_); rintro e w99 ⟨rfl, hd_⟩; (try clear hzgx_0); (try clear hzgx_1); (try clear hzgx_2); have hb := Drawn0.below hd_; clear hd_; replace BKx := Aside0.mk (blk_below BKx.out hb); replace BKr := Aside0.mk (blk_below BKr.out hb); replace HB := Aside0.mk (below_step HB.out hb); clear hb; obtain ⟨hzgx_0, hzgx_1, hzgx_2⟩ := cl3_ BKx.out) | ((with_reducible refine gate_store (t := 34) (p := 4) rfl ?_); refine Go.Proofs.YtnggfglmjdiaaaaOwn.sto3 (t := 34) (p := 4) (g := gr) (w0 := w) Ybb_ rfl rfl rfl rfl (by rfl) BKr.out HB.out GEgr.out ?_; intro w100 hbx_ hB_ hO_; (try clear hzgx_0); (try clear hzgx_1); (try clear hzgx_2); clear BKr HB hO_; have BKr := Aside0.mk hbx_; have HB := Aside0.mk hB_; clear hbx_ hB_))
     refine bodyPost_ret (Di rfl _ _ gr 34 #[.slice none 0 0, .int .i64 0, .slice none 0 0] (0, 0) _ rfl BKr.out Try.underlying34 rfl Ybb_) rfl ?_
     exact ⟨_, _, rfl, Go.Proofs.YtnggfglmjdiaaaaOwn.TT.nil _ _ _, HB.out⟩
    | true =>
     rw [cW] at HWI
     rw [cW, if_pos rfl] at h
     have Pa1_2 := Aside0.mk (show 0 ≤ a1_2 ∧ a1_2 < (nB : Int) from by have h1_ := inRows_lt cW; have h2_ := HT.out.swap.reads.1; omega)
     clear cW
     obtain ⟨sF, hsF⟩ : ∃ z, z = rd_L1 Y at_ := ⟨_, rfl⟩
     rw [← hsF] at HTOP
     have HSsF := Aside0.mk hsF
     have hpos_ := topIs_pos HTOP.out
     obtain ⟨mF, hmF⟩ : ∃ z : Nat, z = sF.length - 1 := ⟨_, rfl⟩
     have HMmF := Aside0.mk (show mF ≤ sF.length from by omega)
     have HMF := Aside0.mk (show (sF.length : Int) - 1 = (mF : Int) from by omega)
     obtain ⟨lF, hlF⟩ : ∃ z, z = cutRow Y at_ := ⟨_, rfl⟩
     have HLlF := Aside0.mk (show lF = Y.set (at_).toNat ((Y.getD (at_).toNat []).take mF) from by rw [hlF, hmF, hsF]; rfl)
     rw [← hlF] at h
     clear hlF hmF hsF
     obtain ⟨sG, hsG⟩ : ∃ z, z = rd_L1 B a1_2 := ⟨_, rfl⟩
     rw [← hsG] at h
     have HSsG := Aside0.mk hsG
     by_cases cL : sG.length < 17592186044415
     ·rw [if_pos cL] at h
      have HLsG := Aside0.mk cL
      clear cL
      obtain ⟨sH, hsH⟩ : ∃ z, z = sG ++ [a1_1] := ⟨_, rfl⟩
      have HSsH := Aside0.mk hsH
      obtain ⟨lG, hlG⟩ : ∃ z, z = putRow B a1_2 a1_1 := ⟨_, rfl⟩
      have HLlG := Aside0.mk (show lG = B.set (a1_2).toNat sH from by rw [hlG, hsH, hsG]; rfl)
      rw [← hlG] at h
      clear hlG hsH hsG
      replace h := Option.bind_eq_some_iff.mp h
      obtain ⟨vv, a_, h⟩ := h
      have A2 := Aside0.mk a_
      clear a_
      go_upto_region 13 with (first | (go_at_call 68; (with_reducible refine (CALLR.out).mono ?_); rintro e w101 ⟨rfl, hb⟩; (try clear hzgo_0); (try clear hzgo_1); (try clear hzgo_2); (try clear hzgx_0); (try clear hzgx_1); (try clear hzgx_2); replace HT := Aside0.mk (HT.out.below hb); replace BKx := Aside0.mk (blk_below BKx.out hb); replace BKr := Aside0.mk (blk_below BKr.out hb); replace BKo := Aside0.mk (blk_below BKo.out hb); replace HB := Aside0.mk (below_step HB.out hb); clear hb; obtain ⟨hzgx_0, hzgx_1, hzgx_2⟩ := cl3_ BKx.out) | (go_at_call 65; (with_reducible refine (Bz.calls a1_2 0 ((nB : Int) - 1) true _ HWI.out).mono ?_); rintro e w102 ⟨rfl, hd_⟩; (try clear hzgx_0); (try clear hzgx_1); (try clear hzgx_2); have hb := Drawn0.below hd_; clear hd_; replace HT := Aside0.mk (HT.out.below hb); replace BKx := Aside0.mk (blk_below BKx.out hb); replace BKr := Aside0.mk (blk_below BKr.out hb); replace BKo := Aside0.mk (blk_below BKo.out hb); replace HB := Aside0.mk (below_step HB.out hb); clear hb; obtain ⟨hzgx_0, hzgx_1, hzgx_2⟩ := cl3_ BKx.out))
      clear hwn_ HWI CALLR
      (try clear hzgx_0)
      (try clear hzgx_1)
      (try clear hzgx_2)
      obtain ⟨gY_, eg_, gb_, gl_⟩ := HT.out.form Yff_
      have GEY := Aside0.mk gb_
      clear gb_ gl_
      subst eg_
      obtain ⟨AsF, csF, hv_, hc_, hC_, hf_⟩ := Go.Proofs.YtnggfglmjdiaaaaOwn.TT.elem HT.out (i := at_) Pat_.out.1 Yff_
      have e_ : (Y.getD (at_).toNat []) = sF := HSsF.out.symm
      rw [e_] at hv_ hc_ hC_
      clear e_
      have HVsF := Aside0.mk hv_
      have HCsF := Aside0.mk hc_
      have HRsF := Aside0.mk hC_
      have HFsF := Aside0.mk hf_
      clear hv_ hc_ hC_ hf_
      have NXY_gx := Aside0.mk (Go.Proofs.YtnggfglmjdiaaaaOwn.TT.ne HT.out BKx.out (by decide))
      have NXY_gr := Aside0.mk (Go.Proofs.YtnggfglmjdiaaaaOwn.TT.ne HT.out BKr.out (by decide))
      have NXY_go := Aside0.mk (Go.Proofs.YtnggfglmjdiaaaaOwn.TT.ne HT.out BKo.out (by decide))
      have p_at_ : 0 ≤ at_ := Pat_.out.1
      have q_at_ : at_ < (nY : Int) := Pat_.out.2
      replace p_at_ := eq_true p_at_
      replace q_at_ := eq_true q_at_
      obtain ⟨i0_, hi0_, _, hsz0_, _⟩ := info_parts info3
      have hcut_ := cut_to (P := Try.prog) 73 3 .i64 Try.underlying73 hi0_ AsF sF.length csF (mF : Int) (by omega) (by have := HMmF.out; omega) HCsF.out
      simp only [Int.toNat_natCast] at hcut_
      have hwl_ : wrap64 ((sF.length : Int) - 1) = (mF : Int) := by have h1_ := HMF.out; have h2_ := HRsF.out.2.1; unfold wrap64; omega
      replace HT := Aside0.mk (HT.out.drew)
      replace BKx := Aside0.mk (blk_drew BKx.out)
      replace BKr := Aside0.mk (blk_drew BKr.out)
      replace BKo := Aside0.mk (blk_drew BKo.out)
      replace HB := Aside0.mk (below_drew1 HB.out)
      replace HVsF := Aside0.mk ((show (w102.drew).cell? ⟨gY_, (at_).toNat, none⟩ = some (.slice AsF sF.length csF) from HVsF.out))
      replace HFsF := Aside0.mk ((show (w102.drew).frozen? ⟨gY_, (at_).toNat, none⟩ = false from HFsF.out))
      refine start_ (n := 15) (S := fun w' => w'.cell? ⟨gY_, (at_).toNat, none⟩ = some (.slice AsF sF.length csF)) (ds := [14]) #[false, false, false, false, false, false, false, false, false, false, false, false, false, false, false] Ybb_ rfl rfl (HVsF.out) (fun hHeld => ?_)
      generalize w102.drew = w103 at HT BKx BKr BKo HB HVsF HFsF hHeld ⊢
      refine pure_ (i := 0) (N := some 60) #[true, false, false, false, false, false, false, false, false, false, false, false, false, false, false] rfl rfl Ybb_ (fun _ _ _ h => h) (Or.inl ⟨by rfl, Yba_⟩) Ya_ ?_
      refine pure_ (i := 1) (N := some 61) #[true, true, false, false, false, false, false, false, false, false, false, false, false, false, false] rfl rfl Ybb_ (fun _ _ _ h => h) (Or.inl ⟨by rfl, Yba_⟩) Ya_ ?_
      refine pure_ (i := 2) (N := some 62) #[true, true, true, false, false, false, false, false, false, false, false, false, false, false, false] rfl rfl Ybb_ (fun _ _ _ h => h) (Or.inl ⟨by rfl, Yba_⟩) Ya_ ?_
      refine pure_ (i := 3) (N := some 63) #[true, true, true, true, false, false, false, false, false, false, false, false, false, false, false] rfl rfl Ybb_ (fun _ _ _ h => h) (Or.inl ⟨by rfl, Yba_⟩) Ya_ ?_
      refine pure_ (i := 4) (N := some 64) #[true, true, true, true, true, false, false, false, false, false, false, false, false, false, false] rfl rfl Ybb_ (fun _ _ _ h => h) (Or.inl ⟨by rfl, Yba_⟩) Ya_ ?_
      refine pure_ (i := 6) (N := some 66) #[true, true, true, true, true, false, true, false, false, false, false, false, false, false, false] rfl rfl Ybb_ (fun _ _ _ h => h) (Or.inl ⟨by rfl, Yba_⟩) Ya_ ?_
      refine pure_ (i := 7) (N := some 67) #[true, true, true, true, true, false, true, true, false, false, false, false, false, false, false] rfl rfl Ybb_ (fun _ _ _ h => h) (Or.inl ⟨by rfl, Yba_⟩) Ya_ ?_
      refine pure_ (i := 8) (N := some 68) #[true, true, true, true, true, false, true, true, true, false, false, false, false, false, false] rfl rfl Ybb_ (fun _ _ _ h => h) (Or.inl ⟨by rfl, Yba_⟩) Ya_ ?_
      refine take_ (i := 5) (N := some 65) #[true, true, true, true, true, true, true, true, true, false, false, false, false, false, false] rfl rfl Ybb_ (fun _ _ _ h => h) (Or.inl ⟨by rfl, Yfg_⟩) hHeld Ya_ ?_
      refine take_ (i := 9) (N := some 69) #[true, true, true, true, true, true, true, true, true, true, false, false, false, false, false] rfl rfl Ybb_ (fun _ _ _ h => h) (Or.inl ⟨by rfl, Yfg_⟩) hHeld Ya_ ?_
      refine pure_ (i := 10) (N := some 70) #[true, true, true, true, true, true, true, true, true, true, true, false, false, false, false] rfl rfl Ybb_ (fun _ _ _ h => h) (Or.inl ⟨by rfl, Yba_⟩) Ya_ ?_
      refine pure_ (i := 11) (N := some 71) #[true, true, true, true, true, true, true, true, true, true, true, true, false, false, false] rfl rfl Ybb_ (fun _ _ _ h => h) (Or.inl ⟨by rfl, Yba_⟩) Ya_ ?_
      refine pure_ (i := 12) (N := some 72) #[true, true, true, true, true, true, true, true, true, true, true, true, true, false, false] rfl rfl Ybb_ (fun _ _ _ h => h) (Or.inl ⟨by rfl, Yba_⟩) Ya_ ?_
      refine pure_ (i := 13) (N := some 73) #[true, true, true, true, true, true, true, true, true, true, true, true, true, true, false] rfl rfl Ybb_ (fun _ _ _ h => h) (Or.inl ⟨by rfl, Yba_⟩) Ya_ ?_
      refine last_ (i := 14) (N := none) #[true, true, true, true, true, true, true, true, true, true, true, true, true, true, true] rfl rfl Ybb_ (by decide) (fun K hK => ?_)
      have hv_ := HVsF.out
      have hf_ := HFsF.out
      refine Go.Proofs.YtnggfglmjdiaaaaOwn.F6 (w1 := (w103.setCell ⟨gY_, (at_).toNat, none⟩ (.slice AsF mF csF))) (by rfl) rfl ?_ ?_
      ·first | (go_simp; done) | (go_simp; rfl)
      intro w104 hw
      clear hv_ hf_
      have hO_ : Go.Proofs.YtnggfglmjdiaaaaOwn.Only w103 w104 gY_ := Ycj_
      have ht_ := (Go.Proofs.YtnggfglmjdiaaaaOwn.TT.cut HT.out Pat_.out.1 Yff_ HVsF.out (by rw [show (Y.getD (at_).toNat []) = sF from HSsF.out.symm]; exact HMmF.out)).1
      rw [← hw] at ht_
      clear HT
      have HT := Aside0.mk ht_
      clear ht_ hw
      replace BKx := Aside0.mk ((hO_.others _ NXY_gx.out).trans BKx.out)
      replace BKr := Aside0.mk ((hO_.others _ NXY_gr.out).trans BKr.out)
      replace BKo := Aside0.mk ((hO_.others _ NXY_go.out).trans BKo.out)
      replace HB := Aside0.mk (hO_.below HB.out GEY.out)
      clear hO_
      clear NXY_gx
      clear NXY_gr
      clear NXY_go
      rw [show Y.set (at_).toNat ((Y.getD (at_).toNat []).take mF) = lF from HLlF.out.symm] at HT
      refine hK.out _ _ ?_
      clear hK K
      refine done_ Ybb_ ?_
      clear p_at_ q_at_ HVsF HFsF HCsF HRsF
      clear hcut_ hwl_ hi0_ hsz0_ HMF HMmF HTOP
      go_upto_region 14 with (fail)
      obtain ⟨gB_, eg_, gb_, gl_⟩ := HT.out.swap.form Yfe_
      have GEB := Aside0.mk gb_
      clear gb_ gl_
      subst eg_
      obtain ⟨AsG, csG, hv_, hc_, hC_, hf_⟩ := Go.Proofs.YtnggfglmjdiaaaaOwn.TT.elem HT.out.swap (i := a1_2) Pa1_2.out.1 Yfe_
      have e_ : (B.getD (a1_2).toNat []) = sG := HSsG.out.symm
      rw [e_] at hv_ hc_ hC_
      clear e_
      have HVsG := Aside0.mk hv_
      have HCsG := Aside0.mk hc_
      have HRsG := Aside0.mk hC_
      have HFsG := Aside0.mk hf_
      clear hv_ hc_ hC_ hf_
      have NXB_gx := Aside0.mk (Go.Proofs.YtnggfglmjdiaaaaOwn.TT.ne HT.out.swap BKx.out (by decide))
      have NXB_gr := Aside0.mk (Go.Proofs.YtnggfglmjdiaaaaOwn.TT.ne HT.out.swap BKr.out (by decide))
      have NXB_go := Aside0.mk (Go.Proofs.YtnggfglmjdiaaaaOwn.TT.ne HT.out.swap BKo.out (by decide))
      have p_a1_2 : 0 ≤ a1_2 := Pa1_2.out.1
      have q_a1_2 : a1_2 < (nB : Int) := Pa1_2.out.2
      replace p_a1_2 := eq_true p_a1_2
      replace q_a1_2 := eq_true q_a1_2
      replace HT := Aside0.mk (HT.out.drew)
      replace BKx := Aside0.mk (blk_drew BKx.out)
      replace BKr := Aside0.mk (blk_drew BKr.out)
      replace BKo := Aside0.mk (blk_drew BKo.out)
      replace HB := Aside0.mk (below_drew1 HB.out)
      replace HVsG := Aside0.mk ((show (w104.drew).cell? ⟨gB_, (a1_2).toNat, none⟩ = some (.slice AsG sG.length csG) from HVsG.out))
      replace HFsG := Aside0.mk ((show (w104.drew).frozen? ⟨gB_, (a1_2).toNat, none⟩ = false from HFsG.out))
      refine start_ (n := 14) (S := fun w' => w'.cell? ⟨gB_, (a1_2).toNat, none⟩ = some (.slice AsG sG.length csG) ∧ w'.cell? ⟨gx, 1, none⟩ = some (.int .i64 a1_1) ∧ w'.cell? ⟨gx, 2, none⟩ = some (.int .i64 a1_2)) (ds := [13]) #[false, false, false, false, false, false, false, false, false, false, false, false, false, false] Ybb_ rfl rfl ⟨HVsG.out, (blk_cell BKx.out 1).trans rfl, (blk_cell BKx.out 2).trans rfl⟩ (fun hHeld => ?_)
      generalize w104.drew = w105 at HT BKx BKr BKo HB HVsG HFsG hHeld ⊢
      refine pure_ (i := 0) (N := some 74) #[true, false, false, false, false, false, false, false, false, false, false, false, false, false] rfl rfl Ybb_ (fun _ _ _ h => h) (Or.inl ⟨by rfl, Yba_⟩) Ya_ ?_
      refine pure_ (i := 1) (N := some 75) #[true, true, false, false, false, false, false, false, false, false, false, false, false, false] rfl rfl Ybb_ (fun _ _ _ h => h) (Or.inl ⟨by rfl, Yba_⟩) Ya_ ?_
      refine pure_ (i := 3) (N := some 77) #[true, true, false, true, false, false, false, false, false, false, false, false, false, false] rfl rfl Ybb_ (fun _ _ _ h => h) (Or.inl ⟨by rfl, Yba_⟩) Ya_ ?_
      refine pure_ (i := 4) (N := some 78) #[true, true, false, true, true, false, false, false, false, false, false, false, false, false] rfl rfl Ybb_ (fun _ _ _ h => h) (Or.inl ⟨by rfl, Yba_⟩) Ya_ ?_
      refine pure_ (i := 8) (N := some 82) #[true, true, false, true, true, false, false, false, true, false, false, false, false, false] rfl rfl Ybb_ (fun _ _ _ h => h) (Or.inl ⟨by rfl, Yba_⟩) Ya_ ?_
      refine take_ (i := 2) (N := some 76) #[true, true, true, true, true, false, false, false, true, false, false, false, false, false] rfl rfl Ybb_ (fun _ _ _ h => h) (Or.inl ⟨by rfl, Yci_⟩) hHeld Ya_ ?_
      refine take_ (i := 5) (N := some 79) #[true, true, true, true, true, true, false, false, true, false, false, false, false, false] rfl rfl Ybb_ (fun _ _ _ h => h) (Or.inl ⟨by rfl, Yci_⟩) hHeld Ya_ ?_
      refine pure_ (i := 6) (N := some 80) #[true, true, true, true, true, true, true, false, true, false, false, false, false, false] rfl rfl Ybb_ (fun _ _ _ h => h) (Or.inl ⟨by rfl, Yba_⟩) Ya_ ?_
      refine take_ (i := 7) (N := some 81) #[true, true, true, true, true, true, true, true, true, false, false, false, false, false] rfl rfl Ybb_ (fun _ _ _ h => h) (Or.inl ⟨by rfl, Yci_⟩) hHeld Ya_ ?_
      refine take_ (i := 9) (N := some 83) #[true, true, true, true, true, true, true, true, true, true, false, false, false, false] rfl rfl Ybb_ (fun _ _ _ h => h) (Or.inl ⟨by rfl, Yci_⟩) hHeld Ya_ ?_
      refine one_ (i := 10) (N := some 84) #[true, true, true, true, true, true, true, true, true, true, true, false, false, false] rfl rfl Ybb_ (by decide) (fun K hK => ?_)
      refine value_ (w1 := ?_) (v := ?_) (by rfl) rfl ?_ ?_
      rotate_left 2
      ·go_simp
       constructor
       ·rfl
       ·rfl
      refine hK.out _ _ ⟨(World.cell?_alloc_lt _ _ _ (World.block_lt_of_cell? _ _ HVsG.out)).trans HVsG.out, (blk_cell (blk_alloc BKx.out _) 1).trans rfl, (blk_cell (blk_alloc BKx.out _) 2).trans rfl⟩ (fun hHeld => ?_)
      clear hK K
      refine norm_ (show Act.put _ (some 84) _ = _ from Ya_) ?_
      refine one_ (i := 11) (N := some 85) #[true, true, true, true, true, true, true, true, true, true, true, true, false, false] rfl rfl Ybb_ (by decide) (fun K hK => ?_)
      obtain ⟨oksG, v_, hv_, hR_, hfr_, hst_, hbk_⟩ := Go.Proofs.YtnggfglmjdiaaaaOwn.TT.lend HT.out.swap (i := a1_2) Pa1_2.out.1 Yfe_
      obtain rfl : v_ = .slice AsG sG.length csG := Option.some.inj (hv_.symm.trans HVsG.out)
      rw [show (B.getD (a1_2).toNat []) = sG from HSsG.out.symm] at hR_
      have HGsG := Aside0.mk hR_
      have HFRsG := Aside0.mk hfr_
      have HSTsG := Aside0.mk hst_
      have HKsG := Aside0.mk hbk_
      clear hv_ hR_ hfr_ hst_ hbk_
      refine Kd.Gm (w0 := w) (Kd.int .i64) w.heap.size (by rfl) (.tmp 81) (.tmp 84) 73 3 (.int .i64 0) 8 rfl Try.underlying73 info3 rfl (by decide) (by omega) (.slice AsG sG.length csG) sG a1_1 [.int .i64 a1_1] oksG (fun _ => False) rfl rfl ?aP (fun _ hk => hk.elim) ?aF ?aO ?aB ?aS ?aL ?_
      (case aP => exact rfl)
      (case aF => exact HFRsG.out)
      (case aO => exact HGsG.out)
      (case aB => exact HB.out)
      (case aS => exact below_size HB.out)
      (case aL => have := HLsG.out; omega)
      intro v_ w106 ho hb hg hat
      rw [← HSsH.out] at ho
      have hk_ := (HKsG.out _ _ _ _ hg ho hat).1
      obtain ⟨AsH, csH, ev_⟩ := Kd.Dc ho
      subst ev_
      have HT2 := Aside0.mk hk_
      clear hk_ HT
      obtain ⟨hv_, hf_⟩ := HSTsG.out _ hg
      clear HVsG HFsG
      have HVsG := Aside0.mk hv_
      have HFsG := Aside0.mk hf_
      clear hv_ hf_
      replace BKx := Aside0.mk (C9 BKx.out hg (Kd.R_ne HGsG.out BKx.out (by decide)))
      replace BKr := Aside0.mk (C9 BKr.out hg (Kd.R_ne HGsG.out BKr.out (by decide)))
      replace BKo := Aside0.mk (C9 BKo.out hg (Kd.R_ne HGsG.out BKo.out (by decide)))
      clear HB
      have HB := Aside0.mk hb
      clear hb hg hat ho HFRsG HSTsG HKsG HGsG
      refine hK.out _ _ ⟨HVsG.out, (blk_cell BKx.out 1).trans rfl, (blk_cell BKx.out 2).trans rfl⟩ (fun hHeld => ?_)
      clear hK K
      refine norm_ (show Act.put _ (some 85) _ = _ from Ya_) ?_
      refine pure_ (i := 12) (N := some 86) #[true, true, true, true, true, true, true, true, true, true, true, true, true, false] rfl rfl Ybb_ (fun _ _ _ h => h) (Or.inl ⟨by rfl, Yba_⟩) Ya_ ?_
      refine last_ (i := 13) (N := none) #[true, true, true, true, true, true, true, true, true, true, true, true, true, true] rfl rfl Ybb_ (by decide) (fun K hK => ?_)
      have hv_ := HVsG.out
      have hf_ := HFsG.out
      refine Go.Proofs.YtnggfglmjdiaaaaOwn.F6 (w1 := (w106.setCell ⟨gB_, (a1_2).toNat, none⟩ (.slice AsH sH.length csH))) (by rfl) rfl ?_ ?_
      ·first | (go_simp; done) | (go_simp; rfl)
      intro w107 hw
      clear hv_ hf_
      have HT := HT2
      clear HT2
      have hO_ : Go.Proofs.YtnggfglmjdiaaaaOwn.Only w106 w107 gB_ := Ycj_
      have ht_ := HT.out.swap
      rw [← hw] at ht_
      clear HT
      have HT := Aside0.mk ht_
      clear ht_ hw
      replace BKx := Aside0.mk ((hO_.others _ NXB_gx.out).trans BKx.out)
      replace BKr := Aside0.mk ((hO_.others _ NXB_gr.out).trans BKr.out)
      replace BKo := Aside0.mk ((hO_.others _ NXB_go.out).trans BKo.out)
      replace HB := Aside0.mk (hO_.below HB.out GEB.out)
      clear hO_
      clear NXB_gx
      clear NXB_gr
      clear NXB_go
      rw [show B.set (a1_2).toNat sH = lG from HLlG.out.symm] at HT
      refine hK.out _ _ ?_
      clear hK K
      refine done_ Ybb_ ?_
      clear p_a1_2 q_a1_2 HVsG HFsG HCsG HRsG
      have hy_ := HT.out.reads
      have hb_ := HT.out.swap.reads
      have call_ := impl_IsValidTerminal.calls k (some ⟨gY_, 0, none⟩) cY lF hh (some ⟨gB_, 0, none⟩) cB lG vv _ hy_.2.2 (hy_.1 ▸ hy_.2.1) hb_.2.2 (hb_.1 ▸ hb_.2.1) A2.out
      rw [← hy_.1, ← hb_.1] at call_
      have CALLV := Aside0.mk call_
      clear call_ hy_ hb_
      clear BKx
      obtain ⟨hzgo_0, hzgo_1, hzgo_2⟩ := cl3_ BKo.out
      cases vv with
      | false =>
       simp only [moAnswer, Bool.false_eq_true, if_false] at h
       simp only [Option.some.injEq, Prod.mk.injEq] at h
       obtain ⟨rfl, rfl, rfl, rfl, rfl⟩ := h
       clear BKo
       clear HT
       go_wp2_with (first | (go_at_call 13; (with_reducible refine (CALLV.out).mono ?_); rintro e w108 ⟨rfl, hb⟩; (try clear hzgo_0); (try clear hzgo_1); (try clear hzgo_2); replace BKr := Aside0.mk (blk_below BKr.out hb); replace HB := Aside0.mk (below_step HB.out hb); clear hb) | ((with_reducible refine gate_store (t := 34) (p := 4) rfl ?_); refine Go.Proofs.YtnggfglmjdiaaaaOwn.sto3 (t := 34) (p := 4) (g := gr) (w0 := w) Ybb_ rfl rfl rfl rfl (by rfl) BKr.out HB.out GEgr.out ?_; intro w109 hbx_ hB_ hO_; clear BKr HB hO_; have BKr := Aside0.mk hbx_; have HB := Aside0.mk hB_; clear hbx_ hB_))
       refine bodyPost_ret (Di rfl _ _ gr 34 #[.slice none 0 0, .int .i64 0, .slice none 0 0] (0, 0) _ rfl BKr.out Try.underlying34 rfl Ybb_) rfl ?_
       exact ⟨_, _, rfl, Go.Proofs.YtnggfglmjdiaaaaOwn.TT.nil _ _ _, HB.out⟩
      | true =>
       simp only [moAnswer, if_true] at h
       simp only [Option.some.injEq, Prod.mk.injEq] at h
       obtain ⟨rfl, rfl, rfl, rfl, rfl⟩ := h
       go_wp2_with (first | (go_at_call 13; (with_reducible refine (CALLV.out).mono ?_); rintro e w110 ⟨rfl, hb⟩; (try clear hzgo_0); (try clear hzgo_1); (try clear hzgo_2); replace HT := Aside0.mk (HT.out.below hb); replace BKr := Aside0.mk (blk_below BKr.out hb); replace BKo := Aside0.mk (blk_below BKo.out hb); replace HB := Aside0.mk (below_step HB.out hb); clear hb; obtain ⟨hzgo_0, hzgo_1, hzgo_2⟩ := cl3_ BKo.out) | ((with_reducible refine gate_store (t := 34) (p := 4) rfl ?_); refine Go.Proofs.YtnggfglmjdiaaaaOwn.sto3 (t := 34) (p := 4) (g := gr) (w0 := w) Ybb_ rfl rfl rfl rfl (by rfl) BKr.out HB.out GEgr.out ?_; intro w111 hbx_ hB_ hO_; (try clear hzgo_0); (try clear hzgo_1); (try clear hzgo_2); replace HT := Aside0.mk (HT.out.only BKr.out (by decide) hO_); clear BKr HB hO_; have BKr := Aside0.mk hbx_; have HB := Aside0.mk hB_; clear hbx_ hB_))
       refine bodyPost_ret (Di rfl _ _ gr 34 #[.slice (some ⟨gY_, 0, none⟩) nY cY, .int .i64 hh, .slice (some ⟨gB_, 0, none⟩) nB cB] (0, 0) _ rfl BKr.out Try.underlying34 rfl Ybb_) rfl ?_
       exact ⟨_, _, rfl, HT.out, HB.out⟩
     ·rw [if_neg cL] at h
      cases h
  ·rw [if_neg k2] at h
   by_cases k3 : a1_0 = 3
   ·rw [if_pos k3] at h
    subst k3
    by_cases cA : idxRow (topIs a1_1) B < 0
    ·rw [if_pos cA] at h
     simp only [Option.some.injEq, Prod.mk.injEq] at h
     obtain ⟨rfl, rfl, rfl, rfl, rfl⟩ := h
     obtain ⟨at_, hat_⟩ : ∃ x : Int, idxRow (topIs a1_1) B = x := ⟨_, rfl⟩
     rw [hat_] at cA
     have hn_ := HT.out.swap.reads
     have callR_ := slices_IndexFunc_row.calls (p := topIs a1_1) (g := 69) (lb := #[.pointer (some ⟨gx, 0, none⟩)]) (enters_of Try.func69 Ybb_ rfl) AB cB B _ hn_.2.2 (fun W_ A_ c_ s_ hW_ hC_ hc_ => (clo_mo.ok W_ A_ c_ s_ (blk_below BKx.out hW_) hC_ hc_).mono (fun e_ w_ h_ => ⟨h_.1, below_step hW_ h_.2⟩))
     rw [← hn_.1, hat_] at callR_
     have CALLR := Aside0.mk callR_
     clear callR_ hn_
     clear hat_
     have cb1 : decide (at_ < 0) = true := decide_eq_true cA
     clear cA
     clear BKo
     clear HT
     go_wp2_with (first | (go_at_call 68; (with_reducible refine (CALLR.out).mono ?_); rintro e w112 ⟨rfl, hb⟩; (try clear hzgo_0); (try clear hzgo_1); (try clear hzgo_2); (try clear hzgx_0); (try clear hzgx_1); (try clear hzgx_2); replace BKx := Aside0.mk (blk_below BKx.out hb); replace BKr := Aside0.mk (blk_below BKr.out hb); replace HB := Aside0.mk (below_step HB.out hb); clear hb; obtain ⟨hzgx_0, hzgx_1, hzgx_2⟩ := cl3_ BKx.out) | ((with_reducible refine gate_store (t := 34) (p := 4) rfl ?_); refine Go.Proofs.YtnggfglmjdiaaaaOwn.sto3 (t := 34) (p := 4) (g := gr) (w0 := w) Ybb_ rfl rfl rfl rfl (by rfl) BKr.out HB.out GEgr.out ?_; intro w113 hbx_ hB_ hO_; (try clear hzgx_0); (try clear hzgx_1); (try clear hzgx_2); clear BKr HB hO_; have BKr := Aside0.mk hbx_; have HB := Aside0.mk hB_; clear hbx_ hB_))
     refine bodyPost_ret (Di rfl _ _ gr 34 #[.slice none 0 0, .int .i64 0, .slice none 0 0] (0, 0) _ rfl BKr.out Try.underlying34 rfl Ybb_) rfl ?_
     exact ⟨_, _, rfl, Go.Proofs.YtnggfglmjdiaaaaOwn.TT.nil _ _ _, HB.out⟩
    ·rw [if_neg cA] at h
     obtain ⟨at_, hat_, hge_, hlt_, htop_⟩ := idxRow_int (topIs a1_1) B cA
     clear cA
     have hn_ := HT.out.swap.reads
     have callR_ := slices_IndexFunc_row.calls (p := topIs a1_1) (g := 69) (lb := #[.pointer (some ⟨gx, 0, none⟩)]) (enters_of Try.func69 Ybb_ rfl) AB cB B _ hn_.2.2 (fun W_ A_ c_ s_ hW_ hC_ hc_ => (clo_mo.ok W_ A_ c_ s_ (blk_below BKx.out hW_) hC_ hc_).mono (fun e_ w_ h_ => ⟨h_.1, below_step hW_ h_.2⟩))
     rw [← hn_.1, hat_] at callR_
     have CALLR := Aside0.mk callR_
     clear callR_ hn_
     rw [hat_] at h
     clear hat_
     have cb1 : decide (at_ < 0) = false := decide_eq_false (by omega)
     have Pat_ := Aside0.mk (show 0 ≤ at_ ∧ at_ < (nB : Int) from ⟨hge_, by have := HT.out.swap.reads.1; omega⟩)
     have HTOP := Aside0.mk htop_
     clear hge_ hlt_ htop_
     have hwn_ : wrap64 ((nY : Int) - 1) = (nY : Int) - 1 := by have h1_ := HT.out.reads; have h2_ := h1_.2.2.2.1; have h3_ := h1_.1; unfold wrap64; omega
     have HWI := Aside0.mk (show Bz.f a1_2 0 ((nY : Int) - 1) = some (inRows Y a1_2) from by rw [HT.out.reads.1]; exact Gh _ _ _)
     cases cW : inRows Y a1_2 with
     | false =>
      rw [cW] at HWI
      rw [cW, if_neg (by decide)] at h
      simp only [Option.some.injEq, Prod.mk.injEq] at h
      obtain ⟨rfl, rfl, rfl, rfl, rfl⟩ := h
      clear BKo
      clear HT
      go_wp2_with (first | (go_at_call 68; (with_reducible refine (CALLR.out).mono ?_); rintro e w114 ⟨rfl, hb⟩; (try clear hzgo_0); (try clear hzgo_1); (try clear hzgo_2); (try clear hzgx_0); (try clear hzgx_1); (try clear hzgx_2); replace BKx := Aside0.mk (blk_below BKx.out hb); replace BKr := Aside0.mk (blk_below BKr.out hb); replace HB := Aside0.mk (below_step HB.out hb); clear hb; obtain ⟨hzgx_0, hzgx_1, hzgx_2⟩ := cl3_ BKx.out) | (go_at_call 65; (with_reducible refine (Bz.calls a1_2 0 ((nY : Int) - 1) false _ HWI.out).mono ?_); rintro e w115 ⟨rfl, hd_⟩; (try clear hzgx_0); (try clear hzgx_1); (try clear hzgx_2); have hb := Drawn0.below hd_; clear hd_; replace BKx := Aside0.mk (blk_below BKx.out hb); replace BKr := Aside0.mk (blk_below BKr.out hb); replace HB := Aside0.mk (below_step HB.out hb); clear hb; obtain ⟨hzgx_0, hzgx_1, hzgx_2⟩ := cl3_ BKx.out) | ((with_reducible refine gate_store (t := 34) (p := 4) rfl ?_); refine Go.Proofs.YtnggfglmjdiaaaaOwn.sto3 (t := 34) (p := 4) (g := gr) (w0 := w) Ybb_ rfl rfl rfl rfl (by rfl) BKr.out HB.out GEgr.out ?_; intro w116 hbx_ hB_ hO_; (try clear hzgx_0); (try clear hzgx_1); (try clear hzgx_2); clear BKr HB hO_; have BKr := Aside0.mk hbx_; have HB := Aside0.mk hB_; clear hbx_ hB_))
      refine bodyPost_ret (Di rfl _ _ gr 34 #[.slice none 0 0, .int .i64 0, .slice none 0 0] (0, 0) _ rfl BKr.out Try.underlying34 rfl Ybb_) rfl ?_
      exact ⟨_, _, rfl, Go.Proofs.YtnggfglmjdiaaaaOwn.TT.nil _ _ _, HB.out⟩
     | true =>
      rw [cW] at HWI
      rw [cW, if_pos rfl] at h
      have Pa1_2 := Aside0.mk (show 0 ≤ a1_2 ∧ a1_2 < (nY : Int) from by have h1_ := inRows_lt cW; have h2_ := HT.out.reads.1; omega)
      clear cW
      obtain ⟨sF, hsF⟩ : ∃ z, z = rd_L1 B at_ := ⟨_, rfl⟩
      rw [← hsF] at HTOP
      have HSsF := Aside0.mk hsF
      have hpos_ := topIs_pos HTOP.out
      obtain ⟨mF, hmF⟩ : ∃ z : Nat, z = sF.length - 1 := ⟨_, rfl⟩
      have HMmF := Aside0.mk (show mF ≤ sF.length from by omega)
      have HMF := Aside0.mk (show (sF.length : Int) - 1 = (mF : Int) from by omega)
      obtain ⟨lF, hlF⟩ : ∃ z, z = cutRow B at_ := ⟨_, rfl⟩
      have HLlF := Aside0.mk (show lF = B.set (at_).toNat ((B.getD (at_).toNat []).take mF) from by rw [hlF, hmF, hsF]; rfl)
      rw [← hlF] at h
      clear hlF hmF hsF
      obtain ⟨sG, hsG⟩ : ∃ z, z = rd_L1 Y a1_2 := ⟨_, rfl⟩
      rw [← hsG] at h
      have HSsG := Aside0.mk hsG
      by_cases cL : sG.length < 17592186044415
      ·rw [if_pos cL] at h
       have HLsG := Aside0.mk cL
       clear cL
       obtain ⟨sH, hsH⟩ : ∃ z, z = sG ++ [a1_1] := ⟨_, rfl⟩
       have HSsH := Aside0.mk hsH
       obtain ⟨lG, hlG⟩ : ∃ z, z = putRow Y a1_2 a1_1 := ⟨_, rfl⟩
       have HLlG := Aside0.mk (show lG = Y.set (a1_2).toNat sH from by rw [hlG, hsH, hsG]; rfl)
       rw [← hlG] at h
       clear hlG hsH hsG
       replace h := Option.bind_eq_some_iff.mp h
       obtain ⟨vv, a_, h⟩ := h
       have A2 := Aside0.mk a_
       clear a_
       go_upto_region 13 with (first | (go_at_call 68; (with_reducible refine (CALLR.out).mono ?_); rintro e w117 ⟨rfl, hb⟩; (try clear hzgo_0); (try clear hzgo_1); (try clear hzgo_2); (try clear hzgx_0); (try clear hzgx_1); (try clear hzgx_2); replace HT := Aside0.mk (HT.out.below hb); replace BKx := Aside0.mk (blk_below BKx.out hb); replace BKr := Aside0.mk (blk_below BKr.out hb); replace BKo := Aside0.mk (blk_below BKo.out hb); replace HB := Aside0.mk (below_step HB.out hb); clear hb; obtain ⟨hzgx_0, hzgx_1, hzgx_2⟩ := cl3_ BKx.out) | (go_at_call 65; (with_reducible refine (Bz.calls a1_2 0 ((nY : Int) - 1) true _ HWI.out).mono ?_); rintro e w118 ⟨rfl, hd_⟩; (try clear hzgx_0); (try clear hzgx_1); (try clear hzgx_2); have hb := Drawn0.below hd_; clear hd_; replace HT := Aside0.mk (HT.out.below hb); replace BKx := Aside0.mk (blk_below BKx.out hb); replace BKr := Aside0.mk (blk_below BKr.out hb); replace BKo := Aside0.mk (blk_below BKo.out hb); replace HB := Aside0.mk (below_step HB.out hb); clear hb; obtain ⟨hzgx_0, hzgx_1, hzgx_2⟩ := cl3_ BKx.out))
       clear hwn_ HWI CALLR
       (try clear hzgx_0)
       (try clear hzgx_1)
       (try clear hzgx_2)
       obtain ⟨gB_, eg_, gb_, gl_⟩ := HT.out.swap.form Ygf_
       have GEB := Aside0.mk gb_
       clear gb_ gl_
       subst eg_
       obtain ⟨AsF, csF, hv_, hc_, hC_, hf_⟩ := Go.Proofs.YtnggfglmjdiaaaaOwn.TT.elem HT.out.swap (i := at_) Pat_.out.1 Ygf_
       have e_ : (B.getD (at_).toNat []) = sF := HSsF.out.symm
       rw [e_] at hv_ hc_ hC_
       clear e_
       have HVsF := Aside0.mk hv_
       have HCsF := Aside0.mk hc_
       have HRsF := Aside0.mk hC_
       have HFsF := Aside0.mk hf_
       clear hv_ hc_ hC_ hf_
       have NXB_gx := Aside0.mk (Go.Proofs.YtnggfglmjdiaaaaOwn.TT.ne HT.out.swap BKx.out (by decide))
       have NXB_gr := Aside0.mk (Go.Proofs.YtnggfglmjdiaaaaOwn.TT.ne HT.out.swap BKr.out (by decide))
       have NXB_go := Aside0.mk (Go.Proofs.YtnggfglmjdiaaaaOwn.TT.ne HT.out.swap BKo.out (by decide))
       have p_at_ : 0 ≤ at_ := Pat_.out.1
       have q_at_ : at_ < (nB : Int) := Pat_.out.2
       replace p_at_ := eq_true p_at_
       replace q_at_ := eq_true q_at_
       obtain ⟨i0_, hi0_, _, hsz0_, _⟩ := info_parts info3
       have hcut_ := cut_to (P := Try.prog) 73 3 .i64 Try.underlying73 hi0_ AsF sF.length csF (mF : Int) (by omega) (by have := HMmF.out; omega) HCsF.out
       simp only [Int.toNat_natCast] at hcut_
       have hwl_ : wrap64 ((sF.length : Int) - 1) = (mF : Int) := by have h1_ := HMF.out; have h2_ := HRsF.out.2.1; unfold wrap64; omega
       replace HT := Aside0.mk (HT.out.drew)
       replace BKx := Aside0.mk (blk_drew BKx.out)
       replace BKr := Aside0.mk (blk_drew BKr.out)
       replace BKo := Aside0.mk (blk_drew BKo.out)
       replace HB := Aside0.mk (below_drew1 HB.out)
       replace HVsF := Aside0.mk ((show (w118.drew).cell? ⟨gB_, (at_).toNat, none⟩ = some (.slice AsF sF.length csF) from HVsF.out))
       replace HFsF := Aside0.mk ((show (w118.drew).frozen? ⟨gB_, (at_).toNat, none⟩ = false from HFsF.out))
       refine start_ (n := 15) (S := fun w' => w'.cell? ⟨gB_, (at_).toNat, none⟩ = some (.slice AsF sF.length csF)) (ds := [14]) #[false, false, false, false, false, false, false, false, false, false, false, false, false, false, false] Ybb_ rfl rfl (HVsF.out) (fun hHeld => ?_)
       generalize w118.drew = w119 at HT BKx BKr BKo HB HVsF HFsF hHeld ⊢
       refine pure_ (i := 0) (N := some 60) #[true, false, false, false, false, false, false, false, false, false, false, false, false, false, false] rfl rfl Ybb_ (fun _ _ _ h => h) (Or.inl ⟨by rfl, Yba_⟩) Ya_ ?_
       refine pure_ (i := 1) (N := some 61) #[true, true, false, false, false, false, false, false, false, false, false, false, false, false, false] rfl rfl Ybb_ (fun _ _ _ h => h) (Or.inl ⟨by rfl, Yba_⟩) Ya_ ?_
       refine pure_ (i := 2) (N := some 62) #[true, true, true, false, false, false, false, false, false, false, false, false, false, false, false] rfl rfl Ybb_ (fun _ _ _ h => h) (Or.inl ⟨by rfl, Yba_⟩) Ya_ ?_
       refine pure_ (i := 3) (N := some 63) #[true, true, true, true, false, false, false, false, false, false, false, false, false, false, false] rfl rfl Ybb_ (fun _ _ _ h => h) (Or.inl ⟨by rfl, Yba_⟩) Ya_ ?_
       refine pure_ (i := 4) (N := some 64) #[true, true, true, true, true, false, false, false, false, false, false, false, false, false, false] rfl rfl Ybb_ (fun _ _ _ h => h) (Or.inl ⟨by rfl, Yba_⟩) Ya_ ?_
       refine pure_ (i := 6) (N := some 66) #[true, true, true, true, true, false, true, false, false, false, false, false, false, false, false] rfl rfl Ybb_ (fun _ _ _ h => h) (Or.inl ⟨by rfl, Yba_⟩) Ya_ ?_
       refine pure_ (i := 7) (N := some 67) #[true, true, true, true, true, false, true, true, false, false, false, false, false, false, false] rfl rfl Ybb_ (fun _ _ _ h => h) (Or.inl ⟨by rfl, Yba_⟩) Ya_ ?_
       refine pure_ (i := 8) (N := some 68) #[true, true, true, true, true, false, true, true, true, false, false, false, false, false, false] rfl rfl Ybb_ (fun _ _ _ h => h) (Or.inl ⟨by rfl, Yba_⟩) Ya_ ?_
       refine take_ (i := 5) (N := some 65) #[true, true, true, true, true, true, true, true, true, false, false, false, false, false, false] rfl rfl Ybb_ (fun _ _ _ h => h) (Or.inl ⟨by rfl, Yfg_⟩) hHeld Ya_ ?_
       refine take_ (i := 9) (N := some 69) #[true, true, true, true, true, true, true, true, true, true, false, false, false, false, false] rfl rfl Ybb_ (fun _ _ _ h => h) (Or.inl ⟨by rfl, Yfg_⟩) hHeld Ya_ ?_
       refine pure_ (i := 10) (N := some 70) #[true, true, true, true, true, true, true, true, true, true, true, false, false, false, false] rfl rfl Ybb_ (fun _ _ _ h => h) (Or.inl ⟨by rfl, Yba_⟩) Ya_ ?_
       refine pure_ (i := 11) (N := some 71) #[true, true, true, true, true, true, true, true, true, true, true, true, false, false, false] rfl rfl Ybb_ (fun _ _ _ h => h) (Or.inl ⟨by rfl, Yba_⟩) Ya_ ?_
       refine pure_ (i := 12) (N := some 72) #[true, true, true, true, true, true, true, true, true, true, true, true, true, false, false] rfl rfl Ybb_ (fun _ _ _ h => h) (Or.inl ⟨by rfl, Yba_⟩) Ya_ ?_
       refine pure_ (i := 13) (N := some 73) #[true, true, true, true, true, true, true, true, true, true, true, true, true, true, false] rfl rfl Ybb_ (fun _ _ _ h => h) (Or.inl ⟨by rfl, Yba_⟩) Ya_ ?_
       refine last_ (i := 14) (N := none) #[true, true, true, true, true, true, true, true, true, true, true, true, true, true, true] rfl rfl Ybb_ (by decide) (fun K hK => ?_)
       have hv_ := HVsF.out
       have hf_ := HFsF.out
       refine Go.Proofs.YtnggfglmjdiaaaaOwn.F6 (w1 := (w119.setCell ⟨gB_, (at_).toNat, none⟩ (.slice AsF mF csF))) (by rfl) rfl ?_ ?_
       ·first | (go_simp; done) | (go_simp; rfl)
       intro w120 hw
       clear hv_ hf_
       have hO_ : Go.Proofs.YtnggfglmjdiaaaaOwn.Only w119 w120 gB_ := Ycj_
       have ht_ := (Go.Proofs.YtnggfglmjdiaaaaOwn.TT.cut HT.out.swap Pat_.out.1 Ygf_ HVsF.out (by rw [show (B.getD (at_).toNat []) = sF from HSsF.out.symm]; exact HMmF.out)).1.swap
       rw [← hw] at ht_
       clear HT
       have HT := Aside0.mk ht_
       clear ht_ hw
       replace BKx := Aside0.mk ((hO_.others _ NXB_gx.out).trans BKx.out)
       replace BKr := Aside0.mk ((hO_.others _ NXB_gr.out).trans BKr.out)
       replace BKo := Aside0.mk ((hO_.others _ NXB_go.out).trans BKo.out)
       replace HB := Aside0.mk (hO_.below HB.out GEB.out)
       clear hO_
       clear NXB_gx
       clear NXB_gr
       clear NXB_go
       rw [show B.set (at_).toNat ((B.getD (at_).toNat []).take mF) = lF from HLlF.out.symm] at HT
       refine hK.out _ _ ?_
       clear hK K
       refine done_ Ybb_ ?_
       clear p_at_ q_at_ HVsF HFsF HCsF HRsF
       clear hcut_ hwl_ hi0_ hsz0_ HMF HMmF HTOP
       go_upto_region 14 with (fail)
       obtain ⟨gY_, eg_, gb_, gl_⟩ := HT.out.form Ydi_
       have GEY := Aside0.mk gb_
       clear gb_ gl_
       subst eg_
       obtain ⟨AsG, csG, hv_, hc_, hC_, hf_⟩ := Go.Proofs.YtnggfglmjdiaaaaOwn.TT.elem HT.out (i := a1_2) Pa1_2.out.1 Ydi_
       have e_ : (Y.getD (a1_2).toNat []) = sG := HSsG.out.symm
       rw [e_] at hv_ hc_ hC_
       clear e_
       have HVsG := Aside0.mk hv_
       have HCsG := Aside0.mk hc_
       have HRsG := Aside0.mk hC_
       have HFsG := Aside0.mk hf_
       clear hv_ hc_ hC_ hf_
       have NXY_gx := Aside0.mk (Go.Proofs.YtnggfglmjdiaaaaOwn.TT.ne HT.out BKx.out (by decide))
       have NXY_gr := Aside0.mk (Go.Proofs.YtnggfglmjdiaaaaOwn.TT.ne HT.out BKr.out (by decide))
       have NXY_go := Aside0.mk (Go.Proofs.YtnggfglmjdiaaaaOwn.TT.ne HT.out BKo.out (by decide))
       have p_a1_2 : 0 ≤ a1_2 := Pa1_2.out.1
       have q_a1_2 : a1_2 < (nY : Int) := Pa1_2.out.2
       replace p_a1_2 := eq_true p_a1_2
       replace q_a1_2 := eq_true q_a1_2
       replace HT := Aside0.mk (HT.out.drew)
       replace BKx := Aside0.mk (blk_drew BKx.out)
       replace BKr := Aside0.mk (blk_drew BKr.out)
       replace BKo := Aside0.mk (blk_drew BKo.out)
       replace HB := Aside0.mk (below_drew1 HB.out)
       replace HVsG := Aside0.mk ((show (w120.drew).cell? ⟨gY_, (a1_2).toNat, none⟩ = some (.slice AsG sG.length csG) from HVsG.out))
       replace HFsG := Aside0.mk ((show (w120.drew).frozen? ⟨gY_, (a1_2).toNat, none⟩ = false from HFsG.out))
       refine start_ (n := 14) (S := fun w' => w'.cell? ⟨gY_, (a1_2).toNat, none⟩ = some (.slice AsG sG.length csG) ∧ w'.cell? ⟨gx, 1, none⟩ = some (.int .i64 a1_1) ∧ w'.cell? ⟨gx, 2, none⟩ = some (.int .i64 a1_2)) (ds := [13]) #[false, false, false, false, false, false, false, false, false, false, false, false, false, false] Ybb_ rfl rfl ⟨HVsG.out, (blk_cell BKx.out 1).trans rfl, (blk_cell BKx.out 2).trans rfl⟩ (fun hHeld => ?_)
       generalize w120.drew = w121 at HT BKx BKr BKo HB HVsG HFsG hHeld ⊢
       refine pure_ (i := 0) (N := some 74) #[true, false, false, false, false, false, false, false, false, false, false, false, false, false] rfl rfl Ybb_ (fun _ _ _ h => h) (Or.inl ⟨by rfl, Yba_⟩) Ya_ ?_
       refine pure_ (i := 1) (N := some 75) #[true, true, false, false, false, false, false, false, false, false, false, false, false, false] rfl rfl Ybb_ (fun _ _ _ h => h) (Or.inl ⟨by rfl, Yba_⟩) Ya_ ?_
       refine pure_ (i := 3) (N := some 77) #[true, true, false, true, false, false, false, false, false, false, false, false, false, false] rfl rfl Ybb_ (fun _ _ _ h => h) (Or.inl ⟨by rfl, Yba_⟩) Ya_ ?_
       refine pure_ (i := 4) (N := some 78) #[true, true, false, true, true, false, false, false, false, false, false, false, false, false] rfl rfl Ybb_ (fun _ _ _ h => h) (Or.inl ⟨by rfl, Yba_⟩) Ya_ ?_
       refine pure_ (i := 8) (N := some 82) #[true, true, false, true, true, false, false, false, true, false, false, false, false, false] rfl rfl Ybb_ (fun _ _ _ h => h) (Or.inl ⟨by rfl, Yba_⟩) Ya_ ?_
       refine take_ (i := 2) (N := some 76) #[true, true, true, true, true, false, false, false, true, false, false, false, false, false] rfl rfl Ybb_ (fun _ _ _ h => h) (Or.inl ⟨by rfl, Yci_⟩) hHeld Ya_ ?_
       refine take_ (i := 5) (N := some 79) #[true, true, true, true, true, true, false, false, true, false, false, false, false, false] rfl rfl Ybb_ (fun _ _ _ h => h) (Or.inl ⟨by rfl, Yci_⟩) hHeld Ya_ ?_
       refine pure_ (i := 6) (N := some 80) #[true, true, true, true, true, true, true, false, true, false, false, false, false, false] rfl rfl Ybb_ (fun _ _ _ h => h) (Or.inl ⟨by rfl, Yba_⟩) Ya_ ?_
       refine take_ (i := 7) (N := some 81) #[true, true, true, true, true, true, true, true, true, false, false, false, false, false] rfl rfl Ybb_ (fun _ _ _ h => h) (Or.inl ⟨by rfl, Yci_⟩) hHeld Ya_ ?_
       refine take_ (i := 9) (N := some 83) #[true, true, true, true, true, true, true, true, true, true, false, false, false, false] rfl rfl Ybb_ (fun _ _ _ h => h) (Or.inl ⟨by rfl, Yci_⟩) hHeld Ya_ ?_
       refine one_ (i := 10) (N := some 84) #[true, true, true, true, true, true, true, true, true, true, true, false, false, false] rfl rfl Ybb_ (by decide) (fun K hK => ?_)
       refine value_ (w1 := ?_) (v := ?_) (by rfl) rfl ?_ ?_
       rotate_left 2
       ·go_simp
        constructor
        ·rfl
        ·rfl
       refine hK.out _ _ ⟨(World.cell?_alloc_lt _ _ _ (World.block_lt_of_cell? _ _ HVsG.out)).trans HVsG.out, (blk_cell (blk_alloc BKx.out _) 1).trans rfl, (blk_cell (blk_alloc BKx.out _) 2).trans rfl⟩ (fun hHeld => ?_)
       clear hK K
       refine norm_ (show Act.put _ (some 84) _ = _ from Ya_) ?_
       refine one_ (i := 11) (N := some 85) #[true, true, true, true, true, true, true, true, true, true, true, true, false, false] rfl rfl Ybb_ (by decide) (fun K hK => ?_)
       obtain ⟨oksG, v_, hv_, hR_, hfr_, hst_, hbk_⟩ := Go.Proofs.YtnggfglmjdiaaaaOwn.TT.lend HT.out (i := a1_2) Pa1_2.out.1 Ydi_
       obtain rfl : v_ = .slice AsG sG.length csG := Option.some.inj (hv_.symm.trans HVsG.out)
       rw [show (Y.getD (a1_2).toNat []) = sG from HSsG.out.symm] at hR_
       have HGsG := Aside0.mk hR_
       have HFRsG := Aside0.mk hfr_
       have HSTsG := Aside0.mk hst_
       have HKsG := Aside0.mk hbk_
       clear hv_ hR_ hfr_ hst_ hbk_
       refine Kd.Gm (w0 := w) (Kd.int .i64) w.heap.size (by rfl) (.tmp 81) (.tmp 84) 73 3 (.int .i64 0) 8 rfl Try.underlying73 info3 rfl (by decide) (by omega) (.slice AsG sG.length csG) sG a1_1 [.int .i64 a1_1] oksG (fun _ => False) rfl rfl ?aP (fun _ hk => hk.elim) ?aF ?aO ?aB ?aS ?aL ?_
       (case aP => exact rfl)
       (case aF => exact HFRsG.out)
       (case aO => exact HGsG.out)
       (case aB => exact HB.out)
       (case aS => exact below_size HB.out)
       (case aL => have := HLsG.out; omega)
       intro v_ w122 ho hb hg hat
       rw [← HSsH.out] at ho
       have hk_ := (HKsG.out _ _ _ _ hg ho hat).1
       obtain ⟨AsH, csH, ev_⟩ := Kd.Dc ho
       subst ev_
       have HT2 := Aside0.mk hk_
       clear hk_ HT
       obtain ⟨hv_, hf_⟩ := HSTsG.out _ hg
       clear HVsG HFsG
       have HVsG := Aside0.mk hv_
       have HFsG := Aside0.mk hf_
       clear hv_ hf_
       replace BKx := Aside0.mk (C9 BKx.out hg (Kd.R_ne HGsG.out BKx.out (by decide)))
       replace BKr := Aside0.mk (C9 BKr.out hg (Kd.R_ne HGsG.out BKr.out (by decide)))
       replace BKo := Aside0.mk (C9 BKo.out hg (Kd.R_ne HGsG.out BKo.out (by decide)))
       clear HB
       have HB := Aside0.mk hb
       clear hb hg hat ho HFRsG HSTsG HKsG HGsG
       refine hK.out _ _ ⟨HVsG.out, (blk_cell BKx.out 1).trans rfl, (blk_cell BKx.out 2).trans rfl⟩ (fun hHeld => ?_)
       clear hK K
       refine norm_ (show Act.put _ (some 85) _ = _ from Ya_) ?_
       refine pure_ (i := 12) (N := some 86) #[true, true, true, true, true, true, true, true, true, true, true, true, true, false] rfl rfl Ybb_ (fun _ _ _ h => h) (Or.inl ⟨by rfl, Yba_⟩) Ya_ ?_
       refine last_ (i := 13) (N := none) #[true, true, true, true, true, true, true, true, true, true, true, true, true, true] rfl rfl Ybb_ (by decide) (fun K hK => ?_)
       have hv_ := HVsG.out
       have hf_ := HFsG.out
       refine Go.Proofs.YtnggfglmjdiaaaaOwn.F6 (w1 := (w122.setCell ⟨gY_, (a1_2).toNat, none⟩ (.slice AsH sH.length csH))) (by rfl) rfl ?_ ?_
       ·first | (go_simp; done) | (go_simp; rfl)
       intro w123 hw
       clear hv_ hf_
       have HT := HT2
       clear HT2
       have hO_ : Go.Proofs.YtnggfglmjdiaaaaOwn.Only w122 w123 gY_ := Ycj_
       have ht_ := HT.out
       rw [← hw] at ht_
       clear HT
       have HT := Aside0.mk ht_
       clear ht_ hw
       replace BKx := Aside0.mk ((hO_.others _ NXY_gx.out).trans BKx.out)
       replace BKr := Aside0.mk ((hO_.others _ NXY_gr.out).trans BKr.out)
       replace BKo := Aside0.mk ((hO_.others _ NXY_go.out).trans BKo.out)
       replace HB := Aside0.mk (hO_.below HB.out GEY.out)
       clear hO_
       clear NXY_gx
       clear NXY_gr
       clear NXY_go
       rw [show Y.set (a1_2).toNat sH = lG from HLlG.out.symm] at HT
       refine hK.out _ _ ?_
       clear hK K
       refine done_ Ybb_ ?_
       clear p_a1_2 q_a1_2 HVsG HFsG HCsG HRsG
       have hy_ := HT.out.reads
       have hb_ := HT.out.swap.reads
       have call_ := impl_IsValidTerminal.calls k (some ⟨gY_, 0, none⟩) cY lG hh (some ⟨gB_, 0, none⟩) cB lF vv _ hy_.2.2 (hy_.1 ▸ hy_.2.1) hb_.2.2 (hb_.1 ▸ hb_.2.1) A2.out
       rw [← hy_.1, ← hb_.1] at call_
       have CALLV := Aside0.mk call_
       clear call_ hy_ hb_
       clear BKx
       obtain ⟨hzgo_0, hzgo_1, hzgo_2⟩ := cl3_ BKo.out
       cases vv with
       | false =>
        simp only [moAnswer, Bool.false_eq_true, if_false] at h
        simp only [Option.some.injEq, Prod.mk.injEq] at h
        obtain ⟨rfl, rfl, rfl, rfl, rfl⟩ := h
        clear BKo
        clear HT
        go_wp2_with (first | (go_at_call 13; (with_reducible refine (CALLV.out).mono ?_); rintro e w124 ⟨rfl, hb⟩; (try clear hzgo_0); (try clear hzgo_1); (try clear hzgo_2); replace BKr := Aside0.mk (blk_below BKr.out hb); replace HB := Aside0.mk (below_step HB.out hb); clear hb) | ((with_reducible refine gate_store (t := 34) (p := 4) rfl ?_); refine Go.Proofs.YtnggfglmjdiaaaaOwn.sto3 (t := 34) (p := 4) (g := gr) (w0 := w) Ybb_ rfl rfl rfl rfl (by rfl) BKr.out HB.out GEgr.out ?_; intro w125 hbx_ hB_ hO_; clear BKr HB hO_; have BKr := Aside0.mk hbx_; have HB := Aside0.mk hB_; clear hbx_ hB_))
        refine bodyPost_ret (Di rfl _ _ gr 34 #[.slice none 0 0, .int .i64 0, .slice none 0 0] (0, 0) _ rfl BKr.out Try.underlying34 rfl Ybb_) rfl ?_
        exact ⟨_, _, rfl, Go.Proofs.YtnggfglmjdiaaaaOwn.TT.nil _ _ _, HB.out⟩
       | true =>
        simp only [moAnswer, if_true] at h
        simp only [Option.some.injEq, Prod.mk.injEq] at h
        obtain ⟨rfl, rfl, rfl, rfl, rfl⟩ := h
        go_wp2_with (first | (go_at_call 13; (with_reducible refine (CALLV.out).mono ?_); rintro e w126 ⟨rfl, hb⟩; (try clear hzgo_0); (try clear hzgo_1); (try clear hzgo_2); replace HT := Aside0.mk (HT.out.below hb); replace BKr := Aside0.mk (blk_below BKr.out hb); replace BKo := Aside0.mk (blk_below BKo.out hb); replace HB := Aside0.mk (below_step HB.out hb); clear hb; obtain ⟨hzgo_0, hzgo_1, hzgo_2⟩ := cl3_ BKo.out) | ((with_reducible refine gate_store (t := 34) (p := 4) rfl ?_); refine Go.Proofs.YtnggfglmjdiaaaaOwn.sto3 (t := 34) (p := 4) (g := gr) (w0 := w) Ybb_ rfl rfl rfl rfl (by rfl) BKr.out HB.out GEgr.out ?_; intro w127 hbx_ hB_ hO_; (try clear hzgo_0); (try clear hzgo_1); (try clear hzgo_2); replace HT := Aside0.mk (HT.out.only BKr.out (by decide) hO_); clear BKr HB hO_; have BKr := Aside0.mk hbx_; have HB := Aside0.mk hB_; clear hbx_ hB_))
        refine bodyPost_ret (Di rfl _ _ gr 34 #[.slice (some ⟨gY_, 0, none⟩) nY cY, .int .i64 hh, .slice (some ⟨gB_, 0, none⟩) nB cB] (0, 0) _ rfl BKr.out Try.underlying34 rfl Ybb_) rfl ?_
        exact ⟨_, _, rfl, HT.out, HB.out⟩
      ·rw [if_neg cL] at h
       cases h
   ·rw [if_neg k3] at h
    simp only [Option.some.injEq, Prod.mk.injEq] at h
    obtain ⟨rfl, rfl, rfl, rfl, rfl⟩ := h
    have d1_ : (a1_0 == 1) = false := by simp [k1]
    have d2_ : (a1_0 == 2) = false := by simp [k2]
    have d3_ : (a1_0 == 3) = false := by simp [k3]
    have e1_ : decide (a1_0 = 1) = false := decide_eq_false k1
    have e2_ : decide (a1_0 = 2) = false := decide_eq_false k2
    have e3_ : decide (a1_0 = 3) = false := decide_eq_false k3
    clear k1 k2 k3
    clear BKx
    clear BKo
    clear HT
    go_wp2_with (first | ((with_reducible refine gate_store (t := 34) (p := 4) rfl ?_); refine Go.Proofs.YtnggfglmjdiaaaaOwn.sto3 (t := 34) (p := 4) (g := gr) (w0 := w) Ybb_ rfl rfl rfl rfl (by rfl) BKr.out HB.out GEgr.out ?_; intro w128 hbx_ hB_ hO_; (try clear hzgo_0); (try clear hzgo_1); (try clear hzgo_2); (try clear hzgx_0); (try clear hzgx_1); (try clear hzgx_2); clear BKr HB hO_; have BKr := Aside0.mk hbx_; have HB := Aside0.mk hB_; clear hbx_ hB_))
    refine bodyPost_ret (Di rfl _ _ gr 34 #[.slice none 0 0, .int .i64 0, .slice none 0 0] (0, 0) _ rfl BKr.out Try.underlying34 rfl Ybb_) rfl ?_
    exact ⟨_, _, rfl, Go.Proofs.YtnggfglmjdiaaaaOwn.TT.nil _ _ _, HB.out⟩
theorem impl_makeOrder.calls2 (k : Nat) (A0_0 : Option Addr) (c0_0 : Nat) (l0_0 : List (List Int)) (a0_1 : Int) (A0_2 : Option Addr) (c0_2 : Nat) (l0_2 : List (List Int)) (a1_0 a1_1 a1_2 : Int) (r1 : List (List Int)) (r2 : Int) (r3 : List (List Int)) (r4 : Int) (r5 : Bool) (w : World) (hr0_0 : Kd.C (Kd.slice 3 (Kd.int .i64)) w A0_0 l0_0.length l0_0) (hc0_0 : l0_0.length ≤ c0_0) (hr0_2 : Kd.C (Kd.slice 3 (Kd.int .i64)) w A0_2 l0_2.length l0_2) (hc0_2 : l0_2.length ≤ c0_2) (h : impl_makeOrder.f k l0_0 a0_1 l0_2 a1_0 a1_1 a1_2 = some (r1, r2, r3, r4, r5)) :
  Calls Try.prog 50 #[.agg #[.slice A0_0 l0_0.length c0_0, .int .i64 a0_1, .slice A0_2 l0_2.length c0_2], .agg #[.int .i64 a1_0, .int .i64 a1_1, .int .i64 a1_2]] w fun e w' => ∃ (P_ : Nat → Prop) (v0_ v2_ : Value), e = .returned (.tuple #[.agg #[v0_, .int .i64 r2, v2_], .int .i64 r4, .bool r5]) ∧ Kd.S (Kd.slice 3 (Kd.int .i64)) 73 w' w.heap.size (fun k_ => P_ k_) v0_ r1 ∧ Kd.S (Kd.slice 3 (Kd.int .i64)) 73 w' w.heap.size (fun k_ => ¬ P_ k_) v2_ r3 ∧ Below w.heap.size w w' := by
 refine (impl_makeOrder.callsT k A0_0 c0_0 l0_0 a0_1 A0_2 c0_2 l0_2 a1_0 a1_1 a1_2 r1 r2 r3 r4 r5 w hr0_0 hc0_0 hr0_2 hc0_2 h).mono ?_
 rintro e w' ⟨v0_, v2_, he, ht, hb⟩
 obtain ⟨P_, h1, h2⟩ := ht.to2
 exact ⟨P_, v0_, v2_, he, h1, h2, hb⟩
theorem impl_makeOrder.calls (k : Nat) (A0_0 : Option Addr) (c0_0 : Nat) (l0_0 : List (List Int)) (a0_1 : Int) (A0_2 : Option Addr) (c0_2 : Nat) (l0_2 : List (List Int)) (a1_0 a1_1 a1_2 : Int) (r1 : List (List Int)) (r2 : Int) (r3 : List (List Int)) (r4 : Int) (r5 : Bool) (w : World) (hr0_0 : Kd.C (Kd.slice 3 (Kd.int .i64)) w A0_0 l0_0.length l0_0) (hc0_0 : l0_0.length ≤ c0_0) (hr0_2 : Kd.C (Kd.slice 3 (Kd.int .i64)) w A0_2 l0_2.length l0_2) (hc0_2 : l0_2.length ≤ c0_2) (h : impl_makeOrder.f k l0_0 a0_1 l0_2 a1_0 a1_1 a1_2 = some (r1, r2, r3, r4, r5)) :
  Calls Try.prog 50 #[.agg #[.slice A0_0 l0_0.length c0_0, .int .i64 a0_1, .slice A0_2 l0_2.length c0_2], .agg #[.int .i64 a1_0, .int .i64 a1_1, .int .i64 a1_2]] w fun e w' => ∃ v0_ v2_ : Value, e = .returned (.tuple #[.agg #[v0_, .int .i64 r2, v2_], .int .i64 r4, .bool r5]) ∧ Kd.S (Kd.slice 3 (Kd.int .i64)) 73 w' w.heap.size (fun k_ => some k_ ≠ (v2_ : Value).ownBlock) v0_ r1 ∧ Kd.S (Kd.slice 3 (Kd.int .i64)) 73 w' w.heap.size (fun k_ => some k_ ≠ (v0_ : Value).ownBlock) v2_ r3 ∧ Below w.heap.size w w' := by
 refine (impl_makeOrder.calls2 k A0_0 c0_0 l0_0 a0_1 A0_2 c0_2 l0_2 a1_0 a1_1 a1_2 r1 r2 r3 r4 r5 w hr0_0 hc0_0 hr0_2 hc0_2 h).mono ?_
 rintro e w' ⟨P_, v0_, v2_, he, h1, h2, hb⟩
 exact ⟨v0_, v2_, he, Kd.S_mono h1 (fun k_ hk e_ => ((Kd.S_R h2).1 k_ e_.symm) hk), Kd.S_mono h2 (fun k_ hk e_ => hk ((Kd.S_R h1).1 k_ e_.symm)), hb⟩
def Dh.f (l0 : List Int) : Option (List Int) := (some (([] : List Int) : List Int)).bind fun y294 => (if y294.length + l0.length < 17592186044416 then (some (y294 ++ l0)) else (none))
set_option maxHeartbeats 8000000 in
set_option maxRecDepth 100000 in
theorem Dh.calls (A0 : Option Addr) (c0 : Nat) (l0 : List Int) (r : List Int) (w : World) (hr0 : Kd.C (Kd.int .i64) w A0 l0.length l0) (hc0 : l0.length ≤ c0) (h : Dh.f l0 = some r) :
  Calls Try.prog 72 #[.slice A0 l0.length c0] w fun e w' => ∃ v0_ : Value, e = .returned (v0_) ∧ Kd.R (Kd.int .i64) 3 w' w.heap.size (fun _ => True) v0_ r ∧ Below w.heap.size w w' := by
 have HR0 := Aside0.mk hr0
 have HC0 := Aside0.mk hc0
 clear hr0 hc0
 have HB := Aside0.mk (Below.refl w.heap.size w)
 have H : ((some (([] : List Int) : List Int)).bind fun y294 => (if y294.length + l0.length < 17592186044416 then (some (y294 ++ l0)) else (none))) = some r := h
 clear h
 obtain ⟨y294, hy294⟩ : ∃ y_ : List Int, y_ = (([] : List Int)) := ⟨_, rfl⟩
 replace H : (if y294.length + l0.length < 17592186044416 then (some (y294 ++ l0)) else (none)) = some r := by first | (rw [hy294]; with_reducible exact H) | (have H2_ := (Option.bind_some _ _).symm.trans H; rw [hy294]; with_reducible exact H2_) | (have H2_ := (Option.bind_some _ _).symm.trans H; with_reducible exact H2_) | with_reducible exact H | (rw [hy294]; exact H) | exact H
 have Ny294 := Aside0.mk hy294
 clear hy294
 by_cases c2 : y294.length + l0.length < 17592186044416
 ·rw [if_pos c2] at H
  have LMc2 := Aside0.mk c2
  clear c2
  obtain ⟨y297, hy297⟩ : ∃ y_ : List Int, y_ = (y294 ++ l0) := ⟨_, rfl⟩
  replace H : (some y297) = some r := by first | (rw [hy297]; with_reducible exact H) | (have H2_ := (Option.bind_some _ _).symm.trans H; rw [hy297]; with_reducible exact H2_) | (have H2_ := (Option.bind_some _ _).symm.trans H; with_reducible exact H2_) | with_reducible exact H | (rw [hy297]; exact H) | exact H
  have Ny297 := Aside0.mk hy297
  clear hy297
  obtain rfl := Option.some.inj H
  go_enter Try.func72, Try.ntmps72
  go_wp2_with (first | ((with_reducible refine gate_dst (N := 3) rfl ?_); refine Kd.R_lit (Kd.int .i64) _ 3 ?hg (N := 3) ?hd (xs := ([] : List Int)) (inner := []) (ok := fun _ => True) (okp := fun _ => True) ?hr ?hp (fun _ hk => hk) trivial (Below.refl _ _) (Nat.le_refl _) (by simp) ?_; (case hd => rfl); (case hg => rfl); (case hr => first | (go_simp; done) | (go_simp; rfl)); (case hp => exact (Reps.none _ _)); intro v295 w3 ho4 hb hg_ hnew_; clear hg_ hnew_; (first | rw [← Ny294.out] at ho4 | (simp only [Int.reduceToNat] at ho4; rw [← Ny294.out] at ho4)); have HO296 := Aside0.mk (Kd.R_lower ho4 (below_size Yb_)); replace HB := Aside0.mk (below_step Yb_ hb); clear hb ho4) | ((with_reducible refine F5 (b := .append) (xs := #[.tmp 3, .tmp 4]) rfl ?_); at_builtin; refine Kd.R_append_rows (Kd.int .i64) (w0 := w) w.heap.size rfl (.tmp 3) (.tmp 4) 73 3 (.int .i64 0) 8 rfl Try.underlying73 info3 rfl (by decide) (by omega) v295 y294 l0 _ _ _ (fun _ => True) (fun _ => False) rfl rfl ?aO ?aR (fun _ _ h => h) (fun _ h => h.elim) ?aF ?aB ?aS ?aL ?_; (case aR => repeat (first | exact (Kd.C_below HR0.out HB.out) | (with_reducible refine Kd.C_alloc ?_ _) | (with_reducible refine Kd.C_drewN ?_ _) | (with_reducible refine Kd.C_drew ?_))); (case aB => exact Yb_); (case aF => exact (fun _ _ => trivial)); (case aO => exact (by (with_reducible repeat (first | apply Kd.R_alloc | apply Kd.R_drewN | apply Kd.R_drew)); exact HO296.out)); (case aS => exact (below_size Yb_)); (case aL => have := LMc2.out; omega); intro v298 w5 ho hb hg hat; rw [← Ny297.out] at ho; replace HB := Aside0.mk (hb); have HO299 := Aside0.mk (ho); clear HO296; clear ho hb hg hat))
  go_ret
  exact ⟨_, Yi_, (by (with_reducible repeat (first | apply Kd.R_alloc | apply Kd.R_drewN | apply Kd.R_drew)); exact HO299.out), Yb_⟩
 ·rw [if_neg c2] at H
  exact absurd H (by simp)
def spec_l5Own.l0 : Nat → Int → List (List Int) → List (List Int) → Option ((List (List Int)))
 | 0, _, _, _ => none
 | k + 1, x4, x301000, x303000 => if x4 < (x301000.length : Int) then (if 0 ≤ x4 then ((Dh.f (rd_L1 x301000 x4)).bind fun t304 => (if x303000.length < 5864062014805 then (spec_l5Own.l0 k (wrap64 (x4 + 1)) x301000 (x303000 ++ [t304])) else (none))) else (none)) else (some x303000)
def spec_l5Own.f (k : Nat) (l0_0 : List (List Int)) : Option ((List (List Int))) := spec_l5Own.l0 k 0 l0_0 ([] : List (List Int))
theorem spec_l5Own.mono_l : ∀ k, (∀ y0 y1 y2, LeO (spec_l5Own.l0 k y0 y1 y2) (spec_l5Own.l0 (k + 1) y0 y1 y2))
 | 0 => fun _ _ _ r h => by simp [spec_l5Own.l0] at h
 | k + 1 => by
  have ih0 := spec_l5Own.mono_l k
  ·intro y0 y1 y2
   unfold spec_l5Own.l0
   repeat' first
   | (with_reducible exact ih0 _ _ _)
   | (with_reducible exact LeO.refl _)
   | (with_reducible exact LeO.none _)
   | (with_reducible refine LeO.ite ?_ ?_)
   | (with_reducible refine LeO.bind ?_ (fun _ => ?_))
   | exact ih0 _ _ _
   | exact LeO.none _
   | refine LeO.ite ?_ ?_
   | refine LeO.bind ?_ (fun _ => ?_)
theorem spec_l5Own.mono : ∀ a0 k, LeO (spec_l5Own.f k a0) (spec_l5Own.f (k + 1) a0) := by
 intro a0 k
 have ih0 := spec_l5Own.mono_l k
 unfold spec_l5Own.f
 repeat' first
   | (with_reducible exact ih0 _ _ _)
   | (with_reducible exact LeO.refl _)
   | (with_reducible exact LeO.none _)
   | (with_reducible refine LeO.ite ?_ ?_)
   | (with_reducible refine LeO.bind ?_ (fun _ => ?_))
   | exact ih0 _ _ _
   | exact LeO.none _
   | refine LeO.ite ?_ ?_
   | refine LeO.bind ?_ (fun _ => ?_)
def spec_l5Own.T5 : Bool × List (List Nat × List Nat) := (true, [([], []), ([0], [0]), ([], []), ([2], [2]), ([], []), ([3, 4], [3, 4]), ([5], [5]), ([6], [6]), ([7], [7]), ([1, 8, 7], [1, 8]), ([0, 1, 2, 3, 4, 5, 6, 7, 8, 9], []), ([10, 9, 9, 0, 1, 2, 3, 4, 5, 6, 7, 8, 9], [9, 10])])
def spec_l5Own.B5 : List Nat := [0, 1, 0, 4, 0, 28, 60, 124, 252, 511, 1023, 2047]
theorem spec_l5Own.tab5 : rtab .any (opsOf Try.f78 5) = spec_l5Own.T5 := by kernel_rfl
theorem spec_l5Own.bits5 : waitsOk spec_l5Own.T5.2 spec_l5Own.B5 = true := by kernel_rfl
set_option maxHeartbeats 8000000 in
set_option maxRecDepth 100000 in
theorem spec_l5Own.calls (k : Nat) (A0_0 : Option Addr) (c0_0 : Nat) (l0_0 : List (List Int)) (r : List (List Int)) (w : World) (hr0_0 : Kd.C (Kd.slice 3 (Kd.int .i64)) w A0_0 l0_0.length l0_0) (hc0_0 : l0_0.length ≤ c0_0) (h : spec_l5Own.f k l0_0 = some r) :
  Calls Try.prog 78 #[.agg #[.slice A0_0 l0_0.length c0_0]] w fun e w' => ∃ v0_ : Value, e = .returned (.agg #[v0_]) ∧ Kd.S (Kd.slice 3 (Kd.int .i64)) 73 w' w.heap.size (fun _ => True) v0_ r ∧ Below w.heap.size w w' := by
 have hu31 := Try.underlying31
 have HR0_0 := Aside0.mk hr0_0
 have HC0_0 := Aside0.mk hc0_0
 clear hr0_0 hc0_0
 have HB := Aside0.mk (Below.refl w.heap.size w)
 have H : (spec_l5Own.l0 k 0 l0_0 ([] : List (List Int))) = some r := h
 clear h
 have H' := Aside0.mk H
 clear H
 go_enter Try.func78, Try.ntmps78
 go_wp2_with (first | ((with_reducible refine gate_dst (N := 1) rfl ?_); refine box_event (by rfl) (N := 1) (by rfl) (cs := #[.slice A0_0 l0_0.length c0_0]) (t := 31) Ybf_ ?_; intro gb0 hg w2 hbox hb; have BK0 := Aside0.mk (hbox); have GW0 := Aside0.mk ((by rw [hg]; exact (below_size Yb_) : w.heap.size ≤ gb0)); have GE0 := Aside0.mk ((by rw [hg]; exact (below_size Yb_) : w.heap.size ≤ gb0)); replace HB := Aside0.mk (below_step Yb_ hb); clear hb hbox hg) | ((with_reducible refine gate_dst (N := 2) rfl ?_); refine box_event (by rfl) (N := 2) (by rfl) (cs := #[.slice none 0 0]) (t := 31) Ybf_ ?_; intro gb1 hg w3 hbox hb; have BK1 := Aside0.mk (hbox); have GW1 := Aside0.mk ((by rw [hg]; exact (below_size Yd_) : w.heap.size ≤ gb1)); have GE1 := Aside0.mk ((by rw [hg]; exact (below_size Yd_) : w.heap.size ≤ gb1)); replace HB := Aside0.mk (below_step Yd_ hb); have NB0_1 := Aside0.mk ((by rw [hg]; exact Nat.ne_of_lt (blk_lt (g := gb0) (o := .cells #[.slice A0_0 l0_0.length c0_0] 31 (0, 0)) Yc_) : gb0 ≠ gb1)); have NB1_0 := Aside0.mk ((by rw [hg]; exact Nat.ne_of_gt (blk_lt (g := gb0) (o := .cells #[.slice A0_0 l0_0.length c0_0] 31 (0, 0)) Yc_) : gb1 ≠ gb0)); replace BK0 := Aside0.mk (blk_below (g := gb0) (o := .cells #[.slice A0_0 l0_0.length c0_0] 31 (0, 0)) Yc_ hb); clear hb hbox hg) | ((with_reducible refine gate_dst (N := 3) rfl ?_); refine box_event (by rfl) (N := 3) (by rfl) (cs := #[.slice none 0 0]) (t := 31) Ybf_ ?_; intro gb2 hg w4 hbox hb; have BK2 := Aside0.mk (hbox); have GW2 := Aside0.mk ((by rw [hg]; exact (below_size Yf_) : w.heap.size ≤ gb2)); have GE2 := Aside0.mk ((by rw [hg]; exact (below_size Yf_) : w.heap.size ≤ gb2)); replace HB := Aside0.mk (below_step Yf_ hb); have NB0_2 := Aside0.mk ((by rw [hg]; exact Nat.ne_of_lt (blk_lt (g := gb0) (o := .cells #[.slice A0_0 l0_0.length c0_0] 31 (0, 0)) Yc_) : gb0 ≠ gb2)); have NB2_0 := Aside0.mk ((by rw [hg]; exact Nat.ne_of_gt (blk_lt (g := gb0) (o := .cells #[.slice A0_0 l0_0.length c0_0] 31 (0, 0)) Yc_) : gb2 ≠ gb0)); replace BK0 := Aside0.mk (blk_below (g := gb0) (o := .cells #[.slice A0_0 l0_0.length c0_0] 31 (0, 0)) Yc_ hb); have NB1_2 := Aside0.mk ((by rw [hg]; exact Nat.ne_of_lt (blk_lt (g := gb1) (o := .cells #[.slice none 0 0] 31 (0, 0)) Yg_) : gb1 ≠ gb2)); have NB2_1 := Aside0.mk ((by rw [hg]; exact Nat.ne_of_gt (blk_lt (g := gb1) (o := .cells #[.slice none 0 0] 31 (0, 0)) Yg_) : gb2 ≠ gb1)); replace BK1 := Aside0.mk (blk_below (g := gb1) (o := .cells #[.slice none 0 0] 31 (0, 0)) Yg_ hb); clear hb hbox hg; have hnb5 := NB2_0.out; have hnc5 := NB0_2.out; have hnb6 := NB2_1.out; have hnc6 := NB1_2.out; have hcz7_0 : w4.cell? ⟨gb2, 0, none⟩ = some (.slice none 0 0) := (blk_cell BK2.out 0).trans rfl; have hfz7_0 := blk_frozen BK2.out 0))
 go_loopg [4] k (fun kq v4 w' => ∃ (x4_1 : Int) (x303000_1 : List (List Int)) (u303000 : Value), v4 = .int .i64 x4_1 ∧ Aside0 (spec_l5Own.l0 kq x4_1 l0_0 x303000_1 = some r) ∧ Aside0 (kq ≤ k) ∧ Aside0 (Kd.S (Kd.slice 3 (Kd.int .i64)) 73 w' w.heap.size (fun _ => True) u303000 x303000_1) ∧ Aside0 (w'.heap[gb0]? = some (.cells #[(.slice A0_0 l0_0.length c0_0)] 31 (0, 0))) ∧ Aside0 (w'.heap[gb1]? = some (.cells #[(.slice none 0 0)] 31 (0, 0))) ∧ Aside0 (w'.heap[gb2]? = some (.cells #[u303000] 31 (0, 0))) ∧ Aside0 (Below w.heap.size w w'))
 case atStart => exact ⟨(0), (([] : List (List Int))), (.slice none 0 0), Ybe_, H', ⟨Nat.le_refl _⟩, ⟨by first | exact Kd.S_nil _ _ _ _ _ | exact Kd.N_nil _ _ _ _ _ | exact Kd.V_nil _ _ _ _ _ | exact Kd.Q_nil _ _ _ _ _ | exact Kd.R_nil _ _ _ _ _⟩, ⟨by (with_reducible repeat (first | apply blk_drewN | apply blk_drew | apply blk_alloc)); refine Ai ?_ NB0_2.out _; (with_reducible repeat (first | apply blk_drewN | apply blk_drew | apply blk_alloc)); exact BK0.out⟩, ⟨by (with_reducible repeat (first | apply blk_drewN | apply blk_drew | apply blk_alloc)); refine Ai ?_ NB1_2.out _; (with_reducible repeat (first | apply blk_drewN | apply blk_drew | apply blk_alloc)); exact BK1.out⟩, ⟨by (with_reducible repeat (first | apply blk_drewN | apply blk_drew | apply blk_alloc)); refine blk_put (cs := #[.slice none 0 0]) ?_ 0 _ rfl; (with_reducible repeat (first | apply blk_drewN | apply blk_drew | apply blk_alloc)); exact BK2.out⟩, ⟨by repeat (first | (with_reducible first | exact HB.out | apply below_alloc | apply pw_below_drewN | apply below_drew1 | refine below_set ?_ GE0.out | refine below_set ?_ GE1.out | refine below_set ?_ GE2.out) | exact HB.out)⟩⟩
 case round =>
  clear H'
  try clear p2; try clear c5; try clear c6; try clear c7; try clear hcz7_0; try clear hfz7_0
  obtain ⟨x4_1, x303000_1, u303000, rfl, HA, HK1, HO_303000, BK0, BK1, BK2, HB⟩ := hrel
  cases gk with
  | zero => exact absurd HA.out (by simp [spec_l5Own.l0])
  | succ k1 =>
   have H := HA.out
   clear HA
   simp only [spec_l5Own.l0] at H
   by_cases c8 : x4_1 < (l0_0.length : Int)
   ·rw [if_pos c8] at H
    have c8b0 : decide (x4_1 < (l0_0.length : Int)) = true := decide_eq_true c8
    clear c8
    by_cases c9 : 0 ≤ x4_1
    ·rw [if_pos c9] at H
     have c9b0 : decide (0 ≤ x4_1) = true := decide_eq_true c9
     clear c9
     replace H := Option.bind_eq_some_iff.mp H
     obtain ⟨t304, A100, H⟩ := H
     try dsimp only at H
     have A10 := Aside0.mk A100
     clear A100
     by_cases c11 : x303000_1.length < 5864062014805
     ·rw [if_pos c11] at H
      have LMc11 := Aside0.mk c11
      clear c11
      obtain ⟨y307, hy307⟩ : ∃ y_ : List (List Int), y_ = (x303000_1 ++ [t304]) := ⟨_, rfl⟩
      replace H : (spec_l5Own.l0 k1 (wrap64 (x4_1 + 1)) l0_0 y307) = some r := by first | (rw [hy307]; with_reducible exact H) | (have H2_ := (Option.bind_some _ _).symm.trans H; rw [hy307]; with_reducible exact H2_) | (have H2_ := (Option.bind_some _ _).symm.trans H; with_reducible exact H2_) | with_reducible exact H | (rw [hy307]; exact H) | exact H
      have Ny307 := Aside0.mk hy307
      clear hy307
      have H' := Aside0.mk H
      clear H
      have hnb12 := NB0_1.out
      have hnc12 := NB1_0.out
      have hnb13 := NB0_2.out
      have hnc13 := NB2_0.out
      have hcz14_0 : wr.cell? ⟨gb0, 0, none⟩ = some (.slice A0_0 l0_0.length c0_0) := (blk_cell BK0.out 0).trans rfl
      have hfz14_0 := blk_frozen BK0.out 0
      try go_wp2
      replace HO_303000 := Aside0.mk (Kd.S_drew HO_303000.out)
      replace BK0 := Aside0.mk (blk_drew BK0.out)
      replace BK1 := Aside0.mk (blk_drew BK1.out)
      replace BK2 := Aside0.mk (blk_drew BK2.out)
      replace HB := Aside0.mk (below_drew1 HB.out)
      have p303 : 0 ≤ (x4_1 : Int) := of_decide_eq_true Yh_
      have q303 : x4_1 < (l0_0.length : Int) := of_decide_eq_true Yh_
      obtain ⟨ad303, A303_0, c303_0, e303, hx303_0, hl303_0, hi303_0⟩ := Cj HR0_0.out x4_1 p303 q303
      have hw303_0 := hx303_0
      cases e303
      replace hx303_0 := (HB.out.cell (World.block_lt_of_cell? w _ hx303_0)).trans hx303_0
      have HR303_0 := Aside0.mk hi303_0
      have HC303_0 := Aside0.mk hl303_0
      clear hi303_0 hl303_0
      replace p303 := eq_true p303
      replace q303 := eq_true q303
      refine start_ (n := 12) (S := fun w' => w'.cell? ⟨gb2, 0, none⟩ = some (u303000) ∧ w'.cell? ⟨gb0, 0, none⟩ = some (.slice (some ad303) l0_0.length c0_0) ∧ w'.cell? (ad303.add (x4_1).toNat) = some (.slice A303_0 (rd_L1 l0_0 x4_1).length c303_0)) (ds := [11]) #[false, false, false, false, false, false, false, false, false, false, false, false] Ybb_ rfl rfl ⟨(blk_cell BK2.out 0).trans rfl, (blk_cell BK0.out 0).trans rfl, ((HB.out.cell (World.block_lt_of_cell? w _ hw303_0)).trans hw303_0)⟩ (fun hHeld => ?_); refine with_tabW spec_l5Own.tab5 spec_l5Own.bits5 (fun HT_ HW_ => ?_)
      generalize wr.drew = w15 at HO_303000 BK0 BK1 BK2 HB HR303_0 hx303_0 hHeld ⊢
      refine pure_ (i := 0) (N := some 13) #[true, false, false, false, false, false, false, false, false, false, false, false] rfl rfl (any_of HT_.out Ybb_) (fun _ _ _ h => h) (Or.inl ⟨by rfl, Ybg_⟩) Ya_ ?_
      refine pure_ (i := 2) (N := some 15) #[true, false, true, false, false, false, false, false, false, false, false, false] rfl rfl (any_of HT_.out Ybb_) (fun _ _ _ h => h) (Or.inl ⟨by rfl, Ybg_⟩) Ya_ ?_
      refine pure_ (i := 4) (N := some 17) #[true, false, true, false, true, false, false, false, false, false, false, false] rfl rfl (any_of HT_.out Ybb_) (fun _ _ _ h => h) (Or.inl ⟨by rfl, Ybg_⟩) Ya_ ?_
      refine take_ (i := 1) (N := some 14) #[true, true, true, false, true, false, false, false, false, false, false, false] rfl rfl (take_ofW HT_.out HW_.out Ybb_) (fun _ _ _ h => h) (Or.inl ⟨by rfl, Yfb_⟩) hHeld Ya_ ?_
      refine take_ (i := 3) (N := some 16) #[true, true, true, true, true, false, false, false, false, false, false, false] rfl rfl (take_ofW HT_.out HW_.out Ybb_) (fun _ _ _ h => h) (Or.inl ⟨by rfl, Yfb_⟩) hHeld Ya_ ?_
      refine pure_ (i := 5) (N := some 18) #[true, true, true, true, true, true, false, false, false, false, false, false] rfl rfl (any_of HT_.out Ybb_) (fun _ _ _ h => h) (Or.inl ⟨by rfl, Ybg_⟩) Ya_ ?_
      refine take_ (i := 6) (N := some 19) #[true, true, true, true, true, true, true, false, false, false, false, false] rfl rfl (take_ofW HT_.out HW_.out Ybb_) (fun _ _ _ h => h) (Or.inl ⟨by rfl, Yfb_⟩) hHeld Ya_ ?_
      refine one_ (i := 7) (N := some 20) #[true, true, true, true, true, true, true, true, false, false, false, false] rfl rfl (one_of HT_.out Ybb_) (by decide) (fun K hK => ?_)
      refine goes_ Try.func72 Ybb_ rfl #[.slice A303_0 (rd_L1 l0_0 x4_1).length c303_0] (by rfl) rfl rfl Yj_ ?_
      with_reducible refine (Dh.calls _ _ (rd_L1 l0_0 x4_1) t304 _ ?side1 ?side2 A10.out).mono ?_
      (case side1 => repeat (first | exact (Kd.C_below HR303_0.out HB.out) | (with_reducible refine Kd.C_alloc ?_ _) | (with_reducible refine Kd.C_drewN ?_ _) | (with_reducible refine Kd.C_drew ?_)))
      (case side2 => exact HC303_0.out)
      rintro e w16 ⟨v305, rfl, ho0, hb⟩
      refine ⟨_, rfl, ?_⟩
      replace HO_303000 := Aside0.mk (Kd.S_elder' (by (with_reducible repeat (first | apply Kd.S_alloc | apply Kd.S_drewN | apply Kd.S_drew)); exact HO_303000.out) (Kd.R_base ho0) hb)
      have HO306 := Aside0.mk (Kd.R_lower ho0 (below_size Ye_))
      replace BK0 := Aside0.mk (blk_below (g := gb0) (o := .cells #[.slice (some ad303) l0_0.length c0_0] 31 (0, 0)) Yc_ hb)
      replace BK1 := Aside0.mk (blk_below (g := gb1) (o := .cells #[.slice none 0 0] 31 (0, 0)) Yg_ hb)
      replace BK2 := Aside0.mk (blk_below (g := gb2) (o := .cells #[u303000] 31 (0, 0)) Ybd_ hb)
      replace HB := Aside0.mk (below_step Ye_ hb)
      (try clear hb)
      (try clear hb2)
      (try clear hk)
      (try clear hi)
      (try clear ho0)
      obtain ⟨Ao18, co18, eo18⟩ := Kd.Dc HO306.out
      (first | subst eo18 | (injection eo18 with f1_ f2_ f3_; have f4_ := f1_.symm; have f5_ := f3_.symm; clear f1_ f2_ f3_; subst f4_; subst f5_))
      refine hK.out _ _ ⟨(blk_cell BK2.out 0).trans rfl, (blk_cell BK0.out 0).trans rfl, ((HB.out.cell (World.block_lt_of_cell? w _ hw303_0)).trans hw303_0)⟩ (fun hHeld => ?_)
      clear hK K
      refine norm_ (show Act.put _ (some 20) _ = _ from Ya_) ?_
      refine one_ (i := 8) (N := some 21) #[true, true, true, true, true, true, true, true, true, false, false, false] rfl rfl (one_of HT_.out Ybb_) (by decide) (fun K hK => ?_)
      refine value_ (w1 := ?_) (v := ?_) (by rfl) rfl ?_ ?_
      rotate_left 2
      ·go_simp
       constructor
       ·rfl
       ·rfl
      refine hK.out _ _ ⟨(blk_cell (blk_alloc BK2.out _) 0).trans rfl, (blk_cell (blk_alloc BK0.out _) 0).trans rfl, (World.cell?_alloc_lt _ _ _ (World.block_lt_of_cell? _ _ (((HB.out.cell (World.block_lt_of_cell? w _ hw303_0)).trans hw303_0)))).trans (((HB.out.cell (World.block_lt_of_cell? w _ hw303_0)).trans hw303_0))⟩ (fun hHeld => ?_)
      clear hK K
      refine norm_ (show Act.put _ (some 21) _ = _ from Ya_) ?_
      refine one_ (i := 9) (N := some 22) #[true, true, true, true, true, true, true, true, true, true, false, false] rfl rfl (one_of HT_.out Ybb_) (by decide) (fun K hK => ?_)
      refine Kd.Gp (Kd.slice 3 (Kd.int .i64)) (w0 := w) w.heap.size (by rfl) (.tmp 14) (.tmp 21) 22 73 (.slice none 0 0) 24 rfl Try.underlying22 info73 rfl (by decide) (by omega) u303000 x303000_1 t304 [.slice Ao18 t304.length co18] (fun _ => True) (fun k_ => some k_ = (.slice Ao18 t304.length co18 : Value).ownBlock) rfl rfl ?aP (fun k_ hk_ => ((Kd.Dl (ok' := fun k_ => ((fun _ => True)) k_ ∧ some k_ ≠ (u303000 : Value).ownBlock) (Kd.Fv (HO306.out) (Kd.Gf HO_303000.out) (by decide)) (fun k_ hk => ⟨trivial, hk.2⟩))).1 k_ hk_.symm) ?aF ?aO ?aB ?aS ?aL ?_
      (case aP => exact Kd.M_row (Kd.Dl (Kd.R_tight rfl (Kd.Dl (ok' := fun k_ => ((fun _ => True)) k_ ∧ some k_ ≠ (u303000 : Value).ownBlock) (Kd.Fv (HO306.out) (Kd.Gf HO_303000.out) (by decide)) (fun k_ hk => ⟨trivial, hk.2⟩))) (fun _ h_ => h_)))
      (case aB => exact Ye_)
      (case aF => exact (fun _ _ => trivial))
      (case aO => exact (by (with_reducible repeat (first | apply Kd.S_alloc | apply Kd.S_drewN | apply Kd.S_drew)); exact Kd.S_mono HO_303000.out (fun k_ hk => ⟨trivial, fun e_ => hk.2 e_⟩)))
      (case aS => exact (below_size Ye_))
      (case aL => have := LMc11.out; omega)
      intro v308 w17 ho hb hg hat
      rw [← Ny307.out] at ho
      replace BK0 := Aside0.mk (C9 (g := gb0) (o := .cells #[.slice (some ad303) l0_0.length c0_0] 31 (0, 0)) Yc_ hg (Kd.S_ne HO_303000.out BK0.out (by decide)))
      replace BK1 := Aside0.mk (C9 (g := gb1) (o := .cells #[.slice none 0 0] 31 (0, 0)) Yg_ hg (Kd.S_ne HO_303000.out BK1.out (by decide)))
      replace BK2 := Aside0.mk (C9 (g := gb2) (o := .cells #[u303000] 31 (0, 0)) Ybd_ hg (Kd.S_ne HO_303000.out BK2.out (by decide)))
      replace HB := Aside0.mk (hb)
      have HO309 := Aside0.mk (ho)
      clear HO_303000
      clear HO306
      clear ho hb hg hat
      obtain ⟨Ao19, co19, eo19⟩ := Kd.S_slice HO309.out
      (first | subst eo19 | (injection eo19 with f1_ f2_ f3_; have f4_ := f1_.symm; have f5_ := f3_.symm; clear f1_ f2_ f3_; subst f4_; subst f5_))
      refine hK.out _ _ ⟨(blk_cell BK2.out 0).trans rfl, (blk_cell BK0.out 0).trans rfl, ((HB.out.cell (World.block_lt_of_cell? w _ hw303_0)).trans hw303_0)⟩ (fun hHeld => ?_)
      clear hK K
      refine norm_ (show Act.put _ (some 22) _ = _ from Ya_) ?_
      refine pure_ (i := 10) (N := some 23) #[true, true, true, true, true, true, true, true, true, true, true, false] rfl rfl (any_of HT_.out Ybb_) (fun _ _ _ h => h) (Or.inl ⟨by rfl, Ybg_⟩) Ya_ ?_
      refine last_ (i := 11) (N := none) #[true, true, true, true, true, true, true, true, true, true, true, true] rfl rfl (one_of HT_.out Ybb_) (by decide) (fun K hK => ?_)
      have hs20 : w17.cell? ⟨gb2, 0, none⟩ = some (u303000) := (blk_cell BK2.out 0).trans rfl
      have hfs20 := blk_frozen BK2.out 0
      have hns20_0 := NB0_2.out
      have hns20_1 := NB1_2.out
      have hms20_0 := NB2_0.out
      have hms20_1 := NB2_1.out
      refine skip_ (w1 := ?_) (by rfl) rfl ?_ ?_
      rotate_left
      ·go_simp
       rfl
      refine hK.out _ _ ?_
      clear hK K
      refine done_ (done_of HT_.out Ybb_) ?_
      try go_wp2
      go_roundg k1
      case measure => have := HK1.out; omega
      case rel => exact ⟨(wrap64 (x4_1 + 1)), (y307), (.slice Ao19 y307.length co19), Ybe_, H', ⟨by have := HK1.out; omega⟩, ⟨by (with_reducible repeat (first | apply Kd.S_alloc | apply Kd.S_drewN | apply Kd.S_drew)); exact Kd.S_mono (Kd.S_far (p := ⟨gb2, 0, none⟩) (Kd.S_types HO309.out BK2.out (by decide)) (fun _ hk => hk.2) (.slice Ao19 y307.length co19)) (fun _ hk => trivial)⟩, ⟨by (with_reducible repeat (first | apply blk_drewN | apply blk_drew | apply blk_alloc)); refine Ai ?_ NB0_2.out _; (with_reducible repeat (first | apply blk_drewN | apply blk_drew | apply blk_alloc)); exact BK0.out⟩, ⟨by (with_reducible repeat (first | apply blk_drewN | apply blk_drew | apply blk_alloc)); refine Ai ?_ NB1_2.out _; (with_reducible repeat (first | apply blk_drewN | apply blk_drew | apply blk_alloc)); exact BK1.out⟩, ⟨by (with_reducible repeat (first | apply blk_drewN | apply blk_drew | apply blk_alloc)); refine blk_put (cs := #[u303000]) ?_ 0 _ rfl; (with_reducible repeat (first | apply blk_drewN | apply blk_drew | apply blk_alloc)); exact BK2.out⟩, ⟨by repeat (first | (with_reducible first | exact HB.out | apply below_alloc | apply pw_below_drewN | apply below_drew1 | refine below_set ?_ GE0.out | refine below_set ?_ GE1.out | refine below_set ?_ GE2.out) | exact HB.out)⟩⟩
     ·rw [if_neg c11] at H
      exact absurd H (by simp)
    ·rw [if_neg c9] at H
     exact absurd H (by simp)
   ·rw [if_neg c8] at H
    have c8b0 : decide (x4_1 < (l0_0.length : Int)) = false := decide_eq_false c8
    clear c8
    obtain rfl := Option.some.inj H
    have hnb21 := NB0_1.out
    have hnc21 := NB1_0.out
    have hnb22 := NB0_2.out
    have hnc22 := NB2_0.out
    have hcz23_0 : wr.cell? ⟨gb0, 0, none⟩ = some (.slice A0_0 l0_0.length c0_0) := (blk_cell BK0.out 0).trans rfl
    have hfz23_0 := blk_frozen BK0.out 0
    have hnb24 := NB2_1.out
    have hnc24 := NB1_2.out
    have hcz25_0 : wr.cell? ⟨gb2, 0, none⟩ = some (u303000) := (blk_cell BK2.out 0).trans rfl
    have hfz25_0 := blk_frozen BK2.out 0
    obtain ⟨Ao26, co26, eo26⟩ := Kd.S_slice HO_303000.out
    subst eo26
    have hcz27_0 : wr.cell? ⟨gb1, 0, none⟩ = some (.slice none 0 0) := (blk_cell BK1.out 0).trans rfl
    have hfz27_0 := blk_frozen BK1.out 0
    go_wp2
    refine bodyPost_ret (results_cell_row rfl _ _ gb1 31 #[.slice Ao26 x303000_1.length co26] (0, 0) _ rfl Yfh_ Try.underlying31 rfl Ybb_) rfl ?_
    exact ⟨_, Yi_, (by (with_reducible repeat (first | apply Kd.S_alloc | apply Kd.S_drewN | apply Kd.S_drew)); exact Kd.S_mono (Kd.S_far (p := ⟨gb1, 0, none⟩) (Kd.S_types HO_303000.out BK1.out (by decide)) (fun _ hk => hk.2) (.slice Ao26 x303000_1.length co26)) (fun _ hk => trivial)), Ye_⟩
def spec_l9Own.l0 : Nat → Int → Int → List (List Int) → Int → List (List Int) → Option (Int × (List (List Int)))
 | 0, _, _, _, _, _ => none
 | k + 1, x4, x311000, x311001, x313000, x313001 => if x4 < (x311001.length : Int) then (if 0 ≤ x4 then ((Dh.f (rd_L1 x311001 x4)).bind fun t314 => (if x313001.length < 5864062014805 then (spec_l9Own.l0 k (wrap64 (x4 + 1)) x311000 x311001 x313000 (x313001 ++ [t314])) else (none))) else (none)) else (some (x313000, x313001))
def spec_l9Own.f (k : Nat) (a0_0 : Int) (l0_1 : List (List Int)) : Option (Int × (List (List Int))) := spec_l9Own.l0 k 0 a0_0 l0_1 a0_0 ([] : List (List Int))
theorem spec_l9Own.mono_l : ∀ k, (∀ y0 y1 y2 y3 y4, LeO (spec_l9Own.l0 k y0 y1 y2 y3 y4) (spec_l9Own.l0 (k + 1) y0 y1 y2 y3 y4))
 | 0 => fun _ _ _ _ _ r h => by simp [spec_l9Own.l0] at h
 | k + 1 => by
  have ih0 := spec_l9Own.mono_l k
  ·intro y0 y1 y2 y3 y4
   unfold spec_l9Own.l0
   repeat' first
   | (with_reducible exact ih0 _ _ _ _ _)
   | (with_reducible exact LeO.refl _)
   | (with_reducible exact LeO.none _)
   | (with_reducible refine LeO.ite ?_ ?_)
   | (with_reducible refine LeO.bind ?_ (fun _ => ?_))
   | exact ih0 _ _ _ _ _
   | exact LeO.none _
   | refine LeO.ite ?_ ?_
   | refine LeO.bind ?_ (fun _ => ?_)
theorem spec_l9Own.mono : ∀ a0 a1 k, LeO (spec_l9Own.f k a0 a1) (spec_l9Own.f (k + 1) a0 a1) := by
 intro a0 a1 k
 have ih0 := spec_l9Own.mono_l k
 unfold spec_l9Own.f
 repeat' first
   | (with_reducible exact ih0 _ _ _ _ _)
   | (with_reducible exact LeO.refl _)
   | (with_reducible exact LeO.none _)
   | (with_reducible refine LeO.ite ?_ ?_)
   | (with_reducible refine LeO.bind ?_ (fun _ => ?_))
   | exact ih0 _ _ _ _ _
   | exact LeO.none _
   | refine LeO.ite ?_ ?_
   | refine LeO.bind ?_ (fun _ => ?_)
def spec_l9Own.T5 : Bool × List (List Nat × List Nat) := (true, [([], []), ([0], [0]), ([], []), ([2], [2]), ([], []), ([3, 4], [3, 4]), ([5], [5]), ([6], [6]), ([7], [7]), ([1, 8, 7], [1, 8]), ([0, 1, 2, 3, 4, 5, 6, 7, 8, 9], []), ([10, 9, 9, 0, 1, 2, 3, 4, 5, 6, 7, 8, 9], [9, 10])])
def spec_l9Own.B5 : List Nat := [0, 1, 0, 4, 0, 28, 60, 124, 252, 511, 1023, 2047]
theorem spec_l9Own.tab5 : rtab .any (opsOf Try.f79 5) = spec_l9Own.T5 := by kernel_rfl
theorem spec_l9Own.bits5 : waitsOk spec_l9Own.T5.2 spec_l9Own.B5 = true := by kernel_rfl
set_option maxHeartbeats 8000000 in
set_option maxRecDepth 100000 in
theorem spec_l9Own.calls (k : Nat) (a0_0 : Int) (A0_1 : Option Addr) (c0_1 : Nat) (l0_1 : List (List Int)) (r1 : Int) (r2 : List (List Int)) (w : World) (hr0_1 : Kd.C (Kd.slice 3 (Kd.int .i64)) w A0_1 l0_1.length l0_1) (hc0_1 : l0_1.length ≤ c0_1) (h : spec_l9Own.f k a0_0 l0_1 = some (r1, r2)) :
  Calls Try.prog 79 #[.agg #[.int .i64 a0_0, .slice A0_1 l0_1.length c0_1]] w fun e w' => ∃ v1_ : Value, e = .returned (.agg #[.int .i64 r1, v1_]) ∧ Kd.S (Kd.slice 3 (Kd.int .i64)) 73 w' w.heap.size (fun _ => True) v1_ r2 ∧ Below w.heap.size w w' := by
 have hu32 := Try.underlying32
 have HR0_1 := Aside0.mk hr0_1
 have HC0_1 := Aside0.mk hc0_1
 clear hr0_1 hc0_1
 have HB := Aside0.mk (Below.refl w.heap.size w)
 have H : (spec_l9Own.l0 k 0 a0_0 l0_1 a0_0 ([] : List (List Int))) = some (r1, r2) := h
 clear h
 have H' := Aside0.mk H
 clear H
 go_enter Try.func79, Try.ntmps79
 go_wp2_with (first | ((with_reducible refine gate_dst (N := 1) rfl ?_); refine box_event (by rfl) (N := 1) (by rfl) (cs := #[.int .i64 a0_0, .slice A0_1 l0_1.length c0_1]) (t := 32) Ybf_ ?_; intro gb0 hg w2 hbox hb; have BK0 := Aside0.mk (hbox); have GW0 := Aside0.mk ((by rw [hg]; exact (below_size Yb_) : w.heap.size ≤ gb0)); have GE0 := Aside0.mk ((by rw [hg]; exact (below_size Yb_) : w.heap.size ≤ gb0)); replace HB := Aside0.mk (below_step Yb_ hb); clear hb hbox hg) | ((with_reducible refine gate_dst (N := 2) rfl ?_); refine box_event (by rfl) (N := 2) (by rfl) (cs := #[.int .i64 0, .slice none 0 0]) (t := 32) Ybf_ ?_; intro gb1 hg w3 hbox hb; have BK1 := Aside0.mk (hbox); have GW1 := Aside0.mk ((by rw [hg]; exact (below_size Yd_) : w.heap.size ≤ gb1)); have GE1 := Aside0.mk ((by rw [hg]; exact (below_size Yd_) : w.heap.size ≤ gb1)); replace HB := Aside0.mk (below_step Yd_ hb); have NB0_1 := Aside0.mk ((by rw [hg]; exact Nat.ne_of_lt (blk_lt (g := gb0) (o := .cells #[.int .i64 a0_0, .slice A0_1 l0_1.length c0_1] 32 (0, 0)) Yc_) : gb0 ≠ gb1)); have NB1_0 := Aside0.mk ((by rw [hg]; exact Nat.ne_of_gt (blk_lt (g := gb0) (o := .cells #[.int .i64 a0_0, .slice A0_1 l0_1.length c0_1] 32 (0, 0)) Yc_) : gb1 ≠ gb0)); replace BK0 := Aside0.mk (blk_below (g := gb0) (o := .cells #[.int .i64 a0_0, .slice A0_1 l0_1.length c0_1] 32 (0, 0)) Yc_ hb); clear hb hbox hg; have hnb4 := NB0_1.out; have hnc4 := NB1_0.out; obtain ⟨hcz5_0, hcz5_1⟩ := cl2_ BK0.out; obtain ⟨hfz5_0, hfz5_1⟩ := fz2_ BK0.out) | ((with_reducible refine gate_dst (N := 3) rfl ?_); refine box_event (by rfl) (N := 3) (by rfl) (cs := #[.int .i64 0, .slice none 0 0]) (t := 32) Ybf_ ?_; intro gb2 hg w6 hbox hb; have BK2 := Aside0.mk (hbox); have GW2 := Aside0.mk ((by rw [hg]; exact (below_size Yf_) : w.heap.size ≤ gb2)); have GE2 := Aside0.mk ((by rw [hg]; exact (below_size Yf_) : w.heap.size ≤ gb2)); replace HB := Aside0.mk (below_step Yf_ hb); have NB0_2 := Aside0.mk ((by rw [hg]; exact Nat.ne_of_lt (blk_lt (g := gb0) (o := .cells #[.int .i64 a0_0, .slice A0_1 l0_1.length c0_1] 32 (0, 0)) Yc_) : gb0 ≠ gb2)); have NB2_0 := Aside0.mk ((by rw [hg]; exact Nat.ne_of_gt (blk_lt (g := gb0) (o := .cells #[.int .i64 a0_0, .slice A0_1 l0_1.length c0_1] 32 (0, 0)) Yc_) : gb2 ≠ gb0)); replace BK0 := Aside0.mk (blk_below (g := gb0) (o := .cells #[.int .i64 a0_0, .slice A0_1 l0_1.length c0_1] 32 (0, 0)) Yc_ hb); have NB1_2 := Aside0.mk ((by rw [hg]; exact Nat.ne_of_lt (blk_lt (g := gb1) (o := .cells #[.int .i64 0, .slice none 0 0] 32 (0, 0)) Yg_) : gb1 ≠ gb2)); have NB2_1 := Aside0.mk ((by rw [hg]; exact Nat.ne_of_gt (blk_lt (g := gb1) (o := .cells #[.int .i64 0, .slice none 0 0] 32 (0, 0)) Yg_) : gb2 ≠ gb1)); replace BK1 := Aside0.mk (blk_below (g := gb1) (o := .cells #[.int .i64 0, .slice none 0 0] 32 (0, 0)) Yg_ hb); clear hb hbox hg; have hnb7 := NB2_0.out; have hnc7 := NB0_2.out; have hnb8 := NB2_1.out; have hnc8 := NB1_2.out; obtain ⟨hcz9_0, hcz9_1⟩ := cl2_ BK2.out; obtain ⟨hfz9_0, hfz9_1⟩ := fz2_ BK2.out))
 go_loopg [4] k (fun kq v4 w' => ∃ (x4_1 : Int) (x313001_1 : List (List Int)) (u313001 : Value), v4 = .int .i64 x4_1 ∧ Aside0 (spec_l9Own.l0 kq x4_1 a0_0 l0_1 a0_0 x313001_1 = some (r1, r2)) ∧ Aside0 (kq ≤ k) ∧ Aside0 (Kd.S (Kd.slice 3 (Kd.int .i64)) 73 w' w.heap.size (fun _ => True) u313001 x313001_1) ∧ Aside0 (w'.heap[gb0]? = some (.cells #[.int .i64 a0_0, (.slice A0_1 l0_1.length c0_1)] 32 (0, 0))) ∧ Aside0 (w'.heap[gb1]? = some (.cells #[.int .i64 0, (.slice none 0 0)] 32 (0, 0))) ∧ Aside0 (w'.heap[gb2]? = some (.cells #[.int .i64 a0_0, u313001] 32 (0, 0))) ∧ Aside0 (Below w.heap.size w w'))
 case atStart => exact ⟨(0), (([] : List (List Int))), (.slice none 0 0), Ybe_, H', ⟨Nat.le_refl _⟩, ⟨by first | exact Kd.S_nil _ _ _ _ _ | exact Kd.N_nil _ _ _ _ _ | exact Kd.V_nil _ _ _ _ _ | exact Kd.Q_nil _ _ _ _ _ | exact Kd.R_nil _ _ _ _ _⟩, ⟨by (with_reducible repeat (first | apply blk_drewN | apply blk_drew | apply blk_alloc)); refine Ai ?_ NB0_2.out _; (with_reducible repeat (first | apply blk_drewN | apply blk_drew | apply blk_alloc)); refine Ai ?_ NB0_2.out _; (with_reducible repeat (first | apply blk_drewN | apply blk_drew | apply blk_alloc)); exact BK0.out⟩, ⟨by (with_reducible repeat (first | apply blk_drewN | apply blk_drew | apply blk_alloc)); refine Ai ?_ NB1_2.out _; (with_reducible repeat (first | apply blk_drewN | apply blk_drew | apply blk_alloc)); refine Ai ?_ NB1_2.out _; (with_reducible repeat (first | apply blk_drewN | apply blk_drew | apply blk_alloc)); exact BK1.out⟩, ⟨by (with_reducible repeat (first | apply blk_drewN | apply blk_drew | apply blk_alloc)); refine blk_put (cs := #[.int .i64 a0_0, .slice none 0 0]) ?_ 1 _ rfl; (with_reducible repeat (first | apply blk_drewN | apply blk_drew | apply blk_alloc)); refine blk_put (cs := #[.int .i64 0, .slice none 0 0]) ?_ 0 _ rfl; (with_reducible repeat (first | apply blk_drewN | apply blk_drew | apply blk_alloc)); exact BK2.out⟩, ⟨by repeat (first | (with_reducible first | exact HB.out | apply below_alloc | apply pw_below_drewN | apply below_drew1 | refine below_set ?_ GE0.out | refine below_set ?_ GE1.out | refine below_set ?_ GE2.out) | exact HB.out)⟩⟩
 case round =>
  clear H'
  try clear p2; try clear c4; try clear c7; try clear c8; try clear hcz5_0; try clear hcz5_1; try clear hcz9_0; try clear hcz9_1; try clear hfz5_0; try clear hfz5_1; try clear hfz9_0; try clear hfz9_1
  obtain ⟨x4_1, x313001_1, u313001, rfl, HA, HK1, HO_313001, BK0, BK1, BK2, HB⟩ := hrel
  cases gk with
  | zero => exact absurd HA.out (by simp [spec_l9Own.l0])
  | succ k1 =>
   have H := HA.out
   clear HA
   simp only [spec_l9Own.l0] at H
   by_cases c10 : x4_1 < (l0_1.length : Int)
   ·rw [if_pos c10] at H
    have c10b0 : decide (x4_1 < (l0_1.length : Int)) = true := decide_eq_true c10
    clear c10
    by_cases c11 : 0 ≤ x4_1
    ·rw [if_pos c11] at H
     have c11b0 : decide (0 ≤ x4_1) = true := decide_eq_true c11
     clear c11
     replace H := Option.bind_eq_some_iff.mp H
     obtain ⟨t314, A120, H⟩ := H
     try dsimp only at H
     have A12 := Aside0.mk A120
     clear A120
     by_cases c13 : x313001_1.length < 5864062014805
     ·rw [if_pos c13] at H
      have LMc13 := Aside0.mk c13
      clear c13
      obtain ⟨y317, hy317⟩ : ∃ y_ : List (List Int), y_ = (x313001_1 ++ [t314]) := ⟨_, rfl⟩
      replace H : (spec_l9Own.l0 k1 (wrap64 (x4_1 + 1)) a0_0 l0_1 a0_0 y317) = some (r1, r2) := by first | (rw [hy317]; with_reducible exact H) | (have H2_ := (Option.bind_some _ _).symm.trans H; rw [hy317]; with_reducible exact H2_) | (have H2_ := (Option.bind_some _ _).symm.trans H; with_reducible exact H2_) | with_reducible exact H | (rw [hy317]; exact H) | exact H
      have Ny317 := Aside0.mk hy317
      clear hy317
      have H' := Aside0.mk H
      clear H
      have hnb14 := NB0_1.out
      have hnc14 := NB1_0.out
      have hnb15 := NB0_2.out
      have hnc15 := NB2_0.out
      obtain ⟨hcz16_0, hcz16_1⟩ := cl2_ BK0.out
      obtain ⟨hfz16_0, hfz16_1⟩ := fz2_ BK0.out
      try go_wp2
      replace HO_313001 := Aside0.mk (Kd.S_drew HO_313001.out)
      replace BK0 := Aside0.mk (blk_drew BK0.out)
      replace BK1 := Aside0.mk (blk_drew BK1.out)
      replace BK2 := Aside0.mk (blk_drew BK2.out)
      replace HB := Aside0.mk (below_drew1 HB.out)
      have p313 : 0 ≤ (x4_1 : Int) := of_decide_eq_true Yh_
      have q313 : x4_1 < (l0_1.length : Int) := of_decide_eq_true Yh_
      obtain ⟨ad313, A313_0, c313_0, e313, hx313_0, hl313_0, hi313_0⟩ := Cj HR0_1.out x4_1 p313 q313
      have hw313_0 := hx313_0
      cases e313
      replace hx313_0 := (HB.out.cell (World.block_lt_of_cell? w _ hx313_0)).trans hx313_0
      have HR313_0 := Aside0.mk hi313_0
      have HC313_0 := Aside0.mk hl313_0
      clear hi313_0 hl313_0
      replace p313 := eq_true p313
      replace q313 := eq_true q313
      refine start_ (n := 12) (S := fun w' => w'.cell? ⟨gb2, 0, none⟩ = some (.int .i64 a0_0) ∧ w'.cell? ⟨gb2, 1, none⟩ = some (u313001) ∧ w'.cell? ⟨gb0, 0, none⟩ = some (.int .i64 a0_0) ∧ w'.cell? ⟨gb0, 1, none⟩ = some (.slice (some ad313) l0_1.length c0_1) ∧ w'.cell? (ad313.add (x4_1).toNat) = some (.slice A313_0 (rd_L1 l0_1 x4_1).length c313_0)) (ds := [11]) #[false, false, false, false, false, false, false, false, false, false, false, false] Ybb_ rfl rfl ⟨(blk_cell BK2.out 0).trans rfl, (blk_cell BK2.out 1).trans rfl, (blk_cell BK0.out 0).trans rfl, (blk_cell BK0.out 1).trans rfl, ((HB.out.cell (World.block_lt_of_cell? w _ hw313_0)).trans hw313_0)⟩ (fun hHeld => ?_); refine with_tabW spec_l9Own.tab5 spec_l9Own.bits5 (fun HT_ HW_ => ?_)
      generalize wr.drew = w17 at HO_313001 BK0 BK1 BK2 HB HR313_0 hx313_0 hHeld ⊢
      refine pure_ (i := 0) (N := some 15) #[true, false, false, false, false, false, false, false, false, false, false, false] rfl rfl (any_of HT_.out Ybb_) (fun _ _ _ h => h) (Or.inl ⟨by rfl, Ybg_⟩) Ya_ ?_
      refine pure_ (i := 2) (N := some 17) #[true, false, true, false, false, false, false, false, false, false, false, false] rfl rfl (any_of HT_.out Ybb_) (fun _ _ _ h => h) (Or.inl ⟨by rfl, Ybg_⟩) Ya_ ?_
      refine pure_ (i := 4) (N := some 19) #[true, false, true, false, true, false, false, false, false, false, false, false] rfl rfl (any_of HT_.out Ybb_) (fun _ _ _ h => h) (Or.inl ⟨by rfl, Ybg_⟩) Ya_ ?_
      refine take_ (i := 1) (N := some 16) #[true, true, true, false, true, false, false, false, false, false, false, false] rfl rfl (take_ofW HT_.out HW_.out Ybb_) (fun _ _ _ h => h) (Or.inl ⟨by rfl, Ydg_⟩) hHeld Ya_ ?_
      refine take_ (i := 3) (N := some 18) #[true, true, true, true, true, false, false, false, false, false, false, false] rfl rfl (take_ofW HT_.out HW_.out Ybb_) (fun _ _ _ h => h) (Or.inl ⟨by rfl, Ydg_⟩) hHeld Ya_ ?_
      refine pure_ (i := 5) (N := some 20) #[true, true, true, true, true, true, false, false, false, false, false, false] rfl rfl (any_of HT_.out Ybb_) (fun _ _ _ h => h) (Or.inl ⟨by rfl, Ybg_⟩) Ya_ ?_
      refine take_ (i := 6) (N := some 21) #[true, true, true, true, true, true, true, false, false, false, false, false] rfl rfl (take_ofW HT_.out HW_.out Ybb_) (fun _ _ _ h => h) (Or.inl ⟨by rfl, Ydg_⟩) hHeld Ya_ ?_
      refine one_ (i := 7) (N := some 22) #[true, true, true, true, true, true, true, true, false, false, false, false] rfl rfl (one_of HT_.out Ybb_) (by decide) (fun K hK => ?_)
      refine goes_ Try.func72 Ybb_ rfl #[.slice A313_0 (rd_L1 l0_1 x4_1).length c313_0] (by rfl) rfl rfl Yj_ ?_
      with_reducible refine (Dh.calls _ _ (rd_L1 l0_1 x4_1) t314 _ ?side1 ?side2 A12.out).mono ?_
      (case side1 => repeat (first | exact (Kd.C_below HR313_0.out HB.out) | (with_reducible refine Kd.C_alloc ?_ _) | (with_reducible refine Kd.C_drewN ?_ _) | (with_reducible refine Kd.C_drew ?_)))
      (case side2 => exact HC313_0.out)
      rintro e w18 ⟨v315, rfl, ho0, hb⟩
      refine ⟨_, rfl, ?_⟩
      replace HO_313001 := Aside0.mk (Kd.S_elder' (by (with_reducible repeat (first | apply Kd.S_alloc | apply Kd.S_drewN | apply Kd.S_drew)); exact HO_313001.out) (Kd.R_base ho0) hb)
      have HO316 := Aside0.mk (Kd.R_lower ho0 (below_size Ye_))
      replace BK0 := Aside0.mk (blk_below (g := gb0) (o := .cells #[.int .i64 a0_0, .slice (some ad313) l0_1.length c0_1] 32 (0, 0)) Yc_ hb)
      replace BK1 := Aside0.mk (blk_below (g := gb1) (o := .cells #[.int .i64 0, .slice none 0 0] 32 (0, 0)) Yg_ hb)
      replace BK2 := Aside0.mk (blk_below (g := gb2) (o := .cells #[.int .i64 a0_0, u313001] 32 (0, 0)) Ybd_ hb)
      replace HB := Aside0.mk (below_step Ye_ hb)
      (try clear hb)
      (try clear hb2)
      (try clear hk)
      (try clear hi)
      (try clear ho0)
      obtain ⟨Ao20, co20, eo20⟩ := Kd.Dc HO316.out
      (first | subst eo20 | (injection eo20 with f1_ f2_ f3_; have f4_ := f1_.symm; have f5_ := f3_.symm; clear f1_ f2_ f3_; subst f4_; subst f5_))
      refine hK.out _ _ ⟨(blk_cell BK2.out 0).trans rfl, (blk_cell BK2.out 1).trans rfl, (blk_cell BK0.out 0).trans rfl, (blk_cell BK0.out 1).trans rfl, ((HB.out.cell (World.block_lt_of_cell? w _ hw313_0)).trans hw313_0)⟩ (fun hHeld => ?_)
      clear hK K
      refine norm_ (show Act.put _ (some 22) _ = _ from Ya_) ?_
      refine one_ (i := 8) (N := some 23) #[true, true, true, true, true, true, true, true, true, false, false, false] rfl rfl (one_of HT_.out Ybb_) (by decide) (fun K hK => ?_)
      refine value_ (w1 := ?_) (v := ?_) (by rfl) rfl ?_ ?_
      rotate_left 2
      ·go_simp
       constructor
       ·rfl
       ·rfl
      refine hK.out _ _ ⟨(blk_cell (blk_alloc BK2.out _) 0).trans rfl, (blk_cell (blk_alloc BK2.out _) 1).trans rfl, (blk_cell (blk_alloc BK0.out _) 0).trans rfl, (blk_cell (blk_alloc BK0.out _) 1).trans rfl, (World.cell?_alloc_lt _ _ _ (World.block_lt_of_cell? _ _ (((HB.out.cell (World.block_lt_of_cell? w _ hw313_0)).trans hw313_0)))).trans (((HB.out.cell (World.block_lt_of_cell? w _ hw313_0)).trans hw313_0))⟩ (fun hHeld => ?_)
      clear hK K
      refine norm_ (show Act.put _ (some 23) _ = _ from Ya_) ?_
      refine one_ (i := 9) (N := some 24) #[true, true, true, true, true, true, true, true, true, true, false, false] rfl rfl (one_of HT_.out Ybb_) (by decide) (fun K hK => ?_)
      refine Kd.Gp (Kd.slice 3 (Kd.int .i64)) (w0 := w) w.heap.size (by rfl) (.tmp 16) (.tmp 23) 22 73 (.slice none 0 0) 24 rfl Try.underlying22 info73 rfl (by decide) (by omega) u313001 x313001_1 t314 [.slice Ao20 t314.length co20] (fun _ => True) (fun k_ => some k_ = (.slice Ao20 t314.length co20 : Value).ownBlock) rfl rfl ?aP (fun k_ hk_ => ((Kd.Dl (ok' := fun k_ => ((fun _ => True)) k_ ∧ some k_ ≠ (u313001 : Value).ownBlock) (Kd.Fv (HO316.out) (Kd.Gf HO_313001.out) (by decide)) (fun k_ hk => ⟨trivial, hk.2⟩))).1 k_ hk_.symm) ?aF ?aO ?aB ?aS ?aL ?_
      (case aP => exact Kd.M_row (Kd.Dl (Kd.R_tight rfl (Kd.Dl (ok' := fun k_ => ((fun _ => True)) k_ ∧ some k_ ≠ (u313001 : Value).ownBlock) (Kd.Fv (HO316.out) (Kd.Gf HO_313001.out) (by decide)) (fun k_ hk => ⟨trivial, hk.2⟩))) (fun _ h_ => h_)))
      (case aB => exact Ye_)
      (case aF => exact (fun _ _ => trivial))
      (case aO => exact (by (with_reducible repeat (first | apply Kd.S_alloc | apply Kd.S_drewN | apply Kd.S_drew)); exact Kd.S_mono HO_313001.out (fun k_ hk => ⟨trivial, fun e_ => hk.2 e_⟩)))
      (case aS => exact (below_size Ye_))
      (case aL => have := LMc13.out; omega)
      intro v318 w19 ho hb hg hat
      rw [← Ny317.out] at ho
      replace BK0 := Aside0.mk (C9 (g := gb0) (o := .cells #[.int .i64 a0_0, .slice (some ad313) l0_1.length c0_1] 32 (0, 0)) Yc_ hg (Kd.S_ne HO_313001.out BK0.out (by decide)))
      replace BK1 := Aside0.mk (C9 (g := gb1) (o := .cells #[.int .i64 0, .slice none 0 0] 32 (0, 0)) Yg_ hg (Kd.S_ne HO_313001.out BK1.out (by decide)))
      replace BK2 := Aside0.mk (C9 (g := gb2) (o := .cells #[.int .i64 a0_0, u313001] 32 (0, 0)) Ybd_ hg (Kd.S_ne HO_313001.out BK2.out (by decide)))
      replace HB := Aside0.mk (hb)
      have HO319 := Aside0.mk (ho)
      clear HO_313001
      clear HO316
      clear ho hb hg hat
      obtain ⟨Ao21, co21, eo21⟩ := Kd.S_slice HO319.out
      (first | subst eo21 | (injection eo21 with f1_ f2_ f3_; have f4_ := f1_.symm; have f5_ := f3_.symm; clear f1_ f2_ f3_; subst f4_; subst f5_))
      refine hK.out _ _ ⟨(blk_cell BK2.out 0).trans rfl, (blk_cell BK2.out 1).trans rfl, (blk_cell BK0.out 0).trans rfl, (blk_cell BK0.out 1).trans rfl, ((HB.out.cell (World.block_lt_of_cell? w _ hw313_0)).trans hw313_0)⟩ (fun hHeld => ?_)
      clear hK K
      refine norm_ (show Act.put _ (some 24) _ = _ from Ya_) ?_
      refine pure_ (i := 10) (N := some 25) #[true, true, true, true, true, true, true, true, true, true, true, false] rfl rfl (any_of HT_.out Ybb_) (fun _ _ _ h => h) (Or.inl ⟨by rfl, Ybg_⟩) Ya_ ?_
      refine last_ (i := 11) (N := none) #[true, true, true, true, true, true, true, true, true, true, true, true] rfl rfl (one_of HT_.out Ybb_) (by decide) (fun K hK => ?_)
      have hs22 : w19.cell? ⟨gb2, 1, none⟩ = some (u313001) := (blk_cell BK2.out 1).trans rfl
      have hfs22 := blk_frozen BK2.out 1
      have hns22_0 := NB0_2.out
      have hns22_1 := NB1_2.out
      have hms22_0 := NB2_0.out
      have hms22_1 := NB2_1.out
      refine skip_ (w1 := ?_) (by rfl) rfl ?_ ?_
      rotate_left
      ·go_simp
       rfl
      refine hK.out _ _ ?_
      clear hK K
      refine done_ (done_of HT_.out Ybb_) ?_
      try go_wp2
      go_roundg k1
      case measure => have := HK1.out; omega
      case rel => exact ⟨(wrap64 (x4_1 + 1)), (y317), (.slice Ao21 y317.length co21), Ybe_, H', ⟨by have := HK1.out; omega⟩, ⟨by (with_reducible repeat (first | apply Kd.S_alloc | apply Kd.S_drewN | apply Kd.S_drew)); exact Kd.S_mono (Kd.S_far (p := ⟨gb2, 1, none⟩) (Kd.S_types HO319.out BK2.out (by decide)) (fun _ hk => hk.2) (.slice Ao21 y317.length co21)) (fun _ hk => trivial)⟩, ⟨by (with_reducible repeat (first | apply blk_drewN | apply blk_drew | apply blk_alloc)); refine Ai ?_ NB0_2.out _; (with_reducible repeat (first | apply blk_drewN | apply blk_drew | apply blk_alloc)); exact BK0.out⟩, ⟨by (with_reducible repeat (first | apply blk_drewN | apply blk_drew | apply blk_alloc)); refine Ai ?_ NB1_2.out _; (with_reducible repeat (first | apply blk_drewN | apply blk_drew | apply blk_alloc)); exact BK1.out⟩, ⟨by (with_reducible repeat (first | apply blk_drewN | apply blk_drew | apply blk_alloc)); refine blk_put (cs := #[.int .i64 a0_0, u313001]) ?_ 1 _ rfl; (with_reducible repeat (first | apply blk_drewN | apply blk_drew | apply blk_alloc)); exact BK2.out⟩, ⟨by repeat (first | (with_reducible first | exact HB.out | apply below_alloc | apply pw_below_drewN | apply below_drew1 | refine below_set ?_ GE0.out | refine below_set ?_ GE1.out | refine below_set ?_ GE2.out) | exact HB.out)⟩⟩
     ·rw [if_neg c13] at H
      exact absurd H (by simp)
    ·rw [if_neg c11] at H
     exact absurd H (by simp)
   ·rw [if_neg c10] at H
    have c10b0 : decide (x4_1 < (l0_1.length : Int)) = false := decide_eq_false c10
    clear c10
    simp only [Option.some.injEq, Prod.mk.injEq] at H
    obtain ⟨rfl, rfl⟩ := H
    have hnb23 := NB0_1.out
    have hnc23 := NB1_0.out
    have hnb24 := NB0_2.out
    have hnc24 := NB2_0.out
    obtain ⟨hcz25_0, hcz25_1⟩ := cl2_ BK0.out
    obtain ⟨hfz25_0, hfz25_1⟩ := fz2_ BK0.out
    have hnb26 := NB2_1.out
    have hnc26 := NB1_2.out
    obtain ⟨hcz27_0, hcz27_1⟩ := cl2_ BK2.out
    obtain ⟨hfz27_0, hfz27_1⟩ := fz2_ BK2.out
    obtain ⟨hcz28_0, hcz28_1⟩ := cl2_ BK1.out
    obtain ⟨hfz28_0, hfz28_1⟩ := fz2_ BK1.out
    obtain ⟨Ao29, co29, eo29⟩ := Kd.S_slice HO_313001.out
    subst eo29
    go_wp2
    refine bodyPost_ret (results_cell_row rfl _ _ gb1 32 #[.int .i64 a0_0, .slice Ao29 x313001_1.length co29] (0, 0) _ rfl Yeh_ Try.underlying32 rfl Ybb_) rfl ?_
    exact ⟨_, Yi_, (by (with_reducible repeat (first | apply Kd.S_alloc | apply Kd.S_drewN | apply Kd.S_drew)); exact Kd.S_mono (Kd.S_far (p := ⟨gb1, 1, none⟩) (Kd.S_far (p := ⟨gb1, 0, none⟩) (Kd.S_types HO_313001.out BK1.out (by decide)) (fun _ hk => hk.2) (.int .i64 a0_0)) (fun _ hk => hk.2) (.slice Ao29 x313001_1.length co29)) (fun _ hk => trivial)), Ye_⟩
def spec_l24Own.f (k : Nat) (l0_0 : List (List Int)) (a0_1 : Int) (l0_2 : List (List Int)) : Option ((List (List Int)) × Int × (List (List Int))) := (spec_l5Own.f k l0_0).bind fun t322 => ((spec_l9Own.f k a0_1 l0_2).bind fun bt325 => (some (t322, bt325.1, bt325.2)))
theorem spec_l24Own.mono : ∀ a0 a1 a2 k, LeO (spec_l24Own.f k a0 a1 a2) (spec_l24Own.f (k + 1) a0 a1 a2) := by
 intro a0 a1 a2 k
 unfold spec_l24Own.f
 repeat' first
   | (with_reducible exact spec_l5Own.mono _ _)
   | (with_reducible exact spec_l9Own.mono _ _ _)
   | (with_reducible exact LeO.refl _)
   | (with_reducible exact LeO.none _)
   | (with_reducible refine LeO.ite ?_ ?_)
   | (with_reducible refine LeO.bind ?_ (fun _ => ?_))
   | exact spec_l5Own.mono _ _
   | exact spec_l9Own.mono _ _ _
   | exact LeO.none _
   | refine LeO.ite ?_ ?_
   | refine LeO.bind ?_ (fun _ => ?_)
def spec_l24Own.T1 : Bool × List (List Nat × List Nat) := (true, [([], []), ([0], [0]), ([1], [1]), ([], []), ([3], [3]), ([4, 2], [4]), ([2, 5], [2, 5]), ([6, 5, 0, 1, 2, 3, 4, 5, 6], [6])])
def spec_l24Own.B1 : List Nat := [0, 1, 3, 0, 8, 31, 63, 127]
theorem spec_l24Own.tab1 : rtab .any (opsOf Try.f59 1) = spec_l24Own.T1 := by kernel_rfl
theorem spec_l24Own.bits1 : waitsOk spec_l24Own.T1.2 spec_l24Own.B1 = true := by kernel_rfl
set_option maxHeartbeats 8000000 in
set_option maxRecDepth 100000 in
theorem spec_l24Own.calls2 (k : Nat) (A0_0 : Option Addr) (c0_0 : Nat) (l0_0 : List (List Int)) (a0_1 : Int) (A0_2 : Option Addr) (c0_2 : Nat) (l0_2 : List (List Int)) (r1 : List (List Int)) (r2 : Int) (r3 : List (List Int)) (w : World) (hr0_0 : Kd.C (Kd.slice 3 (Kd.int .i64)) w A0_0 l0_0.length l0_0) (hc0_0 : l0_0.length ≤ c0_0) (hr0_2 : Kd.C (Kd.slice 3 (Kd.int .i64)) w A0_2 l0_2.length l0_2) (hc0_2 : l0_2.length ≤ c0_2) (h : spec_l24Own.f k l0_0 a0_1 l0_2 = some (r1, r2, r3)) :
  Calls Try.prog 59 #[.agg #[.slice A0_0 l0_0.length c0_0, .int .i64 a0_1, .slice A0_2 l0_2.length c0_2]] w fun e w' => ∃ (P_ : Nat → Prop) (v0_ v2_ : Value), e = .returned (.agg #[v0_, .int .i64 r2, v2_]) ∧ Kd.S (Kd.slice 3 (Kd.int .i64)) 73 w' w.heap.size (fun k_ => P_ k_) v0_ r1 ∧ Kd.S (Kd.slice 3 (Kd.int .i64)) 73 w' w.heap.size (fun k_ => ¬ P_ k_) v2_ r3 ∧ Below w.heap.size w w' := by
 have hu34 := Try.underlying34
 have hu31 := Try.underlying31
 have hu32 := Try.underlying32
 have HR0_0 := Aside0.mk hr0_0
 have HC0_0 := Aside0.mk hc0_0
 clear hr0_0 hc0_0
 have HR0_2 := Aside0.mk hr0_2
 have HC0_2 := Aside0.mk hc0_2
 clear hr0_2 hc0_2
 have HB := Aside0.mk (Below.refl w.heap.size w)
 have H : ((spec_l5Own.f k l0_0).bind fun t322 => ((spec_l9Own.f k a0_1 l0_2).bind fun bt325 => (some (t322, bt325.1, bt325.2)))) = some (r1, r2, r3) := h
 clear h
 replace H := Option.bind_eq_some_iff.mp H
 obtain ⟨t322, A20, H⟩ := H
 try dsimp only at H
 have A2 := Aside0.mk A20
 clear A20
 replace H := Option.bind_eq_some_iff.mp H
 obtain ⟨⟨t325, t326⟩, A30, H⟩ := H
 try dsimp only at H
 have A3 := Aside0.mk A30
 clear A30
 simp only [Option.some.injEq, Prod.mk.injEq] at H
 obtain ⟨rfl, rfl, rfl⟩ := H
 go_enter Try.func59, Try.ntmps59
 try go_wp2_with (first | ((with_reducible refine gate_dst (N := 1) rfl ?_); refine box_event (by rfl) (N := 1) (by rfl) (cs := #[.slice A0_0 l0_0.length c0_0, .int .i64 a0_1, .slice A0_2 l0_2.length c0_2]) (t := 34) Ybf_ ?_; intro gb0 hg w4 hbox hb; have BK0 := Aside0.mk (hbox); have GW0 := Aside0.mk ((by rw [hg]; exact (below_size Yb_) : w.heap.size ≤ gb0)); have GE0 := Aside0.mk ((by rw [hg]; exact (below_size Yb_) : w.heap.size ≤ gb0)); replace HB := Aside0.mk (below_step Yb_ hb); clear hb hbox hg) | ((with_reducible refine gate_dst (N := 2) rfl ?_); refine box_event (by rfl) (N := 2) (by rfl) (cs := #[.slice none 0 0, .int .i64 0, .slice none 0 0]) (t := 34) Ybf_ ?_; intro gb1 hg w5 hbox hb; have BK1 := Aside0.mk (hbox); have GW1 := Aside0.mk ((by rw [hg]; exact (below_size Yd_) : w.heap.size ≤ gb1)); have GE1 := Aside0.mk ((by rw [hg]; exact (below_size Yd_) : w.heap.size ≤ gb1)); replace HB := Aside0.mk (below_step Yd_ hb); have NB0_1 := Aside0.mk ((by rw [hg]; exact Nat.ne_of_lt (blk_lt (g := gb0) (o := .cells #[.slice A0_0 l0_0.length c0_0, .int .i64 a0_1, .slice A0_2 l0_2.length c0_2] 34 (0, 0)) Yc_) : gb0 ≠ gb1)); have NB1_0 := Aside0.mk ((by rw [hg]; exact Nat.ne_of_gt (blk_lt (g := gb0) (o := .cells #[.slice A0_0 l0_0.length c0_0, .int .i64 a0_1, .slice A0_2 l0_2.length c0_2] 34 (0, 0)) Yc_) : gb1 ≠ gb0)); replace BK0 := Aside0.mk (blk_below (g := gb0) (o := .cells #[.slice A0_0 l0_0.length c0_0, .int .i64 a0_1, .slice A0_2 l0_2.length c0_2] 34 (0, 0)) Yc_ hb); clear hb hbox hg))
 replace BK0 := Aside0.mk (blk_drew BK0.out)
 replace BK1 := Aside0.mk (blk_drew BK1.out)
 replace HB := Aside0.mk (below_drew1 HB.out)
 refine start_ (n := 8) (S := fun w' => w'.cell? ⟨gb0, 0, none⟩ = some (.slice A0_0 l0_0.length c0_0) ∧ w'.cell? ⟨gb0, 1, none⟩ = some (.int .i64 a0_1) ∧ w'.cell? ⟨gb0, 2, none⟩ = some (.slice A0_2 l0_2.length c0_2)) (ds := []) #[false, false, false, false, false, false, false, false] Ybb_ rfl rfl ⟨(blk_cell BK0.out 0).trans rfl, (blk_cell BK0.out 1).trans rfl, (blk_cell BK0.out 2).trans rfl⟩ (fun hHeld => ?_); refine with_tabW spec_l24Own.tab1 spec_l24Own.bits1 (fun HT_ HW_ => ?_)
 generalize w5.drew = w6 at BK0 BK1 HB hHeld ⊢
 refine pure_ (i := 0) (N := some 3) #[true, false, false, false, false, false, false, false] rfl rfl (any_of HT_.out Ybb_) (fun _ _ _ h => h) (Or.inl ⟨by rfl, Ybg_⟩) Ya_ ?_
 refine pure_ (i := 3) (N := some 6) #[true, false, false, true, false, false, false, false] rfl rfl (any_of HT_.out Ybb_) (fun _ _ _ h => h) (Or.inl ⟨by rfl, Ybg_⟩) Ya_ ?_
 refine take_ (i := 1) (N := some 4) #[true, true, false, true, false, false, false, false] rfl rfl (take_ofW HT_.out HW_.out Ybb_) (fun _ _ _ h => h) (Or.inl ⟨by rfl, Yfb_⟩) hHeld Ya_ ?_
 refine take_ (i := 4) (N := some 7) #[true, true, false, true, true, false, false, false] rfl rfl (take_ofW HT_.out HW_.out Ybb_) (fun _ _ _ h => h) (Or.inl ⟨by rfl, Yfb_⟩) hHeld Ya_ ?_
 refine one_ (i := 2) (N := some 5) #[true, true, true, true, true, false, false, false] rfl rfl (one_of HT_.out Ybb_) (by decide) (fun K hK => ?_)
 refine goes_ Try.func78 Ybb_ rfl #[.agg #[.slice A0_0 l0_0.length c0_0]] (by rfl) rfl rfl Yj_ ?_
 with_reducible refine (spec_l5Own.calls k _ _ l0_0 t322 _ ?side1 ?side2 A2.out).mono ?_
 (case side1 => repeat (first | exact (Kd.C_below HR0_0.out HB.out) | (with_reducible refine Kd.C_alloc ?_ _) | (with_reducible refine Kd.C_drewN ?_ _) | (with_reducible refine Kd.C_drew ?_)))
 (case side2 => exact HC0_0.out)
 rintro e w7 ⟨v323, rfl, ho0, hb⟩
 refine ⟨_, rfl, ?_⟩
 have HO324 := Aside0.mk (Kd.S_lower ho0 (below_size Yf_))
 replace BK0 := Aside0.mk (blk_below (g := gb0) (o := .cells #[.slice A0_0 l0_0.length c0_0, .int .i64 a0_1, .slice A0_2 l0_2.length c0_2] 34 (0, 0)) Yc_ hb)
 replace BK1 := Aside0.mk (blk_below (g := gb1) (o := .cells #[.slice none 0 0, .int .i64 0, .slice none 0 0] 34 (0, 0)) Yg_ hb)
 replace HB := Aside0.mk (below_step Yf_ hb)
 (try clear hb)
 (try clear hb2)
 (try clear hk)
 (try clear hi)
 (try clear ho0)
 refine hK.out _ _ ⟨(blk_cell BK0.out 0).trans rfl, (blk_cell BK0.out 1).trans rfl, (blk_cell BK0.out 2).trans rfl⟩ (fun hHeld => ?_)
 clear hK K
 refine norm_ (show Act.put _ (some 5) _ = _ from Ya_) ?_
 refine one_ (i := 5) (N := some 8) #[true, true, true, true, true, true, false, false] rfl rfl (one_of HT_.out Ybb_) (by decide) (fun K hK => ?_)
 refine goes_ Try.func79 Ybb_ rfl #[.agg #[.int .i64 a0_1, .slice A0_2 l0_2.length c0_2]] (by rfl) rfl rfl Yj_ ?_
 with_reducible refine (spec_l9Own.calls k a0_1 _ _ l0_2 t325 t326 _ ?side1 ?side2 A3.out).mono ?_
 (case side1 => repeat (first | exact (Kd.C_below HR0_2.out HB.out) | (with_reducible refine Kd.C_alloc ?_ _) | (with_reducible refine Kd.C_drewN ?_ _) | (with_reducible refine Kd.C_drew ?_)))
 (case side2 => exact HC0_2.out)
 rintro e w8 ⟨v327, rfl, ho0, hb⟩
 refine ⟨_, rfl, ?_⟩
 obtain ⟨P_, hu_, hv_⟩ := Go.Proofs.YtnggfglmjdiaaaaOwn.parted (by (with_reducible repeat (first | apply Kd.S_alloc | apply Kd.S_drewN | apply Kd.S_drew)); exact HO324.out) ho0 hb; have n0_ := Aside0.mk hu_
 have n1_ := Aside0.mk (Kd.S_lower hv_ (below_size Yf_))
 have n2_ := Aside0.mk (blk_below (g := gb0) (o := .cells #[.slice A0_0 l0_0.length c0_0, .int .i64 a0_1, .slice A0_2 l0_2.length c0_2] 34 (0, 0)) Yc_ hb)
 have n3_ := Aside0.mk (blk_below (g := gb1) (o := .cells #[.slice none 0 0, .int .i64 0, .slice none 0 0] 34 (0, 0)) Yg_ hb)
 have n4_ := Aside0.mk (below_step Yf_ hb)
 clear HO324
 clear BK0
 clear BK1
 clear HB
 have HO324 := n0_
 have HO328 := n1_
 have BK0 := n2_
 have BK1 := n3_
 have HB := n4_
 clear n0_ n1_ n2_ n3_ n4_
 (try clear hb)
 (try clear hb2)
 (try clear hk)
 (try clear hi)
 (try clear ho0)
 obtain ⟨Ao9, co9, eo9⟩ := Kd.S_slice HO328.out
 (first | subst eo9 | (injection eo9 with f1_ f2_ f3_; have f4_ := f1_.symm; have f5_ := f3_.symm; clear f1_ f2_ f3_; subst f4_; subst f5_))
 obtain ⟨Ao10, co10, eo10⟩ := Kd.S_slice HO324.out
 (first | subst eo10 | (injection eo10 with f1_ f2_ f3_; have f4_ := f1_.symm; have f5_ := f3_.symm; clear f1_ f2_ f3_; subst f4_; subst f5_))
 refine hK.out _ _ ⟨(blk_cell BK0.out 0).trans rfl, (blk_cell BK0.out 1).trans rfl, (blk_cell BK0.out 2).trans rfl⟩ (fun hHeld => ?_)
 clear hK K
 refine norm_ (show Act.put _ (some 8) _ = _ from Ya_) ?_
 refine pure_ (i := 6) (N := some 9) #[true, true, true, true, true, true, true, false] rfl rfl (any_of HT_.out Ybb_) (fun _ _ _ h => h) (Or.inl ⟨by rfl, Ybg_⟩) Ya_ ?_
 refine one_ (i := 7) (N := none) #[true, true, true, true, true, true, true, true] rfl rfl (one_of HT_.out Ybb_) (by decide) (fun K hK => ?_)
 have hs11 : w8.cell? ⟨gb1, 0, none⟩ = some (.slice none 0 0) := (blk_cell BK1.out 0).trans rfl
 have hfs11 := blk_frozen BK1.out 0
 have hns11_0 := NB0_1.out
 have hms11_0 := NB1_0.out
 have hs12 : w8.cell? ⟨gb1, 1, none⟩ = some (.int .i64 0) := (blk_cell BK1.out 1).trans rfl
 have hfs12 := blk_frozen BK1.out 1
 have hns12_0 := NB0_1.out
 have hms12_0 := NB1_0.out
 have hs13 : w8.cell? ⟨gb1, 2, none⟩ = some (.slice none 0 0) := (blk_cell BK1.out 2).trans rfl
 have hfs13 := blk_frozen BK1.out 2
 have hns13_0 := NB0_1.out
 have hms13_0 := NB1_0.out
 refine skip_ (w1 := ?_) (by rfl) rfl ?_ ?_
 rotate_left
 ·go_simp
  rfl
 refine hK.out _ _ ⟨((cell_far (p := ⟨gb1, _, none⟩) NB0_1.out _).trans (((cell_far (p := ⟨gb1, _, none⟩) NB0_1.out _).trans (((cell_far (p := ⟨gb1, _, none⟩) NB0_1.out _).trans (hHeld.1)))))), ((cell_far (p := ⟨gb1, _, none⟩) NB0_1.out _).trans (((cell_far (p := ⟨gb1, _, none⟩) NB0_1.out _).trans (((cell_far (p := ⟨gb1, _, none⟩) NB0_1.out _).trans (hHeld.2.1)))))), ((cell_far (p := ⟨gb1, _, none⟩) NB0_1.out _).trans (((cell_far (p := ⟨gb1, _, none⟩) NB0_1.out _).trans (((cell_far (p := ⟨gb1, _, none⟩) NB0_1.out _).trans (hHeld.2.2))))))⟩ (fun hHeld => ?_)
 clear hK K
 refine done_ (done_of HT_.out Ybb_) ?_
 try go_wp2
 refine bodyPost_ret (results_cell_row rfl _ _ gb1 34 #[.slice Ao10 t322.length co10, .int .i64 t325, .slice Ao9 t326.length co9] (0, 0) _ rfl (by (with_reducible repeat (first | apply blk_drewN | apply blk_drew | apply blk_alloc)); refine blk_put (cs := #[.slice Ao10 t322.length co10, .int .i64 t325, .slice none 0 0]) ?_ 2 _ rfl; (with_reducible repeat (first | apply blk_drewN | apply blk_drew | apply blk_alloc)); refine blk_put (cs := #[.slice Ao10 t322.length co10, .int .i64 0, .slice none 0 0]) ?_ 1 _ rfl; (with_reducible repeat (first | apply blk_drewN | apply blk_drew | apply blk_alloc)); refine blk_put (cs := #[.slice none 0 0, .int .i64 0, .slice none 0 0]) ?_ 0 _ rfl; (with_reducible repeat (first | apply blk_drewN | apply blk_drew | apply blk_alloc)); exact BK1.out) Try.underlying34 rfl Ybb_) rfl ?_
 exact ⟨P_, _, _, Yi_, (by (with_reducible repeat (first | apply Kd.S_alloc | apply Kd.S_drewN | apply Kd.S_drew)); exact Kd.S_mono (Kd.S_far (p := ⟨gb1, 2, none⟩) (Kd.S_far (p := ⟨gb1, 1, none⟩) (Kd.S_far (p := ⟨gb1, 0, none⟩) (Kd.S_types HO324.out BK1.out (by decide)) (fun _ hk => hk.2) (.slice Ao10 t322.length co10)) (fun _ hk => hk.2) (.int .i64 t325)) (fun _ hk => hk.2) (.slice Ao9 t326.length co9)) (fun _ hk => hk.1.2)), (by (with_reducible repeat (first | apply Kd.S_alloc | apply Kd.S_drewN | apply Kd.S_drew)); exact Kd.S_mono (Kd.S_far (p := ⟨gb1, 2, none⟩) (Kd.S_far (p := ⟨gb1, 1, none⟩) (Kd.S_far (p := ⟨gb1, 0, none⟩) (Kd.S_types HO328.out BK1.out (by decide)) (fun _ hk => hk.2) (.slice Ao10 t322.length co10)) (fun _ hk => hk.2) (.int .i64 t325)) (fun _ hk => hk.2) (.slice Ao9 t326.length co9)) (fun _ hk => hk.1.2)), Yf_⟩
set_option maxRecDepth 100000 in
theorem spec_l24Own.calls (k : Nat) (A0_0 : Option Addr) (c0_0 : Nat) (l0_0 : List (List Int)) (a0_1 : Int) (A0_2 : Option Addr) (c0_2 : Nat) (l0_2 : List (List Int)) (r1 : List (List Int)) (r2 : Int) (r3 : List (List Int)) (w : World) (hr0_0 : Kd.C (Kd.slice 3 (Kd.int .i64)) w A0_0 l0_0.length l0_0) (hc0_0 : l0_0.length ≤ c0_0) (hr0_2 : Kd.C (Kd.slice 3 (Kd.int .i64)) w A0_2 l0_2.length l0_2) (hc0_2 : l0_2.length ≤ c0_2) (h : spec_l24Own.f k l0_0 a0_1 l0_2 = some (r1, r2, r3)) :
  Calls Try.prog 59 #[.agg #[.slice A0_0 l0_0.length c0_0, .int .i64 a0_1, .slice A0_2 l0_2.length c0_2]] w fun e w' => ∃ v0_ v2_ : Value, e = .returned (.agg #[v0_, .int .i64 r2, v2_]) ∧ Kd.S (Kd.slice 3 (Kd.int .i64)) 73 w' w.heap.size (fun k_ => some k_ ≠ (v2_ : Value).ownBlock) v0_ r1 ∧ Kd.S (Kd.slice 3 (Kd.int .i64)) 73 w' w.heap.size (fun k_ => some k_ ≠ (v0_ : Value).ownBlock) v2_ r3 ∧ Below w.heap.size w w' := by
 refine (spec_l24Own.calls2 k A0_0 c0_0 l0_0 a0_1 A0_2 c0_2 l0_2 r1 r2 r3 w hr0_0 hc0_0 hr0_2 hc0_2 h).mono ?_
 rintro e w' ⟨P_, v0_, v2_, he, h1, h2, hb⟩
 exact ⟨v0_, v2_, he, Kd.S_mono h1 (fun k_ hk e_ => ((Kd.S_R h2).1 k_ e_.symm) hk), Kd.S_mono h2 (fun k_ hk e_ => hk ((Kd.S_R h1).1 k_ e_.symm)), hb⟩
end Go.Proofs.Ytnggfglmjdiaaaa.X

