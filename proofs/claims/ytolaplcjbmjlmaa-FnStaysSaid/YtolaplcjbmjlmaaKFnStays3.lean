/- Texts that the proof of the law FnStays leans on, part 4 of 6. -/
import Derived.Test.YtolaplcjbmjlmaaKFnStays1
set_option linter.unusedVariables false
set_option linter.unusedSimpArgs false
namespace Go.Proofs.Ytolaplcjbmjlmaa.X
open Go.RowKit Go.Proofs.YtolaplcjbmjlmaaW.PrintWords Go.Proofs.YtolaplcjbmjlmaaW.PrintLast Go.Proofs.YtolaplcjbmjlmaaW.PrintMore
attribute [local go_sem] max2_int min2_int max_two min_two max_three min_three max_four min_four
/-- A state of type 73 at block g of W; what its slices lead to came in by w0. -/
def Ag (w0 W : World) (g : Nat) (f0 : List Int) (f1 : Int) (f2 : Int) : Prop := ∃ A0 c0, W.heap[g]? = some (.cells #[.slice A0 f0.length c0, .int .i64 f1, .int .u64 f2] 73 (0, 0)) ∧ w0.heap.size ≤ g ∧ Kd.C (Kd.int .u8) w0 A0 f0.length f0
theorem Ag.grown {w0 W : World} {g : Nat} {f0 : List Int} {f1 : Int} {f2 : Int} {W1 : World} {row : Option Nat} (h : Ag w0 W g f0 f1 f2) (hw : W.grownBy W1 row) (hne : some g ≠ row) : Ag w0 W1 g f0 f1 f2 := by
 obtain ⟨A0, c0, hb, hg, hr0⟩ := h
 exact ⟨A0, c0, H8 hb hw hne, hg, hr0⟩
theorem Ag.kept {w0 W : World} {g : Nat} {f0 : List Int} {f1 : Int} {f2 : Int} {W1 : World} {S : Nat → Prop} (h : Ag w0 W g f0 f1 f2) (hk : Kept W W1 S) (hne : ¬ S g) : Ag w0 W1 g f0 f1 f2 := by
 obtain ⟨A0, c0, hb, hg, hr0⟩ := h
 exact ⟨A0, c0, blk_kept hb hk hne, hg, hr0⟩
theorem Ag.below {w0 W : World} {g : Nat} {f0 : List Int} {f1 : Int} {f2 : Int} {W1 : World} (h : Ag w0 W g f0 f1 f2) (hw : Below W.heap.size W W1) : Ag w0 W1 g f0 f1 f2 := h.grown (grown_of_below hw none) (by simp)
theorem Ag.alloc {w0 W : World} {g : Nat} {f0 : List Int} {f1 : Int} {f2 : Int} (h : Ag w0 W g f0 f1 f2) (o : Obj) : Ag w0 (W.alloc o) g f0 f1 f2 := h.below (Af (Below.refl _ _) o)
theorem Ag.drewN {w0 W : World} {g : Nat} {f0 : List Int} {f1 : Int} {f2 : Int} (h : Ag w0 W g f0 f1 f2) (m : Nat) : Ag w0 (W.drewN m) g f0 f1 f2 := h
theorem Ag.drew {w0 W : World} {g : Nat} {f0 : List Int} {f1 : Int} {f2 : Int} (h : Ag w0 W g f0 f1 f2) : Ag w0 W.drew g f0 f1 f2 := h
theorem Ag.at_ {w0 W : World} {g : Nat} {f0 : List Int} {f1 : Int} {f2 : Int} {w' : World} {m : Nat} (hq : W.drewN m = w') (h : Ag w0 W g f0 f1 f2) : Ag w0 w' g f0 f1 f2 := by subst hq; exact Ag.drewN h m
theorem Ag.apart {w0 W : World} {g : Nat} {f0 : List Int} {f1 : Int} {f2 : Int} {α : Type} {d : Kd α} {e : Nat} {base : Nat} {ok : Nat → Prop} {v : Value} {xs : List α} (h : Ag w0 W g f0 f1 f2) (ho : d.R e W base ok v xs) (ht : ∀ q, q ∈ e :: d.E → q ≠ 73) : d.R e W base (fun k => ok k ∧ k ≠ g) v xs := by
 obtain ⟨A0, c0, hb, hg, hr0⟩ := h
 exact Kd.R_types ho hb ht
theorem Ag.own_ne {w0 W : World} {g : Nat} {f0 : List Int} {f1 : Int} {f2 : Int} {α : Type} {d : Kd α} {e : Nat} {base : Nat} {ok : Nat → Prop} {v : Value} {xs : List α} (h : Ag w0 W g f0 f1 f2) (ho : d.R e W base ok v xs) (ht : e ≠ 73) : some g ≠ v.ownBlock := by
 obtain ⟨A0, c0, hb, hg, hr0⟩ := h
 exact Kd.R_ne ho hb ht
theorem Ag.lt {w0 W : World} {g : Nat} {f0 : List Int} {f1 : Int} {f2 : Int} (h : Ag w0 W g f0 f1 f2) : g < W.heap.size := by
 obtain ⟨A0, c0, hb, hg, hr0⟩ := h
 exact blk_lt hb
theorem Ag.ge {w0 W : World} {g : Nat} {f0 : List Int} {f1 : Int} {f2 : Int} (h : Ag w0 W g f0 f1 f2) : w0.heap.size ≤ g := by
 obtain ⟨A0, c0, hb, hg, hr0⟩ := h
 exact hg
theorem Ag.far {w0 W : World} {g : Nat} {f0 : List Int} {f1 : Int} {f2 : Int} {p : Addr} (h : Ag w0 W g f0 f1 f2) (hne : g ≠ p.block) (u : Value) : Ag w0 (W.setCell p u) g f0 f1 f2 := by
 obtain ⟨A0, c0, hb, hg, hr0⟩ := h
 exact ⟨A0, c0, blk_far hb hne u, hg, hr0⟩
theorem cellS73_0 {W : World} {g : Nat} {A0 : Option Addr} {c0 : Nat} {f0 : List Int} {f1 : Int} {f2 : Int} (h : W.heap[g]? = some (.cells #[.slice A0 f0.length c0, .int .i64 f1, .int .u64 f2] 73 (0, 0))) : W.cell? ⟨g, 0, none⟩ = some (.slice A0 f0.length c0) := (blk_cell h 0).trans rfl
theorem cellS73_1 {W : World} {g : Nat} {A0 : Option Addr} {c0 : Nat} {f0 : List Int} {f1 : Int} {f2 : Int} (h : W.heap[g]? = some (.cells #[.slice A0 f0.length c0, .int .i64 f1, .int .u64 f2] 73 (0, 0))) : W.cell? ⟨g, 1, none⟩ = some (.int .i64 f1) := (blk_cell h 1).trans rfl
theorem Ag.D6 {w0 W : World} {g : Nat} {f0 : List Int} {f1 : Int} {f2 : Int} (h : Ag w0 W g f0 f1 f2) (x : Int) : Ag w0 (W.setCell ⟨g, 1, none⟩ (.int .i64 x)) g f0 x f2 := by
 obtain ⟨A0, c0, hb, hg, hr0⟩ := h
 exact ⟨A0, c0, by simpa using blk_set hb 1 (.int .i64 x), hg, hr0⟩
theorem cellS73_2 {W : World} {g : Nat} {A0 : Option Addr} {c0 : Nat} {f0 : List Int} {f1 : Int} {f2 : Int} (h : W.heap[g]? = some (.cells #[.slice A0 f0.length c0, .int .i64 f1, .int .u64 f2] 73 (0, 0))) : W.cell? ⟨g, 2, none⟩ = some (.int .u64 f2) := (blk_cell h 2).trans rfl
theorem Ag.D5 {w0 W : World} {g : Nat} {f0 : List Int} {f1 : Int} {f2 : Int} (h : Ag w0 W g f0 f1 f2) (x : Int) : Ag w0 (W.setCell ⟨g, 2, none⟩ (.int .u64 x)) g f0 f1 x := by
 obtain ⟨A0, c0, hb, hg, hr0⟩ := h
 exact ⟨A0, c0, by simpa using blk_set hb 2 (.int .u64 x), hg, hr0⟩
theorem Ag.new (w0 W : World) (A0 : Option Addr) (c0 : Nat) (f0 : List Int) (f1 : Int) (f2 : Int) (hB : Below w0.heap.size w0 W) (hr0 : Kd.C (Kd.int .u8) w0 A0 f0.length f0) : Ag w0 (W.alloc (.cells #[.slice A0 f0.length c0, .int .i64 f1, .int .u64 f2] 73)) W.heap.size f0 f1 f2 := ⟨A0, c0, by simpa using heap_alloc_new W _, hB.size, hr0⟩
def F8.f (s0_0 : List Int) (s0_1 : Int) (s0_2 : Int) : Option (Int × Int × Int) := if s0_1 < (s0_0.length : Int) then (if 0 ≤ s0_1 then (if (wrap64 (s0_1 + 1)) ≤ (s0_0.length : Int) then (some (wrap64 (rd s0_0 s0_1), wrap64 (s0_1 + 1), IntKind.u64.wrap ((IntKind.u64.wrap ((IntKind.u64.wrap (s0_2 * 6364136223846793005)) + (IntKind.u64.wrap (wrap64 (rd s0_0 s0_1))))) + 906906))) else (some (wrap64 (Go.bits .and .u64 ((IntKind.u64.wrap ((IntKind.u64.wrap ((IntKind.u64.wrap (s0_2 * 6364136223846793005)) + (IntKind.u64.wrap (wrap64 (rd s0_0 s0_1))))) + 906906)) / 1099511627776) 255), wrap64 (s0_1 + 1), IntKind.u64.wrap ((IntKind.u64.wrap ((IntKind.u64.wrap (s0_2 * 6364136223846793005)) + (IntKind.u64.wrap (wrap64 (rd s0_0 s0_1))))) + 906906)))) else (none)) else (if (wrap64 (s0_1 + 1)) ≤ (s0_0.length : Int) then (some (0, wrap64 (s0_1 + 1), IntKind.u64.wrap ((IntKind.u64.wrap ((IntKind.u64.wrap (s0_2 * 6364136223846793005)))) + 906906))) else (some (wrap64 (Go.bits .and .u64 ((IntKind.u64.wrap ((IntKind.u64.wrap ((IntKind.u64.wrap (s0_2 * 6364136223846793005)))) + 906906)) / 1099511627776) 255), wrap64 (s0_1 + 1), IntKind.u64.wrap ((IntKind.u64.wrap ((IntKind.u64.wrap (s0_2 * 6364136223846793005)))) + 906906))))
set_option maxHeartbeats 8000000 in
set_option maxRecDepth 100000 in
theorem F8.calls (g : Nat) (s0_0 : List Int) (s0_1 : Int) (s0_2 : Int) (r1 : Int) (r2 : Int) (r3 : Int) (w0 w : World) (hI : Ag w0 w g s0_0 s0_1 s0_2) (hB : Below w0.heap.size w0 w) (h : F8.f s0_0 s0_1 s0_2 = some (r1, r2, r3)) :
  Calls Try.prog 81 #[.pointer (some ⟨g, 0, none⟩)] w fun e w' => e = .returned (.int .i64 r1) ∧ Ag w0 w' g s0_0 r2 r3 ∧ Below w0.heap.size w0 w' ∧ Bc w w' g none := by
 have HI0 := Aside0.mk hI
 have HK := Aside0.mk (Bc.refl w g none)
 have HL := Aside0.mk hB.size
 clear hI
 have HW0 := Aside0.mk hB.size
 have HB := Aside0.mk hB
 clear hB
 have H : (if s0_1 < (s0_0.length : Int) then (if 0 ≤ s0_1 then (if (wrap64 (s0_1 + 1)) ≤ (s0_0.length : Int) then (some (wrap64 (rd s0_0 s0_1), wrap64 (s0_1 + 1), IntKind.u64.wrap ((IntKind.u64.wrap ((IntKind.u64.wrap (s0_2 * 6364136223846793005)) + (IntKind.u64.wrap (wrap64 (rd s0_0 s0_1))))) + 906906))) else (some (wrap64 (Go.bits .and .u64 ((IntKind.u64.wrap ((IntKind.u64.wrap ((IntKind.u64.wrap (s0_2 * 6364136223846793005)) + (IntKind.u64.wrap (wrap64 (rd s0_0 s0_1))))) + 906906)) / 1099511627776) 255), wrap64 (s0_1 + 1), IntKind.u64.wrap ((IntKind.u64.wrap ((IntKind.u64.wrap (s0_2 * 6364136223846793005)) + (IntKind.u64.wrap (wrap64 (rd s0_0 s0_1))))) + 906906)))) else (none)) else (if (wrap64 (s0_1 + 1)) ≤ (s0_0.length : Int) then (some (0, wrap64 (s0_1 + 1), IntKind.u64.wrap ((IntKind.u64.wrap ((IntKind.u64.wrap (s0_2 * 6364136223846793005)))) + 906906))) else (some (wrap64 (Go.bits .and .u64 ((IntKind.u64.wrap ((IntKind.u64.wrap ((IntKind.u64.wrap (s0_2 * 6364136223846793005)))) + 906906)) / 1099511627776) 255), wrap64 (s0_1 + 1), IntKind.u64.wrap ((IntKind.u64.wrap ((IntKind.u64.wrap (s0_2 * 6364136223846793005)))) + 906906))))) = some (r1, r2, r3) := h
 clear h
 by_cases c2 : s0_1 < (s0_0.length : Int)
 ·rw [if_pos c2] at H
  have c2b0 : decide (s0_1 < (s0_0.length : Int)) = true := decide_eq_true c2
  clear c2
  by_cases c3 : 0 ≤ s0_1
  ·rw [if_pos c3] at H
   have c3b0 : decide (0 ≤ s0_1) = true := decide_eq_true c3
   clear c3
   by_cases c4 : (wrap64 (s0_1 + 1)) ≤ (s0_0.length : Int)
   ·rw [if_pos c4] at H
    have c4b0 : decide ((wrap64 (s0_1 + 1)) ≤ (s0_0.length : Int)) = true := decide_eq_true c4
    clear c4
    simp only [Option.some.injEq, Prod.mk.injEq] at H
    obtain ⟨rfl, rfl, rfl⟩ := H
    obtain ⟨ASz5_0, cSz5_0, HGz5, hgz5, HSz5_0⟩ := HI0.out
    have hcz5_0 := cellS73_0 HGz5
    have hcz5_1 := cellS73_1 HGz5
    have hcz5_2 := cellS73_2 HGz5
    have hfz5_1 := blk_frozen HGz5 1
    have hfz5_2 := blk_frozen HGz5 2
    clear HGz5 hgz5
    have p317 : 0 ≤ (s0_1 : Int) := of_decide_eq_true Yc_
    have q317 : s0_1 < (s0_0.length : Int) := of_decide_eq_true Yc_
    obtain ⟨ad317, e317, hx317_0⟩ := Kd.Fv HSz5_0 s0_1 p317 q317
    cases e317
    replace hx317_0 := H9 HB.out hx317_0
    replace p317 := eq_true p317
    replace q317 := eq_true q317
    go_enter Try.func81, Try.ntmps81
    go_wp2
    repeat (go_quiet (fail); try go_wp2)
    go_ret
    exact ⟨by first | rfl | (simp [Aw, Az] <;> rfl) | (simp [*, Aw, Az] <;> rfl), by repeat (first | (with_reducible first | exact HI0.out | apply Ag.alloc | apply Ag.drewN | apply Ag.drew | apply Ag.D6 | apply Ag.D5) | exact HI0.out), by repeat (first | (with_reducible first | exact HB.out | apply Af | apply Ad | apply Ae | refine Ar ?_ (Ag.ge HI0.out)) | exact HB.out), by repeat (first | (with_reducible first | exact HK.out | apply Bc.Et | apply Cf | apply Dh | apply Ci) | exact HK.out)⟩
   ·rw [if_neg c4] at H
    have c4b0 : decide ((wrap64 (s0_1 + 1)) ≤ (s0_0.length : Int)) = false := decide_eq_false c4
    clear c4
    simp only [Option.some.injEq, Prod.mk.injEq] at H
    obtain ⟨rfl, rfl, rfl⟩ := H
    obtain ⟨ASz6_0, cSz6_0, HGz6, hgz6, HSz6_0⟩ := HI0.out
    have hcz6_0 := cellS73_0 HGz6
    have hcz6_1 := cellS73_1 HGz6
    have hcz6_2 := cellS73_2 HGz6
    have hfz6_1 := blk_frozen HGz6 1
    have hfz6_2 := blk_frozen HGz6 2
    clear HGz6 hgz6
    have p317 : 0 ≤ (s0_1 : Int) := of_decide_eq_true Yc_
    have q317 : s0_1 < (s0_0.length : Int) := of_decide_eq_true Yc_
    obtain ⟨ad317, e317, hx317_0⟩ := Kd.Fv HSz6_0 s0_1 p317 q317
    cases e317
    replace hx317_0 := H9 HB.out hx317_0
    replace p317 := eq_true p317
    replace q317 := eq_true q317
    go_enter Try.func81, Try.ntmps81
    go_wp2
    repeat (go_quiet (fail); try go_wp2)
    go_ret
    exact ⟨by first | rfl | (simp [Aw, Az] <;> rfl) | (simp [*, Aw, Az] <;> rfl), by repeat (first | (with_reducible first | exact HI0.out | apply Ag.alloc | apply Ag.drewN | apply Ag.drew | apply Ag.D6 | apply Ag.D5) | exact HI0.out), by repeat (first | (with_reducible first | exact HB.out | apply Af | apply Ad | apply Ae | refine Ar ?_ (Ag.ge HI0.out)) | exact HB.out), by repeat (first | (with_reducible first | exact HK.out | apply Bc.Et | apply Cf | apply Dh | apply Ci) | exact HK.out)⟩
  ·rw [if_neg c3] at H
   exact absurd H (by simp)
 ·rw [if_neg c2] at H
  have c2b0 : decide (s0_1 < (s0_0.length : Int)) = false := decide_eq_false c2
  clear c2
  by_cases c7 : (wrap64 (s0_1 + 1)) ≤ (s0_0.length : Int)
  ·rw [if_pos c7] at H
   have c7b0 : decide ((wrap64 (s0_1 + 1)) ≤ (s0_0.length : Int)) = true := decide_eq_true c7
   clear c7
   simp only [Option.some.injEq, Prod.mk.injEq] at H
   obtain ⟨rfl, rfl, rfl⟩ := H
   obtain ⟨ASz8_0, cSz8_0, HGz8, hgz8, HSz8_0⟩ := HI0.out
   have hcz8_0 := cellS73_0 HGz8
   have hcz8_1 := cellS73_1 HGz8
   have hcz8_2 := cellS73_2 HGz8
   have hfz8_1 := blk_frozen HGz8 1
   have hfz8_2 := blk_frozen HGz8 2
   clear HGz8 hgz8
   go_enter Try.func81, Try.ntmps81
   go_wp2
   repeat (go_quiet (fail); try go_wp2)
   go_ret
   exact ⟨by first | rfl | (simp [Aw, Az] <;> rfl) | (simp [*, Aw, Az] <;> rfl), by repeat (first | (with_reducible first | exact HI0.out | apply Ag.alloc | apply Ag.drewN | apply Ag.drew | apply Ag.D6 | apply Ag.D5) | exact HI0.out), by repeat (first | (with_reducible first | exact HB.out | apply Af | apply Ad | apply Ae | refine Ar ?_ (Ag.ge HI0.out)) | exact HB.out), by repeat (first | (with_reducible first | exact HK.out | apply Bc.Et | apply Cf | apply Dh | apply Ci) | exact HK.out)⟩
  ·rw [if_neg c7] at H
   have c7b0 : decide ((wrap64 (s0_1 + 1)) ≤ (s0_0.length : Int)) = false := decide_eq_false c7
   clear c7
   simp only [Option.some.injEq, Prod.mk.injEq] at H
   obtain ⟨rfl, rfl, rfl⟩ := H
   obtain ⟨ASz9_0, cSz9_0, HGz9, hgz9, HSz9_0⟩ := HI0.out
   have hcz9_0 := cellS73_0 HGz9
   have hcz9_1 := cellS73_1 HGz9
   have hcz9_2 := cellS73_2 HGz9
   have hfz9_1 := blk_frozen HGz9 1
   have hfz9_2 := blk_frozen HGz9 2
   clear HGz9 hgz9
   go_enter Try.func81, Try.ntmps81
   go_wp2
   repeat (go_quiet (fail); try go_wp2)
   go_ret
   exact ⟨by first | rfl | (simp [Aw, Az] <;> rfl) | (simp [*, Aw, Az] <;> rfl), by repeat (first | (with_reducible first | exact HI0.out | apply Ag.alloc | apply Ag.drewN | apply Ag.drew | apply Ag.D6 | apply Ag.D5) | exact HI0.out), by repeat (first | (with_reducible first | exact HB.out | apply Af | apply Ad | apply Ae | refine Ar ?_ (Ag.ge HI0.out)) | exact HB.out), by repeat (first | (with_reducible first | exact HK.out | apply Bc.Et | apply Cf | apply Dh | apply Ci) | exact HK.out)⟩
end Go.Proofs.Ytolaplcjbmjlmaa.X

namespace Go.Proofs.Ytolaplcjbmjlmaa.X
open Go.RowKit Go.Proofs.YtolaplcjbmjlmaaW.PrintWords Go.Proofs.YtolaplcjbmjlmaaW.PrintLast Go.Proofs.YtolaplcjbmjlmaaW.PrintMore
attribute [local go_sem] max2_int min2_int max_two min_two max_three min_three max_four min_four
def Dt.f (s0_0 : List Int) (s0_1 : Int) (s0_2 : Int) (a1 : Int) : Option (Int × Int × Int) := if a1 ≤ 1 then (some (0, s0_1, s0_2)) else ((F8.f s0_0 s0_1 s0_2).bind fun bt318 => (if a1 > 200 then ((F8.f s0_0 bt318.2.1 bt318.2.2).bind fun bt321 => (if a1 = 0 then (none) else (some (Int.tmod (wrap64 ((wrap64 (bt318.1 * 256)) + bt321.1)) a1, bt321.2.1, bt321.2.2)))) else (if a1 = 0 then (none) else (some (Int.tmod bt318.1 a1, bt318.2.1, bt318.2.2)))))
set_option maxHeartbeats 8000000 in
set_option maxRecDepth 100000 in
theorem Dt.calls (g : Nat) (s0_0 : List Int) (s0_1 : Int) (s0_2 : Int) (a1 : Int) (r1 : Int) (r2 : Int) (r3 : Int) (w0 w : World) (hI : Ag w0 w g s0_0 s0_1 s0_2) (hB : Below w0.heap.size w0 w) (h : Dt.f s0_0 s0_1 s0_2 a1 = some (r1, r2, r3)) :
  Calls Try.prog 69 #[.pointer (some ⟨g, 0, none⟩), .int .i64 a1] w fun e w' => e = .returned (.int .i64 r1) ∧ Ag w0 w' g s0_0 r2 r3 ∧ Below w0.heap.size w0 w' ∧ Bc w w' g none := by
 have HI0 := Aside0.mk hI
 have HK := Aside0.mk (Bc.refl w g none)
 have HL := Aside0.mk hB.size
 clear hI
 have HW0 := Aside0.mk hB.size
 have HB := Aside0.mk hB
 clear hB
 have H : (if a1 ≤ 1 then (some (0, s0_1, s0_2)) else ((F8.f s0_0 s0_1 s0_2).bind fun bt318 => (if a1 > 200 then ((F8.f s0_0 bt318.2.1 bt318.2.2).bind fun bt321 => (if a1 = 0 then (none) else (some (Int.tmod (wrap64 ((wrap64 (bt318.1 * 256)) + bt321.1)) a1, bt321.2.1, bt321.2.2)))) else (if a1 = 0 then (none) else (some (Int.tmod bt318.1 a1, bt318.2.1, bt318.2.2)))))) = some (r1, r2, r3) := h
 clear h
 by_cases c3 : a1 ≤ 1
 ·rw [if_pos c3] at H
  have c3b0 : decide (a1 ≤ 1) = true := decide_eq_true c3
  clear c3
  simp only [Option.some.injEq, Prod.mk.injEq] at H
  obtain ⟨rfl, rfl, rfl⟩ := H
  go_enter Try.func69, Try.ntmps69
  go_wp2
  go_ret
  exact ⟨by first | rfl | (simp [Aw, Az] <;> rfl) | (simp [*, Aw, Az] <;> rfl), by repeat (first | (with_reducible first | exact HI0.out | apply Ag.alloc | apply Ag.drewN | apply Ag.drew | apply Ag.D6 | apply Ag.D5) | exact HI0.out), by repeat (first | (with_reducible first | exact HB.out | apply Af | apply Ad | apply Ae | refine Ar ?_ (Ag.ge HI0.out)) | exact HB.out), by repeat (first | (with_reducible first | exact HK.out | apply Bc.Et | apply Cf | apply Dh | apply Ci) | exact HK.out)⟩
 ·rw [if_neg c3] at H
  have c3b0 : decide (a1 ≤ 1) = false := decide_eq_false c3
  clear c3
  replace H := Option.bind_eq_some_iff.mp H
  obtain ⟨⟨t318, t319, t320⟩, A40, H⟩ := H
  replace H : (if a1 > 200 then ((F8.f s0_0 t319 t320).bind fun bt321 => (if a1 = 0 then (none) else (some (Int.tmod (wrap64 ((wrap64 (t318 * 256)) + bt321.1)) a1, bt321.2.1, bt321.2.2)))) else (if a1 = 0 then (none) else (some (Int.tmod t318 a1, t319, t320)))) = some (r1, r2, r3) := H
  have A4 := Aside0.mk A40
  clear A40
  by_cases c5 : a1 > 200
  ·rw [if_pos c5] at H
   have c5b0 : decide (200 < a1) = true := decide_eq_true c5
   clear c5
   replace H := Option.bind_eq_some_iff.mp H
   obtain ⟨⟨t321, t322, t323⟩, A60, H⟩ := H
   replace H : (if a1 = 0 then (none) else (some (Int.tmod (wrap64 ((wrap64 (t318 * 256)) + t321)) a1, t322, t323))) = some (r1, r2, r3) := H
   have A6 := Aside0.mk A60
   clear A60
   by_cases c7 : a1 = 0
   ·rw [if_pos c7] at H
    exact absurd H (by simp)
   ·rw [if_neg c7] at H
    have c7b0 : (a1 == 0) = false := beq_eq_false_iff_ne.mpr c7
    have c7b1 : (a1 != 0) = true := bne_iff_ne.mpr c7
    simp only [Option.some.injEq, Prod.mk.injEq] at H
    obtain ⟨rfl, rfl, rfl⟩ := H
    go_enter Try.func69, Try.ntmps69
    go_wp2_with (first | ((with_reducible refine gate_callee (f := 81) rfl ?_); refine goesL_ (some 9) rfl rfl Try.func81 (by kernel_rfl) rfl #[.pointer (some ⟨g, 0, none⟩)] rfl Yb_ ?_; (with_reducible refine (F8.calls g s0_0 s0_1 s0_2 t318 t319 t320 w0 _ ?side1 ?side2 A4.out).mono ?_); (case side1 => repeat (first | (with_reducible first | exact HI0.out | apply Ag.alloc | apply Ag.drewN | apply Ag.drew | apply Ag.D6 | apply Ag.D5) | exact HI0.out)); (case side2 => repeat (first | (with_reducible first | exact HB.out | apply Af | apply Ad | apply Ae | refine Ar ?_ (Ag.ge HI0.out)) | exact HB.out)); rintro e w8 ⟨rfl, hi, hb, hk⟩; refine ⟨_, rfl, ?_⟩; have n0_ := Aside0.mk (Bc.trans Ye_ hk (.inl rfl)); have n1_ := Aside0.mk (hb); have n2_ := Aside0.mk (hi); clear HK; clear HB; clear HI0; have HK := n0_; have HB := n1_; have HI0 := n2_; clear n0_ n1_ n2_; (try clear hb); (try clear hb2); (try clear hk); (try clear hi)) | ((with_reducible refine gate_callee (f := 81) rfl ?_); refine goesL_ (some 15) rfl rfl Try.func81 (by kernel_rfl) rfl #[.pointer (some ⟨g, 0, none⟩)] rfl Yb_ ?_; (with_reducible refine (F8.calls g s0_0 t319 t320 t321 t322 t323 w0 _ ?side1 ?side2 A6.out).mono ?_); (case side1 => repeat (first | (with_reducible first | exact HI0.out | apply Ag.alloc | apply Ag.drewN | apply Ag.drew | apply Ag.D6 | apply Ag.D5) | exact HI0.out)); (case side2 => repeat (first | (with_reducible first | exact HB.out | apply Af | apply Ad | apply Ae | refine Ar ?_ (Ag.ge HI0.out)) | exact HB.out)); rintro e w9 ⟨rfl, hi, hb, hk⟩; refine ⟨_, rfl, ?_⟩; have n0_ := Aside0.mk (Bc.trans Ye_ hk (.inl rfl)); have n1_ := Aside0.mk (hb); have n2_ := Aside0.mk (hi); clear HK; clear HB; clear HI0; have HK := n0_; have HB := n1_; have HI0 := n2_; clear n0_ n1_ n2_; (try clear hb); (try clear hb2); (try clear hk); (try clear hi)))
    go_ret
    exact ⟨by first | rfl | (simp [Aw, Az] <;> rfl) | (simp [*, Aw, Az] <;> rfl), by repeat (first | (with_reducible first | exact HI0.out | apply Ag.alloc | apply Ag.drewN | apply Ag.drew | apply Ag.D6 | apply Ag.D5) | exact HI0.out), by repeat (first | (with_reducible first | exact HB.out | apply Af | apply Ad | apply Ae | refine Ar ?_ (Ag.ge HI0.out)) | exact HB.out), by repeat (first | (with_reducible first | exact HK.out | apply Bc.Et | apply Cf | apply Dh | apply Ci) | exact HK.out)⟩
  ·rw [if_neg c5] at H
   have c5b0 : decide (200 < a1) = false := decide_eq_false c5
   clear c5
   by_cases c10 : a1 = 0
   ·rw [if_pos c10] at H
    exact absurd H (by simp)
   ·rw [if_neg c10] at H
    have c10b0 : (a1 == 0) = false := beq_eq_false_iff_ne.mpr c10
    have c10b1 : (a1 != 0) = true := bne_iff_ne.mpr c10
    simp only [Option.some.injEq, Prod.mk.injEq] at H
    obtain ⟨rfl, rfl, rfl⟩ := H
    go_enter Try.func69, Try.ntmps69
    go_wp2_with (first | ((with_reducible refine gate_callee (f := 81) rfl ?_); refine goesL_ (some 9) rfl rfl Try.func81 (by kernel_rfl) rfl #[.pointer (some ⟨g, 0, none⟩)] rfl Yb_ ?_; (with_reducible refine (F8.calls g s0_0 s0_1 s0_2 t318 t319 t320 w0 _ ?side1 ?side2 A4.out).mono ?_); (case side1 => repeat (first | (with_reducible first | exact HI0.out | apply Ag.alloc | apply Ag.drewN | apply Ag.drew | apply Ag.D6 | apply Ag.D5) | exact HI0.out)); (case side2 => repeat (first | (with_reducible first | exact HB.out | apply Af | apply Ad | apply Ae | refine Ar ?_ (Ag.ge HI0.out)) | exact HB.out)); rintro e w11 ⟨rfl, hi, hb, hk⟩; refine ⟨_, rfl, ?_⟩; have n0_ := Aside0.mk (Bc.trans Ye_ hk (.inl rfl)); have n1_ := Aside0.mk (hb); have n2_ := Aside0.mk (hi); clear HK; clear HB; clear HI0; have HK := n0_; have HB := n1_; have HI0 := n2_; clear n0_ n1_ n2_; (try clear hb); (try clear hb2); (try clear hk); (try clear hi)))
    go_ret
    exact ⟨by first | rfl | (simp [Aw, Az] <;> rfl) | (simp [*, Aw, Az] <;> rfl), by repeat (first | (with_reducible first | exact HI0.out | apply Ag.alloc | apply Ag.drewN | apply Ag.drew | apply Ag.D6 | apply Ag.D5) | exact HI0.out), by repeat (first | (with_reducible first | exact HB.out | apply Af | apply Ad | apply Ae | refine Ar ?_ (Ag.ge HI0.out)) | exact HB.out), by repeat (first | (with_reducible first | exact HK.out | apply Bc.Et | apply Cf | apply Dh | apply Ci) | exact HK.out)⟩
end Go.Proofs.Ytolaplcjbmjlmaa.X

namespace Go.Proofs.Ytolaplcjbmjlmaa.X
open Go.RowKit Go.Proofs.YtolaplcjbmjlmaaW.PrintWords Go.Proofs.YtolaplcjbmjlmaaW.PrintLast Go.Proofs.YtolaplcjbmjlmaaW.PrintMore
attribute [local go_sem] max2_int min2_int max_two min_two max_three min_three max_four min_four
def Dx.f (s0_0 : List Int) (s0_1 : Int) (s0_2 : Int) (l1 : List Int) : Option (Int × Int × Int) := (Dt.f s0_0 s0_1 s0_2 (l1.length : Int)).bind fun bt324 => (if 0 ≤ bt324.1 then (if bt324.1 < (l1.length : Int) then (some (rd l1 bt324.1, bt324.2.1, bt324.2.2)) else (none)) else (none))
set_option maxHeartbeats 8000000 in
set_option maxRecDepth 100000 in
theorem Dx.calls (g : Nat) (s0_0 : List Int) (s0_1 : Int) (s0_2 : Int) (A1 : Option Addr) (c1 : Nat) (l1 : List Int) (r1 : Int) (r2 : Int) (r3 : Int) (w0 w : World) (hI : Ag w0 w g s0_0 s0_1 s0_2) (hB : Below w0.heap.size w0 w) (hr1 : Kd.C (Kd.int .i64) w A1 l1.length l1) (hc1 : l1.length ≤ c1) (hf1 : ∀ ad, A1 = some ad → 0 < l1.length → ad.block ≠ g) (h : Dx.f s0_0 s0_1 s0_2 l1 = some (r1, r2, r3)) :
  Calls Try.prog 68 #[.pointer (some ⟨g, 0, none⟩), .slice A1 l1.length c1] w fun e w' => e = .returned (.int .i64 r1) ∧ Ag w0 w' g s0_0 r2 r3 ∧ Below w0.heap.size w0 w' ∧ Bc w w' g none := by
 have HR1 := Aside0.mk hr1
 have HC1 := Aside0.mk hc1
 clear hr1 hc1
 have HI0 := Aside0.mk hI
 have HK := Aside0.mk (Bc.refl w g none)
 have HL := Aside0.mk hB.size
 clear hI
 have HW0 := Aside0.mk hB.size
 have HB := Aside0.mk hB
 clear hB
 have H : ((Dt.f s0_0 s0_1 s0_2 (l1.length : Int)).bind fun bt324 => (if 0 ≤ bt324.1 then (if bt324.1 < (l1.length : Int) then (some (rd l1 bt324.1, bt324.2.1, bt324.2.2)) else (none)) else (none))) = some (r1, r2, r3) := h
 clear h
 replace H := Option.bind_eq_some_iff.mp H
 obtain ⟨⟨t324, t325, t326⟩, A30, H⟩ := H
 replace H : (if 0 ≤ t324 then (if t324 < (l1.length : Int) then (some (rd l1 t324, t325, t326)) else (none)) else (none)) = some (r1, r2, r3) := H
 have A3 := Aside0.mk A30
 clear A30
 by_cases c4 : 0 ≤ t324
 ·rw [if_pos c4] at H
  have c4b0 : decide (0 ≤ t324) = true := decide_eq_true c4
  clear c4
  by_cases c5 : t324 < (l1.length : Int)
  ·rw [if_pos c5] at H
   have c5b0 : decide (t324 < (l1.length : Int)) = true := decide_eq_true c5
   clear c5
   simp only [Option.some.injEq, Prod.mk.injEq] at H
   obtain ⟨rfl, rfl, rfl⟩ := H
   go_enter Try.func68, Try.ntmps68
   go_wp2_with (first | ((with_reducible refine gate_callee (f := 69) rfl ?_); refine goesL_ (some 9) rfl rfl Try.func69 (by kernel_rfl) rfl #[.pointer (some ⟨g, 0, none⟩), .int .i64 (l1.length : Int)] rfl Yb_ ?_; (with_reducible refine (Dt.calls g s0_0 s0_1 s0_2 (l1.length : Int) t324 t325 t326 w0 _ ?side1 ?side2 A3.out).mono ?_); (case side1 => repeat (first | (with_reducible first | exact HI0.out | apply Ag.alloc | apply Ag.drewN | apply Ag.drew | apply Ag.D6 | apply Ag.D5) | exact HI0.out)); (case side2 => repeat (first | (with_reducible first | exact HB.out | apply Af | apply Ad | apply Ae | refine Ar ?_ (Ag.ge HI0.out)) | exact HB.out)); rintro e w6 ⟨rfl, hi, hb, hk⟩; refine ⟨_, rfl, ?_⟩; have n0_ := Aside0.mk (Bc.trans Ye_ hk (.inl rfl)); have n1_ := Aside0.mk (hb); have n2_ := Aside0.mk (hi); clear HK; clear HB; clear HI0; have HK := n0_; have HB := n1_; have HI0 := n2_; clear n0_ n1_ n2_; (try clear hb); (try clear hb2); (try clear hk); (try clear hi); have p327 : 0 ≤ (t324 : Int) := of_decide_eq_true Yc_; have q327 : t324 < (l1.length : Int) := of_decide_eq_true Yc_; obtain ⟨ad327, e327, hx327_0⟩ := Kd.Fv HR1.out t324 p327 q327; cases e327; replace hx327_0 := keep_cell HK.out hx327_0 (by first | (rw [add_block]; exact hf1 _ rfl (by omega)) | exact hf1 _ rfl (by omega) | exact hf1 ad327 rfl (by omega)); replace p327 := eq_true p327; replace q327 := eq_true q327))
   go_ret
   exact ⟨by first | rfl | (simp [Aw, Az] <;> rfl) | (simp [*, Aw, Az] <;> rfl), by repeat (first | (with_reducible first | exact HI0.out | apply Ag.alloc | apply Ag.drewN | apply Ag.drew | apply Ag.D6 | apply Ag.D5) | exact HI0.out), by repeat (first | (with_reducible first | exact HB.out | apply Af | apply Ad | apply Ae | refine Ar ?_ (Ag.ge HI0.out)) | exact HB.out), by repeat (first | (with_reducible first | exact HK.out | apply Bc.Et | apply Cf | apply Dh | apply Ci) | exact HK.out)⟩
  ·rw [if_neg c5] at H
   exact absurd H (by simp)
 ·rw [if_neg c4] at H
  exact absurd H (by simp)
end Go.Proofs.Ytolaplcjbmjlmaa.X

namespace Go.Proofs.Ytolaplcjbmjlmaa.X
open Go.RowKit Go.Proofs.YtolaplcjbmjlmaaW.PrintWords Go.Proofs.YtolaplcjbmjlmaaW.PrintLast Go.Proofs.YtolaplcjbmjlmaaW.PrintMore
attribute [local go_sem] max2_int min2_int max_two min_two max_three min_three max_four min_four
mutual
def Bo.l0 : Nat → List (S59) → Int → List Int → Int → Int → Option ((List (S59)) × Int × Int)
 | 0, _, _, _, _, _ => none
 | k + 1, x3, x4, x1000, x1001, x1002 => if x4 > 0 then ((Dt.f x1000 x1001 x1002 40).bind fun bt334 => ((Dx.f x1000 bt334.2.1 bt334.2.2 (([0, 1, 5, 12, 24, 60, 200] : List Int))).bind fun bt340 => ((Dt.f x1000 bt340.2.1 bt340.2.2 4).bind fun bt343 => (if x3.length < 5864062014805 then (Bo.l0 k (x3 ++ [(⟨bt334.1, wrap64 (bt334.1 + bt340.1), wrap64 (1 + bt343.1)⟩ : S59)]) (wrap64 (x4 - 1)) x1000 bt343.2.1 bt343.2.2) else (none))))) else (if (x3.length : Int) = 0 then (some (x3, x1001, x1002)) else ((Dt.f x1000 x1001 x1002 (x3.length : Int)).bind fun bt349 => (if 0 ≤ bt349.1 then (if bt349.1 < (x3.length : Int) then ((Dt.f x1000 bt349.2.1 bt349.2.2 40).bind fun bt354 => (if bt354.1 = 0 then ((Dx.f x1000 bt354.2.1 bt354.2.2 (([(-1), wrap64 (((Ah x3 bt349.1).f1) + 1)] : List Int))).bind fun bt360 => (some ((x3.set (bt349.1 : Int).toNat (⟨bt360.1, (Ah x3 bt349.1).f1, (Ah x3 bt349.1).f2⟩ : S59)), bt360.2.1, bt360.2.2))) else (if bt354.1 = 1 then ((Dx.f x1000 bt354.2.1 bt354.2.2 (([240, 241] : List Int))).bind fun bt367 => (some ((x3.set (bt349.1 : Int).toNat (⟨(Ah x3 bt349.1).f0, bt367.1, (Ah x3 bt349.1).f2⟩ : S59)), bt367.2.1, bt367.2.2))) else (if bt354.1 = 2 then ((Dx.f x1000 bt354.2.1 bt354.2.2 (([0, 9, 10] : List Int))).bind fun bt374 => (some ((x3.set (bt349.1 : Int).toNat (⟨(Ah x3 bt349.1).f0, (Ah x3 bt349.1).f1, bt374.1⟩ : S59)), bt374.2.1, bt374.2.2))) else (if bt354.1 = 3 then (Bo.l1 k x3 bt349.1 x1000 bt354.2.1 bt354.2.2 ((Ah x3 bt349.1).f0) ((Ah x3 bt349.1).f1) ((Ah x3 bt349.1).f2)) else (some ((x3.set (bt349.1 : Int).toNat (⟨(Ah x3 bt349.1).f0, (Ah x3 bt349.1).f1, (Ah x3 bt349.1).f2⟩ : S59)), bt354.2.1, bt354.2.2))))))) else (none)) else (none))))
def Bo.l1 : Nat → List (S59) → Int → List Int → Int → Int → Int → Int → Int → Option ((List (S59)) × Int × Int)
 | 0, _, _, _, _, _, _, _, _ => none
 | k + 1, x3, x6, x1000, x1001, x1002, x354000, x354001, x354002 => (Dt.f x1000 x1001 x1002 2).bind fun bt378 => (if (x3.length : Int) < (wrap64 (20 + bt378.1)) then (if x3.length < 5864062014805 then (Bo.l1 k (x3 ++ [(⟨1, 2, 1⟩ : S59)]) x6 x1000 bt378.2.1 bt378.2.2 x354000 x354001 x354002) else (none)) else (if 0 ≤ x6 then (if x6 < (x3.length : Int) then (some ((x3.set (x6 : Int).toNat (⟨x354000, x354001, x354002⟩ : S59)), bt378.2.1, bt378.2.2)) else (none)) else (none)))
end
def Bo.f (k : Nat) (s0_0 : List Int) (s0_1 : Int) (s0_2 : Int) : Option ((List (S59)) × Int × Int) := (Dt.f s0_0 s0_1 s0_2 8).bind fun bt331 => (Bo.l0 k (([] : List (S59))) bt331.1 s0_0 bt331.2.1 bt331.2.2)
theorem Bo.Dq : ∀ k, (∀ y0 y1 y2 y3 y4, LeO (Bo.l0 k y0 y1 y2 y3 y4) (Bo.l0 (k + 1) y0 y1 y2 y3 y4)) ∧ (∀ y0 y1 y2 y3 y4 y5 y6 y7, LeO (Bo.l1 k y0 y1 y2 y3 y4 y5 y6 y7) (Bo.l1 (k + 1) y0 y1 y2 y3 y4 y5 y6 y7))
 | 0 => ⟨fun _ _ _ _ _ r h => by simp [Bo.l0] at h, fun _ _ _ _ _ _ _ _ r h => by simp [Bo.l1] at h⟩
 | k + 1 => by
  obtain ⟨ih0, ih1⟩ := Bo.Dq k
  refine ⟨?_, ?_⟩
  ·intro y0 y1 y2 y3 y4
   unfold Bo.l0
   repeat' first
   | (with_reducible exact ih0 _ _ _ _ _)
   | (with_reducible exact ih1 _ _ _ _ _ _ _ _)
   | (with_reducible exact LeO.refl _)
   | (with_reducible exact LeO.none _)
   | (with_reducible refine LeO.ite ?_ ?_)
   | (with_reducible refine LeO.bind ?_ (fun _ => ?_))
   | exact ih0 _ _ _ _ _
   | exact ih1 _ _ _ _ _ _ _ _
   | exact LeO.none _
   | refine LeO.ite ?_ ?_
   | refine LeO.bind ?_ (fun _ => ?_)
  ·intro y0 y1 y2 y3 y4 y5 y6 y7
   unfold Bo.l1
   repeat' first
   | (with_reducible exact ih0 _ _ _ _ _)
   | (with_reducible exact ih1 _ _ _ _ _ _ _ _)
   | (with_reducible exact LeO.refl _)
   | (with_reducible exact LeO.none _)
   | (with_reducible refine LeO.ite ?_ ?_)
   | (with_reducible refine LeO.bind ?_ (fun _ => ?_))
   | exact ih0 _ _ _ _ _
   | exact ih1 _ _ _ _ _ _ _ _
   | exact LeO.none _
   | refine LeO.ite ?_ ?_
   | refine LeO.bind ?_ (fun _ => ?_)
theorem Bo.mono : ∀ a0 a1 a2 k, LeO (Bo.f k a0 a1 a2) (Bo.f (k + 1) a0 a1 a2) := by
 intro a0 a1 a2 k
 obtain ⟨ih0, ih1⟩ := Bo.Dq k
 unfold Bo.f
 repeat' first
   | (with_reducible exact ih0 _ _ _ _ _)
   | (with_reducible exact ih1 _ _ _ _ _ _ _ _)
   | (with_reducible exact LeO.refl _)
   | (with_reducible exact LeO.none _)
   | (with_reducible refine LeO.ite ?_ ?_)
   | (with_reducible refine LeO.bind ?_ (fun _ => ?_))
   | exact ih0 _ _ _ _ _
   | exact ih1 _ _ _ _ _ _ _ _
   | exact LeO.none _
   | refine LeO.ite ?_ ?_
   | refine LeO.bind ?_ (fun _ => ?_)
set_option maxHeartbeats 8000000 in
set_option maxRecDepth 100000 in
theorem Bo.calls (k : Nat) (g : Nat) (s0_0 : List Int) (s0_1 : Int) (s0_2 : Int) (r1 : List (S59)) (r2 : Int) (r3 : Int) (w0 w : World) (hI : Ag w0 w g s0_0 s0_1 s0_2) (hB : Below w0.heap.size w0 w) (h : Bo.f k s0_0 s0_1 s0_2 = some (r1, r2, r3)) :
  Calls Try.prog 67 #[.pointer (some ⟨g, 0, none⟩)] w fun e w' => ∃ v0_ : Value, e = .returned (v0_) ∧ Kd.R k59 59 w' w.heap.size (fun _ => True) v0_ r1 ∧ Ag w0 w' g s0_0 r2 r3 ∧ Below w0.heap.size w0 w' ∧ Bc w w' g none := by
 have hu59 := Try.underlying59
 have HI0 := Aside0.mk hI
 have HK := Aside0.mk (Bc.refl w g none)
 have HL := Aside0.mk hB.size
 clear hI
 have HW0 := Aside0.mk hB.size
 have HB := Aside0.mk hB
 clear hB
 have H : ((Dt.f s0_0 s0_1 s0_2 8).bind fun bt331 => (Bo.l0 k (([] : List (S59))) bt331.1 s0_0 bt331.2.1 bt331.2.2)) = some (r1, r2, r3) := h
 clear h
 obtain ⟨y328, hy328⟩ : ∃ y_ : List (S59), y_ = (([] : List (S59))) := ⟨_, rfl⟩
 replace H : ((Dt.f s0_0 s0_1 s0_2 8).bind fun bt331 => (Bo.l0 k y328 bt331.1 s0_0 bt331.2.1 bt331.2.2)) = some (r1, r2, r3) := by first | (rw [hy328]; with_reducible exact H) | (have H2_ := (Option.bind_some _ _).symm.trans H; rw [hy328]; with_reducible exact H2_) | (have H2_ := (Option.bind_some _ _).symm.trans H; with_reducible exact H2_) | with_reducible exact H | (rw [hy328]; exact H) | exact H
 have Ny328 := Aside0.mk hy328
 clear hy328
 replace H := Option.bind_eq_some_iff.mp H
 obtain ⟨⟨t331, t332, t333⟩, A20, H⟩ := H
 replace H : (Bo.l0 k y328 t331 s0_0 t332 t333) = some (r1, r2, r3) := H
 have A2 := Aside0.mk A20
 clear A20
 have H' := Aside0.mk H
 clear H
 go_enter Try.func67, Try.ntmps67
 go_wp2_with (first | ((with_reducible refine gate_dst (N := 8) rfl ?_); refine Kd.R_lit k59 _ 59 ?hg (N := 8) ?hd (xs := ([] : List (S59))) (inner := []) (ok := fun _ => True) (okp := fun _ => True) ?hr ?hp (fun _ hk => hk) trivial (Below.refl _ _) (Nat.le_refl _) (by simp) ?_; (case hd => rfl); (case hg => rfl); (case hr => first | (go_simp; done) | (go_simp; rfl)); (case hp => exact (Dw.none _ _)); intro v329 w3 ho4 hb hg_ hnew_; clear hg_ hnew_; (first | rw [← Ny328.out] at ho4 | (simp only [Int.reduceToNat] at ho4; rw [← Ny328.out] at ho4)); have n0_ := Aside0.mk (Kd.R_lower ho4 (Gp (w := w) (g := g) (row := none) Ye_)); have n1_ := Aside0.mk (Ag.below Ybf_ hb); have n2_ := Aside0.mk (Bc.trans Ye_ (Bc.of_below hb g none) (.inl rfl)); have n3_ := Aside0.mk (below_step Ybj_ hb); clear HI0; clear HK; clear HB; have HO330 := n0_; have HI0 := n1_; have HK := n2_; have HB := n3_; clear n0_ n1_ n2_ n3_; clear hb ho4) | ((with_reducible refine gate_callee (f := 69) rfl ?_); refine goesL_ (some 10) rfl rfl Try.func69 (by kernel_rfl) rfl #[.pointer (some ⟨g, 0, none⟩), .int .i64 8] rfl Yb_ ?_; (with_reducible refine (Dt.calls g s0_0 s0_1 s0_2 8 t331 t332 t333 w0 _ ?side1 ?side2 A2.out).mono ?_); (case side1 => repeat (first | (with_reducible first | exact HI0.out | apply Ag.alloc | apply Ag.drewN | apply Ag.drew | apply Ag.D6 | apply Ag.D5) | exact HI0.out)); (case side2 => repeat (first | (with_reducible first | exact HB.out | apply Af | apply Ad | apply Ae | refine Ar ?_ (Ag.ge HI0.out)) | exact HB.out)); rintro e w5 ⟨rfl, hi, hb, hk⟩; refine ⟨_, rfl, ?_⟩; have n0_ := Aside0.mk (Kd.R_mono (Kd.Gh (Ag.apart (show Ag w0 _ g s0_0 s0_1 s0_2 from by repeat (first | (with_reducible first | exact HI0.out | apply Ag.alloc | apply Ag.drewN | apply Ag.drew | apply Ag.D6 | apply Ag.D5) | exact HI0.out)) (by (with_reducible repeat (first | apply Kd.Ap | apply Kd.Am | apply Kd.Ba)); exact HO330.out) (by decide)) hk (fun _ h => h.2)) (fun _ h => h.1)); have n1_ := Aside0.mk (Bc.trans Ye_ hk (.inl rfl)); have n2_ := Aside0.mk (hb); have n3_ := Aside0.mk (hi); clear HO330; clear HK; clear HB; clear HI0; have HO330 := n0_; have HK := n1_; have HB := n2_; have HI0 := n3_; clear n0_ n1_ n2_ n3_; (try clear hb); (try clear hb2); (try clear hk); (try clear hi)))
 go_loopg [3, 4] k (fun kq v3 v4 w' => ∃ (x3_1 : List (S59)) (x4_1 : Int) (x1001_1 : Int) (x1002_1 : Int), v4 = .int .i64 x4_1 ∧ Aside0 (Bo.l0 kq x3_1 x4_1 s0_0 x1001_1 x1002_1 = some (r1, r2, r3)) ∧ Aside0 (kq ≤ k) ∧ Aside0 (Kd.R k59 59 w' w.heap.size (fun _ => True) v3 x3_1) ∧ Aside0 (Ag w0 w' g s0_0 x1001_1 x1002_1) ∧ Aside0 (Bc w w' g none) ∧ Aside0 (Below w0.heap.size w0 w'))
 case atStart => exact ⟨(y328), (t331), (t332), (t333), Yd_, H', ⟨Nat.le_refl _⟩, ⟨by (with_reducible repeat (first | apply Kd.Ap | apply Kd.Am | apply Kd.Ba)); exact HO330.out⟩, ⟨by repeat (first | (with_reducible first | exact HI0.out | apply Ag.alloc | apply Ag.drewN | apply Ag.drew | apply Ag.D6 | apply Ag.D5) | exact HI0.out)⟩, ⟨by repeat (first | (with_reducible first | exact HK.out | apply Bc.Et | apply Cf | apply Dh | apply Ci) | exact HK.out)⟩, ⟨by repeat (first | (with_reducible first | exact HB.out | apply Af | apply Ad | apply Ae | refine Ar ?_ (Ag.ge HI0.out)) | exact HB.out)⟩⟩
 case round =>
  clear H'
  try clear p2
  obtain ⟨x3_1, x4_1, x1001_1, x1002_1, rfl, HA, HK1, HO_3, HI0, HK, HB⟩ := hrel
  cases gk with
  | zero => exact absurd HA.out (by simp [Bo.l0])
  | succ k1 =>
   have H := HA.out
   clear HA
   simp only [Bo.l0] at H
   by_cases c6 : x4_1 > 0
   ·rw [if_pos c6] at H
    have c6b0 : decide (0 < x4_1) = true := decide_eq_true c6
    clear c6
    replace H := Option.bind_eq_some_iff.mp H
    obtain ⟨⟨t334, t335, t336⟩, A70, H⟩ := H
    replace H : ((Dx.f s0_0 t335 t336 (([0, 1, 5, 12, 24, 60, 200] : List Int))).bind fun bt340 => ((Dt.f s0_0 bt340.2.1 bt340.2.2 4).bind fun bt343 => (if x3_1.length < 5864062014805 then (Bo.l0 k1 (x3_1 ++ [(⟨t334, wrap64 (t334 + bt340.1), wrap64 (1 + bt343.1)⟩ : S59)]) (wrap64 (x4_1 - 1)) s0_0 bt343.2.1 bt343.2.2) else (none)))) = some (r1, r2, r3) := H
    have A7 := Aside0.mk A70
    clear A70
    obtain ⟨y337, hy337⟩ : ∃ y_ : List Int, y_ = (([0, 1, 5, 12, 24, 60, 200] : List Int)) := ⟨_, rfl⟩
    replace H : ((Dx.f s0_0 t335 t336 y337).bind fun bt340 => ((Dt.f s0_0 bt340.2.1 bt340.2.2 4).bind fun bt343 => (if x3_1.length < 5864062014805 then (Bo.l0 k1 (x3_1 ++ [(⟨t334, wrap64 (t334 + bt340.1), wrap64 (1 + bt343.1)⟩ : S59)]) (wrap64 (x4_1 - 1)) s0_0 bt343.2.1 bt343.2.2) else (none)))) = some (r1, r2, r3) := by first | (rw [hy337]; with_reducible exact H) | (have H2_ := (Option.bind_some _ _).symm.trans H; rw [hy337]; with_reducible exact H2_) | (have H2_ := (Option.bind_some _ _).symm.trans H; with_reducible exact H2_) | with_reducible exact H | (rw [hy337]; exact H) | exact H
    have Ny337 := Aside0.mk hy337
    clear hy337
    replace H := Option.bind_eq_some_iff.mp H
    obtain ⟨⟨t340, t341, t342⟩, A80, H⟩ := H
    replace H : ((Dt.f s0_0 t341 t342 4).bind fun bt343 => (if x3_1.length < 5864062014805 then (Bo.l0 k1 (x3_1 ++ [(⟨t334, wrap64 (t334 + t340), wrap64 (1 + bt343.1)⟩ : S59)]) (wrap64 (x4_1 - 1)) s0_0 bt343.2.1 bt343.2.2) else (none))) = some (r1, r2, r3) := H
    have A8 := Aside0.mk A80
    clear A80
    replace H := Option.bind_eq_some_iff.mp H
    obtain ⟨⟨t343, t344, t345⟩, A90, H⟩ := H
    replace H : (if x3_1.length < 5864062014805 then (Bo.l0 k1 (x3_1 ++ [(⟨t334, wrap64 (t334 + t340), wrap64 (1 + t343)⟩ : S59)]) (wrap64 (x4_1 - 1)) s0_0 t344 t345) else (none)) = some (r1, r2, r3) := H
    have A9 := Aside0.mk A90
    clear A90
    by_cases c10 : x3_1.length < 5864062014805
    ·rw [if_pos c10] at H
     have LMc10 := Aside0.mk c10
     clear c10
     obtain ⟨y346, hy346⟩ : ∃ y_ : List (S59), y_ = (x3_1 ++ [(⟨t334, wrap64 (t334 + t340), wrap64 (1 + t343)⟩ : S59)]) := ⟨_, rfl⟩
     replace H : (Bo.l0 k1 y346 (wrap64 (x4_1 - 1)) s0_0 t344 t345) = some (r1, r2, r3) := by first | (rw [hy346]; with_reducible exact H) | (have H2_ := (Option.bind_some _ _).symm.trans H; rw [hy346]; with_reducible exact H2_) | (have H2_ := (Option.bind_some _ _).symm.trans H; with_reducible exact H2_) | with_reducible exact H | (rw [hy346]; exact H) | exact H
     have Ny346 := Aside0.mk hy346
     clear hy346
     have H' := Aside0.mk H
     clear H
     go_wp2_with (first | ((with_reducible refine gate_callee (f := 69) rfl ?_); refine goesL_ (some 16) rfl rfl Try.func69 (by kernel_rfl) rfl #[.pointer (some ⟨g, 0, none⟩), .int .i64 40] rfl Yb_ ?_; (with_reducible refine (Dt.calls g s0_0 x1001_1 x1002_1 40 t334 t335 t336 w0 _ ?side1 ?side2 A7.out).mono ?_); (case side1 => repeat (first | (with_reducible first | exact HI0.out | apply Ag.alloc | apply Ag.drewN | apply Ag.drew | apply Ag.D6 | apply Ag.D5) | exact HI0.out)); (case side2 => repeat (first | (with_reducible first | exact HB.out | apply Af | apply Ad | apply Ae | refine Ar ?_ (Ag.ge HI0.out)) | exact HB.out)); rintro e w11 ⟨rfl, hi, hb, hk⟩; refine ⟨_, rfl, ?_⟩; have n0_ := Aside0.mk (Kd.R_mono (Kd.Gh (Ag.apart (show Ag w0 _ g s0_0 x1001_1 x1002_1 from by repeat (first | (with_reducible first | exact HI0.out | apply Ag.alloc | apply Ag.drewN | apply Ag.drew | apply Ag.D6 | apply Ag.D5) | exact HI0.out)) Yg_ (by decide)) hk (fun _ h => h.2)) (fun _ h => h.1)); have n1_ := Aside0.mk (Bc.trans Ye_ hk (.inl rfl)); have n2_ := Aside0.mk (hb); have n3_ := Aside0.mk (hi); clear HO_3; clear HK; clear HB; clear HI0; have HO_3 := n0_; have HK := n1_; have HB := n2_; have HI0 := n3_; clear n0_ n1_ n2_ n3_; (try clear hb); (try clear hb2); (try clear hk); (try clear hi)) | ((with_reducible refine gate_dst (N := 21) rfl ?_); refine Kd.R_lit (Kd.int .i64) _ 3 ?hg (N := 21) ?hd (xs := ([0, 1, 5, 12, 24, 60, 200] : List Int)) (inner := [.int .i64 0, .int .i64 1, .int .i64 5, .int .i64 12, .int .i64 24, .int .i64 60, .int .i64 200]) (ok := fun _ => True) (okp := fun _ => True) ?hr ?hp (fun _ hk => hk) trivial (Below.refl _ _) (Nat.le_refl _) (by simp) ?_; (case hd => rfl); (case hg => rfl); (case hr => first | (go_simp; done) | (go_simp; rfl)); (case hp => exact (Dw.one (show Kd.M (Kd.int .i64) _ _ _ 0 [.int .i64 0] from rfl) (Dw.one (show Kd.M (Kd.int .i64) _ _ _ 1 [.int .i64 1] from rfl) (Dw.one (show Kd.M (Kd.int .i64) _ _ _ 5 [.int .i64 5] from rfl) (Dw.one (show Kd.M (Kd.int .i64) _ _ _ 12 [.int .i64 12] from rfl) (Dw.one (show Kd.M (Kd.int .i64) _ _ _ 24 [.int .i64 24] from rfl) (Dw.one (show Kd.M (Kd.int .i64) _ _ _ 60 [.int .i64 60] from rfl) (Dw.one (show Kd.M (Kd.int .i64) _ _ _ 200 [.int .i64 200] from rfl) (Dw.none _ _))))))))); intro v338 w12 ho13 hb hg_ hnew_; clear hg_ hnew_; (first | rw [← Ny337.out] at ho13 | (simp only [Int.reduceToNat] at ho13; rw [← Ny337.out] at ho13)); have n0_ := Aside0.mk (Kd.R_below Yg_ hb); have n1_ := Aside0.mk (Kd.R_lower ho13 (Gp (w := w) (g := g) (row := none) Ye_)); have n2_ := Aside0.mk (Ag.below Ybf_ hb); have n3_ := Aside0.mk (Bc.trans Ye_ (Bc.of_below hb g none) (.inl rfl)); have n4_ := Aside0.mk (below_step Ybj_ hb); clear HO_3; clear HI0; clear HK; clear HB; have HO_3 := n0_; have HO339 := n1_; have HI0 := n2_; have HK := n3_; have HB := n4_; clear n0_ n1_ n2_ n3_ n4_; clear hb ho13; obtain ⟨Ao14, co14, eo14⟩ := Kd.R_slice HO339.out; subst eo14) | ((with_reducible refine gate_callee (f := 68) rfl ?_); refine goesL_ (some 22) rfl rfl Try.func68 (by kernel_rfl) rfl #[.pointer (some ⟨g, 0, none⟩), .slice Ao14 y337.length co14] rfl Yb_ ?_; (with_reducible refine (Dx.calls g s0_0 t335 t336 _ _ y337 t340 t341 t342 w0 _ ?side1 ?side2 ?side3 ?side4 ?side5 A8.out).mono ?_); (case side1 => repeat (first | (with_reducible first | exact HI0.out | apply Ag.alloc | apply Ag.drewN | apply Ag.drew | apply Ag.D6 | apply Ag.D5) | exact HI0.out)); (case side2 => repeat (first | (with_reducible first | exact HB.out | apply Af | apply Ad | apply Ae | refine Ar ?_ (Ag.ge HI0.out)) | exact HB.out)); (case side3 => repeat (first | exact (Kd.R_reads' HO339.out).2.2 | (with_reducible refine Kd.Be ?_ _) | (with_reducible refine Kd.Bf ?_ _) | (with_reducible refine Kd.Bh ?_))); (case side4 => exact (Kd.R_reads' HO339.out).2.1); (case side5 => exact far_slice (Ag.own_ne HI0.out HO339.out (by decide))); rintro e w15 ⟨rfl, hi, hb, hk⟩; refine ⟨_, rfl, ?_⟩; have n0_ := Aside0.mk (Kd.R_mono (Kd.Gh (Ag.apart (show Ag w0 _ g s0_0 t335 t336 from by repeat (first | (with_reducible first | exact HI0.out | apply Ag.alloc | apply Ag.drewN | apply Ag.drew | apply Ag.D6 | apply Ag.D5) | exact HI0.out)) Yg_ (by decide)) hk (fun _ h => h.2)) (fun _ h => h.1)); have n1_ := Aside0.mk (Kd.R_mono (Kd.Gh (Ag.apart (show Ag w0 _ g s0_0 t335 t336 from by repeat (first | (with_reducible first | exact HI0.out | apply Ag.alloc | apply Ag.drewN | apply Ag.drew | apply Ag.D6 | apply Ag.D5) | exact HI0.out)) Yeb_ (by decide)) hk (fun _ h => h.2)) (fun _ h => h.1)); have n2_ := Aside0.mk (Bc.trans Ye_ hk (.inl rfl)); have n3_ := Aside0.mk (hb); have n4_ := Aside0.mk (hi); clear HO_3; clear HO339; clear HK; clear HB; clear HI0; have HO_3 := n0_; have HO339 := n1_; have HK := n2_; have HB := n3_; have HI0 := n4_; clear n0_ n1_ n2_ n3_ n4_; (try clear hb); (try clear hb2); (try clear hk); (try clear hi)) | ((with_reducible refine gate_callee (f := 69) rfl ?_); refine goesL_ (some 25) rfl rfl Try.func69 (by kernel_rfl) rfl #[.pointer (some ⟨g, 0, none⟩), .int .i64 4] rfl Yb_ ?_; (with_reducible refine (Dt.calls g s0_0 t341 t342 4 t343 t344 t345 w0 _ ?side1 ?side2 A9.out).mono ?_); (case side1 => repeat (first | (with_reducible first | exact HI0.out | apply Ag.alloc | apply Ag.drewN | apply Ag.drew | apply Ag.D6 | apply Ag.D5) | exact HI0.out)); (case side2 => repeat (first | (with_reducible first | exact HB.out | apply Af | apply Ad | apply Ae | refine Ar ?_ (Ag.ge HI0.out)) | exact HB.out)); rintro e w16 ⟨rfl, hi, hb, hk⟩; refine ⟨_, rfl, ?_⟩; have n0_ := Aside0.mk (Kd.R_mono (Kd.Gh (Ag.apart (show Ag w0 _ g s0_0 t341 t342 from by repeat (first | (with_reducible first | exact HI0.out | apply Ag.alloc | apply Ag.drewN | apply Ag.drew | apply Ag.D6 | apply Ag.D5) | exact HI0.out)) Yg_ (by decide)) hk (fun _ h => h.2)) (fun _ h => h.1)); have n1_ := Aside0.mk (Kd.R_mono (Kd.Gh (Ag.apart (show Ag w0 _ g s0_0 t341 t342 from by repeat (first | (with_reducible first | exact HI0.out | apply Ag.alloc | apply Ag.drewN | apply Ag.drew | apply Ag.D6 | apply Ag.D5) | exact HI0.out)) Yeb_ (by decide)) hk (fun _ h => h.2)) (fun _ h => h.1)); have n2_ := Aside0.mk (Bc.trans Ye_ hk (.inl rfl)); have n3_ := Aside0.mk (hb); have n4_ := Aside0.mk (hi); clear HO_3; clear HO339; clear HK; clear HB; clear HI0; have HO_3 := n0_; have HO339 := n1_; have HK := n2_; have HB := n3_; have HI0 := n4_; clear n0_ n1_ n2_ n3_ n4_; (try clear hb); (try clear hb2); (try clear hk); (try clear hi)) | ((with_reducible refine H5 (b := .append) (xs := #[.tmp 17, .tmp 28]) rfl ?_); at_builtin; refine Kd.R_append k59 w.heap.size rfl (.tmp 17) (.tmp 28) 28 59 (.agg #[(.int .i64 0), (.int .i64 0), (.int .i64 0)]) 24 rfl Try.underlying28 info59 rfl (by decide) (by omega) u3 x3_1 (⟨t334, wrap64 (t334 + t340), wrap64 (1 + t343)⟩ : S59) [.int .i64 t334, .int .i64 (wrap64 (t334 + t340)), .int .i64 (wrap64 (1 + t343))] (fun _ => True) (fun _ => False) rfl rfl ?aP (fun _ hk => hk.elim) ?aF ?aO (Below.refl _ _) ?aS ?aL ?_; (case aP => exact Hy _ _ _ (⟨t334, wrap64 (t334 + t340), wrap64 (1 + t343)⟩ : S59)); (case aF => exact (fun _ _ => trivial)); (case aO => exact Yg_); (case aS => exact (Gp (w := w) (g := g) (row := none) Ye_)); (case aL => have := LMc10.out; omega); intro v347 w17 ho hb hg hat; rw [← Ny346.out] at ho; have n0_ := Aside0.mk (Ag.grown Ybf_ hg (Ag.own_ne HI0.out HO_3.out (by decide))); have n1_ := Aside0.mk (Kd.R_over' Yeb_ (Kd.R_typed Yg_) (by decide) hg); have n2_ := Aside0.mk (below_weaken Ybj_ HL.out hb); have n3_ := Aside0.mk (Bc.trans Ye_ (Bc.Ha hg g) (Kd.R_base2 HO_3.out)); have n4_ := Aside0.mk (ho); clear HI0; clear HO339; clear HB; clear HK; clear HO_3; have HI0 := n0_; have HO339 := n1_; have HB := n2_; have HK := n3_; have HO348 := n4_; clear n0_ n1_ n2_ n3_ n4_; clear ho hb hg hat))
     go_roundg k1
     case measure => have := HK1.out; omega
     case rel => exact ⟨(y346), (wrap64 (x4_1 - 1)), (t344), (t345), Yd_, H', ⟨by have := HK1.out; omega⟩, ⟨by (with_reducible repeat (first | apply Kd.Ap | apply Kd.Am | apply Kd.Ba)); exact HO348.out⟩, ⟨by repeat (first | (with_reducible first | exact HI0.out | apply Ag.alloc | apply Ag.drewN | apply Ag.drew | apply Ag.D6 | apply Ag.D5) | exact HI0.out)⟩, ⟨by repeat (first | (with_reducible first | exact HK.out | apply Bc.Et | apply Cf | apply Dh | apply Ci) | exact HK.out)⟩, ⟨by repeat (first | (with_reducible first | exact HB.out | apply Af | apply Ad | apply Ae | refine Ar ?_ (Ag.ge HI0.out)) | exact HB.out)⟩⟩
    ·rw [if_neg c10] at H
     exact absurd H (by simp)
   ·rw [if_neg c6] at H
    have c6b0 : decide (0 < x4_1) = false := decide_eq_false c6
    clear c6
    by_cases c18 : (x3_1.length : Int) = 0
    ·rw [if_pos c18] at H
     have c18b0 : ((x3_1.length : Int) == 0) = true := beq_iff_eq.mpr c18
     have c18b1 : ((x3_1.length : Int) != 0) = false := bne_eq_false_iff_eq.mpr c18
     clear c18
     simp only [Option.some.injEq, Prod.mk.injEq] at H
     obtain ⟨rfl, rfl, rfl⟩ := H
     obtain ⟨Ao19, co19, eo19⟩ := Kd.R_slice HO_3.out
     subst eo19
     go_wp2
     go_ret
     exact ⟨_, by first | rfl | (simp [Aw, Az] <;> rfl) | (simp [*, Aw, Az] <;> rfl), by (with_reducible repeat (first | apply Kd.Ap | apply Kd.Am | apply Kd.Ba)); exact HO_3.out, by repeat (first | (with_reducible first | exact HI0.out | apply Ag.alloc | apply Ag.drewN | apply Ag.drew | apply Ag.D6 | apply Ag.D5) | exact HI0.out), by repeat (first | (with_reducible first | exact HB.out | apply Af | apply Ad | apply Ae | refine Ar ?_ (Ag.ge HI0.out)) | exact HB.out), by repeat (first | (with_reducible first | exact HK.out | apply Bc.Et | apply Cf | apply Dh | apply Ci) | exact HK.out)⟩
    ·rw [if_neg c18] at H
     have c18b0 : ((x3_1.length : Int) == 0) = false := beq_eq_false_iff_ne.mpr c18
     have c18b1 : ((x3_1.length : Int) != 0) = true := bne_iff_ne.mpr c18
     have c18b2 : ¬ (x3_1 = []) := fun h_ => c18 (by rw [h_]; rfl)
     replace H := Option.bind_eq_some_iff.mp H
     obtain ⟨⟨t349, t350, t351⟩, A200, H⟩ := H
     replace H : (if 0 ≤ t349 then (if t349 < (x3_1.length : Int) then ((Dt.f s0_0 t350 t351 40).bind fun bt354 => (if bt354.1 = 0 then ((Dx.f s0_0 bt354.2.1 bt354.2.2 (([(-1), wrap64 (((Ah x3_1 t349).f1) + 1)] : List Int))).bind fun bt360 => (some ((x3_1.set (t349 : Int).toNat (⟨bt360.1, (Ah x3_1 t349).f1, (Ah x3_1 t349).f2⟩ : S59)), bt360.2.1, bt360.2.2))) else (if bt354.1 = 1 then ((Dx.f s0_0 bt354.2.1 bt354.2.2 (([240, 241] : List Int))).bind fun bt367 => (some ((x3_1.set (t349 : Int).toNat (⟨(Ah x3_1 t349).f0, bt367.1, (Ah x3_1 t349).f2⟩ : S59)), bt367.2.1, bt367.2.2))) else (if bt354.1 = 2 then ((Dx.f s0_0 bt354.2.1 bt354.2.2 (([0, 9, 10] : List Int))).bind fun bt374 => (some ((x3_1.set (t349 : Int).toNat (⟨(Ah x3_1 t349).f0, (Ah x3_1 t349).f1, bt374.1⟩ : S59)), bt374.2.1, bt374.2.2))) else (if bt354.1 = 3 then (Bo.l1 k1 x3_1 t349 s0_0 bt354.2.1 bt354.2.2 ((Ah x3_1 t349).f0) ((Ah x3_1 t349).f1) ((Ah x3_1 t349).f2)) else (some ((x3_1.set (t349 : Int).toNat (⟨(Ah x3_1 t349).f0, (Ah x3_1 t349).f1, (Ah x3_1 t349).f2⟩ : S59)), bt354.2.1, bt354.2.2))))))) else (none)) else (none)) = some (r1, r2, r3) := H
     have A20 := Aside0.mk A200
     clear A200
     by_cases c21 : 0 ≤ t349
     ·rw [if_pos c21] at H
      have c21b0 : decide (0 ≤ t349) = true := decide_eq_true c21
      clear c21
      by_cases c22 : t349 < (x3_1.length : Int)
      ·rw [if_pos c22] at H
       have c22b0 : decide (t349 < (x3_1.length : Int)) = true := decide_eq_true c22
       clear c22
       replace H := Option.bind_eq_some_iff.mp H
       obtain ⟨⟨t354, t355, t356⟩, A230, H⟩ := H
       replace H : (if t354 = 0 then ((Dx.f s0_0 t355 t356 (([(-1), wrap64 (((Ah x3_1 t349).f1) + 1)] : List Int))).bind fun bt360 => (some ((x3_1.set (t349 : Int).toNat (⟨bt360.1, (Ah x3_1 t349).f1, (Ah x3_1 t349).f2⟩ : S59)), bt360.2.1, bt360.2.2))) else (if t354 = 1 then ((Dx.f s0_0 t355 t356 (([240, 241] : List Int))).bind fun bt367 => (some ((x3_1.set (t349 : Int).toNat (⟨(Ah x3_1 t349).f0, bt367.1, (Ah x3_1 t349).f2⟩ : S59)), bt367.2.1, bt367.2.2))) else (if t354 = 2 then ((Dx.f s0_0 t355 t356 (([0, 9, 10] : List Int))).bind fun bt374 => (some ((x3_1.set (t349 : Int).toNat (⟨(Ah x3_1 t349).f0, (Ah x3_1 t349).f1, bt374.1⟩ : S59)), bt374.2.1, bt374.2.2))) else (if t354 = 3 then (Bo.l1 k1 x3_1 t349 s0_0 t355 t356 ((Ah x3_1 t349).f0) ((Ah x3_1 t349).f1) ((Ah x3_1 t349).f2)) else (some ((x3_1.set (t349 : Int).toNat (⟨(Ah x3_1 t349).f0, (Ah x3_1 t349).f1, (Ah x3_1 t349).f2⟩ : S59)), t355, t356)))))) = some (r1, r2, r3) := H
       have A23 := Aside0.mk A230
       clear A230
       by_cases c24 : t354 = 0
       ·rw [if_pos c24] at H
        have c24b0 : (t354 == 0) = true := beq_iff_eq.mpr c24
        have c24b1 : (t354 != 0) = false := bne_eq_false_iff_eq.mpr c24
        clear c24
        obtain ⟨y357, hy357⟩ : ∃ y_ : List Int, y_ = (([(-1), wrap64 (((Ah x3_1 t349).f1) + 1)] : List Int)) := ⟨_, rfl⟩
        replace H : ((Dx.f s0_0 t355 t356 y357).bind fun bt360 => (some ((x3_1.set (t349 : Int).toNat (⟨bt360.1, (Ah x3_1 t349).f1, (Ah x3_1 t349).f2⟩ : S59)), bt360.2.1, bt360.2.2))) = some (r1, r2, r3) := by first | (rw [hy357]; with_reducible exact H) | (have H2_ := (Option.bind_some _ _).symm.trans H; rw [hy357]; with_reducible exact H2_) | (have H2_ := (Option.bind_some _ _).symm.trans H; with_reducible exact H2_) | with_reducible exact H | (rw [hy357]; exact H) | exact H
        have Ny357 := Aside0.mk hy357
        clear hy357
        replace H := Option.bind_eq_some_iff.mp H
        obtain ⟨⟨t360, t361, t362⟩, A250, H⟩ := H
        replace H : (some ((x3_1.set (t349 : Int).toNat (⟨t360, (Ah x3_1 t349).f1, (Ah x3_1 t349).f2⟩ : S59)), t361, t362)) = some (r1, r2, r3) := H
        have A25 := Aside0.mk A250
        clear A250
        obtain ⟨y363, hy363⟩ : ∃ y_ : List (S59), y_ = (x3_1.set (t349 : Int).toNat (⟨t360, (Ah x3_1 t349).f1, (Ah x3_1 t349).f2⟩ : S59)) := ⟨_, rfl⟩
        replace H : (some (y363, t361, t362)) = some (r1, r2, r3) := by first | (rw [hy363]; with_reducible exact H) | (have H2_ := (Option.bind_some _ _).symm.trans H; rw [hy363]; with_reducible exact H2_) | (have H2_ := (Option.bind_some _ _).symm.trans H; with_reducible exact H2_) | with_reducible exact H | (rw [hy363]; exact H) | exact H
        have Ny363 := Aside0.mk hy363
        clear hy363
        simp only [Option.some.injEq, Prod.mk.injEq] at H
        obtain ⟨rfl, rfl, rfl⟩ := H
        obtain ⟨Ao27, co27, eo27⟩ := Kd.R_slice HO_3.out
        subst eo27
        go_wp2_with (first | ((with_reducible refine gate_callee (f := 69) rfl ?_); refine goesL_ (some 37) rfl rfl Try.func69 (by kernel_rfl) rfl #[.pointer (some ⟨g, 0, none⟩), .int .i64 (x3_1.length : Int)] rfl Yb_ ?_; (with_reducible refine (Dt.calls g s0_0 x1001_1 x1002_1 (x3_1.length : Int) t349 t350 t351 w0 _ ?side1 ?side2 A20.out).mono ?_); (case side1 => repeat (first | (with_reducible first | exact HI0.out | apply Ag.alloc | apply Ag.drewN | apply Ag.drew | apply Ag.D6 | apply Ag.D5) | exact HI0.out)); (case side2 => repeat (first | (with_reducible first | exact HB.out | apply Af | apply Ad | apply Ae | refine Ar ?_ (Ag.ge HI0.out)) | exact HB.out)); rintro e w28 ⟨rfl, hi, hb, hk⟩; refine ⟨_, rfl, ?_⟩; have n0_ := Aside0.mk (Kd.R_mono (Kd.Gh (Ag.apart (show Ag w0 _ g s0_0 x1001_1 x1002_1 from by repeat (first | (with_reducible first | exact HI0.out | apply Ag.alloc | apply Ag.drewN | apply Ag.drew | apply Ag.D6 | apply Ag.D5) | exact HI0.out)) Yg_ (by decide)) hk (fun _ h => h.2)) (fun _ h => h.1)); have n1_ := Aside0.mk (Bc.trans Ye_ hk (.inl rfl)); have n2_ := Aside0.mk (hb); have n3_ := Aside0.mk (hi); clear HO_3; clear HK; clear HB; clear HI0; have HO_3 := n0_; have HK := n1_; have HB := n2_; have HI0 := n3_; clear n0_ n1_ n2_ n3_; (try clear hb); (try clear hb2); (try clear hk); (try clear hi); have p352 : 0 ≤ (t349 : Int) := of_decide_eq_true Yc_; have q352 : t349 < (x3_1.length : Int) := of_decide_eq_true Yc_; obtain ⟨ad352, e352, hx352_0, hx352_1, hx352_2⟩ := Ez (Kd.R_reads' HO_3.out).2.2 t349 p352 q352; cases e352; replace p352 := eq_true p352; replace q352 := eq_true q352) | ((with_reducible refine gate_dst (N := 7) rfl ?_); refine box_event ?hg (N := 7) ?hd (cs := #[.int .i64 0, .int .i64 0, .int .i64 0]) (t := 59) ?hr ?_; (case hd => rfl); (case hg => rfl); (case hr => first | (go_simp; done) | (go_simp; rfl)); intro gb353 hg w29 hbox hb; have n0_ := Aside0.mk (Kd.R_below (Kd.R_elderB Yg_ gb353 (Nat.le_of_eq hg.symm)) hb); have n1_ := Aside0.mk (Ag.below Ybf_ hb); have n2_ := Aside0.mk (Bc.trans Ye_ (Bc.of_below hb g none) (.inl rfl)); have n3_ := Aside0.mk (below_step Ybj_ hb); have n4_ := Aside0.mk (hbox); have n5_ := Aside0.mk ((by rw [hg]; exact (Gp (w := w) (g := g) (row := none) Ye_) : w.heap.size ≤ gb353)); have n6_ := Aside0.mk ((Nat.le_trans HW0.out (by rw [hg]; exact (Gp (w := w) (g := g) (row := none) Ye_) : w.heap.size ≤ gb353) : w0.heap.size ≤ gb353)); have n7_ := Aside0.mk ((by rw [hg]; exact Nat.ne_of_lt (Ag.lt (show Ag w0 _ g s0_0 t350 t351 from by repeat (first | (with_reducible first | exact HI0.out | apply Ag.alloc | apply Ag.drewN | apply Ag.drew | apply Ag.D6 | apply Ag.D5) | exact HI0.out))) : g ≠ gb353)); have n8_ := Aside0.mk ((by rw [hg]; exact Nat.ne_of_gt (Ag.lt (show Ag w0 _ g s0_0 t350 t351 from by repeat (first | (with_reducible first | exact HI0.out | apply Ag.alloc | apply Ag.drewN | apply Ag.drew | apply Ag.D6 | apply Ag.D5) | exact HI0.out))) : gb353 ≠ g)); clear HO_3; clear HI0; clear HK; clear HB; have HO_3 := n0_; have HI0 := n1_; have HK := n2_; have HB := n3_; have BK353 := n4_; have GW353 := n5_; have GE353 := n6_; have NB0_353 := n7_; have NB353_0 := n8_; clear n0_ n1_ n2_ n3_ n4_ n5_ n6_ n7_ n8_; clear hb hbox hg; have hnb30 := NB353_0.out; have hnc30 := NB0_353.out; have hcz31_0 : w29.cell? ⟨gb353, 0, none⟩ = some (.int .i64 0) := (blk_cell BK353.out 0).trans rfl; have hcz31_1 : w29.cell? ⟨gb353, 1, none⟩ = some (.int .i64 0) := (blk_cell BK353.out 1).trans rfl; have hcz31_2 : w29.cell? ⟨gb353, 2, none⟩ = some (.int .i64 0) := (blk_cell BK353.out 2).trans rfl; have hfz31_0 := blk_frozen BK353.out 0; have hfz31_1 := blk_frozen BK353.out 1; have hfz31_2 := blk_frozen BK353.out 2) | ((with_reducible refine gate_callee (f := 69) rfl ?_); refine goesL_ (some 43) rfl rfl Try.func69 (by kernel_rfl) rfl #[.pointer (some ⟨g, 0, none⟩), .int .i64 40] rfl Yb_ ?_; (with_reducible refine (Dt.calls g s0_0 t350 t351 40 t354 t355 t356 w0 _ ?side1 ?side2 A23.out).mono ?_); (case side1 => repeat (first | (with_reducible first | exact HI0.out | apply Ag.alloc | apply Ag.drewN | apply Ag.drew | apply Ag.D6 | apply Ag.D5 | refine Ag.far ?_ NB0_353.out _) | exact HI0.out)); (case side2 => repeat (first | (with_reducible first | exact HB.out | apply Af | apply Ad | apply Ae | refine Ar ?_ (Ag.ge HI0.out) | refine Ar ?_ GE353.out) | exact HB.out)); rintro e w32 ⟨rfl, hi, hb, hk⟩; refine ⟨_, rfl, ?_⟩; have n0_ := Aside0.mk (Kd.R_mono (Kd.Gh (Ag.apart (show Ag w0 _ g s0_0 t350 t351 from by repeat (first | (with_reducible first | exact HI0.out | apply Ag.alloc | apply Ag.drewN | apply Ag.drew | apply Ag.D6 | apply Ag.D5 | refine Ag.far ?_ NB0_353.out _) | exact HI0.out)) Ybb_ (by decide)) hk (fun _ h => h.2)) (fun _ h => h.1)); have n1_ := Aside0.mk (Bc.blk hk (g' := gb353) (o := .cells #[.int .i64 ((Ah x3_1 t349).f0), .int .i64 ((Ah x3_1 t349).f1), .int .i64 ((Ah x3_1 t349).f2)] 59 (0, 0)) Yi_ NB353_0.out (by simp)); have n2_ := Aside0.mk (Bc.trans Yf_ hk (.inl rfl)); have n3_ := Aside0.mk (hb); have n4_ := Aside0.mk (hi); clear HO_3; clear BK353; clear HK; clear HB; clear HI0; have HO_3 := n0_; have BK353 := n1_; have HK := n2_; have HB := n3_; have HI0 := n4_; clear n0_ n1_ n2_ n3_ n4_; (try clear hb); (try clear hb2); (try clear hk); (try clear hi); have hcz33_0 : w32.cell? ⟨gb353, 0, none⟩ = some (.int .i64 ((Ah x3_1 t349).f0)) := (blk_cell BK353.out 0).trans rfl; have hcz33_1 : w32.cell? ⟨gb353, 1, none⟩ = some (.int .i64 ((Ah x3_1 t349).f1)) := (blk_cell BK353.out 1).trans rfl; have hcz33_2 : w32.cell? ⟨gb353, 2, none⟩ = some (.int .i64 ((Ah x3_1 t349).f2)) := (blk_cell BK353.out 2).trans rfl; have hfz33_0 := blk_frozen BK353.out 0; have hfz33_1 := blk_frozen BK353.out 1; have hfz33_2 := blk_frozen BK353.out 2) | ((with_reducible refine gate_dst (N := 50) rfl ?_); refine Kd.R_lit (Kd.int .i64) _ 3 ?hg (N := 50) ?hd (xs := ([(-1), wrap64 (((Ah x3_1 t349).f1) + 1)] : List Int)) (inner := [.int .i64 (-1), .int .i64 (wrap64 (((Ah x3_1 t349).f1) + 1))]) (ok := fun _ => True) (okp := fun _ => True) ?hr ?hp (fun _ hk => hk) trivial (Below.refl _ _) (Nat.le_refl _) (by simp) ?_; (case hd => rfl); (case hg => rfl); (case hr => first | (go_simp; done) | (go_simp; rfl)); (case hp => exact (Dw.one (show Kd.M (Kd.int .i64) _ _ _ (-1) [.int .i64 (-1)] from rfl) (Dw.one (show Kd.M (Kd.int .i64) _ _ _ (wrap64 (((Ah x3_1 t349).f1) + 1)) [.int .i64 (wrap64 (((Ah x3_1 t349).f1) + 1))] from rfl) (Dw.none _ _)))); intro v358 w34 ho35 hb hg_ hnew_; clear hg_ hnew_; (first | rw [← Ny357.out] at ho35 | (simp only [Int.reduceToNat] at ho35; rw [← Ny357.out] at ho35)); have n0_ := Aside0.mk (Kd.R_below Yg_ hb); have n1_ := Aside0.mk (Kd.R_lower ho35 (Gp (w := w) (g := g) (row := none) Yf_)); have n2_ := Aside0.mk (Ag.below Yba_ hb); have n3_ := Aside0.mk (blk_below (g := gb353) (o := .cells #[.int .i64 ((Ah x3_1 t349).f0), .int .i64 ((Ah x3_1 t349).f1), .int .i64 ((Ah x3_1 t349).f2)] 59 (0, 0)) Ybe_ hb); have n4_ := Aside0.mk (Bc.trans Yf_ (Bc.of_below hb g none) (.inl rfl)); have n5_ := Aside0.mk (below_step Ybi_ hb); clear HO_3; clear HI0; clear BK353; clear HK; clear HB; have HO_3 := n0_; have HO359 := n1_; have HI0 := n2_; have BK353 := n3_; have HK := n4_; have HB := n5_; clear n0_ n1_ n2_ n3_ n4_ n5_; clear hb ho35; obtain ⟨Ao36, co36, eo36⟩ := Kd.R_slice HO359.out; subst eo36) | ((with_reducible refine gate_callee (f := 68) rfl ?_); refine goesL_ (some 51) rfl rfl Try.func68 (by kernel_rfl) rfl #[.pointer (some ⟨g, 0, none⟩), .slice Ao36 y357.length co36] rfl Yb_ ?_; (with_reducible refine (Dx.calls g s0_0 t355 t356 _ _ y357 t360 t361 t362 w0 _ ?side1 ?side2 ?side3 ?side4 ?side5 A25.out).mono ?_); (case side1 => repeat (first | (with_reducible first | exact HI0.out | apply Ag.alloc | apply Ag.drewN | apply Ag.drew | apply Ag.D6 | apply Ag.D5 | refine Ag.far ?_ NB0_353.out _) | exact HI0.out)); (case side2 => repeat (first | (with_reducible first | exact HB.out | apply Af | apply Ad | apply Ae | refine Ar ?_ (Ag.ge HI0.out) | refine Ar ?_ GE353.out) | exact HB.out)); (case side3 => repeat (first | exact (Kd.R_reads' HO359.out).2.2 | (with_reducible refine Kd.Be ?_ _) | (with_reducible refine Kd.Bf ?_ _) | (with_reducible refine Kd.Bh ?_))); (case side4 => exact (Kd.R_reads' HO359.out).2.1); (case side5 => exact far_slice (Ag.own_ne HI0.out HO359.out (by decide))); rintro e w37 ⟨rfl, hi, hb, hk⟩; refine ⟨_, rfl, ?_⟩; have n0_ := Aside0.mk (Kd.R_mono (Kd.Gh (Ag.apart (show Ag w0 _ g s0_0 t355 t356 from by repeat (first | (with_reducible first | exact HI0.out | apply Ag.alloc | apply Ag.drewN | apply Ag.drew | apply Ag.D6 | apply Ag.D5 | refine Ag.far ?_ NB0_353.out _) | exact HI0.out)) Yg_ (by decide)) hk (fun _ h => h.2)) (fun _ h => h.1)); have n1_ := Aside0.mk (Bc.blk hk (g' := gb353) (o := .cells #[.int .i64 ((Ah x3_1 t349).f0), .int .i64 ((Ah x3_1 t349).f1), .int .i64 ((Ah x3_1 t349).f2)] 59 (0, 0)) Ybe_ NB353_0.out (by simp)); have n2_ := Aside0.mk (Kd.R_mono (Kd.Gh (Ag.apart (show Ag w0 _ g s0_0 t355 t356 from by repeat (first | (with_reducible first | exact HI0.out | apply Ag.alloc | apply Ag.drewN | apply Ag.drew | apply Ag.D6 | apply Ag.D5 | refine Ag.far ?_ NB0_353.out _) | exact HI0.out)) (by (with_reducible repeat (first | apply Kd.Ap | apply Kd.Am | apply Kd.Ba)); exact HO359.out) (by decide)) hk (fun _ h => h.2)) (fun _ h => h.1)); have n3_ := Aside0.mk (Bc.trans Yf_ hk (.inl rfl)); have n4_ := Aside0.mk (hb); have n5_ := Aside0.mk (hi); clear HO_3; clear BK353; clear HO359; clear HK; clear HB; clear HI0; have HO_3 := n0_; have BK353 := n1_; have HO359 := n2_; have HK := n3_; have HB := n4_; have HI0 := n5_; clear n0_ n1_ n2_ n3_ n4_ n5_; (try clear hb); (try clear hb2); (try clear hk); (try clear hi); have hcz38_0 : w37.cell? ⟨gb353, 0, none⟩ = some (.int .i64 ((Ah x3_1 t349).f0)) := (blk_cell BK353.out 0).trans rfl; have hcz38_1 : w37.cell? ⟨gb353, 1, none⟩ = some (.int .i64 ((Ah x3_1 t349).f1)) := (blk_cell BK353.out 1).trans rfl; have hcz38_2 : w37.cell? ⟨gb353, 2, none⟩ = some (.int .i64 ((Ah x3_1 t349).f2)) := (blk_cell BK353.out 2).trans rfl; have hfz38_0 := blk_frozen BK353.out 0; have hfz38_1 := blk_frozen BK353.out 1; have hfz38_2 := blk_frozen BK353.out 2) | ((with_reducible refine gate_store (t := 3) (p := 52) rfl ?_); refine store_event (t := 3) (p := 52) (v := ?vo_w39) (w1 := (w37.setCell ⟨gb353, 0, none⟩ (.int .i64 t360))) ?hg ?ho ?hn ?hr ?_; (case ho => rfl); (case hg => rfl); (case hn => rfl); (case hr => first | (go_simp; done) | (go_simp; rfl)); intro w39 hw; have n0_ : Aside0 (Kd.R k59 59 w39 w.heap.size (fun k_ => k_ ≠ gb353) (.slice (some ad352) x3_1.length co27) x3_1) := ⟨(by rw [hw]; exact (by (with_reducible repeat (first | apply Kd.Ap | apply Kd.Am | apply Kd.Ba)); exact Kd.R_mono (Kd.Gw (p := ⟨gb353, 0, none⟩) (Kd.R_mono HO_3.out (fun k_ hk => (⟨hk, hk.2⟩ : _ ∧ k_ ≠ gb353))) (fun _ hk => hk.2) (.int .i64 t360)) (fun _ hk => hk.1.2)))⟩; have n1_ : Aside0 (Kd.R (Kd.int .i64) 3 w39 w.heap.size (fun _ => True) (.slice Ao36 y357.length co36) y357) := ⟨(by rw [hw]; exact (by (with_reducible repeat (first | apply Kd.Ap | apply Kd.Am | apply Kd.Ba)); exact Kd.R_mono (Kd.Gw (p := ⟨gb353, 0, none⟩) (Kd.R_types HO359.out BK353.out (by decide)) (fun _ hk => hk.2) (.int .i64 t360)) (fun _ hk => trivial)))⟩; have n2_ : Aside0 (w39.heap[gb353]? = some (.cells #[.int .i64 t360, .int .i64 ((Ah x3_1 t349).f1), .int .i64 ((Ah x3_1 t349).f2)] 59 (0, 0))) := ⟨(by rw [hw]; exact (by (with_reducible repeat (first | refine Dn ?_ _ | refine Dv ?_ | refine Dl ?_ _)); refine blk_put (cs := #[.int .i64 ((Ah x3_1 t349).f0), .int .i64 ((Ah x3_1 t349).f1), .int .i64 ((Ah x3_1 t349).f2)]) ?_ 0 _ rfl; (with_reducible repeat (first | refine Dn ?_ _ | refine Dv ?_ | refine Dl ?_ _)); exact BK353.out))⟩; have n3_ : Aside0 (Ag w0 w39 g s0_0 t361 t362) := ⟨(by rw [hw]; exact Yba_)⟩; have n4_ : Aside0 (Bc w w39 g none) := ⟨(by rw [hw]; exact Yf_)⟩; have n5_ : Aside0 (Below w0.heap.size w0 w39) := ⟨(by rw [hw]; exact Ybi_)⟩; clear hw; clear HO_3; clear HO359; clear BK353; clear HI0; clear HK; clear HB; have HO_3 := n0_; have HO359 := n1_; have BK353 := n2_; have HI0 := n3_; have HK := n4_; have HB := n5_; clear n0_ n1_ n2_ n3_ n4_ n5_; have hcz40_0 : w39.cell? ⟨gb353, 0, none⟩ = some (.int .i64 t360) := (blk_cell BK353.out 0).trans rfl; have hcz40_1 : w39.cell? ⟨gb353, 1, none⟩ = some (.int .i64 ((Ah x3_1 t349).f1)) := (blk_cell BK353.out 1).trans rfl; have hcz40_2 : w39.cell? ⟨gb353, 2, none⟩ = some (.int .i64 ((Ah x3_1 t349).f2)) := (blk_cell BK353.out 2).trans rfl; have hfz40_0 := blk_frozen BK353.out 0; have hfz40_1 := blk_frozen BK353.out 1; have hfz40_2 := blk_frozen BK353.out 2; have p26 : 0 ≤ (t349 : Int) := of_decide_eq_true Yc_; have q26 : (t349 : Int) < ((x3_1.length : Int) : Int) := of_decide_eq_true Yc_; obtain ⟨go26, co26, eo26, gb26, gl26, cl26, HG26⟩ := Kd.R_form HO_3.out (by omega); (first | cases eo26 | (injection eo26 with ea_ en_ ec_; (first | subst ea_ | (injection ea_ with ea_; subst ea_)); subst ec_; clear en_)); have GB26 := Aside0.mk gb26; have GG26 := Aside0.mk HG26; clear gb26 gl26 HG26; (first | simp only [add_plain] at hx352_0 | skip); (first | simp only [add_plain] at hx352_1 | skip); (first | simp only [add_plain] at hx352_2 | skip); obtain ⟨ce26, hcl26, hM26, hcc26, hfr26⟩ := Kd.Gu HO_3.out z59 (t349 : Int) p26 q26; obtain rfl := Gi hM26; have hx26_0 : w39.cell? ⟨go26, (t349 : Int).toNat * 3, none⟩ = some (.int .i64 ((Ah x3_1 t349).f0)) := hcc26 0 _ rfl; have hx26_1 : w39.cell? ⟨go26, (t349 : Int).toNat * 3 + 1, none⟩ = some (.int .i64 ((Ah x3_1 t349).f1)) := hcc26 1 _ rfl; have hx26_2 : w39.cell? ⟨go26, (t349 : Int).toNat * 3 + 2, none⟩ = some (.int .i64 ((Ah x3_1 t349).f2)) := hcc26 2 _ rfl; have hf26_0 : w39.frozen? ⟨go26, (t349 : Int).toNat * 3, none⟩ = false := hfr26 0; have hf26_1 : w39.frozen? ⟨go26, (t349 : Int).toNat * 3 + 1, none⟩ = false := hfr26 1; have hf26_2 : w39.frozen? ⟨go26, (t349 : Int).toNat * 3 + 2, none⟩ = false := hfr26 2; (try clear hcl26); (try clear hcc26); (try clear hfr26); (try clear hM26); replace p26 := eq_true p26; replace q26 := eq_true q26; have HX41 := Aside0.mk (show Kd.R k59 59 w39 w.heap.size (fun k_ => k_ ≠ gb353) (.slice (some ⟨go26, 0, none⟩) x3_1.length co27) x3_1 from Yg_); obtain ⟨ce41, hcl41, hM41, hcc41, hfr41⟩ := Kd.Gu HX41.out z59 (t349 : Int) (of_decide_eq_true Yc_) (by have h_ : (t349 : Int) < ((x3_1.length : Int) : Int) := of_decide_eq_true Yc_; first | exact h_ | (have e_ := (Kd.R_reads' HO_3.out).1; omega) | simpa using h_); obtain rfl := Gi hM41; have HP41 := Kd.R_seg HX41.out (t349 : Int) (of_decide_eq_true Yc_) (by have h_ : (t349 : Int) < ((x3_1.length : Int) : Int) := of_decide_eq_true Yc_; first | exact h_ | (have e_ := (Kd.R_reads' HO_3.out).1; omega) | simpa using h_) (seg := [.int .i64 t360, .int .i64 ((Ah x3_1 t349).f1), .int .i64 ((Ah x3_1 t349).f2)]) (j := 0) hcl41 hcc41 (show 3 ≤ 3 from by decide) (x' := (⟨t360, (Ah x3_1 t349).f1, (Ah x3_1 t349).f2⟩ : S59)) (Hy _ _ _ (⟨t360, (Ah x3_1 t349).f1, (Ah x3_1 t349).f2⟩ : S59) ) (fun _ hk => hk); have hx41_0 := hcc41 0 _ rfl; (try simp only [show (k59).sz = 3 from rfl, Nat.mul_one, Nat.add_zero] at hx41_0); have hf41_0 := hfr41 0; (try simp only [show (k59).sz = 3 from rfl, Nat.mul_one, Nat.add_zero] at hf41_0); have hx41_1 := hcc41 1 _ rfl; (try simp only [show (k59).sz = 3 from rfl, Nat.mul_one, Nat.add_zero] at hx41_1); have hf41_1 := hfr41 1; (try simp only [show (k59).sz = 3 from rfl, Nat.mul_one, Nat.add_zero] at hf41_1); have hx41_2 := hcc41 2 _ rfl; (try simp only [show (k59).sz = 3 from rfl, Nat.mul_one, Nat.add_zero] at hx41_2); have hf41_2 := hfr41 2; (try simp only [show (k59).sz = 3 from rfl, Nat.mul_one, Nat.add_zero] at hf41_2); clear hcl41 hcc41 hfr41 hM41) | ((with_reducible refine gate_store (t := 59) (p := 80) rfl ?_); refine store_event (t := 59) (p := 80) (v := ?vo_w42) (w1 := (((w39.setCell ⟨go26, (t349 : Int).toNat * 3, none⟩ (.int .i64 t360)).setCell ⟨go26, (t349 : Int).toNat * 3 + 1, none⟩ (.int .i64 ((Ah x3_1 t349).f1))).setCell ⟨go26, (t349 : Int).toNat * 3 + 2, none⟩ (.int .i64 ((Ah x3_1 t349).f2)))) ?hg ?ho ?hn ?hr ?_; (case ho => rfl); (case hg => rfl); (case hn => rfl); (case hr => first | (go_simp; done) | (go_simp; rfl)); intro w42 hw; have hg : w39.grownBy w42 (some go26) := (by rw [hw]; exact HP41.2); have hp_ : Kd.R k59 59 w42 w.heap.size (fun k_ => k_ ≠ gb353) (.slice (some ⟨go26, 0, none⟩) x3_1.length co27) y363 := (by rw [hw, Ny363.out]; exact HP41.1); clear HP41; have n0_ := Aside0.mk (hp_); have n1_ := Aside0.mk (Ag.grown Yba_ hg (Ag.own_ne HI0.out HO_3.out (by decide))); have n2_ := Aside0.mk (H8 (g := gb353) (o := .cells #[.int .i64 t360, .int .i64 ((Ah x3_1 t349).f1), .int .i64 ((Ah x3_1 t349).f2)] 59 (0, 0)) Ybe_ hg (Kd.R_away HO_3.out (fun _ hk => hk))); have n3_ := Aside0.mk (Kd.R_over' (v := (.slice (some ⟨go26, 0, none⟩) x3_1.length co27)) (by (with_reducible repeat (first | apply Kd.Ap | apply Kd.Am | apply Kd.Ba)); exact HO359.out) (Kd.R_typed HO_3.out) (by decide) hg); have n4_ := Aside0.mk ((by rw [hw]; exact Ar (Ar (Ar (HB.out) (Nat.le_trans HL.out GB26.out)) (Nat.le_trans HL.out GB26.out)) (Nat.le_trans HL.out GB26.out) : Below w0.heap.size w0 w42)); have n5_ := Aside0.mk (Bc.trans Yf_ (Bc.Ha hg g) (Kd.R_base2 HO_3.out)); clear HO_3; clear HI0; clear BK353; clear HO359; clear HB; clear HK; have HO_3 := n0_; have HI0 := n1_; have BK353 := n2_; have HO359 := n3_; have HB := n4_; have HK := n5_; clear n0_ n1_ n2_ n3_ n4_ n5_; clear hg hw hp_))
        go_ret
        exact ⟨_, by first | rfl | (simp [Aw, Az] <;> rfl) | (simp [*, Aw, Az] <;> rfl), by (with_reducible repeat (first | apply Kd.Ap | apply Kd.Am | apply Kd.Ba)); exact Kd.R_mono HO_3.out (fun _ hk => trivial), by repeat (first | (with_reducible first | exact HI0.out | apply Ag.alloc | apply Ag.drewN | apply Ag.drew | apply Ag.D6 | apply Ag.D5 | refine Ag.far ?_ NB0_353.out _) | exact HI0.out), by repeat (first | (with_reducible first | exact HB.out | apply Af | apply Ad | apply Ae | refine Ar ?_ (Ag.ge HI0.out) | refine Ar ?_ GE353.out) | exact HB.out), by repeat (first | (with_reducible first | exact HK.out | apply Bc.Et | apply Cf | apply Dh | apply Ci | refine Fe ?_ GW353.out _) | exact HK.out)⟩
       ·rw [if_neg c24] at H
        have c24b0 : (t354 == 0) = false := beq_eq_false_iff_ne.mpr c24
        have c24b1 : (t354 != 0) = true := bne_iff_ne.mpr c24
        by_cases c43 : t354 = 1
        ·rw [if_pos c43] at H
         have c43b0 : (t354 == 1) = true := beq_iff_eq.mpr c43
         have c43b1 : (t354 != 1) = false := bne_eq_false_iff_eq.mpr c43
         clear c43
         obtain ⟨y364, hy364⟩ : ∃ y_ : List Int, y_ = (([240, 241] : List Int)) := ⟨_, rfl⟩
         replace H : ((Dx.f s0_0 t355 t356 y364).bind fun bt367 => (some ((x3_1.set (t349 : Int).toNat (⟨(Ah x3_1 t349).f0, bt367.1, (Ah x3_1 t349).f2⟩ : S59)), bt367.2.1, bt367.2.2))) = some (r1, r2, r3) := by first | (rw [hy364]; with_reducible exact H) | (have H2_ := (Option.bind_some _ _).symm.trans H; rw [hy364]; with_reducible exact H2_) | (have H2_ := (Option.bind_some _ _).symm.trans H; with_reducible exact H2_) | with_reducible exact H | (rw [hy364]; exact H) | exact H
         have Ny364 := Aside0.mk hy364
         clear hy364
         replace H := Option.bind_eq_some_iff.mp H
         obtain ⟨⟨t367, t368, t369⟩, A440, H⟩ := H
         replace H : (some ((x3_1.set (t349 : Int).toNat (⟨(Ah x3_1 t349).f0, t367, (Ah x3_1 t349).f2⟩ : S59)), t368, t369)) = some (r1, r2, r3) := H
         have A44 := Aside0.mk A440
         clear A440
         obtain ⟨y370, hy370⟩ : ∃ y_ : List (S59), y_ = (x3_1.set (t349 : Int).toNat (⟨(Ah x3_1 t349).f0, t367, (Ah x3_1 t349).f2⟩ : S59)) := ⟨_, rfl⟩
         replace H : (some (y370, t368, t369)) = some (r1, r2, r3) := by first | (rw [hy370]; with_reducible exact H) | (have H2_ := (Option.bind_some _ _).symm.trans H; rw [hy370]; with_reducible exact H2_) | (have H2_ := (Option.bind_some _ _).symm.trans H; with_reducible exact H2_) | with_reducible exact H | (rw [hy370]; exact H) | exact H
         have Ny370 := Aside0.mk hy370
         clear hy370
         simp only [Option.some.injEq, Prod.mk.injEq] at H
         obtain ⟨rfl, rfl, rfl⟩ := H
         obtain ⟨Ao46, co46, eo46⟩ := Kd.R_slice HO_3.out
         subst eo46
         go_wp2_with (first | ((with_reducible refine gate_callee (f := 69) rfl ?_); refine goesL_ (some 37) rfl rfl Try.func69 (by kernel_rfl) rfl #[.pointer (some ⟨g, 0, none⟩), .int .i64 (x3_1.length : Int)] rfl Yb_ ?_; (with_reducible refine (Dt.calls g s0_0 x1001_1 x1002_1 (x3_1.length : Int) t349 t350 t351 w0 _ ?side1 ?side2 A20.out).mono ?_); (case side1 => repeat (first | (with_reducible first | exact HI0.out | apply Ag.alloc | apply Ag.drewN | apply Ag.drew | apply Ag.D6 | apply Ag.D5) | exact HI0.out)); (case side2 => repeat (first | (with_reducible first | exact HB.out | apply Af | apply Ad | apply Ae | refine Ar ?_ (Ag.ge HI0.out)) | exact HB.out)); rintro e w47 ⟨rfl, hi, hb, hk⟩; refine ⟨_, rfl, ?_⟩; have n0_ := Aside0.mk (Kd.R_mono (Kd.Gh (Ag.apart (show Ag w0 _ g s0_0 x1001_1 x1002_1 from by repeat (first | (with_reducible first | exact HI0.out | apply Ag.alloc | apply Ag.drewN | apply Ag.drew | apply Ag.D6 | apply Ag.D5) | exact HI0.out)) Yg_ (by decide)) hk (fun _ h => h.2)) (fun _ h => h.1)); have n1_ := Aside0.mk (Bc.trans Ye_ hk (.inl rfl)); have n2_ := Aside0.mk (hb); have n3_ := Aside0.mk (hi); clear HO_3; clear HK; clear HB; clear HI0; have HO_3 := n0_; have HK := n1_; have HB := n2_; have HI0 := n3_; clear n0_ n1_ n2_ n3_; (try clear hb); (try clear hb2); (try clear hk); (try clear hi); have p352 : 0 ≤ (t349 : Int) := of_decide_eq_true Yc_; have q352 : t349 < (x3_1.length : Int) := of_decide_eq_true Yc_; obtain ⟨ad352, e352, hx352_0, hx352_1, hx352_2⟩ := Ez (Kd.R_reads' HO_3.out).2.2 t349 p352 q352; cases e352; replace p352 := eq_true p352; replace q352 := eq_true q352) | ((with_reducible refine gate_dst (N := 7) rfl ?_); refine box_event ?hg (N := 7) ?hd (cs := #[.int .i64 0, .int .i64 0, .int .i64 0]) (t := 59) ?hr ?_; (case hd => rfl); (case hg => rfl); (case hr => first | (go_simp; done) | (go_simp; rfl)); intro gb353 hg w48 hbox hb; have n0_ := Aside0.mk (Kd.R_below (Kd.R_elderB Yg_ gb353 (Nat.le_of_eq hg.symm)) hb); have n1_ := Aside0.mk (Ag.below Ybf_ hb); have n2_ := Aside0.mk (Bc.trans Ye_ (Bc.of_below hb g none) (.inl rfl)); have n3_ := Aside0.mk (below_step Ybj_ hb); have n4_ := Aside0.mk (hbox); have n5_ := Aside0.mk ((by rw [hg]; exact (Gp (w := w) (g := g) (row := none) Ye_) : w.heap.size ≤ gb353)); have n6_ := Aside0.mk ((Nat.le_trans HW0.out (by rw [hg]; exact (Gp (w := w) (g := g) (row := none) Ye_) : w.heap.size ≤ gb353) : w0.heap.size ≤ gb353)); have n7_ := Aside0.mk ((by rw [hg]; exact Nat.ne_of_lt (Ag.lt (show Ag w0 _ g s0_0 t350 t351 from by repeat (first | (with_reducible first | exact HI0.out | apply Ag.alloc | apply Ag.drewN | apply Ag.drew | apply Ag.D6 | apply Ag.D5) | exact HI0.out))) : g ≠ gb353)); have n8_ := Aside0.mk ((by rw [hg]; exact Nat.ne_of_gt (Ag.lt (show Ag w0 _ g s0_0 t350 t351 from by repeat (first | (with_reducible first | exact HI0.out | apply Ag.alloc | apply Ag.drewN | apply Ag.drew | apply Ag.D6 | apply Ag.D5) | exact HI0.out))) : gb353 ≠ g)); clear HO_3; clear HI0; clear HK; clear HB; have HO_3 := n0_; have HI0 := n1_; have HK := n2_; have HB := n3_; have BK353 := n4_; have GW353 := n5_; have GE353 := n6_; have NB0_353 := n7_; have NB353_0 := n8_; clear n0_ n1_ n2_ n3_ n4_ n5_ n6_ n7_ n8_; clear hb hbox hg; have hnb49 := NB353_0.out; have hnc49 := NB0_353.out; have hcz50_0 : w48.cell? ⟨gb353, 0, none⟩ = some (.int .i64 0) := (blk_cell BK353.out 0).trans rfl; have hcz50_1 : w48.cell? ⟨gb353, 1, none⟩ = some (.int .i64 0) := (blk_cell BK353.out 1).trans rfl; have hcz50_2 : w48.cell? ⟨gb353, 2, none⟩ = some (.int .i64 0) := (blk_cell BK353.out 2).trans rfl; have hfz50_0 := blk_frozen BK353.out 0; have hfz50_1 := blk_frozen BK353.out 1; have hfz50_2 := blk_frozen BK353.out 2) | ((with_reducible refine gate_callee (f := 69) rfl ?_); refine goesL_ (some 43) rfl rfl Try.func69 (by kernel_rfl) rfl #[.pointer (some ⟨g, 0, none⟩), .int .i64 40] rfl Yb_ ?_; (with_reducible refine (Dt.calls g s0_0 t350 t351 40 t354 t355 t356 w0 _ ?side1 ?side2 A23.out).mono ?_); (case side1 => repeat (first | (with_reducible first | exact HI0.out | apply Ag.alloc | apply Ag.drewN | apply Ag.drew | apply Ag.D6 | apply Ag.D5 | refine Ag.far ?_ NB0_353.out _) | exact HI0.out)); (case side2 => repeat (first | (with_reducible first | exact HB.out | apply Af | apply Ad | apply Ae | refine Ar ?_ (Ag.ge HI0.out) | refine Ar ?_ GE353.out) | exact HB.out)); rintro e w51 ⟨rfl, hi, hb, hk⟩; refine ⟨_, rfl, ?_⟩; have n0_ := Aside0.mk (Kd.R_mono (Kd.Gh (Ag.apart (show Ag w0 _ g s0_0 t350 t351 from by repeat (first | (with_reducible first | exact HI0.out | apply Ag.alloc | apply Ag.drewN | apply Ag.drew | apply Ag.D6 | apply Ag.D5 | refine Ag.far ?_ NB0_353.out _) | exact HI0.out)) Ybb_ (by decide)) hk (fun _ h => h.2)) (fun _ h => h.1)); have n1_ := Aside0.mk (Bc.blk hk (g' := gb353) (o := .cells #[.int .i64 ((Ah x3_1 t349).f0), .int .i64 ((Ah x3_1 t349).f1), .int .i64 ((Ah x3_1 t349).f2)] 59 (0, 0)) Yi_ NB353_0.out (by simp)); have n2_ := Aside0.mk (Bc.trans Yf_ hk (.inl rfl)); have n3_ := Aside0.mk (hb); have n4_ := Aside0.mk (hi); clear HO_3; clear BK353; clear HK; clear HB; clear HI0; have HO_3 := n0_; have BK353 := n1_; have HK := n2_; have HB := n3_; have HI0 := n4_; clear n0_ n1_ n2_ n3_ n4_; (try clear hb); (try clear hb2); (try clear hk); (try clear hi)) | ((with_reducible refine gate_dst (N := 56) rfl ?_); refine Kd.R_lit (Kd.int .i64) _ 3 ?hg (N := 56) ?hd (xs := ([240, 241] : List Int)) (inner := [.int .i64 240, .int .i64 241]) (ok := fun _ => True) (okp := fun _ => True) ?hr ?hp (fun _ hk => hk) trivial (Below.refl _ _) (Nat.le_refl _) (by simp) ?_; (case hd => rfl); (case hg => rfl); (case hr => first | (go_simp; done) | (go_simp; rfl)); (case hp => exact (Dw.one (show Kd.M (Kd.int .i64) _ _ _ 240 [.int .i64 240] from rfl) (Dw.one (show Kd.M (Kd.int .i64) _ _ _ 241 [.int .i64 241] from rfl) (Dw.none _ _)))); intro v365 w52 ho53 hb hg_ hnew_; clear hg_ hnew_; (first | rw [← Ny364.out] at ho53 | (simp only [Int.reduceToNat] at ho53; rw [← Ny364.out] at ho53)); have n0_ := Aside0.mk (Kd.R_below Yg_ hb); have n1_ := Aside0.mk (Kd.R_lower ho53 (Gp (w := w) (g := g) (row := none) Yf_)); have n2_ := Aside0.mk (Ag.below Yba_ hb); have n3_ := Aside0.mk (blk_below (g := gb353) (o := .cells #[.int .i64 ((Ah x3_1 t349).f0), .int .i64 ((Ah x3_1 t349).f1), .int .i64 ((Ah x3_1 t349).f2)] 59 (0, 0)) Ybe_ hb); have n4_ := Aside0.mk (Bc.trans Yf_ (Bc.of_below hb g none) (.inl rfl)); have n5_ := Aside0.mk (below_step Ybi_ hb); clear HO_3; clear HI0; clear BK353; clear HK; clear HB; have HO_3 := n0_; have HO366 := n1_; have HI0 := n2_; have BK353 := n3_; have HK := n4_; have HB := n5_; clear n0_ n1_ n2_ n3_ n4_ n5_; clear hb ho53; obtain ⟨Ao54, co54, eo54⟩ := Kd.R_slice HO366.out; subst eo54) | ((with_reducible refine gate_callee (f := 68) rfl ?_); refine goesL_ (some 57) rfl rfl Try.func68 (by kernel_rfl) rfl #[.pointer (some ⟨g, 0, none⟩), .slice Ao54 y364.length co54] rfl Yb_ ?_; (with_reducible refine (Dx.calls g s0_0 t355 t356 _ _ y364 t367 t368 t369 w0 _ ?side1 ?side2 ?side3 ?side4 ?side5 A44.out).mono ?_); (case side1 => repeat (first | (with_reducible first | exact HI0.out | apply Ag.alloc | apply Ag.drewN | apply Ag.drew | apply Ag.D6 | apply Ag.D5 | refine Ag.far ?_ NB0_353.out _) | exact HI0.out)); (case side2 => repeat (first | (with_reducible first | exact HB.out | apply Af | apply Ad | apply Ae | refine Ar ?_ (Ag.ge HI0.out) | refine Ar ?_ GE353.out) | exact HB.out)); (case side3 => repeat (first | exact (Kd.R_reads' HO366.out).2.2 | (with_reducible refine Kd.Be ?_ _) | (with_reducible refine Kd.Bf ?_ _) | (with_reducible refine Kd.Bh ?_))); (case side4 => exact (Kd.R_reads' HO366.out).2.1); (case side5 => exact far_slice (Ag.own_ne HI0.out HO366.out (by decide))); rintro e w55 ⟨rfl, hi, hb, hk⟩; refine ⟨_, rfl, ?_⟩; have n0_ := Aside0.mk (Kd.R_mono (Kd.Gh (Ag.apart (show Ag w0 _ g s0_0 t355 t356 from by repeat (first | (with_reducible first | exact HI0.out | apply Ag.alloc | apply Ag.drewN | apply Ag.drew | apply Ag.D6 | apply Ag.D5 | refine Ag.far ?_ NB0_353.out _) | exact HI0.out)) Yg_ (by decide)) hk (fun _ h => h.2)) (fun _ h => h.1)); have n1_ := Aside0.mk (Bc.blk hk (g' := gb353) (o := .cells #[.int .i64 ((Ah x3_1 t349).f0), .int .i64 ((Ah x3_1 t349).f1), .int .i64 ((Ah x3_1 t349).f2)] 59 (0, 0)) Ybe_ NB353_0.out (by simp)); have n2_ := Aside0.mk (Kd.R_mono (Kd.Gh (Ag.apart (show Ag w0 _ g s0_0 t355 t356 from by repeat (first | (with_reducible first | exact HI0.out | apply Ag.alloc | apply Ag.drewN | apply Ag.drew | apply Ag.D6 | apply Ag.D5 | refine Ag.far ?_ NB0_353.out _) | exact HI0.out)) (by (with_reducible repeat (first | apply Kd.Ap | apply Kd.Am | apply Kd.Ba)); exact HO366.out) (by decide)) hk (fun _ h => h.2)) (fun _ h => h.1)); have n3_ := Aside0.mk (Bc.trans Yf_ hk (.inl rfl)); have n4_ := Aside0.mk (hb); have n5_ := Aside0.mk (hi); clear HO_3; clear BK353; clear HO366; clear HK; clear HB; clear HI0; have HO_3 := n0_; have BK353 := n1_; have HO366 := n2_; have HK := n3_; have HB := n4_; have HI0 := n5_; clear n0_ n1_ n2_ n3_ n4_ n5_; (try clear hb); (try clear hb2); (try clear hk); (try clear hi); have hcz56_0 : w55.cell? ⟨gb353, 0, none⟩ = some (.int .i64 ((Ah x3_1 t349).f0)) := (blk_cell BK353.out 0).trans rfl; have hcz56_1 : w55.cell? ⟨gb353, 1, none⟩ = some (.int .i64 ((Ah x3_1 t349).f1)) := (blk_cell BK353.out 1).trans rfl; have hcz56_2 : w55.cell? ⟨gb353, 2, none⟩ = some (.int .i64 ((Ah x3_1 t349).f2)) := (blk_cell BK353.out 2).trans rfl; have hfz56_0 := blk_frozen BK353.out 0; have hfz56_1 := blk_frozen BK353.out 1; have hfz56_2 := blk_frozen BK353.out 2) | ((with_reducible refine gate_store (t := 3) (p := 58) rfl ?_); refine store_event (t := 3) (p := 58) (v := ?vo_w57) (w1 := (w55.setCell ⟨gb353, 1, none⟩ (.int .i64 t367))) ?hg ?ho ?hn ?hr ?_; (case ho => rfl); (case hg => rfl); (case hn => rfl); (case hr => first | (go_simp; done) | (go_simp; rfl)); intro w57 hw; have n0_ : Aside0 (Kd.R k59 59 w57 w.heap.size (fun k_ => k_ ≠ gb353) (.slice (some ad352) x3_1.length co46) x3_1) := ⟨(by rw [hw]; exact (by (with_reducible repeat (first | apply Kd.Ap | apply Kd.Am | apply Kd.Ba)); exact Kd.R_mono (Kd.Gw (p := ⟨gb353, 1, none⟩) (Kd.R_mono HO_3.out (fun k_ hk => (⟨hk, hk.2⟩ : _ ∧ k_ ≠ gb353))) (fun _ hk => hk.2) (.int .i64 t367)) (fun _ hk => hk.1.2)))⟩; have n1_ : Aside0 (Kd.R (Kd.int .i64) 3 w57 w.heap.size (fun _ => True) (.slice Ao54 y364.length co54) y364) := ⟨(by rw [hw]; exact (by (with_reducible repeat (first | apply Kd.Ap | apply Kd.Am | apply Kd.Ba)); exact Kd.R_mono (Kd.Gw (p := ⟨gb353, 1, none⟩) (Kd.R_types HO366.out BK353.out (by decide)) (fun _ hk => hk.2) (.int .i64 t367)) (fun _ hk => trivial)))⟩; have n2_ : Aside0 (w57.heap[gb353]? = some (.cells #[.int .i64 ((Ah x3_1 t349).f0), .int .i64 t367, .int .i64 ((Ah x3_1 t349).f2)] 59 (0, 0))) := ⟨(by rw [hw]; exact (by (with_reducible repeat (first | refine Dn ?_ _ | refine Dv ?_ | refine Dl ?_ _)); refine blk_put (cs := #[.int .i64 ((Ah x3_1 t349).f0), .int .i64 ((Ah x3_1 t349).f1), .int .i64 ((Ah x3_1 t349).f2)]) ?_ 1 _ rfl; (with_reducible repeat (first | refine Dn ?_ _ | refine Dv ?_ | refine Dl ?_ _)); exact BK353.out))⟩; have n3_ : Aside0 (Ag w0 w57 g s0_0 t368 t369) := ⟨(by rw [hw]; exact Yba_)⟩; have n4_ : Aside0 (Bc w w57 g none) := ⟨(by rw [hw]; exact Yf_)⟩; have n5_ : Aside0 (Below w0.heap.size w0 w57) := ⟨(by rw [hw]; exact Ybi_)⟩; clear hw; clear HO_3; clear HO366; clear BK353; clear HI0; clear HK; clear HB; have HO_3 := n0_; have HO366 := n1_; have BK353 := n2_; have HI0 := n3_; have HK := n4_; have HB := n5_; clear n0_ n1_ n2_ n3_ n4_ n5_; have hcz58_0 : w57.cell? ⟨gb353, 0, none⟩ = some (.int .i64 ((Ah x3_1 t349).f0)) := (blk_cell BK353.out 0).trans rfl; have hcz58_1 : w57.cell? ⟨gb353, 1, none⟩ = some (.int .i64 t367) := (blk_cell BK353.out 1).trans rfl; have hcz58_2 : w57.cell? ⟨gb353, 2, none⟩ = some (.int .i64 ((Ah x3_1 t349).f2)) := (blk_cell BK353.out 2).trans rfl; have hfz58_0 := blk_frozen BK353.out 0; have hfz58_1 := blk_frozen BK353.out 1; have hfz58_2 := blk_frozen BK353.out 2; have p45 : 0 ≤ (t349 : Int) := of_decide_eq_true Yc_; have q45 : (t349 : Int) < ((x3_1.length : Int) : Int) := of_decide_eq_true Yc_; obtain ⟨go45, co45, eo45, gb45, gl45, cl45, HG45⟩ := Kd.R_form HO_3.out (by omega); (first | cases eo45 | (injection eo45 with ea_ en_ ec_; (first | subst ea_ | (injection ea_ with ea_; subst ea_)); subst ec_; clear en_)); have GB45 := Aside0.mk gb45; have GG45 := Aside0.mk HG45; clear gb45 gl45 HG45; (first | simp only [add_plain] at hx352_0 | skip); (first | simp only [add_plain] at hx352_1 | skip); (first | simp only [add_plain] at hx352_2 | skip); obtain ⟨ce45, hcl45, hM45, hcc45, hfr45⟩ := Kd.Gu HO_3.out z59 (t349 : Int) p45 q45; obtain rfl := Gi hM45; have hx45_0 : w57.cell? ⟨go45, (t349 : Int).toNat * 3, none⟩ = some (.int .i64 ((Ah x3_1 t349).f0)) := hcc45 0 _ rfl; have hx45_1 : w57.cell? ⟨go45, (t349 : Int).toNat * 3 + 1, none⟩ = some (.int .i64 ((Ah x3_1 t349).f1)) := hcc45 1 _ rfl; have hx45_2 : w57.cell? ⟨go45, (t349 : Int).toNat * 3 + 2, none⟩ = some (.int .i64 ((Ah x3_1 t349).f2)) := hcc45 2 _ rfl; have hf45_0 : w57.frozen? ⟨go45, (t349 : Int).toNat * 3, none⟩ = false := hfr45 0; have hf45_1 : w57.frozen? ⟨go45, (t349 : Int).toNat * 3 + 1, none⟩ = false := hfr45 1; have hf45_2 : w57.frozen? ⟨go45, (t349 : Int).toNat * 3 + 2, none⟩ = false := hfr45 2; (try clear hcl45); (try clear hcc45); (try clear hfr45); (try clear hM45); replace p45 := eq_true p45; replace q45 := eq_true q45; have HX59 := Aside0.mk (show Kd.R k59 59 w57 w.heap.size (fun k_ => k_ ≠ gb353) (.slice (some ⟨go45, 0, none⟩) x3_1.length co46) x3_1 from Yg_); obtain ⟨ce59, hcl59, hM59, hcc59, hfr59⟩ := Kd.Gu HX59.out z59 (t349 : Int) (of_decide_eq_true Yc_) (by have h_ : (t349 : Int) < ((x3_1.length : Int) : Int) := of_decide_eq_true Yc_; first | exact h_ | (have e_ := (Kd.R_reads' HO_3.out).1; omega) | simpa using h_); obtain rfl := Gi hM59; have HP59 := Kd.R_seg HX59.out (t349 : Int) (of_decide_eq_true Yc_) (by have h_ : (t349 : Int) < ((x3_1.length : Int) : Int) := of_decide_eq_true Yc_; first | exact h_ | (have e_ := (Kd.R_reads' HO_3.out).1; omega) | simpa using h_) (seg := [.int .i64 ((Ah x3_1 t349).f0), .int .i64 t367, .int .i64 ((Ah x3_1 t349).f2)]) (j := 0) hcl59 hcc59 (show 3 ≤ 3 from by decide) (x' := (⟨(Ah x3_1 t349).f0, t367, (Ah x3_1 t349).f2⟩ : S59)) (Hy _ _ _ (⟨(Ah x3_1 t349).f0, t367, (Ah x3_1 t349).f2⟩ : S59) ) (fun _ hk => hk); have hx59_0 := hcc59 0 _ rfl; (try simp only [show (k59).sz = 3 from rfl, Nat.mul_one, Nat.add_zero] at hx59_0); have hf59_0 := hfr59 0; (try simp only [show (k59).sz = 3 from rfl, Nat.mul_one, Nat.add_zero] at hf59_0); have hx59_1 := hcc59 1 _ rfl; (try simp only [show (k59).sz = 3 from rfl, Nat.mul_one, Nat.add_zero] at hx59_1); have hf59_1 := hfr59 1; (try simp only [show (k59).sz = 3 from rfl, Nat.mul_one, Nat.add_zero] at hf59_1); have hx59_2 := hcc59 2 _ rfl; (try simp only [show (k59).sz = 3 from rfl, Nat.mul_one, Nat.add_zero] at hx59_2); have hf59_2 := hfr59 2; (try simp only [show (k59).sz = 3 from rfl, Nat.mul_one, Nat.add_zero] at hf59_2); clear hcl59 hcc59 hfr59 hM59) | ((with_reducible refine gate_store (t := 59) (p := 80) rfl ?_); refine store_event (t := 59) (p := 80) (v := ?vo_w60) (w1 := (((w57.setCell ⟨go45, (t349 : Int).toNat * 3, none⟩ (.int .i64 ((Ah x3_1 t349).f0))).setCell ⟨go45, (t349 : Int).toNat * 3 + 1, none⟩ (.int .i64 t367)).setCell ⟨go45, (t349 : Int).toNat * 3 + 2, none⟩ (.int .i64 ((Ah x3_1 t349).f2)))) ?hg ?ho ?hn ?hr ?_; (case ho => rfl); (case hg => rfl); (case hn => rfl); (case hr => first | (go_simp; done) | (go_simp; rfl)); intro w60 hw; have hg : w57.grownBy w60 (some go45) := (by rw [hw]; exact HP59.2); have hp_ : Kd.R k59 59 w60 w.heap.size (fun k_ => k_ ≠ gb353) (.slice (some ⟨go45, 0, none⟩) x3_1.length co46) y370 := (by rw [hw, Ny370.out]; exact HP59.1); clear HP59; have n0_ := Aside0.mk (hp_); have n1_ := Aside0.mk (Ag.grown Yba_ hg (Ag.own_ne HI0.out HO_3.out (by decide))); have n2_ := Aside0.mk (H8 (g := gb353) (o := .cells #[.int .i64 ((Ah x3_1 t349).f0), .int .i64 t367, .int .i64 ((Ah x3_1 t349).f2)] 59 (0, 0)) Ybe_ hg (Kd.R_away HO_3.out (fun _ hk => hk))); have n3_ := Aside0.mk (Kd.R_over' (v := (.slice (some ⟨go45, 0, none⟩) x3_1.length co46)) (by (with_reducible repeat (first | apply Kd.Ap | apply Kd.Am | apply Kd.Ba)); exact HO366.out) (Kd.R_typed HO_3.out) (by decide) hg); have n4_ := Aside0.mk ((by rw [hw]; exact Ar (Ar (Ar (HB.out) (Nat.le_trans HL.out GB45.out)) (Nat.le_trans HL.out GB45.out)) (Nat.le_trans HL.out GB45.out) : Below w0.heap.size w0 w60)); have n5_ := Aside0.mk (Bc.trans Yf_ (Bc.Ha hg g) (Kd.R_base2 HO_3.out)); clear HO_3; clear HI0; clear BK353; clear HO366; clear HB; clear HK; have HO_3 := n0_; have HI0 := n1_; have BK353 := n2_; have HO366 := n3_; have HB := n4_; have HK := n5_; clear n0_ n1_ n2_ n3_ n4_ n5_; clear hg hw hp_))
         go_ret
         exact ⟨_, by first | rfl | (simp [Aw, Az] <;> rfl) | (simp [*, Aw, Az] <;> rfl), by (with_reducible repeat (first | apply Kd.Ap | apply Kd.Am | apply Kd.Ba)); exact Kd.R_mono HO_3.out (fun _ hk => trivial), by repeat (first | (with_reducible first | exact HI0.out | apply Ag.alloc | apply Ag.drewN | apply Ag.drew | apply Ag.D6 | apply Ag.D5 | refine Ag.far ?_ NB0_353.out _) | exact HI0.out), by repeat (first | (with_reducible first | exact HB.out | apply Af | apply Ad | apply Ae | refine Ar ?_ (Ag.ge HI0.out) | refine Ar ?_ GE353.out) | exact HB.out), by repeat (first | (with_reducible first | exact HK.out | apply Bc.Et | apply Cf | apply Dh | apply Ci | refine Fe ?_ GW353.out _) | exact HK.out)⟩
        ·rw [if_neg c43] at H
         have c43b0 : (t354 == 1) = false := beq_eq_false_iff_ne.mpr c43
         have c43b1 : (t354 != 1) = true := bne_iff_ne.mpr c43
         by_cases c61 : t354 = 2
         ·rw [if_pos c61] at H
          have c61b0 : (t354 == 2) = true := beq_iff_eq.mpr c61
          have c61b1 : (t354 != 2) = false := bne_eq_false_iff_eq.mpr c61
          clear c61
          obtain ⟨y371, hy371⟩ : ∃ y_ : List Int, y_ = (([0, 9, 10] : List Int)) := ⟨_, rfl⟩
          replace H : ((Dx.f s0_0 t355 t356 y371).bind fun bt374 => (some ((x3_1.set (t349 : Int).toNat (⟨(Ah x3_1 t349).f0, (Ah x3_1 t349).f1, bt374.1⟩ : S59)), bt374.2.1, bt374.2.2))) = some (r1, r2, r3) := by first | (rw [hy371]; with_reducible exact H) | (have H2_ := (Option.bind_some _ _).symm.trans H; rw [hy371]; with_reducible exact H2_) | (have H2_ := (Option.bind_some _ _).symm.trans H; with_reducible exact H2_) | with_reducible exact H | (rw [hy371]; exact H) | exact H
          have Ny371 := Aside0.mk hy371
          clear hy371
          replace H := Option.bind_eq_some_iff.mp H
          obtain ⟨⟨t374, t375, t376⟩, A620, H⟩ := H
          replace H : (some ((x3_1.set (t349 : Int).toNat (⟨(Ah x3_1 t349).f0, (Ah x3_1 t349).f1, t374⟩ : S59)), t375, t376)) = some (r1, r2, r3) := H
          have A62 := Aside0.mk A620
          clear A620
          obtain ⟨y377, hy377⟩ : ∃ y_ : List (S59), y_ = (x3_1.set (t349 : Int).toNat (⟨(Ah x3_1 t349).f0, (Ah x3_1 t349).f1, t374⟩ : S59)) := ⟨_, rfl⟩
          replace H : (some (y377, t375, t376)) = some (r1, r2, r3) := by first | (rw [hy377]; with_reducible exact H) | (have H2_ := (Option.bind_some _ _).symm.trans H; rw [hy377]; with_reducible exact H2_) | (have H2_ := (Option.bind_some _ _).symm.trans H; with_reducible exact H2_) | with_reducible exact H | (rw [hy377]; exact H) | exact H
          have Ny377 := Aside0.mk hy377
          clear hy377
          simp only [Option.some.injEq, Prod.mk.injEq] at H
          obtain ⟨rfl, rfl, rfl⟩ := H
          obtain ⟨Ao64, co64, eo64⟩ := Kd.R_slice HO_3.out
          subst eo64
          go_wp2_with (first | ((with_reducible refine gate_callee (f := 69) rfl ?_); refine goesL_ (some 37) rfl rfl Try.func69 (by kernel_rfl) rfl #[.pointer (some ⟨g, 0, none⟩), .int .i64 (x3_1.length : Int)] rfl Yb_ ?_; (with_reducible refine (Dt.calls g s0_0 x1001_1 x1002_1 (x3_1.length : Int) t349 t350 t351 w0 _ ?side1 ?side2 A20.out).mono ?_); (case side1 => repeat (first | (with_reducible first | exact HI0.out | apply Ag.alloc | apply Ag.drewN | apply Ag.drew | apply Ag.D6 | apply Ag.D5) | exact HI0.out)); (case side2 => repeat (first | (with_reducible first | exact HB.out | apply Af | apply Ad | apply Ae | refine Ar ?_ (Ag.ge HI0.out)) | exact HB.out)); rintro e w65 ⟨rfl, hi, hb, hk⟩; refine ⟨_, rfl, ?_⟩; have n0_ := Aside0.mk (Kd.R_mono (Kd.Gh (Ag.apart (show Ag w0 _ g s0_0 x1001_1 x1002_1 from by repeat (first | (with_reducible first | exact HI0.out | apply Ag.alloc | apply Ag.drewN | apply Ag.drew | apply Ag.D6 | apply Ag.D5) | exact HI0.out)) Yg_ (by decide)) hk (fun _ h => h.2)) (fun _ h => h.1)); have n1_ := Aside0.mk (Bc.trans Ye_ hk (.inl rfl)); have n2_ := Aside0.mk (hb); have n3_ := Aside0.mk (hi); clear HO_3; clear HK; clear HB; clear HI0; have HO_3 := n0_; have HK := n1_; have HB := n2_; have HI0 := n3_; clear n0_ n1_ n2_ n3_; (try clear hb); (try clear hb2); (try clear hk); (try clear hi); have p352 : 0 ≤ (t349 : Int) := of_decide_eq_true Yc_; have q352 : t349 < (x3_1.length : Int) := of_decide_eq_true Yc_; obtain ⟨ad352, e352, hx352_0, hx352_1, hx352_2⟩ := Ez (Kd.R_reads' HO_3.out).2.2 t349 p352 q352; cases e352; replace p352 := eq_true p352; replace q352 := eq_true q352) | ((with_reducible refine gate_dst (N := 7) rfl ?_); refine box_event ?hg (N := 7) ?hd (cs := #[.int .i64 0, .int .i64 0, .int .i64 0]) (t := 59) ?hr ?_; (case hd => rfl); (case hg => rfl); (case hr => first | (go_simp; done) | (go_simp; rfl)); intro gb353 hg w66 hbox hb; have n0_ := Aside0.mk (Kd.R_below (Kd.R_elderB Yg_ gb353 (Nat.le_of_eq hg.symm)) hb); have n1_ := Aside0.mk (Ag.below Ybf_ hb); have n2_ := Aside0.mk (Bc.trans Ye_ (Bc.of_below hb g none) (.inl rfl)); have n3_ := Aside0.mk (below_step Ybj_ hb); have n4_ := Aside0.mk (hbox); have n5_ := Aside0.mk ((by rw [hg]; exact (Gp (w := w) (g := g) (row := none) Ye_) : w.heap.size ≤ gb353)); have n6_ := Aside0.mk ((Nat.le_trans HW0.out (by rw [hg]; exact (Gp (w := w) (g := g) (row := none) Ye_) : w.heap.size ≤ gb353) : w0.heap.size ≤ gb353)); have n7_ := Aside0.mk ((by rw [hg]; exact Nat.ne_of_lt (Ag.lt (show Ag w0 _ g s0_0 t350 t351 from by repeat (first | (with_reducible first | exact HI0.out | apply Ag.alloc | apply Ag.drewN | apply Ag.drew | apply Ag.D6 | apply Ag.D5) | exact HI0.out))) : g ≠ gb353)); have n8_ := Aside0.mk ((by rw [hg]; exact Nat.ne_of_gt (Ag.lt (show Ag w0 _ g s0_0 t350 t351 from by repeat (first | (with_reducible first | exact HI0.out | apply Ag.alloc | apply Ag.drewN | apply Ag.drew | apply Ag.D6 | apply Ag.D5) | exact HI0.out))) : gb353 ≠ g)); clear HO_3; clear HI0; clear HK; clear HB; have HO_3 := n0_; have HI0 := n1_; have HK := n2_; have HB := n3_; have BK353 := n4_; have GW353 := n5_; have GE353 := n6_; have NB0_353 := n7_; have NB353_0 := n8_; clear n0_ n1_ n2_ n3_ n4_ n5_ n6_ n7_ n8_; clear hb hbox hg; have hnb67 := NB353_0.out; have hnc67 := NB0_353.out; have hcz68_0 : w66.cell? ⟨gb353, 0, none⟩ = some (.int .i64 0) := (blk_cell BK353.out 0).trans rfl; have hcz68_1 : w66.cell? ⟨gb353, 1, none⟩ = some (.int .i64 0) := (blk_cell BK353.out 1).trans rfl; have hcz68_2 : w66.cell? ⟨gb353, 2, none⟩ = some (.int .i64 0) := (blk_cell BK353.out 2).trans rfl; have hfz68_0 := blk_frozen BK353.out 0; have hfz68_1 := blk_frozen BK353.out 1; have hfz68_2 := blk_frozen BK353.out 2) | ((with_reducible refine gate_callee (f := 69) rfl ?_); refine goesL_ (some 43) rfl rfl Try.func69 (by kernel_rfl) rfl #[.pointer (some ⟨g, 0, none⟩), .int .i64 40] rfl Yb_ ?_; (with_reducible refine (Dt.calls g s0_0 t350 t351 40 t354 t355 t356 w0 _ ?side1 ?side2 A23.out).mono ?_); (case side1 => repeat (first | (with_reducible first | exact HI0.out | apply Ag.alloc | apply Ag.drewN | apply Ag.drew | apply Ag.D6 | apply Ag.D5 | refine Ag.far ?_ NB0_353.out _) | exact HI0.out)); (case side2 => repeat (first | (with_reducible first | exact HB.out | apply Af | apply Ad | apply Ae | refine Ar ?_ (Ag.ge HI0.out) | refine Ar ?_ GE353.out) | exact HB.out)); rintro e w69 ⟨rfl, hi, hb, hk⟩; refine ⟨_, rfl, ?_⟩; have n0_ := Aside0.mk (Kd.R_mono (Kd.Gh (Ag.apart (show Ag w0 _ g s0_0 t350 t351 from by repeat (first | (with_reducible first | exact HI0.out | apply Ag.alloc | apply Ag.drewN | apply Ag.drew | apply Ag.D6 | apply Ag.D5 | refine Ag.far ?_ NB0_353.out _) | exact HI0.out)) Ybb_ (by decide)) hk (fun _ h => h.2)) (fun _ h => h.1)); have n1_ := Aside0.mk (Bc.blk hk (g' := gb353) (o := .cells #[.int .i64 ((Ah x3_1 t349).f0), .int .i64 ((Ah x3_1 t349).f1), .int .i64 ((Ah x3_1 t349).f2)] 59 (0, 0)) Yi_ NB353_0.out (by simp)); have n2_ := Aside0.mk (Bc.trans Yf_ hk (.inl rfl)); have n3_ := Aside0.mk (hb); have n4_ := Aside0.mk (hi); clear HO_3; clear BK353; clear HK; clear HB; clear HI0; have HO_3 := n0_; have BK353 := n1_; have HK := n2_; have HB := n3_; have HI0 := n4_; clear n0_ n1_ n2_ n3_ n4_; (try clear hb); (try clear hb2); (try clear hk); (try clear hi)) | ((with_reducible refine gate_dst (N := 62) rfl ?_); refine Kd.R_lit (Kd.int .i64) _ 3 ?hg (N := 62) ?hd (xs := ([0, 9, 10] : List Int)) (inner := [.int .i64 0, .int .i64 9, .int .i64 10]) (ok := fun _ => True) (okp := fun _ => True) ?hr ?hp (fun _ hk => hk) trivial (Below.refl _ _) (Nat.le_refl _) (by simp) ?_; (case hd => rfl); (case hg => rfl); (case hr => first | (go_simp; done) | (go_simp; rfl)); (case hp => exact (Dw.one (show Kd.M (Kd.int .i64) _ _ _ 0 [.int .i64 0] from rfl) (Dw.one (show Kd.M (Kd.int .i64) _ _ _ 9 [.int .i64 9] from rfl) (Dw.one (show Kd.M (Kd.int .i64) _ _ _ 10 [.int .i64 10] from rfl) (Dw.none _ _))))); intro v372 w70 ho71 hb hg_ hnew_; clear hg_ hnew_; (first | rw [← Ny371.out] at ho71 | (simp only [Int.reduceToNat] at ho71; rw [← Ny371.out] at ho71)); have n0_ := Aside0.mk (Kd.R_below Yg_ hb); have n1_ := Aside0.mk (Kd.R_lower ho71 (Gp (w := w) (g := g) (row := none) Yf_)); have n2_ := Aside0.mk (Ag.below Yba_ hb); have n3_ := Aside0.mk (blk_below (g := gb353) (o := .cells #[.int .i64 ((Ah x3_1 t349).f0), .int .i64 ((Ah x3_1 t349).f1), .int .i64 ((Ah x3_1 t349).f2)] 59 (0, 0)) Ybe_ hb); have n4_ := Aside0.mk (Bc.trans Yf_ (Bc.of_below hb g none) (.inl rfl)); have n5_ := Aside0.mk (below_step Ybi_ hb); clear HO_3; clear HI0; clear BK353; clear HK; clear HB; have HO_3 := n0_; have HO373 := n1_; have HI0 := n2_; have BK353 := n3_; have HK := n4_; have HB := n5_; clear n0_ n1_ n2_ n3_ n4_ n5_; clear hb ho71; obtain ⟨Ao72, co72, eo72⟩ := Kd.R_slice HO373.out; subst eo72) | ((with_reducible refine gate_callee (f := 68) rfl ?_); refine goesL_ (some 63) rfl rfl Try.func68 (by kernel_rfl) rfl #[.pointer (some ⟨g, 0, none⟩), .slice Ao72 y371.length co72] rfl Yb_ ?_; (with_reducible refine (Dx.calls g s0_0 t355 t356 _ _ y371 t374 t375 t376 w0 _ ?side1 ?side2 ?side3 ?side4 ?side5 A62.out).mono ?_); (case side1 => repeat (first | (with_reducible first | exact HI0.out | apply Ag.alloc | apply Ag.drewN | apply Ag.drew | apply Ag.D6 | apply Ag.D5 | refine Ag.far ?_ NB0_353.out _) | exact HI0.out)); (case side2 => repeat (first | (with_reducible first | exact HB.out | apply Af | apply Ad | apply Ae | refine Ar ?_ (Ag.ge HI0.out) | refine Ar ?_ GE353.out) | exact HB.out)); (case side3 => repeat (first | exact (Kd.R_reads' HO373.out).2.2 | (with_reducible refine Kd.Be ?_ _) | (with_reducible refine Kd.Bf ?_ _) | (with_reducible refine Kd.Bh ?_))); (case side4 => exact (Kd.R_reads' HO373.out).2.1); (case side5 => exact far_slice (Ag.own_ne HI0.out HO373.out (by decide))); rintro e w73 ⟨rfl, hi, hb, hk⟩; refine ⟨_, rfl, ?_⟩; have n0_ := Aside0.mk (Kd.R_mono (Kd.Gh (Ag.apart (show Ag w0 _ g s0_0 t355 t356 from by repeat (first | (with_reducible first | exact HI0.out | apply Ag.alloc | apply Ag.drewN | apply Ag.drew | apply Ag.D6 | apply Ag.D5 | refine Ag.far ?_ NB0_353.out _) | exact HI0.out)) Yg_ (by decide)) hk (fun _ h => h.2)) (fun _ h => h.1)); have n1_ := Aside0.mk (Bc.blk hk (g' := gb353) (o := .cells #[.int .i64 ((Ah x3_1 t349).f0), .int .i64 ((Ah x3_1 t349).f1), .int .i64 ((Ah x3_1 t349).f2)] 59 (0, 0)) Ybe_ NB353_0.out (by simp)); have n2_ := Aside0.mk (Kd.R_mono (Kd.Gh (Ag.apart (show Ag w0 _ g s0_0 t355 t356 from by repeat (first | (with_reducible first | exact HI0.out | apply Ag.alloc | apply Ag.drewN | apply Ag.drew | apply Ag.D6 | apply Ag.D5 | refine Ag.far ?_ NB0_353.out _) | exact HI0.out)) (by (with_reducible repeat (first | apply Kd.Ap | apply Kd.Am | apply Kd.Ba)); exact HO373.out) (by decide)) hk (fun _ h => h.2)) (fun _ h => h.1)); have n3_ := Aside0.mk (Bc.trans Yf_ hk (.inl rfl)); have n4_ := Aside0.mk (hb); have n5_ := Aside0.mk (hi); clear HO_3; clear BK353; clear HO373; clear HK; clear HB; clear HI0; have HO_3 := n0_; have BK353 := n1_; have HO373 := n2_; have HK := n3_; have HB := n4_; have HI0 := n5_; clear n0_ n1_ n2_ n3_ n4_ n5_; (try clear hb); (try clear hb2); (try clear hk); (try clear hi); have hcz74_0 : w73.cell? ⟨gb353, 0, none⟩ = some (.int .i64 ((Ah x3_1 t349).f0)) := (blk_cell BK353.out 0).trans rfl; have hcz74_1 : w73.cell? ⟨gb353, 1, none⟩ = some (.int .i64 ((Ah x3_1 t349).f1)) := (blk_cell BK353.out 1).trans rfl; have hcz74_2 : w73.cell? ⟨gb353, 2, none⟩ = some (.int .i64 ((Ah x3_1 t349).f2)) := (blk_cell BK353.out 2).trans rfl; have hfz74_0 := blk_frozen BK353.out 0; have hfz74_1 := blk_frozen BK353.out 1; have hfz74_2 := blk_frozen BK353.out 2) | ((with_reducible refine gate_store (t := 3) (p := 64) rfl ?_); refine store_event (t := 3) (p := 64) (v := ?vo_w75) (w1 := (w73.setCell ⟨gb353, 2, none⟩ (.int .i64 t374))) ?hg ?ho ?hn ?hr ?_; (case ho => rfl); (case hg => rfl); (case hn => rfl); (case hr => first | (go_simp; done) | (go_simp; rfl)); intro w75 hw; have n0_ : Aside0 (Kd.R k59 59 w75 w.heap.size (fun k_ => k_ ≠ gb353) (.slice (some ad352) x3_1.length co64) x3_1) := ⟨(by rw [hw]; exact (by (with_reducible repeat (first | apply Kd.Ap | apply Kd.Am | apply Kd.Ba)); exact Kd.R_mono (Kd.Gw (p := ⟨gb353, 2, none⟩) (Kd.R_mono HO_3.out (fun k_ hk => (⟨hk, hk.2⟩ : _ ∧ k_ ≠ gb353))) (fun _ hk => hk.2) (.int .i64 t374)) (fun _ hk => hk.1.2)))⟩; have n1_ : Aside0 (Kd.R (Kd.int .i64) 3 w75 w.heap.size (fun _ => True) (.slice Ao72 y371.length co72) y371) := ⟨(by rw [hw]; exact (by (with_reducible repeat (first | apply Kd.Ap | apply Kd.Am | apply Kd.Ba)); exact Kd.R_mono (Kd.Gw (p := ⟨gb353, 2, none⟩) (Kd.R_types HO373.out BK353.out (by decide)) (fun _ hk => hk.2) (.int .i64 t374)) (fun _ hk => trivial)))⟩; have n2_ : Aside0 (w75.heap[gb353]? = some (.cells #[.int .i64 ((Ah x3_1 t349).f0), .int .i64 ((Ah x3_1 t349).f1), .int .i64 t374] 59 (0, 0))) := ⟨(by rw [hw]; exact (by (with_reducible repeat (first | refine Dn ?_ _ | refine Dv ?_ | refine Dl ?_ _)); refine blk_put (cs := #[.int .i64 ((Ah x3_1 t349).f0), .int .i64 ((Ah x3_1 t349).f1), .int .i64 ((Ah x3_1 t349).f2)]) ?_ 2 _ rfl; (with_reducible repeat (first | refine Dn ?_ _ | refine Dv ?_ | refine Dl ?_ _)); exact BK353.out))⟩; have n3_ : Aside0 (Ag w0 w75 g s0_0 t375 t376) := ⟨(by rw [hw]; exact Yba_)⟩; have n4_ : Aside0 (Bc w w75 g none) := ⟨(by rw [hw]; exact Yf_)⟩; have n5_ : Aside0 (Below w0.heap.size w0 w75) := ⟨(by rw [hw]; exact Ybi_)⟩; clear hw; clear HO_3; clear HO373; clear BK353; clear HI0; clear HK; clear HB; have HO_3 := n0_; have HO373 := n1_; have BK353 := n2_; have HI0 := n3_; have HK := n4_; have HB := n5_; clear n0_ n1_ n2_ n3_ n4_ n5_; have hcz76_0 : w75.cell? ⟨gb353, 0, none⟩ = some (.int .i64 ((Ah x3_1 t349).f0)) := (blk_cell BK353.out 0).trans rfl; have hcz76_1 : w75.cell? ⟨gb353, 1, none⟩ = some (.int .i64 ((Ah x3_1 t349).f1)) := (blk_cell BK353.out 1).trans rfl; have hcz76_2 : w75.cell? ⟨gb353, 2, none⟩ = some (.int .i64 t374) := (blk_cell BK353.out 2).trans rfl; have hfz76_0 := blk_frozen BK353.out 0; have hfz76_1 := blk_frozen BK353.out 1; have hfz76_2 := blk_frozen BK353.out 2; have p63 : 0 ≤ (t349 : Int) := of_decide_eq_true Yc_; have q63 : (t349 : Int) < ((x3_1.length : Int) : Int) := of_decide_eq_true Yc_; obtain ⟨go63, co63, eo63, gb63, gl63, cl63, HG63⟩ := Kd.R_form HO_3.out (by omega); (first | cases eo63 | (injection eo63 with ea_ en_ ec_; (first | subst ea_ | (injection ea_ with ea_; subst ea_)); subst ec_; clear en_)); have GB63 := Aside0.mk gb63; have GG63 := Aside0.mk HG63; clear gb63 gl63 HG63; (first | simp only [add_plain] at hx352_0 | skip); (first | simp only [add_plain] at hx352_1 | skip); (first | simp only [add_plain] at hx352_2 | skip); obtain ⟨ce63, hcl63, hM63, hcc63, hfr63⟩ := Kd.Gu HO_3.out z59 (t349 : Int) p63 q63; obtain rfl := Gi hM63; have hx63_0 : w75.cell? ⟨go63, (t349 : Int).toNat * 3, none⟩ = some (.int .i64 ((Ah x3_1 t349).f0)) := hcc63 0 _ rfl; have hx63_1 : w75.cell? ⟨go63, (t349 : Int).toNat * 3 + 1, none⟩ = some (.int .i64 ((Ah x3_1 t349).f1)) := hcc63 1 _ rfl; have hx63_2 : w75.cell? ⟨go63, (t349 : Int).toNat * 3 + 2, none⟩ = some (.int .i64 ((Ah x3_1 t349).f2)) := hcc63 2 _ rfl; have hf63_0 : w75.frozen? ⟨go63, (t349 : Int).toNat * 3, none⟩ = false := hfr63 0; have hf63_1 : w75.frozen? ⟨go63, (t349 : Int).toNat * 3 + 1, none⟩ = false := hfr63 1; have hf63_2 : w75.frozen? ⟨go63, (t349 : Int).toNat * 3 + 2, none⟩ = false := hfr63 2; (try clear hcl63); (try clear hcc63); (try clear hfr63); (try clear hM63); replace p63 := eq_true p63; replace q63 := eq_true q63; have HX77 := Aside0.mk (show Kd.R k59 59 w75 w.heap.size (fun k_ => k_ ≠ gb353) (.slice (some ⟨go63, 0, none⟩) x3_1.length co64) x3_1 from Yg_); obtain ⟨ce77, hcl77, hM77, hcc77, hfr77⟩ := Kd.Gu HX77.out z59 (t349 : Int) (of_decide_eq_true Yc_) (by have h_ : (t349 : Int) < ((x3_1.length : Int) : Int) := of_decide_eq_true Yc_; first | exact h_ | (have e_ := (Kd.R_reads' HO_3.out).1; omega) | simpa using h_); obtain rfl := Gi hM77; have HP77 := Kd.R_seg HX77.out (t349 : Int) (of_decide_eq_true Yc_) (by have h_ : (t349 : Int) < ((x3_1.length : Int) : Int) := of_decide_eq_true Yc_; first | exact h_ | (have e_ := (Kd.R_reads' HO_3.out).1; omega) | simpa using h_) (seg := [.int .i64 ((Ah x3_1 t349).f0), .int .i64 ((Ah x3_1 t349).f1), .int .i64 t374]) (j := 0) hcl77 hcc77 (show 3 ≤ 3 from by decide) (x' := (⟨(Ah x3_1 t349).f0, (Ah x3_1 t349).f1, t374⟩ : S59)) (Hy _ _ _ (⟨(Ah x3_1 t349).f0, (Ah x3_1 t349).f1, t374⟩ : S59) ) (fun _ hk => hk); have hx77_0 := hcc77 0 _ rfl; (try simp only [show (k59).sz = 3 from rfl, Nat.mul_one, Nat.add_zero] at hx77_0); have hf77_0 := hfr77 0; (try simp only [show (k59).sz = 3 from rfl, Nat.mul_one, Nat.add_zero] at hf77_0); have hx77_1 := hcc77 1 _ rfl; (try simp only [show (k59).sz = 3 from rfl, Nat.mul_one, Nat.add_zero] at hx77_1); have hf77_1 := hfr77 1; (try simp only [show (k59).sz = 3 from rfl, Nat.mul_one, Nat.add_zero] at hf77_1); have hx77_2 := hcc77 2 _ rfl; (try simp only [show (k59).sz = 3 from rfl, Nat.mul_one, Nat.add_zero] at hx77_2); have hf77_2 := hfr77 2; (try simp only [show (k59).sz = 3 from rfl, Nat.mul_one, Nat.add_zero] at hf77_2); clear hcl77 hcc77 hfr77 hM77) | ((with_reducible refine gate_store (t := 59) (p := 80) rfl ?_); refine store_event (t := 59) (p := 80) (v := ?vo_w78) (w1 := (((w75.setCell ⟨go63, (t349 : Int).toNat * 3, none⟩ (.int .i64 ((Ah x3_1 t349).f0))).setCell ⟨go63, (t349 : Int).toNat * 3 + 1, none⟩ (.int .i64 ((Ah x3_1 t349).f1))).setCell ⟨go63, (t349 : Int).toNat * 3 + 2, none⟩ (.int .i64 t374))) ?hg ?ho ?hn ?hr ?_; (case ho => rfl); (case hg => rfl); (case hn => rfl); (case hr => first | (go_simp; done) | (go_simp; rfl)); intro w78 hw; have hg : w75.grownBy w78 (some go63) := (by rw [hw]; exact HP77.2); have hp_ : Kd.R k59 59 w78 w.heap.size (fun k_ => k_ ≠ gb353) (.slice (some ⟨go63, 0, none⟩) x3_1.length co64) y377 := (by rw [hw, Ny377.out]; exact HP77.1); clear HP77; have n0_ := Aside0.mk (hp_); have n1_ := Aside0.mk (Ag.grown Yba_ hg (Ag.own_ne HI0.out HO_3.out (by decide))); have n2_ := Aside0.mk (H8 (g := gb353) (o := .cells #[.int .i64 ((Ah x3_1 t349).f0), .int .i64 ((Ah x3_1 t349).f1), .int .i64 t374] 59 (0, 0)) Ybe_ hg (Kd.R_away HO_3.out (fun _ hk => hk))); have n3_ := Aside0.mk (Kd.R_over' (v := (.slice (some ⟨go63, 0, none⟩) x3_1.length co64)) (by (with_reducible repeat (first | apply Kd.Ap | apply Kd.Am | apply Kd.Ba)); exact HO373.out) (Kd.R_typed HO_3.out) (by decide) hg); have n4_ := Aside0.mk ((by rw [hw]; exact Ar (Ar (Ar (HB.out) (Nat.le_trans HL.out GB63.out)) (Nat.le_trans HL.out GB63.out)) (Nat.le_trans HL.out GB63.out) : Below w0.heap.size w0 w78)); have n5_ := Aside0.mk (Bc.trans Yf_ (Bc.Ha hg g) (Kd.R_base2 HO_3.out)); clear HO_3; clear HI0; clear BK353; clear HO373; clear HB; clear HK; have HO_3 := n0_; have HI0 := n1_; have BK353 := n2_; have HO373 := n3_; have HB := n4_; have HK := n5_; clear n0_ n1_ n2_ n3_ n4_ n5_; clear hg hw hp_))
          go_ret
          exact ⟨_, by first | rfl | (simp [Aw, Az] <;> rfl) | (simp [*, Aw, Az] <;> rfl), by (with_reducible repeat (first | apply Kd.Ap | apply Kd.Am | apply Kd.Ba)); exact Kd.R_mono HO_3.out (fun _ hk => trivial), by repeat (first | (with_reducible first | exact HI0.out | apply Ag.alloc | apply Ag.drewN | apply Ag.drew | apply Ag.D6 | apply Ag.D5 | refine Ag.far ?_ NB0_353.out _) | exact HI0.out), by repeat (first | (with_reducible first | exact HB.out | apply Af | apply Ad | apply Ae | refine Ar ?_ (Ag.ge HI0.out) | refine Ar ?_ GE353.out) | exact HB.out), by repeat (first | (with_reducible first | exact HK.out | apply Bc.Et | apply Cf | apply Dh | apply Ci | refine Fe ?_ GW353.out _) | exact HK.out)⟩
         ·rw [if_neg c61] at H
          have c61b0 : (t354 == 2) = false := beq_eq_false_iff_ne.mpr c61
          have c61b1 : (t354 != 2) = true := bne_iff_ne.mpr c61
          by_cases c79 : t354 = 3
          ·rw [if_pos c79] at H
           have c79b0 : (t354 == 3) = true := beq_iff_eq.mpr c79
           have c79b1 : (t354 != 3) = false := bne_eq_false_iff_eq.mpr c79
           clear c79
           have H' := Aside0.mk H
           clear H
           obtain ⟨Ao80, co80, eo80⟩ := Kd.R_slice HO_3.out
           subst eo80
           go_wp2_with (first | ((with_reducible refine gate_callee (f := 69) rfl ?_); refine goesL_ (some 37) rfl rfl Try.func69 (by kernel_rfl) rfl #[.pointer (some ⟨g, 0, none⟩), .int .i64 (x3_1.length : Int)] rfl Yb_ ?_; (with_reducible refine (Dt.calls g s0_0 x1001_1 x1002_1 (x3_1.length : Int) t349 t350 t351 w0 _ ?side1 ?side2 A20.out).mono ?_); (case side1 => repeat (first | (with_reducible first | exact HI0.out | apply Ag.alloc | apply Ag.drewN | apply Ag.drew | apply Ag.D6 | apply Ag.D5) | exact HI0.out)); (case side2 => repeat (first | (with_reducible first | exact HB.out | apply Af | apply Ad | apply Ae | refine Ar ?_ (Ag.ge HI0.out)) | exact HB.out)); rintro e w81 ⟨rfl, hi, hb, hk⟩; refine ⟨_, rfl, ?_⟩; have n0_ := Aside0.mk (Kd.R_mono (Kd.Gh (Ag.apart (show Ag w0 _ g s0_0 x1001_1 x1002_1 from by repeat (first | (with_reducible first | exact HI0.out | apply Ag.alloc | apply Ag.drewN | apply Ag.drew | apply Ag.D6 | apply Ag.D5) | exact HI0.out)) Yg_ (by decide)) hk (fun _ h => h.2)) (fun _ h => h.1)); have n1_ := Aside0.mk (Bc.trans Ye_ hk (.inl rfl)); have n2_ := Aside0.mk (hb); have n3_ := Aside0.mk (hi); clear HO_3; clear HK; clear HB; clear HI0; have HO_3 := n0_; have HK := n1_; have HB := n2_; have HI0 := n3_; clear n0_ n1_ n2_ n3_; (try clear hb); (try clear hb2); (try clear hk); (try clear hi); have p352 : 0 ≤ (t349 : Int) := of_decide_eq_true Yc_; have q352 : t349 < (x3_1.length : Int) := of_decide_eq_true Yc_; obtain ⟨ad352, e352, hx352_0, hx352_1, hx352_2⟩ := Ez (Kd.R_reads' HO_3.out).2.2 t349 p352 q352; cases e352; replace p352 := eq_true p352; replace q352 := eq_true q352) | ((with_reducible refine gate_dst (N := 7) rfl ?_); refine box_event ?hg (N := 7) ?hd (cs := #[.int .i64 0, .int .i64 0, .int .i64 0]) (t := 59) ?hr ?_; (case hd => rfl); (case hg => rfl); (case hr => first | (go_simp; done) | (go_simp; rfl)); intro gb353 hg w82 hbox hb; have n0_ := Aside0.mk (Kd.R_below (Kd.R_elderB Yg_ gb353 (Nat.le_of_eq hg.symm)) hb); have n1_ := Aside0.mk (Ag.below Ybf_ hb); have n2_ := Aside0.mk (Bc.trans Ye_ (Bc.of_below hb g none) (.inl rfl)); have n3_ := Aside0.mk (below_step Ybj_ hb); have n4_ := Aside0.mk (hbox); have n5_ := Aside0.mk ((by rw [hg]; exact (Gp (w := w) (g := g) (row := none) Ye_) : w.heap.size ≤ gb353)); have n6_ := Aside0.mk ((Nat.le_trans HW0.out (by rw [hg]; exact (Gp (w := w) (g := g) (row := none) Ye_) : w.heap.size ≤ gb353) : w0.heap.size ≤ gb353)); have n7_ := Aside0.mk ((by rw [hg]; exact Nat.ne_of_lt (Ag.lt (show Ag w0 _ g s0_0 t350 t351 from by repeat (first | (with_reducible first | exact HI0.out | apply Ag.alloc | apply Ag.drewN | apply Ag.drew | apply Ag.D6 | apply Ag.D5) | exact HI0.out))) : g ≠ gb353)); have n8_ := Aside0.mk ((by rw [hg]; exact Nat.ne_of_gt (Ag.lt (show Ag w0 _ g s0_0 t350 t351 from by repeat (first | (with_reducible first | exact HI0.out | apply Ag.alloc | apply Ag.drewN | apply Ag.drew | apply Ag.D6 | apply Ag.D5) | exact HI0.out))) : gb353 ≠ g)); clear HO_3; clear HI0; clear HK; clear HB; have HO_3 := n0_; have HI0 := n1_; have HK := n2_; have HB := n3_; have BK353 := n4_; have GW353 := n5_; have GE353 := n6_; have NB0_353 := n7_; have NB353_0 := n8_; clear n0_ n1_ n2_ n3_ n4_ n5_ n6_ n7_ n8_; clear hb hbox hg; have hnb83 := NB353_0.out; have hnc83 := NB0_353.out; have hcz84_0 : w82.cell? ⟨gb353, 0, none⟩ = some (.int .i64 0) := (blk_cell BK353.out 0).trans rfl; have hcz84_1 : w82.cell? ⟨gb353, 1, none⟩ = some (.int .i64 0) := (blk_cell BK353.out 1).trans rfl; have hcz84_2 : w82.cell? ⟨gb353, 2, none⟩ = some (.int .i64 0) := (blk_cell BK353.out 2).trans rfl; have hfz84_0 := blk_frozen BK353.out 0; have hfz84_1 := blk_frozen BK353.out 1; have hfz84_2 := blk_frozen BK353.out 2) | ((with_reducible refine gate_callee (f := 69) rfl ?_); refine goesL_ (some 43) rfl rfl Try.func69 (by kernel_rfl) rfl #[.pointer (some ⟨g, 0, none⟩), .int .i64 40] rfl Yb_ ?_; (with_reducible refine (Dt.calls g s0_0 t350 t351 40 t354 t355 t356 w0 _ ?side1 ?side2 A23.out).mono ?_); (case side1 => repeat (first | (with_reducible first | exact HI0.out | apply Ag.alloc | apply Ag.drewN | apply Ag.drew | apply Ag.D6 | apply Ag.D5 | refine Ag.far ?_ NB0_353.out _) | exact HI0.out)); (case side2 => repeat (first | (with_reducible first | exact HB.out | apply Af | apply Ad | apply Ae | refine Ar ?_ (Ag.ge HI0.out) | refine Ar ?_ GE353.out) | exact HB.out)); rintro e w85 ⟨rfl, hi, hb, hk⟩; refine ⟨_, rfl, ?_⟩; have n0_ := Aside0.mk (Kd.R_mono (Kd.Gh (Ag.apart (show Ag w0 _ g s0_0 t350 t351 from by repeat (first | (with_reducible first | exact HI0.out | apply Ag.alloc | apply Ag.drewN | apply Ag.drew | apply Ag.D6 | apply Ag.D5 | refine Ag.far ?_ NB0_353.out _) | exact HI0.out)) Ybb_ (by decide)) hk (fun _ h => h.2)) (fun _ h => h.1)); have n1_ := Aside0.mk (Bc.blk hk (g' := gb353) (o := .cells #[.int .i64 ((Ah x3_1 t349).f0), .int .i64 ((Ah x3_1 t349).f1), .int .i64 ((Ah x3_1 t349).f2)] 59 (0, 0)) Yi_ NB353_0.out (by simp)); have n2_ := Aside0.mk (Bc.trans Yf_ hk (.inl rfl)); have n3_ := Aside0.mk (hb); have n4_ := Aside0.mk (hi); clear HO_3; clear BK353; clear HK; clear HB; clear HI0; have HO_3 := n0_; have BK353 := n1_; have HK := n2_; have HB := n3_; have HI0 := n4_; clear n0_ n1_ n2_ n3_ n4_; (try clear hb); (try clear hb2); (try clear hk); (try clear hi)))
           go_loopg [3] k1 (fun kq v3 w' => ∃ (x3_2 : List (S59)) (x1001_2 : Int) (x1002_2 : Int), Aside0 (Bo.l1 kq x3_2 t349 s0_0 x1001_2 x1002_2 ((Ah x3_1 t349).f0) ((Ah x3_1 t349).f1) ((Ah x3_1 t349).f2) = some (r1, r2, r3)) ∧ Aside0 (kq ≤ k1) ∧ Aside0 (Kd.R k59 59 w' w.heap.size (fun k_ => k_ ≠ gb353) v3 x3_2) ∧ Aside0 (w'.heap[gb353]? = some (.cells #[.int .i64 ((Ah x3_1 t349).f0), .int .i64 ((Ah x3_1 t349).f1), .int .i64 ((Ah x3_1 t349).f2)] 59 (0, 0))) ∧ Aside0 (Ag w0 w' g s0_0 x1001_2 x1002_2) ∧ Aside0 (Bc w w' g none) ∧ Aside0 (Below w0.heap.size w0 w'))
           case atStart => exact ⟨(x3_1), (t355), (t356), H', ⟨Nat.le_refl _⟩, ⟨by (with_reducible repeat (first | apply Kd.Ap | apply Kd.Am | apply Kd.Ba)); exact Kd.R_mono HO_3.out (fun _ hk => hk.2)⟩, ⟨by (with_reducible repeat (first | refine Dn ?_ _ | refine Dv ?_ | refine Dl ?_ _)); exact BK353.out⟩, ⟨by repeat (first | (with_reducible first | exact HI0.out | apply Ag.alloc | apply Ag.drewN | apply Ag.drew | apply Ag.D6 | apply Ag.D5 | refine Ag.far ?_ NB0_353.out _) | exact HI0.out)⟩, ⟨by repeat (first | (with_reducible first | exact HK.out | apply Bc.Et | apply Cf | apply Dh | apply Ci | refine Fe ?_ GW353.out _) | exact HK.out)⟩, ⟨by repeat (first | (with_reducible first | exact HB.out | apply Af | apply Ad | apply Ae | refine Ar ?_ (Ag.ge HI0.out) | refine Ar ?_ GE353.out) | exact HB.out)⟩⟩
           case round =>
            clear H'
            try clear c1
            try clear c2
            try clear p2
            try clear q2
            try clear hx2
            try clear hf2
            try clear c3
            try clear p3
            try clear q3
            try clear hx3
            try clear c4
            try clear p4
            try clear q4
            try clear hx4
            try clear hf4
            try clear c5
            try clear hx5
            try clear hf5
            try clear c6
            try clear c6b0
            try clear p6
            try clear q6
            try clear hx6
            try clear hf6
            try clear c7
            try clear hx7
            try clear hf7
            try clear c8
            try clear c10
            try clear c18
            try clear c18b0
            try clear c18b1
            try clear c18b2
            try clear c21
            try clear c21b0
            try clear c22
            try clear c22b0
            try clear c24
            try clear c24b0
            try clear c24b1
            try clear c26
            try clear p26
            try clear q26
            try clear hx26
            try clear hf26
            try clear c30
            try clear p35
            try clear q35
            try clear hx35
            try clear c41
            try clear hx41
            try clear hf41
            try clear c43
            try clear c43b0
            try clear c43b1
            try clear c45
            try clear p45
            try clear q45
            try clear hx45
            try clear hf45
            try clear c49
            try clear c59
            try clear hx59
            try clear hf59
            try clear c61
            try clear c61b0
            try clear c61b1
            try clear c63
            try clear p63
            try clear q63
            try clear hx63
            try clear hf63
            try clear p64
            try clear c67
            try clear c68
            try clear c69
            try clear c77
            try clear hx77
            try clear hf77
            try clear c79
            try clear c79b0
            try clear c79b1
            try clear c83
            try clear hcz31_0
            try clear hcz31_1
            try clear hcz31_2
            try clear hcz33_0
            try clear hcz33_1
            try clear hcz33_2
            try clear hcz38_0
            try clear hcz38_1
            try clear hcz38_2
            try clear hcz40_0
            try clear hcz40_1
            try clear hcz40_2
            try clear hcz50_0
            try clear hcz50_1
            try clear hcz50_2
            try clear hcz56_0
            try clear hcz56_1
            try clear hcz56_2
            try clear hcz58_0
            try clear hcz58_1
            try clear hcz58_2
            try clear hcz68_0
            try clear hcz68_1
            try clear hcz68_2
            try clear hcz74_0
            try clear hcz74_1
            try clear hcz74_2
            try clear hcz76_0
            try clear hcz76_1
            try clear hcz76_2
            try clear hcz84_0
            try clear hcz84_1
            try clear hcz84_2
            try clear hfz31_0
            try clear hfz31_1
            try clear hfz31_2
            try clear hfz33_0
            try clear hfz33_1
            try clear hfz33_2
            try clear hfz38_0
            try clear hfz38_1
            try clear hfz38_2
            try clear hfz40_0
            try clear hfz40_1
            try clear hfz40_2
            try clear hfz50_0
            try clear hfz50_1
            try clear hfz50_2
            try clear hfz56_0
            try clear hfz56_1
            try clear hfz56_2
            try clear hfz58_0
            try clear hfz58_1
            try clear hfz58_2
            try clear hfz68_0
            try clear hfz68_1
            try clear hfz68_2
            try clear hfz74_0
            try clear hfz74_1
            try clear hfz74_2
            try clear hfz76_0
            try clear hfz76_1
            try clear hfz76_2
            try clear hfz84_0
            try clear hfz84_1
            try clear hfz84_2
            try clear hx26_0
            try clear hx26_1
            try clear hx26_2
            try clear hx352_0
            try clear hx352_1
            try clear hx352_2
            try clear hx41_0
            try clear hx41_1
            try clear hx41_2
            try clear hx45_0
            try clear hx45_1
            try clear hx45_2
            try clear hx59_0
            try clear hx59_1
            try clear hx59_2
            try clear hx63_0
            try clear hx63_1
            try clear hx63_2
            try clear hx77_0
            try clear hx77_1
            try clear hx77_2
            try clear p2
            try clear p26
            try clear p352
            try clear p45
            try clear p63
            try clear q26
            try clear q352
            try clear q45
            try clear q63
            obtain ⟨x3_2, x1001_2, x1002_2, HA, HK2, HO_3, BK353, HI0, HK, HB⟩ := hrel
            cases gk with
            | zero => exact absurd HA.out (by simp [Bo.l1])
            | succ k2 =>
             have H := HA.out
             clear HA
             simp only [Bo.l1] at H
             replace H := Option.bind_eq_some_iff.mp H
             obtain ⟨⟨t378, t379, t380⟩, A860, H⟩ := H
             replace H : (if (x3_2.length : Int) < (wrap64 (20 + t378)) then (if x3_2.length < 5864062014805 then (Bo.l1 k2 (x3_2 ++ [(⟨1, 2, 1⟩ : S59)]) t349 s0_0 t379 t380 ((Ah x3_1 t349).f0) ((Ah x3_1 t349).f1) ((Ah x3_1 t349).f2)) else (none)) else (if 0 ≤ t349 then (if t349 < (x3_2.length : Int) then (some ((x3_2.set (t349 : Int).toNat (⟨((Ah x3_1 t349).f0), ((Ah x3_1 t349).f1), ((Ah x3_1 t349).f2)⟩ : S59)), t379, t380)) else (none)) else (none))) = some (r1, r2, r3) := H
             have A86 := Aside0.mk A860
             clear A860
             by_cases c87 : (x3_2.length : Int) < (wrap64 (20 + t378))
             ·rw [if_pos c87] at H
              have c87b0 : decide ((x3_2.length : Int) < (wrap64 (20 + t378))) = true := decide_eq_true c87
              clear c87
              by_cases c88 : x3_2.length < 5864062014805
              ·rw [if_pos c88] at H
               have LMc88 := Aside0.mk c88
               clear c88
               obtain ⟨y381, hy381⟩ : ∃ y_ : List (S59), y_ = (x3_2 ++ [(⟨1, 2, 1⟩ : S59)]) := ⟨_, rfl⟩
               replace H : (Bo.l1 k2 y381 t349 s0_0 t379 t380 ((Ah x3_1 t349).f0) ((Ah x3_1 t349).f1) ((Ah x3_1 t349).f2)) = some (r1, r2, r3) := by first | (rw [hy381]; with_reducible exact H) | (have H2_ := (Option.bind_some _ _).symm.trans H; rw [hy381]; with_reducible exact H2_) | (have H2_ := (Option.bind_some _ _).symm.trans H; with_reducible exact H2_) | with_reducible exact H | (rw [hy381]; exact H) | exact H
               have Ny381 := Aside0.mk hy381
               clear hy381
               have H' := Aside0.mk H
               clear H
               obtain ⟨Ao89, co89, eo89⟩ := Kd.R_slice HO_3.out
               subst eo89
               go_wp2_with (first | ((with_reducible refine gate_callee (f := 69) rfl ?_); refine goesL_ (some 70) rfl rfl Try.func69 (by kernel_rfl) rfl #[.pointer (some ⟨g, 0, none⟩), .int .i64 2] rfl Yb_ ?_; (with_reducible refine (Dt.calls g s0_0 x1001_2 x1002_2 2 t378 t379 t380 w0 _ ?side1 ?side2 A86.out).mono ?_); (case side1 => repeat (first | (with_reducible first | exact HI0.out | apply Ag.alloc | apply Ag.drewN | apply Ag.drew | apply Ag.D6 | apply Ag.D5 | refine Ag.far ?_ NB0_353.out _) | exact HI0.out)); (case side2 => repeat (first | (with_reducible first | exact HB.out | apply Af | apply Ad | apply Ae | refine Ar ?_ (Ag.ge HI0.out) | refine Ar ?_ GE353.out) | exact HB.out)); rintro e w90 ⟨rfl, hi, hb, hk⟩; refine ⟨_, rfl, ?_⟩; have n0_ := Aside0.mk (Kd.R_mono (Kd.Gh (Ag.apart (show Ag w0 _ g s0_0 x1001_2 x1002_2 from by repeat (first | (with_reducible first | exact HI0.out | apply Ag.alloc | apply Ag.drewN | apply Ag.drew | apply Ag.D6 | apply Ag.D5 | refine Ag.far ?_ NB0_353.out _) | exact HI0.out)) Yg_ (by decide)) hk (fun _ h => h.2)) (fun _ h => h.1)); have n1_ := Aside0.mk (Bc.blk hk (g' := gb353) (o := .cells #[.int .i64 ((Ah x3_1 t349).f0), .int .i64 ((Ah x3_1 t349).f1), .int .i64 ((Ah x3_1 t349).f2)] 59 (0, 0)) Ybe_ NB353_0.out (by simp)); have n2_ := Aside0.mk (Bc.trans Yf_ hk (.inl rfl)); have n3_ := Aside0.mk (hb); have n4_ := Aside0.mk (hi); clear HO_3; clear BK353; clear HK; clear HB; clear HI0; have HO_3 := n0_; have BK353 := n1_; have HK := n2_; have HB := n3_; have HI0 := n4_; clear n0_ n1_ n2_ n3_ n4_; (try clear hb); (try clear hb2); (try clear hk); (try clear hi)) | ((with_reducible refine H5 (b := .append) (xs := #[.tmp 73, .tmp 75]) rfl ?_); at_builtin; refine Kd.R_append k59 w.heap.size rfl (.tmp 73) (.tmp 75) 28 59 (.agg #[(.int .i64 0), (.int .i64 0), (.int .i64 0)]) 24 rfl Try.underlying28 info59 rfl (by decide) (by omega) (.slice Ao89 x3_2.length co89) x3_2 (⟨1, 2, 1⟩ : S59) [.int .i64 1, .int .i64 2, .int .i64 1] (fun k_ => k_ ≠ gb353) (fun _ => False) rfl rfl ?aP (fun _ hk => hk.elim) ?aF ?aO (Below.refl _ _) ?aS ?aL ?_; (case aP => exact Hy _ _ _ (⟨1, 2, 1⟩ : S59)); (case aF => exact (fun k_ hk => Kd.freshB (g := gb353) (o := .cells #[.int .i64 ((Ah x3_1 t349).f0), .int .i64 ((Ah x3_1 t349).f1), .int .i64 ((Ah x3_1 t349).f2)] 59 (0, 0)) Ybe_ k_ hk)); (case aO => exact Yg_); (case aS => exact (Gp (w := w) (g := g) (row := none) Yf_)); (case aL => have := LMc88.out; omega); intro v382 w91 ho hb hg hat; rw [← Ny381.out] at ho; have n0_ := Aside0.mk (H8 (g := gb353) (o := .cells #[.int .i64 ((Ah x3_1 t349).f0), .int .i64 ((Ah x3_1 t349).f1), .int .i64 ((Ah x3_1 t349).f2)] 59 (0, 0)) Ybe_ hg (Kd.R_away HO_3.out (fun _ hk => hk))); have n1_ := Aside0.mk (Ag.grown Yba_ hg (Ag.own_ne HI0.out HO_3.out (by decide))); have n2_ := Aside0.mk (below_weaken Ybi_ HL.out hb); have n3_ := Aside0.mk (Bc.trans Yf_ (Bc.Ha hg g) (Kd.R_base2 HO_3.out)); have n4_ := Aside0.mk (ho); clear BK353; clear HI0; clear HB; clear HK; clear HO_3; have BK353 := n0_; have HI0 := n1_; have HB := n2_; have HK := n3_; have HO383 := n4_; clear n0_ n1_ n2_ n3_ n4_; clear ho hb hg hat))
               go_roundg k2
               case measure => have := HK1.out; have := HK2.out; omega
               case rel => exact ⟨(y381), (t379), (t380), H', ⟨by have := HK1.out; have := HK2.out; omega⟩, ⟨by (with_reducible repeat (first | apply Kd.Ap | apply Kd.Am | apply Kd.Ba)); exact HO383.out⟩, ⟨by (with_reducible repeat (first | refine Dn ?_ _ | refine Dv ?_ | refine Dl ?_ _)); exact BK353.out⟩, ⟨by repeat (first | (with_reducible first | exact HI0.out | apply Ag.alloc | apply Ag.drewN | apply Ag.drew | apply Ag.D6 | apply Ag.D5 | refine Ag.far ?_ NB0_353.out _) | exact HI0.out)⟩, ⟨by repeat (first | (with_reducible first | exact HK.out | apply Bc.Et | apply Cf | apply Dh | apply Ci | refine Fe ?_ GW353.out _) | exact HK.out)⟩, ⟨by repeat (first | (with_reducible first | exact HB.out | apply Af | apply Ad | apply Ae | refine Ar ?_ (Ag.ge HI0.out) | refine Ar ?_ GE353.out) | exact HB.out)⟩⟩
              ·rw [if_neg c88] at H
               exact absurd H (by simp)
             ·rw [if_neg c87] at H
              have c87b0 : decide ((x3_2.length : Int) < (wrap64 (20 + t378))) = false := decide_eq_false c87
              clear c87
              by_cases c92 : 0 ≤ t349
              ·rw [if_pos c92] at H
               have c92b0 : decide (0 ≤ t349) = true := decide_eq_true c92
               clear c92
               by_cases c93 : t349 < (x3_2.length : Int)
               ·rw [if_pos c93] at H
                have c93b0 : decide (t349 < (x3_2.length : Int)) = true := decide_eq_true c93
                clear c93
                obtain ⟨y384, hy384⟩ : ∃ y_ : List (S59), y_ = (x3_2.set (t349 : Int).toNat (⟨((Ah x3_1 t349).f0), ((Ah x3_1 t349).f1), ((Ah x3_1 t349).f2)⟩ : S59)) := ⟨_, rfl⟩
                replace H : (some (y384, t379, t380)) = some (r1, r2, r3) := by first | (rw [hy384]; with_reducible exact H) | (have H2_ := (Option.bind_some _ _).symm.trans H; rw [hy384]; with_reducible exact H2_) | (have H2_ := (Option.bind_some _ _).symm.trans H; with_reducible exact H2_) | with_reducible exact H | (rw [hy384]; exact H) | exact H
                have Ny384 := Aside0.mk hy384
                clear hy384
                simp only [Option.some.injEq, Prod.mk.injEq] at H
                obtain ⟨rfl, rfl, rfl⟩ := H
                obtain ⟨Ao95, co95, eo95⟩ := Kd.R_slice HO_3.out
                subst eo95
                go_wp2_with (first | ((with_reducible refine gate_callee (f := 69) rfl ?_); refine goesL_ (some 70) rfl rfl Try.func69 (by kernel_rfl) rfl #[.pointer (some ⟨g, 0, none⟩), .int .i64 2] rfl Yb_ ?_; (with_reducible refine (Dt.calls g s0_0 x1001_2 x1002_2 2 t378 t379 t380 w0 _ ?side1 ?side2 A86.out).mono ?_); (case side1 => repeat (first | (with_reducible first | exact HI0.out | apply Ag.alloc | apply Ag.drewN | apply Ag.drew | apply Ag.D6 | apply Ag.D5 | refine Ag.far ?_ NB0_353.out _) | exact HI0.out)); (case side2 => repeat (first | (with_reducible first | exact HB.out | apply Af | apply Ad | apply Ae | refine Ar ?_ (Ag.ge HI0.out) | refine Ar ?_ GE353.out) | exact HB.out)); rintro e w96 ⟨rfl, hi, hb, hk⟩; refine ⟨_, rfl, ?_⟩; have n0_ := Aside0.mk (Kd.R_mono (Kd.Gh (Ag.apart (show Ag w0 _ g s0_0 x1001_2 x1002_2 from by repeat (first | (with_reducible first | exact HI0.out | apply Ag.alloc | apply Ag.drewN | apply Ag.drew | apply Ag.D6 | apply Ag.D5 | refine Ag.far ?_ NB0_353.out _) | exact HI0.out)) Yg_ (by decide)) hk (fun _ h => h.2)) (fun _ h => h.1)); have n1_ := Aside0.mk (Bc.blk hk (g' := gb353) (o := .cells #[.int .i64 ((Ah x3_1 t349).f0), .int .i64 ((Ah x3_1 t349).f1), .int .i64 ((Ah x3_1 t349).f2)] 59 (0, 0)) Ybe_ NB353_0.out (by simp)); have n2_ := Aside0.mk (Bc.trans Yf_ hk (.inl rfl)); have n3_ := Aside0.mk (hb); have n4_ := Aside0.mk (hi); clear HO_3; clear BK353; clear HK; clear HB; clear HI0; have HO_3 := n0_; have BK353 := n1_; have HK := n2_; have HB := n3_; have HI0 := n4_; clear n0_ n1_ n2_ n3_ n4_; (try clear hb); (try clear hb2); (try clear hk); (try clear hi); have hnb97 := NB353_0.out; have hnc97 := NB0_353.out; have hcz98_0 : w96.cell? ⟨gb353, 0, none⟩ = some (.int .i64 ((Ah x3_1 t349).f0)) := (blk_cell BK353.out 0).trans rfl; have hcz98_1 : w96.cell? ⟨gb353, 1, none⟩ = some (.int .i64 ((Ah x3_1 t349).f1)) := (blk_cell BK353.out 1).trans rfl; have hcz98_2 : w96.cell? ⟨gb353, 2, none⟩ = some (.int .i64 ((Ah x3_1 t349).f2)) := (blk_cell BK353.out 2).trans rfl; have hfz98_0 := blk_frozen BK353.out 0; have hfz98_1 := blk_frozen BK353.out 1; have hfz98_2 := blk_frozen BK353.out 2; have p94 : 0 ≤ (t349 : Int) := of_decide_eq_true Yc_; have q94 : (t349 : Int) < ((x3_2.length : Int) : Int) := of_decide_eq_true Yc_; obtain ⟨go94, co94, eo94, gb94, gl94, cl94, HG94⟩ := Kd.R_form HO_3.out (by omega); (first | cases eo94 | (injection eo94 with ea_ en_ ec_; (first | subst ea_ | (injection ea_ with ea_; subst ea_)); subst ec_; clear en_)); have GB94 := Aside0.mk gb94; have GG94 := Aside0.mk HG94; clear gb94 gl94 HG94; obtain ⟨ce94, hcl94, hM94, hcc94, hfr94⟩ := Kd.Gu HO_3.out z59 (t349 : Int) p94 q94; obtain rfl := Gi hM94; have hx94_0 : w96.cell? ⟨go94, (t349 : Int).toNat * 3, none⟩ = some (.int .i64 ((Ah x3_2 t349).f0)) := hcc94 0 _ rfl; have hx94_1 : w96.cell? ⟨go94, (t349 : Int).toNat * 3 + 1, none⟩ = some (.int .i64 ((Ah x3_2 t349).f1)) := hcc94 1 _ rfl; have hx94_2 : w96.cell? ⟨go94, (t349 : Int).toNat * 3 + 2, none⟩ = some (.int .i64 ((Ah x3_2 t349).f2)) := hcc94 2 _ rfl; have hf94_0 : w96.frozen? ⟨go94, (t349 : Int).toNat * 3, none⟩ = false := hfr94 0; have hf94_1 : w96.frozen? ⟨go94, (t349 : Int).toNat * 3 + 1, none⟩ = false := hfr94 1; have hf94_2 : w96.frozen? ⟨go94, (t349 : Int).toNat * 3 + 2, none⟩ = false := hfr94 2; (try clear hcl94); (try clear hcc94); (try clear hfr94); (try clear hM94); replace p94 := eq_true p94; replace q94 := eq_true q94; have HX99 := Aside0.mk (show Kd.R k59 59 w96 w.heap.size (fun k_ => k_ ≠ gb353) (.slice (some ⟨go94, 0, none⟩) x3_2.length co95) x3_2 from Yg_); obtain ⟨ce99, hcl99, hM99, hcc99, hfr99⟩ := Kd.Gu HX99.out z59 (t349 : Int) (of_decide_eq_true Yc_) (by have h_ : (t349 : Int) < ((x3_2.length : Int) : Int) := of_decide_eq_true Yc_; first | exact h_ | (have e_ := (Kd.R_reads' HO_3.out).1; omega) | simpa using h_); obtain rfl := Gi hM99; have HP99 := Kd.R_seg HX99.out (t349 : Int) (of_decide_eq_true Yc_) (by have h_ : (t349 : Int) < ((x3_2.length : Int) : Int) := of_decide_eq_true Yc_; first | exact h_ | (have e_ := (Kd.R_reads' HO_3.out).1; omega) | simpa using h_) (seg := [.int .i64 ((Ah x3_1 t349).f0), .int .i64 ((Ah x3_1 t349).f1), .int .i64 ((Ah x3_1 t349).f2)]) (j := 0) hcl99 hcc99 (show 3 ≤ 3 from by decide) (x' := (⟨((Ah x3_1 t349).f0), ((Ah x3_1 t349).f1), ((Ah x3_1 t349).f2)⟩ : S59)) (Hy _ _ _ (⟨((Ah x3_1 t349).f0), ((Ah x3_1 t349).f1), ((Ah x3_1 t349).f2)⟩ : S59) ) (fun _ hk => hk); have hx99_0 := hcc99 0 _ rfl; (try simp only [show (k59).sz = 3 from rfl, Nat.mul_one, Nat.add_zero] at hx99_0); have hf99_0 := hfr99 0; (try simp only [show (k59).sz = 3 from rfl, Nat.mul_one, Nat.add_zero] at hf99_0); have hx99_1 := hcc99 1 _ rfl; (try simp only [show (k59).sz = 3 from rfl, Nat.mul_one, Nat.add_zero] at hx99_1); have hf99_1 := hfr99 1; (try simp only [show (k59).sz = 3 from rfl, Nat.mul_one, Nat.add_zero] at hf99_1); have hx99_2 := hcc99 2 _ rfl; (try simp only [show (k59).sz = 3 from rfl, Nat.mul_one, Nat.add_zero] at hx99_2); have hf99_2 := hfr99 2; (try simp only [show (k59).sz = 3 from rfl, Nat.mul_one, Nat.add_zero] at hf99_2); clear hcl99 hcc99 hfr99 hM99) | ((with_reducible refine gate_store (t := 59) (p := 80) rfl ?_); refine store_event (t := 59) (p := 80) (v := ?vo_w100) (w1 := (((w96.setCell ⟨go94, (t349 : Int).toNat * 3, none⟩ (.int .i64 ((Ah x3_1 t349).f0))).setCell ⟨go94, (t349 : Int).toNat * 3 + 1, none⟩ (.int .i64 ((Ah x3_1 t349).f1))).setCell ⟨go94, (t349 : Int).toNat * 3 + 2, none⟩ (.int .i64 ((Ah x3_1 t349).f2)))) ?hg ?ho ?hn ?hr ?_; (case ho => rfl); (case hg => rfl); (case hn => rfl); (case hr => first | (go_simp; done) | (go_simp; rfl)); intro w100 hw; have hg : w96.grownBy w100 (some go94) := (by rw [hw]; exact HP99.2); have hp_ : Kd.R k59 59 w100 w.heap.size (fun k_ => k_ ≠ gb353) (.slice (some ⟨go94, 0, none⟩) x3_2.length co95) y384 := (by rw [hw, Ny384.out]; exact HP99.1); clear HP99; have n0_ := Aside0.mk (hp_); have n1_ := Aside0.mk (H8 (g := gb353) (o := .cells #[.int .i64 ((Ah x3_1 t349).f0), .int .i64 ((Ah x3_1 t349).f1), .int .i64 ((Ah x3_1 t349).f2)] 59 (0, 0)) Ybe_ hg (Kd.R_away HO_3.out (fun _ hk => hk))); have n2_ := Aside0.mk (Ag.grown Yba_ hg (Ag.own_ne HI0.out HO_3.out (by decide))); have n3_ := Aside0.mk ((by rw [hw]; exact Ar (Ar (Ar (HB.out) (Nat.le_trans HL.out GB94.out)) (Nat.le_trans HL.out GB94.out)) (Nat.le_trans HL.out GB94.out) : Below w0.heap.size w0 w100)); have n4_ := Aside0.mk (Bc.trans Yf_ (Bc.Ha hg g) (Kd.R_base2 HO_3.out)); clear HO_3; clear BK353; clear HI0; clear HB; clear HK; have HO_3 := n0_; have BK353 := n1_; have HI0 := n2_; have HB := n3_; have HK := n4_; clear n0_ n1_ n2_ n3_ n4_; clear hg hw hp_))
                go_ret
                exact ⟨_, by first | rfl | (simp [Aw, Az] <;> rfl) | (simp [*, Aw, Az] <;> rfl), by (with_reducible repeat (first | apply Kd.Ap | apply Kd.Am | apply Kd.Ba)); exact Kd.R_mono HO_3.out (fun _ hk => trivial), by repeat (first | (with_reducible first | exact HI0.out | apply Ag.alloc | apply Ag.drewN | apply Ag.drew | apply Ag.D6 | apply Ag.D5 | refine Ag.far ?_ NB0_353.out _) | exact HI0.out), by repeat (first | (with_reducible first | exact HB.out | apply Af | apply Ad | apply Ae | refine Ar ?_ (Ag.ge HI0.out) | refine Ar ?_ GE353.out) | exact HB.out), by repeat (first | (with_reducible first | exact HK.out | apply Bc.Et | apply Cf | apply Dh | apply Ci | refine Fe ?_ GW353.out _) | exact HK.out)⟩
               ·rw [if_neg c93] at H
                exact absurd H (by simp)
              ·rw [if_neg c92] at H
               exact absurd H (by simp)
          ·rw [if_neg c79] at H
           have c79b0 : (t354 == 3) = false := beq_eq_false_iff_ne.mpr c79
           have c79b1 : (t354 != 3) = true := bne_iff_ne.mpr c79
           obtain ⟨y385, hy385⟩ : ∃ y_ : List (S59), y_ = (x3_1.set (t349 : Int).toNat (⟨(Ah x3_1 t349).f0, (Ah x3_1 t349).f1, (Ah x3_1 t349).f2⟩ : S59)) := ⟨_, rfl⟩
           replace H : (some (y385, t355, t356)) = some (r1, r2, r3) := by first | (rw [hy385]; with_reducible exact H) | (have H2_ := (Option.bind_some _ _).symm.trans H; rw [hy385]; with_reducible exact H2_) | (have H2_ := (Option.bind_some _ _).symm.trans H; with_reducible exact H2_) | with_reducible exact H | (rw [hy385]; exact H) | exact H
           have Ny385 := Aside0.mk hy385
           clear hy385
           simp only [Option.some.injEq, Prod.mk.injEq] at H
           obtain ⟨rfl, rfl, rfl⟩ := H
           obtain ⟨Ao102, co102, eo102⟩ := Kd.R_slice HO_3.out
           subst eo102
           go_wp2_with (first | ((with_reducible refine gate_callee (f := 69) rfl ?_); refine goesL_ (some 37) rfl rfl Try.func69 (by kernel_rfl) rfl #[.pointer (some ⟨g, 0, none⟩), .int .i64 (x3_1.length : Int)] rfl Yb_ ?_; (with_reducible refine (Dt.calls g s0_0 x1001_1 x1002_1 (x3_1.length : Int) t349 t350 t351 w0 _ ?side1 ?side2 A20.out).mono ?_); (case side1 => repeat (first | (with_reducible first | exact HI0.out | apply Ag.alloc | apply Ag.drewN | apply Ag.drew | apply Ag.D6 | apply Ag.D5) | exact HI0.out)); (case side2 => repeat (first | (with_reducible first | exact HB.out | apply Af | apply Ad | apply Ae | refine Ar ?_ (Ag.ge HI0.out)) | exact HB.out)); rintro e w103 ⟨rfl, hi, hb, hk⟩; refine ⟨_, rfl, ?_⟩; have n0_ := Aside0.mk (Kd.R_mono (Kd.Gh (Ag.apart (show Ag w0 _ g s0_0 x1001_1 x1002_1 from by repeat (first | (with_reducible first | exact HI0.out | apply Ag.alloc | apply Ag.drewN | apply Ag.drew | apply Ag.D6 | apply Ag.D5) | exact HI0.out)) Yg_ (by decide)) hk (fun _ h => h.2)) (fun _ h => h.1)); have n1_ := Aside0.mk (Bc.trans Ye_ hk (.inl rfl)); have n2_ := Aside0.mk (hb); have n3_ := Aside0.mk (hi); clear HO_3; clear HK; clear HB; clear HI0; have HO_3 := n0_; have HK := n1_; have HB := n2_; have HI0 := n3_; clear n0_ n1_ n2_ n3_; (try clear hb); (try clear hb2); (try clear hk); (try clear hi); have p352 : 0 ≤ (t349 : Int) := of_decide_eq_true Yc_; have q352 : t349 < (x3_1.length : Int) := of_decide_eq_true Yc_; obtain ⟨ad352, e352, hx352_0, hx352_1, hx352_2⟩ := Ez (Kd.R_reads' HO_3.out).2.2 t349 p352 q352; cases e352; replace p352 := eq_true p352; replace q352 := eq_true q352) | ((with_reducible refine gate_dst (N := 7) rfl ?_); refine box_event ?hg (N := 7) ?hd (cs := #[.int .i64 0, .int .i64 0, .int .i64 0]) (t := 59) ?hr ?_; (case hd => rfl); (case hg => rfl); (case hr => first | (go_simp; done) | (go_simp; rfl)); intro gb353 hg w104 hbox hb; have n0_ := Aside0.mk (Kd.R_below (Kd.R_elderB Yg_ gb353 (Nat.le_of_eq hg.symm)) hb); have n1_ := Aside0.mk (Ag.below Ybf_ hb); have n2_ := Aside0.mk (Bc.trans Ye_ (Bc.of_below hb g none) (.inl rfl)); have n3_ := Aside0.mk (below_step Ybj_ hb); have n4_ := Aside0.mk (hbox); have n5_ := Aside0.mk ((by rw [hg]; exact (Gp (w := w) (g := g) (row := none) Ye_) : w.heap.size ≤ gb353)); have n6_ := Aside0.mk ((Nat.le_trans HW0.out (by rw [hg]; exact (Gp (w := w) (g := g) (row := none) Ye_) : w.heap.size ≤ gb353) : w0.heap.size ≤ gb353)); have n7_ := Aside0.mk ((by rw [hg]; exact Nat.ne_of_lt (Ag.lt (show Ag w0 _ g s0_0 t350 t351 from by repeat (first | (with_reducible first | exact HI0.out | apply Ag.alloc | apply Ag.drewN | apply Ag.drew | apply Ag.D6 | apply Ag.D5) | exact HI0.out))) : g ≠ gb353)); have n8_ := Aside0.mk ((by rw [hg]; exact Nat.ne_of_gt (Ag.lt (show Ag w0 _ g s0_0 t350 t351 from by repeat (first | (with_reducible first | exact HI0.out | apply Ag.alloc | apply Ag.drewN | apply Ag.drew | apply Ag.D6 | apply Ag.D5) | exact HI0.out))) : gb353 ≠ g)); clear HO_3; clear HI0; clear HK; clear HB; have HO_3 := n0_; have HI0 := n1_; have HK := n2_; have HB := n3_; have BK353 := n4_; have GW353 := n5_; have GE353 := n6_; have NB0_353 := n7_; have NB353_0 := n8_; clear n0_ n1_ n2_ n3_ n4_ n5_ n6_ n7_ n8_; clear hb hbox hg; have hnb105 := NB353_0.out; have hnc105 := NB0_353.out; have hcz106_0 : w104.cell? ⟨gb353, 0, none⟩ = some (.int .i64 0) := (blk_cell BK353.out 0).trans rfl; have hcz106_1 : w104.cell? ⟨gb353, 1, none⟩ = some (.int .i64 0) := (blk_cell BK353.out 1).trans rfl; have hcz106_2 : w104.cell? ⟨gb353, 2, none⟩ = some (.int .i64 0) := (blk_cell BK353.out 2).trans rfl; have hfz106_0 := blk_frozen BK353.out 0; have hfz106_1 := blk_frozen BK353.out 1; have hfz106_2 := blk_frozen BK353.out 2) | ((with_reducible refine gate_callee (f := 69) rfl ?_); refine goesL_ (some 43) rfl rfl Try.func69 (by kernel_rfl) rfl #[.pointer (some ⟨g, 0, none⟩), .int .i64 40] rfl Yb_ ?_; (with_reducible refine (Dt.calls g s0_0 t350 t351 40 t354 t355 t356 w0 _ ?side1 ?side2 A23.out).mono ?_); (case side1 => repeat (first | (with_reducible first | exact HI0.out | apply Ag.alloc | apply Ag.drewN | apply Ag.drew | apply Ag.D6 | apply Ag.D5 | refine Ag.far ?_ NB0_353.out _) | exact HI0.out)); (case side2 => repeat (first | (with_reducible first | exact HB.out | apply Af | apply Ad | apply Ae | refine Ar ?_ (Ag.ge HI0.out) | refine Ar ?_ GE353.out) | exact HB.out)); rintro e w107 ⟨rfl, hi, hb, hk⟩; refine ⟨_, rfl, ?_⟩; have n0_ := Aside0.mk (Kd.R_mono (Kd.Gh (Ag.apart (show Ag w0 _ g s0_0 t350 t351 from by repeat (first | (with_reducible first | exact HI0.out | apply Ag.alloc | apply Ag.drewN | apply Ag.drew | apply Ag.D6 | apply Ag.D5 | refine Ag.far ?_ NB0_353.out _) | exact HI0.out)) Ybb_ (by decide)) hk (fun _ h => h.2)) (fun _ h => h.1)); have n1_ := Aside0.mk (Bc.blk hk (g' := gb353) (o := .cells #[.int .i64 ((Ah x3_1 t349).f0), .int .i64 ((Ah x3_1 t349).f1), .int .i64 ((Ah x3_1 t349).f2)] 59 (0, 0)) Yi_ NB353_0.out (by simp)); have n2_ := Aside0.mk (Bc.trans Yf_ hk (.inl rfl)); have n3_ := Aside0.mk (hb); have n4_ := Aside0.mk (hi); clear HO_3; clear BK353; clear HK; clear HB; clear HI0; have HO_3 := n0_; have BK353 := n1_; have HK := n2_; have HB := n3_; have HI0 := n4_; clear n0_ n1_ n2_ n3_ n4_; (try clear hb); (try clear hb2); (try clear hk); (try clear hi); have hcz108_0 : w107.cell? ⟨gb353, 0, none⟩ = some (.int .i64 ((Ah x3_1 t349).f0)) := (blk_cell BK353.out 0).trans rfl; have hcz108_1 : w107.cell? ⟨gb353, 1, none⟩ = some (.int .i64 ((Ah x3_1 t349).f1)) := (blk_cell BK353.out 1).trans rfl; have hcz108_2 : w107.cell? ⟨gb353, 2, none⟩ = some (.int .i64 ((Ah x3_1 t349).f2)) := (blk_cell BK353.out 2).trans rfl; have hfz108_0 := blk_frozen BK353.out 0; have hfz108_1 := blk_frozen BK353.out 1; have hfz108_2 := blk_frozen BK353.out 2; have p101 : 0 ≤ (t349 : Int) := of_decide_eq_true Yc_; have q101 : (t349 : Int) < ((x3_1.length : Int) : Int) := of_decide_eq_true Yc_; obtain ⟨go101, co101, eo101, gb101, gl101, cl101, HG101⟩ := Kd.R_form HO_3.out (by omega); (first | cases eo101 | (injection eo101 with ea_ en_ ec_; (first | subst ea_ | (injection ea_ with ea_; subst ea_)); subst ec_; clear en_)); have GB101 := Aside0.mk gb101; have GG101 := Aside0.mk HG101; clear gb101 gl101 HG101; (first | simp only [add_plain] at hx352_0 | skip); (first | simp only [add_plain] at hx352_1 | skip); (first | simp only [add_plain] at hx352_2 | skip); obtain ⟨ce101, hcl101, hM101, hcc101, hfr101⟩ := Kd.Gu HO_3.out z59 (t349 : Int) p101 q101; obtain rfl := Gi hM101; have hx101_0 : w107.cell? ⟨go101, (t349 : Int).toNat * 3, none⟩ = some (.int .i64 ((Ah x3_1 t349).f0)) := hcc101 0 _ rfl; have hx101_1 : w107.cell? ⟨go101, (t349 : Int).toNat * 3 + 1, none⟩ = some (.int .i64 ((Ah x3_1 t349).f1)) := hcc101 1 _ rfl; have hx101_2 : w107.cell? ⟨go101, (t349 : Int).toNat * 3 + 2, none⟩ = some (.int .i64 ((Ah x3_1 t349).f2)) := hcc101 2 _ rfl; have hf101_0 : w107.frozen? ⟨go101, (t349 : Int).toNat * 3, none⟩ = false := hfr101 0; have hf101_1 : w107.frozen? ⟨go101, (t349 : Int).toNat * 3 + 1, none⟩ = false := hfr101 1; have hf101_2 : w107.frozen? ⟨go101, (t349 : Int).toNat * 3 + 2, none⟩ = false := hfr101 2; (try clear hcl101); (try clear hcc101); (try clear hfr101); (try clear hM101); replace p101 := eq_true p101; replace q101 := eq_true q101; have n_ := Aside0.mk (Kd.R_mono (ok' := (fun k_ => k_ ≠ gb353)) HO_3.out (fun k_ hk => hk.2)); clear HO_3; have HO_3 := n_; clear n_; have HX109 := Aside0.mk (show Kd.R k59 59 w107 w.heap.size (fun k_ => k_ ≠ gb353) (.slice (some ⟨go101, 0, none⟩) x3_1.length co102) x3_1 from Yg_); obtain ⟨ce109, hcl109, hM109, hcc109, hfr109⟩ := Kd.Gu HX109.out z59 (t349 : Int) (of_decide_eq_true Yc_) (by have h_ : (t349 : Int) < ((x3_1.length : Int) : Int) := of_decide_eq_true Yc_; first | exact h_ | (have e_ := (Kd.R_reads' HO_3.out).1; omega) | simpa using h_); obtain rfl := Gi hM109; have HP109 := Kd.R_seg HX109.out (t349 : Int) (of_decide_eq_true Yc_) (by have h_ : (t349 : Int) < ((x3_1.length : Int) : Int) := of_decide_eq_true Yc_; first | exact h_ | (have e_ := (Kd.R_reads' HO_3.out).1; omega) | simpa using h_) (seg := [.int .i64 ((Ah x3_1 t349).f0), .int .i64 ((Ah x3_1 t349).f1), .int .i64 ((Ah x3_1 t349).f2)]) (j := 0) hcl109 hcc109 (show 3 ≤ 3 from by decide) (x' := (⟨(Ah x3_1 t349).f0, (Ah x3_1 t349).f1, (Ah x3_1 t349).f2⟩ : S59)) (Hy _ _ _ (⟨(Ah x3_1 t349).f0, (Ah x3_1 t349).f1, (Ah x3_1 t349).f2⟩ : S59) ) (fun _ hk => hk); have hx109_0 := hcc109 0 _ rfl; (try simp only [show (k59).sz = 3 from rfl, Nat.mul_one, Nat.add_zero] at hx109_0); have hf109_0 := hfr109 0; (try simp only [show (k59).sz = 3 from rfl, Nat.mul_one, Nat.add_zero] at hf109_0); have hx109_1 := hcc109 1 _ rfl; (try simp only [show (k59).sz = 3 from rfl, Nat.mul_one, Nat.add_zero] at hx109_1); have hf109_1 := hfr109 1; (try simp only [show (k59).sz = 3 from rfl, Nat.mul_one, Nat.add_zero] at hf109_1); have hx109_2 := hcc109 2 _ rfl; (try simp only [show (k59).sz = 3 from rfl, Nat.mul_one, Nat.add_zero] at hx109_2); have hf109_2 := hfr109 2; (try simp only [show (k59).sz = 3 from rfl, Nat.mul_one, Nat.add_zero] at hf109_2); clear hcl109 hcc109 hfr109 hM109) | ((with_reducible refine gate_store (t := 59) (p := 80) rfl ?_); refine store_event (t := 59) (p := 80) (v := ?vo_w110) (w1 := (((w107.setCell ⟨go101, (t349 : Int).toNat * 3, none⟩ (.int .i64 ((Ah x3_1 t349).f0))).setCell ⟨go101, (t349 : Int).toNat * 3 + 1, none⟩ (.int .i64 ((Ah x3_1 t349).f1))).setCell ⟨go101, (t349 : Int).toNat * 3 + 2, none⟩ (.int .i64 ((Ah x3_1 t349).f2)))) ?hg ?ho ?hn ?hr ?_; (case ho => rfl); (case hg => rfl); (case hn => rfl); (case hr => first | (go_simp; done) | (go_simp; rfl)); intro w110 hw; have hg : w107.grownBy w110 (some go101) := (by rw [hw]; exact HP109.2); have hp_ : Kd.R k59 59 w110 w.heap.size (fun k_ => k_ ≠ gb353) (.slice (some ⟨go101, 0, none⟩) x3_1.length co102) y385 := (by rw [hw, Ny385.out]; exact HP109.1); clear HP109; have n0_ := Aside0.mk (hp_); have n1_ := Aside0.mk (Ag.grown Yba_ hg (Ag.own_ne HI0.out HO_3.out (by decide))); have n2_ := Aside0.mk (H8 (g := gb353) (o := .cells #[.int .i64 ((Ah x3_1 t349).f0), .int .i64 ((Ah x3_1 t349).f1), .int .i64 ((Ah x3_1 t349).f2)] 59 (0, 0)) Ybe_ hg (Kd.R_away HO_3.out (fun _ hk => hk))); have n3_ := Aside0.mk ((by rw [hw]; exact Ar (Ar (Ar (HB.out) (Nat.le_trans HL.out GB101.out)) (Nat.le_trans HL.out GB101.out)) (Nat.le_trans HL.out GB101.out) : Below w0.heap.size w0 w110)); have n4_ := Aside0.mk (Bc.trans Yf_ (Bc.Ha hg g) (Kd.R_base2 HO_3.out)); clear HO_3; clear HI0; clear BK353; clear HB; clear HK; have HO_3 := n0_; have HI0 := n1_; have BK353 := n2_; have HB := n3_; have HK := n4_; clear n0_ n1_ n2_ n3_ n4_; clear hg hw hp_))
           go_ret
           exact ⟨_, by first | rfl | (simp [Aw, Az] <;> rfl) | (simp [*, Aw, Az] <;> rfl), by (with_reducible repeat (first | apply Kd.Ap | apply Kd.Am | apply Kd.Ba)); exact Kd.R_mono HO_3.out (fun _ hk => trivial), by repeat (first | (with_reducible first | exact HI0.out | apply Ag.alloc | apply Ag.drewN | apply Ag.drew | apply Ag.D6 | apply Ag.D5 | refine Ag.far ?_ NB0_353.out _) | exact HI0.out), by repeat (first | (with_reducible first | exact HB.out | apply Af | apply Ad | apply Ae | refine Ar ?_ (Ag.ge HI0.out) | refine Ar ?_ GE353.out) | exact HB.out), by repeat (first | (with_reducible first | exact HK.out | apply Bc.Et | apply Cf | apply Dh | apply Ci | refine Fe ?_ GW353.out _) | exact HK.out)⟩
      ·rw [if_neg c22] at H
       exact absurd H (by simp)
     ·rw [if_neg c21] at H
      exact absurd H (by simp)
end Go.Proofs.Ytolaplcjbmjlmaa.X

namespace Go.Proofs.Ytolaplcjbmjlmaa.X
open Go.RowKit Go.Proofs.YtolaplcjbmjlmaaW.PrintWords Go.Proofs.YtolaplcjbmjlmaaW.PrintLast Go.Proofs.YtolaplcjbmjlmaaW.PrintMore
attribute [local go_sem] max2_int min2_int max_two min_two max_three min_three max_four min_four
def Eh.f (k : Nat) (l0 : List Int) : Option ((List (S59))) := (Bo.f k l0 0 0).bind fun bt387 => (some bt387.1)
theorem Eh.mono : ∀ a0 k, LeO (Eh.f k a0) (Eh.f (k + 1) a0) := by
 intro a0 k
 unfold Eh.f
 repeat' first
   | (with_reducible exact Bo.mono _ _ _ _)
   | (with_reducible exact LeO.refl _)
   | (with_reducible exact LeO.none _)
   | (with_reducible refine LeO.ite ?_ ?_)
   | (with_reducible refine LeO.bind ?_ (fun _ => ?_))
   | exact Bo.mono _ _ _ _
   | exact LeO.none _
   | refine LeO.ite ?_ ?_
   | refine LeO.bind ?_ (fun _ => ?_)
set_option maxHeartbeats 8000000 in
set_option maxRecDepth 100000 in
theorem Eh.calls (k : Nat) (A0 : Option Addr) (c0 : Nat) (l0 : List Int) (r : List (S59)) (w : World) (hr0 : Kd.C (Kd.int .u8) w A0 l0.length l0) (hc0 : l0.length ≤ c0) (h : Eh.f k l0 = some r) :
  Calls Try.prog 66 #[.slice A0 l0.length c0] w fun e w' => ∃ v0_ : Value, e = .returned (v0_) ∧ Kd.R k59 59 w' w.heap.size (fun _ => True) v0_ r ∧ Below w.heap.size w w' := by
 have hu73 := Try.underlying73
 have HR0 := Aside0.mk hr0
 have HC0 := Aside0.mk hc0
 clear hr0 hc0
 have HB := Aside0.mk (Below.refl w.heap.size w)
 have H : ((Bo.f k l0 0 0).bind fun bt387 => (some bt387.1)) = some r := h
 clear h
 replace H := Option.bind_eq_some_iff.mp H
 obtain ⟨⟨t387, t390, t391⟩, A20, H⟩ := H
 replace H : (some t387) = some r := H
 have A2 := Aside0.mk A20
 clear A20
 obtain rfl := Option.some.inj H
 go_enter Try.func66, Try.ntmps66
 go_wp2_with (first | ((with_reducible refine gate_dst (N := 6) rfl ?_); refine box_event ?hg (N := 6) ?hd (cs := #[.slice A0 l0.length c0, .int .i64 0, .int .u64 0]) (t := 73) ?hr ?_; (case hd => rfl); (case hg => rfl); (case hr => first | (go_simp; done) | (go_simp; rfl)); intro gb0 hg w3 hbox hb; have n0_ := Aside0.mk (below_step Ya_ hb); have n1_ := Aside0.mk ((by rw [hg]; exact (below_size Ya_) : w.heap.size ≤ gb0)); have n2_ := Aside0.mk ((by rw [hg]; exact (below_size Ya_) : w.heap.size ≤ gb0)); have n3_ := Aside0.mk ((⟨_, _, hbox, (by rw [hg]; exact (below_size Ya_)), HR0.out⟩ : Ag w w3 gb0 l0 0 0)); clear HB; have HB := n0_; have GW0 := n1_; have GE0 := n2_; have HI386 := n3_; clear n0_ n1_ n2_ n3_; clear hb hbox hg) | ((with_reducible refine gate_callee (f := 67) rfl ?_); refine goesL_ (some 8) rfl rfl Try.func67 (by kernel_rfl) rfl #[.pointer (some ⟨gb0, 0, none⟩)] rfl Yb_ ?_; (with_reducible refine (Bo.calls k gb0 l0 0 0 t387 t390 t391 w _ ?side1 ?side2 A2.out).mono ?_); (case side1 => repeat (first | (with_reducible first | exact HI386.out | apply Ag.alloc | apply Ag.drewN | apply Ag.drew | apply Ag.D6 | apply Ag.D5) | exact HI386.out)); (case side2 => repeat (first | (with_reducible first | exact HB.out | apply Af | apply Ad | apply Ae | refine Ar ?_ (Ag.ge HI386.out)) | exact HB.out)); rintro e w4 ⟨v388, rfl, ho0, hi, hb, hk⟩; refine ⟨_, rfl, ?_⟩; have n0_ := Aside0.mk (Kd.R_lower ho0 (below_size (by repeat (first | (with_reducible first | exact HB.out | apply Af | apply Ad | apply Ae | refine Ar ?_ (Ag.ge HI386.out)) | exact HB.out)))); have n1_ := Aside0.mk (hb); have n2_ := Aside0.mk (hi); clear HB; clear HI386; have HO389 := n0_; have HB := n1_; have HI386 := n2_; clear n0_ n1_ n2_; (try clear hb); (try clear hb2); (try clear hk); (try clear hi); (try clear ho0)))
 go_ret
 exact ⟨_, by first | rfl | (simp [Aw, Az] <;> rfl) | (simp [*, Aw, Az] <;> rfl), by (with_reducible repeat (first | apply Kd.Ap | apply Kd.Am | apply Kd.Ba)); exact HO389.out, by repeat (first | (with_reducible first | exact HB.out | apply Af | apply Ad | apply Ae | refine Ar ?_ (Ag.ge HI386.out)) | exact HB.out)⟩
end Go.Proofs.Ytolaplcjbmjlmaa.X

namespace Go.Proofs.Ytolaplcjbmjlmaa.X
open Go.RowKit Go.Proofs.YtolaplcjbmjlmaaW.PrintWords Go.Proofs.YtolaplcjbmjlmaaW.PrintLast Go.Proofs.YtolaplcjbmjlmaaW.PrintMore
attribute [local go_sem] max2_int min2_int max_two min_two max_three min_three max_four min_four
def D8.f (k : Nat) (l0 : List Int) : Option ((List (S59))) := (Eh.f k l0).bind fun t741 => (some t741)
theorem D8.mono : ∀ a0 k, LeO (D8.f k a0) (D8.f (k + 1) a0) := by
 intro a0 k
 unfold D8.f
 repeat' first
   | (with_reducible exact Eh.mono _ _)
   | (with_reducible exact LeO.refl _)
   | (with_reducible exact LeO.none _)
   | (with_reducible refine LeO.ite ?_ ?_)
   | (with_reducible refine LeO.bind ?_ (fun _ => ?_))
   | exact Eh.mono _ _
   | exact LeO.none _
   | refine LeO.ite ?_ ?_
   | refine LeO.bind ?_ (fun _ => ?_)
set_option maxHeartbeats 8000000 in
set_option maxRecDepth 100000 in
theorem D8.calls (k : Nat) (A0 : Option Addr) (c0 : Nat) (l0 : List Int) (r : List (S59)) (w : World) (hr0 : Kd.C (Kd.int .u8) w A0 l0.length l0) (hc0 : l0.length ≤ c0) (h : D8.f k l0 = some r) :
  Calls Try.prog 47 #[.slice A0 l0.length c0] w fun e w' => ∃ v0_ : Value, e = .returned (v0_) ∧ Kd.R k59 59 w' w.heap.size (fun _ => True) v0_ r ∧ Below w.heap.size w w' := by
 have HR0 := Aside0.mk hr0
 have HC0 := Aside0.mk hc0
 clear hr0 hc0
 have HB := Aside0.mk (Below.refl w.heap.size w)
 have H : ((Eh.f k l0).bind fun t741 => (some t741)) = some r := h
 clear h
 replace H := Option.bind_eq_some_iff.mp H
 obtain ⟨t741, A20, H⟩ := H
 replace H : (some t741) = some r := H
 have A2 := Aside0.mk A20
 clear A20
 obtain rfl := Option.some.inj H
 go_enter Try.func47, Try.ntmps47
 go_wp2_with (first | ((with_reducible refine gate_callee (f := 66) rfl ?_); refine goesL_ (some 4) rfl rfl Try.func66 (by kernel_rfl) rfl #[.slice A0 l0.length c0] rfl Yb_ ?_; (with_reducible refine (Eh.calls k _ _ l0 t741 _ ?side1 ?side2 A2.out).mono ?_); (case side1 => repeat (first | exact HR0.out | (with_reducible refine Kd.Be ?_ _) | (with_reducible refine Kd.Bf ?_ _) | (with_reducible refine Kd.Bh ?_))); (case side2 => exact HC0.out); rintro e w3 ⟨v742, rfl, ho0, hb⟩; refine ⟨_, rfl, ?_⟩; have n0_ := Aside0.mk (Kd.R_lower ho0 (below_size Ya_)); have n1_ := Aside0.mk (below_step Ya_ hb); clear HB; have HO743 := n0_; have HB := n1_; clear n0_ n1_; (try clear hb); (try clear hb2); (try clear hk); (try clear hi); (try clear ho0)))
 go_ret
 exact ⟨_, by first | rfl | (simp [Aw, Az] <;> rfl) | (simp [*, Aw, Az] <;> rfl), by (with_reducible repeat (first | apply Kd.Ap | apply Kd.Am | apply Kd.Ba)); exact HO743.out, by repeat (first | (with_reducible first | exact HB.out | apply Af | apply Ad | apply Ae) | exact HB.out)⟩
end Go.Proofs.Ytolaplcjbmjlmaa.X

namespace Go.Proofs.Ytolaplcjbmjlmaa.X
open Go.RowKit Go.Proofs.YtolaplcjbmjlmaaW.PrintWords Go.Proofs.YtolaplcjbmjlmaaW.PrintLast Go.Proofs.YtolaplcjbmjlmaaW.PrintMore
attribute [local go_sem] max2_int min2_int max_two min_two max_three min_three max_four min_four
def Dz.f (k : Nat) (l0 : List Int) : Option ((List (S59))) := (Eh.f k l0).bind fun t744 => (some t744)
theorem Dz.mono : ∀ a0 k, LeO (Dz.f k a0) (Dz.f (k + 1) a0) := by
 intro a0 k
 unfold Dz.f
 repeat' first
   | (with_reducible exact Eh.mono _ _)
   | (with_reducible exact LeO.refl _)
   | (with_reducible exact LeO.none _)
   | (with_reducible refine LeO.ite ?_ ?_)
   | (with_reducible refine LeO.bind ?_ (fun _ => ?_))
   | exact Eh.mono _ _
   | exact LeO.none _
   | refine LeO.ite ?_ ?_
   | refine LeO.bind ?_ (fun _ => ?_)
set_option maxHeartbeats 8000000 in
set_option maxRecDepth 100000 in
theorem Dz.calls (k : Nat) (A0 : Option Addr) (c0 : Nat) (l0 : List Int) (r : List (S59)) (w : World) (hr0 : Kd.C (Kd.int .u8) w A0 l0.length l0) (hc0 : l0.length ≤ c0) (h : Dz.f k l0 = some r) :
  Calls Try.prog 48 #[.slice A0 l0.length c0] w fun e w' => ∃ v0_ : Value, e = .returned (v0_) ∧ Kd.R k59 59 w' w.heap.size (fun _ => True) v0_ r ∧ Below w.heap.size w w' := by
 have HR0 := Aside0.mk hr0
 have HC0 := Aside0.mk hc0
 clear hr0 hc0
 have HB := Aside0.mk (Below.refl w.heap.size w)
 have H : ((Eh.f k l0).bind fun t744 => (some t744)) = some r := h
 clear h
 replace H := Option.bind_eq_some_iff.mp H
 obtain ⟨t744, A20, H⟩ := H
 replace H : (some t744) = some r := H
 have A2 := Aside0.mk A20
 clear A20
 obtain rfl := Option.some.inj H
 go_enter Try.func48, Try.ntmps48
 go_wp2_with (first | ((with_reducible refine gate_callee (f := 66) rfl ?_); refine goesL_ (some 4) rfl rfl Try.func66 (by kernel_rfl) rfl #[.slice A0 l0.length c0] rfl Yb_ ?_; (with_reducible refine (Eh.calls k _ _ l0 t744 _ ?side1 ?side2 A2.out).mono ?_); (case side1 => repeat (first | exact HR0.out | (with_reducible refine Kd.Be ?_ _) | (with_reducible refine Kd.Bf ?_ _) | (with_reducible refine Kd.Bh ?_))); (case side2 => exact HC0.out); rintro e w3 ⟨v745, rfl, ho0, hb⟩; refine ⟨_, rfl, ?_⟩; have n0_ := Aside0.mk (Kd.R_lower ho0 (below_size Ya_)); have n1_ := Aside0.mk (below_step Ya_ hb); clear HB; have HO746 := n0_; have HB := n1_; clear n0_ n1_; (try clear hb); (try clear hb2); (try clear hk); (try clear hi); (try clear ho0)))
 go_ret
 exact ⟨_, by first | rfl | (simp [Aw, Az] <;> rfl) | (simp [*, Aw, Az] <;> rfl), by (with_reducible repeat (first | apply Kd.Ap | apply Kd.Am | apply Kd.Ba)); exact HO746.out, by repeat (first | (with_reducible first | exact HB.out | apply Af | apply Ad | apply Ae) | exact HB.out)⟩
end Go.Proofs.Ytolaplcjbmjlmaa.X

namespace Go.Proofs.Ytolaplcjbmjlmaa.X
open Go.RowKit Go.Proofs.YtolaplcjbmjlmaaW.PrintWords Go.Proofs.YtolaplcjbmjlmaaW.PrintLast Go.Proofs.YtolaplcjbmjlmaaW.PrintMore
attribute [local go_sem] max2_int min2_int max_two min_two max_three min_three max_four min_four
def Du.l0 : Nat → List Int → List Int → Int → Option (Bool)
 | 0, _, _, _ => none
 | k + 1, x0, x1, x5 => if x5 < (x0.length : Int) then (if 0 ≤ x5 then (if x5 < (x1.length : Int) then (if (rd x0 x5) = (rd x1 x5) then (Du.l0 k x0 x1 (wrap64 (x5 + 1))) else (some false)) else (none)) else (none)) else (some true)
def Du.f (k : Nat) (l0 : List Int) (l1 : List Int) : Option (Bool) := if (l0.length : Int) = (l1.length : Int) then (Du.l0 k l0 l1 0) else (some false)
theorem Du.Dq : ∀ k, (∀ y0 y1 y2, LeO (Du.l0 k y0 y1 y2) (Du.l0 (k + 1) y0 y1 y2))
 | 0 => fun _ _ _ r h => by simp [Du.l0] at h
 | k + 1 => by
  have ih0 := Du.Dq k
  ·intro y0 y1 y2
   unfold Du.l0
   repeat' first
   | (with_reducible exact ih0 _ _ _)
   | (with_reducible exact LeO.refl _)
   | (with_reducible exact LeO.none _)
   | (with_reducible refine LeO.ite ?_ ?_)
   | (with_reducible refine LeO.bind ?_ (fun _ => ?_))
   | exact ih0 _ _ _
   | exact LeO.none _
   | refine LeO.ite ?_ ?_
   | refine LeO.bind ?_ (fun _ => ?_)
theorem Du.mono : ∀ a0 a1 k, LeO (Du.f k a0 a1) (Du.f (k + 1) a0 a1) := by
 intro a0 a1 k
 have ih0 := Du.Dq k
 unfold Du.f
 repeat' first
   | (with_reducible exact ih0 _ _ _)
   | (with_reducible exact LeO.refl _)
   | (with_reducible exact LeO.none _)
   | (with_reducible refine LeO.ite ?_ ?_)
   | (with_reducible refine LeO.bind ?_ (fun _ => ?_))
   | exact ih0 _ _ _
   | exact LeO.none _
   | refine LeO.ite ?_ ?_
   | refine LeO.bind ?_ (fun _ => ?_)
set_option maxHeartbeats 8000000 in
set_option maxRecDepth 100000 in
theorem Du.calls (k : Nat) (A0 : Option Addr) (c0 : Nat) (l0 : List Int) (A1 : Option Addr) (c1 : Nat) (l1 : List Int) (r : Bool) (w : World) (hr0 : Kd.C (Kd.int .i64) w A0 l0.length l0) (hc0 : l0.length ≤ c0) (hr1 : Kd.C (Kd.int .i64) w A1 l1.length l1) (hc1 : l1.length ≤ c1) (h : Du.f k l0 l1 = some r) :
  Calls Try.prog 51 #[.slice A0 l0.length c0, .slice A1 l1.length c1] w fun e w' => e = .returned (.bool r) ∧ Drawn0 w w' := by
 have HR0 := Aside0.mk hr0
 have HC0 := Aside0.mk hc0
 clear hr0 hc0
 have HR1 := Aside0.mk hr1
 have HC1 := Aside0.mk hc1
 clear hr1 hc1
 have H : (if (l0.length : Int) = (l1.length : Int) then (Du.l0 k l0 l1 0) else (some false)) = some r := h
 clear h
 by_cases c3 : (l0.length : Int) = (l1.length : Int)
 ·rw [if_pos c3] at H
  have c3b0 : ((l0.length : Int) == (l1.length : Int)) = true := beq_iff_eq.mpr c3
  have c3b1 : ((l0.length : Int) != (l1.length : Int)) = false := bne_eq_false_iff_eq.mpr c3
  have c3b2 : (l0.length == l1.length) = true := by first | simpa using c3 | (simp at c3 ⊢; omega)
  clear c3
  have H' := Aside0.mk H
  clear H
  go_enter Try.func51, Try.ntmps51
  go_wp2
  repeat (go_quiet (fail); try go_wp2)
  go_loopg [5] k (fun kq v5 w' => ∃ (x5_1 : Int), v5 = .int .i64 x5_1 ∧ Aside0 (Du.l0 kq l0 l1 x5_1 = some r) ∧ Aside0 (kq ≤ k) ∧ Drawn0 w w')
  case atStart => exact ⟨(0), Yd_, H', ⟨Nat.le_refl _⟩, by repeat (first | exact Drawn0.refl _ | apply Drawn0.step)⟩
  case round =>
   clear H'
   try clear c1
   try clear p2
   try clear c3
   try clear c3b0
   try clear c3b1
   try clear c3b2
   obtain ⟨x5_1, rfl, HA, HK1, ⟨m1, rfl⟩⟩ := hrel
   cases gk with
   | zero => exact absurd HA.out (by simp [Du.l0])
   | succ k1 =>
    have H := HA.out
    clear HA
    simp only [Du.l0] at H
    by_cases c4 : x5_1 < (l0.length : Int)
    ·rw [if_pos c4] at H
     have c4b0 : decide (x5_1 < (l0.length : Int)) = true := decide_eq_true c4
     clear c4
     by_cases c5 : 0 ≤ x5_1
     ·rw [if_pos c5] at H
      have c5b0 : decide (0 ≤ x5_1) = true := decide_eq_true c5
      clear c5
      by_cases c6 : x5_1 < (l1.length : Int)
      ·rw [if_pos c6] at H
       have c6b0 : decide (x5_1 < (l1.length : Int)) = true := decide_eq_true c6
       clear c6
       by_cases c7 : (rd l0 x5_1) = (rd l1 x5_1)
       ·rw [if_pos c7] at H
        have c7b0 : ((rd l0 x5_1) == (rd l1 x5_1)) = true := beq_iff_eq.mpr c7
        have c7b1 : ((rd l0 x5_1) != (rd l1 x5_1)) = false := bne_eq_false_iff_eq.mpr c7
        clear c7
        have H' := Aside0.mk H
        clear H
        have p747 : 0 ≤ (x5_1 : Int) := of_decide_eq_true Yc_
        have q747 : x5_1 < (l0.length : Int) := of_decide_eq_true Yc_
        obtain ⟨ad747, e747, hx747_0⟩ := Kd.Fv HR0.out x5_1 p747 q747
        cases e747
        replace p747 := eq_true p747
        replace q747 := eq_true q747
        have p748 : 0 ≤ (x5_1 : Int) := of_decide_eq_true Yc_
        have q748 : x5_1 < (l1.length : Int) := of_decide_eq_true Yc_
        obtain ⟨ad748, e748, hx748_0⟩ := Kd.Fv HR1.out x5_1 p748 q748
        cases e748
        replace p748 := eq_true p748
        replace q748 := eq_true q748
        go_wp2
        repeat (go_quiet (fail); try go_wp2)
        go_roundg k1
        case measure => have := HK1.out; omega
        case rel => exact ⟨(wrap64 (x5_1 + 1)), Yd_, H', ⟨by have := HK1.out; omega⟩, by repeat (first | exact Drawn0.refl _ | apply Drawn0.step)⟩
       ·rw [if_neg c7] at H
        have c7b0 : ((rd l0 x5_1) == (rd l1 x5_1)) = false := beq_eq_false_iff_ne.mpr c7
        have c7b1 : ((rd l0 x5_1) != (rd l1 x5_1)) = true := bne_iff_ne.mpr c7
        obtain rfl := Option.some.inj H
        have p747 : 0 ≤ (x5_1 : Int) := of_decide_eq_true Yc_
        have q747 : x5_1 < (l0.length : Int) := of_decide_eq_true Yc_
        obtain ⟨ad747, e747, hx747_0⟩ := Kd.Fv HR0.out x5_1 p747 q747
        cases e747
        replace p747 := eq_true p747
        replace q747 := eq_true q747
        have p748 : 0 ≤ (x5_1 : Int) := of_decide_eq_true Yc_
        have q748 : x5_1 < (l1.length : Int) := of_decide_eq_true Yc_
        obtain ⟨ad748, e748, hx748_0⟩ := Kd.Fv HR1.out x5_1 p748 q748
        cases e748
        replace p748 := eq_true p748
        replace q748 := eq_true q748
        go_wp2
        repeat (go_quiet (fail); try go_wp2)
        go_ret
        exact ⟨by first | rfl | (simp; done) | (simp [*]; done), by repeat (first | exact Drawn0.refl _ | apply Drawn0.step)⟩
      ·rw [if_neg c6] at H
       exact absurd H (by simp)
     ·rw [if_neg c5] at H
      exact absurd H (by simp)
    ·rw [if_neg c4] at H
     have c4b0 : decide (x5_1 < (l0.length : Int)) = false := decide_eq_false c4
     clear c4
     obtain rfl := Option.some.inj H
     go_wp2
     repeat (go_quiet (fail); try go_wp2)
     go_ret
     exact ⟨by first | rfl | (simp; done) | (simp [*]; done), by repeat (first | exact Drawn0.refl _ | apply Drawn0.step)⟩
 ·rw [if_neg c3] at H
  have c3b0 : ((l0.length : Int) == (l1.length : Int)) = false := beq_eq_false_iff_ne.mpr c3
  have c3b1 : ((l0.length : Int) != (l1.length : Int)) = true := bne_iff_ne.mpr c3
  have c3b2 : (l0.length == l1.length) = false := by first | simpa using c3 | (simp at c3 ⊢; omega)
  obtain rfl := Option.some.inj H
  go_enter Try.func51, Try.ntmps51
  go_wp2
  repeat (go_quiet (fail); try go_wp2)
  go_ret
  exact ⟨by first | rfl | (simp; done) | (simp [*]; done), by repeat (first | exact Drawn0.refl _ | apply Drawn0.step)⟩
end Go.Proofs.Ytolaplcjbmjlmaa.X

namespace Go.Proofs.Ytolaplcjbmjlmaa.X
open Go.RowKit Go.Proofs.YtolaplcjbmjlmaaW.PrintWords Go.Proofs.YtolaplcjbmjlmaaW.PrintLast Go.Proofs.YtolaplcjbmjlmaaW.PrintMore
attribute [local go_sem] max2_int min2_int max_two min_two max_three min_three max_four min_four
def Dy.l0 : Nat → List (List Int) → List (List Int) → Int → Option (Bool)
 | 0, _, _, _ => none
 | k + 1, x0, x1, x5 => if x5 < (x0.length : Int) then (if 0 ≤ x5 then (if x5 < (x1.length : Int) then ((Du.f k (Es x0 x5) (Es x1 x5)).bind fun t751 => (if t751 = true then (Dy.l0 k x0 x1 (wrap64 (x5 + 1))) else (some false))) else (none)) else (none)) else (some true)
def Dy.f (k : Nat) (l0 : List (List Int)) (l1 : List (List Int)) : Option (Bool) := if (l0.length : Int) = (l1.length : Int) then (Dy.l0 k l0 l1 0) else (some false)
theorem Dy.Dq : ∀ k, (∀ y0 y1 y2, LeO (Dy.l0 k y0 y1 y2) (Dy.l0 (k + 1) y0 y1 y2))
 | 0 => fun _ _ _ r h => by simp [Dy.l0] at h
 | k + 1 => by
  have ih0 := Dy.Dq k
  ·intro y0 y1 y2
   unfold Dy.l0
   repeat' first
   | (with_reducible exact ih0 _ _ _)
   | (with_reducible exact Du.mono _ _ _)
   | (with_reducible exact LeO.refl _)
   | (with_reducible exact LeO.none _)
   | (with_reducible refine LeO.ite ?_ ?_)
   | (with_reducible refine LeO.bind ?_ (fun _ => ?_))
   | exact ih0 _ _ _
   | exact Du.mono _ _ _
   | exact LeO.none _
   | refine LeO.ite ?_ ?_
   | refine LeO.bind ?_ (fun _ => ?_)
theorem Dy.mono : ∀ a0 a1 k, LeO (Dy.f k a0 a1) (Dy.f (k + 1) a0 a1) := by
 intro a0 a1 k
 have ih0 := Dy.Dq k
 unfold Dy.f
 repeat' first
   | (with_reducible exact ih0 _ _ _)
   | (with_reducible exact Du.mono _ _ _)
   | (with_reducible exact LeO.refl _)
   | (with_reducible exact LeO.none _)
   | (with_reducible refine LeO.ite ?_ ?_)
   | (with_reducible refine LeO.bind ?_ (fun _ => ?_))
   | exact ih0 _ _ _
   | exact Du.mono _ _ _
   | exact LeO.none _
   | refine LeO.ite ?_ ?_
   | refine LeO.bind ?_ (fun _ => ?_)
set_option maxHeartbeats 8000000 in
set_option maxRecDepth 100000 in
theorem Dy.calls (k : Nat) (A0 : Option Addr) (c0 : Nat) (l0 : List (List Int)) (A1 : Option Addr) (c1 : Nat) (l1 : List (List Int)) (r : Bool) (w : World) (hr0 : Kd.C (Kd.slice 3 (Kd.int .i64)) w A0 l0.length l0) (hc0 : l0.length ≤ c0) (hr1 : Kd.C (Kd.slice 3 (Kd.int .i64)) w A1 l1.length l1) (hc1 : l1.length ≤ c1) (h : Dy.f k l0 l1 = some r) :
  Calls Try.prog 49 #[.slice A0 l0.length c0, .slice A1 l1.length c1] w fun e w' => e = .returned (.bool r) ∧ Drawn0 w w' := by
 have HR0 := Aside0.mk hr0
 have HC0 := Aside0.mk hc0
 clear hr0 hc0
 have HR1 := Aside0.mk hr1
 have HC1 := Aside0.mk hc1
 clear hr1 hc1
 have H : (if (l0.length : Int) = (l1.length : Int) then (Dy.l0 k l0 l1 0) else (some false)) = some r := h
 clear h
 by_cases c3 : (l0.length : Int) = (l1.length : Int)
 ·rw [if_pos c3] at H
  have c3b0 : ((l0.length : Int) == (l1.length : Int)) = true := beq_iff_eq.mpr c3
  have c3b1 : ((l0.length : Int) != (l1.length : Int)) = false := bne_eq_false_iff_eq.mpr c3
  have c3b2 : (l0.length == l1.length) = true := by first | simpa using c3 | (simp at c3 ⊢; omega)
  clear c3
  have H' := Aside0.mk H
  clear H
  go_enter Try.func49, Try.ntmps49
  go_wp2
  repeat (go_quiet (fail); try go_wp2)
  go_loopg [5] k (fun kq v5 w' => ∃ (x5_1 : Int), v5 = .int .i64 x5_1 ∧ Aside0 (Dy.l0 kq l0 l1 x5_1 = some r) ∧ Aside0 (kq ≤ k) ∧ Drawn0 w w')
  case atStart => exact ⟨(0), Yd_, H', ⟨Nat.le_refl _⟩, by repeat (first | exact Drawn0.refl _ | apply Drawn0.step)⟩
  case round =>
   clear H'
   try clear c1
   try clear p2
   try clear c3
   try clear c3b0
   try clear c3b1
   try clear c3b2
   obtain ⟨x5_1, rfl, HA, HK1, ⟨m1, rfl⟩⟩ := hrel
   cases gk with
   | zero => exact absurd HA.out (by simp [Dy.l0])
   | succ k1 =>
    have H := HA.out
    clear HA
    simp only [Dy.l0] at H
    by_cases c4 : x5_1 < (l0.length : Int)
    ·rw [if_pos c4] at H
     have c4b0 : decide (x5_1 < (l0.length : Int)) = true := decide_eq_true c4
     clear c4
     by_cases c5 : 0 ≤ x5_1
     ·rw [if_pos c5] at H
      have c5b0 : decide (0 ≤ x5_1) = true := decide_eq_true c5
      clear c5
      by_cases c6 : x5_1 < (l1.length : Int)
      ·rw [if_pos c6] at H
       have c6b0 : decide (x5_1 < (l1.length : Int)) = true := decide_eq_true c6
       clear c6
       replace H := Option.bind_eq_some_iff.mp H
       obtain ⟨t751, A70, H⟩ := H
       replace H : (if t751 = true then (Dy.l0 k1 l0 l1 (wrap64 (x5_1 + 1))) else (some false)) = some r := H
       have A7 := Aside0.mk A70
       clear A70
       by_cases c8 : t751 = true
       ·subst c8
        have H1 : (Dy.l0 k1 l0 l1 (wrap64 (x5_1 + 1))) = some r := by rw [if_pos rfl] at H; exact H
        clear H
        have H := H1
        clear H1
        have H' := Aside0.mk H
        clear H
        have p749 : 0 ≤ (x5_1 : Int) := of_decide_eq_true Yc_
        have q749 : x5_1 < (l0.length : Int) := of_decide_eq_true Yc_
        obtain ⟨ad749, A749_0, c749_0, e749, hx749_0, hl749_0, hi749_0⟩ := at_L6 HR0.out x5_1 p749 q749
        cases e749
        have HR749_0 := Aside0.mk hi749_0
        have HC749_0 := Aside0.mk hl749_0
        clear hi749_0 hl749_0
        replace p749 := eq_true p749
        replace q749 := eq_true q749
        have p750 : 0 ≤ (x5_1 : Int) := of_decide_eq_true Yc_
        have q750 : x5_1 < (l1.length : Int) := of_decide_eq_true Yc_
        obtain ⟨ad750, A750_0, c750_0, e750, hx750_0, hl750_0, hi750_0⟩ := at_L6 HR1.out x5_1 p750 q750
        cases e750
        have HR750_0 := Aside0.mk hi750_0
        have HC750_0 := Aside0.mk hl750_0
        clear hi750_0 hl750_0
        replace p750 := eq_true p750
        replace q750 := eq_true q750
        go_wp2_with (first | (go_at_call 51; (with_reducible refine (Du.calls k1 _ _ (Es l0 x5_1) _ _ (Es l1 x5_1) true _ ?side1 ?side2 ?side3 ?side4 A7.out).mono ?_); (case side1 => repeat (first | exact HR749_0.out | (with_reducible refine Kd.Be ?_ _) | (with_reducible refine Kd.Bf ?_ _) | (with_reducible refine Kd.Bh ?_))); (case side2 => exact HC749_0.out); (case side3 => repeat (first | exact HR750_0.out | (with_reducible refine Kd.Be ?_ _) | (with_reducible refine Kd.Bf ?_ _) | (with_reducible refine Kd.Bh ?_))); (case side4 => exact HC750_0.out); rintro e w' ⟨rfl, ⟨nd, rfl⟩⟩; (try first | exact ⟨rfl, _, World.drewN_drewN _ _ _⟩ | exact ⟨rfl, _, Eq.trans (World.drewN_drewN _ _ _) (congrArg (World.drewN _) (Nat.add_assoc _ _ _))⟩)))
        repeat (go_quiet (first | (go_at_call 51; (with_reducible refine (Du.calls k1 _ _ (Es l0 x5_1) _ _ (Es l1 x5_1) true _ ?side1 ?side2 ?side3 ?side4 A7.out).mono ?_); (case side1 => repeat (first | exact HR749_0.out | (with_reducible refine Kd.Be ?_ _) | (with_reducible refine Kd.Bf ?_ _) | (with_reducible refine Kd.Bh ?_))); (case side2 => exact HC749_0.out); (case side3 => repeat (first | exact HR750_0.out | (with_reducible refine Kd.Be ?_ _) | (with_reducible refine Kd.Bf ?_ _) | (with_reducible refine Kd.Bh ?_))); (case side4 => exact HC750_0.out); rintro e w' ⟨rfl, ⟨nd, rfl⟩⟩; (try first | exact ⟨rfl, _, World.drewN_drewN _ _ _⟩ | exact ⟨rfl, _, Eq.trans (World.drewN_drewN _ _ _) (congrArg (World.drewN _) (Nat.add_assoc _ _ _))⟩))); try go_wp2_with (first | (go_at_call 51; (with_reducible refine (Du.calls k1 _ _ (Es l0 x5_1) _ _ (Es l1 x5_1) true _ ?side1 ?side2 ?side3 ?side4 A7.out).mono ?_); (case side1 => repeat (first | exact HR749_0.out | (with_reducible refine Kd.Be ?_ _) | (with_reducible refine Kd.Bf ?_ _) | (with_reducible refine Kd.Bh ?_))); (case side2 => exact HC749_0.out); (case side3 => repeat (first | exact HR750_0.out | (with_reducible refine Kd.Be ?_ _) | (with_reducible refine Kd.Bf ?_ _) | (with_reducible refine Kd.Bh ?_))); (case side4 => exact HC750_0.out); rintro e w' ⟨rfl, ⟨nd, rfl⟩⟩; (try first | exact ⟨rfl, _, World.drewN_drewN _ _ _⟩ | exact ⟨rfl, _, Eq.trans (World.drewN_drewN _ _ _) (congrArg (World.drewN _) (Nat.add_assoc _ _ _))⟩))))
        go_roundg k1
        case measure => have := HK1.out; omega
        case rel => exact ⟨(wrap64 (x5_1 + 1)), Yd_, H', ⟨by have := HK1.out; omega⟩, by repeat (first | exact Drawn0.refl _ | apply Drawn0.step)⟩
       ·replace c8 := Bool.eq_false_iff.mpr c8
        subst c8
        have H1 : (some false) = some r := by rw [if_neg (show ¬ (false = true) by decide)] at H; exact H
        clear H
        have H := H1
        clear H1
        obtain rfl := Option.some.inj H
        have p749 : 0 ≤ (x5_1 : Int) := of_decide_eq_true Yc_
        have q749 : x5_1 < (l0.length : Int) := of_decide_eq_true Yc_
        obtain ⟨ad749, A749_0, c749_0, e749, hx749_0, hl749_0, hi749_0⟩ := at_L6 HR0.out x5_1 p749 q749
        cases e749
        have HR749_0 := Aside0.mk hi749_0
        have HC749_0 := Aside0.mk hl749_0
        clear hi749_0 hl749_0
        replace p749 := eq_true p749
        replace q749 := eq_true q749
        have p750 : 0 ≤ (x5_1 : Int) := of_decide_eq_true Yc_
        have q750 : x5_1 < (l1.length : Int) := of_decide_eq_true Yc_
        obtain ⟨ad750, A750_0, c750_0, e750, hx750_0, hl750_0, hi750_0⟩ := at_L6 HR1.out x5_1 p750 q750
        cases e750
        have HR750_0 := Aside0.mk hi750_0
        have HC750_0 := Aside0.mk hl750_0
        clear hi750_0 hl750_0
        replace p750 := eq_true p750
        replace q750 := eq_true q750
        go_wp2_with (first | (go_at_call 51; (with_reducible refine (Du.calls k1 _ _ (Es l0 x5_1) _ _ (Es l1 x5_1) false _ ?side1 ?side2 ?side3 ?side4 A7.out).mono ?_); (case side1 => repeat (first | exact HR749_0.out | (with_reducible refine Kd.Be ?_ _) | (with_reducible refine Kd.Bf ?_ _) | (with_reducible refine Kd.Bh ?_))); (case side2 => exact HC749_0.out); (case side3 => repeat (first | exact HR750_0.out | (with_reducible refine Kd.Be ?_ _) | (with_reducible refine Kd.Bf ?_ _) | (with_reducible refine Kd.Bh ?_))); (case side4 => exact HC750_0.out); rintro e w' ⟨rfl, ⟨nd, rfl⟩⟩; (try first | exact ⟨rfl, _, World.drewN_drewN _ _ _⟩ | exact ⟨rfl, _, Eq.trans (World.drewN_drewN _ _ _) (congrArg (World.drewN _) (Nat.add_assoc _ _ _))⟩)))
        repeat (go_quiet (first | (go_at_call 51; (with_reducible refine (Du.calls k1 _ _ (Es l0 x5_1) _ _ (Es l1 x5_1) false _ ?side1 ?side2 ?side3 ?side4 A7.out).mono ?_); (case side1 => repeat (first | exact HR749_0.out | (with_reducible refine Kd.Be ?_ _) | (with_reducible refine Kd.Bf ?_ _) | (with_reducible refine Kd.Bh ?_))); (case side2 => exact HC749_0.out); (case side3 => repeat (first | exact HR750_0.out | (with_reducible refine Kd.Be ?_ _) | (with_reducible refine Kd.Bf ?_ _) | (with_reducible refine Kd.Bh ?_))); (case side4 => exact HC750_0.out); rintro e w' ⟨rfl, ⟨nd, rfl⟩⟩; (try first | exact ⟨rfl, _, World.drewN_drewN _ _ _⟩ | exact ⟨rfl, _, Eq.trans (World.drewN_drewN _ _ _) (congrArg (World.drewN _) (Nat.add_assoc _ _ _))⟩))); try go_wp2_with (first | (go_at_call 51; (with_reducible refine (Du.calls k1 _ _ (Es l0 x5_1) _ _ (Es l1 x5_1) false _ ?side1 ?side2 ?side3 ?side4 A7.out).mono ?_); (case side1 => repeat (first | exact HR749_0.out | (with_reducible refine Kd.Be ?_ _) | (with_reducible refine Kd.Bf ?_ _) | (with_reducible refine Kd.Bh ?_))); (case side2 => exact HC749_0.out); (case side3 => repeat (first | exact HR750_0.out | (with_reducible refine Kd.Be ?_ _) | (with_reducible refine Kd.Bf ?_ _) | (with_reducible refine Kd.Bh ?_))); (case side4 => exact HC750_0.out); rintro e w' ⟨rfl, ⟨nd, rfl⟩⟩; (try first | exact ⟨rfl, _, World.drewN_drewN _ _ _⟩ | exact ⟨rfl, _, Eq.trans (World.drewN_drewN _ _ _) (congrArg (World.drewN _) (Nat.add_assoc _ _ _))⟩))))
        go_ret
        exact ⟨by first | rfl | (simp; done) | (simp [*]; done), by repeat (first | exact Drawn0.refl _ | apply Drawn0.step)⟩
      ·rw [if_neg c6] at H
       exact absurd H (by simp)
     ·rw [if_neg c5] at H
      exact absurd H (by simp)
    ·rw [if_neg c4] at H
     have c4b0 : decide (x5_1 < (l0.length : Int)) = false := decide_eq_false c4
     clear c4
     obtain rfl := Option.some.inj H
     go_wp2
     repeat (go_quiet (fail); try go_wp2)
     go_ret
     exact ⟨by first | rfl | (simp; done) | (simp [*]; done), by repeat (first | exact Drawn0.refl _ | apply Drawn0.step)⟩
 ·rw [if_neg c3] at H
  have c3b0 : ((l0.length : Int) == (l1.length : Int)) = false := beq_eq_false_iff_ne.mpr c3
  have c3b1 : ((l0.length : Int) != (l1.length : Int)) = true := bne_iff_ne.mpr c3
  have c3b2 : (l0.length == l1.length) = false := by first | simpa using c3 | (simp at c3 ⊢; omega)
  obtain rfl := Option.some.inj H
  go_enter Try.func49, Try.ntmps49
  go_wp2
  repeat (go_quiet (fail); try go_wp2)
  go_ret
  exact ⟨by first | rfl | (simp; done) | (simp [*]; done), by repeat (first | exact Drawn0.refl _ | apply Drawn0.step)⟩
end Go.Proofs.Ytolaplcjbmjlmaa.X

namespace Go.Proofs.Ytolaplcjbmjlmaa.X
open Go.RowKit Go.Proofs.YtolaplcjbmjlmaaW.PrintWords Go.Proofs.YtolaplcjbmjlmaaW.PrintLast Go.Proofs.YtolaplcjbmjlmaaW.PrintMore
attribute [local go_sem] max2_int min2_int max_two min_two max_three min_three max_four min_four
def D7.f (k : Nat) (l0 : List Int) : Option ((List (S59)) × Int) := (Bo.f k l0 0 0).bind fun bt753 => ((some (([0, 1, 4, 12, 23, 240, (-1), 241] : List Int) : List Int)).bind fun y758 => ((Dt.f l0 bt753.2.1 bt753.2.2 24).bind fun bt761 => (if 0 ≤ (wrap64 (6 + (wrap64 (Int.tdiv bt761.1 11)))) then (if (wrap64 (6 + (wrap64 (Int.tdiv bt761.1 11)))) ≤ (y758.length : Int) then ((Dx.f l0 bt761.2.1 bt761.2.2 (y758.take ((wrap64 (6 + (wrap64 (Int.tdiv bt761.1 11)))) : Int).toNat)).bind fun bt768 => (some (bt753.1, bt768.1))) else (none)) else (none))))
theorem D7.mono : ∀ a0 k, LeO (D7.f k a0) (D7.f (k + 1) a0) := by
 intro a0 k
 unfold D7.f
 repeat' first
   | (with_reducible exact Bo.mono _ _ _ _)
   | (with_reducible exact LeO.refl _)
   | (with_reducible exact LeO.none _)
   | (with_reducible refine LeO.ite ?_ ?_)
   | (with_reducible refine LeO.bind ?_ (fun _ => ?_))
   | exact Bo.mono _ _ _ _
   | exact LeO.none _
   | refine LeO.ite ?_ ?_
   | refine LeO.bind ?_ (fun _ => ?_)
set_option maxHeartbeats 8000000 in
set_option maxRecDepth 100000 in
theorem D7.calls (k : Nat) (A0 : Option Addr) (c0 : Nat) (l0 : List Int) (r1 : List (S59)) (r2 : Int) (w : World) (hr0 : Kd.C (Kd.int .u8) w A0 l0.length l0) (hc0 : l0.length ≤ c0) (h : D7.f k l0 = some (r1, r2)) :
  Calls Try.prog 50 #[.slice A0 l0.length c0] w fun e w' => ∃ v0_ : Value, e = .returned (.tuple #[v0_, .int .i64 r2]) ∧ Kd.R k59 59 w' w.heap.size (fun _ => True) v0_ r1 ∧ Below w.heap.size w w' := by
 have hu73 := Try.underlying73
 have HR0 := Aside0.mk hr0
 have HC0 := Aside0.mk hc0
 clear hr0 hc0
 have HB := Aside0.mk (Below.refl w.heap.size w)
 have H : ((Bo.f k l0 0 0).bind fun bt753 => ((some (([0, 1, 4, 12, 23, 240, (-1), 241] : List Int) : List Int)).bind fun y758 => ((Dt.f l0 bt753.2.1 bt753.2.2 24).bind fun bt761 => (if 0 ≤ (wrap64 (6 + (wrap64 (Int.tdiv bt761.1 11)))) then (if (wrap64 (6 + (wrap64 (Int.tdiv bt761.1 11)))) ≤ (y758.length : Int) then ((Dx.f l0 bt761.2.1 bt761.2.2 (y758.take ((wrap64 (6 + (wrap64 (Int.tdiv bt761.1 11)))) : Int).toNat)).bind fun bt768 => (some (bt753.1, bt768.1))) else (none)) else (none))))) = some (r1, r2) := h
 clear h
 replace H := Option.bind_eq_some_iff.mp H
 obtain ⟨⟨t753, t756, t757⟩, A20, H⟩ := H
 replace H : ((some (([0, 1, 4, 12, 23, 240, (-1), 241] : List Int) : List Int)).bind fun y758 => ((Dt.f l0 t756 t757 24).bind fun bt761 => (if 0 ≤ (wrap64 (6 + (wrap64 (Int.tdiv bt761.1 11)))) then (if (wrap64 (6 + (wrap64 (Int.tdiv bt761.1 11)))) ≤ (y758.length : Int) then ((Dx.f l0 bt761.2.1 bt761.2.2 (y758.take ((wrap64 (6 + (wrap64 (Int.tdiv bt761.1 11)))) : Int).toNat)).bind fun bt768 => (some (t753, bt768.1))) else (none)) else (none)))) = some (r1, r2) := H
 have A2 := Aside0.mk A20
 clear A20
 obtain ⟨y758, hy758⟩ : ∃ y_ : List Int, y_ = (([0, 1, 4, 12, 23, 240, (-1), 241] : List Int)) := ⟨_, rfl⟩
 replace H : ((Dt.f l0 t756 t757 24).bind fun bt761 => (if 0 ≤ (wrap64 (6 + (wrap64 (Int.tdiv bt761.1 11)))) then (if (wrap64 (6 + (wrap64 (Int.tdiv bt761.1 11)))) ≤ (y758.length : Int) then ((Dx.f l0 bt761.2.1 bt761.2.2 (y758.take ((wrap64 (6 + (wrap64 (Int.tdiv bt761.1 11)))) : Int).toNat)).bind fun bt768 => (some (t753, bt768.1))) else (none)) else (none))) = some (r1, r2) := by first | (rw [hy758]; with_reducible exact H) | (have H2_ := (Option.bind_some _ _).symm.trans H; rw [hy758]; with_reducible exact H2_) | (have H2_ := (Option.bind_some _ _).symm.trans H; with_reducible exact H2_) | with_reducible exact H | (rw [hy758]; exact H) | exact H
 have Ny758 := Aside0.mk hy758
 clear hy758
 replace H := Option.bind_eq_some_iff.mp H
 obtain ⟨⟨t761, t762, t763⟩, A30, H⟩ := H
 replace H : (if 0 ≤ (wrap64 (6 + (wrap64 (Int.tdiv t761 11)))) then (if (wrap64 (6 + (wrap64 (Int.tdiv t761 11)))) ≤ (y758.length : Int) then ((Dx.f l0 t762 t763 (y758.take ((wrap64 (6 + (wrap64 (Int.tdiv t761 11)))) : Int).toNat)).bind fun bt768 => (some (t753, bt768.1))) else (none)) else (none)) = some (r1, r2) := H
 have A3 := Aside0.mk A30
 clear A30
 obtain ⟨ji4, hji4⟩ : ∃ j_ : Int, (wrap64 (6 + (wrap64 (Int.tdiv t761 11)))) = j_ := ⟨_, rfl⟩
 replace H : (if 0 ≤ (ji4) then (if (ji4) ≤ (y758.length : Int) then ((Dx.f l0 t762 t763 (y758.take ((ji4) : Int).toNat)).bind fun bt768 => (some (t753, bt768.1))) else (none)) else (none)) = some (r1, r2) := by first | (rw [hji4] at H; exact H) | (simp only [hji4] at H ⊢; exact H)
 (try rw [hji4] at A2)
 (try rw [hji4] at A3)
 have hji4w : (IntKind.i64.wrap (6 + (wrap64 (Int.tdiv t761 11)))) = ji4 := (Aj _).trans hji4
 by_cases c5 : 0 ≤ (ji4)
 ·rw [if_pos c5] at H
  have c5b0 := eq_true c5
  have c5b1 : decide (0 ≤ (ji4)) = true := decide_eq_true c5
  clear c5
  by_cases c6 : (ji4) ≤ (y758.length : Int)
  ·rw [if_pos c6] at H
   have c6b0 := eq_true c6
   have c6b1 : decide ((ji4) ≤ (y758.length : Int)) = true := decide_eq_true c6
   clear c6
   obtain ⟨y764, hy764⟩ : ∃ y_ : List Int, y_ = (y758.take ((ji4) : Int).toNat) := ⟨_, rfl⟩
   replace H : ((Dx.f l0 t762 t763 y764).bind fun bt768 => (some (t753, bt768.1))) = some (r1, r2) := by first | (rw [hy764]; with_reducible exact H) | (have H2_ := (Option.bind_some _ _).symm.trans H; rw [hy764]; with_reducible exact H2_) | (have H2_ := (Option.bind_some _ _).symm.trans H; with_reducible exact H2_) | with_reducible exact H | (rw [hy764]; exact H) | exact H
   have Ny764 := Aside0.mk hy764
   clear hy764
   replace H := Option.bind_eq_some_iff.mp H
   obtain ⟨⟨t768, t769, t770⟩, A70, H⟩ := H
   replace H : (some (t753, t768)) = some (r1, r2) := H
   have A7 := Aside0.mk A70
   clear A70
   simp only [Option.some.injEq, Prod.mk.injEq] at H
   obtain ⟨rfl, rfl⟩ := H
   go_enter Try.func50, Try.ntmps50
   go_wp2_with (first | ((with_reducible refine gate_dst (N := 8) rfl ?_); refine box_event ?hg (N := 8) ?hd (cs := #[.slice A0 l0.length c0, .int .i64 0, .int .u64 0]) (t := 73) ?hr ?_; (case hd => rfl); (case hg => rfl); (case hr => first | (go_simp; done) | (go_simp; rfl)); intro gb0 hg w8 hbox hb; have n0_ := Aside0.mk (below_step Ya_ hb); have n1_ := Aside0.mk ((by rw [hg]; exact (below_size Ya_) : w.heap.size ≤ gb0)); have n2_ := Aside0.mk ((by rw [hg]; exact (below_size Ya_) : w.heap.size ≤ gb0)); have n3_ := Aside0.mk ((⟨_, _, hbox, (by rw [hg]; exact (below_size Ya_)), HR0.out⟩ : Ag w w8 gb0 l0 0 0)); clear HB; have HB := n0_; have GW0 := n1_; have GE0 := n2_; have HI752 := n3_; clear n0_ n1_ n2_ n3_; clear hb hbox hg) | ((with_reducible refine gate_callee (f := 67) rfl ?_); refine goesL_ (some 10) rfl rfl Try.func67 (by kernel_rfl) rfl #[.pointer (some ⟨gb0, 0, none⟩)] rfl Yb_ ?_; (with_reducible refine (Bo.calls k gb0 l0 0 0 t753 t756 t757 w _ ?side1 ?side2 A2.out).mono ?_); (case side1 => repeat (first | (with_reducible first | exact HI752.out | apply Ag.alloc | apply Ag.drewN | apply Ag.drew | apply Ag.D6 | apply Ag.D5) | exact HI752.out)); (case side2 => repeat (first | (with_reducible first | exact HB.out | apply Af | apply Ad | apply Ae | refine Ar ?_ (Ag.ge HI752.out)) | exact HB.out)); rintro e w9 ⟨v754, rfl, ho0, hi, hb, hk⟩; refine ⟨_, rfl, ?_⟩; have n0_ := Aside0.mk (Kd.R_lower ho0 (below_size Ydh_)); have n1_ := Aside0.mk (hb); have n2_ := Aside0.mk (hi); clear HB; clear HI752; have HO755 := n0_; have HB := n1_; have HI752 := n2_; clear n0_ n1_ n2_; (try clear hb); (try clear hb2); (try clear hk); (try clear hi); (try clear ho0)) | ((with_reducible refine gate_dst (N := 13) rfl ?_); refine Kd.R_lit (Kd.int .i64) _ 3 ?hg (N := 13) ?hd (xs := ([0, 1, 4, 12, 23, 240, (-1), 241] : List Int)) (inner := [.int .i64 0, .int .i64 1, .int .i64 4, .int .i64 12, .int .i64 23, .int .i64 240, .int .i64 (-1), .int .i64 241]) (ok := fun _ => True) (okp := fun _ => True) ?hr ?hp (fun _ hk => hk) trivial (Below.refl _ _) (Nat.le_refl _) (by simp) ?_; (case hd => rfl); (case hg => rfl); (case hr => first | (go_simp; done) | (go_simp; rfl)); (case hp => exact (Dw.one (show Kd.M (Kd.int .i64) _ _ _ 0 [.int .i64 0] from rfl) (Dw.one (show Kd.M (Kd.int .i64) _ _ _ 1 [.int .i64 1] from rfl) (Dw.one (show Kd.M (Kd.int .i64) _ _ _ 4 [.int .i64 4] from rfl) (Dw.one (show Kd.M (Kd.int .i64) _ _ _ 12 [.int .i64 12] from rfl) (Dw.one (show Kd.M (Kd.int .i64) _ _ _ 23 [.int .i64 23] from rfl) (Dw.one (show Kd.M (Kd.int .i64) _ _ _ 240 [.int .i64 240] from rfl) (Dw.one (show Kd.M (Kd.int .i64) _ _ _ (-1) [.int .i64 (-1)] from rfl) (Dw.one (show Kd.M (Kd.int .i64) _ _ _ 241 [.int .i64 241] from rfl) (Dw.none _ _)))))))))); intro v759 w10 ho11 hb hg_ hnew_; clear hg_ hnew_; (first | rw [← Ny758.out] at ho11 | (simp only [Int.reduceToNat] at ho11; rw [← Ny758.out] at ho11)); have n0_ := Aside0.mk (Kd.R_below Yec_ hb); have n1_ := Aside0.mk (Kd.R_lower ho11 (below_size Ydh_)); have n2_ := Aside0.mk (Ag.below (by repeat (first | (with_reducible first | exact HI752.out | apply Ag.alloc | apply Ag.drewN | apply Ag.drew | apply Ag.D6 | apply Ag.D5) | exact HI752.out)) hb); have n3_ := Aside0.mk (below_step Ydh_ hb); clear HO755; clear HI752; clear HB; have HO755 := n0_; have HO760 := n1_; have HI752 := n2_; have HB := n3_; clear n0_ n1_ n2_ n3_; clear hb ho11) | ((with_reducible refine gate_callee (f := 69) rfl ?_); refine goesL_ (some 15) rfl rfl Try.func69 (by kernel_rfl) rfl #[.pointer (some ⟨gb0, 0, none⟩), .int .i64 24] rfl Yb_ ?_; (with_reducible refine (Dt.calls gb0 l0 t756 t757 24 t761 t762 t763 w _ ?side1 ?side2 A3.out).mono ?_); (case side1 => repeat (first | (with_reducible first | exact HI752.out | apply Ag.alloc | apply Ag.drewN | apply Ag.drew | apply Ag.D6 | apply Ag.D5) | exact HI752.out)); (case side2 => repeat (first | (with_reducible first | exact HB.out | apply Af | apply Ad | apply Ae | refine Ar ?_ (Ag.ge HI752.out)) | exact HB.out)); rintro e w12 ⟨rfl, hi, hb, hk⟩; refine ⟨_, rfl, ?_⟩; have n0_ := Aside0.mk (Kd.R_mono (Kd.Gh (Ag.apart (show Ag w _ gb0 l0 t756 t757 from by repeat (first | (with_reducible first | exact HI752.out | apply Ag.alloc | apply Ag.drewN | apply Ag.drew | apply Ag.D6 | apply Ag.D5) | exact HI752.out)) Yec_ (by decide)) hk (fun _ h => h.2)) (fun _ h => h.1)); have n1_ := Aside0.mk (Kd.R_mono (Kd.Gh (Ag.apart (show Ag w _ gb0 l0 t756 t757 from by repeat (first | (with_reducible first | exact HI752.out | apply Ag.alloc | apply Ag.drewN | apply Ag.drew | apply Ag.D6 | apply Ag.D5) | exact HI752.out)) (by (with_reducible repeat (first | apply Kd.Ap | apply Kd.Am | apply Kd.Ba)); exact HO760.out) (by decide)) hk (fun _ h => h.2)) (fun _ h => h.1)); have n2_ := Aside0.mk (hb); have n3_ := Aside0.mk (hi); clear HO755; clear HO760; clear HB; clear HI752; have HO755 := n0_; have HO760 := n1_; have HB := n2_; have HI752 := n3_; clear n0_ n1_ n2_ n3_; (try clear hb); (try clear hb2); (try clear hk); (try clear hi); obtain ⟨Ao14, co14, eo14⟩ := Kd.R_slice HO760.out; subst eo14; have q13 : ((ji4) : Int) ≤ ((y758.length : Int) : Int) := of_decide_eq_true Yc_; obtain ⟨i013, hi013, _, hsz13, _⟩ := info_parts info3; have hroom13 : y758.length ≤ co14 := (Kd.R_reads' HO760.out).2.1; have hC13 : Kd.C (Kd.int .i64) _ Ao14 y758.length y758 := (Kd.R_reads' HO760.out).2.2; have hcut13 := cut_to (P := Try.prog) 53 3 .i64 Try.underlying53 hi013 Ao14 y758.length co14 (ji4) (of_decide_eq_true Yc_) q13 hroom13; have hr13 := Kd.H7 (m := ((ji4) : Int).toNat) hC13 (by omega); have hy13 : y764.length = ((ji4) : Int).toNat := (by rw [Ny764.out, List.length_take]; omega); rw [← Ny764.out] at hr13; rw [← hy13] at hcut13; have HR767 := Aside0.mk hr13; have HC767 := Aside0.mk (show y764.length ≤ co14 from by omega); clear hr13 hC13 hroom13 hi013 hsz13; have KY13 := Aside0.mk hy13; clear hy13; have KL13 := Aside0.mk (show ((ji4) : Int).toNat ≤ y758.length from by omega); replace q13 := eq_true q13) | ((with_reducible refine gate_callee (f := 68) rfl ?_); refine goesL_ (some 19) rfl rfl Try.func68 (by kernel_rfl) rfl #[.pointer (some ⟨gb0, 0, none⟩), .slice Ao14 y764.length co14] rfl Yb_ ?_; (with_reducible refine (Dx.calls gb0 l0 t762 t763 _ _ y764 t768 t769 t770 w _ ?side1 ?side2 ?side3 ?side4 ?side5 A7.out).mono ?_); (case side1 => repeat (first | (with_reducible first | exact HI752.out | apply Ag.alloc | apply Ag.drewN | apply Ag.drew | apply Ag.D6 | apply Ag.D5) | exact HI752.out)); (case side2 => repeat (first | (with_reducible first | exact HB.out | apply Af | apply Ad | apply Ae | refine Ar ?_ (Ag.ge HI752.out)) | exact HB.out)); (case side3 => repeat (first | exact (by repeat (first | (with_reducible exact HR767.out) | (with_reducible refine Kd.Be ?_ _) | (with_reducible refine Kd.Bf ?_ _) | (with_reducible refine Kd.Bh ?_) | exact HR767.out)) | (with_reducible refine Kd.Be ?_ _) | (with_reducible refine Kd.Bf ?_ _) | (with_reducible refine Kd.Bh ?_))); (case side4 => exact HC767.out); (case side5 => exact fun ad e_ _ h_ => Ag.own_ne HI752.out HO760.out (by decide) (by rw [e_, ← h_]; rfl)); rintro e w15 ⟨rfl, hi, hb, hk⟩; refine ⟨_, rfl, ?_⟩; have n0_ := Aside0.mk (Kd.R_mono (Kd.Gh (Ag.apart (show Ag w _ gb0 l0 t762 t763 from by repeat (first | (with_reducible first | exact HI752.out | apply Ag.alloc | apply Ag.drewN | apply Ag.drew | apply Ag.D6 | apply Ag.D5) | exact HI752.out)) Yec_ (by decide)) hk (fun _ h => h.2)) (fun _ h => h.1)); have n1_ := Aside0.mk (Kd.R_mono (Kd.Gh (Ag.apart (show Ag w _ gb0 l0 t762 t763 from by repeat (first | (with_reducible first | exact HI752.out | apply Ag.alloc | apply Ag.drewN | apply Ag.drew | apply Ag.D6 | apply Ag.D5) | exact HI752.out)) (by (with_reducible repeat (first | apply Kd.Ap | apply Kd.Am | apply Kd.Ba)); exact HO760.out) (by decide)) hk (fun _ h => h.2)) (fun _ h => h.1)); have n2_ := Aside0.mk (hb); have n3_ := Aside0.mk (hi); clear HO755; clear HO760; clear HB; clear HI752; have HO755 := n0_; have HO760 := n1_; have HB := n2_; have HI752 := n3_; clear n0_ n1_ n2_ n3_; (try clear hb); (try clear hb2); (try clear hk); (try clear hi)))
   go_ret2
   exact ⟨_, by first | rfl | (simp [Aw, Az] <;> rfl) | (simp only [← hji4]; first | rfl | (simp [Aw, Az] <;> rfl)) | (simp [*, Aw, Az] <;> rfl), by (with_reducible repeat (first | apply Kd.Ap | apply Kd.Am | apply Kd.Ba)); exact HO755.out, by repeat (first | (with_reducible first | exact HB.out | apply Af | apply Ad | apply Ae | refine Ar ?_ (Ag.ge HI752.out)) | exact HB.out)⟩
  ·rw [if_neg c6] at H
   exact absurd H (by simp)
 ·rw [if_neg c5] at H
  exact absurd H (by simp)
end Go.Proofs.Ytolaplcjbmjlmaa.X

