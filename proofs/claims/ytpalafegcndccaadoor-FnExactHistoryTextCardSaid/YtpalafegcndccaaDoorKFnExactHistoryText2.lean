/- The law FnExactHistoryText answers true for every input that the row lets in, and leaves its arguments as they were. Conditions: none beyond the row's own. -/
import Derived.Shelf.Strings.Builder1
import Derived.Shelf.Strings.BuilderF
import Derived.Shelf.Strings.BuilderK
import Derived.Shelf.Utf8.RuneCount
import Derived.Shelf.Strconv.Itoa0
import Derived.Shelf.Strconv.Itoa1
import Derived.Shelf.LaysM
import Derived.Shelf.Strconv.Itoa2
import Derived.Shelf.Strconv.Itoa3
import Derived.Shelf.Strings.Search1
import Derived.Shelf.Strings.Search2
import Derived.Shelf.Strings.Search3
import Derived.Shelf.Strings.Cut
import Derived.Shelf.Strings.Count
import Derived.Shelf.Strings.Shaped
import Derived.Shelf.Strings.Split
import Derived.Shelf.Strings.SplitShaped
import Derived.Shelf.Unicode.Decode
import Derived.Shelf.Strings.RuneCount
import Derived.Shelf.Strings.Explode
import Derived.Shelf.Unicode.DecodeSlow
import Derived.Shelf.Unicode.DecodeAny
import Derived.Test.YtpalafegcndccaaDoorProg
import Derived.Deep.Slices
import Derived.ChangeSame
import Derived.ChangeArms
import Derived.DataReads
import Derived.SizedLaws
import Derived.ProofKit
import Derived.Lib.SmallJoins
import Derived.ChangeOld
import Derived.Below
import Derived.Lib.IndexAny
import Derived.Lib.ItoaNum
import Derived.Lib.ItoaLen
import Derived.Test.YtpalafegcndccaaDoorRows
import Derived.WalkKit
import Derived.OpenShut
import Derived.ShutString
import Derived.Handy
import Derived.Lay
import Derived.SevenTiedAt
import Derived.LaidSub
import Derived.Lib.LaidTab
import Derived.Test.YtpalafegcndccaaDoorCards
import Derived.Test.YtpalafegcndccaaDoorTie
import Derived.Test.YtpalafegcndccaaDoorKFnExactHistoryText0
import Derived.Test.YtpalafegcndccaaDoorKFnExactHistoryText1
-- written by a program of this session (wip/ext.py) out of the translation. Not trusted: Lean checks it.
namespace Go.Proofs.YtpalafegcndccaaDoor.X
open Go.RowKit Go.Proofs.YtpalafegcndccaaDoorW.PrintWords Go.Proofs.YtpalafegcndccaaDoorW.PrintLast Go.Proofs.YtpalafegcndccaaDoorW.PrintMore
attribute [local go_sem] max2_int min2_int max_two min_two max_three min_three max_four min_four   -- for this text's walks alone
open Go.Proofs.YtpalafegcndccaaDoorG
set_option linter.unusedVariables false
set_option linter.unusedSimpArgs false

def impl_eventWords.f  : Option (List ByteArray) := some (([(⟨#[]⟩ : ByteArray), (⟨#[108, 97, 110, 100]⟩ : ByteArray), (⟨#[103, 97, 116, 101, 32, 105, 110]⟩ : ByteArray), (⟨#[115, 116, 97, 99, 107]⟩ : ByteArray), (⟨#[112, 105, 99, 107]⟩ : ByteArray), (⟨#[108, 111, 97, 100]⟩ : ByteArray), (⟨#[103, 97, 116, 101, 32, 111, 117, 116]⟩ : ByteArray)] : List ByteArray))
set_option maxHeartbeats 8000000 in
set_option maxRecDepth 100000 in
theorem impl_eventWords.calls  (r : List ByteArray) (w : World) (h : impl_eventWords.f  = some r) :
    Calls Tryd.prog 35 #[] w fun e w' => ∃ v0_ : Value, e = .returned (v0_) ∧ Kd.R Kd.string 9 w' w.heap.size (fun _ => True) v0_ r ∧ Below w.heap.size w w' := by
  have HB := Aside0.mk (Below.refl w.heap.size w)
  have H : (some (([(⟨#[]⟩ : ByteArray), (⟨#[108, 97, 110, 100]⟩ : ByteArray), (⟨#[103, 97, 116, 101, 32, 105, 110]⟩ : ByteArray), (⟨#[115, 116, 97, 99, 107]⟩ : ByteArray), (⟨#[112, 105, 99, 107]⟩ : ByteArray), (⟨#[108, 111, 97, 100]⟩ : ByteArray), (⟨#[103, 97, 116, 101, 32, 111, 117, 116]⟩ : ByteArray)] : List ByteArray))) = some r := h
  clear h
  obtain ⟨y139, hy139⟩ : ∃ y_ : List ByteArray, y_ = (([(⟨#[]⟩ : ByteArray), (⟨#[108, 97, 110, 100]⟩ : ByteArray), (⟨#[103, 97, 116, 101, 32, 105, 110]⟩ : ByteArray), (⟨#[115, 116, 97, 99, 107]⟩ : ByteArray), (⟨#[112, 105, 99, 107]⟩ : ByteArray), (⟨#[108, 111, 97, 100]⟩ : ByteArray), (⟨#[103, 97, 116, 101, 32, 111, 117, 116]⟩ : ByteArray)] : List ByteArray)) := ⟨_, rfl⟩
  replace H : (some y139) = some r := by first | (rw [hy139]; with_reducible exact H) | (have H2_ := (Option.bind_some _ _).symm.trans H; rw [hy139]; with_reducible exact H2_) | (have H2_ := (Option.bind_some _ _).symm.trans H; with_reducible exact H2_) | with_reducible exact H | (rw [hy139]; exact H) | exact H
  have Ny139 := Aside0.mk hy139
  clear hy139
  obtain rfl := Option.some.inj H
  go_enter Tryd.func35, Tryd.ntmps35
  go_wp2_with (first | ((with_reducible refine gate_dst (N := 1) rfl ?_); refine Kd.R_lit Kd.string _ 9 ?hg (N := 1) ?hd (xs := ([(⟨#[]⟩ : ByteArray), (⟨#[108, 97, 110, 100]⟩ : ByteArray), (⟨#[103, 97, 116, 101, 32, 105, 110]⟩ : ByteArray), (⟨#[115, 116, 97, 99, 107]⟩ : ByteArray), (⟨#[112, 105, 99, 107]⟩ : ByteArray), (⟨#[108, 111, 97, 100]⟩ : ByteArray), (⟨#[103, 97, 116, 101, 32, 111, 117, 116]⟩ : ByteArray)] : List ByteArray)) (inner := [.string (⟨#[]⟩ : ByteArray), .string (⟨#[108, 97, 110, 100]⟩ : ByteArray), .string (⟨#[103, 97, 116, 101, 32, 105, 110]⟩ : ByteArray), .string (⟨#[115, 116, 97, 99, 107]⟩ : ByteArray), .string (⟨#[112, 105, 99, 107]⟩ : ByteArray), .string (⟨#[108, 111, 97, 100]⟩ : ByteArray), .string (⟨#[103, 97, 116, 101, 32, 111, 117, 116]⟩ : ByteArray)]) (ok := fun _ => True) (okp := fun _ => True) ?hr ?hp (fun _ hk => hk) trivial (Below.refl _ _) (Nat.le_refl _) (by simp) ?_; (case hd => rfl); (case hg => rfl); (case hr => first | (go_simp; done) | (go_simp; rfl)); (case hp => exact (Reps.one (show Kd.M Kd.string _ _ _ (⟨#[]⟩ : ByteArray) [.string (⟨#[]⟩ : ByteArray)] from rfl) (Reps.one (show Kd.M Kd.string _ _ _ (⟨#[108, 97, 110, 100]⟩ : ByteArray) [.string (⟨#[108, 97, 110, 100]⟩ : ByteArray)] from rfl) (Reps.one (show Kd.M Kd.string _ _ _ (⟨#[103, 97, 116, 101, 32, 105, 110]⟩ : ByteArray) [.string (⟨#[103, 97, 116, 101, 32, 105, 110]⟩ : ByteArray)] from rfl) (Reps.one (show Kd.M Kd.string _ _ _ (⟨#[115, 116, 97, 99, 107]⟩ : ByteArray) [.string (⟨#[115, 116, 97, 99, 107]⟩ : ByteArray)] from rfl) (Reps.one (show Kd.M Kd.string _ _ _ (⟨#[112, 105, 99, 107]⟩ : ByteArray) [.string (⟨#[112, 105, 99, 107]⟩ : ByteArray)] from rfl) (Reps.one (show Kd.M Kd.string _ _ _ (⟨#[108, 111, 97, 100]⟩ : ByteArray) [.string (⟨#[108, 111, 97, 100]⟩ : ByteArray)] from rfl) (Reps.one (show Kd.M Kd.string _ _ _ (⟨#[103, 97, 116, 101, 32, 111, 117, 116]⟩ : ByteArray) [.string (⟨#[103, 97, 116, 101, 32, 111, 117, 116]⟩ : ByteArray)] from rfl) (Reps.none _ _))))))))); intro v140 w1 ho2 hb hg_ hnew_; clear hg_ hnew_; (first | rw [← Ny139.out] at ho2 | (simp only [Int.reduceToNat] at ho2; rw [← Ny139.out] at ho2)); have n0_ := Aside0.mk (Kd.R_lower ho2 (below_size (by repeat (first | (with_reducible first | exact HB.out | apply below_alloc | apply pw_below_drewN | apply below_drew1) | exact HB.out)))); have n1_ := Aside0.mk (below_step (by repeat (first | (with_reducible first | exact HB.out | apply below_alloc | apply pw_below_drewN | apply below_drew1) | exact HB.out)) hb); clear HB; have HO141 := n0_; have HB := n1_; clear n0_ n1_; clear hb ho2))
  go_ret
  exact ⟨_, by first | rfl | (simp [errW_none, errW_some] <;> rfl) | (simp [*, errW_none, errW_some] <;> rfl), by (with_reducible repeat (first | apply Kd.R_alloc | apply Kd.R_drewN | apply Kd.R_drew)); exact HO141.out, by repeat (first | (with_reducible first | exact HB.out | apply below_alloc | apply pw_below_drewN | apply below_drew1) | exact HB.out)⟩

end Go.Proofs.YtpalafegcndccaaDoor.X


namespace Go.Proofs
open Go.Shelf
def Tryd.lays169_ren : Go.Shelf.Ren := ⟨fun | 169 => 53 | n => n, fun | 70 => 80 | 9 => 9 | 0 => 0 | 72 => 82 | 37 => 34 | 127 => 90 | 3 => 3 | 5 => 5 | n => n, fun | n => n⟩
theorem Tryd.lays169 : Go.Proofs.Lays.n169 Tryd.prog Tryd.lays169_ren := {
  mixed := by kernel_rfl
  f169 := Tryd.func53.trans (congrArg some (by kernel_rfl))
  t0 := Tryd.underlying0
  a0 := Tryd.isAgg0
  z0 := Tryd.sizeOf0
  v0 := Tryd.zeroValue0
  t3 := Tryd.underlying3
  a3 := Tryd.isAgg3
  z3 := Tryd.sizeOf3
  v3 := Tryd.zeroValue3
  t9 := Tryd.underlying9
  a9 := Tryd.isAgg9
  z9 := Tryd.sizeOf9
  v9 := Tryd.zeroValue9
  t37 := Tryd.underlying34
  a37 := Tryd.isAgg34
  z37 := Tryd.sizeOf34
  v37 := Tryd.zeroValue34
  t70 := Tryd.underlying80
  a70 := Tryd.isAgg80
  z70 := Tryd.sizeOf80
  v70 := Tryd.zeroValue80
  t72 := Tryd.underlying82
  a72 := Tryd.isAgg82
  z72 := Tryd.sizeOf82
  v72 := Tryd.zeroValue82
  t127 := Tryd.underlying90
  a127 := Tryd.isAgg90
  z127 := Tryd.sizeOf90
  v127 := Tryd.zeroValue90 }
theorem Tryd.Builder_Extra_169 : Builder.Extra Tryd.prog Tryd.lays169_ren := {
  sizeBuilder := by kernel_rfl
  liesBuilder := by kernel_rfl
  t5 := Tryd.underlying5
  a5 := Tryd.isAgg5
  z5 := Tryd.sizeOf5
  v5 := Tryd.zeroValue5
  infoByte := by kernel_rfl
  cellsByte := by kernel_rfl
  sizeByte := by kernel_rfl
  neB5 := by decide }
open Go.RowKit in
/-- (*strings.Builder).String: "String returns the accumulated string.": WHATEVER THE BUILDER HOLDS. (LAID: no walk: one application.) -/
theorem Tryd.Builder_String_any (B b : Nat) (l : List UInt8) (w : World) (h : Lib.IsBuilder 82 5 B b (Lib.byteCells l) w) (hBw : B ≤ w.heap.size) :
    Calls Tryd.prog 53 #[.pointer (some ⟨b, 0, none⟩)] w fun e w' => e = .returned (.string ⟨l.toArray⟩) ∧ Below B w w' := Any.Builder_String_any Tryd.lays169 Tryd.Builder_Extra_169 B b l w h hBw
def Tryd.laysM171_ren : Go.Shelf.Ren := ⟨fun | 171 => 62 | 243 => 68 | 246 => 81 | 283 => 90 | 284 => 91 | 285 => 92 | 286 => 93 | 129 => 98 | 317 => 97 | 318 => 99 | 319 => 100 | 320 => 101 | 337 => 102 | 338 => 103 | n => n, fun | 3 => 3 | 9 => 9 | 2 => 2 | 4 => 4 | 171 => 118 | 0 => 0 | 53 => 67 | 37 => 34 | 5 => 5 | 173 => 121 | 212 => 128 | 51 => 109 | 20 => 20 | 213 => 129 | 46 => 94 | 232 => 136 | 233 => 137 | n => n, fun | 17 => 3 | 18 => 6 | 19 => 7 | n => n⟩
theorem Tryd.laysM171 : Go.Proofs.LaysM.n171 Tryd.prog Tryd.laysM171_ren := {
  mixed := by kernel_rfl
  f129 := Tryd.func98.trans (congrArg some (by kernel_rfl))
  f171 := Tryd.func62.trans (congrArg some (by kernel_rfl))
  f243 := Tryd.func68.trans (congrArg some (by kernel_rfl))
  f246 := Tryd.func81.trans (congrArg some (by kernel_rfl))
  f283 := Tryd.func90.trans (congrArg some (by kernel_rfl))
  f284 := Tryd.func91.trans (congrArg some (by kernel_rfl))
  f285 := Tryd.func92.trans (congrArg some (by kernel_rfl))
  f286 := Tryd.func93.trans (congrArg some (by kernel_rfl))
  f317 := Tryd.func97.trans (congrArg some (by kernel_rfl))
  f318 := Tryd.func99.trans (congrArg some (by kernel_rfl))
  f319 := Tryd.func100.trans (congrArg some (by kernel_rfl))
  f320 := Tryd.func101.trans (congrArg some (by kernel_rfl))
  f337 := Tryd.func102.trans (congrArg some (by kernel_rfl))
  f338 := Tryd.func103.trans (congrArg some (by kernel_rfl))
  t0 := Tryd.underlying0
  a0 := Tryd.isAgg0
  z0 := Tryd.sizeOf0
  v0 := Tryd.zeroValue0
  t2 := Tryd.underlying2
  a2 := Tryd.isAgg2
  z2 := Tryd.sizeOf2
  v2 := Tryd.zeroValue2
  t3 := Tryd.underlying3
  a3 := Tryd.isAgg3
  z3 := Tryd.sizeOf3
  v3 := Tryd.zeroValue3
  t4 := Tryd.underlying4
  a4 := Tryd.isAgg4
  z4 := Tryd.sizeOf4
  v4 := Tryd.zeroValue4
  t5 := Tryd.underlying5
  a5 := Tryd.isAgg5
  z5 := Tryd.sizeOf5
  v5 := Tryd.zeroValue5
  t9 := Tryd.underlying9
  a9 := Tryd.isAgg9
  z9 := Tryd.sizeOf9
  v9 := Tryd.zeroValue9
  t20 := Tryd.underlying20
  a20 := Tryd.isAgg20
  z20 := Tryd.sizeOf20
  v20 := Tryd.zeroValue20
  t37 := Tryd.underlying34
  a37 := Tryd.isAgg34
  z37 := Tryd.sizeOf34
  v37 := Tryd.zeroValue34
  t46 := Tryd.underlying94
  a46 := Tryd.isAgg94
  z46 := Tryd.sizeOf94
  v46 := Tryd.zeroValue94
  t51 := Tryd.underlying109
  a51 := Tryd.isAgg109
  z51 := Tryd.sizeOf109
  v51 := Tryd.zeroValue109
  t53 := Tryd.underlying67
  a53 := Tryd.isAgg67
  z53 := Tryd.sizeOf67
  v53 := Tryd.zeroValue67
  t171 := Tryd.underlying118
  a171 := Tryd.isAgg118
  z171 := Tryd.sizeOf118
  v171 := Tryd.zeroValue118
  t173 := Tryd.underlying121
  a173 := Tryd.isAgg121
  z173 := Tryd.sizeOf121
  v173 := Tryd.zeroValue121
  t212 := Tryd.underlying128
  a212 := Tryd.isAgg128
  z212 := Tryd.sizeOf128
  v212 := Tryd.zeroValue128
  t213 := Tryd.underlying129
  a213 := Tryd.isAgg129
  z213 := Tryd.sizeOf129
  t232 := Tryd.underlying136
  a232 := Tryd.isAgg136
  z232 := Tryd.sizeOf136
  v232 := Tryd.zeroValue136
  t233 := Tryd.underlying137
  a233 := Tryd.isAgg137
  z233 := Tryd.sizeOf137
  v233 := Tryd.zeroValue137
  g17 := by kernel_rfl
  g18 := by kernel_rfl
  g19 := by kernel_rfl
  i0 := by kernel_rfl
  i2 := by kernel_rfl
  i3 := by kernel_rfl
  i4 := by kernel_rfl
  i5 := by kernel_rfl
  i9 := by kernel_rfl
  i20 := by kernel_rfl
  i37 := by kernel_rfl
  i46 := by kernel_rfl
  i51 := by kernel_rfl
  i53 := by kernel_rfl
  i171 := by kernel_rfl
  i173 := by kernel_rfl
  i212 := by kernel_rfl
  i232 := by kernel_rfl
  i233 := by kernel_rfl
  m17 := by kernel_rfl
  m18 := by kernel_rfl
  m19 := by kernel_rfl }
open Go.RowKit Go.Sort Go.Lib in
/-- strconv.Itoa: "Itoa is equivalent to FormatInt(int64(i), 10).": i's DECIMAL NUMERAL ('Lib.itoa': a '-' where i is negative, then the digits), FOR EVERY int. The world behind the call: the world before it, new blocks behind the heap (the library's 'var a [24]byte'), draws. (LAID: no walk: one application.) -/
theorem Tryd.strconv_Itoa (n : Int) (h0 : -9223372036854775808 ≤ n) (h1 : n ≤ 9223372036854775807) (w : World) (htab : Lib.TabIs Tryd.prog w "internal/strconv.uint64pow10" .u64 Lib.pow10Tab) :
    Calls Tryd.prog 62 #[.int .i64 n] w fun e w' => e = .returned (.string ⟨(Lib.itoa n).toArray⟩) ∧ ∃ k os, w' = grow (w.drewN k) os := Any.strconv_Itoa Tryd.laysM171 n h0 h1 w htab
end Go.Proofs


-- written by a program of this session (wip/ext.py) out of the translation. Not trusted: Lean checks it.
namespace Go.Proofs.YtpalafegcndccaaDoor.X
open Go.RowKit Go.Proofs.YtpalafegcndccaaDoorW.PrintWords Go.Proofs.YtpalafegcndccaaDoorW.PrintLast Go.Proofs.YtpalafegcndccaaDoorW.PrintMore
attribute [local go_sem] max2_int min2_int max_two min_two max_three min_three max_four min_four   -- for this text's walks alone
open Go.Proofs.YtpalafegcndccaaDoorG
set_option linter.unusedVariables false
set_option linter.unusedSimpArgs false

def strconv_Itoa_62.f (a0 : Int) : Option ByteArray := if -9223372036854775808 ≤ a0 ∧ a0 ≤ 9223372036854775807 then some ⟨(Lib.itoa a0).toArray⟩ else none
theorem strconv_Itoa_62.calls (a0 : Int) (r : ByteArray) (w : World) (hG : Glob w) (h : strconv_Itoa_62.f a0 = some r) :
    Calls Tryd.prog 62 #[.int .i64 a0] w fun e w' => e = .returned (.string r) ∧ Below w.heap.size w w' := by
  unfold strconv_Itoa_62.f at h
  split at h
  · rename_i hc
    simp only [Option.some.injEq] at h
    subst h
    refine (Go.Proofs.Tryd.strconv_Itoa a0 hc.1 hc.2 w hG.tab).mono ?_
    rintro e w' ⟨rfl, k, os, rfl⟩
    exact ⟨rfl, Lib.below_grow _ w (Nat.le_refl _) k os⟩
  · cases h

end Go.Proofs.YtpalafegcndccaaDoor.X


-- written by a program of this session (wip/ext.py) out of the translation. Not trusted: Lean checks it.
namespace Go.Proofs.YtpalafegcndccaaDoor.X
open Go.RowKit Go.Proofs.YtpalafegcndccaaDoorW.PrintWords Go.Proofs.YtpalafegcndccaaDoorW.PrintLast Go.Proofs.YtpalafegcndccaaDoorW.PrintMore
attribute [local go_sem] max2_int min2_int max_two min_two max_three min_three max_four min_four   -- for this text's walks alone
open Go.Proofs.YtpalafegcndccaaDoorG
set_option linter.unusedVariables false
set_option linter.unusedSimpArgs false

def impl_decimal.f (a0 : Int) : Option (ByteArray) := (strconv_Itoa_62.f a0).bind fun t161 => (some t161)
set_option maxHeartbeats 8000000 in
set_option maxRecDepth 100000 in
theorem impl_decimal.calls (a0 : Int) (r : ByteArray) (w : World) (hG : Glob w) (h : impl_decimal.f a0 = some r) :
    Calls Tryd.prog 52 #[.int .i64 a0] w fun e w' => e = .returned (.string r) ∧ Below w.heap.size w w' := by
  have HGL := Aside0.mk hG
  clear hG
  have HB := Aside0.mk (Below.refl w.heap.size w)
  have H : ((strconv_Itoa_62.f a0).bind fun t161 => (some t161)) = some r := h
  clear h
  replace H := Option.bind_eq_some_iff.mp H
  obtain ⟨t161, A20, H⟩ := H
  replace H : (some t161) = some r := H
  have A2 := Aside0.mk A20
  clear A20
  obtain rfl := Option.some.inj H
  go_enter Tryd.func52, Tryd.ntmps52
  go_wp2_with (first | ((with_reducible refine gate_callee (f := 62) rfl ?_); refine goesL_ (some 4) rfl rfl Tryd.func62 (by kernel_rfl) rfl #[.int .i64 a0] rfl (by (try simp only [List.map_toArray, List.map_cons, List.map_nil]); first | done | rfl | (simp only [List.length_drop, List.length_take]; rfl)) ?_; (with_reducible refine (strconv_Itoa_62.calls a0 t161 _ ?side1 A2.out).mono ?_); (case side1 => exact Glob.below HGL.out (by repeat (first | (with_reducible first | exact HB.out | apply below_alloc | apply pw_below_drewN | apply below_drew1) | exact HB.out))); rintro e w3 ⟨rfl, hb⟩; refine ⟨_, rfl, ?_⟩; have n0_ := Aside0.mk (below_step (by repeat (first | (with_reducible first | exact HB.out | apply below_alloc | apply pw_below_drewN | apply below_drew1) | exact HB.out)) hb); clear HB; have HB := n0_; clear n0_; (try clear hb); (try clear hb2); (try clear hk); (try clear hi)))
  go_ret
  exact ⟨by first | rfl | (simp [errW_none, errW_some] <;> rfl) | (simp [*, errW_none, errW_some] <;> rfl), by repeat (first | (with_reducible first | exact HB.out | apply below_alloc | apply pw_below_drewN | apply below_drew1) | exact HB.out)⟩

end Go.Proofs.YtpalafegcndccaaDoor.X


namespace Go.Proofs.YtpalafegcndccaaDoorOwn
open Go.RowKit Go.Proofs.YtpalafegcndccaaDoorW.PrintWords
set_option linter.unusedVariables false
set_option linter.unusedSimpArgs false
theorem ite_some {α : Type} {p : Prop} [Decidable p] {a : Option α} {r : α} (h : (if p then a else none) = some r) : p ∧ a = some r := by
  by_cases c : p
  · rw [if_pos c] at h; exact ⟨c, h⟩
  · rw [if_neg c] at h; cases h
/-- Block g alone is written. -/
structure Only (w w' : World) (g : Nat) : Prop where
  os : w'.os = w.os
  tape : w'.tape = w.tape
  output : w'.output = w.output
  size : w'.heap.size = w.heap.size
  others : ∀ k, k ≠ g → w'.heap[k]? = w.heap[k]?
theorem Only.refl (w : World) (g : Nat) : Only w w g := ⟨rfl, rfl, rfl, rfl, fun _ _ => rfl⟩
theorem Only.set {w w' : World} {g : Nat} (h : Only w w' g) (j : Nat) (v : Value) : Only w (w'.setCell ⟨g, j, none⟩ v) g :=
  ⟨h.os, h.tape, h.output, by simp [World.setCell, h.size], fun k hk => (Below.heap_setCell w' ⟨g, j, none⟩ v k hk).trans (h.others k hk)⟩
theorem Only.below {w0 w w' : World} {g : Nat} (h : Only w w' g) (hB : Below w0.heap.size w0 w) (hg : w0.heap.size ≤ g) : Below w0.heap.size w0 w' :=
  ⟨h.os.trans hB.os, h.tape.trans hB.tape, h.output.trans hB.output, by rw [h.size]; exact hB.size, fun i hi => (h.others i (by omega)).trans (hB.block i hi)⟩
section
variable {α : Type} {d : Kd α} {e base g t : Nat} {ok : Nat → Prop} {w w' : World} {v : Value} {xs : List α} {cells : Array Value}
end
end Go.Proofs.YtpalafegcndccaaDoorOwn


-- written by a program of this session (wip/ext.py) out of the translation. Not trusted: Lean checks it.
namespace Go.Proofs.YtpalafegcndccaaDoor.X
open Go.RowKit Go.Proofs.YtpalafegcndccaaDoorW.PrintWords Go.Proofs.YtpalafegcndccaaDoorW.PrintLast Go.Proofs.YtpalafegcndccaaDoorW.PrintMore
attribute [local go_sem] max2_int min2_int max_two min_two max_three min_three max_four min_four   -- for this text's walks alone
open Go.Proofs.YtpalafegcndccaaDoorG
set_option linter.unusedVariables false
set_option linter.unusedSimpArgs false

set_option maxHeartbeats 1000000 in
set_option maxRecDepth 100000 in
theorem bd_used (b : Nat) (w : World) (h0 : w.cell? ⟨b, 0, none⟩ = some (.pointer (some ⟨b, 0, none⟩))) :
    Calls Tryd.prog 61 #[.pointer (some ⟨b, 0, none⟩)] w fun e w' => e = .returned (.tuple #[]) ∧ w' = w := by
  obtain ⟨j, hj, _⟩ := Option.map_eq_some_iff.1 (show (Tryd.prog.info? 82).map (·.size) = some 2 from by kernel_rfl)
  have hu82 := Tryd.underlying82
  have hu80 := Tryd.underlying80
  go_enter Tryd.func61, Tryd.ntmps61
  go_wp2
  rw [Lib.run_neq_ptr_same w _ Tryd.underlying80 hj]
  go_wp2
  go_end0
  exact ⟨rfl, rfl⟩
set_option maxHeartbeats 1000000 in
set_option maxRecDepth 100000 in
theorem bd_fresh (b : Nat) (w : World) (h0 : w.cell? ⟨b, 0, none⟩ = some (.pointer none)) (hsh : w.shape? b = some (82, 2)) (hfz : w.frozen? ⟨b, 0, none⟩ = false) :
    Calls Tryd.prog 61 #[.pointer (some ⟨b, 0, none⟩)] w fun e w' => e = .returned (.tuple #[]) ∧ w' = w.setCell ⟨b, 0, none⟩ (.pointer (some ⟨b, 0, none⟩)) := by
  obtain ⟨j, hj, hjs⟩ := Option.map_eq_some_iff.1 (show (Tryd.prog.info? 82).map (·.size) = some 2 from by kernel_rfl)
  have hu82 := Tryd.underlying82
  have hu80 := Tryd.underlying80
  have hu95 := Tryd.underlying95
  go_enter Tryd.func61, Tryd.ntmps61
  go_wp2
  rw [Lib.run_to_unsafe w ⟨b, 0, none⟩ Tryd.underlying80 Tryd.underlying95 hj (by rw [hjs]; decide) hsh (Nat.zero_lt_succ 1)]
  simp only [Result.andThen]
  rw [Oper.upon_value]
  go_wp2
  rw [run_callFunc_extern Tryd.func67 (by kernel_rfl) (by kernel_rfl) (by kernel_rfl) (e := Extern.AbiNoEscape.same) (by kernel_rfl)]
  rw [Lib.run_noEscape]
  simp only [Result.andThen]
  rw [Oper.upon_value]
  go_wp2
  rw [Lib.run_from_unsafe w ⟨b, 0, none⟩ Tryd.underlying95 Tryd.underlying80 hj hsh (by kernel_rfl)]
  simp only [Result.andThen]
  rw [Oper.upon_value]
  go_wp2
  go_end0
  exact ⟨rfl, rfl⟩
theorem bd_check (B b : Nat) (bs : List Value) (w : World) (h : Lib.IsBuilder 82 5 B b bs w) :
    Calls Tryd.prog 61 #[.pointer (some ⟨b, 0, none⟩)] w fun e w' => e = .returned (.tuple #[]) ∧ (Lib.BuilderAt 82 5 B b (.pointer (some ⟨b, 0, none⟩)) bs w' ∧ Below B w w') := by
  rcases h with h | h
  · refine (bd_fresh b w h.cell0 h.shape h.frozen0).mono ?_
    rintro e w' ⟨rfl, rfl⟩
    exact ⟨rfl, h.used _, (Below.refl B w).setCell (p := ⟨b, 0, none⟩) h.1 _⟩
  · refine (bd_used b w h.cell0).mono ?_
    rintro e w' ⟨rfl, rfl⟩
    exact ⟨rfl, h, Below.refl B _⟩
set_option maxHeartbeats 2000000 in
set_option maxRecDepth 100000 in
theorem bd_write (B b : Nat) (bs : List Value) (s : ByteArray) (w : World) (h : Lib.IsBuilder 82 5 B b bs w) (hlen : bs.length + s.size ≤ 140737488355328) (hBw : B ≤ w.heap.size) :
    Calls Tryd.prog 51 #[.pointer (some ⟨b, 0, none⟩), .string s] w fun e w' => e = .returned (.tuple #[.int .i64 s.size, .nilIface]) ∧ (Lib.BuilderAt 82 5 B b (.pointer (some ⟨b, 0, none⟩)) (bs ++ Lib.strCells s) w' ∧ Below B w w') := by
  obtain ⟨i0, hi, hz0, hz1, hz2⟩ := info_parts (show (Tryd.prog.info? 5).map (fun i => (i.zero, i.size, i.bytes)) = some (some (.int .u8 0), 1, 1) from by kernel_rfl)
  have hu82 := Tryd.underlying82
  have hu80 := Tryd.underlying80
  go_enter Tryd.func51, Tryd.ntmps51
  go_wp2_with (go_at_call 61; refine (bd_check B b bs _ h).mono ?_)
  rintro e w1 ⟨rfl, h1, hb1⟩
  obtain ⟨hB, v, hbk, hown, hne⟩ := h1
  have c0 : w1.cell? ⟨b, 0, none⟩ = some (.pointer (some ⟨b, 0, none⟩)) := by rw [Lib.cell_of_heap hbk]; rfl
  have c1 : w1.cell? ⟨b, 1, none⟩ = some v := by rw [Lib.cell_of_heap hbk]; rfl
  go_wp2_with (at_builtin; refine Lib.wpList_append_own_string _ rfl _ _ 34 9 rfl B 5 i0 Tryd.underlying34 Tryd.underlying9 hi hz0 hz1 hz2 _ _ _ rfl hown s rfl ?c3 ?c4 ?c5 ?_)
  case c3 => unfold maxLen; omega
  case c4 => omega
  case c5 => have := hb1.size; omega
  intro v' w2 hown' hgrow _
  have hlt : b < w1.heap.size := by
    rcases Nat.lt_or_ge b w1.heap.size with h' | h'
    · exact h'
    · simp [Array.getElem?_eq_none h'] at hbk
  have hb2 : w2.heap[b]? = some (.cells #[.pointer (some ⟨b, 0, none⟩), v] 82 (0, 0)) := by
    rw [hgrow.block b hlt (fun e => hne e.symm)]
    exact hbk
  have d0 : w2.cell? ⟨b, 0, none⟩ = some (.pointer (some ⟨b, 0, none⟩)) := by rw [Lib.cell_of_heap hb2]; rfl
  have d1 : w2.cell? ⟨b, 1, none⟩ = some v := by rw [Lib.cell_of_heap hb2]; rfl
  have f1 : w2.frozen? ⟨b, 1, none⟩ = false := Lib.frozen_of_heap hb2 1
  obtain ⟨ao, n', cap, rfl⟩ : ∃ ao n' cap, v' = .slice ao n' cap := by
    rcases hown'.2 with ⟨hv, _⟩ | ⟨g, cap, cur, hv, _⟩
    · exact ⟨_, _, _, hv⟩
    · exact ⟨_, _, _, hv⟩
  go_wp2
  go_ret2
  refine ⟨rfl, ?_, ?_⟩
  · exact Lib.BuilderAt.put (T := 82) (e := 5) hB hb2 (bs' := bs ++ Lib.strCells s) (by simpa [Lib.strCells_length] using hown') (by decide)
  · exact (hb1.grown hgrow (by have := hb1.size; omega) (fun k hk => (hown.lt k hk).1)).setCell (p := ⟨b, 1, none⟩) hB _
theorem ownsRow_on {B : Nat} {e : TypeId} {k : Nat} {v : Value} {n : Nat} {xs : List Value} {w w' : World} (h : w.ownsRow B e k v n xs) (hb : Below w.heap.size w w') : w'.ownsRow B e k v n xs := by
  refine ⟨h.1, ?_⟩
  rcases h.2 with h | ⟨g, cap, cur, hv, hbase, hg, hr⟩
  · exact .inl h
  · refine .inr ⟨g, cap, cur, hv, hbase, (hb.block g ?_).trans hg, hr⟩
    rcases Nat.lt_or_ge g w.heap.size with h' | h'
    · exact h'
    · simp [Array.getElem?_eq_none h'] at hg
theorem isB_below {T e B b : Nat} {bs : List Value} {w w' : World} (h : Lib.IsBuilder T e B b bs w) (hb : Below w.heap.size w w') : Lib.IsBuilder T e B b bs w' := by
  have key : ∀ p, Lib.BuilderAt T e B b p bs w → Lib.BuilderAt T e B b p bs w' := by
    intro p hp
    have hlt := hp.lt
    obtain ⟨hB, v, hk, ho, hn⟩ := hp
    exact ⟨hB, v, (hb.block b hlt).trans hk, ownsRow_on ho hb, hn⟩
  rcases h with h | h
  · exact .inl (key _ h)
  · exact .inr (key _ h)
theorem isB_drew {T e B b : Nat} {bs : List Value} {w : World} (h : Lib.IsBuilder T e B b bs w) : Lib.IsBuilder T e B b bs w.drew := h
theorem isB_box {T e B b : Nat} {w : World} (h : w.heap[b]? = some (.cells #[.pointer none, .slice none 0 0] T (0, 0))) (hB : B ≤ b) : Lib.IsBuilder T e B b (Lib.byteCells []) w := .inl ⟨hB, _, h, ⟨rfl, .inl ⟨rfl, rfl⟩⟩, by simp [Value.ownBlock]⟩
/-- The bytes of a text. -/
def hB_ (s : ByteArray) : List UInt8 := s.data.toList
theorem hB_append (s t : ByteArray) : hB_ (s ++ t) = hB_ s ++ hB_ t := by unfold hB_; simp
theorem isB_wrote {T e B b : Nat} {s t : ByteArray} {w : World} (h : Lib.BuilderAt T e B b (.pointer (some ⟨b, 0, none⟩)) (Lib.byteCells (hB_ s) ++ Lib.strCells t) w) : Lib.IsBuilder T e B b (Lib.byteCells (hB_ (s ++ t))) w := by
  have e : Lib.byteCells (hB_ (s ++ t)) = Lib.byteCells (hB_ s) ++ Lib.strCells t := by rw [hB_append]; simp [Lib.byteCells, Lib.strCells, hB_]
  rw [e]
  exact .inr h
theorem isB_only {T e B b g t : Nat} {bs : List Value} {cells : Array Value} {w w' : World} (h : Lib.IsBuilder T e B b bs w) (hb : w.heap[g]? = some (.cells cells t (0, 0))) (hn : b ≠ g) (ho : Go.Proofs.YtpalafegcndccaaDoorOwn.Only w w' g) (ht : e ≠ t := by decide) : Lib.IsBuilder T e B b bs w' := by
  have key : ∀ p, Lib.BuilderAt T e B b p bs w → Lib.BuilderAt T e B b p bs w' := by
    intro p hp
    obtain ⟨hB, v, hk, hw, hne⟩ := hp
    refine ⟨hB, v, (ho.others b hn).trans hk, ⟨hw.1, ?_⟩, hne⟩
    rcases hw.2 with h | ⟨g', cap, cur, hv, hbase, hg, hr⟩
    · exact .inl h
    · refine .inr ⟨g', cap, cur, hv, hbase, (ho.others g' ?_).trans hg, hr⟩
      intro e2
      rw [e2, hb] at hg
      injection hg with hg
      injection hg with _ h2
      exact ht h2.symm
  rcases h with h | h
  · exact .inl (key _ h)
  · exact .inr (key _ h)
def impl_historyText.l0 : Nat → List (S40) → ByteArray → Int → Option ByteArray
  | 0, _, _, _ => none
  | k + 1, l, s, x => if x < (l.length : Int) then (if 0 ≤ x then ((impl_decimal.f ((rd_T40 l x).f0)).bind fun t => (impl_eventWords.f).bind fun ws => if 0 ≤ ((rd_T40 l x).f1) then (if ((rd_T40 l x).f1) < (ws.length : Int) then (if s.size + (((t ++ (⟨#[32]⟩ : ByteArray)) ++ rdOf ByteArray.empty ws ((rd_T40 l x).f1)) ++ (⟨#[10]⟩ : ByteArray)).size ≤ 140737488355328 then impl_historyText.l0 k l (s ++ (((t ++ (⟨#[32]⟩ : ByteArray)) ++ rdOf ByteArray.empty ws ((rd_T40 l x).f1)) ++ (⟨#[10]⟩ : ByteArray))) (wrap64 (x + 1)) else none) else none) else none) else none) else some s
def impl_historyText.f (k : Nat) (l0 : List (S40)) : Option ByteArray := impl_historyText.l0 k l0 ⟨#[]⟩ 0
theorem impl_historyText.mono_l : ∀ k, ∀ y0 y1 y2, LeO (impl_historyText.l0 k y0 y1 y2) (impl_historyText.l0 (k + 1) y0 y1 y2)
  | 0 => fun _ _ _ r h => by simp [impl_historyText.l0] at h
  | k + 1 => by
    have ih0 := impl_historyText.mono_l k
    intro y0 y1 y2
    unfold impl_historyText.l0
    repeat' first
      | (with_reducible exact ih0 _ _ _)
      | (with_reducible exact LeO.refl _)
      | (with_reducible exact LeO.none _)
      | (with_reducible refine LeO.ite ?_ ?_)
      | (with_reducible refine LeO.bind ?_ (fun _ => ?_))
      | exact ih0 _ _ _
theorem impl_historyText.mono : ∀ a0 k, LeO (impl_historyText.f k a0) (impl_historyText.f (k + 1) a0) := fun a0 k => impl_historyText.mono_l k a0 _ _
set_option maxHeartbeats 8000000 in
set_option maxRecDepth 100000 in
theorem impl_historyText.calls (k : Nat) (A0 : Option Addr) (c0 : Nat) (l0 : List (S40)) (r : ByteArray) (w : World) (hr0 : Kd.C k40 w A0 l0.length l0) (hc0 : l0.length ≤ c0) (hG : Glob w) (h : impl_historyText.f k l0 = some r) :
    Calls Tryd.prog 28 #[.slice A0 l0.length c0] w fun e w' => e = .returned (.string r) ∧ Below w.heap.size w w' := by
  have hu40 := Tryd.underlying40
  have HGL := Aside0.mk hG
  have HR0 := Aside0.mk hr0
  have HC0 := Aside0.mk hc0
  clear hr0 hc0 hG
  have HB := Aside0.mk (Below.refl w.heap.size w)
  have H' := Aside0.mk h
  clear h
  unfold impl_historyText.f at H'
  go_enter Tryd.func28, Tryd.ntmps28
  go_wp2_with ((with_reducible refine gate_dst (N := 3) rfl ?_); refine box_event ?hg (N := 3) ?hd (cs := #[.pointer none, .slice none 0 0]) (t := 82) ?hr ?_; (case hd => rfl); (case hg => rfl); (case hr => first | (go_simp; done) | (go_simp; rfl)); intro gb hg w1 hbox hb; have HBD := Aside0.mk (isB_box (e := 5) (B := w.heap.size) hbox (by rw [hg]; exact below_size HB.out)); have m_ := Aside0.mk (below_step HB.out hb); clear HB; have HB := m_; clear m_; clear hb hbox hg)
  repeat (go_quiet (fail); try go_wp2)
  go_loopg [8] k (fun kq v8 w' => ∃ (s : ByteArray) (x : Int), v8 = .int .i64 x ∧ Aside0 (impl_historyText.l0 kq l0 s x = some r) ∧ Aside0 (kq ≤ k) ∧ Aside0 (Lib.IsBuilder 82 5 w.heap.size gb (Lib.byteCells (hB_ s)) w') ∧ Aside0 (Below w.heap.size w w'))
  case atStart => exact ⟨⟨#[]⟩, 0, rfl, H', ⟨Nat.le_refl _⟩, HBD, HB⟩
  case round =>
    clear H' HB HBD
    obtain ⟨s, x, rfl, HA, HK1, HBD, HB⟩ := hrel
    cases gk with
    | zero => exact absurd HA.out (by simp [impl_historyText.l0])
    | succ k1 =>
      have H := HA.out
      clear HA
      simp only [impl_historyText.l0] at H
      by_cases c2 : x < (l0.length : Int)
      · rw [if_pos c2] at H
        have c2b0 : decide (x < (l0.length : Int)) = true := decide_eq_true c2
        obtain ⟨c3, H⟩ := Go.Proofs.YtpalafegcndccaaDoorOwn.ite_some H
        have c3b0 : decide (0 ≤ x) = true := decide_eq_true c3
        replace H := Option.bind_eq_some_iff.mp H
        obtain ⟨t, a_, H⟩ := H
        have A4 := Aside0.mk a_
        clear a_
        replace H := Option.bind_eq_some_iff.mp H
        obtain ⟨ws, a_, H⟩ := H
        have A5 := Aside0.mk a_
        clear a_
        obtain ⟨c6, H⟩ := Go.Proofs.YtpalafegcndccaaDoorOwn.ite_some H
        obtain ⟨c7, H⟩ := Go.Proofs.YtpalafegcndccaaDoorOwn.ite_some H
        obtain ⟨c8, H⟩ := Go.Proofs.YtpalafegcndccaaDoorOwn.ite_some H
        have H' := Aside0.mk H
        have e32_ : (⟨#[32]⟩ : ByteArray).size = 1 := rfl
        have e10_ : (⟨#[10]⟩ : ByteArray).size = 1 := rfl
        have c9 := c8
        simp only [ByteArray.size_append, e32_, e10_] at c9
        have hz1_ : (9223372036854775807 < t.size + 1) = False := eq_false (by omega)
        have hz2_ : (9223372036854775807 < (t ++ (⟨#[32]⟩ : ByteArray)).size + (rdOf ByteArray.empty ws (rd_T40 l0 x).f1).size) = False := eq_false (by simp only [ByteArray.size_append, e32_]; omega)
        have hz3_ : (9223372036854775807 < ((t ++ (⟨#[32]⟩ : ByteArray)) ++ rdOf ByteArray.empty ws (rd_T40 l0 x).f1).size + 1) = False := eq_false (by simp only [ByteArray.size_append, e32_]; omega)
        have hz4_ : (9223372036854775807 < t.size + 1 + (rdOf ByteArray.empty ws (rd_T40 l0 x).f1).size) = False := eq_false (by omega)
        have hz5_ : (9223372036854775807 < t.size + 1 + (rdOf ByteArray.empty ws (rd_T40 l0 x).f1).size + 1) = False := eq_false (by omega)
        clear c9 e32_ e10_
        have C8 := Aside0.mk c8
        have C67 := Aside0.mk (And.intro c6 c7)
        clear H c8
        obtain ⟨ad, e_, hx0, hx1⟩ := at_T40 HR0.out x c3 c2
        cases e_
        replace hx0 := (HB.out.cell (World.block_lt_of_cell? w _ hx0)).trans hx0
        replace hx1 := (HB.out.cell (World.block_lt_of_cell? w _ hx1)).trans hx1
        replace c2 := eq_true c2
        replace c3 := eq_true c3
        replace c6 := eq_true c6
        replace c7 := eq_true c7
        generalize rd_T40 l0 x = y at *
        go_upto_region 5 with (first | ((with_reducible refine gate_dst (N := 5) rfl ?_); refine box_event ?hg (N := 5) ?hd (cs := #[.int .i64 0, .int .i64 0]) (t := 40) ?hr ?_; (case hd => rfl); (case hg => rfl); (case hr => first | (go_simp; done) | (go_simp; rfl)); intro ge hg w2 hbox hb; have GEe := Aside0.mk (show w.heap.size ≤ ge by rw [hg]; exact below_size HB.out); have NBe := Aside0.mk (show gb ≠ ge by rw [hg]; rcases HBD.out with h_ | h_ <;> exact Nat.ne_of_lt h_.lt); have BKe := Aside0.mk hbox; have m_ := Aside0.mk (isB_below HBD.out hb); clear HBD; have HBD := m_; clear m_; have m_ := Aside0.mk (below_step HB.out hb); clear HB; have HB := m_; clear m_; replace hx0 := (hb.cell (World.block_lt_of_cell? _ _ hx0)).trans hx0; replace hx1 := (hb.cell (World.block_lt_of_cell? _ _ hx1)).trans hx1; clear hb hbox hg; have hz0 : w2.cell? ⟨ge, 0, none⟩ = some (.int .i64 0) := (blk_cell BKe.out 0).trans rfl; have hz1 : w2.cell? ⟨ge, 1, none⟩ = some (.int .i64 0) := (blk_cell BKe.out 1).trans rfl; have hf0 := blk_frozen BKe.out 0; have hf1 := blk_frozen BKe.out 1) | ((with_reducible refine gate_store (t := 40) (p := 5) rfl ?_); refine store_event (t := 40) (p := 5) (v := ?vo_e) (w1 := ((w2.setCell ⟨ge, 0, none⟩ (.int .i64 y.f0)).setCell ⟨ge, 1, none⟩ (.int .i64 y.f1))) ?hg ?ho ?hn ?hr ?_; (case ho => rfl); (case hg => rfl); (case hn => rfl); (case hr => first | (go_simp; done) | (go_simp; rfl)); intro w3 hw; have hO_ : Go.Proofs.YtpalafegcndccaaDoorOwn.Only w2 w3 ge := (by rw [hw]; exact ((Go.Proofs.YtpalafegcndccaaDoorOwn.Only.refl _ _).set 0 _).set 1 _); have hbx_ : w3.heap[ge]? = some (.cells #[.int .i64 y.f0, .int .i64 y.f1] 40 (0, 0)) := (by rw [hw]; refine blk_put (cs := #[.int .i64 y.f0, .int .i64 0]) ?_ 1 _ rfl; refine blk_put (cs := #[.int .i64 0, .int .i64 0]) ?_ 0 _ rfl; exact BKe.out); clear hw hz0 hz1 hf0 hf1 hx0 hx1; have m_ := Aside0.mk (isB_only HBD.out BKe.out NBe.out hO_); clear HBD; have HBD := m_; clear m_; have m_ := Aside0.mk (hO_.below HB.out GEe.out); clear HB; have HB := m_; clear m_; clear BKe; have BKe := Aside0.mk hbx_; clear hbx_ hO_))
        have m_ := Aside0.mk (blk_drew BKe.out)
        clear BKe
        have BKe := m_
        clear m_
        have m_ := Aside0.mk (below_drew1 HB.out)
        clear HB
        have HB := m_
        clear m_
        have m_ := Aside0.mk (isB_drew HBD.out)
        clear HBD
        have HBD := m_
        clear m_
        refine start_ (n := 12) (S := fun w' => w'.cell? ⟨ge, 0, none⟩ = some (.int .i64 y.f0) ∧ w'.cell? ⟨ge, 1, none⟩ = some (.int .i64 y.f1)) (ds := [8, 11]) #[false, false, false, false, false, false, false, false, false, false, false, false] (by kernel_rfl) rfl rfl ⟨(blk_cell BKe.out 0).trans rfl, (blk_cell BKe.out 1).trans rfl⟩ (fun hHeld => ?_)
        generalize w3.drew = w1 at BKe HB HBD hHeld ⊢
        refine pure_ (i := 0) (N := some 12) (v := ?_) (a' := ?_) #[true, false, false, false, false, false, false, false, false, false, false, false] rfl rfl (by kernel_rfl) (fun _ _ _ h => h) (Or.inl ⟨by rfl, ?_⟩) ?_ ?_
        rotate_left
        · intro w'
          go_simp
          first | done | with_reducible rfl | (rw [if_neg (by omega)]; try with_reducible rfl)
        rotate_left
        · simp only [Act.put, List.setIfInBounds_toArray, List.set_cons_zero, List.set_cons_succ, i64_w, i32_w]
          rfl
        refine pure_ (i := 5) (N := some 17) (v := ?_) (a' := ?_) #[true, false, false, false, false, true, false, false, false, false, false, false] rfl rfl (by kernel_rfl) (fun _ _ _ h => h) (Or.inl ⟨by rfl, ?_⟩) ?_ ?_
        rotate_left
        · intro w'
          go_simp
          first | done | with_reducible rfl | (rw [if_neg (by omega)]; try with_reducible rfl)
        rotate_left
        · simp only [Act.put, List.setIfInBounds_toArray, List.set_cons_zero, List.set_cons_succ, i64_w, i32_w]
          rfl
        refine take_ (i := 1) (N := some 13) (v := ?_) (a' := ?_) #[true, true, false, false, false, true, false, false, false, false, false, false] rfl rfl (by kernel_rfl) (fun _ _ _ h => h) (Or.inl ⟨by rfl, ?_⟩) hHeld ?_ ?_
        rotate_left
        · rintro w' ⟨s0, s1⟩
          go_simp
          first | done | with_reducible rfl | (rw [if_neg (by omega)]; try with_reducible rfl)
        rotate_left
        · simp only [Act.put, List.setIfInBounds_toArray, List.set_cons_zero, List.set_cons_succ, i64_w, i32_w]
          rfl
        refine take_ (i := 6) (N := some 18) (v := ?_) (a' := ?_) #[true, true, false, false, false, true, true, false, false, false, false, false] rfl rfl (by kernel_rfl) (fun _ _ _ h => h) (Or.inl ⟨by rfl, ?_⟩) hHeld ?_ ?_
        rotate_left
        · rintro w' ⟨s0, s1⟩
          go_simp
          first | done | with_reducible rfl | (rw [if_neg (by omega)]; try with_reducible rfl)
        rotate_left
        · simp only [Act.put, List.setIfInBounds_toArray, List.set_cons_zero, List.set_cons_succ, i64_w, i32_w]
          rfl
        refine one_ (i := 2) (N := some 14) #[true, true, true, false, false, true, true, false, false, false, false, false] rfl rfl (by kernel_rfl) (by decide) (fun K hK => ?_)
        refine goes_ Tryd.func52 (by kernel_rfl) rfl #[.int .i64 y.f0] (by rfl) rfl rfl (by simp only [List.map_toArray, List.map_cons, List.map_nil]; rfl) ?_
        with_reducible refine (impl_decimal.calls y.f0 t _ (Glob.below HGL.out HB.out) A4.out).mono ?_
        rintro e w5 ⟨rfl, hb⟩
        refine ⟨_, rfl, ?_⟩
        have m_ := Aside0.mk (isB_below HBD.out hb)
        clear HBD
        have HBD := m_
        clear m_
        have m_ := Aside0.mk (blk_below BKe.out hb)
        clear BKe
        have BKe := m_
        clear m_
        have m_ := Aside0.mk (below_step HB.out hb)
        clear HB
        have HB := m_
        clear m_
        clear hb
        refine hK.out _ _ ⟨(blk_cell BKe.out 0).trans rfl, (blk_cell BKe.out 1).trans rfl⟩ (fun hHeld => ?_)
        clear hK K
        refine norm_ (a' := ?_) ?_ ?_
        rotate_left
        · show Act.put _ (some 14) _ = _
          simp only [Act.put, List.setIfInBounds_toArray, List.set_cons_zero, List.set_cons_succ, i64_w, i32_w]
          rfl
        refine pure_ (i := 3) (N := some 15) (v := ?_) (a' := ?_) #[true, true, true, true, false, true, true, false, false, false, false, false] rfl rfl (by kernel_rfl) (fun _ _ _ h => h) (Or.inl ⟨by rfl, ?_⟩) ?_ ?_
        rotate_left
        · intro w'
          go_simp
          first | done | with_reducible rfl | (rw [if_neg (by omega)]; try with_reducible rfl)
        rotate_left
        · simp only [Act.put, List.setIfInBounds_toArray, List.set_cons_zero, List.set_cons_succ, i64_w, i32_w]
          rfl
        refine one_ (i := 4) (N := some 16) #[true, true, true, true, true, true, true, false, false, false, false, false] rfl rfl (by kernel_rfl) (by decide) (fun K hK => ?_)
        refine goes_ Tryd.func35 (by kernel_rfl) rfl #[] (by rfl) rfl rfl (by (try simp only [List.map_toArray, List.map_cons, List.map_nil]); first | done | rfl) ?_
        with_reducible refine (impl_eventWords.calls ws _ A5.out).mono ?_
        rintro e w6 ⟨v0_, rfl, ho, hb⟩
        refine ⟨_, rfl, ?_⟩
        have m_ := Aside0.mk (isB_below HBD.out hb)
        clear HBD
        have HBD := m_
        clear m_
        have m_ := Aside0.mk (blk_below BKe.out hb)
        clear BKe
        have BKe := m_
        clear m_
        have m_ := Aside0.mk (below_step HB.out hb)
        clear HB
        have HB := m_
        clear m_
        obtain ⟨Aw, cw, ew_⟩ := Kd.R_slice ho
        subst ew_
        have hC_ := (Kd.R_reads' ho).2.2
        obtain ⟨adw, eaw_, hxw⟩ := Kd.at_string hC_ y.f1 C67.out.1 C67.out.2
        cases eaw_
        clear hb ho hC_
        refine hK.out _ _ ⟨(blk_cell BKe.out 0).trans rfl, (blk_cell BKe.out 1).trans rfl⟩ (fun hHeld => ?_)
        clear hK K
        refine norm_ (a' := ?_) ?_ ?_
        rotate_left
        · show Act.put _ (some 16) _ = _
          simp only [Act.put, List.setIfInBounds_toArray, List.set_cons_zero, List.set_cons_succ, i64_w, i32_w]
          rfl
        refine pure_ (i := 7) (N := some 19) (v := ?_) (a' := ?_) #[true, true, true, true, true, true, true, true, false, false, false, false] rfl rfl (by kernel_rfl) (fun _ _ _ h => h) (Or.inl ⟨by rfl, ?_⟩) ?_ ?_
        rotate_left
        · intro w'
          go_simp
          first | done | with_reducible rfl | (rw [if_neg (by omega)]; try with_reducible rfl)
        rotate_left
        · simp only [Act.put, List.setIfInBounds_toArray, List.set_cons_zero, List.set_cons_succ, i64_w, i32_w]
          rfl
        refine last_ (i := 8) (N := some 20) #[true, true, true, true, true, true, true, true, true, false, false, false] rfl rfl (by kernel_rfl) (by decide) (fun K hK => ?_)
        refine value_ (w1 := ?_) (v := ?_) (by rfl) rfl ?_ ?_
        rotate_left 2
        · go_simp
          constructor
          · rfl
          · rfl
        refine hK.out _ _ ?_
        clear hK K
        refine norm_ (a' := ?_) ?_ ?_
        rotate_left
        · show Act.put _ (some 20) _ = _
          simp only [Act.put, List.setIfInBounds_toArray, List.set_cons_zero, List.set_cons_succ, i64_w, i32_w]
          rfl
        refine pure_ (i := 9) (N := some 21) (v := ?_) (a' := ?_) #[true, true, true, true, true, true, true, true, true, true, false, false] rfl rfl (by kernel_rfl) (fun _ _ _ h => h) (Or.inl ⟨by rfl, ?_⟩) ?_ ?_
        rotate_left
        · intro w'
          go_simp
          first | done | with_reducible rfl | (rw [if_neg (by omega)]; try with_reducible rfl)
        rotate_left
        · simp only [Act.put, List.setIfInBounds_toArray, List.set_cons_zero, List.set_cons_succ, i64_w, i32_w]
          rfl
        refine pure_ (i := 10) (N := some 22) (v := ?_) (a' := ?_) #[true, true, true, true, true, true, true, true, true, true, true, false] rfl rfl (by kernel_rfl) (fun _ _ _ h => h) (Or.inl ⟨by rfl, ?_⟩) ?_ ?_
        rotate_left
        · intro w'
          go_simp
          first | done | with_reducible rfl | (rw [if_neg (by omega)]; try with_reducible rfl)
        rotate_left
        · simp only [Act.put, List.setIfInBounds_toArray, List.set_cons_zero, List.set_cons_succ, i64_w, i32_w]
          rfl
        refine last_ (i := 11) (N := some 23) #[true, true, true, true, true, true, true, true, true, true, true, true] rfl rfl (by kernel_rfl) (by decide) (fun K hK => ?_)
        refine goes_ Tryd.func51 (by kernel_rfl) rfl #[.pointer (some ⟨gb, 0, none⟩), .string (((t ++ (⟨#[32]⟩ : ByteArray)) ++ rdOf ByteArray.empty ws y.f1) ++ (⟨#[10]⟩ : ByteArray))] (by rfl) rfl rfl (by simp only [List.map_toArray, List.map_cons, List.map_nil]; rfl) ?_
        with_reducible refine (bd_write w.heap.size gb (Lib.byteCells (hB_ s)) _ _ HBD.out (by have h_ := C8.out; have e_ : (hB_ s).length = s.size := Array.length_toList; rw [Lib.byteCells_length, e_]; exact h_) (below_size HB.out)).mono ?_
        rintro e w7 ⟨rfl, hbd, hb⟩
        refine ⟨_, rfl, ?_⟩
        clear HBD BKe
        have HBD := Aside0.mk (isB_wrote hbd)
        have m_ := Aside0.mk (HB.out.trans hb)
        clear HB
        have HB := m_
        clear m_
        clear hb hbd hxw
        refine hK.out _ _ ?_
        clear hK K
        refine norm_ (a' := ?_) ?_ ?_
        rotate_left
        · show Act.put _ (some 23) _ = _
          simp only [Act.put, List.setIfInBounds_toArray, List.set_cons_zero, List.set_cons_succ, i64_w, i32_w]
          rfl
        refine done_ (by kernel_rfl) ?_
        try go_wp2
        go_roundg k1
        case measure => have := HK1.out; omega
        case rel => exact ⟨_, _, by first | rfl | (simp; done), H', ⟨by have := HK1.out; omega⟩, HBD, HB⟩
      · rw [if_neg c2] at H
        have c2b0 : decide (x < (l0.length : Int)) = false := decide_eq_false c2
        clear c2
        obtain rfl := Option.some.inj H
        go_wp2_with (go_at_call 53; refine (Go.Proofs.Tryd.Builder_String_any w.heap.size gb (hB_ s) _ HBD.out (below_size HB.out)).mono ?_; rintro e w9 ⟨rfl, hb⟩; have HB2 := Aside0.mk (HB.out.trans hb); clear hb)
        go_ret
        exact ⟨rfl, HB2.out⟩
end Go.Proofs.YtpalafegcndccaaDoor.X


-- written by a program of this session (wip/ext.py) out of the translation. Not trusted: Lean checks it.
namespace Go.Proofs.YtpalafegcndccaaDoor.X
open Go.RowKit Go.Proofs.YtpalafegcndccaaDoorW.PrintWords Go.Proofs.YtpalafegcndccaaDoorW.PrintLast Go.Proofs.YtpalafegcndccaaDoorW.PrintMore
attribute [local go_sem] max2_int min2_int max_two min_two max_three min_three max_four min_four   -- for this text's walks alone
open Go.Proofs.YtpalafegcndccaaDoorG
set_option linter.unusedVariables false
set_option linter.unusedSimpArgs false

def impl_HistoryText.f (k : Nat) (l0 : List (S40)) : Option (ByteArray × Bool) := (impl_IsHistory.f k l0).bind fun t162 => (if t162 = true then ((impl_historyText.f k l0).bind fun t163 => (some (t163, true))) else (some ((⟨#[]⟩ : ByteArray), false)))
theorem impl_HistoryText.mono : ∀ a0 k, LeO (impl_HistoryText.f k a0) (impl_HistoryText.f (k + 1) a0) := by
  intro a0 k
  unfold impl_HistoryText.f
  repeat' first
      | (with_reducible exact impl_IsHistory.mono _ _)
      | (with_reducible exact impl_historyText.mono _ _)
      | (with_reducible exact LeO.refl _)
      | (with_reducible exact LeO.none _)
      | (with_reducible refine LeO.ite ?_ ?_)
      | (with_reducible refine LeO.bind ?_ (fun _ => ?_))
      | exact impl_IsHistory.mono _ _
      | exact impl_historyText.mono _ _
      | exact LeO.none _
      | refine LeO.ite ?_ ?_
      | refine LeO.bind ?_ (fun _ => ?_)
set_option maxHeartbeats 8000000 in
set_option maxRecDepth 100000 in
theorem impl_HistoryText.calls (k : Nat) (A0 : Option Addr) (c0 : Nat) (l0 : List (S40)) (r1 : ByteArray) (r2 : Bool) (w : World) (hr0 : Kd.C k40 w A0 l0.length l0) (hc0 : l0.length ≤ c0) (hG : Glob w) (h : impl_HistoryText.f k l0 = some (r1, r2)) :
    Calls Tryd.prog 9 #[.slice A0 l0.length c0] w fun e w' => e = .returned (.tuple #[.string r1, .bool r2]) ∧ Below w.heap.size w w' := by
  have HGL := Aside0.mk hG
  clear hG
  have HR0 := Aside0.mk hr0
  have HC0 := Aside0.mk hc0
  clear hr0 hc0
  have HB := Aside0.mk (Below.refl w.heap.size w)
  have H : ((impl_IsHistory.f k l0).bind fun t162 => (if t162 = true then ((impl_historyText.f k l0).bind fun t163 => (some (t163, true))) else (some ((⟨#[]⟩ : ByteArray), false)))) = some (r1, r2) := h
  clear h
  replace H := Option.bind_eq_some_iff.mp H
  obtain ⟨t162, A20, H⟩ := H
  replace H : (if t162 = true then ((impl_historyText.f k l0).bind fun t163 => (some (t163, true))) else (some ((⟨#[]⟩ : ByteArray), false))) = some (r1, r2) := H
  have A2 := Aside0.mk A20
  clear A20
  by_cases c3 : t162 = true
  · subst c3
    have H1 : ((impl_historyText.f k l0).bind fun t163 => (some (t163, true))) = some (r1, r2) := by rw [if_pos rfl] at H; exact H
    clear H
    have H := H1
    clear H1
    replace H := Option.bind_eq_some_iff.mp H
    obtain ⟨t163, A40, H⟩ := H
    replace H : (some (t163, true)) = some (r1, r2) := H
    have A4 := Aside0.mk A40
    clear A40
    simp only [Option.some.injEq, Prod.mk.injEq] at H
    obtain ⟨rfl, rfl⟩ := H
    go_enter Tryd.func9, Tryd.ntmps9
    go_wp2_with (first | ((with_reducible refine gate_callee (f := 17) rfl ?_); refine goesL_ (some 5) rfl rfl Tryd.func17 (by kernel_rfl) rfl #[.slice A0 l0.length c0] rfl (by (try simp only [List.map_toArray, List.map_cons, List.map_nil]); first | done | rfl | (simp only [List.length_drop, List.length_take]; rfl)) ?_; (with_reducible refine (impl_IsHistory.calls k _ _ l0 true _ ?side1 ?side2 A2.out).mono ?_); (case side1 => repeat (first | exact HR0.out | (with_reducible refine Kd.C_alloc ?_ _) | (with_reducible refine Kd.C_drewN ?_ _) | (with_reducible refine Kd.C_drew ?_))); (case side2 => exact HC0.out); rintro e w5 ⟨rfl, hb⟩; refine ⟨_, rfl, ?_⟩; have n0_ := Aside0.mk (below_step (by repeat (first | (with_reducible first | exact HB.out | apply below_alloc | apply pw_below_drewN | apply below_drew1) | exact HB.out)) hb); clear HB; have HB := n0_; clear n0_; (try clear hb); (try clear hb2); (try clear hk); (try clear hi)) | ((with_reducible refine gate_callee (f := 28) rfl ?_); refine goesL_ (some 8) rfl rfl Tryd.func28 (by kernel_rfl) rfl #[.slice A0 l0.length c0] rfl (by (try simp only [List.map_toArray, List.map_cons, List.map_nil]); first | done | rfl | (simp only [List.length_drop, List.length_take]; rfl)) ?_; (with_reducible refine (impl_historyText.calls k _ _ l0 t163 _ ?side1 ?side2 ?side3 A4.out).mono ?_); (case side1 => repeat (first | exact (Kd.C_below HR0.out HB.out) | (with_reducible refine Kd.C_alloc ?_ _) | (with_reducible refine Kd.C_drewN ?_ _) | (with_reducible refine Kd.C_drew ?_))); (case side2 => exact HC0.out); (case side3 => exact Glob.below HGL.out (by repeat (first | (with_reducible first | exact HB.out | apply below_alloc | apply pw_below_drewN | apply below_drew1) | exact HB.out))); rintro e w6 ⟨rfl, hb⟩; refine ⟨_, rfl, ?_⟩; have n0_ := Aside0.mk (below_step (by repeat (first | (with_reducible first | exact HB.out | apply below_alloc | apply pw_below_drewN | apply below_drew1) | exact HB.out)) hb); clear HB; have HB := n0_; clear n0_; (try clear hb); (try clear hb2); (try clear hk); (try clear hi)))
    go_ret2
    exact ⟨by first | rfl | (simp [errW_none, errW_some] <;> rfl) | (simp [*, errW_none, errW_some] <;> rfl), by repeat (first | (with_reducible first | exact HB.out | apply below_alloc | apply pw_below_drewN | apply below_drew1) | exact HB.out)⟩
  · replace c3 := Bool.eq_false_iff.mpr c3
    subst c3
    have H1 : (some ((⟨#[]⟩ : ByteArray), false)) = some (r1, r2) := by rw [if_neg (show ¬ (false = true) by decide)] at H; exact H
    clear H
    have H := H1
    clear H1
    simp only [Option.some.injEq, Prod.mk.injEq] at H
    obtain ⟨rfl, rfl⟩ := H
    go_enter Tryd.func9, Tryd.ntmps9
    go_wp2_with (first | ((with_reducible refine gate_callee (f := 17) rfl ?_); refine goesL_ (some 5) rfl rfl Tryd.func17 (by kernel_rfl) rfl #[.slice A0 l0.length c0] rfl (by (try simp only [List.map_toArray, List.map_cons, List.map_nil]); first | done | rfl | (simp only [List.length_drop, List.length_take]; rfl)) ?_; (with_reducible refine (impl_IsHistory.calls k _ _ l0 false _ ?side1 ?side2 A2.out).mono ?_); (case side1 => repeat (first | exact HR0.out | (with_reducible refine Kd.C_alloc ?_ _) | (with_reducible refine Kd.C_drewN ?_ _) | (with_reducible refine Kd.C_drew ?_))); (case side2 => exact HC0.out); rintro e w7 ⟨rfl, hb⟩; refine ⟨_, rfl, ?_⟩; have n0_ := Aside0.mk (below_step (by repeat (first | (with_reducible first | exact HB.out | apply below_alloc | apply pw_below_drewN | apply below_drew1) | exact HB.out)) hb); clear HB; have HB := n0_; clear n0_; (try clear hb); (try clear hb2); (try clear hk); (try clear hi)))
    go_ret2
    exact ⟨by first | rfl | (simp [errW_none, errW_some] <;> rfl) | (simp [*, errW_none, errW_some] <;> rfl), by repeat (first | (with_reducible first | exact HB.out | apply below_alloc | apply pw_below_drewN | apply below_drew1) | exact HB.out)⟩

end Go.Proofs.YtpalafegcndccaaDoor.X


-- written by a program of this session (wip/ext.py) out of the translation. Not trusted: Lean checks it.
namespace Go.Proofs.YtpalafegcndccaaDoor.X
open Go.RowKit Go.Proofs.YtpalafegcndccaaDoorW.PrintWords Go.Proofs.YtpalafegcndccaaDoorW.PrintLast Go.Proofs.YtpalafegcndccaaDoorW.PrintMore
attribute [local go_sem] max2_int min2_int max_two min_two max_three min_three max_four min_four   -- for this text's walks alone
open Go.Proofs.YtpalafegcndccaaDoorG
set_option linter.unusedVariables false
set_option linter.unusedSimpArgs false

def laws_FnExactHistoryText.j0 : Nat → List (S51) → List (S40) → Bool → Option (Bool)
  | 0, _, _, _ => none
  | k + 1, x0, x6, x34 => if x34 = true then (some false) else ((laws_toEventS.f k x0).bind fun t180 => ((laws_eqEventS.f k x6 t180).bind fun t183 => (if t183 = true then (some true) else (some false))))
def laws_FnExactHistoryText.f (k : Nat) (l0 : List (S51)) : Option (Bool) := (laws_szEventS.f l0 1048576).bind fun t169 => (if t169 < 0 then (some true) else ((laws_toEventS.f k l0).bind fun t170 => ((spec_HistoryText.f k t170).bind fun bt173 => ((laws_toEventS.f k l0).bind fun t175 => ((impl_HistoryText.f k t175).bind fun bt178 => (if bt178.1.toList = bt173.1.toList then (laws_FnExactHistoryText.j0 k l0 t175 (bt178.2 != bt173.2)) else (laws_FnExactHistoryText.j0 k l0 t175 true)))))))
theorem laws_FnExactHistoryText.mono_l : ∀ k, (∀ y0 y1 y2, LeO (laws_FnExactHistoryText.j0 k y0 y1 y2) (laws_FnExactHistoryText.j0 (k + 1) y0 y1 y2))
  | 0 => fun _ _ _ r h => by simp [laws_FnExactHistoryText.j0] at h
  | k + 1 => by
    have ih0 := laws_FnExactHistoryText.mono_l k
    · intro y0 y1 y2
      unfold laws_FnExactHistoryText.j0
      repeat' first
      | (with_reducible exact ih0 _ _ _)
      | (with_reducible exact impl_HistoryText.mono _ _)
      | (with_reducible exact laws_eqEventS.mono _ _ _)
      | (with_reducible exact laws_toEventS.mono _ _)
      | (with_reducible exact spec_HistoryText.mono _ _)
      | (with_reducible exact LeO.refl _)
      | (with_reducible exact LeO.none _)
      | (with_reducible refine LeO.ite ?_ ?_)
      | (with_reducible refine LeO.bind ?_ (fun _ => ?_))
      | exact ih0 _ _ _
      | exact impl_HistoryText.mono _ _
      | exact laws_eqEventS.mono _ _ _
      | exact laws_toEventS.mono _ _
      | exact spec_HistoryText.mono _ _
      | exact LeO.none _
      | refine LeO.ite ?_ ?_
      | refine LeO.bind ?_ (fun _ => ?_)
theorem laws_FnExactHistoryText.mono : ∀ a0 k, LeO (laws_FnExactHistoryText.f k a0) (laws_FnExactHistoryText.f (k + 1) a0) := by
  intro a0 k
  have ih0 := laws_FnExactHistoryText.mono_l k
  unfold laws_FnExactHistoryText.f
  repeat' first
      | (with_reducible exact ih0 _ _ _)
      | (with_reducible exact impl_HistoryText.mono _ _)
      | (with_reducible exact laws_eqEventS.mono _ _ _)
      | (with_reducible exact laws_toEventS.mono _ _)
      | (with_reducible exact spec_HistoryText.mono _ _)
      | (with_reducible exact LeO.refl _)
      | (with_reducible exact LeO.none _)
      | (with_reducible refine LeO.ite ?_ ?_)
      | (with_reducible refine LeO.bind ?_ (fun _ => ?_))
      | exact ih0 _ _ _
      | exact impl_HistoryText.mono _ _
      | exact laws_eqEventS.mono _ _ _
      | exact laws_toEventS.mono _ _
      | exact spec_HistoryText.mono _ _
      | exact LeO.none _
      | refine LeO.ite ?_ ?_
      | refine LeO.bind ?_ (fun _ => ?_)
set_option maxHeartbeats 8000000 in
set_option maxRecDepth 100000 in
theorem laws_FnExactHistoryText.calls (k : Nat) (A0 : Option Addr) (c0 : Nat) (l0 : List (S51)) (r : Bool) (w : World) (hr0 : Kd.C k51 w A0 l0.length l0) (hc0 : l0.length ≤ c0) (hG : Glob w) (h : laws_FnExactHistoryText.f k l0 = some r) (hr_ : r = true) :
    Calls Tryd.prog 3 #[.slice A0 l0.length c0] w fun e w' => e = .returned (.bool r) ∧ Below w.heap.size w w' := by
  have HR_ := Aside0.mk hr_
  clear hr_
  have HGL := Aside0.mk hG
  clear hG
  have HR0 := Aside0.mk hr0
  have HC0 := Aside0.mk hc0
  clear hr0 hc0
  have HB := Aside0.mk (Below.refl w.heap.size w)
  have H : ((laws_szEventS.f l0 1048576).bind fun t169 => (if t169 < 0 then (some true) else ((laws_toEventS.f k l0).bind fun t170 => ((spec_HistoryText.f k t170).bind fun bt173 => ((laws_toEventS.f k l0).bind fun t175 => ((impl_HistoryText.f k t175).bind fun bt178 => (if bt178.1.toList = bt173.1.toList then (laws_FnExactHistoryText.j0 k l0 t175 (bt178.2 != bt173.2)) else (laws_FnExactHistoryText.j0 k l0 t175 true)))))))) = some r := h
  clear h
  replace H := Option.bind_eq_some_iff.mp H
  obtain ⟨t169, A20, H⟩ := H
  replace H : (if t169 < 0 then (some true) else ((laws_toEventS.f k l0).bind fun t170 => ((spec_HistoryText.f k t170).bind fun bt173 => ((laws_toEventS.f k l0).bind fun t175 => ((impl_HistoryText.f k t175).bind fun bt178 => (if bt178.1.toList = bt173.1.toList then (laws_FnExactHistoryText.j0 k l0 t175 (bt178.2 != bt173.2)) else (laws_FnExactHistoryText.j0 k l0 t175 true))))))) = some r := H
  have A2 := Aside0.mk A20
  clear A20
  by_cases c3 : t169 < 0
  · rw [if_pos c3] at H
    have c3b0 : decide (t169 < 0) = true := decide_eq_true c3
    clear c3
    obtain rfl := Option.some.inj H
    go_enter Tryd.func3, Tryd.ntmps3
    go_wp2_with (first | ((with_reducible refine gate_callee (f := 6) rfl ?_); refine goesL_ (some 11) rfl rfl Tryd.func6 (by kernel_rfl) rfl #[.slice A0 l0.length c0, .int .i64 1048576] rfl (by (try simp only [List.map_toArray, List.map_cons, List.map_nil]); first | done | rfl | (simp only [List.length_drop, List.length_take]; rfl)) ?_; (with_reducible refine (laws_szEventS.calls _ _ l0 1048576 t169 _ ?side1 ?side2 A2.out).mono ?_); (case side1 => repeat (first | exact HR0.out | (with_reducible refine Kd.C_alloc ?_ _) | (with_reducible refine Kd.C_drewN ?_ _) | (with_reducible refine Kd.C_drew ?_))); (case side2 => exact HC0.out); rintro e w' ⟨rfl, ⟨nd, rfl⟩⟩; refine ⟨_, rfl, ?_⟩))
    go_ret
    exact ⟨by first | rfl | (simp [errW_none, errW_some] <;> rfl) | (simp [*, errW_none, errW_some] <;> rfl), by repeat (first | (with_reducible first | exact HB.out | apply below_alloc | apply pw_below_drewN | apply below_drew1) | exact HB.out)⟩
  · rw [if_neg c3] at H
    have c3b0 : decide (t169 < 0) = false := decide_eq_false c3
    clear c3
    replace H := Option.bind_eq_some_iff.mp H
    obtain ⟨t170, A40, H⟩ := H
    replace H : ((spec_HistoryText.f k t170).bind fun bt173 => ((laws_toEventS.f k l0).bind fun t175 => ((impl_HistoryText.f k t175).bind fun bt178 => (if bt178.1.toList = bt173.1.toList then (laws_FnExactHistoryText.j0 k l0 t175 (bt178.2 != bt173.2)) else (laws_FnExactHistoryText.j0 k l0 t175 true))))) = some r := H
    have A4 := Aside0.mk A40
    clear A40
    replace H := Option.bind_eq_some_iff.mp H
    obtain ⟨⟨t173, t174⟩, A50, H⟩ := H
    replace H : ((laws_toEventS.f k l0).bind fun t175 => ((impl_HistoryText.f k t175).bind fun bt178 => (if bt178.1.toList = t173.toList then (laws_FnExactHistoryText.j0 k l0 t175 (bt178.2 != t174)) else (laws_FnExactHistoryText.j0 k l0 t175 true)))) = some r := H
    have A5 := Aside0.mk A50
    clear A50
    replace H := Option.bind_eq_some_iff.mp H
    obtain ⟨t175, A60, H⟩ := H
    replace H : ((impl_HistoryText.f k t175).bind fun bt178 => (if bt178.1.toList = t173.toList then (laws_FnExactHistoryText.j0 k l0 t175 (bt178.2 != t174)) else (laws_FnExactHistoryText.j0 k l0 t175 true))) = some r := H
    have A6 := Aside0.mk A60
    clear A60
    replace H := Option.bind_eq_some_iff.mp H
    obtain ⟨⟨t178, t179⟩, A70, H⟩ := H
    replace H : (if t178.toList = t173.toList then (laws_FnExactHistoryText.j0 k l0 t175 (t179 != t174)) else (laws_FnExactHistoryText.j0 k l0 t175 true)) = some r := H
    have A7 := Aside0.mk A70
    clear A70
    have HC8 := Aside0.mk H
    clear H
    go_enter Tryd.func3, Tryd.ntmps3
    go_upto_region 8 with (first | ((with_reducible refine gate_callee (f := 6) rfl ?_); refine goesL_ (some 11) rfl rfl Tryd.func6 (by kernel_rfl) rfl #[.slice A0 l0.length c0, .int .i64 1048576] rfl (by (try simp only [List.map_toArray, List.map_cons, List.map_nil]); first | done | rfl | (simp only [List.length_drop, List.length_take]; rfl)) ?_; (with_reducible refine (laws_szEventS.calls _ _ l0 1048576 t169 _ ?side1 ?side2 A2.out).mono ?_); (case side1 => repeat (first | exact HR0.out | (with_reducible refine Kd.C_alloc ?_ _) | (with_reducible refine Kd.C_drewN ?_ _) | (with_reducible refine Kd.C_drew ?_))); (case side2 => exact HC0.out); rintro e w' ⟨rfl, ⟨nd, rfl⟩⟩; refine ⟨_, rfl, ?_⟩) | ((with_reducible refine gate_callee (f := 8) rfl ?_); refine goesL_ (some 16) rfl rfl Tryd.func8 (by kernel_rfl) rfl #[.slice A0 l0.length c0] rfl (by (try simp only [List.map_toArray, List.map_cons, List.map_nil]); first | done | rfl | (simp only [List.length_drop, List.length_take]; rfl)) ?_; (with_reducible refine (laws_toEventS.calls k _ _ l0 t170 _ ?side1 ?side2 A4.out).mono ?_); (case side1 => repeat (first | exact HR0.out | (with_reducible refine Kd.C_alloc ?_ _) | (with_reducible refine Kd.C_drewN ?_ _) | (with_reducible refine Kd.C_drew ?_))); (case side2 => exact HC0.out); rintro e w9 ⟨v171, rfl, ho0, hb⟩; refine ⟨_, rfl, ?_⟩; have n0_ := Aside0.mk (Kd.R_lower ho0 (below_size (by repeat (first | (with_reducible first | exact HB.out | apply below_alloc | apply pw_below_drewN | apply below_drew1) | exact HB.out)))); have n1_ := Aside0.mk (below_step (by repeat (first | (with_reducible first | exact HB.out | apply below_alloc | apply pw_below_drewN | apply below_drew1) | exact HB.out)) hb); clear HB; have HO172 := n0_; have HB := n1_; clear n0_ n1_; (try clear hb); (try clear hb2); (try clear hk); (try clear hi); (try clear ho0); obtain ⟨Ao10, co10, eo10⟩ := Kd.R_slice HO172.out; subst eo10) | ((with_reducible refine gate_callee (f := 7) rfl ?_); refine goesL_ (some 17) rfl rfl Tryd.func7 (by kernel_rfl) rfl #[.slice Ao10 t170.length co10] rfl (by (try simp only [List.map_toArray, List.map_cons, List.map_nil]); first | done | rfl | (simp only [List.length_drop, List.length_take]; rfl)) ?_; (with_reducible refine (spec_HistoryText.calls k _ _ t170 t173 t174 _ ?side1 ?side2 A5.out).mono ?_); (case side1 => repeat (first | exact (Kd.R_reads' HO172.out).2.2 | (with_reducible refine Kd.C_alloc ?_ _) | (with_reducible refine Kd.C_drewN ?_ _) | (with_reducible refine Kd.C_drew ?_))); (case side2 => exact (Kd.R_reads' HO172.out).2.1); rintro e w11 ⟨rfl, hb⟩; refine ⟨_, rfl, ?_⟩; have n0_ := Aside0.mk (Kd.R_below (by (with_reducible repeat (first | apply Kd.R_alloc | apply Kd.R_drewN | apply Kd.R_drew)); exact HO172.out) hb); have n1_ := Aside0.mk (below_step (by repeat (first | (with_reducible first | exact HB.out | apply below_alloc | apply pw_below_drewN | apply below_drew1) | exact HB.out)) hb); clear HO172; clear HB; have HO172 := n0_; have HB := n1_; clear n0_ n1_; (try clear hb); (try clear hb2); (try clear hk); (try clear hi)) | ((with_reducible refine gate_callee (f := 8) rfl ?_); refine goesL_ (some 21) rfl rfl Tryd.func8 (by kernel_rfl) rfl #[.slice A0 l0.length c0] rfl (by (try simp only [List.map_toArray, List.map_cons, List.map_nil]); first | done | rfl | (simp only [List.length_drop, List.length_take]; rfl)) ?_; (with_reducible refine (laws_toEventS.calls k _ _ l0 t175 _ ?side1 ?side2 A6.out).mono ?_); (case side1 => repeat (first | exact (Kd.C_below HR0.out HB.out) | (with_reducible refine Kd.C_alloc ?_ _) | (with_reducible refine Kd.C_drewN ?_ _) | (with_reducible refine Kd.C_drew ?_))); (case side2 => exact HC0.out); rintro e w12 ⟨v176, rfl, ho0, hb⟩; refine ⟨_, rfl, ?_⟩; have n0_ := Aside0.mk (Kd.R_elder' (by (with_reducible repeat (first | apply Kd.R_alloc | apply Kd.R_drewN | apply Kd.R_drew)); exact HO172.out) (Kd.R_base ho0) hb); have n1_ := Aside0.mk (Kd.R_lower (Kd.R_new' ho0 (Kd.R_lt (by (with_reducible repeat (first | apply Kd.R_alloc | apply Kd.R_drewN | apply Kd.R_drew)); exact HO172.out))) (below_size (by repeat (first | (with_reducible first | exact HB.out | apply below_alloc | apply pw_below_drewN | apply below_drew1) | exact HB.out)))); have n2_ := Aside0.mk (below_step (by repeat (first | (with_reducible first | exact HB.out | apply below_alloc | apply pw_below_drewN | apply below_drew1) | exact HB.out)) hb); clear HO172; clear HB; have HO172 := n0_; have HO177 := n1_; have HB := n2_; clear n0_ n1_ n2_; (try clear hb); (try clear hb2); (try clear hk); (try clear hi); (try clear ho0); obtain ⟨Ao13, co13, eo13⟩ := Kd.R_slice HO177.out; subst eo13) | ((with_reducible refine gate_callee (f := 9) rfl ?_); refine goesL_ (some 24) rfl rfl Tryd.func9 (by kernel_rfl) rfl #[.slice Ao13 t175.length co13] rfl (by (try simp only [List.map_toArray, List.map_cons, List.map_nil]); first | done | rfl | (simp only [List.length_drop, List.length_take]; rfl)) ?_; (with_reducible refine (impl_HistoryText.calls k _ _ t175 t178 t179 _ ?side1 ?side2 ?side3 A7.out).mono ?_); (case side1 => repeat (first | exact (Kd.R_reads' HO177.out).2.2 | (with_reducible refine Kd.C_alloc ?_ _) | (with_reducible refine Kd.C_drewN ?_ _) | (with_reducible refine Kd.C_drew ?_))); (case side2 => exact (Kd.R_reads' HO177.out).2.1); (case side3 => exact Glob.below HGL.out (by repeat (first | (with_reducible first | exact HB.out | apply below_alloc | apply pw_below_drewN | apply below_drew1) | exact HB.out))); rintro e w14 ⟨rfl, hb⟩; refine ⟨_, rfl, ?_⟩; have n0_ := Aside0.mk (Kd.R_below (by (with_reducible repeat (first | apply Kd.R_alloc | apply Kd.R_drewN | apply Kd.R_drew)); exact HO172.out) hb); have n1_ := Aside0.mk (Kd.R_below (by (with_reducible repeat (first | apply Kd.R_alloc | apply Kd.R_drewN | apply Kd.R_drew)); exact HO177.out) hb); have n2_ := Aside0.mk (below_step (by repeat (first | (with_reducible first | exact HB.out | apply below_alloc | apply pw_below_drewN | apply below_drew1) | exact HB.out)) hb); clear HO172; clear HO177; clear HB; have HO172 := n0_; have HO177 := n1_; have HB := n2_; clear n0_ n1_ n2_; (try clear hb); (try clear hb2); (try clear hk); (try clear hi)))
    (try simp only [Act.put, List.setIfInBounds_toArray, List.set_cons_zero, List.set_cons_succ])
    go_cut [34] (fun v34 wc => ∃ (kq : Nat) (x34_7 : Bool), v34 = .bool x34_7 ∧ Aside0 (laws_FnExactHistoryText.j0 kq l0 t175 x34_7 = some r) ∧ Aside0 (kq ≤ k) ∧ Aside0 (Kd.R k40 40 wc w.heap.size (fun _ => True) (.slice Ao13 t175.length co13) t175) ∧ Aside0 (Below w.heap.size w wc))
    case first =>
      have H := HC8.out
      clear HC8
      by_cases c15 : t178.toList = t173.toList
      · rw [if_pos c15] at H
        have c15b0 : (t178.toList == t173.toList) = true := beq_iff_eq.mpr c15
        have c15b1 : (t178.toList != t173.toList) = false := bne_eq_false_iff_eq.mpr c15
        clear c15
        (first | rw [c15b0] | (simp only [i64_w, i32_w]; rw [c15b0]) | skip)
        have H' := Aside0.mk H
        clear H
        go_wp2
        go_meet
        case rel => exact ⟨_, ((t179 != t174)), (by first | rfl | (simp; done) | (simp [*]; done)), H', ⟨by first | omega | exact Nat.le_refl _⟩, ⟨by (with_reducible repeat (first | apply Kd.R_alloc | apply Kd.R_drewN | apply Kd.R_drew)); exact Kd.R_mono HO177.out (fun _ hk => trivial)⟩, ⟨by repeat (first | (with_reducible first | exact HB.out | apply below_alloc | apply pw_below_drewN | apply below_drew1) | exact HB.out)⟩⟩
      · rw [if_neg c15] at H
        have c15b0 : (t178.toList == t173.toList) = false := beq_eq_false_iff_ne.mpr c15
        have c15b1 : (t178.toList != t173.toList) = true := bne_iff_ne.mpr c15
        (first | rw [c15b0] | (simp only [i64_w, i32_w]; rw [c15b0]) | skip)
        have H' := Aside0.mk H
        clear H
        go_wp2
        go_meet
        case rel => exact ⟨_, (true), (by first | rfl | (simp; done) | (simp [*]; done)), H', ⟨by first | omega | exact Nat.le_refl _⟩, ⟨by (with_reducible repeat (first | apply Kd.R_alloc | apply Kd.R_drewN | apply Kd.R_drew)); exact Kd.R_mono HO177.out (fun _ hk => trivial)⟩, ⟨by repeat (first | (with_reducible first | exact HB.out | apply below_alloc | apply pw_below_drewN | apply below_drew1) | exact HB.out)⟩⟩
    case rest =>
      clear HC8
      try clear c1
      try clear p2
      try clear c3
      try clear c3b0
      try clear c6
      try clear c7
      try clear c8
      try clear c9
      try clear c15
      try clear c15b0
      try clear c15b1
      obtain ⟨kq, x34_7, rfl, HA, HJ7, HO_6, HB⟩ := hcut
      cases kq with
      | zero => exact absurd HA.out (by simp [laws_FnExactHistoryText.j0])
      | succ kj7 =>
        have H := HA.out
        clear HA
        simp only [laws_FnExactHistoryText.j0] at H
        by_cases c16 : x34_7 = true
        · subst c16
          have H1 : (some false) = some r := by rw [if_pos rfl] at H; exact H
          clear H
          have H := H1
          clear H1
          exact absurd (Option.some.inj H) (by rw [HR_.out]; decide)
        · replace c16 := Bool.eq_false_iff.mpr c16
          subst c16
          have H1 : ((laws_toEventS.f kj7 l0).bind fun t180 => ((laws_eqEventS.f kj7 t175 t180).bind fun t183 => (if t183 = true then (some true) else (some false)))) = some r := by rw [if_neg (show ¬ (false = true) by decide)] at H; exact H
          clear H
          have H := H1
          clear H1
          replace H := Option.bind_eq_some_iff.mp H
          obtain ⟨t180, A170, H⟩ := H
          replace H : ((laws_eqEventS.f kj7 t175 t180).bind fun t183 => (if t183 = true then (some true) else (some false))) = some r := H
          have A17 := Aside0.mk A170
          clear A170
          replace H := Option.bind_eq_some_iff.mp H
          obtain ⟨t183, A180, H⟩ := H
          replace H : (if t183 = true then (some true) else (some false)) = some r := H
          have A18 := Aside0.mk A180
          clear A180
          by_cases c19 : t183 = true
          · subst c19
            have H1 : (some true) = some r := by rw [if_pos rfl] at H; exact H
            clear H
            have H := H1
            clear H1
            obtain rfl := Option.some.inj H
            go_wp2_with (first | ((with_reducible refine gate_callee (f := 8) rfl ?_); refine goesL_ (some 37) rfl rfl Tryd.func8 (by kernel_rfl) rfl #[.slice A0 l0.length c0] rfl (by (try simp only [List.map_toArray, List.map_cons, List.map_nil]); first | done | rfl | (simp only [List.length_drop, List.length_take]; rfl)) ?_; (with_reducible refine (laws_toEventS.calls kj7 _ _ l0 t180 _ ?side1 ?side2 A17.out).mono ?_); (case side1 => repeat (first | exact (Kd.C_below HR0.out HB.out) | (with_reducible refine Kd.C_alloc ?_ _) | (with_reducible refine Kd.C_drewN ?_ _) | (with_reducible refine Kd.C_drew ?_))); (case side2 => exact HC0.out); rintro e w20 ⟨v181, rfl, ho0, hb⟩; refine ⟨_, rfl, ?_⟩; have n0_ := Aside0.mk (Kd.R_elder' (by (with_reducible repeat (first | apply Kd.R_alloc | apply Kd.R_drewN | apply Kd.R_drew)); exact HO_6.out) (Kd.R_base ho0) hb); have n1_ := Aside0.mk (Kd.R_lower (Kd.R_new' ho0 (Kd.R_lt (by (with_reducible repeat (first | apply Kd.R_alloc | apply Kd.R_drewN | apply Kd.R_drew)); exact HO_6.out))) (below_size (by repeat (first | (with_reducible first | exact HB.out | apply below_alloc | apply pw_below_drewN | apply below_drew1) | exact HB.out)))); have n2_ := Aside0.mk (below_step (by repeat (first | (with_reducible first | exact HB.out | apply below_alloc | apply pw_below_drewN | apply below_drew1) | exact HB.out)) hb); clear HO_6; clear HB; have HO_6 := n0_; have HO182 := n1_; have HB := n2_; clear n0_ n1_ n2_; (try clear hb); (try clear hb2); (try clear hk); (try clear hi); (try clear ho0); obtain ⟨Ao21, co21, eo21⟩ := Kd.R_slice HO182.out; subst eo21) | ((with_reducible refine gate_callee (f := 10) rfl ?_); refine goesL_ (some 38) rfl rfl Tryd.func10 (by kernel_rfl) rfl #[.slice Ao13 t175.length co13, .slice Ao21 t180.length co21] rfl (by (try simp only [List.map_toArray, List.map_cons, List.map_nil]); first | done | rfl | (simp only [List.length_drop, List.length_take]; rfl)) ?_; (with_reducible refine (laws_eqEventS.calls kj7 _ _ t175 _ _ t180 true _ ?side1 ?side2 ?side3 ?side4 A18.out).mono ?_); (case side1 => repeat (first | exact (Kd.R_reads' HO_6.out).2.2 | (with_reducible refine Kd.C_alloc ?_ _) | (with_reducible refine Kd.C_drewN ?_ _) | (with_reducible refine Kd.C_drew ?_))); (case side2 => exact (Kd.R_reads' HO_6.out).2.1); (case side3 => repeat (first | exact (Kd.R_reads' HO182.out).2.2 | (with_reducible refine Kd.C_alloc ?_ _) | (with_reducible refine Kd.C_drewN ?_ _) | (with_reducible refine Kd.C_drew ?_))); (case side4 => exact (Kd.R_reads' HO182.out).2.1); rintro e w22 ⟨rfl, hb⟩; refine ⟨_, rfl, ?_⟩; have n0_ := Aside0.mk (Kd.R_below (by (with_reducible repeat (first | apply Kd.R_alloc | apply Kd.R_drewN | apply Kd.R_drew)); exact HO_6.out) hb); have n1_ := Aside0.mk (Kd.R_below (by (with_reducible repeat (first | apply Kd.R_alloc | apply Kd.R_drewN | apply Kd.R_drew)); exact HO182.out) hb); have n2_ := Aside0.mk (below_step (by repeat (first | (with_reducible first | exact HB.out | apply below_alloc | apply pw_below_drewN | apply below_drew1) | exact HB.out)) hb); clear HO_6; clear HO182; clear HB; have HO_6 := n0_; have HO182 := n1_; have HB := n2_; clear n0_ n1_ n2_; (try clear hb); (try clear hb2); (try clear hk); (try clear hi)))
            go_ret
            exact ⟨by first | rfl | (simp [errW_none, errW_some] <;> rfl) | (simp [*, errW_none, errW_some] <;> rfl), by repeat (first | (with_reducible first | exact HB.out | apply below_alloc | apply pw_below_drewN | apply below_drew1) | exact HB.out)⟩
          · replace c19 := Bool.eq_false_iff.mpr c19
            subst c19
            have H1 : (some false) = some r := by rw [if_neg (show ¬ (false = true) by decide)] at H; exact H
            clear H
            have H := H1
            clear H1
            exact absurd (Option.some.inj H) (by rw [HR_.out]; decide)
end Go.Proofs.YtpalafegcndccaaDoor.X


namespace Go.Proofs.YtpalafegcndccaaDoorZ
open Go.ChangeShapes Go.WideShapes Go.ChangeAt Go.RowKit
open Go.Proofs.YtpalafegcndccaaDoorW.PrintWords
set_option linter.unusedVariables false
set_option linter.unusedSimpArgs false
section
variable {P : Program}

/-- A reading of type t is a value of kind d, and the value fits. -/
def Opens (P : Program) {α : Type} (d : Kd α) (t : TypeId) (fits : α → Prop) : Prop :=
  ∀ {H : Type} {enc : TypeId × Value → H} {w : World} {base : Nat} {spare : Nat → Bool} {held : Bool} {fuel : Nat} {cs : List Value} {x : DataW H × List MemPlace},
    DataW.trod enc P w base spare held fuel t cs = some x → (∀ n ∈ x.1.weights P t, n ≤ reachBytes) → ∃ v, d.K w v cs ∧ fits v

theorem opens_int {k : IntKind} {t : TypeId} (ht : P.underlying t = some (.int k)) : Opens P (Kd.int k) t (fun n => (Lit.int k n).wf = true) := by
  intro H enc w base spare held fuel cs x h _
  obtain ⟨n, rfl, _, hw⟩ := DataW.trod_int ht h
  exact ⟨n, rfl, hw⟩
theorem weightsAll_mem {H : Type} {e : TypeId} {d : DataW H} {n : Nat} : ∀ {l : List (DataW H)}, d ∈ l → n ∈ d.weights P e → n ∈ DataW.weightsAll P e l
  | [], h, _ => by cases h
  | x :: r, h, hn => by
    simp only [DataW.weightsAll, List.mem_append]
    rcases List.mem_cons.1 h with rfl | h
    · exact .inl hn
    · exact .inr (weightsAll_mem h hn)
theorem weightsEach_mem {H : Type} {n : Nat} : ∀ {ts : List TypeId} {l : List (DataW H)} {i : Nat} {t : TypeId} {d : DataW H}, ts[i]? = some t → l[i]? = some d → n ∈ d.weights P t → n ∈ DataW.weightsEach P ts l
  | [], l, i, t, d, h, _, _ => by simp at h
  | t :: ts, [], i, _, _, _, h, _ => by simp at h
  | t :: ts, d :: l, 0, _, _, h, k, hn => by
    simp at h k; subst h k
    simp only [DataW.weightsEach, List.mem_append]; exact .inl hn
  | t :: ts, d :: l, i + 1, _, _, h, k, hn => by
    simp at h k
    simp only [DataW.weightsEach, List.mem_append]; exact .inr (weightsEach_mem h k hn)
theorem opens_slice {α : Type} (z : α) {d : Kd α} {t e : TypeId} {fits : α → Prop} (ht : P.underlying t = some (.slice e)) (hsz : P.cellsOf e = d.sz) (he : Opens P d e fits) {B : Nat} (hB : P.bytesOf e = B) :
    Opens P (Kd.slice e d) t (fun l => l.length * B ≤ 140737488351232 ∧ l.length ≤ 9223372036854775807 ∧ ∀ x ∈ l, fits x) := by
  intro H enc w base spare held fuel cs x h hw
  rcases Deep.open_slice ht h with ⟨rfl, rfl⟩ | ⟨a, len, cap, m, n, D, Pl, rfl, hb, hl, hm, hmm, rfl, hc⟩
  · exact ⟨[], ⟨none, 0, rfl, Nat.le_refl _, Kd.C_nil d w⟩, by simp, by simp, fun x hx => by cases hx⟩
  · have hlm : len ≤ m := by rw [hmm]; split <;> omega
    have hbnd : len * B ≤ 140737488351232 := by
      have := hw ((((List.range len).map D).length + ((List.range (m - len)).map fun j => D (len + j)).length) * P.bytesOf e) (by simp [DataW.weights, ht])
      simp only [List.length_map, List.length_range, hB] at this
      have h2 : len * B ≤ (len + (m - len)) * B := Nat.mul_le_mul_right _ (by omega)
      exact Nat.le_trans h2 this
    have hel : ∀ i, i < len → ∃ v : α, (∃ c, c.length = d.sz ∧ d.K w v c ∧ ∀ j u, c[j]? = some u → w.cell? (a.add (i * d.sz + j)) = some u) ∧ fits v := by
      intro i hi
      obtain ⟨c, h1, h2⟩ := hc i (by omega)
      obtain ⟨v, hv, hf⟩ := he h2 (fun k hk => hw k (by
        simp only [DataW.weights, ht, List.mem_cons, List.mem_append]
        exact .inr (.inl (weightsAll_mem (d := D i) (List.mem_map.2 ⟨i, List.mem_range.2 hi, rfl⟩) hk))))
      rw [hsz] at h1
      obtain ⟨_, hlen, hcell⟩ := World.cells?_some h1
      refine ⟨v, ⟨c, hlen, hv, fun j u hj => ?_⟩, hf⟩
      have hjl : j < d.sz := by rw [← hlen]; exact (List.getElem?_eq_some_iff.1 hj).1
      rw [← Deep.add_add, hcell j hjl]
      exact hj
    haveI : Inhabited α := ⟨z⟩
    obtain ⟨f, hf⟩ := Deep.choose_lt hel
    refine ⟨(List.range len).map f, ⟨some a, cap, by simp, by simpa using hl, ⟨by simp, ?_, fun _ => ⟨a, rfl, ?_⟩⟩⟩, by simpa using hbnd, by simp; unfold maxLen at hm; omega, ?_⟩
    · simp; unfold maxLen at hm; omega
    · intro j p hj
      have hjl : j < len := by
        have := (List.getElem?_eq_some_iff.1 hj).1
        simpa using this
      rw [List.getElem?_map, List.getElem?_range hjl] at hj
      simp only [Option.map_some, Option.some.injEq] at hj
      subst hj
      exact (hf j hjl).1
    · intro x hx
      obtain ⟨j, hj, rfl⟩ := List.mem_map.1 hx
      exact (hf j (List.mem_range.1 hj)).2

/-- Fields from offset o on to the struct's end L, as a value of kind d. -/
def OpensF (P : Program) {α : Type} (d : Kd α) (fs : List Field) (o L : Nat) (fits : α → Prop) : Prop :=
  ∀ {H : Type} {enc : TypeId × Value → H} {w : World} {base : Nat} {spare : Nat → Bool} {held : Bool} {fuel : Nat} {cs : List Value} {xs : List (DataW H × List MemPlace)},
    cs.length = L → xs.length = fs.length → (∀ (i : Nat) (f : Field), fs[i]? = some f → DataW.trod enc P w base spare held fuel f.type ((cs.drop f.offset).take (P.cellsOf f.type)) = xs[i]?) →
    (∀ n ∈ DataW.weightsEach P (fs.map (·.type)) (xs.map (·.1)), n ≤ reachBytes) → ∃ v, d.K w v (cs.drop o) ∧ fits v
theorem opensF_one {α : Type} {d : Kd α} {f : Field} {o L : Nat} {fits : α → Prop} (t : TypeId) (hft : f.type = t) (ho : f.offset = o) (hL : o + P.cellsOf t = L) (h : Opens P d t fits) : OpensF P d [f] o L fits := by
  intro H enc w base spare held fuel cs xs hlen hxs hf hw
  match xs, hxs with
  | [x], _ =>
    have h0 := hf 0 f rfl
    rw [hft, ho, List.take_of_length_le (by rw [List.length_drop]; omega)] at h0
    exact h h0 (fun n hn => hw n (by rw [hft.symm] at hn; simp [DataW.weightsEach]; exact hn))
theorem opensF_cons {α β : Type} {d : Kd α} {d' : Kd β} {f : Field} {rest : List Field} {o o' L : Nat} {fits : α → Prop} {fits' : β → Prop} (t : TypeId) (hft : f.type = t) (ho : f.offset = o) (hn : o + P.cellsOf t = o') (h : Opens P d t fits) (hr : OpensF P d' rest o' L fits') :
    OpensF P (Kd.pair d d') (f :: rest) o L (fun p => fits p.1 ∧ fits' p.2) := by
  intro H enc w base spare held fuel cs xs hlen hxs hf hw
  match xs, hxs with
  | x :: xs, hxs =>
    have h0 := hf 0 f rfl
    rw [hft, ho] at h0
    obtain ⟨v, hv, fv⟩ := h h0 (fun n hn => hw n (by rw [hft.symm] at hn; simp [DataW.weightsEach]; exact .inl hn))
    obtain ⟨v', hv', fv'⟩ := hr (cs := cs) (xs := xs) hlen (by simpa using hxs) (fun i g hg => by simpa using hf (i + 1) g (by simpa using hg)) (fun n hn => hw n (by simp only [List.map_cons, DataW.weightsEach, List.mem_append]; exact .inr hn))
    exact ⟨(v, v'), ⟨(cs.drop o).take (P.cellsOf t), cs.drop o', by rw [← hn, ← List.drop_drop]; exact (List.take_append_drop _ _).symm, hv, hv'⟩, fv, fv'⟩
theorem opens_struct {α β : Type} {d : Kd α} {t : TypeId} {fs : Array Field} {L : Nat} {fits : α → Prop} {fits' : β → Prop} (ht : P.underlying t = some (.struct fs)) (hL : P.cellsOf t = L) (h : OpensF P d fs.toList 0 L fits) (g : β → α) (inv : α → β) (hinv : ∀ a, g (inv a) = a) (hf : ∀ a, fits a → fits' (inv a)) :
    Opens P (Kd.iso d g) t fits' := by
  intro H enc w base spare held fuel cs x hx hw
  obtain ⟨xs, n, rfl, rfl, hl, hlen, hff⟩ := DataW.trod_struct ht hx
  obtain ⟨v, hv, fv⟩ := h (cs := cs) (xs := xs) (by rw [hl, hL]) (by simpa using hlen) (fun i f hi => hff i f (by simpa using hi)) (fun k hk => hw k (by simp only [DataW.weights, ht]; exact hk))
  refine ⟨inv v, ?_, hf v fv⟩
  show d.K w (g (inv v)) cs
  rw [hinv]
  simpa using hv
/-- A parameter's weights are among all. -/
theorem weights_param {H : Type} {ts : List TypeId} {ds : List (DataW H)} {j : Nat} {t : TypeId} {d : DataW H} (hsz : (DataW.weightsEach P ts ds).all (· ≤ reachBytes) = true) (ht : ts[j]? = some t) (hd : ds[j]? = some d) : ∀ n ∈ d.weights P t, n ≤ reachBytes := fun n hn => by
  have := List.all_eq_true.1 hsz n (weightsEach_mem ht hd hn)
  simpa using this
end
end Go.Proofs.YtpalafegcndccaaDoorZ


-- written by a program of this session (wip/ext.py): what the law says, without Go and memory.
namespace Go.Proofs.YtpalafegcndccaaDoor.X
open Go.RowKit Go.Proofs.YtpalafegcndccaaDoorW.PrintWords Go.Proofs.YtpalafegcndccaaDoorW.PrintLast Go.Proofs.YtpalafegcndccaaDoorW.PrintMore
open Go.Proofs.YtpalafegcndccaaDoorZ
namespace OFnExactHistoryText
def fitsT51 (x : S51) : Prop := (Lit.int .i64 x.f0).wf = true ∧ (Lit.int .i64 x.f1).wf = true
theorem opensT51 : Opens Tryd.prog k51 51 fitsT51 :=
  opens_struct (L := 2) Tryd.underlying51 (by kernel_rfl) (opensF_cons (o' := 1) 3 rfl rfl (by kernel_rfl) (opens_int Tryd.underlying3) (opensF_one 3 rfl rfl (by kernel_rfl) (opens_int Tryd.underlying3))) (fun x : S51 => (x.f0, x.f1)) (fun p => ⟨p.1, p.2⟩) (fun _ => rfl) (fun _ h => h)
def Pure : Prop := ∀ (l0 : List (S51)), (l0.length * 16 ≤ 140737488351232 ∧ l0.length ≤ 9223372036854775807 ∧ ∀ y2 ∈ l0, fitsT51 y2) → ∃ k, laws_FnExactHistoryText.f k l0 = some true
end OFnExactHistoryText
end Go.Proofs.YtpalafegcndccaaDoor.X


namespace Go.Proofs.YtpalafegcndccaaDoorL
open Go.RowKit Go.Proofs.YtpalafegcndccaaDoorW.PrintWords
set_option linter.unusedVariables false
set_option linter.unusedSimpArgs false

theorem ev_eq {α : Type} {g : Nat → Option α} {r : α} (h : ∀ k, g k = some r) : Ev g r := ⟨0, fun k _ => h k⟩
theorem ev_rounds {α : Type} {g : Nat → Option α} {r : α} (h : Ev g r) : ∃ k, g k = some r := h.rounds
theorem wrap_id {x : Int} (h0 : -9223372036854775808 ≤ x) (h1 : x ≤ 9223372036854775807) : wrap64 x = x := by unfold wrap64; omega
theorem wrap_succ {n : Nat} (h : n < 9223372036854775807) : wrap64 ((n : Int) + 1) = ((n + 1 : Nat) : Int) := by rw [wrap_id (by omega) (by omega)]; rfl
/-- A list that is filled from the front. -/
def fill {α β : Type} (f : α → β) (z : β) (l : List α) (n : Nat) : List β := (l.take n).map f ++ List.replicate (l.length - n) z
theorem fill_zero {α β : Type} (f : α → β) (z : β) (l : List α) : fill f z l 0 = List.replicate l.length z := by simp [fill]
theorem fill_length {α β : Type} (f : α → β) (z : β) (l : List α) (n : Nat) (h : n ≤ l.length) : (fill f z l n).length = l.length := by simp only [fill, List.length_append, List.length_map, List.length_take, List.length_replicate]; omega
theorem fill_set {α β : Type} (f : α → β) (z : β) (l : List α) (n : Nat) (h : n < l.length) : (fill f z l n).set n (f l[n]) = fill f z l (n + 1) := by
  have e : l.length - n = (l.length - (n + 1)) + 1 := by omega
  have ht : l.take (n + 1) = l.take n ++ [l[n]] := by rw [List.take_succ_eq_append_getElem h]
  unfold fill
  rw [e, List.replicate_succ, ht, List.set_append_right _ _ (by simp; omega)]
  have : n - ((l.take n).map f).length = 0 := by simp; omega
  rw [this, List.map_append, List.append_assoc]
  rfl
theorem fill_all {α β : Type} (f : α → β) (z : β) (l : List α) : fill f z l l.length = l.map f := by simp [fill]
end Go.Proofs.YtpalafegcndccaaDoorL


namespace Go.Proofs.YtpalafegcndccaaDoor.X
open Go.RowKit Go.Proofs.YtpalafegcndccaaDoorW.PrintWords Go.Proofs.YtpalafegcndccaaDoorL
set_option linter.unusedVariables false
set_option linter.unusedSimpArgs false
abbrev Event := S40
abbrev LEvent := S51
def convE (s : LEvent) : Event := ⟨s.f0, s.f1⟩
theorem rdE (l : List Event) (n : Nat) (h : n < l.length) : rd_T40 l (n : Int) = l[n] := by simp [rd_T40, List.getD_eq_getElem?_getD, List.getElem?_eq_getElem h]
theorem rdLE (l : List LEvent) (n : Nat) (h : n < l.length) : rd_T51 l (n : Int) = l[n] := by simp [rd_T51, List.getD_eq_getElem?_getD, List.getElem?_eq_getElem h]
theorem szEventS_ok (l : List LEvent) (h : l.length ≤ 1048576) : laws_szEventS.f l 1048576 = some (1048576 - (l.length : Int)) := by
  unfold laws_szEventS.f; rw [wrap_id (by omega) (by omega), if_neg (by omega)]
theorem szEventS_big (l : List LEvent) (h : 1048576 < l.length) (h2 : l.length ≤ 9223372036854775807) : laws_szEventS.f l 1048576 = some (-1) := by
  unfold laws_szEventS.f; rw [wrap_id (by omega) (by omega), if_pos (by omega)]
theorem toEventS_ev (l : List LEvent) (h : l.length ≤ 1048576) : Ev (fun k => laws_toEventS.f k l) (l.map convE) := by
  have key : ∀ (d n : Nat), n + d = l.length → Ev (fun k => laws_toEventS.l0 k l (fill convE z40 l n) n) (l.map convE) := by
    intro d
    induction d with
    | zero =>
      intro n hn
      obtain rfl : n = l.length := by omega
      rw [← fill_all convE z40 l]
      exact Ev.step (f := fun _ => some _) (fun k => by simp only [laws_toEventS.l0]; rw [if_neg (by omega)]) (Ev.now _)
    | succ d ih =>
      intro n hn
      refine Ev.step (f := fun k => laws_toEventS.l0 k l (fill convE z40 l (n + 1)) ((n + 1 : Nat) : Int)) (fun k => ?_) (ih (n + 1) (by omega))
      simp only [laws_toEventS.l0]
      rw [if_pos (by omega), if_pos (by omega), rdLE l n (by omega), wrap_succ (by omega)]
      simp only [laws_toEvent.f, Option.bind_some, fill_length convE _ l n (by omega)]
      rw [if_pos (by omega), Int.toNat_natCast, ← fill_set convE _ l n (by omega)]
      rfl
  refine Ev.congr (f := fun k => laws_toEventS.l0 k l (fill convE z40 l 0) ((0 : Nat) : Int)) (fun k => ?_) (key l.length 0 (by omega))
  unfold laws_toEventS.f
  rw [if_pos (by omega), if_pos (by omega), fill_zero, Int.toNat_natCast]
  rfl
theorem eqEventS_ev (l : List Event) (h : l.length ≤ 1048576) : Ev (fun k => laws_eqEventS.f k l l) true := by
  have key : ∀ (d n : Nat), n + d = l.length → Ev (fun k => laws_eqEventS.l0 k l l n) true := by
    intro d
    induction d with
    | zero => intro n hn; exact Ev.step (f := fun _ => some _) (fun k => by simp only [laws_eqEventS.l0]; rw [if_neg (by omega)]) (Ev.now _)
    | succ d ih =>
      intro n hn
      refine Ev.step (f := fun k => laws_eqEventS.l0 k l l ((n + 1 : Nat) : Int)) (fun k => ?_) (ih (n + 1) (by omega))
      simp only [laws_eqEventS.l0]
      rw [if_pos (by omega), if_pos (by omega), if_pos (by omega), wrap_succ (by omega)]
      simp [laws_eqEvent.f]
  exact Ev.congr (f := fun k => laws_eqEventS.l0 k l l ((0 : Nat) : Int)) (fun k => by unfold laws_eqEventS.f; rw [if_pos rfl]; rfl) (key l.length 0 (by omega))
theorem tailE_ev (l : List LEvent) (h : l.length ≤ 1048576) : Ev (fun k => (laws_toEventS.f k l).bind fun t => (laws_eqEventS.f k (l.map convE) t).bind fun t2 => if t2 = true then some true else some false) true :=
  Ev.bind (toEventS_ev l h) (Ev.bind (eqEventS_ev _ (by simpa using h)) (Ev.now _))
/-- The state after an event in a state; -1. -/
def nxt (s k : Int) : Int := if s = 0 ∧ (k = 1 ∨ k = 2) then 1 else if s = 1 ∧ k = 3 then 2 else if s = 2 ∧ k = 4 then 1 else if s = 1 ∧ (k = 5 ∨ k = 6) then 0 else -1
theorem specNext_ev (s e : Int) : Ev (fun k => spec_l23Next.f k s e) (nxt s e) := by
  refine ⟨4, fun k hk => ?_⟩
  obtain ⟨m, rfl⟩ : ∃ m, k = m + 4 := ⟨k - 4, by omega⟩
  simp only [spec_l23Next.f, spec_l23Next.j0, spec_l23Next.j1, spec_l23Next.j2, nxt]
  by_cases s0 : s = 0
  · subst s0; by_cases e1 : e = 1
    · subst e1; simp
    · by_cases e2 : e = 2
      · subst e2; simp
      · simp [e1, e2]
  · by_cases s1 : s = 1
    · subst s1; by_cases e3 : e = 3
      · subst e3; simp
      · by_cases e5 : e = 5
        · subst e5; simp
        · by_cases e6 : e = 6
          · subst e6; simp
          · simp [e3, e5, e6]
    · by_cases s2 : s = 2
      · subst s2; by_cases e4 : e = 4
        · subst e4; simp
        · simp [e4]
      · simp [s0, s1, s2]
theorem implNext_ev (s e : Int) : Ev (fun k => impl_nextState.f k s e) (if 0 ≤ nxt s e then (nxt s e, true) else (0, false)) := by
  refine ⟨4, fun k hk => ?_⟩
  obtain ⟨m, rfl⟩ : ∃ m, k = m + 4 := ⟨k - 4, by omega⟩
  simp only [impl_nextState.f, impl_nextState.j0, impl_nextState.j1, impl_nextState.j2, nxt]
  by_cases s0 : s = 0
  · subst s0; by_cases e1 : e = 1
    · subst e1; simp
    · by_cases e2 : e = 2
      · subst e2; simp
      · simp [e1, e2]
  · by_cases s1 : s = 1
    · subst s1; by_cases e3 : e = 3
      · subst e3; simp
      · by_cases e5 : e = 5
        · subst e5; simp
        · by_cases e6 : e = 6
          · subst e6; simp
          · simp [e3, e5, e6]
    · by_cases s2 : s = 2
      · subst s2; by_cases e4 : e = 4
        · subst e4; simp
        · simp [e4]
      · simp [s0, s1, s2]
/-- May event n follow in state s? -/
def okE (l : List Event) (n : Nat) (s : Int) (h : n < l.length) : Prop := 0 ≤ l[n].f0 ∧ l[n].f0 ≤ 9999 ∧ (∀ h0 : 0 < n, l[n - 1].f0 ≤ l[n].f0) ∧ 0 ≤ nxt s l[n].f1
open Classical in
/-- The state after the events from n on. -/
noncomputable def runE (l : List Event) : Nat → Nat → Int → Option Int
  | 0, _, s => some s
  | d + 1, n, s => if h : n < l.length then (if okE l n s h then runE l d (n + 1) (nxt s l[n].f1) else none) else none
theorem runE_nonneg (l : List Event) : ∀ (d n : Nat) (s r : Int), 0 ≤ s → runE l d n s = some r → 0 ≤ r := by
  intro d
  induction d with
  | zero => intro n s r hs h; simp only [runE, Option.some.injEq] at h; omega
  | succ d ih =>
    intro n s r hs h
    simp only [runE] at h
    split at h
    · split at h
      · rename_i h1 h2; exact ih _ _ _ h2.2.2.2 h
      · cases h
    · cases h
theorem specState_loop (l : List Event) (hl : l.length ≤ 20) : ∀ (d n : Nat) (s : Int), n + d = l.length → 0 ≤ s → Ev (fun k => spec_l23State.l0 k l s n) ((runE l d n s).getD (-1)) := by
  intro d
  induction d with
  | zero => intro n s hn hs; exact Ev.step (f := fun _ => some _) (fun k => by simp only [spec_l23State.l0]; rw [if_neg (by omega)]; rfl) (Ev.now _)
  | succ d ih =>
    intro n s hn hs
    have hln : n < l.length := by omega
    have hw : 0 < n → wrap64 ((n : Int) - 1) = ((n - 1 : Nat) : Int) := fun h0 => by rw [wrap_id (by omega) (by omega)]; omega
    have bad : ∀ (c : Bool), c = true → Ev (fun k => spec_l23State.j1 k l s n c) (-1) := fun c hc => by subst hc; exact Ev.step (f := fun _ => some (-1)) (fun k => by simp [spec_l23State.j1]) (Ev.now _)
    have good : Ev (fun k => spec_l23State.j1 k l s n false) (if 0 ≤ nxt s l[n].f1 then (runE l d (n + 1) (nxt s l[n].f1)).getD (-1) else -1) := by
      refine Ev.step (f := fun k => (spec_l23Next.f k s l[n].f1).bind fun t => if t < 0 then some (-1) else spec_l23State.l0 k l t ((n + 1 : Nat) : Int)) (fun k => ?_) ?_
      · simp only [spec_l23State.j1]
        rw [if_neg (by decide), if_pos (by omega), if_pos (by omega), rdE l n hln, wrap_succ (by omega)]
      · refine Ev.bind (specNext_ev _ _) ?_
        by_cases c : 0 ≤ nxt s l[n].f1
        · simp only [if_pos c, if_neg (show ¬ nxt s l[n].f1 < 0 by omega)]; exact ih (n + 1) _ (by omega) c
        · simp only [if_neg c, if_pos (show nxt s l[n].f1 < 0 by omega)]; exact Ev.now _
    simp only [runE, dif_pos hln]
    refine Ev.step (f := fun k => if 0 ≤ l[n].f0 ∧ l[n].f0 ≤ 9999 then (if h0 : 0 < n then spec_l23State.j1 k l s n (decide (l[n - 1].f0 > l[n].f0)) else spec_l23State.j1 k l s n false) else spec_l23State.j1 k l s n true) (fun k => ?_) ?_
    · simp only [spec_l23State.l0]
      rw [if_pos (by omega), if_pos (by omega), rdE l n hln]
      unfold spec_l1In.f
      by_cases a1 : l[n].f0 ≥ 0
      · by_cases a2 : l[n].f0 ≤ 9999
        · simp only [if_pos a1, a2, decide_true, Option.bind_some, if_true, if_pos (show 0 ≤ l[n].f0 ∧ True from ⟨a1, trivial⟩)]
          by_cases h0 : 0 < n
          · rw [if_pos (by omega), if_pos (by rw [hw h0]; omega), if_pos (by rw [hw h0]; omega), hw h0, rdE l (n - 1) (by omega), dif_pos h0]
          · rw [if_neg (by omega), dif_neg h0]
        · simp only [if_pos a1, a2, decide_false, Option.bind_some, Bool.false_eq_true, if_false, and_false]
      · simp only [if_neg a1, Option.bind_some, Bool.false_eq_true, if_false, if_neg (show ¬ (0 ≤ l[n].f0 ∧ l[n].f0 ≤ 9999) from fun z => a1 z.1)]
    · by_cases a : 0 ≤ l[n].f0 ∧ l[n].f0 ≤ 9999
      · simp only [if_pos a]
        by_cases h0 : 0 < n
        · simp only [dif_pos h0]
          by_cases b : l[n - 1].f0 ≤ l[n].f0
          · rw [decide_eq_false (by omega)]
            by_cases c : 0 ≤ nxt s l[n].f1
            · rw [if_pos (show okE l n s hln from ⟨a.1, a.2, fun _ => b, c⟩)]; rw [if_pos c] at good; exact good
            · rw [if_neg (show ¬ okE l n s hln from fun z => c z.2.2.2)]; rw [if_neg c] at good; exact good
          · rw [if_neg (show ¬ okE l n s hln from fun z => b (z.2.2.1 h0))]; exact bad _ (decide_eq_true (by omega))
        · simp only [dif_neg h0]
          by_cases c : 0 ≤ nxt s l[n].f1
          · rw [if_pos (show okE l n s hln from ⟨a.1, a.2, fun z => absurd z h0, c⟩)]; rw [if_pos c] at good; exact good
          · rw [if_neg (show ¬ okE l n s hln from fun z => c z.2.2.2)]; rw [if_neg c] at good; exact good
      · simp only [if_neg a]
        rw [if_neg (show ¬ okE l n s hln from fun z => a ⟨z.1, z.2.1⟩)]; exact bad _ rfl
theorem implState_loop (l : List Event) (hl : l.length ≤ 1048576) : ∀ (d n : Nat) (s : Int), n + d = l.length → Ev (fun k => impl_stateAfter.l0 k l s l (l.length : Int) n) (match runE l d n s with | some r => (r, decide (l.length ≤ 20)) | none => (0, false)) := by
  intro d
  induction d with
  | zero => intro n s hn; exact Ev.step (f := fun _ => some _) (fun k => by simp only [impl_stateAfter.l0]; rw [if_neg (by omega)]; simp [runE] <;> omega) (Ev.now _)
  | succ d ih =>
    intro n s hn
    have hln : n < l.length := by omega
    have hw : 0 < n → wrap64 ((n : Int) - 1) = ((n - 1 : Nat) : Int) := fun h0 => by rw [wrap_id (by omega) (by omega)]; omega
    simp only [runE, dif_pos hln]
    refine Ev.step (f := fun k => (impl_nextState.f k s l[n].f1).bind fun b => if b.2 = true then (if 0 ≤ l[n].f0 ∧ l[n].f0 ≤ 9999 then (if h0 : 0 < n then (if l[n].f0 < l[n - 1].f0 then some (0, false) else impl_stateAfter.l0 k l b.1 l (l.length : Int) ((n + 1 : Nat) : Int)) else impl_stateAfter.l0 k l b.1 l (l.length : Int) ((n + 1 : Nat) : Int)) else some (0, false)) else some (0, false)) (fun k => ?_) ?_
    · simp only [impl_stateAfter.l0]
      rw [if_pos (by omega), if_pos (by omega), if_pos (by omega), rdE l n hln, wrap_succ (by omega)]
      congr 1
      funext b
      unfold impl_within.f
      by_cases a1 : l[n].f0 ≥ 0
      · by_cases a2 : l[n].f0 ≤ 9999
        · simp only [if_pos a1, a2, decide_true, Option.bind_some, if_true, if_pos (show 0 ≤ l[n].f0 ∧ True from ⟨a1, trivial⟩)]
          by_cases h0 : 0 < n
          · rw [if_pos (show (n : Int) > 0 by omega), if_pos (show 0 ≤ wrap64 ((n : Int) - 1) by rw [hw h0]; omega), if_pos (show wrap64 ((n : Int) - 1) < (l.length : Int) by rw [hw h0]; omega), hw h0, rdE l (n - 1) (by omega), dif_pos h0]
          · rw [if_neg (show ¬ (n : Int) > 0 by omega), dif_neg h0]
        · simp only [if_pos a1, a2, decide_false, Option.bind_some, Bool.false_eq_true, if_false, and_false]
      · simp only [if_neg a1, Option.bind_some, Bool.false_eq_true, if_false, if_neg (show ¬ (0 ≤ l[n].f0 ∧ l[n].f0 ≤ 9999) from fun z => a1 z.1)]
    · refine Ev.bind (implNext_ev _ _) ?_
      by_cases c : 0 ≤ nxt s l[n].f1
      · simp only [if_pos c, if_true]
        by_cases a : 0 ≤ l[n].f0 ∧ l[n].f0 ≤ 9999
        · simp only [if_pos a]
          by_cases h0 : 0 < n
          · simp only [dif_pos h0]
            by_cases b : l[n].f0 < l[n - 1].f0
            · simp only [if_pos b]
              rw [if_neg (show ¬ okE l n s hln from fun z => by have := z.2.2.1 h0; omega)]; exact Ev.now _
            · simp only [if_neg b]
              rw [if_pos (show okE l n s hln from ⟨a.1, a.2, fun _ => by omega, c⟩)]; exact ih (n + 1) _ (by omega)
          · simp only [dif_neg h0]
            rw [if_pos (show okE l n s hln from ⟨a.1, a.2, fun z => absurd z h0, c⟩)]; exact ih (n + 1) _ (by omega)
        · simp only [if_neg a]
          rw [if_neg (show ¬ okE l n s hln from fun z => a ⟨z.1, z.2.1⟩)]; exact Ev.now _
      · simp only [if_neg c, Bool.false_eq_true, if_false]
        rw [if_neg (show ¬ okE l n s hln from fun z => c z.2.2.2)]; exact Ev.now _
/-- The state after a history; none if it is none. -/
noncomputable def hist (l : List Event) : Option Int := if l.length ≤ 20 then runE l l.length 0 0 else none
theorem hist_nonneg {l : List Event} {s : Int} (h : hist l = some s) : 0 ≤ s := by
  unfold hist at h
  split at h
  · exact runE_nonneg l _ _ _ _ (by omega) h
  · cases h
theorem specState_ev (l : List Event) : Ev (fun k => spec_l23State.f k l) ((hist l).getD (-1)) := by
  unfold spec_l23State.f hist
  by_cases h : l.length ≤ 20
  · simp only [if_neg (show ¬ (l.length : Int) > 20 by omega), if_pos h]; exact specState_loop l h l.length 0 0 (by omega) (by omega)
  · simp only [if_pos (show (l.length : Int) > 20 by omega), if_neg h]; exact Ev.now _
theorem implState_ev (l : List Event) (hl : l.length ≤ 1048576) : ∃ r, Ev (fun k => impl_stateAfter.f k l) r ∧ r.2 = (hist l).isSome ∧ ∀ s, hist l = some s → r.1 = s := by
  refine ⟨_, implState_loop l hl l.length 0 0 (by omega), ?_⟩
  unfold hist
  by_cases h : l.length ≤ 20
  · rw [if_pos h]; cases runE l l.length 0 0 <;> simp [h]
  · rw [if_neg h]; cases runE l l.length 0 0 <;> simp [h]
end Go.Proofs.YtpalafegcndccaaDoor.X


namespace Go.Proofs.YtpalafegcndccaaDoorL
open Go.RowKit Go.Proofs.YtpalafegcndccaaDoorW.PrintWords
set_option linter.unusedVariables false
set_option linter.unusedSimpArgs false
/-- A text's bytes. -/
def B (s : ByteArray) : List UInt8 := s.data.toList
theorem B_length (s : ByteArray) : (B s).length = s.size := by simp [B]
theorem B_inj {s t : ByteArray} (h : B s = B t) : s = t := by
  have : s.data = t.data := Array.toList_inj.1 h
  cases s; cases t; simp_all
end Go.Proofs.YtpalafegcndccaaDoorL


namespace Go.Proofs.YtpalafegcndccaaDoor.X
open Go.RowKit Go.Proofs.YtpalafegcndccaaDoorW.PrintWords Go.Proofs.YtpalafegcndccaaDoorL
set_option linter.unusedVariables false
set_option linter.unusedSimpArgs false
theorem B_append (s t : ByteArray) : B (s ++ t) = B s ++ B t := by unfold B; simp
theorem B_mk (l : List UInt8) : B ⟨l.toArray⟩ = l := by simp [B]
theorem size_B (s : ByteArray) : s.size = (B s).length := (B_length s).symm
theorem mk_append (a b : List UInt8) : (⟨a.toArray⟩ : ByteArray) ++ ⟨b.toArray⟩ = ⟨(a ++ b).toArray⟩ := B_inj (by rw [B_append, B_mk, B_mk, B_mk])
def dec (n : Int) : ByteArray := ⟨(Lib.itoa n).toArray⟩
theorem B_dec (n : Int) : B (dec n) = Lib.itoa n := B_mk _
theorem dec_size (n : Int) (h0 : -9223372036854775808 ≤ n) (h1 : n ≤ 9223372036854775807) : (dec n).size ≤ 21 := by
  rw [size_B, B_dec]; exact Lib.itoa_length_le n h0 h1
theorem implDec (n : Int) (h0 : -9223372036854775808 ≤ n) (h1 : n ≤ 9223372036854775807) : impl_decimal.f n = some (dec n) := by
  unfold impl_decimal.f strconv_Itoa_62.f
  rw [if_pos ⟨h0, h1⟩]
  rfl
theorem digit_cut (d : Nat) (h : d < 10) : (⟨#[48, 49, 50, 51, 52, 53, 54, 55, 56, 57]⟩ : ByteArray).extract d (d + 1) = ⟨[UInt8.ofNat (48 + d)].toArray⟩ := by
  have : d = 0 ∨ d = 1 ∨ d = 2 ∨ d = 3 ∨ d = 4 ∨ d = 5 ∨ d = 6 ∨ d = 7 ∨ d = 8 ∨ d = 9 := by omega
  rcases this with rfl | rfl | rfl | rfl | rfl | rfl | rfl | rfl | rfl | rfl <;> rfl
theorem decDigits_le (u : Nat) (h : u ≤ 9223372036854775807) : (Lib.decDigits u).length ≤ 21 := by
  have := Lib.itoa_length_le (u : Int) (by omega) (by omega)
  unfold Lib.itoa at this
  rw [if_neg (by omega), Int.toNat_natCast] at this
  exact this
theorem specNum_nat : ∀ (m u : Nat), u ≤ m → u ≤ 9223372036854775807 → Ev (fun k => spec_l1Num.f k (u : Int)) ⟨(Lib.decDigits u).toArray⟩ := by
  intro m
  induction m with
  | zero =>
    intro u hu hb
    obtain rfl : u = 0 := by omega
    refine Ev.step (f := fun _ => some _) (fun k => ?_) (Ev.now _)
    simp only [spec_l1Num.f]
    rw [if_neg (by omega), if_pos (by omega), if_pos (by omega), wrap_id (by omega) (by omega), if_pos (by omega), if_pos (by omega), Lib.decDigits, dif_pos (by omega)]
    rfl
  | succ m ih =>
    intro u hu hb
    by_cases h : u < 10
    · refine Ev.step (f := fun _ => some _) (fun k => ?_) (Ev.now _)
      simp only [spec_l1Num.f]
      rw [if_neg (by omega), if_pos (by omega), if_pos (by omega), wrap_id (by omega) (by omega), if_pos (by omega), if_pos (by omega), Lib.decDigits, dif_pos h, ← digit_cut u h]
      rfl
    · have hd : wrap64 (Int.tdiv (u : Int) 10) = ((u / 10 : Nat) : Int) := by
        rw [Int.tdiv_eq_ediv_of_nonneg (by omega), wrap_id (by omega) (by omega)]; omega
      have hm : Int.tmod (u : Int) 10 = ((u % 10 : Nat) : Int) := by rw [Int.tmod_eq_emod_of_nonneg (by omega)]; omega
      refine Ev.step (f := fun k => (spec_l1Num.f k ((u / 10 : Nat) : Int)).bind fun t => if t.size + (⟨[UInt8.ofNat (48 + u % 10)].toArray⟩ : ByteArray).size ≤ 9223372036854775807 then some (t ++ ⟨[UInt8.ofNat (48 + u % 10)].toArray⟩) else none) (fun k => ?_) ?_
      · simp only [spec_l1Num.f]
        rw [if_neg (by omega), if_neg (by omega), hd, hm]
        congr 1
        funext t
        rw [if_pos (by omega), wrap_id (x := ((u % 10 : Nat) : Int) + 1) (by omega) (by omega), if_pos (by omega), if_pos (by omega)]
        have e : (((u % 10 : Nat) : Int) + 1).toNat = u % 10 + 1 := by omega
        rw [Int.toNat_natCast, e, digit_cut (u % 10) (by omega)]
      · have i1 := ih (u / 10) (by omega) (by omega)
        have hs := decDigits_le (u / 10) (by omega)
        refine Ev.bind i1 (Ev.congr (fun k => if_pos ?_) ?_)
        · rw [size_B, size_B, B_mk, B_mk]; simp only [List.length_cons, List.length_nil]; omega
        · rw [mk_append, Lib.decDigits.eq_1 u, dif_neg h]; exact Ev.now _
theorem specNum_ev (n : Int) (h0 : -9223372036854775807 ≤ n) (h1 : n ≤ 9223372036854775807) : Ev (fun k => spec_l1Num.f k n) (dec n) := by
  by_cases h : n < 0
  · have e : wrap64 (-n) = ((n.natAbs : Nat) : Int) := by rw [wrap_id (by omega) (by omega)]; omega
    have hs := decDigits_le n.natAbs (by omega)
    refine Ev.step (f := fun k => (spec_l1Num.f k ((n.natAbs : Nat) : Int)).bind fun t => if 1 + t.size ≤ 9223372036854775807 then some ((⟨#[45]⟩ : ByteArray) ++ t) else none) (fun k => ?_) (Ev.bind (specNum_nat n.natAbs n.natAbs (Nat.le_refl _) (by omega)) (Ev.congr (fun k => if_pos ?_) ?_))
    · simp only [spec_l1Num.f]
      rw [if_pos h, e]
    · rw [size_B, B_mk]; omega
    · have : dec n = (⟨#[45]⟩ : ByteArray) ++ ⟨(Lib.decDigits n.natAbs).toArray⟩ := B_inj (by rw [B_append, B_dec, B_mk]; unfold Lib.itoa; rw [if_pos h]; rfl)
      rw [this]; exact Ev.now _
  · obtain ⟨u, rfl⟩ : ∃ u : Nat, n = (u : Int) := ⟨n.toNat, by omega⟩
    have : dec (u : Int) = ⟨(Lib.decDigits u).toArray⟩ := by unfold dec Lib.itoa; rw [if_neg h, Int.toNat_natCast]
    rw [this]
    exact specNum_nat u u (Nat.le_refl _) (by omega)
end Go.Proofs.YtpalafegcndccaaDoor.X


namespace Go.Proofs.YtpalafegcndccaaDoor.X
open Go.RowKit Go.Proofs.YtpalafegcndccaaDoorW.PrintWords Go.Proofs.YtpalafegcndccaaDoorL
set_option linter.unusedVariables false
set_option linter.unusedSimpArgs false
def okEv (x : Event) : Prop := (0 ≤ x.f0 ∧ x.f0 ≤ 9999) ∧ (1 ≤ x.f1 ∧ x.f1 ≤ 6)
def okH (l : List Event) : Prop := l.length ≤ 20 ∧ ∀ x ∈ l, okEv x
theorem nxt_kind {s k : Int} (h : 0 ≤ nxt s k) : 1 ≤ k ∧ k ≤ 6 := by
  unfold nxt at h
  (repeat' split at h) <;> omega
theorem runE_ok (l : List Event) : ∀ (d n : Nat) (s r : Int), runE l d n s = some r → ∀ (i : Nat) (h : i < l.length), n ≤ i → i < n + d → okEv l[i] := by
  intro d
  induction d with
  | zero => intro n s r _ i h h1 h2; omega
  | succ d ih =>
    intro n s r hr i h h1 h2
    simp only [runE] at hr
    split at hr
    · rename_i hn
      split at hr
      · rename_i hok
        by_cases e : i = n
        · subst e
          exact ⟨⟨hok.1, hok.2.1⟩, nxt_kind hok.2.2.2⟩
        · exact ih (n + 1) _ r hr i h (by omega) (by omega)
      · cases hr
    · cases hr
theorem hist_ok {l : List Event} {s : Int} (h : hist l = some s) : okH l := by
  unfold hist at h
  split at h
  · rename_i hl
    refine ⟨hl, fun x hx => ?_⟩
    obtain ⟨i, hi, rfl⟩ := List.getElem_of_mem hx
    exact runE_ok l l.length 0 0 s h i hi (by omega) (by omega)
  · cases h
def wordsE : List ByteArray := [(⟨#[]⟩ : ByteArray), (⟨#[108, 97, 110, 100]⟩ : ByteArray), (⟨#[103, 97, 116, 101, 32, 105, 110]⟩ : ByteArray), (⟨#[115, 116, 97, 99, 107]⟩ : ByteArray), (⟨#[112, 105, 99, 107]⟩ : ByteArray), (⟨#[108, 111, 97, 100]⟩ : ByteArray), (⟨#[103, 97, 116, 101, 32, 111, 117, 116]⟩ : ByteArray)]
def wordE (a : Int) : ByteArray := rdOf ByteArray.empty wordsE a
def lineE (x : Event) : ByteArray := ((dec x.f0 ++ (⟨#[32]⟩ : ByteArray)) ++ wordE x.f1) ++ (⟨#[10]⟩ : ByteArray)
def textH (l : List Event) : ByteArray := l.foldl (fun s x => s ++ lineE x) ⟨#[]⟩
theorem textH_snoc (l : List Event) (x : Event) : textH (l ++ [x]) = textH l ++ lineE x := by unfold textH; rw [List.foldl_append]; rfl
theorem wordE_size (a : Int) (h0 : 1 ≤ a) (h1 : a ≤ 6) : (wordE a).size ≤ 8 := by
  have : a = 1 ∨ a = 2 ∨ a = 3 ∨ a = 4 ∨ a = 5 ∨ a = 6 := by omega
  rcases this with rfl | rfl | rfl | rfl | rfl | rfl <;> decide
theorem lineE_parts (x : Event) : (lineE x).size = (dec x.f0).size + 1 + (wordE x.f1).size + 1 := by
  unfold lineE
  simp only [ByteArray.size_append]
  rfl
theorem lineE_size (x : Event) (h : okEv x) : (lineE x).size ≤ 31 := by
  have h1 := dec_size x.f0 (by have := h.1; omega) (by have := h.1; omega)
  have h2 := wordE_size x.f1 h.2.1 h.2.2
  rw [lineE_parts]; omega
theorem textH_size : ∀ (n : Nat) (l : List Event), l.length = n → (∀ x ∈ l, okEv x) → (textH l).size ≤ 31 * n
  | 0, l, hl, _ => by rw [List.eq_nil_of_length_eq_zero hl]; exact Nat.le_refl _
  | n + 1, l, hl, h => by
    have hne : l ≠ [] := by intro e; rw [e] at hl; cases hl
    have hd : l = l.dropLast ++ [l.getLast hne] := (List.dropLast_concat_getLast hne).symm
    have ih := textH_size n l.dropLast (by simp [hl]) (fun x hx => h x (List.dropLast_subset l hx))
    have hx := lineE_size _ (h _ (List.getLast_mem hne))
    rw [hd, textH_snoc, ByteArray.size_append]
    omega
theorem app4 (s a b c d : ByteArray) : (((s ++ a) ++ b) ++ c) ++ d = s ++ (((a ++ b) ++ c) ++ d) := B_inj (by simp only [B_append, List.append_assoc])
theorem rdE_take (l : List Event) (n : Nat) (h : n < l.length) : l.take (n + 1) = l.take n ++ [l[n]] := List.take_succ_eq_append_getElem h
theorem take_size {l : List Event} (h : okH l) (n : Nat) : (textH (l.take n)).size ≤ 620 := by
  have h1 := textH_size _ (l.take n) rfl (fun x hx => h.2 x (List.mem_of_mem_take hx))
  have h2 := h.1
  rw [List.length_take] at h1
  omega
theorem specTextH_ev (l : List Event) (h : okH l) : Ev (fun k => spec_l23Text.f k l) (textH l) := by
  have key : ∀ (d n : Nat), n + d = l.length → Ev (fun k => spec_l23Text.l0 k l (textH (l.take n)) (n : Int)) (textH l) := by
    intro d
    induction d with
    | zero =>
      intro n hn
      obtain rfl : n = l.length := by omega
      refine Ev.step (f := fun _ => some _) (fun k => ?_) (Ev.now _)
      simp only [spec_l23Text.l0]
      rw [if_neg (by omega), List.take_length]
    | succ d ih =>
      intro n hn
      have hn2 : n < l.length := by omega
      have hl := h.1
      have ih := ih (n + 1) (by omega)
      rw [rdE_take l n hn2, textH_snoc] at ih
      have hs := take_size h n
      have ho := h.2 _ (List.getElem_mem hn2)
      have hw := wordE_size _ ho.2.1 ho.2.2
      have hd := dec_size l[n].f0 (by have := ho.1; omega) (by have := ho.1; omega)
      have e1 : (⟨#[32]⟩ : ByteArray).size = 1 := rfl
      have e2 : (⟨#[10]⟩ : ByteArray).size = 1 := rfl
      generalize textH (l.take n) = s at hs ih ⊢
      have ew : spec_l23Words.f = some wordsE := rfl
      have hlen : (wordsE.length : Int) = 7 := rfl
      refine Ev.step (f := fun k => (spec_l1Num.f k l[n].f0).bind fun t => if s.size + t.size ≤ 9223372036854775807 then if (s ++ t).size + 1 ≤ 9223372036854775807 then if ((s ++ t) ++ (⟨#[32]⟩ : ByteArray)).size + (wordE l[n].f1).size ≤ 9223372036854775807 then if (((s ++ t) ++ (⟨#[32]⟩ : ByteArray)) ++ wordE l[n].f1).size + 1 ≤ 9223372036854775807 then spec_l23Text.l0 k l ((((s ++ t) ++ (⟨#[32]⟩ : ByteArray)) ++ wordE l[n].f1) ++ (⟨#[10]⟩ : ByteArray)) ((n + 1 : Nat) : Int) else none else none else none else none) (fun k => ?_) ?_
      · simp only [spec_l23Text.l0]
        rw [if_pos (by omega), if_pos (by omega), rdE l n hn2, wrap_succ (by omega)]
        have q0 : 0 ≤ l[n].f1 := by have := ho.2; omega
        have q1 : l[n].f1 < (wordsE.length : Int) := by have := ho.2; omega
        simp only [ew, Option.bind_some, if_pos q0, if_pos q1]
        rfl
      · refine Ev.bind (specNum_ev _ (by have := ho.1; omega) (by have := ho.1; omega)) ?_
        refine Ev.congr (fun k => by rw [if_pos (by omega), if_pos (by rw [ByteArray.size_append]; omega), if_pos (by simp only [ByteArray.size_append]; omega), if_pos (by simp only [ByteArray.size_append]; omega)]) ?_
        rw [app4]
        exact ih
  exact key l.length 0 (by omega)
theorem implTextH_ev (l : List Event) (h : okH l) : Ev (fun k => impl_historyText.f k l) (textH l) := by
  have key : ∀ (d n : Nat), n + d = l.length → Ev (fun k => impl_historyText.l0 k l (textH (l.take n)) (n : Int)) (textH l) := by
    intro d
    induction d with
    | zero =>
      intro n hn
      obtain rfl : n = l.length := by omega
      refine Ev.step (f := fun _ => some _) (fun k => ?_) (Ev.now _)
      simp only [impl_historyText.l0]
      rw [if_neg (by omega), List.take_length]
    | succ d ih =>
      intro n hn
      have hn2 : n < l.length := by omega
      have hl := h.1
      have ih := ih (n + 1) (by omega)
      rw [rdE_take l n hn2, textH_snoc] at ih
      have hs := take_size h n
      have ho := h.2 _ (List.getElem_mem hn2)
      have hz := lineE_size _ ho
      generalize textH (l.take n) = s at hs ih ⊢
      have ew : impl_eventWords.f = some wordsE := rfl
      have hlen : (wordsE.length : Int) = 7 := rfl
      refine Ev.step (f := fun k => impl_historyText.l0 k l (s ++ lineE l[n]) ((n + 1 : Nat) : Int)) (fun k => ?_) ih
      simp only [impl_historyText.l0]
      rw [if_pos (by omega), if_pos (by omega), rdE l n hn2, wrap_succ (by omega), implDec _ (by have := ho.1; omega) (by have := ho.1; omega)]
      simp only [ew, Option.bind_some]
      rw [if_pos (by have := ho.2; omega), if_pos (by have := ho.2; omega)]
      exact if_pos (show s.size + (lineE l[n]).size ≤ 140737488355328 by omega)
  exact key l.length 0 (by omega)
noncomputable def histText (l : List Event) : ByteArray × Bool := if (hist l).isSome = true then (textH l, true) else (⟨#[]⟩, false)
theorem specHistText_ev (l : List Event) : Ev (fun k => spec_HistoryText.f k l) (histText l) := by
  unfold spec_HistoryText.f histText
  refine Ev.bind (specState_ev l) ?_
  cases e : hist l with
  | none =>
    simp only [Option.getD_none, Option.isSome_none, Bool.false_eq_true, if_false]
    exact Ev.congr (fun k => if_pos (by decide)) (Ev.now _)
  | some s =>
    have := hist_nonneg e
    simp only [Option.getD_some, Option.isSome_some, if_true]
    refine Ev.congr (fun k => if_neg (by omega)) ?_
    exact Ev.bind (specTextH_ev l (hist_ok e)) (Ev.now _)
theorem implIsHist_ev (l : List Event) (hl : l.length ≤ 1048576) : Ev (fun k => impl_IsHistory.f k l) ((hist l).isSome) := by
  obtain ⟨r, hr, h1, _⟩ := implState_ev l hl
  unfold impl_IsHistory.f
  refine Ev.bind hr ?_
  rw [h1]
  exact Ev.now _
theorem implHistText_ev (l : List Event) (hl : l.length ≤ 1048576) : Ev (fun k => impl_HistoryText.f k l) (histText l) := by
  unfold impl_HistoryText.f histText
  refine Ev.bind (implIsHist_ev l hl) ?_
  cases e : hist l with
  | none =>
    simp only [Option.isSome_none, Bool.false_eq_true, if_false]
    exact Ev.now _
  | some s =>
    simp only [Option.isSome_some, if_true]
    exact Ev.bind (implTextH_ev l (hist_ok e)) (Ev.now _)
end Go.Proofs.YtpalafegcndccaaDoor.X


namespace Go.Proofs.YtpalafegcndccaaDoor.Pure
open Go.RowKit Go.Proofs.YtpalafegcndccaaDoorW.PrintWords Go.Proofs.YtpalafegcndccaaDoorL Go.Proofs.YtpalafegcndccaaDoor.X
theorem FnExactHistoryText : OFnExactHistoryText.Pure := by
  intro l hl
  refine ev_rounds ?_
  by_cases hb : l.length ≤ 1048576
  · unfold laws_FnExactHistoryText.f
    simp only [szEventS_ok l hb, Option.bind_some, if_neg (show ¬ (1048576 - (l.length : Int)) < 0 by omega)]
    have hm : (l.map convE).length ≤ 1048576 := by simpa using hb
    refine Ev.bind (toEventS_ev l hb) ?_
    refine Ev.bind (specHistText_ev _) ?_
    refine Ev.bind (toEventS_ev l hb) ?_
    refine Ev.bind (implHistText_ev _ hm) ?_
    simp only [bne_self_eq_false, if_true]
    refine Ev.step (f := fun k => (laws_toEventS.f k l).bind fun t => (laws_eqEventS.f k (l.map convE) t).bind fun t2 => if t2 = true then some true else some false) (fun k => ?_) (tailE_ev l hb)
    simp only [laws_FnExactHistoryText.j0]
    rw [if_neg (by decide)]
  · refine ev_eq (fun k => ?_)
    unfold laws_FnExactHistoryText.f
    rw [szEventS_big l (by omega) hl.2.1]
    rfl
end Go.Proofs.YtpalafegcndccaaDoor.Pure



namespace Go.Proofs.YtpalafegcndccaaDoor.fnExactHistoryText
open Go.ChangeShapes Go.WideShapes Go.ChangeAt Go.RowKit
open Go.ChangeMaps (open_string shut_string)
open Go.Joins
open Go.Proofs.YtpalafegcndccaaDoorW.PrintWords Go.Proofs.YtpalafegcndccaaDoorW.PrintLast Go.Proofs.YtpalafegcndccaaDoorW.PrintMore
open Go.Proofs.YtpalafegcndccaaDoorZ Go.Proofs.YtpalafegcndccaaDoor.X Go.Proofs.YtpalafegcndccaaDoor.X.OFnExactHistoryText
set_option linter.unusedVariables false
set_option linter.unusedSimpArgs false
theorem own : ownKnob Tryd.prog.godebug = none := by kernel_rfl
theorem laidOut : laidOutB Tryd.prog = true := by kernel_rfl
open Go Go.Proofs.YtpalafegcndccaaDoorG
def laidL : List (String × DataW Unit) := [("math/bits.deBruijn32tab", Rows.laid_math_bits_deBruijn32tab), ("math/bits.deBruijn64tab", Rows.laid_math_bits_deBruijn64tab), ("internal/strconv.uint64pow10", Rows.laid_internal_strconv_uint64pow10)]
theorem globOf {W : World} (h : laidMetH Tryd.prog laidL W) : Glob W := by
  rw [MakeChecks.laidMetH_plain _ _ _ (by kernel_rfl)] at h
  exact Glob.of_tab (h.filter fun x => x.1 == "internal/strconv.uint64pow10")
set_option maxRecDepth 100000 in
set_option maxHeartbeats 2000000 in
theorem lifted (os : Os) (started : os.Started) (H : Type) (enc : TypeId × Value → H) :
    ReturnsInHanded {} Tryd.checked os 3 .any (fun w args => (Rows.fnExactHistoryTextSpec.pre enc Tryd.prog Tryd.f3 Rows.fnExactHistoryTextRow.domain false w args ∧ laidMetH Tryd.prog laidL w) ∧ sizedMet enc Tryd.prog Tryd.f3 (OpenSpec.ofChange Rows.fnExactHistoryTextSpec) false w args) (Rows.fnExactHistoryTextSpec.post enc Tryd.prog Tryd.f3 false true false false) := by
  refine returnsInHanded_of_change_and (C := Tryd.checked) (X := fun w _ => laidMetH Tryd.prog laidL w) (fun _ _ _ hh h => h.of_heap hh) own started (by kernel_rfl) Tryd.func3
    (ChangeSpec.witness_shaped (enc := enc) (C := Tryd.checked) (os := os) (X := fun w _ => laidMetH Tryd.prog laidL w) false (World.laidAll Tryd.prog os laidL) #[.slice none 0 0] 8 (World.laidAll_os _ _ _)
      (World.shaped_of_ZipB (by kernel_rfl) (by kernel_rfl)) (by kernel_rfl) (by kernel_rfl) (by kernel_rfl)
      (by rw [MakeChecks.laidMetH_plain _ _ _ (by kernel_rfl)]; exact laidMet_laidAll _ (by kernel_rfl) (by kernel_rfl))) ?_
  intro W base args ds gs before hval0 hW hcnd hsz0 hL _
  have hG := globOf hL
  have hsz : (DataW.weightsEach Tryd.prog (Tryd.f3.params.toList ++ Rows.fnExactHistoryTextSpec.plain.varTypes Tryd.prog) (ds ++ gs)).all (· ≤ reachBytes) = true := hsz0
  have hval : ∀ (j : Nat) t v, Tryd.f3.params[j]? = some t → args[j]? = some v → Value.okWide Tryd.prog W .any base t v := hval0
  have hW' := hW
  obtain ⟨p, q, hA0, hV, rfl, hfz, hnd⟩ := hW
  have hA : DataW.TrodAll enc Tryd.prog W 0 (fun _ => true) true Tryd.f3.params.toList args.toList ds p := hA0
  rw [Tryd.params3] at hA hval hsz
  obtain ⟨v0, vs0, d0, ds0, p0, q0, hargs, rfl, rfl, h0, r0⟩ := trodAll_cons hA
  obtain ⟨rfl, rfl, rfl⟩ := trodAll_nil r0
  obtain rfl : args = #[v0] := by cases args; simp_all
  obtain ⟨rfl, rfl⟩ := trodVars_none hV
  obtain ⟨a0, len0, cap0, rfl⟩ := okWide_slice Tryd.underlying22 (hval 0 22 v0 rfl rfl)
  have k0 := h0
  have lt0 : ∀ x ∈ p0, x.block < W.heap.size := by obtain ⟨m, hm⟩ := k0; exact DataW.trod_lt m _ _ _ hm
  obtain ⟨l0, rfl, hc0, hr0, w0⟩ : ∃ l : List (S51), len0 = l.length ∧ l.length ≤ cap0 ∧ Kd.C k51 W a0 l.length l ∧ (l.length * 16 ≤ 140737488351232 ∧ l.length ≤ 9223372036854775807 ∧ ∀ y1 ∈ l, fitsT51 y1) := by
    obtain ⟨fuel, hf⟩ := h0
    obtain ⟨l, ⟨A_, c_, e_, hl_, hC_⟩, hfit_⟩ := (opens_slice z51 Tryd.underlying22 (by kernel_rfl) opensT51 (by kernel_rfl)) hf (weights_param hsz (j := 0) rfl rfl)
    simp [Value.cells] at e_
    obtain ⟨rfl, rfl, rfl⟩ := e_
    exact ⟨l, rfl, hl_, hC_, hfit_⟩
  clear hA0 hval0 hsz0 hsz
  obtain ⟨k, h⟩ := Go.Proofs.YtpalafegcndccaaDoor.Pure.FnExactHistoryText l0 w0
  refine (laws_FnExactHistoryText.calls k a0 cap0 l0 true W hr0 hc0 hG h rfl).mono fun e W' ⟨he, bel0⟩ => ?_
  have bel : Below W.heap.size W W' := bel0
  subst he
  exact ⟨_, rfl, _, _, _, [], _, [], hW', trodAll_mk1 (shut_bool Tryd.underlying4 _), (trodAll_cons_mk (Below.trod laidOut (by kernel_rfl) (of_decide_eq_true (by kernel_rfl)) k0 bel lt0) trodAll_mk0), rfl, bel.frame _, fun h => by cases h⟩
theorem over : Rows.fnExactHistoryTextRow.holds Tryd.pinned (OpenSpec.ofChange Rows.fnExactHistoryTextSpec) :=
  OpenClaim.holds_of_wide 3 Tryd.f3 rfl rfl rfl rfl rfl rfl rfl ⟨rfl, rfl, rfl, rfl, rfl⟩ rfl rfl rfl rfl rfl (by kernel_rfl) Tryd.func3 (by kernel_rfl)
    (of_decide_eq_true (by kernel_rfl)) (by unfold Func.isWrapper; first | (rw [if_pos (by decide +kernel)]; kernel_rfl) | (rw [if_neg (by decide +kernel)]; exact ⟨rfl, rfl⟩))
    (fun os started H enc _ => lifted os started H enc)
theorem proved : Rows.FnExactHistoryTextSaid := over
theorem carded : Rows.FnExactHistoryTextCardSaid :=
  Claim7.holds_tied_plain_at .later [] [.data, .data, .data] true (true, "d63b0e492804cc4184f76d7010eba84c8670ebb5bab97d3b8c5f434333da6478") true
    proved (fun _ h => by cases h) (by kernel_rfl) (fun _ h => by cases h) fnExactHistoryText_row_tie rfl ⟨rfl, rfl⟩ (by kernel_rfl) rfl
    (fun f fn hf hfn => by
      obtain rfl : f = 3 := Option.some.inj ((show Tryd.prog.funcNamed "loop.example/g00906/laws.FnExactHistoryText" = some 3 by kernel_rfl).symm.trans hf) |>.symm
      obtain rfl : fn = Tryd.f3 := (Option.some.inj (Tryd.func3.symm.trans hfn)).symm
      exact ⟨by kernel_rfl, fun j t ht => by
        rw [Tryd.params3] at ht
        have hm : t ∈ [22] := by simpa using Array.mem_of_getElem? ht
        have hall : ([22].all fun u => !Tryd.prog.wantsStandIn u) = true := by kernel_rfl
        exact (show Tryd.prog.wantsStandIn t = false by simpa using List.all_eq_true.1 hall t hm)⟩)
    (by kernel_rfl)
#print axioms carded
end Go.Proofs.YtpalafegcndccaaDoor.fnExactHistoryText
namespace Go.Proofs.YtpalafegcndccaaDoor
/-- The card, under a short name, for the claim. -/
theorem fnExactHistoryText_holds : Rows.FnExactHistoryTextCardSaid := fnExactHistoryText.carded
end Go.Proofs.YtpalafegcndccaaDoor

