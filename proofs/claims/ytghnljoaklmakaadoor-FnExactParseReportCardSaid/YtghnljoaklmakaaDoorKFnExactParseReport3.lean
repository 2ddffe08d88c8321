/- Texts that the proof of the law FnExactParseReport leans on, part 4 of 6. -/
import Derived.Shelf.Strings.Builder1
import Derived.Shelf.Strings.Builder2
import Derived.Shelf.Strings.OnBuilder
import Derived.Shelf.Small.Wraps
import Derived.Shelf.Strconv.Atoi
import Derived.Shelf.Strconv.Itoa0
import Derived.Shelf.Strconv.Itoa1
import Derived.Shelf.LaysM
import Derived.Shelf.Strconv.Itoa2
import Derived.Shelf.Strconv.Itoa3
import Derived.Shelf.Strconv.AtoiErrFast
import Derived.Shelf.Strconv.ParseIntEmpty
import Derived.Shelf.Strconv.AtoiFail
import Derived.Shelf.Strconv.Clone
import Derived.Shelf.Strconv.SyntaxError
import Derived.Shelf.LaysC
import Derived.Shelf.Strconv.ToError
import Derived.Shelf.Strconv.Lower
import Derived.Shelf.Strconv.ParseUint10
import Derived.Shelf.Strconv.ParseUint10Empty
import Derived.Shelf.Strconv.ParseUint10Any
import Derived.Shelf.Strconv.ParseInt10
import Derived.Shelf.Strconv.AtoiLong
import Derived.Shelf.Strconv.AtoiInnerAll
import Derived.Shelf.Strconv.RangeError
import Derived.Shelf.Strconv.ToErrorRange
import Derived.Shelf.Strconv.AtoiAll
import Derived.Shelf.Strconv.ErrVarAll
import Derived.Shelf.Strings.Search1
import Derived.Shelf.Strings.Search2
import Derived.Shelf.Strings.Cut
import Derived.Shelf.Strings.Shaped
import Derived.Shelf.Strings.Prefix
import Derived.Shelf.Strings.FieldsFuncAny
import Derived.Shelf.Strings.FieldsFuncGrows
import Derived.Test.YtghnljoaklmakaaDoorProg
import Derived.Test.YtghnljoaklmakaaDoorKFnExactParseReport1
import Derived.Test.YtghnljoaklmakaaDoorKFnExactParseReport2
set_option linter.unusedVariables false
set_option linter.unusedSimpArgs false
namespace Go.Proofs
open Go.Shelf
def Tryd.lays156_ren : Go.Shelf.Ren := ⟨fun | 156 => 29 | 165 => 47 | 166 => 48 | 169 => 49 | 240 => 61 | 241 => 62 | 276 => 67 | 277 => 68 | n => n, fun | 31 => 47 | 9 => 9 | 3 => 3 | 4 => 4 | 0 => 0 | 20 => 20 | 72 => 63 | 76 => 67 | 70 => 60 | 37 => 61 | 75 => 66 | 127 => 79 | 164 => 85 | 5 => 5 | 80 => 69 | n => n, fun | n => n⟩
theorem Tryd.lays156 : Go.Proofs.Lays.n156 Tryd.prog Tryd.lays156_ren := {
  mixed := by kernel_rfl
  f156 := Tryd.func29.trans (congrArg some (by kernel_rfl))
  f165 := Tryd.func47.trans (congrArg some (by kernel_rfl))
  f166 := Tryd.func48.trans (congrArg some (by kernel_rfl))
  f169 := Tryd.func49.trans (congrArg some (by kernel_rfl))
  f240 := Tryd.func61.trans (congrArg some (by kernel_rfl))
  f241 := Tryd.func62.trans (congrArg some (by kernel_rfl))
  f276 := Tryd.func67.trans (congrArg some (by kernel_rfl))
  f277 := Tryd.func68.trans (congrArg some (by kernel_rfl))
  t0 := Tryd.underlying0
  a0 := Tryd.isAgg0
  z0 := Tryd.sizeOf0
  v0 := Tryd.zeroValue0
  t3 := Tryd.underlying3
  a3 := Tryd.isAgg3
  z3 := Tryd.sizeOf3
  v3 := Tryd.zeroValue3
  t4 := Tryd.underlying4
  a4 := Tryd.isAgg4
  z4 := Tryd.sizeOf4
  v4 := Tryd.zeroValue4
  t9 := Tryd.underlying9
  a9 := Tryd.isAgg9
  z9 := Tryd.sizeOf9
  v9 := Tryd.zeroValue9
  t20 := Tryd.underlying20
  a20 := Tryd.isAgg20
  z20 := Tryd.sizeOf20
  v20 := Tryd.zeroValue20
  t31 := Tryd.underlying47
  a31 := Tryd.isAgg47
  z31 := Tryd.sizeOf47
  v31 := Tryd.zeroValue47
  t37 := Tryd.underlying61
  a37 := Tryd.isAgg61
  z37 := Tryd.sizeOf61
  v37 := Tryd.zeroValue61
  t70 := Tryd.underlying60
  a70 := Tryd.isAgg60
  z70 := Tryd.sizeOf60
  v70 := Tryd.zeroValue60
  t72 := Tryd.underlying63
  a72 := Tryd.isAgg63
  z72 := Tryd.sizeOf63
  v72 := Tryd.zeroValue63
  t75 := Tryd.underlying66
  a75 := Tryd.isAgg66
  z75 := Tryd.sizeOf66
  v75 := Tryd.zeroValue66
  t76 := Tryd.underlying67
  a76 := Tryd.isAgg67
  z76 := Tryd.sizeOf67
  v76 := Tryd.zeroValue67
  t127 := Tryd.underlying79
  a127 := Tryd.isAgg79
  z127 := Tryd.sizeOf79
  v127 := Tryd.zeroValue79
  t164 := Tryd.underlying85
  a164 := Tryd.isAgg85
  z164 := Tryd.sizeOf85
  v164 := Tryd.zeroValue85 }
theorem Tryd.Builder_Extra_156 : Builder.Extra Tryd.prog Tryd.lays156_ren := {
  sizeBuilder := by kernel_rfl
  liesBuilder := by kernel_rfl
  t5 := Tryd.underlying5
  a5 := Tryd.isAgg5
  z5 := Tryd.sizeOf5
  v5 := Tryd.zeroValue5
  infoByte := by kernel_rfl
  cellsByte := by kernel_rfl
  sizeByte := by kernel_rfl
  neB5 := by decide }
open Go.RowKit in
/-- No element: the empty string; the world is as it was. (Whatever the slice's address and capacity: a nil slice too.) (LAID: no walk: one application.) -/
theorem Tryd.strings_Join_none (a : Option Addr) (c : Nat) (sep : ByteArray) (w : World) :
    Calls Tryd.prog 29 #[.slice a 0 c, .string sep] w fun e w' => e = .returned (.string ⟨#[]⟩) ∧ w' = w := Any.strings_Join_none Tryd.lays156 Tryd.Builder_Extra_156 a c sep w
open Go.RowKit in
/-- strings.Join: "Join concatenates the elements of its first argument to create a single string. The separator string sep is placed between elements in the resulting string.": HOWEVER MANY ELEMENTS. Below the heap's end the world is as it was. (LAID: no walk: one application.) -/
theorem Tryd.strings_Join (bk o c : Nat) (xs : List ByteArray) (sep : ByteArray) (w : World) (hcells : ∀ (j : Nat) x, xs[j]? = some x → w.cell? ⟨bk, o + j, none⟩ = some (.string x)) (hbk : bk < w.heap.size) (hN : xs.length ≤ 140737488355328) (hcap : xs.length ≤ c) (hlen : (Lib.join (xs.map (·.data.toList)) sep.data.toList).length ≤ 140737488355328) :
    Calls Tryd.prog 29 #[.slice (some ⟨bk, o, none⟩) xs.length c, .string sep] w fun e w' => e = .returned (.string ⟨(Lib.join (xs.map (·.data.toList)) sep.data.toList).toArray⟩) ∧ Below w.heap.size w w' := Any.strings_Join Tryd.lays156 Tryd.Builder_Extra_156 bk o c xs sep w hcells hbk hN hcap hlen
def Tryd.lays210_ren : Go.Shelf.Ren := ⟨fun | 210 => 51 | 206 => 63 | n => n, fun | 9 => 9 | 4 => 4 | 3 => 3 | n => n, fun | n => n⟩
theorem Tryd.lays210 : Go.Proofs.Lays.n210 Tryd.prog Tryd.lays210_ren := {
  mixed := by kernel_rfl
  f206 := Tryd.func63.trans (congrArg some (by kernel_rfl))
  f210 := Tryd.func51.trans (congrArg some (by kernel_rfl))
  t3 := Tryd.underlying3
  a3 := Tryd.isAgg3
  z3 := Tryd.sizeOf3
  v3 := Tryd.zeroValue3
  t4 := Tryd.underlying4
  a4 := Tryd.isAgg4
  z4 := Tryd.sizeOf4
  v4 := Tryd.zeroValue4
  t9 := Tryd.underlying9
  a9 := Tryd.isAgg9
  z9 := Tryd.sizeOf9
  v9 := Tryd.zeroValue9 }
open Go.RowKit in
/-- internal/stringslite.CutPrefix (what strings.CutPrefix calls). (LAID: no walk: one application.) -/
theorem Tryd.stringslite_CutPrefix (s p : ByteArray) (w : World) :
    Calls Tryd.prog 51 #[.string s, .string p] w fun e w' => e = .returned (.tuple #[.string ⟨(Lib.trimPrefix s.data.toList p.data.toList).toArray⟩, .bool (Lib.hasPrefix s.data.toList p.data.toList)]) ∧ w' = w := Any.stringslite_CutPrefix Tryd.lays210 s p w
def Tryd.lays103_ren : Go.Shelf.Ren := ⟨fun | 103 => 33 | 210 => 51 | 206 => 63 | n => n, fun | 9 => 9 | 4 => 4 | 24 => 25 | 3 => 3 | n => n, fun | n => n⟩
theorem Tryd.lays103 : Go.Proofs.Lays.n103 Tryd.prog Tryd.lays103_ren := {
  mixed := by kernel_rfl
  f103 := Tryd.func33.trans (congrArg some (by kernel_rfl))
  f206 := Tryd.func63.trans (congrArg some (by kernel_rfl))
  f210 := Tryd.func51.trans (congrArg some (by kernel_rfl))
  t3 := Tryd.underlying3
  a3 := Tryd.isAgg3
  z3 := Tryd.sizeOf3
  v3 := Tryd.zeroValue3
  t4 := Tryd.underlying4
  a4 := Tryd.isAgg4
  z4 := Tryd.sizeOf4
  v4 := Tryd.zeroValue4
  t9 := Tryd.underlying9
  a9 := Tryd.isAgg9
  z9 := Tryd.sizeOf9
  v9 := Tryd.zeroValue9
  t24 := Tryd.underlying25
  a24 := Tryd.isAgg25
  z24 := Tryd.sizeOf25
  v24 := Tryd.zeroValue25 }
open Go.RowKit in
/-- strings.CutPrefix: "CutPrefix returns s without the provided leading prefix string and reports whether it found the prefix. If s doesn't start with prefix, CutPrefix returns s, false. If prefix is the empty string, CutPrefix returns s, true.": IT RETURNS '(Lib.trimPrefix s p, Lib.hasPrefix s p)'; the world is as it was. (LAID: no walk: one application.) -/
theorem Tryd.strings_CutPrefix (s p : ByteArray) (w : World) :
    Calls Tryd.prog 33 #[.string s, .string p] w fun e w' => e = .returned (.tuple #[.string ⟨(Lib.trimPrefix s.data.toList p.data.toList).toArray⟩, .bool (Lib.hasPrefix s.data.toList p.data.toList)]) ∧ w' = w := Any.strings_CutPrefix Tryd.lays103 s p w
def Tryd.laysM171_ren : Go.Shelf.Ren := ⟨fun | 171 => 59 | 243 => 66 | 246 => 75 | 283 => 83 | 284 => 84 | 285 => 85 | 286 => 86 | 129 => 91 | 317 => 90 | 318 => 92 | 319 => 93 | 320 => 94 | 337 => 97 | 338 => 98 | n => n, fun | 3 => 3 | 9 => 9 | 2 => 2 | 4 => 4 | 171 => 101 | 0 => 0 | 53 => 102 | 37 => 61 | 5 => 5 | 173 => 105 | 212 => 114 | 51 => 98 | 20 => 20 | 213 => 115 | 46 => 72 | 232 => 123 | 233 => 124 | n => n, fun | 17 => 3 | 18 => 4 | 19 => 5 | n => n⟩
theorem Tryd.laysM171 : Go.Proofs.LaysM.n171 Tryd.prog Tryd.laysM171_ren := {
  mixed := by kernel_rfl
  f129 := Tryd.func91.trans (congrArg some (by kernel_rfl))
  f171 := Tryd.func59.trans (congrArg some (by kernel_rfl))
  f243 := Tryd.func66.trans (congrArg some (by kernel_rfl))
  f246 := Tryd.func75.trans (congrArg some (by kernel_rfl))
  f283 := Tryd.func83.trans (congrArg some (by kernel_rfl))
  f284 := Tryd.func84.trans (congrArg some (by kernel_rfl))
  f285 := Tryd.func85.trans (congrArg some (by kernel_rfl))
  f286 := Tryd.func86.trans (congrArg some (by kernel_rfl))
  f317 := Tryd.func90.trans (congrArg some (by kernel_rfl))
  f318 := Tryd.func92.trans (congrArg some (by kernel_rfl))
  f319 := Tryd.func93.trans (congrArg some (by kernel_rfl))
  f320 := Tryd.func94.trans (congrArg some (by kernel_rfl))
  f337 := Tryd.func97.trans (congrArg some (by kernel_rfl))
  f338 := Tryd.func98.trans (congrArg some (by kernel_rfl))
  t0 := Tryd.underlying0
  a0 := Tryd.isAgg0
  z0 := Tryd.sizeOf0
  v0 := Tryd.zeroValue0
  t2 := Tryd.underlying2
  a2 := Tryd.isAgg2
  z2 := Tryd.sizeOf2
  v2 := Tryd.zeroValue2
  t3 := Tryd.underlying3
  a3 := Tryd.isAgg3
  z3 := Tryd.sizeOf3
  v3 := Tryd.zeroValue3
  t4 := Tryd.underlying4
  a4 := Tryd.isAgg4
  z4 := Tryd.sizeOf4
  v4 := Tryd.zeroValue4
  t5 := Tryd.underlying5
  a5 := Tryd.isAgg5
  z5 := Tryd.sizeOf5
  v5 := Tryd.zeroValue5
  t9 := Tryd.underlying9
  a9 := Tryd.isAgg9
  z9 := Tryd.sizeOf9
  v9 := Tryd.zeroValue9
  t20 := Tryd.underlying20
  a20 := Tryd.isAgg20
  z20 := Tryd.sizeOf20
  v20 := Tryd.zeroValue20
  t37 := Tryd.underlying61
  a37 := Tryd.isAgg61
  z37 := Tryd.sizeOf61
  v37 := Tryd.zeroValue61
  t46 := Tryd.underlying72
  a46 := Tryd.isAgg72
  z46 := Tryd.sizeOf72
  v46 := Tryd.zeroValue72
  t51 := Tryd.underlying98
  a51 := Tryd.isAgg98
  z51 := Tryd.sizeOf98
  v51 := Tryd.zeroValue98
  t53 := Tryd.underlying102
  a53 := Tryd.isAgg102
  z53 := Tryd.sizeOf102
  v53 := Tryd.zeroValue102
  t171 := Tryd.underlying101
  a171 := Tryd.isAgg101
  z171 := Tryd.sizeOf101
  v171 := Tryd.zeroValue101
  t173 := Tryd.underlying105
  a173 := Tryd.isAgg105
  z173 := Tryd.sizeOf105
  v173 := Tryd.zeroValue105
  t212 := Tryd.underlying114
  a212 := Tryd.isAgg114
  z212 := Tryd.sizeOf114
  v212 := Tryd.zeroValue114
  t213 := Tryd.underlying115
  a213 := Tryd.isAgg115
  z213 := Tryd.sizeOf115
  t232 := Tryd.underlying123
  a232 := Tryd.isAgg123
  z232 := Tryd.sizeOf123
  v232 := Tryd.zeroValue123
  t233 := Tryd.underlying124
  a233 := Tryd.isAgg124
  z233 := Tryd.sizeOf124
  v233 := Tryd.zeroValue124
  g17 := by kernel_rfl
  g18 := by kernel_rfl
  g19 := by kernel_rfl
  i0 := by kernel_rfl
  i2 := by kernel_rfl
  i3 := by kernel_rfl
  i4 := by kernel_rfl
  i5 := by kernel_rfl
  i9 := by kernel_rfl
  i20 := by kernel_rfl
  i37 := by kernel_rfl
  i46 := by kernel_rfl
  i51 := by kernel_rfl
  i53 := by kernel_rfl
  i171 := by kernel_rfl
  i173 := by kernel_rfl
  i212 := by kernel_rfl
  i232 := by kernel_rfl
  i233 := by kernel_rfl
  m17 := by kernel_rfl
  m18 := by kernel_rfl
  m19 := by kernel_rfl }
open Go.RowKit Go.Sort Go.Lib in
/-- strconv.Itoa: "Itoa is equivalent to FormatInt(int64(i), 10).": i's DECIMAL NUMERAL ('Lib.itoa': a '-' where i is negative, then the digits), FOR EVERY int. The world behind the call: the world before it, new blocks behind the heap (the library's 'var a [24]byte'), draws. (LAID: no walk: one application.) -/
theorem Tryd.strconv_Itoa (n : Int) (h0 : -9223372036854775808 ≤ n) (h1 : n ≤ 9223372036854775807) (w : World) (htab : Lib.TabIs Tryd.prog w "internal/strconv.uint64pow10" .u64 Lib.pow10Tab) :
    Calls Tryd.prog 59 #[.int .i64 n] w fun e w' => e = .returned (.string ⟨(Lib.itoa n).toArray⟩) ∧ ∃ k os, w' = grow (w.drewN k) os := Any.strconv_Itoa Tryd.laysM171 n h0 h1 w htab
def Tryd.laysC172_ren : Go.Shelf.Ren := ⟨fun | 172 => 64 | 244 => 69 | 245 => 70 | 247 => 76 | 279 => 77 | 280 => 78 | 281 => 79 | 282 => 80 | 287 => 87 | 316 => 88 | 171 => 59 | 205 => 89 | 321 => 95 | 322 => 96 | 243 => 66 | 246 => 75 | 283 => 83 | 284 => 84 | 285 => 85 | 286 => 86 | 129 => 91 | 317 => 90 | 318 => 92 | 319 => 93 | 320 => 94 | 337 => 97 | 338 => 98 | n => n, fun | 9 => 9 | 3 => 3 | 75 => 66 | 76 => 67 | 4 => 4 | 5 => 5 | 167 => 92 | 37 => 61 | 0 => 0 | 85 => 93 | 2 => 2 | 168 => 95 | 53 => 102 | 175 => 107 | 46 => 72 | 210 => 111 | 127 => 79 | 145 => 121 | 143 => 119 | 21 => 21 | 171 => 101 | 173 => 105 | 212 => 114 | 51 => 98 | 20 => 20 | 213 => 115 | 232 => 123 | 233 => 124 | 80 => 69 | n => n, fun | 15 => 1 | 16 => 2 | 17 => 3 | 18 => 4 | 19 => 5 | n => n⟩
theorem Tryd.laysC172 : Go.Proofs.LaysC.n172 Tryd.prog Tryd.laysC172_ren := {
  mixed := by kernel_rfl
  f129 := Tryd.func91.trans (congrArg some (by kernel_rfl))
  f171 := Tryd.func59.trans (congrArg some (by kernel_rfl))
  f172 := Tryd.func64.trans (congrArg some (by kernel_rfl))
  f205 := Tryd.func89.trans (congrArg some (by kernel_rfl))
  f243 := Tryd.func66.trans (congrArg some (by kernel_rfl))
  f244 := Tryd.func69.trans (congrArg some (by kernel_rfl))
  f245 := Tryd.func70.trans (congrArg some (by kernel_rfl))
  f246 := Tryd.func75.trans (congrArg some (by kernel_rfl))
  f247 := Tryd.func76.trans (congrArg some (by kernel_rfl))
  f279 := Tryd.func77.trans (congrArg some (by kernel_rfl))
  f280 := Tryd.func78.trans (congrArg some (by kernel_rfl))
  f281 := Tryd.func79.trans (congrArg some (by kernel_rfl))
  f282 := Tryd.func80.trans (congrArg some (by kernel_rfl))
  f283 := Tryd.func83.trans (congrArg some (by kernel_rfl))
  f284 := Tryd.func84.trans (congrArg some (by kernel_rfl))
  f285 := Tryd.func85.trans (congrArg some (by kernel_rfl))
  f286 := Tryd.func86.trans (congrArg some (by kernel_rfl))
  f287 := Tryd.func87.trans (congrArg some (by kernel_rfl))
  f316 := Tryd.func88.trans (congrArg some (by kernel_rfl))
  f317 := Tryd.func90.trans (congrArg some (by kernel_rfl))
  f318 := Tryd.func92.trans (congrArg some (by kernel_rfl))
  f319 := Tryd.func93.trans (congrArg some (by kernel_rfl))
  f320 := Tryd.func94.trans (congrArg some (by kernel_rfl))
  f321 := Tryd.func95.trans (congrArg some (by kernel_rfl))
  f322 := Tryd.func96.trans (congrArg some (by kernel_rfl))
  f337 := Tryd.func97.trans (congrArg some (by kernel_rfl))
  f338 := Tryd.func98.trans (congrArg some (by kernel_rfl))
  t0 := Tryd.underlying0
  a0 := Tryd.isAgg0
  z0 := Tryd.sizeOf0
  v0 := Tryd.zeroValue0
  t2 := Tryd.underlying2
  a2 := Tryd.isAgg2
  z2 := Tryd.sizeOf2
  v2 := Tryd.zeroValue2
  t3 := Tryd.underlying3
  a3 := Tryd.isAgg3
  z3 := Tryd.sizeOf3
  v3 := Tryd.zeroValue3
  t4 := Tryd.underlying4
  a4 := Tryd.isAgg4
  z4 := Tryd.sizeOf4
  v4 := Tryd.zeroValue4
  t5 := Tryd.underlying5
  a5 := Tryd.isAgg5
  z5 := Tryd.sizeOf5
  v5 := Tryd.zeroValue5
  t9 := Tryd.underlying9
  a9 := Tryd.isAgg9
  z9 := Tryd.sizeOf9
  v9 := Tryd.zeroValue9
  t20 := Tryd.underlying20
  a20 := Tryd.isAgg20
  z20 := Tryd.sizeOf20
  v20 := Tryd.zeroValue20
  t21 := Tryd.underlying21
  a21 := Tryd.isAgg21
  z21 := Tryd.sizeOf21
  v21 := Tryd.zeroValue21
  t37 := Tryd.underlying61
  a37 := Tryd.isAgg61
  z37 := Tryd.sizeOf61
  v37 := Tryd.zeroValue61
  t46 := Tryd.underlying72
  a46 := Tryd.isAgg72
  z46 := Tryd.sizeOf72
  v46 := Tryd.zeroValue72
  t51 := Tryd.underlying98
  a51 := Tryd.isAgg98
  z51 := Tryd.sizeOf98
  v51 := Tryd.zeroValue98
  t53 := Tryd.underlying102
  a53 := Tryd.isAgg102
  z53 := Tryd.sizeOf102
  v53 := Tryd.zeroValue102
  t75 := Tryd.underlying66
  a75 := Tryd.isAgg66
  z75 := Tryd.sizeOf66
  v75 := Tryd.zeroValue66
  t76 := Tryd.underlying67
  a76 := Tryd.isAgg67
  z76 := Tryd.sizeOf67
  v76 := Tryd.zeroValue67
  t85 := Tryd.underlying93
  a85 := Tryd.isAgg93
  z85 := Tryd.sizeOf93
  v85 := Tryd.zeroValue93
  t127 := Tryd.underlying79
  a127 := Tryd.isAgg79
  z127 := Tryd.sizeOf79
  v127 := Tryd.zeroValue79
  t143 := Tryd.underlying119
  a143 := Tryd.isAgg119
  z143 := Tryd.sizeOf119
  v143 := Tryd.zeroValue119
  t145 := Tryd.underlying121
  a145 := Tryd.isAgg121
  z145 := Tryd.sizeOf121
  v145 := Tryd.zeroValue121
  t167 := Tryd.underlying92
  a167 := Tryd.isAgg92
  z167 := Tryd.sizeOf92
  v167 := Tryd.zeroValue92
  t168 := Tryd.underlying95
  a168 := Tryd.isAgg95
  z168 := Tryd.sizeOf95
  v168 := Tryd.zeroValue95
  t171 := Tryd.underlying101
  a171 := Tryd.isAgg101
  z171 := Tryd.sizeOf101
  v171 := Tryd.zeroValue101
  t173 := Tryd.underlying105
  a173 := Tryd.isAgg105
  z173 := Tryd.sizeOf105
  v173 := Tryd.zeroValue105
  t175 := Tryd.underlying107
  a175 := Tryd.isAgg107
  z175 := Tryd.sizeOf107
  v175 := Tryd.zeroValue107
  t210 := Tryd.underlying111
  a210 := Tryd.isAgg111
  z210 := Tryd.sizeOf111
  v210 := Tryd.zeroValue111
  t212 := Tryd.underlying114
  a212 := Tryd.isAgg114
  z212 := Tryd.sizeOf114
  v212 := Tryd.zeroValue114
  t213 := Tryd.underlying115
  a213 := Tryd.isAgg115
  z213 := Tryd.sizeOf115
  t232 := Tryd.underlying123
  a232 := Tryd.isAgg123
  z232 := Tryd.sizeOf123
  v232 := Tryd.zeroValue123
  t233 := Tryd.underlying124
  a233 := Tryd.isAgg124
  z233 := Tryd.sizeOf124
  v233 := Tryd.zeroValue124
  g15 := by kernel_rfl
  g16 := by kernel_rfl
  g17 := by kernel_rfl
  g18 := by kernel_rfl
  g19 := by kernel_rfl
  t80 := Tryd.underlying69
  a80 := Tryd.isAgg69
  z80 := Tryd.sizeOf69
  v80 := Tryd.zeroValue69
  i0 := by kernel_rfl
  i2 := by kernel_rfl
  i3 := by kernel_rfl
  i4 := by kernel_rfl
  i5 := by kernel_rfl
  i9 := by kernel_rfl
  i20 := by kernel_rfl
  i21 := by kernel_rfl
  i37 := by kernel_rfl
  i46 := by kernel_rfl
  i51 := by kernel_rfl
  i53 := by kernel_rfl
  i75 := by kernel_rfl
  i76 := by kernel_rfl
  i80 := by kernel_rfl
  i85 := by kernel_rfl
  i127 := by kernel_rfl
  i143 := by kernel_rfl
  i145 := by kernel_rfl
  i167 := by kernel_rfl
  i168 := by kernel_rfl
  i171 := by kernel_rfl
  i173 := by kernel_rfl
  i175 := by kernel_rfl
  i210 := by kernel_rfl
  i212 := by kernel_rfl
  i232 := by kernel_rfl
  i233 := by kernel_rfl
  m15 := by kernel_rfl
  m16 := by kernel_rfl
  m17 := by kernel_rfl
  m18 := by kernel_rfl
  m19 := by kernel_rfl
  c0 := by kernel_rfl
  c2 := by kernel_rfl
  c3 := by kernel_rfl
  c4 := by kernel_rfl
  c5 := by kernel_rfl
  c9 := by kernel_rfl
  c20 := by kernel_rfl
  c21 := by kernel_rfl
  c37 := by kernel_rfl
  c46 := by kernel_rfl
  c51 := by kernel_rfl
  c53 := by kernel_rfl
  c75 := by kernel_rfl
  c76 := by kernel_rfl
  c80 := by kernel_rfl
  c85 := by kernel_rfl
  c127 := by kernel_rfl
  c143 := by kernel_rfl
  c145 := by kernel_rfl
  c167 := by kernel_rfl
  c168 := by kernel_rfl
  c171 := by kernel_rfl
  c173 := by kernel_rfl
  c175 := by kernel_rfl
  c210 := by kernel_rfl
  c212 := by kernel_rfl
  c213 := by kernel_rfl
  c232 := by kernel_rfl
  c233 := by kernel_rfl }
open Go.RowKit in
/-- strconv.Atoi, AT EVERY STRING THAT SPELLS AN int ('Lib.atoiAll .. = .ok v'; of whatever length: leading zeros count): v, AND NO ERROR. The world: as it was, or with the one new row that '[]byte(..)' lays. (LAID: no walk: one application.) -/
theorem Tryd.strconv_Atoi_ok (s : ByteArray) (hmax : s.size ≤ 9223372036854775806) (v : Int) (h : Lib.atoiAll s.data.toList = .ok v) (w : World) :
    Calls Tryd.prog 64 #[.string s] w fun e w' => e = .returned (.tuple #[.int .i64 v, .nilIface]) ∧ (w' = w ∨ ∃ t, w' = Lib.bytesWorld w 5 t) := Any.strconv_Atoi_ok Tryd.laysC172 s hmax v h w
open Go.RowKit in
theorem Tryd.strconv_Atoi_range_var (s : ByteArray) (hlim : s.size ≤ 281474976710656) (h : Lib.atoiAll s.data.toList = .range) (tp : TypeId) (p : Value) (w : World) (hvar : w.var? Tryd.prog "strconv.ErrRange" = some #[.iface tp p]) :
    Calls Tryd.prog 64 #[.string s] w fun e w' => ∃ N, e = .returned (.tuple #[.int .i64 (Lib.atoiSat s.data.toList), .iface 95 (.pointer (some ⟨N, 0, none⟩))]) ∧ w.heap.size ≤ N ∧ w'.heap[N]? = some (.cells #[.string ⟨#[65, 116, 111, 105]⟩, .string s, .iface tp p] 111 (0, 0)) ∧ Below w.heap.size w w' := Any.strconv_Atoi_range_var Tryd.laysC172 s hlim h tp p w hvar
def Tryd.lays219_ren : Go.Shelf.Ren := ⟨fun | 219 => 65 | 217 => 71 | 225 => 72 | 224 => 73 | 267 => 74 | 266 => 81 | 314 => 82 | n => n, fun | 9 => 9 | 3 => 3 | 4 => 4 | 5 => 5 | 46 => 72 | 146 => 99 | 51 => 98 | n => n, fun | 1 => 0 | n => n⟩
theorem Tryd.lays219 : Go.Proofs.Lays.n219 Tryd.prog Tryd.lays219_ren := {
  mixed := by kernel_rfl
  f217 := Tryd.func71.trans (congrArg some (by kernel_rfl))
  f219 := Tryd.func65.trans (congrArg some (by kernel_rfl))
  f224 := Tryd.func73.trans (congrArg some (by kernel_rfl))
  f225 := Tryd.func72.trans (congrArg some (by kernel_rfl))
  f266 := Tryd.func81.trans (congrArg some (by kernel_rfl))
  f267 := Tryd.func74.trans (congrArg some (by kernel_rfl))
  f314 := Tryd.func82.trans (congrArg some (by kernel_rfl))
  t3 := Tryd.underlying3
  a3 := Tryd.isAgg3
  z3 := Tryd.sizeOf3
  v3 := Tryd.zeroValue3
  t4 := Tryd.underlying4
  a4 := Tryd.isAgg4
  z4 := Tryd.sizeOf4
  v4 := Tryd.zeroValue4
  t5 := Tryd.underlying5
  a5 := Tryd.isAgg5
  z5 := Tryd.sizeOf5
  v5 := Tryd.zeroValue5
  t9 := Tryd.underlying9
  a9 := Tryd.isAgg9
  z9 := Tryd.sizeOf9
  v9 := Tryd.zeroValue9
  t46 := Tryd.underlying72
  a46 := Tryd.isAgg72
  z46 := Tryd.sizeOf72
  v46 := Tryd.zeroValue72
  t51 := Tryd.underlying98
  a51 := Tryd.isAgg98
  z51 := Tryd.sizeOf98
  v51 := Tryd.zeroValue98
  t146 := Tryd.underlying99
  a146 := Tryd.isAgg99
  z146 := Tryd.sizeOf99
  v146 := Tryd.zeroValue99
  g1 := by kernel_rfl }
open Go.RowKit Go.Lib in
/-- internal/stringslite.Index (what strings.Index calls) AT A substr OF WHATEVER LENGTH: IT RETURNS 'Lib.index s substr'; the world is as it was. 'm': what internal/bytealg.MaxLen holds: whatever. (LAID: no walk: one application.) -/
theorem Tryd.stringslite_Index (s sub : ByteArray) (m : Int) (w : World) (hs : s.size < 4294967281) (hm : w.cell? ⟨0, 0, none⟩ = some (.int .i64 m)) :
    Calls Tryd.prog 65 #[.string s, .string sub] w fun e w' => e = .returned (.int .i64 (Lib.index s.data.toList sub.data.toList)) ∧ w' = w := Any.stringslite_Index Tryd.lays219 s sub m w hs hm
def Tryd.lays220_ren : Go.Shelf.Ren := ⟨fun | 220 => 55 | 219 => 65 | 217 => 71 | 225 => 72 | 224 => 73 | 267 => 74 | 266 => 81 | 314 => 82 | n => n, fun | 9 => 9 | 4 => 4 | 3 => 3 | 5 => 5 | 46 => 72 | 146 => 99 | 51 => 98 | n => n, fun | 1 => 0 | n => n⟩
theorem Tryd.lays220 : Go.Proofs.Lays.n220 Tryd.prog Tryd.lays220_ren := {
  mixed := by kernel_rfl
  f217 := Tryd.func71.trans (congrArg some (by kernel_rfl))
  f219 := Tryd.func65.trans (congrArg some (by kernel_rfl))
  f220 := Tryd.func55.trans (congrArg some (by kernel_rfl))
  f224 := Tryd.func73.trans (congrArg some (by kernel_rfl))
  f225 := Tryd.func72.trans (congrArg some (by kernel_rfl))
  f266 := Tryd.func81.trans (congrArg some (by kernel_rfl))
  f267 := Tryd.func74.trans (congrArg some (by kernel_rfl))
  f314 := Tryd.func82.trans (congrArg some (by kernel_rfl))
  t3 := Tryd.underlying3
  a3 := Tryd.isAgg3
  z3 := Tryd.sizeOf3
  v3 := Tryd.zeroValue3
  t4 := Tryd.underlying4
  a4 := Tryd.isAgg4
  z4 := Tryd.sizeOf4
  v4 := Tryd.zeroValue4
  t5 := Tryd.underlying5
  a5 := Tryd.isAgg5
  z5 := Tryd.sizeOf5
  v5 := Tryd.zeroValue5
  t9 := Tryd.underlying9
  a9 := Tryd.isAgg9
  z9 := Tryd.sizeOf9
  v9 := Tryd.zeroValue9
  t46 := Tryd.underlying72
  a46 := Tryd.isAgg72
  z46 := Tryd.sizeOf72
  v46 := Tryd.zeroValue72
  t51 := Tryd.underlying98
  a51 := Tryd.isAgg98
  z51 := Tryd.sizeOf98
  v51 := Tryd.zeroValue98
  t146 := Tryd.underlying99
  a146 := Tryd.isAgg99
  z146 := Tryd.sizeOf99
  v146 := Tryd.zeroValue99
  g1 := by kernel_rfl }
open Go.RowKit Go.Lib in
/-- internal/stringslite.Cut (what strings.Cut calls): IT RETURNS 'Lib.cut s sep'; the world is as it was but for the count of draws. (LAID: no walk: one application.) -/
theorem Tryd.stringslite_Cut (s sep : ByteArray) (m : Int) (w : World) (hs : s.size < 4294967281) (hm : w.cell? ⟨0, 0, none⟩ = some (.int .i64 m)) :
    Calls Tryd.prog 55 #[.string s, .string sep] w fun e w' => e = .returned (.tuple #[.string ⟨(Lib.cut s.data.toList sep.data.toList).1.toArray⟩, .string ⟨(Lib.cut s.data.toList sep.data.toList).2.1.toArray⟩, .bool (Lib.cut s.data.toList sep.data.toList).2.2]) ∧ ∃ n, w' = w.drewN n := Any.stringslite_Cut Tryd.lays220 s sep m w hs hm
def Tryd.lays145_ren : Go.Shelf.Ren := ⟨fun | 145 => 35 | 220 => 55 | 219 => 65 | 217 => 71 | 225 => 72 | 224 => 73 | 267 => 74 | 266 => 81 | 314 => 82 | n => n, fun | 9 => 9 | 4 => 4 | 59 => 55 | 3 => 3 | 5 => 5 | 46 => 72 | 146 => 99 | 51 => 98 | n => n, fun | 1 => 0 | n => n⟩
theorem Tryd.lays145 : Go.Proofs.Lays.n145 Tryd.prog Tryd.lays145_ren := {
  mixed := by kernel_rfl
  f145 := Tryd.func35.trans (congrArg some (by kernel_rfl))
  f217 := Tryd.func71.trans (congrArg some (by kernel_rfl))
  f219 := Tryd.func65.trans (congrArg some (by kernel_rfl))
  f220 := Tryd.func55.trans (congrArg some (by kernel_rfl))
  f224 := Tryd.func73.trans (congrArg some (by kernel_rfl))
  f225 := Tryd.func72.trans (congrArg some (by kernel_rfl))
  f266 := Tryd.func81.trans (congrArg some (by kernel_rfl))
  f267 := Tryd.func74.trans (congrArg some (by kernel_rfl))
  f314 := Tryd.func82.trans (congrArg some (by kernel_rfl))
  t3 := Tryd.underlying3
  a3 := Tryd.isAgg3
  z3 := Tryd.sizeOf3
  v3 := Tryd.zeroValue3
  t4 := Tryd.underlying4
  a4 := Tryd.isAgg4
  z4 := Tryd.sizeOf4
  v4 := Tryd.zeroValue4
  t5 := Tryd.underlying5
  a5 := Tryd.isAgg5
  z5 := Tryd.sizeOf5
  v5 := Tryd.zeroValue5
  t9 := Tryd.underlying9
  a9 := Tryd.isAgg9
  z9 := Tryd.sizeOf9
  v9 := Tryd.zeroValue9
  t46 := Tryd.underlying72
  a46 := Tryd.isAgg72
  z46 := Tryd.sizeOf72
  v46 := Tryd.zeroValue72
  t51 := Tryd.underlying98
  a51 := Tryd.isAgg98
  z51 := Tryd.sizeOf98
  v51 := Tryd.zeroValue98
  t59 := Tryd.underlying55
  a59 := Tryd.isAgg55
  z59 := Tryd.sizeOf55
  v59 := Tryd.zeroValue55
  t146 := Tryd.underlying99
  a146 := Tryd.isAgg99
  z146 := Tryd.sizeOf99
  v146 := Tryd.zeroValue99
  g1 := by kernel_rfl }
open Go.RowKit Go.Lib in
/-- strings.Cut: "Cut slices s around the first instance of sep, returning the text before and after sep. The found result reports whether sep appears in s. If sep does not appear in s, cut returns s, "", false.": IT RETURNS 'Lib.cut s sep'; the world is as it was but for the count of draws. (LAID: no walk: one application.) -/
theorem Tryd.strings_Cut (s sep : ByteArray) (m : Int) (w : World) (hs : s.size < 4294967281) (hm : w.cell? ⟨0, 0, none⟩ = some (.int .i64 m)) :
    Calls Tryd.prog 35 #[.string s, .string sep] w fun e w' => e = .returned (.tuple #[.string ⟨(Lib.cut s.data.toList sep.data.toList).1.toArray⟩, .string ⟨(Lib.cut s.data.toList sep.data.toList).2.1.toArray⟩, .bool (Lib.cut s.data.toList sep.data.toList).2.2]) ∧ ∃ n, w' = w.drewN n := Any.strings_Cut Tryd.lays145 s sep m w hs hm
def Tryd.laysM219_ren : Go.Shelf.Ren := ⟨fun | 219 => 65 | 217 => 71 | 225 => 72 | 224 => 73 | 267 => 74 | 266 => 81 | 314 => 82 | n => n, fun | 9 => 9 | 3 => 3 | 4 => 4 | 5 => 5 | 46 => 72 | 146 => 99 | 51 => 98 | n => n, fun | 1 => 0 | n => n⟩
theorem Tryd.laysM219 : Go.Proofs.LaysM.n219 Tryd.prog Tryd.laysM219_ren := {
  mixed := by kernel_rfl
  f217 := Tryd.func71.trans (congrArg some (by kernel_rfl))
  f219 := Tryd.func65.trans (congrArg some (by kernel_rfl))
  f224 := Tryd.func73.trans (congrArg some (by kernel_rfl))
  f225 := Tryd.func72.trans (congrArg some (by kernel_rfl))
  f266 := Tryd.func81.trans (congrArg some (by kernel_rfl))
  f267 := Tryd.func74.trans (congrArg some (by kernel_rfl))
  f314 := Tryd.func82.trans (congrArg some (by kernel_rfl))
  t3 := Tryd.underlying3
  a3 := Tryd.isAgg3
  z3 := Tryd.sizeOf3
  v3 := Tryd.zeroValue3
  t4 := Tryd.underlying4
  a4 := Tryd.isAgg4
  z4 := Tryd.sizeOf4
  v4 := Tryd.zeroValue4
  t5 := Tryd.underlying5
  a5 := Tryd.isAgg5
  z5 := Tryd.sizeOf5
  v5 := Tryd.zeroValue5
  t9 := Tryd.underlying9
  a9 := Tryd.isAgg9
  z9 := Tryd.sizeOf9
  v9 := Tryd.zeroValue9
  t46 := Tryd.underlying72
  a46 := Tryd.isAgg72
  z46 := Tryd.sizeOf72
  v46 := Tryd.zeroValue72
  t51 := Tryd.underlying98
  a51 := Tryd.isAgg98
  z51 := Tryd.sizeOf98
  v51 := Tryd.zeroValue98
  t146 := Tryd.underlying99
  a146 := Tryd.isAgg99
  z146 := Tryd.sizeOf99
  v146 := Tryd.zeroValue99
  g1 := by kernel_rfl
  i3 := by kernel_rfl
  i4 := by kernel_rfl
  i5 := by kernel_rfl
  i9 := by kernel_rfl
  i46 := by kernel_rfl
  i51 := by kernel_rfl
  i146 := by kernel_rfl
  m1 := by kernel_rfl
  s1_3 := fun w h => Go.Proofs.cell_of_shapedOpen_int (zero := #[.int .i64 0]) (t := 3) h (of_decide_eq_true (by kernel_rfl)) (by kernel_rfl) rfl (by kernel_rfl) (by kernel_rfl) Tryd.underlying3 }
def Tryd.lays206_ren : Go.Shelf.Ren := ⟨fun | 206 => 63 | n => n, fun | 9 => 9 | 4 => 4 | 3 => 3 | n => n, fun | n => n⟩
theorem Tryd.lays206 : Go.Proofs.Lays.n206 Tryd.prog Tryd.lays206_ren := {
  mixed := by kernel_rfl
  f206 := Tryd.func63.trans (congrArg some (by kernel_rfl))
  t3 := Tryd.underlying3
  a3 := Tryd.isAgg3
  z3 := Tryd.sizeOf3
  v3 := Tryd.zeroValue3
  t4 := Tryd.underlying4
  a4 := Tryd.isAgg4
  z4 := Tryd.sizeOf4
  v4 := Tryd.zeroValue4
  t9 := Tryd.underlying9
  a9 := Tryd.isAgg9
  z9 := Tryd.sizeOf9
  v9 := Tryd.zeroValue9 }
open Go.RowKit Go.Lib in
/-- internal/stringslite.HasPrefix (what strings.HasPrefix calls). (LAID: no walk: one application.) -/
theorem Tryd.stringslite_HasPrefix (s p : ByteArray) (w : World) :
    Calls Tryd.prog 63 #[.string s, .string p] w fun e w' => e = .returned (.bool (Lib.hasPrefix s.data.toList p.data.toList)) ∧ w' = w := Any.stringslite_HasPrefix Tryd.lays206 s p w
def Tryd.lays229_ren : Go.Shelf.Ren := ⟨fun | 229 => 52 | n => n, fun | 9 => 9 | 40 => 74 | 31 => 47 | 152 => 81 | 3 => 3 | 0 => 0 | 4 => 4 | 21 => 21 | 154 => 83 | n => n, fun | n => n⟩
theorem Tryd.lays229 : Go.Proofs.Lays.n229 Tryd.prog Tryd.lays229_ren := {
  mixed := by kernel_rfl
  f229 := Tryd.func52.trans (congrArg some (by kernel_rfl))
  t0 := Tryd.underlying0
  a0 := Tryd.isAgg0
  z0 := Tryd.sizeOf0
  v0 := Tryd.zeroValue0
  t3 := Tryd.underlying3
  a3 := Tryd.isAgg3
  z3 := Tryd.sizeOf3
  v3 := Tryd.zeroValue3
  t4 := Tryd.underlying4
  a4 := Tryd.isAgg4
  z4 := Tryd.sizeOf4
  v4 := Tryd.zeroValue4
  t9 := Tryd.underlying9
  a9 := Tryd.isAgg9
  z9 := Tryd.sizeOf9
  v9 := Tryd.zeroValue9
  t21 := Tryd.underlying21
  a21 := Tryd.isAgg21
  z21 := Tryd.sizeOf21
  v21 := Tryd.zeroValue21
  t31 := Tryd.underlying47
  a31 := Tryd.isAgg47
  z31 := Tryd.sizeOf47
  v31 := Tryd.zeroValue47
  t40 := Tryd.underlying74
  a40 := Tryd.isAgg74
  z40 := Tryd.sizeOf74
  v40 := Tryd.zeroValue74
  t152 := Tryd.underlying81
  a152 := Tryd.isAgg81
  z152 := Tryd.sizeOf81
  v152 := Tryd.zeroValue81
  t154 := Tryd.underlying83
  a154 := Tryd.isAgg83
  z154 := Tryd.sizeOf83
  v154 := Tryd.zeroValue83 }
open Go.RowKit Go.Lib in
/-- .. over a hand of the authors' house's premise as it stands. (LAID: no walk: one application.) -/
theorem Tryd.strings_FieldsFunc (g : Nat) (lb : Array Value) (eg : ∀ args w, (callFunc g args).run Tryd.prog w = .ok (.enter g args) w) (p : Nat → Bool) (s : ByteArray) (w : World) (hs : s.size ≤ 4294967296) (hp : PredAt Tryd.prog g lb encR p w) :
    Calls Tryd.prog 52 #[.string s, .func (.func g) #[] lb] w fun e w' => ∃ A, e = .returned (.slice (some ⟨A, 0, none⟩) (Lib.goFieldsP p s).length (Lib.goFieldsP p s).length) ∧ w.heap.size ≤ A ∧
      w'.ownsRow w.heap.size 9 1 (.slice (some ⟨A, 0, none⟩) (Lib.goFieldsP p s).length (Lib.goFieldsP p s).length) (Lib.goFieldsP p s).length ((Lib.goFieldsP p s).map Value.string) ∧ Below w.heap.size w w' := Any.strings_FieldsFunc Tryd.lays229 g lb eg p s w hs hp (by kernel_rfl) (by kernel_rfl)
open Go.RowKit Go.Lib in
theorem Tryd.strings_FieldsFunc_grows (g : Nat) (lb : Array Value) (eg : ∀ args w, (callFunc g args).run Tryd.prog w = .ok (.enter g args) w) (p : Nat → Bool) (s : ByteArray) (w : World) (hs : s.size ≤ 4294967296) (hp : PredGrows Tryd.prog g lb p w) :
    Calls Tryd.prog 52 #[.string s, .func (.func g) #[] lb] w fun e w' => ∃ A, e = .returned (.slice (some ⟨A, 0, none⟩) (Lib.goFieldsP p s).length (Lib.goFieldsP p s).length) ∧ w.heap.size ≤ A ∧
      w'.ownsRow w.heap.size 9 1 (.slice (some ⟨A, 0, none⟩) (Lib.goFieldsP p s).length (Lib.goFieldsP p s).length) (Lib.goFieldsP p s).length ((Lib.goFieldsP p s).map Value.string) ∧ Below w.heap.size w w' := Any.strings_FieldsFunc_grows Tryd.lays229 g lb eg p s w hs hp (by kernel_rfl) (by kernel_rfl)
end Go.Proofs

namespace Go.Proofs.YtghnljoaklmakaaDoor.X
open Go.RowKit Go.Proofs.YtghnljoaklmakaaDoorW.PrintWords Go.Proofs.YtghnljoaklmakaaDoorW.PrintLast Go.Proofs.YtghnljoaklmakaaDoorW.PrintMore
attribute [local go_sem] Ea Eb Eh Eg Dz D5 Ec D9
open Go.Proofs.YtghnljoaklmakaaDoorG
def Gt.f (a0 : Int) : Option ByteArray := if -9223372036854775808 ≤ a0 ∧ a0 ≤ 9223372036854775807 then some ⟨(Lib.itoa a0).toArray⟩ else none
theorem Gt.calls (a0 : Int) (r : ByteArray) (w : World) (hG : Eo w) (h : Gt.f a0 = some r) :
    Calls Tryd.prog 59 #[.int .i64 a0] w fun e w' => e = .returned (.string r) ∧ Below w.heap.size w w' := by
  unfold Gt.f at h
  split at h
  · rename_i hc
    simp only [Option.some.injEq] at h
    subst h
    refine (Go.Proofs.Tryd.strconv_Itoa a0 hc.1 hc.2 w hG.tab).mono ?_
    rintro e w' ⟨rfl, k, os, rfl⟩
    exact ⟨rfl, Lib.below_grow _ w (Nat.le_refl _) k os⟩
  · cases h
end Go.Proofs.YtghnljoaklmakaaDoor.X

namespace Go.Proofs.YtghnljoaklmakaaDoor.X
open Go.RowKit Go.Proofs.YtghnljoaklmakaaDoorW.PrintWords Go.Proofs.YtghnljoaklmakaaDoorW.PrintLast Go.Proofs.YtghnljoaklmakaaDoorW.PrintMore
attribute [local go_sem] Ea Eb Eh Eg Dz D5 Ec D9
open Go.Proofs.YtghnljoaklmakaaDoorG
def Em.f (a0 : Int) : Option (ByteArray) := (Gt.f a0).bind fun t167 => (some t167)
set_option maxHeartbeats 8000000 in
set_option maxRecDepth 100000 in
theorem Em.calls (a0 : Int) (r : ByteArray) (w : World) (hG : Eo w) (h : Em.f a0 = some r) :
    Calls Tryd.prog 43 #[.int .i64 a0] w fun e w' => e = .returned (.string r) ∧ Below w.heap.size w w' := by
  have HGL := Ac.mk hG
  clear hG
  have HB := Ac.mk (Below.refl w.heap.size w)
  have H : ((Gt.f a0).bind fun t167 => (some t167)) = some r := h
  clear h
  replace H := Option.bind_eq_some_iff.mp H
  obtain ⟨t167, A20, H⟩ := H
  replace H : (some t167) = some r := H
  have A2 := Ac.mk A20
  clear A20
  obtain rfl := Option.some.inj H
  go_enter Tryd.func43, Tryd.ntmps43
  go_wp2_with (first | ((with_reducible refine Aw (f := 59) rfl ?_); refine Bj (some 4) rfl rfl Tryd.func59 (by kernel_rfl) rfl #[.int .i64 a0] rfl Yb_ ?_; (with_reducible refine (Gt.calls a0 t167 _ ?side1 A2.out).mono ?_); (case side1 => exact Eo.below HGL.out Ya_); rintro e w3 ⟨rfl, hb⟩; refine ⟨_, rfl, ?_⟩; have n0_ := Ac.mk (Au Ya_ hb); clear HB; have HB := n0_; clear n0_; (try clear hb); (try clear hb2); (try clear hk); (try clear hi)))
  go_ret
  exact ⟨by first | rfl | (simp [Aq, Ar] <;> rfl) | (simp [*, Aq, Ar] <;> rfl), by repeat (first | (with_reducible first | exact HB.out | apply Ae | apply Aa | apply Ad) | exact HB.out)⟩
end Go.Proofs.YtghnljoaklmakaaDoor.X

namespace Go.Proofs.YtghnljoaklmakaaDoor.X
open Go.RowKit Go.Proofs.YtghnljoaklmakaaDoorW.PrintWords Go.Proofs.YtghnljoaklmakaaDoorW.PrintLast Go.Proofs.YtghnljoaklmakaaDoorW.PrintMore
attribute [local go_sem] Ea Eb Eh Eg Dz D5 Ec D9
open Go.Proofs.YtghnljoaklmakaaDoorG
/-- Texts side by side, with a text between. -/
def joinB (l : List ByteArray) (s : ByteArray) : ByteArray := ⟨(Lib.join (l.map (·.data.toList)) s.data.toList).toArray⟩
/-- At a block's start, or nowhere. -/
def Plain (A : Option Addr) : Prop := ∀ ad, A = some ad → ad.spot = none
theorem plain_of {e : Nat} {w : World} {base : Nat} {ok : Nat → Prop} {A : Option Addr} {n c : Nat} {xs : List ByteArray} (h : Ac (Kd.R Kd.string e w base ok (.slice A n c) xs)) : Plain A := by
  intro ad he
  subst he
  rcases (Kd.own_of_R h.out).2 with ⟨h1, _⟩ | ⟨g', cap', cur, hv, _⟩
  · cases h1
  · cases hv; rfl
def strings_Join.f (l0 : List ByteArray) (a1 : ByteArray) : Option ByteArray := if l0.length ≤ 1048576 ∧ (joinB l0 a1).size ≤ 140737488355328 then some (joinB l0 a1) else none
theorem strings_Join.calls (A0 : Option Addr) (c0 : Nat) (l0 : List ByteArray) (a1 : ByteArray) (r : ByteArray) (w : World) (hr0 : Kd.C Kd.string w A0 l0.length l0) (hc0 : l0.length ≤ c0) (h : strings_Join.f l0 a1 = some r) (hs : Plain A0 := by first | assumption | exact plain_of (by assumption) | (intro ad_ he_; cases he_; rfl)) :
    Calls Tryd.prog 29 #[.slice A0 l0.length c0, .string a1] w fun e w' => e = .returned (.string r) ∧ Below w.heap.size w w' := by
  unfold strings_Join.f at h
  split at h
  · rename_i hc
    simp only [Option.some.injEq] at h
    subst h
    rcases Nat.eq_zero_or_pos l0.length with hz | hp
    · obtain rfl : l0 = [] := List.eq_nil_of_length_eq_zero hz
      refine (Go.Proofs.Tryd.strings_Join_none A0 c0 a1 w).mono ?_
      rintro e w' ⟨rfl, rfl⟩
      exact ⟨rfl, Below.refl _ _⟩
    · obtain ⟨ad, rfl, hx⟩ := hr0.2.2 hp
      have hsp := hs ad rfl
      obtain ⟨bk, o, sp⟩ := ad
      simp only at hsp
      subst hsp
      have hcell : ∀ (j : Nat) x, l0[j]? = some x → w.cell? ⟨bk, o + j, none⟩ = some (.string x) := fun j x hj => by
        obtain ⟨c, hl, hk, hcc⟩ := hx j x hj
        have hk' : c = [.string x] := hk
        subst hk'
        have := hcc 0 _ rfl
        rw [show j * Kd.string.sz + 0 = j from by show j * 1 + 0 = j; omega] at this
        rw [← this]
        unfold Addr.add
        by_cases z : j = 0
        · subst z; rfl
        · rw [if_neg z]
      have hlt : bk < w.heap.size := by
        have := hcell 0 _ (List.getElem?_eq_getElem hp)
        exact World.block_lt_of_cell? w _ this
      refine (Go.Proofs.Tryd.strings_Join bk o c0 l0 a1 w hcell hlt (by omega) hc0 ?_).mono ?_
      · have := hc.2
        simpa [joinB, ByteArray.size] using this
      · rintro e w' ⟨rfl, hb⟩
        exact ⟨rfl, hb⟩
  · cases h
end Go.Proofs.YtghnljoaklmakaaDoor.X

namespace Go.Proofs.YtghnljoaklmakaaDoor.X
open Go.RowKit Go.Proofs.YtghnljoaklmakaaDoorW.PrintWords Go.Proofs.YtghnljoaklmakaaDoorW.PrintLast Go.Proofs.YtghnljoaklmakaaDoorW.PrintMore
attribute [local go_sem] Ea Eb Eh Eg Dz D5 Ec D9
open Go.Proofs.YtghnljoaklmakaaDoorG
def Dt.l0 : Nat → Int → List ByteArray → List ByteArray → Int → Int → Option (ByteArray × Bool)
  | 0, _, _, _, _, _ => none
  | k + 1, x0, x4, x11, x12, x13 => if x13 < x12 then (if 0 ≤ x13 then (if x13 < (x11.length : Int) then (if (Go.bits .and .i64 (shr .i64 x0 x13) 1) = 1 then (if x4.length < 8796093022208 then (Dt.l0 k x0 (x4 ++ [rdOf ByteArray.empty x11 x13]) x11 x12 (wrap64 (x13 + 1))) else (none)) else (Dt.l0 k x0 x4 x11 x12 (wrap64 (x13 + 1)))) else (none)) else (none)) else (if (x4.length : Int) = 0 then (some ((⟨#[110, 111, 110, 101]⟩ : ByteArray), true)) else ((strings_Join.f x4 (⟨#[44, 32]⟩ : ByteArray)).bind fun t179 => (some (t179, true))))
def Dt.f (k : Nat) (a0 : Int) : Option (ByteArray × Bool) := (Df.f a0 0 15).bind fun t168 => (if t168 = true then ((some (([(⟨#[100, 111, 99, 117, 109, 101, 110, 116, 115]⟩ : ByteArray), (⟨#[105, 110, 115, 112, 101, 99, 116, 105, 111, 110]⟩ : ByteArray), (⟨#[100, 117, 116, 105, 101, 115]⟩ : ByteArray), (⟨#[113, 117, 97, 114, 97, 110, 116, 105, 110, 101]⟩ : ByteArray)] : List ByteArray) : List ByteArray)).bind fun y172 => (Dt.l0 k a0 (([] : List ByteArray)) y172 (y172.length : Int) 0)) else (some ((⟨#[]⟩ : ByteArray), false)))
theorem Dt.Ed : ∀ k, (∀ y0 y1 y2 y3 y4, LeO (Dt.l0 k y0 y1 y2 y3 y4) (Dt.l0 (k + 1) y0 y1 y2 y3 y4))
  | 0 => fun _ _ _ _ _ r h => by simp [Dt.l0] at h
  | k + 1 => by
    have ih0 := Dt.Ed k
    · intro y0 y1 y2 y3 y4
      unfold Dt.l0
      repeat' first
      | (with_reducible exact ih0 _ _ _ _ _)
      | (with_reducible exact LeO.refl _)
      | (with_reducible exact LeO.none _)
      | (with_reducible refine LeO.ite ?_ ?_)
      | (with_reducible refine LeO.bind ?_ (fun _ => ?_))
      | exact ih0 _ _ _ _ _
      | exact LeO.none _
      | refine LeO.ite ?_ ?_
      | refine LeO.bind ?_ (fun _ => ?_)
theorem Dt.mono : ∀ a0 k, LeO (Dt.f k a0) (Dt.f (k + 1) a0) := by
  intro a0 k
  have ih0 := Dt.Ed k
  unfold Dt.f
  repeat' first
      | (with_reducible exact ih0 _ _ _ _ _)
      | (with_reducible exact LeO.refl _)
      | (with_reducible exact LeO.none _)
      | (with_reducible refine LeO.ite ?_ ?_)
      | (with_reducible refine LeO.bind ?_ (fun _ => ?_))
      | exact ih0 _ _ _ _ _
      | exact LeO.none _
      | refine LeO.ite ?_ ?_
      | refine LeO.bind ?_ (fun _ => ?_)
set_option maxHeartbeats 8000000 in
set_option maxRecDepth 100000 in
theorem Dt.calls (k : Nat) (a0 : Int) (r1 : ByteArray) (r2 : Bool) (w : World) (h : Dt.f k a0 = some (r1, r2)) :
    Calls Tryd.prog 44 #[.int .i64 a0] w fun e w' => e = .returned (.tuple #[.string r1, .bool r2]) ∧ Below w.heap.size w w' := by
  have HB := Ac.mk (Below.refl w.heap.size w)
  have H : ((Df.f a0 0 15).bind fun t168 => (if t168 = true then ((some (([(⟨#[100, 111, 99, 117, 109, 101, 110, 116, 115]⟩ : ByteArray), (⟨#[105, 110, 115, 112, 101, 99, 116, 105, 111, 110]⟩ : ByteArray), (⟨#[100, 117, 116, 105, 101, 115]⟩ : ByteArray), (⟨#[113, 117, 97, 114, 97, 110, 116, 105, 110, 101]⟩ : ByteArray)] : List ByteArray) : List ByteArray)).bind fun y172 => (Dt.l0 k a0 (([] : List ByteArray)) y172 (y172.length : Int) 0)) else (some ((⟨#[]⟩ : ByteArray), false)))) = some (r1, r2) := h
  clear h
  replace H := Option.bind_eq_some_iff.mp H
  obtain ⟨t168, A20, H⟩ := H
  replace H : (if t168 = true then ((some (([(⟨#[100, 111, 99, 117, 109, 101, 110, 116, 115]⟩ : ByteArray), (⟨#[105, 110, 115, 112, 101, 99, 116, 105, 111, 110]⟩ : ByteArray), (⟨#[100, 117, 116, 105, 101, 115]⟩ : ByteArray), (⟨#[113, 117, 97, 114, 97, 110, 116, 105, 110, 101]⟩ : ByteArray)] : List ByteArray) : List ByteArray)).bind fun y172 => (Dt.l0 k a0 (([] : List ByteArray)) y172 (y172.length : Int) 0)) else (some ((⟨#[]⟩ : ByteArray), false))) = some (r1, r2) := H
  have A2 := Ac.mk A20
  clear A20
  by_cases c3 : t168 = true
  · subst c3
    have H1 : ((some (([(⟨#[100, 111, 99, 117, 109, 101, 110, 116, 115]⟩ : ByteArray), (⟨#[105, 110, 115, 112, 101, 99, 116, 105, 111, 110]⟩ : ByteArray), (⟨#[100, 117, 116, 105, 101, 115]⟩ : ByteArray), (⟨#[113, 117, 97, 114, 97, 110, 116, 105, 110, 101]⟩ : ByteArray)] : List ByteArray) : List ByteArray)).bind fun y172 => (Dt.l0 k a0 (([] : List ByteArray)) y172 (y172.length : Int) 0)) = some (r1, r2) := by rw [if_pos rfl] at H; exact H
    clear H
    have H := H1
    clear H1
    obtain ⟨y169, hy169⟩ : ∃ y_ : List ByteArray, y_ = (([] : List ByteArray)) := ⟨_, rfl⟩
    replace H : ((some (([(⟨#[100, 111, 99, 117, 109, 101, 110, 116, 115]⟩ : ByteArray), (⟨#[105, 110, 115, 112, 101, 99, 116, 105, 111, 110]⟩ : ByteArray), (⟨#[100, 117, 116, 105, 101, 115]⟩ : ByteArray), (⟨#[113, 117, 97, 114, 97, 110, 116, 105, 110, 101]⟩ : ByteArray)] : List ByteArray) : List ByteArray)).bind fun y172 => (Dt.l0 k a0 y169 y172 (y172.length : Int) 0)) = some (r1, r2) := by first | (rw [hy169]; with_reducible exact H) | (have H2_ := (Option.bind_some _ _).symm.trans H; rw [hy169]; with_reducible exact H2_) | (have H2_ := (Option.bind_some _ _).symm.trans H; with_reducible exact H2_) | with_reducible exact H | (rw [hy169]; exact H) | exact H
    have Ny169 := Ac.mk hy169
    clear hy169
    obtain ⟨y172, hy172⟩ : ∃ y_ : List ByteArray, y_ = (([(⟨#[100, 111, 99, 117, 109, 101, 110, 116, 115]⟩ : ByteArray), (⟨#[105, 110, 115, 112, 101, 99, 116, 105, 111, 110]⟩ : ByteArray), (⟨#[100, 117, 116, 105, 101, 115]⟩ : ByteArray), (⟨#[113, 117, 97, 114, 97, 110, 116, 105, 110, 101]⟩ : ByteArray)] : List ByteArray)) := ⟨_, rfl⟩
    replace H : (Dt.l0 k a0 y169 y172 (y172.length : Int) 0) = some (r1, r2) := by first | (rw [hy172]; with_reducible exact H) | (have H2_ := (Option.bind_some _ _).symm.trans H; rw [hy172]; with_reducible exact H2_) | (have H2_ := (Option.bind_some _ _).symm.trans H; with_reducible exact H2_) | with_reducible exact H | (rw [hy172]; exact H) | exact H
    have Ny172 := Ac.mk hy172
    clear hy172
    have H' := Ac.mk H
    clear H
    go_enter Tryd.func44, Tryd.ntmps44
    go_wp2_with (first | ((with_reducible refine Aw (f := 42) rfl ?_); refine Bj (some 8) rfl rfl Tryd.func42 (by kernel_rfl) rfl #[.int .i64 a0, .int .i64 0, .int .i64 15] rfl Yb_ ?_; (with_reducible refine (Df.calls a0 0 15 true _ A2.out).mono ?_); rintro e w' ⟨rfl, ⟨nd, rfl⟩⟩; refine ⟨_, rfl, ?_⟩) | ((with_reducible refine Dh (N := 10) rfl ?_); refine Kd.R_lit Kd.string _ 9 ?hg (N := 10) ?hd (xs := ([] : List ByteArray)) (inner := []) (ok := fun _ => True) (okp := fun _ => True) ?hr ?hp (fun _ hk => hk) trivial (Below.refl _ _) (Nat.le_refl _) (by simp) ?_; (case hd => rfl); (case hg => rfl); (case hr => first | (go_simp; done) | (go_simp; rfl)); (case hp => exact (Ee.none _ _)); intro v170 w4 ho5 hb hg_ hnew_; clear hg_ hnew_; (first | rw [← Ny169.out] at ho5 | (simp only [Int.reduceToNat] at ho5; rw [← Ny169.out] at ho5)); have n0_ := Ac.mk (Kd.F6 ho5 (Az Ya_)); have n1_ := Ac.mk (Au Ya_ hb); clear HB; have HO171 := n0_; have HB := n1_; clear n0_ n1_; clear hb ho5) | ((with_reducible refine Dh (N := 11) rfl ?_); refine Kd.R_lit Kd.string _ 9 ?hg (N := 11) ?hd (xs := ([(⟨#[100, 111, 99, 117, 109, 101, 110, 116, 115]⟩ : ByteArray), (⟨#[105, 110, 115, 112, 101, 99, 116, 105, 111, 110]⟩ : ByteArray), (⟨#[100, 117, 116, 105, 101, 115]⟩ : ByteArray), (⟨#[113, 117, 97, 114, 97, 110, 116, 105, 110, 101]⟩ : ByteArray)] : List ByteArray)) (inner := [.string (⟨#[100, 111, 99, 117, 109, 101, 110, 116, 115]⟩ : ByteArray), .string (⟨#[105, 110, 115, 112, 101, 99, 116, 105, 111, 110]⟩ : ByteArray), .string (⟨#[100, 117, 116, 105, 101, 115]⟩ : ByteArray), .string (⟨#[113, 117, 97, 114, 97, 110, 116, 105, 110, 101]⟩ : ByteArray)]) (ok := fun _ => True) (okp := fun _ => True) ?hr ?hp (fun _ hk => hk) trivial (Below.refl _ _) (Nat.le_refl _) (by simp) ?_; (case hd => rfl); (case hg => rfl); (case hr => first | (go_simp; done) | (go_simp; rfl)); (case hp => exact (Ee.one (show Kd.M Kd.string _ _ _ (⟨#[100, 111, 99, 117, 109, 101, 110, 116, 115]⟩ : ByteArray) [.string (⟨#[100, 111, 99, 117, 109, 101, 110, 116, 115]⟩ : ByteArray)] from rfl) (Ee.one (show Kd.M Kd.string _ _ _ (⟨#[105, 110, 115, 112, 101, 99, 116, 105, 111, 110]⟩ : ByteArray) [.string (⟨#[105, 110, 115, 112, 101, 99, 116, 105, 111, 110]⟩ : ByteArray)] from rfl) (Ee.one (show Kd.M Kd.string _ _ _ (⟨#[100, 117, 116, 105, 101, 115]⟩ : ByteArray) [.string (⟨#[100, 117, 116, 105, 101, 115]⟩ : ByteArray)] from rfl) (Ee.one (show Kd.M Kd.string _ _ _ (⟨#[113, 117, 97, 114, 97, 110, 116, 105, 110, 101]⟩ : ByteArray) [.string (⟨#[113, 117, 97, 114, 97, 110, 116, 105, 110, 101]⟩ : ByteArray)] from rfl) (Ee.none _ _)))))); intro v173 w6 ho7 hb hg_ hnew_; clear hg_ hnew_; (first | rw [← Ny172.out] at ho7 | (simp only [Int.reduceToNat] at ho7; rw [← Ny172.out] at ho7)); have n0_ := Ac.mk (Kd.Hr (by (with_reducible repeat (first | apply Kd.Bg | apply Kd.Bh | apply Kd.Bl)); exact HO171.out) (Kd.R_base ho7) hb); have n1_ := Ac.mk (Kd.F6 (Kd.R_new' ho7 (Kd.R_lt (by (with_reducible repeat (first | apply Kd.Bg | apply Kd.Bh | apply Kd.Bl)); exact HO171.out))) (Az Ya_)); have n2_ := Ac.mk (Au Ya_ hb); clear HO171; clear HB; have HO171 := n0_; have HO174 := n1_; have HB := n2_; clear n0_ n1_ n2_; clear hb ho7; obtain ⟨Ao8, co8, eo8⟩ := Kd.Ff HO174.out; subst eo8))
    go_loopg [4, 13] k (fun kq v4 v13 w' => ∃ (x4_1 : List ByteArray) (x13_1 : Int), v13 = .int .i64 x13_1 ∧ Ac (Dt.l0 kq a0 x4_1 y172 (y172.length : Int) x13_1 = some (r1, r2)) ∧ Ac (kq ≤ k) ∧ Ac (Kd.R Kd.string 9 w' w.heap.size (fun k_ => some k_ ≠ ((.slice Ao8 y172.length co8) : Value).ownBlock) v4 x4_1) ∧ Ac (Kd.R Kd.string 9 w' w.heap.size (fun k_ => some k_ ≠ (v4 : Value).ownBlock) (.slice Ao8 y172.length co8) y172) ∧ Ac (Below w.heap.size w w'))
    case atStart => exact ⟨(y169), (0), Yf_, H', ⟨Nat.le_refl _⟩, ⟨by (with_reducible repeat (first | apply Kd.Bg | apply Kd.Bh | apply Kd.Bl)); exact Kd.R_mono HO171.out (fun _ hk => hk.2)⟩, ⟨by (with_reducible repeat (first | apply Kd.Bg | apply Kd.Bh | apply Kd.Bl)); exact Kd.R_mono HO174.out (fun _ hk => hk.2)⟩, ⟨by repeat (first | (with_reducible first | exact HB.out | apply Ae | apply Aa | apply Ad) | exact HB.out)⟩⟩
    case round =>
      clear H'
      try clear p2
      try clear c3
      try clear c4
      obtain ⟨x4_1, x13_1, rfl, HA, HK1, HO_4, HO_11, HB⟩ := hrel
      cases gk with
      | zero => exact absurd HA.out (by simp [Dt.l0])
      | succ k1 =>
        have H := HA.out
        clear HA
        simp only [Dt.l0] at H
        by_cases c9 : x13_1 < (y172.length : Int)
        · rw [if_pos c9] at H
          have c9b0 : decide (x13_1 < (y172.length : Int)) = true := decide_eq_true c9
          clear c9
          by_cases c10 : 0 ≤ x13_1
          · rw [if_pos c10] at H
            have c10b0 : decide (0 ≤ x13_1) = true := decide_eq_true c10
            clear c10
            by_cases c11 : x13_1 < (y172.length : Int)
            · rw [if_pos c11] at H
              have c11b0 : decide (x13_1 < (y172.length : Int)) = true := decide_eq_true c11
              clear c11
              have c12b0 := eq_true (of_decide_eq_true Yc_ : 0 ≤ x13_1)
              obtain ⟨ji13, hji13⟩ : ∃ j_ : Int, (shr .i64 a0 x13_1) = j_ := ⟨_, rfl⟩
              replace H : (if (Go.bits .and .i64 (ji13) 1) = 1 then (if x4_1.length < 8796093022208 then (Dt.l0 k1 a0 (x4_1 ++ [rdOf ByteArray.empty y172 x13_1]) y172 (y172.length : Int) (wrap64 (x13_1 + 1))) else (none)) else (Dt.l0 k1 a0 x4_1 y172 (y172.length : Int) (wrap64 (x13_1 + 1)))) = some (r1, r2) := by first | (rw [hji13] at H; exact H) | (simp only [hji13] at H ⊢; exact H)
              have hji13_ : (a0 / 2 ^ min x13_1.toNat 64) = ji13 := hji13
              have hji13z : x13_1 ≤ 64 → (a0 / 2 ^ x13_1.toNat) = ji13 := shr_small hji13
              by_cases c14 : (Go.bits .and .i64 (ji13) 1) = 1
              · rw [if_pos c14] at H
                have c14b0 : ((Go.bits .and .i64 (ji13) 1) == 1) = true := beq_iff_eq.mpr c14
                have c14b1 : ((Go.bits .and .i64 (ji13) 1) != 1) = false := bne_eq_false_iff_eq.mpr c14
                clear c14
                by_cases c15 : x4_1.length < 8796093022208
                · rw [if_pos c15] at H
                  have LMc15 := Ac.mk c15
                  clear c15
                  obtain ⟨y176, hy176⟩ : ∃ y_ : List ByteArray, y_ = (x4_1 ++ [rdOf ByteArray.empty y172 x13_1]) := ⟨_, rfl⟩
                  replace H : (Dt.l0 k1 a0 y176 y172 (y172.length : Int) (wrap64 (x13_1 + 1))) = some (r1, r2) := by first | (rw [hy176]; with_reducible exact H) | (have H2_ := (Option.bind_some _ _).symm.trans H; rw [hy176]; with_reducible exact H2_) | (have H2_ := (Option.bind_some _ _).symm.trans H; with_reducible exact H2_) | with_reducible exact H | (rw [hy176]; exact H) | exact H
                  have Ny176 := Ac.mk hy176
                  clear hy176
                  have H' := Ac.mk H
                  clear H
                  have p175 : 0 ≤ (x13_1 : Int) := of_decide_eq_true Yc_
                  have q175 : x13_1 < (y172.length : Int) := of_decide_eq_true Yc_
                  obtain ⟨ad175, e175, hx175_0⟩ := Kd.H9 (Kd.Dv HO_11.out).2.2 x13_1 p175 q175
                  cases e175
                  replace p175 := eq_true p175
                  replace q175 := eq_true q175
                  go_wp2_with (first | ((with_reducible refine Gy (b := .append) (xs := #[.tmp 23, .tmp 25]) rfl ?_); at_builtin; refine Kd.R_append Kd.string (w0 := w) w.heap.size rfl (.tmp 23) (.tmp 25) 47 9 (.string ⟨#[]⟩) 16 rfl Tryd.underlying47 info9 rfl (by decide) (by omega) u4 x4_1 (rdOf ByteArray.empty y172 x13_1) [.string (rdOf ByteArray.empty y172 x13_1)] (fun k_ => some k_ ≠ (.slice (some ad175) y172.length co8 : Value).ownBlock) (fun _ => False) rfl rfl ?aP (fun _ hk => hk.elim) ?aF ?aO ?aB ?aS ?aL ?_; (case aP => exact rfl); (case aB => exact Ya_); (case aF => exact (fun k_ hk => Kd.fresh' (Kd.R_lt (by (with_reducible repeat (first | apply Kd.Bg | apply Kd.Bh | apply Kd.Bl)); exact HO_11.out)) k_ hk)); (case aO => exact Yg_); (case aS => exact (Az Ya_)); (case aL => have := LMc15.out; omega); intro v177 w16 ho hb hg hat; rw [← Ny176.out] at ho; have n0_ := Ac.mk (Kd.R_after (ok := (fun _ => True)) (by (with_reducible repeat (first | apply Kd.Bg | apply Kd.Bh | apply Kd.Bl)); exact Kd.R_mono HO_11.out (fun _ hk => ⟨trivial, hk⟩)) hg hat); have n1_ := Ac.mk (hb); have n2_ := Ac.mk (ho); clear HO_11; clear HB; clear HO_4; have HO_11 := n0_; have HB := n1_; have HO178 := n2_; clear n0_ n1_ n2_; clear ho hb hg hat))
                  go_roundg k1
                  case measure => have := HK1.out; omega
                  case rel => exact ⟨(y176), (wrap64 (x13_1 + 1)), Yf_, H', ⟨by have := HK1.out; omega⟩, ⟨by (with_reducible repeat (first | apply Kd.Bg | apply Kd.Bh | apply Kd.Bl)); exact HO178.out⟩, ⟨by (with_reducible repeat (first | apply Kd.Bg | apply Kd.Bh | apply Kd.Bl)); exact Kd.R_mono HO_11.out (fun _ hk => hk.2)⟩, ⟨by repeat (first | (with_reducible first | exact HB.out | apply Ae | apply Aa | apply Ad) | exact HB.out)⟩⟩
                · rw [if_neg c15] at H
                  exact absurd H (by simp)
              · rw [if_neg c14] at H
                have c14b0 : ((Go.bits .and .i64 (ji13) 1) == 1) = false := beq_eq_false_iff_ne.mpr c14
                have c14b1 : ((Go.bits .and .i64 (ji13) 1) != 1) = true := bne_iff_ne.mpr c14
                have H' := Ac.mk H
                clear H
                have p175 : 0 ≤ (x13_1 : Int) := of_decide_eq_true Yc_
                have q175 : x13_1 < (y172.length : Int) := of_decide_eq_true Yc_
                obtain ⟨ad175, e175, hx175_0⟩ := Kd.H9 (Kd.Dv HO_11.out).2.2 x13_1 p175 q175
                cases e175
                replace p175 := eq_true p175
                replace q175 := eq_true q175
                go_wp2
                go_roundg k1
                case measure => have := HK1.out; omega
                case rel => exact ⟨(x4_1), (wrap64 (x13_1 + 1)), Yf_, H', ⟨by have := HK1.out; omega⟩, ⟨by (with_reducible repeat (first | apply Kd.Bg | apply Kd.Bh | apply Kd.Bl)); exact HO_4.out⟩, ⟨by (with_reducible repeat (first | apply Kd.Bg | apply Kd.Bh | apply Kd.Bl)); exact HO_11.out⟩, ⟨by repeat (first | (with_reducible first | exact HB.out | apply Ae | apply Aa | apply Ad) | exact HB.out)⟩⟩
            · rw [if_neg c11] at H
              exact absurd H (by simp)
          · rw [if_neg c10] at H
            exact absurd H (by simp)
        · rw [if_neg c9] at H
          have c9b0 : decide (x13_1 < (y172.length : Int)) = false := decide_eq_false c9
          clear c9
          by_cases c17 : (x4_1.length : Int) = 0
          · rw [if_pos c17] at H
            have c17b0 : ((x4_1.length : Int) == 0) = true := beq_iff_eq.mpr c17
            have c17b1 : ((x4_1.length : Int) != 0) = false := bne_eq_false_iff_eq.mpr c17
            clear c17
            simp only [Option.some.injEq, Prod.mk.injEq] at H
            obtain ⟨rfl, rfl⟩ := H
            obtain ⟨Ao18, co18, eo18⟩ := Kd.Ff HO_4.out
            subst eo18
            go_wp2
            go_ret2
            exact ⟨by first | rfl | (simp [Aq, Ar] <;> rfl) | (simp [*, Aq, Ar] <;> rfl), by repeat (first | (with_reducible first | exact HB.out | apply Ae | apply Aa | apply Ad) | exact HB.out)⟩
          · rw [if_neg c17] at H
            have c17b0 : ((x4_1.length : Int) == 0) = false := beq_eq_false_iff_ne.mpr c17
            have c17b1 : ((x4_1.length : Int) != 0) = true := bne_iff_ne.mpr c17
            have c17b2 : ¬ (x4_1 = []) := fun h_ => c17 (by rw [h_]; rfl)
            replace H := Option.bind_eq_some_iff.mp H
            obtain ⟨t179, A190, H⟩ := H
            replace H : (some (t179, true)) = some (r1, r2) := H
            have A19 := Ac.mk A190
            clear A190
            simp only [Option.some.injEq, Prod.mk.injEq] at H
            obtain ⟨rfl, rfl⟩ := H
            obtain ⟨Ao20, co20, eo20⟩ := Kd.Ff HO_4.out
            subst eo20
            go_wp2_with (first | ((with_reducible refine Aw (f := 29) rfl ?_); refine Bj (some 32) rfl rfl Tryd.func29 (by kernel_rfl) rfl #[.slice Ao20 x4_1.length co20, .string (⟨#[44, 32]⟩ : ByteArray)] rfl Yb_ ?_; (with_reducible refine (strings_Join.calls _ _ x4_1 (⟨#[44, 32]⟩ : ByteArray) t179 _ ?side1 ?side2 A19.out).mono ?_); (case side1 => repeat (first | exact (Kd.Dv HO_4.out).2.2 | (with_reducible refine Kd.Fz ?_ _) | (with_reducible refine Kd.F5 ?_ _) | (with_reducible refine Kd.Gj ?_))); (case side2 => exact (Kd.Dv HO_4.out).2.1); rintro e w21 ⟨rfl, hb⟩; refine ⟨_, rfl, ?_⟩; have n0_ := Ac.mk (Kd.D6 Yg_ hb); have n1_ := Ac.mk (Kd.D6 (by (with_reducible repeat (first | apply Kd.Bg | apply Kd.Bh | apply Kd.Bl)); exact HO_11.out) hb); have n2_ := Ac.mk (Au Ya_ hb); clear HO_4; clear HO_11; clear HB; have HO_4 := n0_; have HO_11 := n1_; have HB := n2_; clear n0_ n1_ n2_; (try clear hb); (try clear hb2); (try clear hk); (try clear hi)))
            go_ret2
            exact ⟨by first | rfl | (simp [Aq, Ar] <;> rfl) | (simp [*, Aq, Ar] <;> rfl), by repeat (first | (with_reducible first | exact HB.out | apply Ae | apply Aa | apply Ad) | exact HB.out)⟩
  · replace c3 := Bool.eq_false_iff.mpr c3
    subst c3
    have H1 : (some ((⟨#[]⟩ : ByteArray), false)) = some (r1, r2) := by rw [if_neg (show ¬ (false = true) by decide)] at H; exact H
    clear H
    have H := H1
    clear H1
    simp only [Option.some.injEq, Prod.mk.injEq] at H
    obtain ⟨rfl, rfl⟩ := H
    go_enter Tryd.func44, Tryd.ntmps44
    go_wp2_with (first | ((with_reducible refine Aw (f := 42) rfl ?_); refine Bj (some 8) rfl rfl Tryd.func42 (by kernel_rfl) rfl #[.int .i64 a0, .int .i64 0, .int .i64 15] rfl Yb_ ?_; (with_reducible refine (Df.calls a0 0 15 false _ A2.out).mono ?_); rintro e w' ⟨rfl, ⟨nd, rfl⟩⟩; refine ⟨_, rfl, ?_⟩))
    go_ret2
    exact ⟨by first | rfl | (simp [Aq, Ar] <;> rfl) | (simp [*, Aq, Ar] <;> rfl), by repeat (first | (with_reducible first | exact HB.out | apply Ae | apply Aa | apply Ad) | exact HB.out)⟩
end Go.Proofs.YtghnljoaklmakaaDoor.X

namespace Go.Proofs.YtghnljoaklmakaaDoor.X
open Go.RowKit Go.Proofs.YtghnljoaklmakaaDoorW.PrintWords Go.Proofs.YtghnljoaklmakaaDoorW.PrintLast Go.Proofs.YtghnljoaklmakaaDoorW.PrintMore
attribute [local go_sem] Ea Eb Eh Eg Dz D5 Ec D9
open Go.Proofs.YtghnljoaklmakaaDoorG
def Dk.f (k : Nat) (a0_0 : Int) (a0_1 : ByteArray) (a0_2 : Int) (a0_3 : Int) : Option (ByteArray) := if 10 + a0_1.size ≤ 9223372036854775807 then ((Em.f a0_2).bind fun t181 => ((Em.f a0_3).bind fun t182 => (if a0_0 = 1 then (if ((⟨#[67, 111, 110, 116, 97, 105, 110, 101, 114, 32]⟩ : ByteArray) ++ a0_1).size + 22 ≤ 9223372036854775807 then (if (((⟨#[67, 111, 110, 116, 97, 105, 110, 101, 114, 32]⟩ : ByteArray) ++ a0_1) ++ (⟨#[32, 104, 97, 115, 32, 97, 114, 114, 105, 118, 101, 100, 32, 105, 110, 32, 115, 116, 97, 99, 107, 32]⟩ : ByteArray)).size + t181.size ≤ 9223372036854775807 then (if ((((⟨#[67, 111, 110, 116, 97, 105, 110, 101, 114, 32]⟩ : ByteArray) ++ a0_1) ++ (⟨#[32, 104, 97, 115, 32, 97, 114, 114, 105, 118, 101, 100, 32, 105, 110, 32, 115, 116, 97, 99, 107, 32]⟩ : ByteArray)) ++ t181).size + 1 ≤ 9223372036854775807 then (some (((((⟨#[67, 111, 110, 116, 97, 105, 110, 101, 114, 32]⟩ : ByteArray) ++ a0_1) ++ (⟨#[32, 104, 97, 115, 32, 97, 114, 114, 105, 118, 101, 100, 32, 105, 110, 32, 115, 116, 97, 99, 107, 32]⟩ : ByteArray)) ++ t181) ++ (⟨#[46]⟩ : ByteArray))) else (none)) else (none)) else (none)) else (if a0_0 = 2 then (if ((⟨#[67, 111, 110, 116, 97, 105, 110, 101, 114, 32]⟩ : ByteArray) ++ a0_1).size + 22 ≤ 9223372036854775807 then (if (((⟨#[67, 111, 110, 116, 97, 105, 110, 101, 114, 32]⟩ : ByteArray) ++ a0_1) ++ (⟨#[32, 119, 97, 115, 32, 109, 111, 118, 101, 100, 32, 102, 114, 111, 109, 32, 115, 116, 97, 99, 107, 32]⟩ : ByteArray)).size + t181.size ≤ 9223372036854775807 then (if ((((⟨#[67, 111, 110, 116, 97, 105, 110, 101, 114, 32]⟩ : ByteArray) ++ a0_1) ++ (⟨#[32, 119, 97, 115, 32, 109, 111, 118, 101, 100, 32, 102, 114, 111, 109, 32, 115, 116, 97, 99, 107, 32]⟩ : ByteArray)) ++ t181).size + 10 ≤ 9223372036854775807 then (if (((((⟨#[67, 111, 110, 116, 97, 105, 110, 101, 114, 32]⟩ : ByteArray) ++ a0_1) ++ (⟨#[32, 119, 97, 115, 32, 109, 111, 118, 101, 100, 32, 102, 114, 111, 109, 32, 115, 116, 97, 99, 107, 32]⟩ : ByteArray)) ++ t181) ++ (⟨#[32, 116, 111, 32, 115, 116, 97, 99, 107, 32]⟩ : ByteArray)).size + t182.size ≤ 9223372036854775807 then (if ((((((⟨#[67, 111, 110, 116, 97, 105, 110, 101, 114, 32]⟩ : ByteArray) ++ a0_1) ++ (⟨#[32, 119, 97, 115, 32, 109, 111, 118, 101, 100, 32, 102, 114, 111, 109, 32, 115, 116, 97, 99, 107, 32]⟩ : ByteArray)) ++ t181) ++ (⟨#[32, 116, 111, 32, 115, 116, 97, 99, 107, 32]⟩ : ByteArray)) ++ t182).size + 1 ≤ 9223372036854775807 then (some (((((((⟨#[67, 111, 110, 116, 97, 105, 110, 101, 114, 32]⟩ : ByteArray) ++ a0_1) ++ (⟨#[32, 119, 97, 115, 32, 109, 111, 118, 101, 100, 32, 102, 114, 111, 109, 32, 115, 116, 97, 99, 107, 32]⟩ : ByteArray)) ++ t181) ++ (⟨#[32, 116, 111, 32, 115, 116, 97, 99, 107, 32]⟩ : ByteArray)) ++ t182) ++ (⟨#[46]⟩ : ByteArray))) else (none)) else (none)) else (none)) else (none)) else (none)) else (if a0_0 = 3 then ((Dt.f k a0_2).bind fun bt183 => (if ((⟨#[67, 111, 110, 116, 97, 105, 110, 101, 114, 32]⟩ : ByteArray) ++ a0_1).size + 13 ≤ 9223372036854775807 then (if (((⟨#[67, 111, 110, 116, 97, 105, 110, 101, 114, 32]⟩ : ByteArray) ++ a0_1) ++ (⟨#[32, 105, 115, 32, 104, 101, 108, 100, 32, 102, 111, 114, 32]⟩ : ByteArray)).size + bt183.1.size ≤ 9223372036854775807 then (if ((((⟨#[67, 111, 110, 116, 97, 105, 110, 101, 114, 32]⟩ : ByteArray) ++ a0_1) ++ (⟨#[32, 105, 115, 32, 104, 101, 108, 100, 32, 102, 111, 114, 32]⟩ : ByteArray)) ++ bt183.1).size + 1 ≤ 9223372036854775807 then (some (((((⟨#[67, 111, 110, 116, 97, 105, 110, 101, 114, 32]⟩ : ByteArray) ++ a0_1) ++ (⟨#[32, 105, 115, 32, 104, 101, 108, 100, 32, 102, 111, 114, 32]⟩ : ByteArray)) ++ bt183.1) ++ (⟨#[46]⟩ : ByteArray))) else (none)) else (none)) else (none))) else (if a0_0 = 4 then (if ((⟨#[67, 111, 110, 116, 97, 105, 110, 101, 114, 32]⟩ : ByteArray) ++ a0_1).size + 29 ≤ 9223372036854775807 then (if (((⟨#[67, 111, 110, 116, 97, 105, 110, 101, 114, 32]⟩ : ByteArray) ++ a0_1) ++ (⟨#[32, 105, 115, 32, 114, 101, 97, 100, 121, 32, 102, 111, 114, 32, 112, 105, 99, 107, 117, 112, 32, 105, 110, 32, 115, 108, 111, 116, 32]⟩ : ByteArray)).size + t181.size ≤ 9223372036854775807 then (if ((((⟨#[67, 111, 110, 116, 97, 105, 110, 101, 114, 32]⟩ : ByteArray) ++ a0_1) ++ (⟨#[32, 105, 115, 32, 114, 101, 97, 100, 121, 32, 102, 111, 114, 32, 112, 105, 99, 107, 117, 112, 32, 105, 110, 32, 115, 108, 111, 116, 32]⟩ : ByteArray)) ++ t181).size + 1 ≤ 9223372036854775807 then (some (((((⟨#[67, 111, 110, 116, 97, 105, 110, 101, 114, 32]⟩ : ByteArray) ++ a0_1) ++ (⟨#[32, 105, 115, 32, 114, 101, 97, 100, 121, 32, 102, 111, 114, 32, 112, 105, 99, 107, 117, 112, 32, 105, 110, 32, 115, 108, 111, 116, 32]⟩ : ByteArray)) ++ t181) ++ (⟨#[46]⟩ : ByteArray))) else (none)) else (none)) else (none)) else (if a0_3 = 1 then (if ((⟨#[67, 111, 110, 116, 97, 105, 110, 101, 114, 32]⟩ : ByteArray) ++ a0_1).size + 6 ≤ 9223372036854775807 then (if (((⟨#[67, 111, 110, 116, 97, 105, 110, 101, 114, 32]⟩ : ByteArray) ++ a0_1) ++ (⟨#[32, 111, 119, 101, 115, 32]⟩ : ByteArray)).size + t181.size ≤ 9223372036854775807 then (if ((((⟨#[67, 111, 110, 116, 97, 105, 110, 101, 114, 32]⟩ : ByteArray) ++ a0_1) ++ (⟨#[32, 111, 119, 101, 115, 32]⟩ : ByteArray)) ++ t181).size + 11 ≤ 9223372036854775807 then (some (((((⟨#[67, 111, 110, 116, 97, 105, 110, 101, 114, 32]⟩ : ByteArray) ++ a0_1) ++ (⟨#[32, 111, 119, 101, 115, 32]⟩ : ByteArray)) ++ t181) ++ (⟨#[32, 102, 111, 114, 32, 49, 32, 100, 97, 121, 46]⟩ : ByteArray))) else (none)) else (none)) else (none)) else (if ((⟨#[67, 111, 110, 116, 97, 105, 110, 101, 114, 32]⟩ : ByteArray) ++ a0_1).size + 6 ≤ 9223372036854775807 then (if (((⟨#[67, 111, 110, 116, 97, 105, 110, 101, 114, 32]⟩ : ByteArray) ++ a0_1) ++ (⟨#[32, 111, 119, 101, 115, 32]⟩ : ByteArray)).size + t181.size ≤ 9223372036854775807 then (if ((((⟨#[67, 111, 110, 116, 97, 105, 110, 101, 114, 32]⟩ : ByteArray) ++ a0_1) ++ (⟨#[32, 111, 119, 101, 115, 32]⟩ : ByteArray)) ++ t181).size + 5 ≤ 9223372036854775807 then (if (((((⟨#[67, 111, 110, 116, 97, 105, 110, 101, 114, 32]⟩ : ByteArray) ++ a0_1) ++ (⟨#[32, 111, 119, 101, 115, 32]⟩ : ByteArray)) ++ t181) ++ (⟨#[32, 102, 111, 114, 32]⟩ : ByteArray)).size + t182.size ≤ 9223372036854775807 then (if ((((((⟨#[67, 111, 110, 116, 97, 105, 110, 101, 114, 32]⟩ : ByteArray) ++ a0_1) ++ (⟨#[32, 111, 119, 101, 115, 32]⟩ : ByteArray)) ++ t181) ++ (⟨#[32, 102, 111, 114, 32]⟩ : ByteArray)) ++ t182).size + 6 ≤ 9223372036854775807 then (some (((((((⟨#[67, 111, 110, 116, 97, 105, 110, 101, 114, 32]⟩ : ByteArray) ++ a0_1) ++ (⟨#[32, 111, 119, 101, 115, 32]⟩ : ByteArray)) ++ t181) ++ (⟨#[32, 102, 111, 114, 32]⟩ : ByteArray)) ++ t182) ++ (⟨#[32, 100, 97, 121, 115, 46]⟩ : ByteArray))) else (none)) else (none)) else (none)) else (none)) else (none))))))))) else (none)
theorem Dk.mono : ∀ a0 a1 a2 a3 k, LeO (Dk.f k a0 a1 a2 a3) (Dk.f (k + 1) a0 a1 a2 a3) := by
  intro a0 a1 a2 a3 k
  unfold Dk.f
  repeat' first
      | (with_reducible exact Dt.mono _ _)
      | (with_reducible exact LeO.refl _)
      | (with_reducible exact LeO.none _)
      | (with_reducible refine LeO.ite ?_ ?_)
      | (with_reducible refine LeO.bind ?_ (fun _ => ?_))
      | exact Dt.mono _ _
      | exact LeO.none _
      | refine LeO.ite ?_ ?_
      | refine LeO.bind ?_ (fun _ => ?_)
def Dk.T2 : Bool × List (List Nat × List Nat) := (true, [([], []), ([0], [0]), ([1], [1]), ([], []), ([3], [3]), ([4, 2], [4]), ([2, 5, 0, 1, 2], [2]), ([5, 6, 0, 1, 2, 3, 4, 5, 6], [5])])
def Dk.B2 : List Nat := [0, 1, 3, 0, 8, 31, 63, 127]
theorem Dk.tab2 : rtab .any (opsOf Tryd.f26 2) = Dk.T2 := by kernel_rfl
theorem Dk.bits2 : Hm Dk.T2.2 Dk.B2 = true := by kernel_rfl
set_option maxHeartbeats 8000000 in
set_option maxRecDepth 100000 in
theorem Dk.calls (k : Nat) (a0_0 : Int) (a0_1 : ByteArray) (a0_2 : Int) (a0_3 : Int) (r : ByteArray) (w : World) (hG : Eo w) (h : Dk.f k a0_0 a0_1 a0_2 a0_3 = some r) :
    Calls Tryd.prog 26 #[.agg #[.int .i64 a0_0, .string a0_1, .int .i64 a0_2, .int .i64 a0_3]] w fun e w' => e = .returned (.string r) ∧ Below w.heap.size w w' := by
  have hu27 := Tryd.underlying27
  have HGL := Ac.mk hG
  clear hG
  have HB := Ac.mk (Below.refl w.heap.size w)
  have H : (if 10 + a0_1.size ≤ 9223372036854775807 then ((Em.f a0_2).bind fun t181 => ((Em.f a0_3).bind fun t182 => (if a0_0 = 1 then (if ((⟨#[67, 111, 110, 116, 97, 105, 110, 101, 114, 32]⟩ : ByteArray) ++ a0_1).size + 22 ≤ 9223372036854775807 then (if (((⟨#[67, 111, 110, 116, 97, 105, 110, 101, 114, 32]⟩ : ByteArray) ++ a0_1) ++ (⟨#[32, 104, 97, 115, 32, 97, 114, 114, 105, 118, 101, 100, 32, 105, 110, 32, 115, 116, 97, 99, 107, 32]⟩ : ByteArray)).size + t181.size ≤ 9223372036854775807 then (if ((((⟨#[67, 111, 110, 116, 97, 105, 110, 101, 114, 32]⟩ : ByteArray) ++ a0_1) ++ (⟨#[32, 104, 97, 115, 32, 97, 114, 114, 105, 118, 101, 100, 32, 105, 110, 32, 115, 116, 97, 99, 107, 32]⟩ : ByteArray)) ++ t181).size + 1 ≤ 9223372036854775807 then (some (((((⟨#[67, 111, 110, 116, 97, 105, 110, 101, 114, 32]⟩ : ByteArray) ++ a0_1) ++ (⟨#[32, 104, 97, 115, 32, 97, 114, 114, 105, 118, 101, 100, 32, 105, 110, 32, 115, 116, 97, 99, 107, 32]⟩ : ByteArray)) ++ t181) ++ (⟨#[46]⟩ : ByteArray))) else (none)) else (none)) else (none)) else (if a0_0 = 2 then (if ((⟨#[67, 111, 110, 116, 97, 105, 110, 101, 114, 32]⟩ : ByteArray) ++ a0_1).size + 22 ≤ 9223372036854775807 then (if (((⟨#[67, 111, 110, 116, 97, 105, 110, 101, 114, 32]⟩ : ByteArray) ++ a0_1) ++ (⟨#[32, 119, 97, 115, 32, 109, 111, 118, 101, 100, 32, 102, 114, 111, 109, 32, 115, 116, 97, 99, 107, 32]⟩ : ByteArray)).size + t181.size ≤ 9223372036854775807 then (if ((((⟨#[67, 111, 110, 116, 97, 105, 110, 101, 114, 32]⟩ : ByteArray) ++ a0_1) ++ (⟨#[32, 119, 97, 115, 32, 109, 111, 118, 101, 100, 32, 102, 114, 111, 109, 32, 115, 116, 97, 99, 107, 32]⟩ : ByteArray)) ++ t181).size + 10 ≤ 9223372036854775807 then (if (((((⟨#[67, 111, 110, 116, 97, 105, 110, 101, 114, 32]⟩ : ByteArray) ++ a0_1) ++ (⟨#[32, 119, 97, 115, 32, 109, 111, 118, 101, 100, 32, 102, 114, 111, 109, 32, 115, 116, 97, 99, 107, 32]⟩ : ByteArray)) ++ t181) ++ (⟨#[32, 116, 111, 32, 115, 116, 97, 99, 107, 32]⟩ : ByteArray)).size + t182.size ≤ 9223372036854775807 then (if ((((((⟨#[67, 111, 110, 116, 97, 105, 110, 101, 114, 32]⟩ : ByteArray) ++ a0_1) ++ (⟨#[32, 119, 97, 115, 32, 109, 111, 118, 101, 100, 32, 102, 114, 111, 109, 32, 115, 116, 97, 99, 107, 32]⟩ : ByteArray)) ++ t181) ++ (⟨#[32, 116, 111, 32, 115, 116, 97, 99, 107, 32]⟩ : ByteArray)) ++ t182).size + 1 ≤ 9223372036854775807 then (some (((((((⟨#[67, 111, 110, 116, 97, 105, 110, 101, 114, 32]⟩ : ByteArray) ++ a0_1) ++ (⟨#[32, 119, 97, 115, 32, 109, 111, 118, 101, 100, 32, 102, 114, 111, 109, 32, 115, 116, 97, 99, 107, 32]⟩ : ByteArray)) ++ t181) ++ (⟨#[32, 116, 111, 32, 115, 116, 97, 99, 107, 32]⟩ : ByteArray)) ++ t182) ++ (⟨#[46]⟩ : ByteArray))) else (none)) else (none)) else (none)) else (none)) else (none)) else (if a0_0 = 3 then ((Dt.f k a0_2).bind fun bt183 => (if ((⟨#[67, 111, 110, 116, 97, 105, 110, 101, 114, 32]⟩ : ByteArray) ++ a0_1).size + 13 ≤ 9223372036854775807 then (if (((⟨#[67, 111, 110, 116, 97, 105, 110, 101, 114, 32]⟩ : ByteArray) ++ a0_1) ++ (⟨#[32, 105, 115, 32, 104, 101, 108, 100, 32, 102, 111, 114, 32]⟩ : ByteArray)).size + bt183.1.size ≤ 9223372036854775807 then (if ((((⟨#[67, 111, 110, 116, 97, 105, 110, 101, 114, 32]⟩ : ByteArray) ++ a0_1) ++ (⟨#[32, 105, 115, 32, 104, 101, 108, 100, 32, 102, 111, 114, 32]⟩ : ByteArray)) ++ bt183.1).size + 1 ≤ 9223372036854775807 then (some (((((⟨#[67, 111, 110, 116, 97, 105, 110, 101, 114, 32]⟩ : ByteArray) ++ a0_1) ++ (⟨#[32, 105, 115, 32, 104, 101, 108, 100, 32, 102, 111, 114, 32]⟩ : ByteArray)) ++ bt183.1) ++ (⟨#[46]⟩ : ByteArray))) else (none)) else (none)) else (none))) else (if a0_0 = 4 then (if ((⟨#[67, 111, 110, 116, 97, 105, 110, 101, 114, 32]⟩ : ByteArray) ++ a0_1).size + 29 ≤ 9223372036854775807 then (if (((⟨#[67, 111, 110, 116, 97, 105, 110, 101, 114, 32]⟩ : ByteArray) ++ a0_1) ++ (⟨#[32, 105, 115, 32, 114, 101, 97, 100, 121, 32, 102, 111, 114, 32, 112, 105, 99, 107, 117, 112, 32, 105, 110, 32, 115, 108, 111, 116, 32]⟩ : ByteArray)).size + t181.size ≤ 9223372036854775807 then (if ((((⟨#[67, 111, 110, 116, 97, 105, 110, 101, 114, 32]⟩ : ByteArray) ++ a0_1) ++ (⟨#[32, 105, 115, 32, 114, 101, 97, 100, 121, 32, 102, 111, 114, 32, 112, 105, 99, 107, 117, 112, 32, 105, 110, 32, 115, 108, 111, 116, 32]⟩ : ByteArray)) ++ t181).size + 1 ≤ 9223372036854775807 then (some (((((⟨#[67, 111, 110, 116, 97, 105, 110, 101, 114, 32]⟩ : ByteArray) ++ a0_1) ++ (⟨#[32, 105, 115, 32, 114, 101, 97, 100, 121, 32, 102, 111, 114, 32, 112, 105, 99, 107, 117, 112, 32, 105, 110, 32, 115, 108, 111, 116, 32]⟩ : ByteArray)) ++ t181) ++ (⟨#[46]⟩ : ByteArray))) else (none)) else (none)) else (none)) else (if a0_3 = 1 then (if ((⟨#[67, 111, 110, 116, 97, 105, 110, 101, 114, 32]⟩ : ByteArray) ++ a0_1).size + 6 ≤ 9223372036854775807 then (if (((⟨#[67, 111, 110, 116, 97, 105, 110, 101, 114, 32]⟩ : ByteArray) ++ a0_1) ++ (⟨#[32, 111, 119, 101, 115, 32]⟩ : ByteArray)).size + t181.size ≤ 9223372036854775807 then (if ((((⟨#[67, 111, 110, 116, 97, 105, 110, 101, 114, 32]⟩ : ByteArray) ++ a0_1) ++ (⟨#[32, 111, 119, 101, 115, 32]⟩ : ByteArray)) ++ t181).size + 11 ≤ 9223372036854775807 then (some (((((⟨#[67, 111, 110, 116, 97, 105, 110, 101, 114, 32]⟩ : ByteArray) ++ a0_1) ++ (⟨#[32, 111, 119, 101, 115, 32]⟩ : ByteArray)) ++ t181) ++ (⟨#[32, 102, 111, 114, 32, 49, 32, 100, 97, 121, 46]⟩ : ByteArray))) else (none)) else (none)) else (none)) else (if ((⟨#[67, 111, 110, 116, 97, 105, 110, 101, 114, 32]⟩ : ByteArray) ++ a0_1).size + 6 ≤ 9223372036854775807 then (if (((⟨#[67, 111, 110, 116, 97, 105, 110, 101, 114, 32]⟩ : ByteArray) ++ a0_1) ++ (⟨#[32, 111, 119, 101, 115, 32]⟩ : ByteArray)).size + t181.size ≤ 9223372036854775807 then (if ((((⟨#[67, 111, 110, 116, 97, 105, 110, 101, 114, 32]⟩ : ByteArray) ++ a0_1) ++ (⟨#[32, 111, 119, 101, 115, 32]⟩ : ByteArray)) ++ t181).size + 5 ≤ 9223372036854775807 then (if (((((⟨#[67, 111, 110, 116, 97, 105, 110, 101, 114, 32]⟩ : ByteArray) ++ a0_1) ++ (⟨#[32, 111, 119, 101, 115, 32]⟩ : ByteArray)) ++ t181) ++ (⟨#[32, 102, 111, 114, 32]⟩ : ByteArray)).size + t182.size ≤ 9223372036854775807 then (if ((((((⟨#[67, 111, 110, 116, 97, 105, 110, 101, 114, 32]⟩ : ByteArray) ++ a0_1) ++ (⟨#[32, 111, 119, 101, 115, 32]⟩ : ByteArray)) ++ t181) ++ (⟨#[32, 102, 111, 114, 32]⟩ : ByteArray)) ++ t182).size + 6 ≤ 9223372036854775807 then (some (((((((⟨#[67, 111, 110, 116, 97, 105, 110, 101, 114, 32]⟩ : ByteArray) ++ a0_1) ++ (⟨#[32, 111, 119, 101, 115, 32]⟩ : ByteArray)) ++ t181) ++ (⟨#[32, 102, 111, 114, 32]⟩ : ByteArray)) ++ t182) ++ (⟨#[32, 100, 97, 121, 115, 46]⟩ : ByteArray))) else (none)) else (none)) else (none)) else (none)) else (none))))))))) else (none)) = some r := h
  clear h
  by_cases c2 : 10 + a0_1.size ≤ 9223372036854775807
  · rw [if_pos c2] at H
    have c2b0 := eq_true c2
    have c2b1 : decide (10 + a0_1.size ≤ 9223372036854775807) = true := decide_eq_true c2
    try have c2b2 : (9223372036854775807 < 10 + a0_1.size) = False := eq_false (Nat.not_lt.2 c2)
    replace H := Option.bind_eq_some_iff.mp H
    obtain ⟨t181, A30, H⟩ := H
    replace H : ((Em.f a0_3).bind fun t182 => (if a0_0 = 1 then (if ((⟨#[67, 111, 110, 116, 97, 105, 110, 101, 114, 32]⟩ : ByteArray) ++ a0_1).size + 22 ≤ 9223372036854775807 then (if (((⟨#[67, 111, 110, 116, 97, 105, 110, 101, 114, 32]⟩ : ByteArray) ++ a0_1) ++ (⟨#[32, 104, 97, 115, 32, 97, 114, 114, 105, 118, 101, 100, 32, 105, 110, 32, 115, 116, 97, 99, 107, 32]⟩ : ByteArray)).size + t181.size ≤ 9223372036854775807 then (if ((((⟨#[67, 111, 110, 116, 97, 105, 110, 101, 114, 32]⟩ : ByteArray) ++ a0_1) ++ (⟨#[32, 104, 97, 115, 32, 97, 114, 114, 105, 118, 101, 100, 32, 105, 110, 32, 115, 116, 97, 99, 107, 32]⟩ : ByteArray)) ++ t181).size + 1 ≤ 9223372036854775807 then (some (((((⟨#[67, 111, 110, 116, 97, 105, 110, 101, 114, 32]⟩ : ByteArray) ++ a0_1) ++ (⟨#[32, 104, 97, 115, 32, 97, 114, 114, 105, 118, 101, 100, 32, 105, 110, 32, 115, 116, 97, 99, 107, 32]⟩ : ByteArray)) ++ t181) ++ (⟨#[46]⟩ : ByteArray))) else (none)) else (none)) else (none)) else (if a0_0 = 2 then (if ((⟨#[67, 111, 110, 116, 97, 105, 110, 101, 114, 32]⟩ : ByteArray) ++ a0_1).size + 22 ≤ 9223372036854775807 then (if (((⟨#[67, 111, 110, 116, 97, 105, 110, 101, 114, 32]⟩ : ByteArray) ++ a0_1) ++ (⟨#[32, 119, 97, 115, 32, 109, 111, 118, 101, 100, 32, 102, 114, 111, 109, 32, 115, 116, 97, 99, 107, 32]⟩ : ByteArray)).size + t181.size ≤ 9223372036854775807 then (if ((((⟨#[67, 111, 110, 116, 97, 105, 110, 101, 114, 32]⟩ : ByteArray) ++ a0_1) ++ (⟨#[32, 119, 97, 115, 32, 109, 111, 118, 101, 100, 32, 102, 114, 111, 109, 32, 115, 116, 97, 99, 107, 32]⟩ : ByteArray)) ++ t181).size + 10 ≤ 9223372036854775807 then (if (((((⟨#[67, 111, 110, 116, 97, 105, 110, 101, 114, 32]⟩ : ByteArray) ++ a0_1) ++ (⟨#[32, 119, 97, 115, 32, 109, 111, 118, 101, 100, 32, 102, 114, 111, 109, 32, 115, 116, 97, 99, 107, 32]⟩ : ByteArray)) ++ t181) ++ (⟨#[32, 116, 111, 32, 115, 116, 97, 99, 107, 32]⟩ : ByteArray)).size + t182.size ≤ 9223372036854775807 then (if ((((((⟨#[67, 111, 110, 116, 97, 105, 110, 101, 114, 32]⟩ : ByteArray) ++ a0_1) ++ (⟨#[32, 119, 97, 115, 32, 109, 111, 118, 101, 100, 32, 102, 114, 111, 109, 32, 115, 116, 97, 99, 107, 32]⟩ : ByteArray)) ++ t181) ++ (⟨#[32, 116, 111, 32, 115, 116, 97, 99, 107, 32]⟩ : ByteArray)) ++ t182).size + 1 ≤ 9223372036854775807 then (some (((((((⟨#[67, 111, 110, 116, 97, 105, 110, 101, 114, 32]⟩ : ByteArray) ++ a0_1) ++ (⟨#[32, 119, 97, 115, 32, 109, 111, 118, 101, 100, 32, 102, 114, 111, 109, 32, 115, 116, 97, 99, 107, 32]⟩ : ByteArray)) ++ t181) ++ (⟨#[32, 116, 111, 32, 115, 116, 97, 99, 107, 32]⟩ : ByteArray)) ++ t182) ++ (⟨#[46]⟩ : ByteArray))) else (none)) else (none)) else (none)) else (none)) else (none)) else (if a0_0 = 3 then ((Dt.f k a0_2).bind fun bt183 => (if ((⟨#[67, 111, 110, 116, 97, 105, 110, 101, 114, 32]⟩ : ByteArray) ++ a0_1).size + 13 ≤ 9223372036854775807 then (if (((⟨#[67, 111, 110, 116, 97, 105, 110, 101, 114, 32]⟩ : ByteArray) ++ a0_1) ++ (⟨#[32, 105, 115, 32, 104, 101, 108, 100, 32, 102, 111, 114, 32]⟩ : ByteArray)).size + bt183.1.size ≤ 9223372036854775807 then (if ((((⟨#[67, 111, 110, 116, 97, 105, 110, 101, 114, 32]⟩ : ByteArray) ++ a0_1) ++ (⟨#[32, 105, 115, 32, 104, 101, 108, 100, 32, 102, 111, 114, 32]⟩ : ByteArray)) ++ bt183.1).size + 1 ≤ 9223372036854775807 then (some (((((⟨#[67, 111, 110, 116, 97, 105, 110, 101, 114, 32]⟩ : ByteArray) ++ a0_1) ++ (⟨#[32, 105, 115, 32, 104, 101, 108, 100, 32, 102, 111, 114, 32]⟩ : ByteArray)) ++ bt183.1) ++ (⟨#[46]⟩ : ByteArray))) else (none)) else (none)) else (none))) else (if a0_0 = 4 then (if ((⟨#[67, 111, 110, 116, 97, 105, 110, 101, 114, 32]⟩ : ByteArray) ++ a0_1).size + 29 ≤ 9223372036854775807 then (if (((⟨#[67, 111, 110, 116, 97, 105, 110, 101, 114, 32]⟩ : ByteArray) ++ a0_1) ++ (⟨#[32, 105, 115, 32, 114, 101, 97, 100, 121, 32, 102, 111, 114, 32, 112, 105, 99, 107, 117, 112, 32, 105, 110, 32, 115, 108, 111, 116, 32]⟩ : ByteArray)).size + t181.size ≤ 9223372036854775807 then (if ((((⟨#[67, 111, 110, 116, 97, 105, 110, 101, 114, 32]⟩ : ByteArray) ++ a0_1) ++ (⟨#[32, 105, 115, 32, 114, 101, 97, 100, 121, 32, 102, 111, 114, 32, 112, 105, 99, 107, 117, 112, 32, 105, 110, 32, 115, 108, 111, 116, 32]⟩ : ByteArray)) ++ t181).size + 1 ≤ 9223372036854775807 then (some (((((⟨#[67, 111, 110, 116, 97, 105, 110, 101, 114, 32]⟩ : ByteArray) ++ a0_1) ++ (⟨#[32, 105, 115, 32, 114, 101, 97, 100, 121, 32, 102, 111, 114, 32, 112, 105, 99, 107, 117, 112, 32, 105, 110, 32, 115, 108, 111, 116, 32]⟩ : ByteArray)) ++ t181) ++ (⟨#[46]⟩ : ByteArray))) else (none)) else (none)) else (none)) else (if a0_3 = 1 then (if ((⟨#[67, 111, 110, 116, 97, 105, 110, 101, 114, 32]⟩ : ByteArray) ++ a0_1).size + 6 ≤ 9223372036854775807 then (if (((⟨#[67, 111, 110, 116, 97, 105, 110, 101, 114, 32]⟩ : ByteArray) ++ a0_1) ++ (⟨#[32, 111, 119, 101, 115, 32]⟩ : ByteArray)).size + t181.size ≤ 9223372036854775807 then (if ((((⟨#[67, 111, 110, 116, 97, 105, 110, 101, 114, 32]⟩ : ByteArray) ++ a0_1) ++ (⟨#[32, 111, 119, 101, 115, 32]⟩ : ByteArray)) ++ t181).size + 11 ≤ 9223372036854775807 then (some (((((⟨#[67, 111, 110, 116, 97, 105, 110, 101, 114, 32]⟩ : ByteArray) ++ a0_1) ++ (⟨#[32, 111, 119, 101, 115, 32]⟩ : ByteArray)) ++ t181) ++ (⟨#[32, 102, 111, 114, 32, 49, 32, 100, 97, 121, 46]⟩ : ByteArray))) else (none)) else (none)) else (none)) else (if ((⟨#[67, 111, 110, 116, 97, 105, 110, 101, 114, 32]⟩ : ByteArray) ++ a0_1).size + 6 ≤ 9223372036854775807 then (if (((⟨#[67, 111, 110, 116, 97, 105, 110, 101, 114, 32]⟩ : ByteArray) ++ a0_1) ++ (⟨#[32, 111, 119, 101, 115, 32]⟩ : ByteArray)).size + t181.size ≤ 9223372036854775807 then (if ((((⟨#[67, 111, 110, 116, 97, 105, 110, 101, 114, 32]⟩ : ByteArray) ++ a0_1) ++ (⟨#[32, 111, 119, 101, 115, 32]⟩ : ByteArray)) ++ t181).size + 5 ≤ 9223372036854775807 then (if (((((⟨#[67, 111, 110, 116, 97, 105, 110, 101, 114, 32]⟩ : ByteArray) ++ a0_1) ++ (⟨#[32, 111, 119, 101, 115, 32]⟩ : ByteArray)) ++ t181) ++ (⟨#[32, 102, 111, 114, 32]⟩ : ByteArray)).size + t182.size ≤ 9223372036854775807 then (if ((((((⟨#[67, 111, 110, 116, 97, 105, 110, 101, 114, 32]⟩ : ByteArray) ++ a0_1) ++ (⟨#[32, 111, 119, 101, 115, 32]⟩ : ByteArray)) ++ t181) ++ (⟨#[32, 102, 111, 114, 32]⟩ : ByteArray)) ++ t182).size + 6 ≤ 9223372036854775807 then (some (((((((⟨#[67, 111, 110, 116, 97, 105, 110, 101, 114, 32]⟩ : ByteArray) ++ a0_1) ++ (⟨#[32, 111, 119, 101, 115, 32]⟩ : ByteArray)) ++ t181) ++ (⟨#[32, 102, 111, 114, 32]⟩ : ByteArray)) ++ t182) ++ (⟨#[32, 100, 97, 121, 115, 46]⟩ : ByteArray))) else (none)) else (none)) else (none)) else (none)) else (none)))))))) = some r := H
    have A3 := Ac.mk A30
    clear A30
    replace H := Option.bind_eq_some_iff.mp H
    obtain ⟨t182, A40, H⟩ := H
    replace H : (if a0_0 = 1 then (if ((⟨#[67, 111, 110, 116, 97, 105, 110, 101, 114, 32]⟩ : ByteArray) ++ a0_1).size + 22 ≤ 9223372036854775807 then (if (((⟨#[67, 111, 110, 116, 97, 105, 110, 101, 114, 32]⟩ : ByteArray) ++ a0_1) ++ (⟨#[32, 104, 97, 115, 32, 97, 114, 114, 105, 118, 101, 100, 32, 105, 110, 32, 115, 116, 97, 99, 107, 32]⟩ : ByteArray)).size + t181.size ≤ 9223372036854775807 then (if ((((⟨#[67, 111, 110, 116, 97, 105, 110, 101, 114, 32]⟩ : ByteArray) ++ a0_1) ++ (⟨#[32, 104, 97, 115, 32, 97, 114, 114, 105, 118, 101, 100, 32, 105, 110, 32, 115, 116, 97, 99, 107, 32]⟩ : ByteArray)) ++ t181).size + 1 ≤ 9223372036854775807 then (some (((((⟨#[67, 111, 110, 116, 97, 105, 110, 101, 114, 32]⟩ : ByteArray) ++ a0_1) ++ (⟨#[32, 104, 97, 115, 32, 97, 114, 114, 105, 118, 101, 100, 32, 105, 110, 32, 115, 116, 97, 99, 107, 32]⟩ : ByteArray)) ++ t181) ++ (⟨#[46]⟩ : ByteArray))) else (none)) else (none)) else (none)) else (if a0_0 = 2 then (if ((⟨#[67, 111, 110, 116, 97, 105, 110, 101, 114, 32]⟩ : ByteArray) ++ a0_1).size + 22 ≤ 9223372036854775807 then (if (((⟨#[67, 111, 110, 116, 97, 105, 110, 101, 114, 32]⟩ : ByteArray) ++ a0_1) ++ (⟨#[32, 119, 97, 115, 32, 109, 111, 118, 101, 100, 32, 102, 114, 111, 109, 32, 115, 116, 97, 99, 107, 32]⟩ : ByteArray)).size + t181.size ≤ 9223372036854775807 then (if ((((⟨#[67, 111, 110, 116, 97, 105, 110, 101, 114, 32]⟩ : ByteArray) ++ a0_1) ++ (⟨#[32, 119, 97, 115, 32, 109, 111, 118, 101, 100, 32, 102, 114, 111, 109, 32, 115, 116, 97, 99, 107, 32]⟩ : ByteArray)) ++ t181).size + 10 ≤ 9223372036854775807 then (if (((((⟨#[67, 111, 110, 116, 97, 105, 110, 101, 114, 32]⟩ : ByteArray) ++ a0_1) ++ (⟨#[32, 119, 97, 115, 32, 109, 111, 118, 101, 100, 32, 102, 114, 111, 109, 32, 115, 116, 97, 99, 107, 32]⟩ : ByteArray)) ++ t181) ++ (⟨#[32, 116, 111, 32, 115, 116, 97, 99, 107, 32]⟩ : ByteArray)).size + t182.size ≤ 9223372036854775807 then (if ((((((⟨#[67, 111, 110, 116, 97, 105, 110, 101, 114, 32]⟩ : ByteArray) ++ a0_1) ++ (⟨#[32, 119, 97, 115, 32, 109, 111, 118, 101, 100, 32, 102, 114, 111, 109, 32, 115, 116, 97, 99, 107, 32]⟩ : ByteArray)) ++ t181) ++ (⟨#[32, 116, 111, 32, 115, 116, 97, 99, 107, 32]⟩ : ByteArray)) ++ t182).size + 1 ≤ 9223372036854775807 then (some (((((((⟨#[67, 111, 110, 116, 97, 105, 110, 101, 114, 32]⟩ : ByteArray) ++ a0_1) ++ (⟨#[32, 119, 97, 115, 32, 109, 111, 118, 101, 100, 32, 102, 114, 111, 109, 32, 115, 116, 97, 99, 107, 32]⟩ : ByteArray)) ++ t181) ++ (⟨#[32, 116, 111, 32, 115, 116, 97, 99, 107, 32]⟩ : ByteArray)) ++ t182) ++ (⟨#[46]⟩ : ByteArray))) else (none)) else (none)) else (none)) else (none)) else (none)) else (if a0_0 = 3 then ((Dt.f k a0_2).bind fun bt183 => (if ((⟨#[67, 111, 110, 116, 97, 105, 110, 101, 114, 32]⟩ : ByteArray) ++ a0_1).size + 13 ≤ 9223372036854775807 then (if (((⟨#[67, 111, 110, 116, 97, 105, 110, 101, 114, 32]⟩ : ByteArray) ++ a0_1) ++ (⟨#[32, 105, 115, 32, 104, 101, 108, 100, 32, 102, 111, 114, 32]⟩ : ByteArray)).size + bt183.1.size ≤ 9223372036854775807 then (if ((((⟨#[67, 111, 110, 116, 97, 105, 110, 101, 114, 32]⟩ : ByteArray) ++ a0_1) ++ (⟨#[32, 105, 115, 32, 104, 101, 108, 100, 32, 102, 111, 114, 32]⟩ : ByteArray)) ++ bt183.1).size + 1 ≤ 9223372036854775807 then (some (((((⟨#[67, 111, 110, 116, 97, 105, 110, 101, 114, 32]⟩ : ByteArray) ++ a0_1) ++ (⟨#[32, 105, 115, 32, 104, 101, 108, 100, 32, 102, 111, 114, 32]⟩ : ByteArray)) ++ bt183.1) ++ (⟨#[46]⟩ : ByteArray))) else (none)) else (none)) else (none))) else (if a0_0 = 4 then (if ((⟨#[67, 111, 110, 116, 97, 105, 110, 101, 114, 32]⟩ : ByteArray) ++ a0_1).size + 29 ≤ 9223372036854775807 then (if (((⟨#[67, 111, 110, 116, 97, 105, 110, 101, 114, 32]⟩ : ByteArray) ++ a0_1) ++ (⟨#[32, 105, 115, 32, 114, 101, 97, 100, 121, 32, 102, 111, 114, 32, 112, 105, 99, 107, 117, 112, 32, 105, 110, 32, 115, 108, 111, 116, 32]⟩ : ByteArray)).size + t181.size ≤ 9223372036854775807 then (if ((((⟨#[67, 111, 110, 116, 97, 105, 110, 101, 114, 32]⟩ : ByteArray) ++ a0_1) ++ (⟨#[32, 105, 115, 32, 114, 101, 97, 100, 121, 32, 102, 111, 114, 32, 112, 105, 99, 107, 117, 112, 32, 105, 110, 32, 115, 108, 111, 116, 32]⟩ : ByteArray)) ++ t181).size + 1 ≤ 9223372036854775807 then (some (((((⟨#[67, 111, 110, 116, 97, 105, 110, 101, 114, 32]⟩ : ByteArray) ++ a0_1) ++ (⟨#[32, 105, 115, 32, 114, 101, 97, 100, 121, 32, 102, 111, 114, 32, 112, 105, 99, 107, 117, 112, 32, 105, 110, 32, 115, 108, 111, 116, 32]⟩ : ByteArray)) ++ t181) ++ (⟨#[46]⟩ : ByteArray))) else (none)) else (none)) else (none)) else (if a0_3 = 1 then (if ((⟨#[67, 111, 110, 116, 97, 105, 110, 101, 114, 32]⟩ : ByteArray) ++ a0_1).size + 6 ≤ 9223372036854775807 then (if (((⟨#[67, 111, 110, 116, 97, 105, 110, 101, 114, 32]⟩ : ByteArray) ++ a0_1) ++ (⟨#[32, 111, 119, 101, 115, 32]⟩ : ByteArray)).size + t181.size ≤ 9223372036854775807 then (if ((((⟨#[67, 111, 110, 116, 97, 105, 110, 101, 114, 32]⟩ : ByteArray) ++ a0_1) ++ (⟨#[32, 111, 119, 101, 115, 32]⟩ : ByteArray)) ++ t181).size + 11 ≤ 9223372036854775807 then (some (((((⟨#[67, 111, 110, 116, 97, 105, 110, 101, 114, 32]⟩ : ByteArray) ++ a0_1) ++ (⟨#[32, 111, 119, 101, 115, 32]⟩ : ByteArray)) ++ t181) ++ (⟨#[32, 102, 111, 114, 32, 49, 32, 100, 97, 121, 46]⟩ : ByteArray))) else (none)) else (none)) else (none)) else (if ((⟨#[67, 111, 110, 116, 97, 105, 110, 101, 114, 32]⟩ : ByteArray) ++ a0_1).size + 6 ≤ 9223372036854775807 then (if (((⟨#[67, 111, 110, 116, 97, 105, 110, 101, 114, 32]⟩ : ByteArray) ++ a0_1) ++ (⟨#[32, 111, 119, 101, 115, 32]⟩ : ByteArray)).size + t181.size ≤ 9223372036854775807 then (if ((((⟨#[67, 111, 110, 116, 97, 105, 110, 101, 114, 32]⟩ : ByteArray) ++ a0_1) ++ (⟨#[32, 111, 119, 101, 115, 32]⟩ : ByteArray)) ++ t181).size + 5 ≤ 9223372036854775807 then (if (((((⟨#[67, 111, 110, 116, 97, 105, 110, 101, 114, 32]⟩ : ByteArray) ++ a0_1) ++ (⟨#[32, 111, 119, 101, 115, 32]⟩ : ByteArray)) ++ t181) ++ (⟨#[32, 102, 111, 114, 32]⟩ : ByteArray)).size + t182.size ≤ 9223372036854775807 then (if ((((((⟨#[67, 111, 110, 116, 97, 105, 110, 101, 114, 32]⟩ : ByteArray) ++ a0_1) ++ (⟨#[32, 111, 119, 101, 115, 32]⟩ : ByteArray)) ++ t181) ++ (⟨#[32, 102, 111, 114, 32]⟩ : ByteArray)) ++ t182).size + 6 ≤ 9223372036854775807 then (some (((((((⟨#[67, 111, 110, 116, 97, 105, 110, 101, 114, 32]⟩ : ByteArray) ++ a0_1) ++ (⟨#[32, 111, 119, 101, 115, 32]⟩ : ByteArray)) ++ t181) ++ (⟨#[32, 102, 111, 114, 32]⟩ : ByteArray)) ++ t182) ++ (⟨#[32, 100, 97, 121, 115, 46]⟩ : ByteArray))) else (none)) else (none)) else (none)) else (none)) else (none))))))) = some r := H
    have A4 := Ac.mk A40
    clear A40
    by_cases c5 : a0_0 = 1
    · rw [if_pos c5] at H
      have c5b0 : (a0_0 == 1) = true := beq_iff_eq.mpr c5
      have c5b1 : (a0_0 != 1) = false := bne_eq_false_iff_eq.mpr c5
      clear c5
      by_cases c6 : ((⟨#[67, 111, 110, 116, 97, 105, 110, 101, 114, 32]⟩ : ByteArray) ++ a0_1).size + 22 ≤ 9223372036854775807
      · rw [if_pos c6] at H
        have c6b0 := eq_true c6
        have c6b1 : decide (((⟨#[67, 111, 110, 116, 97, 105, 110, 101, 114, 32]⟩ : ByteArray) ++ a0_1).size + 22 ≤ 9223372036854775807) = true := decide_eq_true c6
        try have c6b2 : (9223372036854775807 < ((⟨#[67, 111, 110, 116, 97, 105, 110, 101, 114, 32]⟩ : ByteArray) ++ a0_1).size + 22) = False := eq_false (Nat.not_lt.2 c6)
        have c6z0 : (⟨#[67, 111, 110, 116, 97, 105, 110, 101, 114, 32]⟩ : ByteArray).size = 10 := rfl
        have c6b3 := c6
        try simp only [ByteArray.size_extract, ByteArray.size_append, c6z0] at c6b3
        have c6b4 := eq_false (Nat.not_lt.2 c6b3)
        by_cases c7 : (((⟨#[67, 111, 110, 116, 97, 105, 110, 101, 114, 32]⟩ : ByteArray) ++ a0_1) ++ (⟨#[32, 104, 97, 115, 32, 97, 114, 114, 105, 118, 101, 100, 32, 105, 110, 32, 115, 116, 97, 99, 107, 32]⟩ : ByteArray)).size + t181.size ≤ 9223372036854775807
        · rw [if_pos c7] at H
          have c7b0 := eq_true c7
          have c7b1 : decide ((((⟨#[67, 111, 110, 116, 97, 105, 110, 101, 114, 32]⟩ : ByteArray) ++ a0_1) ++ (⟨#[32, 104, 97, 115, 32, 97, 114, 114, 105, 118, 101, 100, 32, 105, 110, 32, 115, 116, 97, 99, 107, 32]⟩ : ByteArray)).size + t181.size ≤ 9223372036854775807) = true := decide_eq_true c7
          try have c7b2 : (9223372036854775807 < (((⟨#[67, 111, 110, 116, 97, 105, 110, 101, 114, 32]⟩ : ByteArray) ++ a0_1) ++ (⟨#[32, 104, 97, 115, 32, 97, 114, 114, 105, 118, 101, 100, 32, 105, 110, 32, 115, 116, 97, 99, 107, 32]⟩ : ByteArray)).size + t181.size) = False := eq_false (Nat.not_lt.2 c7)
          have c7z0 : (⟨#[32, 104, 97, 115, 32, 97, 114, 114, 105, 118, 101, 100, 32, 105, 110, 32, 115, 116, 97, 99, 107, 32]⟩ : ByteArray).size = 22 := rfl
          have c7z1 : (⟨#[67, 111, 110, 116, 97, 105, 110, 101, 114, 32]⟩ : ByteArray).size = 10 := rfl
          have c7b3 := c7
          try simp only [ByteArray.size_extract, ByteArray.size_append, c7z0, c7z1] at c7b3
          have c7b4 := eq_false (Nat.not_lt.2 c7b3)
          by_cases c8 : ((((⟨#[67, 111, 110, 116, 97, 105, 110, 101, 114, 32]⟩ : ByteArray) ++ a0_1) ++ (⟨#[32, 104, 97, 115, 32, 97, 114, 114, 105, 118, 101, 100, 32, 105, 110, 32, 115, 116, 97, 99, 107, 32]⟩ : ByteArray)) ++ t181).size + 1 ≤ 9223372036854775807
          · rw [if_pos c8] at H
            have c8b0 := eq_true c8
            have c8b1 : decide (((((⟨#[67, 111, 110, 116, 97, 105, 110, 101, 114, 32]⟩ : ByteArray) ++ a0_1) ++ (⟨#[32, 104, 97, 115, 32, 97, 114, 114, 105, 118, 101, 100, 32, 105, 110, 32, 115, 116, 97, 99, 107, 32]⟩ : ByteArray)) ++ t181).size + 1 ≤ 9223372036854775807) = true := decide_eq_true c8
            try have c8b2 : (9223372036854775807 < ((((⟨#[67, 111, 110, 116, 97, 105, 110, 101, 114, 32]⟩ : ByteArray) ++ a0_1) ++ (⟨#[32, 104, 97, 115, 32, 97, 114, 114, 105, 118, 101, 100, 32, 105, 110, 32, 115, 116, 97, 99, 107, 32]⟩ : ByteArray)) ++ t181).size + 1) = False := eq_false (Nat.not_lt.2 c8)
            have c8z0 : (⟨#[32, 104, 97, 115, 32, 97, 114, 114, 105, 118, 101, 100, 32, 105, 110, 32, 115, 116, 97, 99, 107, 32]⟩ : ByteArray).size = 22 := rfl
            have c8z1 : (⟨#[67, 111, 110, 116, 97, 105, 110, 101, 114, 32]⟩ : ByteArray).size = 10 := rfl
            have c8b3 := c8
            try simp only [ByteArray.size_extract, ByteArray.size_append, c8z0, c8z1] at c8b3
            have c8b4 := eq_false (Nat.not_lt.2 c8b3)
            obtain rfl := Option.some.inj H
            go_enter Tryd.func26, Tryd.ntmps26
            try go_wp2_with (first | ((with_reducible refine Dh (N := 1) rfl ?_); refine Dl ?hg (N := 1) ?hd (cs := #[.int .i64 a0_0, .string a0_1, .int .i64 a0_2, .int .i64 a0_3]) (t := 27) ?hr ?_; (case hd => rfl); (case hg => rfl); (case hr => first | (go_simp; done) | (go_simp; rfl)); intro gb0 hg w9 hbox hb; have n0_ := Ac.mk (Au Ya_ hb); have n1_ := Ac.mk (hbox); have n2_ := Ac.mk ((by rw [hg]; exact (Az Ya_) : w.heap.size ≤ gb0)); have n3_ := Ac.mk ((by rw [hg]; exact (Az Ya_) : w.heap.size ≤ gb0)); clear HB; have HB := n0_; have BK0 := n1_; have GW0 := n2_; have GE0 := n3_; clear n0_ n1_ n2_ n3_; clear hb hbox hg; have hcz10_0 : w9.cell? ⟨gb0, 0, none⟩ = some (.int .i64 a0_0) := (Af BK0.out 0).trans rfl; have hcz10_1 : w9.cell? ⟨gb0, 1, none⟩ = some (.string a0_1) := (Af BK0.out 1).trans rfl; have hcz10_2 : w9.cell? ⟨gb0, 2, none⟩ = some (.int .i64 a0_2) := (Af BK0.out 2).trans rfl; have hcz10_3 : w9.cell? ⟨gb0, 3, none⟩ = some (.int .i64 a0_3) := (Af BK0.out 3).trans rfl; have hfz10_0 := Ag BK0.out 0; have hfz10_1 := Ag BK0.out 1; have hfz10_2 := Ag BK0.out 2; have hfz10_3 := Ag BK0.out 3))
            have n0_ := Ac.mk (Aj BK0.out)
            have n1_ := Ac.mk (Ad HB.out)
            clear BK0
            clear HB
            have BK0 := n0_
            have HB := n1_
            clear n0_ n1_
            refine G7 (n := 8) (S := fun w' => w'.cell? ⟨gb0, 0, none⟩ = some (.int .i64 a0_0) ∧ w'.cell? ⟨gb0, 1, none⟩ = some (.string a0_1) ∧ w'.cell? ⟨gb0, 2, none⟩ = some (.int .i64 a0_2) ∧ w'.cell? ⟨gb0, 3, none⟩ = some (.int .i64 a0_3)) (ds := []) #[false, false, false, false, false, false, false, false] (by kernel_rfl) rfl rfl ⟨(Af BK0.out 0).trans rfl, (Af BK0.out 1).trans rfl, (Af BK0.out 2).trans rfl, (Af BK0.out 3).trans rfl⟩ (fun hHeld => ?_); refine Gf Dk.tab2 Dk.bits2 (fun HT_ HW_ => ?_)
            generalize w9.drew = w11 at BK0 HB hHeld ⊢
            refine Du (i := 0) (N := some 11) (v := ?_) (a' := ?_) #[true, false, false, false, false, false, false, false] rfl rfl (Di HT_.out (by kernel_rfl)) (fun _ _ _ h => h) (Or.inl ⟨by rfl, ?_⟩) ?_ ?_
            rotate_left
            · intro w'
              go_simp
              first | with_reducible rfl | (rw [if_neg (by omega)]; try with_reducible rfl)
            rotate_left
            · simp only [Act.put, List.setIfInBounds_toArray, List.set_cons_zero, List.set_cons_succ, Bz, Cb]
              rfl
            refine Du (i := 3) (N := some 14) (v := ?_) (a' := ?_) #[true, false, false, true, false, false, false, false] rfl rfl (Di HT_.out (by kernel_rfl)) (fun _ _ _ h => h) (Or.inl ⟨by rfl, ?_⟩) ?_ ?_
            rotate_left
            · intro w'
              go_simp
              first | with_reducible rfl | (rw [if_neg (by omega)]; try with_reducible rfl)
            rotate_left
            · simp only [Act.put, List.setIfInBounds_toArray, List.set_cons_zero, List.set_cons_succ, Bz, Cb]
              rfl
            refine Fv (i := 1) (N := some 12) (v := ?_) (a' := ?_) #[true, true, false, true, false, false, false, false] rfl rfl (Et HT_.out HW_.out (by kernel_rfl)) (fun _ _ _ h => h) (Or.inl ⟨by rfl, ?_⟩) hHeld ?_ ?_
            rotate_left
            · rintro w' ⟨s0, s1, s2, s3⟩
              go_simp
              first | with_reducible rfl | (rw [if_neg (by omega)]; try with_reducible rfl)
            rotate_left
            · simp only [Act.put, List.setIfInBounds_toArray, List.set_cons_zero, List.set_cons_succ, Bz, Cb]
              rfl
            refine Fv (i := 4) (N := some 15) (v := ?_) (a' := ?_) #[true, true, false, true, true, false, false, false] rfl rfl (Et HT_.out HW_.out (by kernel_rfl)) (fun _ _ _ h => h) (Or.inl ⟨by rfl, ?_⟩) hHeld ?_ ?_
            rotate_left
            · rintro w' ⟨s0, s1, s2, s3⟩
              go_simp
              first | with_reducible rfl | (rw [if_neg (by omega)]; try with_reducible rfl)
            rotate_left
            · simp only [Act.put, List.setIfInBounds_toArray, List.set_cons_zero, List.set_cons_succ, Bz, Cb]
              rfl
            refine one_ (i := 2) (N := some 13) #[true, true, true, true, true, false, false, false] rfl rfl (Gg HT_.out (by kernel_rfl)) (by decide) (fun K hK => ?_)
            refine Gn Tryd.func43 (by kernel_rfl) rfl #[.int .i64 a0_2] (by rfl) rfl rfl Yb_ ?_
            with_reducible refine (Em.calls a0_2 t181 _ ?side1 A3.out).mono ?_
            (case side1 => exact Eo.below HGL.out Yd_)
            rintro e w12 ⟨rfl, hb⟩
            refine ⟨_, rfl, ?_⟩
            have n0_ := Ac.mk (Ce (g := gb0) (o := .cells #[.int .i64 a0_0, .string a0_1, .int .i64 a0_2, .int .i64 a0_3] 27 (0, 0)) Ye_ hb)
            have n1_ := Ac.mk (Au Yd_ hb)
            clear BK0
            clear HB
            have BK0 := n0_
            have HB := n1_
            clear n0_ n1_
            (try clear hb)
            (try clear hb2)
            (try clear hk)
            (try clear hi)
            refine hK.out _ _ ⟨(Af BK0.out 0).trans rfl, (Af BK0.out 1).trans rfl, (Af BK0.out 2).trans rfl, (Af BK0.out 3).trans rfl⟩ (fun hHeld => ?_)
            clear hK K
            refine Gp (a' := ?_) ?_ ?_
            rotate_left
            · show Act.put _ (some 13) _ = _
              simp only [Act.put, List.setIfInBounds_toArray, List.set_cons_zero, List.set_cons_succ, Bz, Cb]
              rfl
            refine one_ (i := 5) (N := some 16) #[true, true, true, true, true, true, false, false] rfl rfl (Gg HT_.out (by kernel_rfl)) (by decide) (fun K hK => ?_)
            refine Gn Tryd.func43 (by kernel_rfl) rfl #[.int .i64 a0_3] (by rfl) rfl rfl Yb_ ?_
            with_reducible refine (Em.calls a0_3 t182 _ ?side1 A4.out).mono ?_
            (case side1 => exact Eo.below HGL.out Yd_)
            rintro e w13 ⟨rfl, hb⟩
            refine ⟨_, rfl, ?_⟩
            have n0_ := Ac.mk (Ce (g := gb0) (o := .cells #[.int .i64 a0_0, .string a0_1, .int .i64 a0_2, .int .i64 a0_3] 27 (0, 0)) Ye_ hb)
            have n1_ := Ac.mk (Au Yd_ hb)
            clear BK0
            clear HB
            have BK0 := n0_
            have HB := n1_
            clear n0_ n1_
            (try clear hb)
            (try clear hb2)
            (try clear hk)
            (try clear hi)
            refine hK.out _ _ ⟨(Af BK0.out 0).trans rfl, (Af BK0.out 1).trans rfl, (Af BK0.out 2).trans rfl, (Af BK0.out 3).trans rfl⟩ (fun hHeld => ?_)
            clear hK K
            refine Gp (a' := ?_) ?_ ?_
            rotate_left
            · show Act.put _ (some 16) _ = _
              simp only [Act.put, List.setIfInBounds_toArray, List.set_cons_zero, List.set_cons_succ, Bz, Cb]
              rfl
            refine Du (i := 6) (N := some 4) (v := ?_) (a' := ?_) #[true, true, true, true, true, true, true, false] rfl rfl (Di HT_.out (by kernel_rfl)) (fun _ _ _ h => h) (Or.inl ⟨by rfl, ?_⟩) ?_ ?_
            rotate_left
            · intro w'
              go_simp
              first | with_reducible rfl | (rw [if_neg (by omega)]; try with_reducible rfl)
            rotate_left
            · simp only [Act.put, List.setIfInBounds_toArray, List.set_cons_zero, List.set_cons_succ, Bz, Cb]
              rfl
            refine Du (i := 7) (N := some 5) (v := ?_) (a' := ?_) #[true, true, true, true, true, true, true, true] rfl rfl (Di HT_.out (by kernel_rfl)) (fun _ _ _ h => h) (Or.inl ⟨by rfl, ?_⟩) ?_ ?_
            rotate_left
            · intro w'
              go_simp
              first | with_reducible rfl | (rw [if_neg (by omega)]; try with_reducible rfl)
            rotate_left
            · simp only [Act.put, List.setIfInBounds_toArray, List.set_cons_zero, List.set_cons_succ, Bz, Cb]
              rfl
            refine done_ (Gv HT_.out (by kernel_rfl)) ?_
            have hcz14_0 : w13.cell? ⟨gb0, 0, none⟩ = some (.int .i64 a0_0) := (Af BK0.out 0).trans rfl
            have hcz14_1 : w13.cell? ⟨gb0, 1, none⟩ = some (.string a0_1) := (Af BK0.out 1).trans rfl
            have hcz14_2 : w13.cell? ⟨gb0, 2, none⟩ = some (.int .i64 a0_2) := (Af BK0.out 2).trans rfl
            have hcz14_3 : w13.cell? ⟨gb0, 3, none⟩ = some (.int .i64 a0_3) := (Af BK0.out 3).trans rfl
            have hfz14_0 := Ag BK0.out 0
            have hfz14_1 := Ag BK0.out 1
            have hfz14_2 := Ag BK0.out 2
            have hfz14_3 := Ag BK0.out 3
            try go_wp2
            go_ret
            exact ⟨by first | rfl | (simp [Aq, Ar] <;> rfl) | (simp [*, Aq, Ar] <;> rfl), by repeat (first | (with_reducible first | exact HB.out | apply Ae | apply Aa | apply Ad | refine Am ?_ GE0.out) | exact HB.out)⟩
          · rw [if_neg c8] at H
            exact absurd H (by simp)
        · rw [if_neg c7] at H
          exact absurd H (by simp)
      · rw [if_neg c6] at H
        exact absurd H (by simp)
    · rw [if_neg c5] at H
      have c5b0 : (a0_0 == 1) = false := beq_eq_false_iff_ne.mpr c5
      have c5b1 : (a0_0 != 1) = true := bne_iff_ne.mpr c5
      by_cases c15 : a0_0 = 2
      · rw [if_pos c15] at H
        have c15b0 : (a0_0 == 2) = true := beq_iff_eq.mpr c15
        have c15b1 : (a0_0 != 2) = false := bne_eq_false_iff_eq.mpr c15
        clear c15
        by_cases c16 : ((⟨#[67, 111, 110, 116, 97, 105, 110, 101, 114, 32]⟩ : ByteArray) ++ a0_1).size + 22 ≤ 9223372036854775807
        · rw [if_pos c16] at H
          have c16b0 := eq_true c16
          have c16b1 : decide (((⟨#[67, 111, 110, 116, 97, 105, 110, 101, 114, 32]⟩ : ByteArray) ++ a0_1).size + 22 ≤ 9223372036854775807) = true := decide_eq_true c16
          try have c16b2 : (9223372036854775807 < ((⟨#[67, 111, 110, 116, 97, 105, 110, 101, 114, 32]⟩ : ByteArray) ++ a0_1).size + 22) = False := eq_false (Nat.not_lt.2 c16)
          have c16z0 : (⟨#[67, 111, 110, 116, 97, 105, 110, 101, 114, 32]⟩ : ByteArray).size = 10 := rfl
          have c16b3 := c16
          try simp only [ByteArray.size_extract, ByteArray.size_append, c16z0] at c16b3
          have c16b4 := eq_false (Nat.not_lt.2 c16b3)
          by_cases c17 : (((⟨#[67, 111, 110, 116, 97, 105, 110, 101, 114, 32]⟩ : ByteArray) ++ a0_1) ++ (⟨#[32, 119, 97, 115, 32, 109, 111, 118, 101, 100, 32, 102, 114, 111, 109, 32, 115, 116, 97, 99, 107, 32]⟩ : ByteArray)).size + t181.size ≤ 9223372036854775807
          · rw [if_pos c17] at H
            have c17b0 := eq_true c17
            have c17b1 : decide ((((⟨#[67, 111, 110, 116, 97, 105, 110, 101, 114, 32]⟩ : ByteArray) ++ a0_1) ++ (⟨#[32, 119, 97, 115, 32, 109, 111, 118, 101, 100, 32, 102, 114, 111, 109, 32, 115, 116, 97, 99, 107, 32]⟩ : ByteArray)).size + t181.size ≤ 9223372036854775807) = true := decide_eq_true c17
            try have c17b2 : (9223372036854775807 < (((⟨#[67, 111, 110, 116, 97, 105, 110, 101, 114, 32]⟩ : ByteArray) ++ a0_1) ++ (⟨#[32, 119, 97, 115, 32, 109, 111, 118, 101, 100, 32, 102, 114, 111, 109, 32, 115, 116, 97, 99, 107, 32]⟩ : ByteArray)).size + t181.size) = False := eq_false (Nat.not_lt.2 c17)
            have c17z0 : (⟨#[32, 119, 97, 115, 32, 109, 111, 118, 101, 100, 32, 102, 114, 111, 109, 32, 115, 116, 97, 99, 107, 32]⟩ : ByteArray).size = 22 := rfl
            have c17z1 : (⟨#[67, 111, 110, 116, 97, 105, 110, 101, 114, 32]⟩ : ByteArray).size = 10 := rfl
            have c17b3 := c17
            try simp only [ByteArray.size_extract, ByteArray.size_append, c17z0, c17z1] at c17b3
            have c17b4 := eq_false (Nat.not_lt.2 c17b3)
            by_cases c18 : ((((⟨#[67, 111, 110, 116, 97, 105, 110, 101, 114, 32]⟩ : ByteArray) ++ a0_1) ++ (⟨#[32, 119, 97, 115, 32, 109, 111, 118, 101, 100, 32, 102, 114, 111, 109, 32, 115, 116, 97, 99, 107, 32]⟩ : ByteArray)) ++ t181).size + 10 ≤ 9223372036854775807
            · rw [if_pos c18] at H
              have c18b0 := eq_true c18
              have c18b1 : decide (((((⟨#[67, 111, 110, 116, 97, 105, 110, 101, 114, 32]⟩ : ByteArray) ++ a0_1) ++ (⟨#[32, 119, 97, 115, 32, 109, 111, 118, 101, 100, 32, 102, 114, 111, 109, 32, 115, 116, 97, 99, 107, 32]⟩ : ByteArray)) ++ t181).size + 10 ≤ 9223372036854775807) = true := decide_eq_true c18
              try have c18b2 : (9223372036854775807 < ((((⟨#[67, 111, 110, 116, 97, 105, 110, 101, 114, 32]⟩ : ByteArray) ++ a0_1) ++ (⟨#[32, 119, 97, 115, 32, 109, 111, 118, 101, 100, 32, 102, 114, 111, 109, 32, 115, 116, 97, 99, 107, 32]⟩ : ByteArray)) ++ t181).size + 10) = False := eq_false (Nat.not_lt.2 c18)
              have c18z0 : (⟨#[32, 119, 97, 115, 32, 109, 111, 118, 101, 100, 32, 102, 114, 111, 109, 32, 115, 116, 97, 99, 107, 32]⟩ : ByteArray).size = 22 := rfl
              have c18z1 : (⟨#[67, 111, 110, 116, 97, 105, 110, 101, 114, 32]⟩ : ByteArray).size = 10 := rfl
              have c18b3 := c18
              try simp only [ByteArray.size_extract, ByteArray.size_append, c18z0, c18z1] at c18b3
              have c18b4 := eq_false (Nat.not_lt.2 c18b3)
              by_cases c19 : (((((⟨#[67, 111, 110, 116, 97, 105, 110, 101, 114, 32]⟩ : ByteArray) ++ a0_1) ++ (⟨#[32, 119, 97, 115, 32, 109, 111, 118, 101, 100, 32, 102, 114, 111, 109, 32, 115, 116, 97, 99, 107, 32]⟩ : ByteArray)) ++ t181) ++ (⟨#[32, 116, 111, 32, 115, 116, 97, 99, 107, 32]⟩ : ByteArray)).size + t182.size ≤ 9223372036854775807
              · rw [if_pos c19] at H
                have c19b0 := eq_true c19
                have c19b1 : decide ((((((⟨#[67, 111, 110, 116, 97, 105, 110, 101, 114, 32]⟩ : ByteArray) ++ a0_1) ++ (⟨#[32, 119, 97, 115, 32, 109, 111, 118, 101, 100, 32, 102, 114, 111, 109, 32, 115, 116, 97, 99, 107, 32]⟩ : ByteArray)) ++ t181) ++ (⟨#[32, 116, 111, 32, 115, 116, 97, 99, 107, 32]⟩ : ByteArray)).size + t182.size ≤ 9223372036854775807) = true := decide_eq_true c19
                try have c19b2 : (9223372036854775807 < (((((⟨#[67, 111, 110, 116, 97, 105, 110, 101, 114, 32]⟩ : ByteArray) ++ a0_1) ++ (⟨#[32, 119, 97, 115, 32, 109, 111, 118, 101, 100, 32, 102, 114, 111, 109, 32, 115, 116, 97, 99, 107, 32]⟩ : ByteArray)) ++ t181) ++ (⟨#[32, 116, 111, 32, 115, 116, 97, 99, 107, 32]⟩ : ByteArray)).size + t182.size) = False := eq_false (Nat.not_lt.2 c19)
                have c19z0 : (⟨#[32, 116, 111, 32, 115, 116, 97, 99, 107, 32]⟩ : ByteArray).size = 10 := rfl
                have c19z1 : (⟨#[32, 119, 97, 115, 32, 109, 111, 118, 101, 100, 32, 102, 114, 111, 109, 32, 115, 116, 97, 99, 107, 32]⟩ : ByteArray).size = 22 := rfl
                have c19z2 : (⟨#[67, 111, 110, 116, 97, 105, 110, 101, 114, 32]⟩ : ByteArray).size = 10 := rfl
                have c19b3 := c19
                try simp only [ByteArray.size_extract, ByteArray.size_append, c19z0, c19z1, c19z2] at c19b3
                have c19b4 := eq_false (Nat.not_lt.2 c19b3)
                by_cases c20 : ((((((⟨#[67, 111, 110, 116, 97, 105, 110, 101, 114, 32]⟩ : ByteArray) ++ a0_1) ++ (⟨#[32, 119, 97, 115, 32, 109, 111, 118, 101, 100, 32, 102, 114, 111, 109, 32, 115, 116, 97, 99, 107, 32]⟩ : ByteArray)) ++ t181) ++ (⟨#[32, 116, 111, 32, 115, 116, 97, 99, 107, 32]⟩ : ByteArray)) ++ t182).size + 1 ≤ 9223372036854775807
                · rw [if_pos c20] at H
                  have c20b0 := eq_true c20
                  have c20b1 : decide (((((((⟨#[67, 111, 110, 116, 97, 105, 110, 101, 114, 32]⟩ : ByteArray) ++ a0_1) ++ (⟨#[32, 119, 97, 115, 32, 109, 111, 118, 101, 100, 32, 102, 114, 111, 109, 32, 115, 116, 97, 99, 107, 32]⟩ : ByteArray)) ++ t181) ++ (⟨#[32, 116, 111, 32, 115, 116, 97, 99, 107, 32]⟩ : ByteArray)) ++ t182).size + 1 ≤ 9223372036854775807) = true := decide_eq_true c20
                  try have c20b2 : (9223372036854775807 < ((((((⟨#[67, 111, 110, 116, 97, 105, 110, 101, 114, 32]⟩ : ByteArray) ++ a0_1) ++ (⟨#[32, 119, 97, 115, 32, 109, 111, 118, 101, 100, 32, 102, 114, 111, 109, 32, 115, 116, 97, 99, 107, 32]⟩ : ByteArray)) ++ t181) ++ (⟨#[32, 116, 111, 32, 115, 116, 97, 99, 107, 32]⟩ : ByteArray)) ++ t182).size + 1) = False := eq_false (Nat.not_lt.2 c20)
                  have c20z0 : (⟨#[32, 116, 111, 32, 115, 116, 97, 99, 107, 32]⟩ : ByteArray).size = 10 := rfl
                  have c20z1 : (⟨#[32, 119, 97, 115, 32, 109, 111, 118, 101, 100, 32, 102, 114, 111, 109, 32, 115, 116, 97, 99, 107, 32]⟩ : ByteArray).size = 22 := rfl
                  have c20z2 : (⟨#[67, 111, 110, 116, 97, 105, 110, 101, 114, 32]⟩ : ByteArray).size = 10 := rfl
                  have c20b3 := c20
                  try simp only [ByteArray.size_extract, ByteArray.size_append, c20z0, c20z1, c20z2] at c20b3
                  have c20b4 := eq_false (Nat.not_lt.2 c20b3)
                  obtain rfl := Option.some.inj H
                  go_enter Tryd.func26, Tryd.ntmps26
                  try go_wp2_with (first | ((with_reducible refine Dh (N := 1) rfl ?_); refine Dl ?hg (N := 1) ?hd (cs := #[.int .i64 a0_0, .string a0_1, .int .i64 a0_2, .int .i64 a0_3]) (t := 27) ?hr ?_; (case hd => rfl); (case hg => rfl); (case hr => first | (go_simp; done) | (go_simp; rfl)); intro gb0 hg w21 hbox hb; have n0_ := Ac.mk (Au Ya_ hb); have n1_ := Ac.mk (hbox); have n2_ := Ac.mk ((by rw [hg]; exact (Az Ya_) : w.heap.size ≤ gb0)); have n3_ := Ac.mk ((by rw [hg]; exact (Az Ya_) : w.heap.size ≤ gb0)); clear HB; have HB := n0_; have BK0 := n1_; have GW0 := n2_; have GE0 := n3_; clear n0_ n1_ n2_ n3_; clear hb hbox hg; have hcz22_0 : w21.cell? ⟨gb0, 0, none⟩ = some (.int .i64 a0_0) := (Af BK0.out 0).trans rfl; have hcz22_1 : w21.cell? ⟨gb0, 1, none⟩ = some (.string a0_1) := (Af BK0.out 1).trans rfl; have hcz22_2 : w21.cell? ⟨gb0, 2, none⟩ = some (.int .i64 a0_2) := (Af BK0.out 2).trans rfl; have hcz22_3 : w21.cell? ⟨gb0, 3, none⟩ = some (.int .i64 a0_3) := (Af BK0.out 3).trans rfl; have hfz22_0 := Ag BK0.out 0; have hfz22_1 := Ag BK0.out 1; have hfz22_2 := Ag BK0.out 2; have hfz22_3 := Ag BK0.out 3))
                  have n0_ := Ac.mk (Aj BK0.out)
                  have n1_ := Ac.mk (Ad HB.out)
                  clear BK0
                  clear HB
                  have BK0 := n0_
                  have HB := n1_
                  clear n0_ n1_
                  refine G7 (n := 8) (S := fun w' => w'.cell? ⟨gb0, 0, none⟩ = some (.int .i64 a0_0) ∧ w'.cell? ⟨gb0, 1, none⟩ = some (.string a0_1) ∧ w'.cell? ⟨gb0, 2, none⟩ = some (.int .i64 a0_2) ∧ w'.cell? ⟨gb0, 3, none⟩ = some (.int .i64 a0_3)) (ds := []) #[false, false, false, false, false, false, false, false] (by kernel_rfl) rfl rfl ⟨(Af BK0.out 0).trans rfl, (Af BK0.out 1).trans rfl, (Af BK0.out 2).trans rfl, (Af BK0.out 3).trans rfl⟩ (fun hHeld => ?_); refine Gf Dk.tab2 Dk.bits2 (fun HT_ HW_ => ?_)
                  generalize w21.drew = w23 at BK0 HB hHeld ⊢
                  refine Du (i := 0) (N := some 11) (v := ?_) (a' := ?_) #[true, false, false, false, false, false, false, false] rfl rfl (Di HT_.out (by kernel_rfl)) (fun _ _ _ h => h) (Or.inl ⟨by rfl, ?_⟩) ?_ ?_
                  rotate_left
                  · intro w'
                    go_simp
                    first | with_reducible rfl | (rw [if_neg (by omega)]; try with_reducible rfl)
                  rotate_left
                  · simp only [Act.put, List.setIfInBounds_toArray, List.set_cons_zero, List.set_cons_succ, Bz, Cb]
                    rfl
                  refine Du (i := 3) (N := some 14) (v := ?_) (a' := ?_) #[true, false, false, true, false, false, false, false] rfl rfl (Di HT_.out (by kernel_rfl)) (fun _ _ _ h => h) (Or.inl ⟨by rfl, ?_⟩) ?_ ?_
                  rotate_left
                  · intro w'
                    go_simp
                    first | with_reducible rfl | (rw [if_neg (by omega)]; try with_reducible rfl)
                  rotate_left
                  · simp only [Act.put, List.setIfInBounds_toArray, List.set_cons_zero, List.set_cons_succ, Bz, Cb]
                    rfl
                  refine Fv (i := 1) (N := some 12) (v := ?_) (a' := ?_) #[true, true, false, true, false, false, false, false] rfl rfl (Et HT_.out HW_.out (by kernel_rfl)) (fun _ _ _ h => h) (Or.inl ⟨by rfl, ?_⟩) hHeld ?_ ?_
                  rotate_left
                  · rintro w' ⟨s0, s1, s2, s3⟩
                    go_simp
                    first | with_reducible rfl | (rw [if_neg (by omega)]; try with_reducible rfl)
                  rotate_left
                  · simp only [Act.put, List.setIfInBounds_toArray, List.set_cons_zero, List.set_cons_succ, Bz, Cb]
                    rfl
                  refine Fv (i := 4) (N := some 15) (v := ?_) (a' := ?_) #[true, true, false, true, true, false, false, false] rfl rfl (Et HT_.out HW_.out (by kernel_rfl)) (fun _ _ _ h => h) (Or.inl ⟨by rfl, ?_⟩) hHeld ?_ ?_
                  rotate_left
                  · rintro w' ⟨s0, s1, s2, s3⟩
                    go_simp
                    first | with_reducible rfl | (rw [if_neg (by omega)]; try with_reducible rfl)
                  rotate_left
                  · simp only [Act.put, List.setIfInBounds_toArray, List.set_cons_zero, List.set_cons_succ, Bz, Cb]
                    rfl
                  refine one_ (i := 2) (N := some 13) #[true, true, true, true, true, false, false, false] rfl rfl (Gg HT_.out (by kernel_rfl)) (by decide) (fun K hK => ?_)
                  refine Gn Tryd.func43 (by kernel_rfl) rfl #[.int .i64 a0_2] (by rfl) rfl rfl Yb_ ?_
                  with_reducible refine (Em.calls a0_2 t181 _ ?side1 A3.out).mono ?_
                  (case side1 => exact Eo.below HGL.out Yd_)
                  rintro e w24 ⟨rfl, hb⟩
                  refine ⟨_, rfl, ?_⟩
                  have n0_ := Ac.mk (Ce (g := gb0) (o := .cells #[.int .i64 a0_0, .string a0_1, .int .i64 a0_2, .int .i64 a0_3] 27 (0, 0)) Ye_ hb)
                  have n1_ := Ac.mk (Au Yd_ hb)
                  clear BK0
                  clear HB
                  have BK0 := n0_
                  have HB := n1_
                  clear n0_ n1_
                  (try clear hb)
                  (try clear hb2)
                  (try clear hk)
                  (try clear hi)
                  refine hK.out _ _ ⟨(Af BK0.out 0).trans rfl, (Af BK0.out 1).trans rfl, (Af BK0.out 2).trans rfl, (Af BK0.out 3).trans rfl⟩ (fun hHeld => ?_)
                  clear hK K
                  refine Gp (a' := ?_) ?_ ?_
                  rotate_left
                  · show Act.put _ (some 13) _ = _
                    simp only [Act.put, List.setIfInBounds_toArray, List.set_cons_zero, List.set_cons_succ, Bz, Cb]
                    rfl
                  refine one_ (i := 5) (N := some 16) #[true, true, true, true, true, true, false, false] rfl rfl (Gg HT_.out (by kernel_rfl)) (by decide) (fun K hK => ?_)
                  refine Gn Tryd.func43 (by kernel_rfl) rfl #[.int .i64 a0_3] (by rfl) rfl rfl Yb_ ?_
                  with_reducible refine (Em.calls a0_3 t182 _ ?side1 A4.out).mono ?_
                  (case side1 => exact Eo.below HGL.out Yd_)
                  rintro e w25 ⟨rfl, hb⟩
                  refine ⟨_, rfl, ?_⟩
                  have n0_ := Ac.mk (Ce (g := gb0) (o := .cells #[.int .i64 a0_0, .string a0_1, .int .i64 a0_2, .int .i64 a0_3] 27 (0, 0)) Ye_ hb)
                  have n1_ := Ac.mk (Au Yd_ hb)
                  clear BK0
                  clear HB
                  have BK0 := n0_
                  have HB := n1_
                  clear n0_ n1_
                  (try clear hb)
                  (try clear hb2)
                  (try clear hk)
                  (try clear hi)
                  refine hK.out _ _ ⟨(Af BK0.out 0).trans rfl, (Af BK0.out 1).trans rfl, (Af BK0.out 2).trans rfl, (Af BK0.out 3).trans rfl⟩ (fun hHeld => ?_)
                  clear hK K
                  refine Gp (a' := ?_) ?_ ?_
                  rotate_left
                  · show Act.put _ (some 16) _ = _
                    simp only [Act.put, List.setIfInBounds_toArray, List.set_cons_zero, List.set_cons_succ, Bz, Cb]
                    rfl
                  refine Du (i := 6) (N := some 4) (v := ?_) (a' := ?_) #[true, true, true, true, true, true, true, false] rfl rfl (Di HT_.out (by kernel_rfl)) (fun _ _ _ h => h) (Or.inl ⟨by rfl, ?_⟩) ?_ ?_
                  rotate_left
                  · intro w'
                    go_simp
                    first | with_reducible rfl | (rw [if_neg (by omega)]; try with_reducible rfl)
                  rotate_left
                  · simp only [Act.put, List.setIfInBounds_toArray, List.set_cons_zero, List.set_cons_succ, Bz, Cb]
                    rfl
                  refine Du (i := 7) (N := some 5) (v := ?_) (a' := ?_) #[true, true, true, true, true, true, true, true] rfl rfl (Di HT_.out (by kernel_rfl)) (fun _ _ _ h => h) (Or.inl ⟨by rfl, ?_⟩) ?_ ?_
                  rotate_left
                  · intro w'
                    go_simp
                    first | with_reducible rfl | (rw [if_neg (by omega)]; try with_reducible rfl)
                  rotate_left
                  · simp only [Act.put, List.setIfInBounds_toArray, List.set_cons_zero, List.set_cons_succ, Bz, Cb]
                    rfl
                  refine done_ (Gv HT_.out (by kernel_rfl)) ?_
                  have hcz26_0 : w25.cell? ⟨gb0, 0, none⟩ = some (.int .i64 a0_0) := (Af BK0.out 0).trans rfl
                  have hcz26_1 : w25.cell? ⟨gb0, 1, none⟩ = some (.string a0_1) := (Af BK0.out 1).trans rfl
                  have hcz26_2 : w25.cell? ⟨gb0, 2, none⟩ = some (.int .i64 a0_2) := (Af BK0.out 2).trans rfl
                  have hcz26_3 : w25.cell? ⟨gb0, 3, none⟩ = some (.int .i64 a0_3) := (Af BK0.out 3).trans rfl
                  have hfz26_0 := Ag BK0.out 0
                  have hfz26_1 := Ag BK0.out 1
                  have hfz26_2 := Ag BK0.out 2
                  have hfz26_3 := Ag BK0.out 3
                  try go_wp2
                  go_ret
                  exact ⟨by first | rfl | (simp [Aq, Ar] <;> rfl) | (simp [*, Aq, Ar] <;> rfl), by repeat (first | (with_reducible first | exact HB.out | apply Ae | apply Aa | apply Ad | refine Am ?_ GE0.out) | exact HB.out)⟩
                · rw [if_neg c20] at H
                  exact absurd H (by simp)
              · rw [if_neg c19] at H
                exact absurd H (by simp)
            · rw [if_neg c18] at H
              exact absurd H (by simp)
          · rw [if_neg c17] at H
            exact absurd H (by simp)
        · rw [if_neg c16] at H
          exact absurd H (by simp)
      · rw [if_neg c15] at H
        have c15b0 : (a0_0 == 2) = false := beq_eq_false_iff_ne.mpr c15
        have c15b1 : (a0_0 != 2) = true := bne_iff_ne.mpr c15
        by_cases c27 : a0_0 = 3
        · rw [if_pos c27] at H
          have c27b0 : (a0_0 == 3) = true := beq_iff_eq.mpr c27
          have c27b1 : (a0_0 != 3) = false := bne_eq_false_iff_eq.mpr c27
          clear c27
          replace H := Option.bind_eq_some_iff.mp H
          obtain ⟨⟨t183, t184⟩, A280, H⟩ := H
          replace H : (if ((⟨#[67, 111, 110, 116, 97, 105, 110, 101, 114, 32]⟩ : ByteArray) ++ a0_1).size + 13 ≤ 9223372036854775807 then (if (((⟨#[67, 111, 110, 116, 97, 105, 110, 101, 114, 32]⟩ : ByteArray) ++ a0_1) ++ (⟨#[32, 105, 115, 32, 104, 101, 108, 100, 32, 102, 111, 114, 32]⟩ : ByteArray)).size + t183.size ≤ 9223372036854775807 then (if ((((⟨#[67, 111, 110, 116, 97, 105, 110, 101, 114, 32]⟩ : ByteArray) ++ a0_1) ++ (⟨#[32, 105, 115, 32, 104, 101, 108, 100, 32, 102, 111, 114, 32]⟩ : ByteArray)) ++ t183).size + 1 ≤ 9223372036854775807 then (some (((((⟨#[67, 111, 110, 116, 97, 105, 110, 101, 114, 32]⟩ : ByteArray) ++ a0_1) ++ (⟨#[32, 105, 115, 32, 104, 101, 108, 100, 32, 102, 111, 114, 32]⟩ : ByteArray)) ++ t183) ++ (⟨#[46]⟩ : ByteArray))) else (none)) else (none)) else (none)) = some r := H
          have A28 := Ac.mk A280
          clear A280
          by_cases c29 : ((⟨#[67, 111, 110, 116, 97, 105, 110, 101, 114, 32]⟩ : ByteArray) ++ a0_1).size + 13 ≤ 9223372036854775807
          · rw [if_pos c29] at H
            have c29b0 := eq_true c29
            have c29b1 : decide (((⟨#[67, 111, 110, 116, 97, 105, 110, 101, 114, 32]⟩ : ByteArray) ++ a0_1).size + 13 ≤ 9223372036854775807) = true := decide_eq_true c29
            try have c29b2 : (9223372036854775807 < ((⟨#[67, 111, 110, 116, 97, 105, 110, 101, 114, 32]⟩ : ByteArray) ++ a0_1).size + 13) = False := eq_false (Nat.not_lt.2 c29)
            have c29z0 : (⟨#[67, 111, 110, 116, 97, 105, 110, 101, 114, 32]⟩ : ByteArray).size = 10 := rfl
            have c29b3 := c29
            try simp only [ByteArray.size_extract, ByteArray.size_append, c29z0] at c29b3
            have c29b4 := eq_false (Nat.not_lt.2 c29b3)
            by_cases c30 : (((⟨#[67, 111, 110, 116, 97, 105, 110, 101, 114, 32]⟩ : ByteArray) ++ a0_1) ++ (⟨#[32, 105, 115, 32, 104, 101, 108, 100, 32, 102, 111, 114, 32]⟩ : ByteArray)).size + t183.size ≤ 9223372036854775807
            · rw [if_pos c30] at H
              have c30b0 := eq_true c30
              have c30b1 : decide ((((⟨#[67, 111, 110, 116, 97, 105, 110, 101, 114, 32]⟩ : ByteArray) ++ a0_1) ++ (⟨#[32, 105, 115, 32, 104, 101, 108, 100, 32, 102, 111, 114, 32]⟩ : ByteArray)).size + t183.size ≤ 9223372036854775807) = true := decide_eq_true c30
              try have c30b2 : (9223372036854775807 < (((⟨#[67, 111, 110, 116, 97, 105, 110, 101, 114, 32]⟩ : ByteArray) ++ a0_1) ++ (⟨#[32, 105, 115, 32, 104, 101, 108, 100, 32, 102, 111, 114, 32]⟩ : ByteArray)).size + t183.size) = False := eq_false (Nat.not_lt.2 c30)
              have c30z0 : (⟨#[32, 105, 115, 32, 104, 101, 108, 100, 32, 102, 111, 114, 32]⟩ : ByteArray).size = 13 := rfl
              have c30z1 : (⟨#[67, 111, 110, 116, 97, 105, 110, 101, 114, 32]⟩ : ByteArray).size = 10 := rfl
              have c30b3 := c30
              try simp only [ByteArray.size_extract, ByteArray.size_append, c30z0, c30z1] at c30b3
              have c30b4 := eq_false (Nat.not_lt.2 c30b3)
              by_cases c31 : ((((⟨#[67, 111, 110, 116, 97, 105, 110, 101, 114, 32]⟩ : ByteArray) ++ a0_1) ++ (⟨#[32, 105, 115, 32, 104, 101, 108, 100, 32, 102, 111, 114, 32]⟩ : ByteArray)) ++ t183).size + 1 ≤ 9223372036854775807
              · rw [if_pos c31] at H
                have c31b0 := eq_true c31
                have c31b1 : decide (((((⟨#[67, 111, 110, 116, 97, 105, 110, 101, 114, 32]⟩ : ByteArray) ++ a0_1) ++ (⟨#[32, 105, 115, 32, 104, 101, 108, 100, 32, 102, 111, 114, 32]⟩ : ByteArray)) ++ t183).size + 1 ≤ 9223372036854775807) = true := decide_eq_true c31
                try have c31b2 : (9223372036854775807 < ((((⟨#[67, 111, 110, 116, 97, 105, 110, 101, 114, 32]⟩ : ByteArray) ++ a0_1) ++ (⟨#[32, 105, 115, 32, 104, 101, 108, 100, 32, 102, 111, 114, 32]⟩ : ByteArray)) ++ t183).size + 1) = False := eq_false (Nat.not_lt.2 c31)
                have c31z0 : (⟨#[32, 105, 115, 32, 104, 101, 108, 100, 32, 102, 111, 114, 32]⟩ : ByteArray).size = 13 := rfl
                have c31z1 : (⟨#[67, 111, 110, 116, 97, 105, 110, 101, 114, 32]⟩ : ByteArray).size = 10 := rfl
                have c31b3 := c31
                try simp only [ByteArray.size_extract, ByteArray.size_append, c31z0, c31z1] at c31b3
                have c31b4 := eq_false (Nat.not_lt.2 c31b3)
                obtain rfl := Option.some.inj H
                go_enter Tryd.func26, Tryd.ntmps26
                try go_wp2_with (first | ((with_reducible refine Dh (N := 1) rfl ?_); refine Dl ?hg (N := 1) ?hd (cs := #[.int .i64 a0_0, .string a0_1, .int .i64 a0_2, .int .i64 a0_3]) (t := 27) ?hr ?_; (case hd => rfl); (case hg => rfl); (case hr => first | (go_simp; done) | (go_simp; rfl)); intro gb0 hg w32 hbox hb; have n0_ := Ac.mk (Au Ya_ hb); have n1_ := Ac.mk (hbox); have n2_ := Ac.mk ((by rw [hg]; exact (Az Ya_) : w.heap.size ≤ gb0)); have n3_ := Ac.mk ((by rw [hg]; exact (Az Ya_) : w.heap.size ≤ gb0)); clear HB; have HB := n0_; have BK0 := n1_; have GW0 := n2_; have GE0 := n3_; clear n0_ n1_ n2_ n3_; clear hb hbox hg; have hcz33_0 : w32.cell? ⟨gb0, 0, none⟩ = some (.int .i64 a0_0) := (Af BK0.out 0).trans rfl; have hcz33_1 : w32.cell? ⟨gb0, 1, none⟩ = some (.string a0_1) := (Af BK0.out 1).trans rfl; have hcz33_2 : w32.cell? ⟨gb0, 2, none⟩ = some (.int .i64 a0_2) := (Af BK0.out 2).trans rfl; have hcz33_3 : w32.cell? ⟨gb0, 3, none⟩ = some (.int .i64 a0_3) := (Af BK0.out 3).trans rfl; have hfz33_0 := Ag BK0.out 0; have hfz33_1 := Ag BK0.out 1; have hfz33_2 := Ag BK0.out 2; have hfz33_3 := Ag BK0.out 3))
                have n0_ := Ac.mk (Aj BK0.out)
                have n1_ := Ac.mk (Ad HB.out)
                clear BK0
                clear HB
                have BK0 := n0_
                have HB := n1_
                clear n0_ n1_
                refine G7 (n := 8) (S := fun w' => w'.cell? ⟨gb0, 0, none⟩ = some (.int .i64 a0_0) ∧ w'.cell? ⟨gb0, 1, none⟩ = some (.string a0_1) ∧ w'.cell? ⟨gb0, 2, none⟩ = some (.int .i64 a0_2) ∧ w'.cell? ⟨gb0, 3, none⟩ = some (.int .i64 a0_3)) (ds := []) #[false, false, false, false, false, false, false, false] (by kernel_rfl) rfl rfl ⟨(Af BK0.out 0).trans rfl, (Af BK0.out 1).trans rfl, (Af BK0.out 2).trans rfl, (Af BK0.out 3).trans rfl⟩ (fun hHeld => ?_); refine Gf Dk.tab2 Dk.bits2 (fun HT_ HW_ => ?_)
                generalize w32.drew = w34 at BK0 HB hHeld ⊢
                refine Du (i := 0) (N := some 11) (v := ?_) (a' := ?_) #[true, false, false, false, false, false, false, false] rfl rfl (Di HT_.out (by kernel_rfl)) (fun _ _ _ h => h) (Or.inl ⟨by rfl, ?_⟩) ?_ ?_
                rotate_left
                · intro w'
                  go_simp
                  first | with_reducible rfl | (rw [if_neg (by omega)]; try with_reducible rfl)
                rotate_left
                · simp only [Act.put, List.setIfInBounds_toArray, List.set_cons_zero, List.set_cons_succ, Bz, Cb]
                  rfl
                refine Du (i := 3) (N := some 14) (v := ?_) (a' := ?_) #[true, false, false, true, false, false, false, false] rfl rfl (Di HT_.out (by kernel_rfl)) (fun _ _ _ h => h) (Or.inl ⟨by rfl, ?_⟩) ?_ ?_
                rotate_left
                · intro w'
                  go_simp
                  first | with_reducible rfl | (rw [if_neg (by omega)]; try with_reducible rfl)
                rotate_left
                · simp only [Act.put, List.setIfInBounds_toArray, List.set_cons_zero, List.set_cons_succ, Bz, Cb]
                  rfl
                refine Fv (i := 1) (N := some 12) (v := ?_) (a' := ?_) #[true, true, false, true, false, false, false, false] rfl rfl (Et HT_.out HW_.out (by kernel_rfl)) (fun _ _ _ h => h) (Or.inl ⟨by rfl, ?_⟩) hHeld ?_ ?_
                rotate_left
                · rintro w' ⟨s0, s1, s2, s3⟩
                  go_simp
                  first | with_reducible rfl | (rw [if_neg (by omega)]; try with_reducible rfl)
                rotate_left
                · simp only [Act.put, List.setIfInBounds_toArray, List.set_cons_zero, List.set_cons_succ, Bz, Cb]
                  rfl
                refine Fv (i := 4) (N := some 15) (v := ?_) (a' := ?_) #[true, true, false, true, true, false, false, false] rfl rfl (Et HT_.out HW_.out (by kernel_rfl)) (fun _ _ _ h => h) (Or.inl ⟨by rfl, ?_⟩) hHeld ?_ ?_
                rotate_left
                · rintro w' ⟨s0, s1, s2, s3⟩
                  go_simp
                  first | with_reducible rfl | (rw [if_neg (by omega)]; try with_reducible rfl)
                rotate_left
                · simp only [Act.put, List.setIfInBounds_toArray, List.set_cons_zero, List.set_cons_succ, Bz, Cb]
                  rfl
                refine one_ (i := 2) (N := some 13) #[true, true, true, true, true, false, false, false] rfl rfl (Gg HT_.out (by kernel_rfl)) (by decide) (fun K hK => ?_)
                refine Gn Tryd.func43 (by kernel_rfl) rfl #[.int .i64 a0_2] (by rfl) rfl rfl Yb_ ?_
                with_reducible refine (Em.calls a0_2 t181 _ ?side1 A3.out).mono ?_
                (case side1 => exact Eo.below HGL.out Yd_)
                rintro e w35 ⟨rfl, hb⟩
                refine ⟨_, rfl, ?_⟩
                have n0_ := Ac.mk (Ce (g := gb0) (o := .cells #[.int .i64 a0_0, .string a0_1, .int .i64 a0_2, .int .i64 a0_3] 27 (0, 0)) Ye_ hb)
                have n1_ := Ac.mk (Au Yd_ hb)
                clear BK0
                clear HB
                have BK0 := n0_
                have HB := n1_
                clear n0_ n1_
                (try clear hb)
                (try clear hb2)
                (try clear hk)
                (try clear hi)
                refine hK.out _ _ ⟨(Af BK0.out 0).trans rfl, (Af BK0.out 1).trans rfl, (Af BK0.out 2).trans rfl, (Af BK0.out 3).trans rfl⟩ (fun hHeld => ?_)
                clear hK K
                refine Gp (a' := ?_) ?_ ?_
                rotate_left
                · show Act.put _ (some 13) _ = _
                  simp only [Act.put, List.setIfInBounds_toArray, List.set_cons_zero, List.set_cons_succ, Bz, Cb]
                  rfl
                refine one_ (i := 5) (N := some 16) #[true, true, true, true, true, true, false, false] rfl rfl (Gg HT_.out (by kernel_rfl)) (by decide) (fun K hK => ?_)
                refine Gn Tryd.func43 (by kernel_rfl) rfl #[.int .i64 a0_3] (by rfl) rfl rfl Yb_ ?_
                with_reducible refine (Em.calls a0_3 t182 _ ?side1 A4.out).mono ?_
                (case side1 => exact Eo.below HGL.out Yd_)
                rintro e w36 ⟨rfl, hb⟩
                refine ⟨_, rfl, ?_⟩
                have n0_ := Ac.mk (Ce (g := gb0) (o := .cells #[.int .i64 a0_0, .string a0_1, .int .i64 a0_2, .int .i64 a0_3] 27 (0, 0)) Ye_ hb)
                have n1_ := Ac.mk (Au Yd_ hb)
                clear BK0
                clear HB
                have BK0 := n0_
                have HB := n1_
                clear n0_ n1_
                (try clear hb)
                (try clear hb2)
                (try clear hk)
                (try clear hi)
                refine hK.out _ _ ⟨(Af BK0.out 0).trans rfl, (Af BK0.out 1).trans rfl, (Af BK0.out 2).trans rfl, (Af BK0.out 3).trans rfl⟩ (fun hHeld => ?_)
                clear hK K
                refine Gp (a' := ?_) ?_ ?_
                rotate_left
                · show Act.put _ (some 16) _ = _
                  simp only [Act.put, List.setIfInBounds_toArray, List.set_cons_zero, List.set_cons_succ, Bz, Cb]
                  rfl
                refine Du (i := 6) (N := some 4) (v := ?_) (a' := ?_) #[true, true, true, true, true, true, true, false] rfl rfl (Di HT_.out (by kernel_rfl)) (fun _ _ _ h => h) (Or.inl ⟨by rfl, ?_⟩) ?_ ?_
                rotate_left
                · intro w'
                  go_simp
                  first | with_reducible rfl | (rw [if_neg (by omega)]; try with_reducible rfl)
                rotate_left
                · simp only [Act.put, List.setIfInBounds_toArray, List.set_cons_zero, List.set_cons_succ, Bz, Cb]
                  rfl
                refine Du (i := 7) (N := some 5) (v := ?_) (a' := ?_) #[true, true, true, true, true, true, true, true] rfl rfl (Di HT_.out (by kernel_rfl)) (fun _ _ _ h => h) (Or.inl ⟨by rfl, ?_⟩) ?_ ?_
                rotate_left
                · intro w'
                  go_simp
                  first | with_reducible rfl | (rw [if_neg (by omega)]; try with_reducible rfl)
                rotate_left
                · simp only [Act.put, List.setIfInBounds_toArray, List.set_cons_zero, List.set_cons_succ, Bz, Cb]
                  rfl
                refine done_ (Gv HT_.out (by kernel_rfl)) ?_
                have hcz37_0 : w36.cell? ⟨gb0, 0, none⟩ = some (.int .i64 a0_0) := (Af BK0.out 0).trans rfl
                have hcz37_1 : w36.cell? ⟨gb0, 1, none⟩ = some (.string a0_1) := (Af BK0.out 1).trans rfl
                have hcz37_2 : w36.cell? ⟨gb0, 2, none⟩ = some (.int .i64 a0_2) := (Af BK0.out 2).trans rfl
                have hcz37_3 : w36.cell? ⟨gb0, 3, none⟩ = some (.int .i64 a0_3) := (Af BK0.out 3).trans rfl
                have hfz37_0 := Ag BK0.out 0
                have hfz37_1 := Ag BK0.out 1
                have hfz37_2 := Ag BK0.out 2
                have hfz37_3 := Ag BK0.out 3
                try go_wp2_with (first | ((with_reducible refine Aw (f := 44) rfl ?_); refine Bj (some 41) rfl rfl Tryd.func44 (by kernel_rfl) rfl #[.int .i64 a0_2] rfl Yb_ ?_; (with_reducible refine (Dt.calls k a0_2 t183 t184 _ A28.out).mono ?_); rintro e w38 ⟨rfl, hb⟩; refine ⟨_, rfl, ?_⟩; have n0_ := Ac.mk (Ce (g := gb0) (o := .cells #[.int .i64 a0_0, .string a0_1, .int .i64 a0_2, .int .i64 a0_3] 27 (0, 0)) Ye_ hb); have n1_ := Ac.mk (Au Yd_ hb); clear BK0; clear HB; have BK0 := n0_; have HB := n1_; clear n0_ n1_; (try clear hb); (try clear hb2); (try clear hk); (try clear hi)))
                go_ret
                exact ⟨by first | rfl | (simp [Aq, Ar] <;> rfl) | (simp [*, Aq, Ar] <;> rfl), by repeat (first | (with_reducible first | exact HB.out | apply Ae | apply Aa | apply Ad | refine Am ?_ GE0.out) | exact HB.out)⟩
              · rw [if_neg c31] at H
                exact absurd H (by simp)
            · rw [if_neg c30] at H
              exact absurd H (by simp)
          · rw [if_neg c29] at H
            exact absurd H (by simp)
        · rw [if_neg c27] at H
          have c27b0 : (a0_0 == 3) = false := beq_eq_false_iff_ne.mpr c27
          have c27b1 : (a0_0 != 3) = true := bne_iff_ne.mpr c27
          by_cases c39 : a0_0 = 4
          · rw [if_pos c39] at H
            have c39b0 : (a0_0 == 4) = true := beq_iff_eq.mpr c39
            have c39b1 : (a0_0 != 4) = false := bne_eq_false_iff_eq.mpr c39
            clear c39
            by_cases c40 : ((⟨#[67, 111, 110, 116, 97, 105, 110, 101, 114, 32]⟩ : ByteArray) ++ a0_1).size + 29 ≤ 9223372036854775807
            · rw [if_pos c40] at H
              have c40b0 := eq_true c40
              have c40b1 : decide (((⟨#[67, 111, 110, 116, 97, 105, 110, 101, 114, 32]⟩ : ByteArray) ++ a0_1).size + 29 ≤ 9223372036854775807) = true := decide_eq_true c40
              try have c40b2 : (9223372036854775807 < ((⟨#[67, 111, 110, 116, 97, 105, 110, 101, 114, 32]⟩ : ByteArray) ++ a0_1).size + 29) = False := eq_false (Nat.not_lt.2 c40)
              have c40z0 : (⟨#[67, 111, 110, 116, 97, 105, 110, 101, 114, 32]⟩ : ByteArray).size = 10 := rfl
              have c40b3 := c40
              try simp only [ByteArray.size_extract, ByteArray.size_append, c40z0] at c40b3
              have c40b4 := eq_false (Nat.not_lt.2 c40b3)
              by_cases c41 : (((⟨#[67, 111, 110, 116, 97, 105, 110, 101, 114, 32]⟩ : ByteArray) ++ a0_1) ++ (⟨#[32, 105, 115, 32, 114, 101, 97, 100, 121, 32, 102, 111, 114, 32, 112, 105, 99, 107, 117, 112, 32, 105, 110, 32, 115, 108, 111, 116, 32]⟩ : ByteArray)).size + t181.size ≤ 9223372036854775807
              · rw [if_pos c41] at H
                have c41b0 := eq_true c41
                have c41b1 : decide ((((⟨#[67, 111, 110, 116, 97, 105, 110, 101, 114, 32]⟩ : ByteArray) ++ a0_1) ++ (⟨#[32, 105, 115, 32, 114, 101, 97, 100, 121, 32, 102, 111, 114, 32, 112, 105, 99, 107, 117, 112, 32, 105, 110, 32, 115, 108, 111, 116, 32]⟩ : ByteArray)).size + t181.size ≤ 9223372036854775807) = true := decide_eq_true c41
                try have c41b2 : (9223372036854775807 < (((⟨#[67, 111, 110, 116, 97, 105, 110, 101, 114, 32]⟩ : ByteArray) ++ a0_1) ++ (⟨#[32, 105, 115, 32, 114, 101, 97, 100, 121, 32, 102, 111, 114, 32, 112, 105, 99, 107, 117, 112, 32, 105, 110, 32, 115, 108, 111, 116, 32]⟩ : ByteArray)).size + t181.size) = False := eq_false (Nat.not_lt.2 c41)
                have c41z0 : (⟨#[32, 105, 115, 32, 114, 101, 97, 100, 121, 32, 102, 111, 114, 32, 112, 105, 99, 107, 117, 112, 32, 105, 110, 32, 115, 108, 111, 116, 32]⟩ : ByteArray).size = 29 := rfl
                have c41z1 : (⟨#[67, 111, 110, 116, 97, 105, 110, 101, 114, 32]⟩ : ByteArray).size = 10 := rfl
                have c41b3 := c41
                try simp only [ByteArray.size_extract, ByteArray.size_append, c41z0, c41z1] at c41b3
                have c41b4 := eq_false (Nat.not_lt.2 c41b3)
                by_cases c42 : ((((⟨#[67, 111, 110, 116, 97, 105, 110, 101, 114, 32]⟩ : ByteArray) ++ a0_1) ++ (⟨#[32, 105, 115, 32, 114, 101, 97, 100, 121, 32, 102, 111, 114, 32, 112, 105, 99, 107, 117, 112, 32, 105, 110, 32, 115, 108, 111, 116, 32]⟩ : ByteArray)) ++ t181).size + 1 ≤ 9223372036854775807
                · rw [if_pos c42] at H
                  have c42b0 := eq_true c42
                  have c42b1 : decide (((((⟨#[67, 111, 110, 116, 97, 105, 110, 101, 114, 32]⟩ : ByteArray) ++ a0_1) ++ (⟨#[32, 105, 115, 32, 114, 101, 97, 100, 121, 32, 102, 111, 114, 32, 112, 105, 99, 107, 117, 112, 32, 105, 110, 32, 115, 108, 111, 116, 32]⟩ : ByteArray)) ++ t181).size + 1 ≤ 9223372036854775807) = true := decide_eq_true c42
                  try have c42b2 : (9223372036854775807 < ((((⟨#[67, 111, 110, 116, 97, 105, 110, 101, 114, 32]⟩ : ByteArray) ++ a0_1) ++ (⟨#[32, 105, 115, 32, 114, 101, 97, 100, 121, 32, 102, 111, 114, 32, 112, 105, 99, 107, 117, 112, 32, 105, 110, 32, 115, 108, 111, 116, 32]⟩ : ByteArray)) ++ t181).size + 1) = False := eq_false (Nat.not_lt.2 c42)
                  have c42z0 : (⟨#[32, 105, 115, 32, 114, 101, 97, 100, 121, 32, 102, 111, 114, 32, 112, 105, 99, 107, 117, 112, 32, 105, 110, 32, 115, 108, 111, 116, 32]⟩ : ByteArray).size = 29 := rfl
                  have c42z1 : (⟨#[67, 111, 110, 116, 97, 105, 110, 101, 114, 32]⟩ : ByteArray).size = 10 := rfl
                  have c42b3 := c42
                  try simp only [ByteArray.size_extract, ByteArray.size_append, c42z0, c42z1] at c42b3
                  have c42b4 := eq_false (Nat.not_lt.2 c42b3)
                  obtain rfl := Option.some.inj H
                  go_enter Tryd.func26, Tryd.ntmps26
                  try go_wp2_with (first | ((with_reducible refine Dh (N := 1) rfl ?_); refine Dl ?hg (N := 1) ?hd (cs := #[.int .i64 a0_0, .string a0_1, .int .i64 a0_2, .int .i64 a0_3]) (t := 27) ?hr ?_; (case hd => rfl); (case hg => rfl); (case hr => first | (go_simp; done) | (go_simp; rfl)); intro gb0 hg w43 hbox hb; have n0_ := Ac.mk (Au Ya_ hb); have n1_ := Ac.mk (hbox); have n2_ := Ac.mk ((by rw [hg]; exact (Az Ya_) : w.heap.size ≤ gb0)); have n3_ := Ac.mk ((by rw [hg]; exact (Az Ya_) : w.heap.size ≤ gb0)); clear HB; have HB := n0_; have BK0 := n1_; have GW0 := n2_; have GE0 := n3_; clear n0_ n1_ n2_ n3_; clear hb hbox hg; have hcz44_0 : w43.cell? ⟨gb0, 0, none⟩ = some (.int .i64 a0_0) := (Af BK0.out 0).trans rfl; have hcz44_1 : w43.cell? ⟨gb0, 1, none⟩ = some (.string a0_1) := (Af BK0.out 1).trans rfl; have hcz44_2 : w43.cell? ⟨gb0, 2, none⟩ = some (.int .i64 a0_2) := (Af BK0.out 2).trans rfl; have hcz44_3 : w43.cell? ⟨gb0, 3, none⟩ = some (.int .i64 a0_3) := (Af BK0.out 3).trans rfl; have hfz44_0 := Ag BK0.out 0; have hfz44_1 := Ag BK0.out 1; have hfz44_2 := Ag BK0.out 2; have hfz44_3 := Ag BK0.out 3))
                  have n0_ := Ac.mk (Aj BK0.out)
                  have n1_ := Ac.mk (Ad HB.out)
                  clear BK0
                  clear HB
                  have BK0 := n0_
                  have HB := n1_
                  clear n0_ n1_
                  refine G7 (n := 8) (S := fun w' => w'.cell? ⟨gb0, 0, none⟩ = some (.int .i64 a0_0) ∧ w'.cell? ⟨gb0, 1, none⟩ = some (.string a0_1) ∧ w'.cell? ⟨gb0, 2, none⟩ = some (.int .i64 a0_2) ∧ w'.cell? ⟨gb0, 3, none⟩ = some (.int .i64 a0_3)) (ds := []) #[false, false, false, false, false, false, false, false] (by kernel_rfl) rfl rfl ⟨(Af BK0.out 0).trans rfl, (Af BK0.out 1).trans rfl, (Af BK0.out 2).trans rfl, (Af BK0.out 3).trans rfl⟩ (fun hHeld => ?_); refine Gf Dk.tab2 Dk.bits2 (fun HT_ HW_ => ?_)
                  generalize w43.drew = w45 at BK0 HB hHeld ⊢
                  refine Du (i := 0) (N := some 11) (v := ?_) (a' := ?_) #[true, false, false, false, false, false, false, false] rfl rfl (Di HT_.out (by kernel_rfl)) (fun _ _ _ h => h) (Or.inl ⟨by rfl, ?_⟩) ?_ ?_
                  rotate_left
                  · intro w'
                    go_simp
                    first | with_reducible rfl | (rw [if_neg (by omega)]; try with_reducible rfl)
                  rotate_left
                  · simp only [Act.put, List.setIfInBounds_toArray, List.set_cons_zero, List.set_cons_succ, Bz, Cb]
                    rfl
                  refine Du (i := 3) (N := some 14) (v := ?_) (a' := ?_) #[true, false, false, true, false, false, false, false] rfl rfl (Di HT_.out (by kernel_rfl)) (fun _ _ _ h => h) (Or.inl ⟨by rfl, ?_⟩) ?_ ?_
                  rotate_left
                  · intro w'
                    go_simp
                    first | with_reducible rfl | (rw [if_neg (by omega)]; try with_reducible rfl)
                  rotate_left
                  · simp only [Act.put, List.setIfInBounds_toArray, List.set_cons_zero, List.set_cons_succ, Bz, Cb]
                    rfl
                  refine Fv (i := 1) (N := some 12) (v := ?_) (a' := ?_) #[true, true, false, true, false, false, false, false] rfl rfl (Et HT_.out HW_.out (by kernel_rfl)) (fun _ _ _ h => h) (Or.inl ⟨by rfl, ?_⟩) hHeld ?_ ?_
                  rotate_left
                  · rintro w' ⟨s0, s1, s2, s3⟩
                    go_simp
                    first | with_reducible rfl | (rw [if_neg (by omega)]; try with_reducible rfl)
                  rotate_left
                  · simp only [Act.put, List.setIfInBounds_toArray, List.set_cons_zero, List.set_cons_succ, Bz, Cb]
                    rfl
                  refine Fv (i := 4) (N := some 15) (v := ?_) (a' := ?_) #[true, true, false, true, true, false, false, false] rfl rfl (Et HT_.out HW_.out (by kernel_rfl)) (fun _ _ _ h => h) (Or.inl ⟨by rfl, ?_⟩) hHeld ?_ ?_
                  rotate_left
                  · rintro w' ⟨s0, s1, s2, s3⟩
                    go_simp
                    first | with_reducible rfl | (rw [if_neg (by omega)]; try with_reducible rfl)
                  rotate_left
                  · simp only [Act.put, List.setIfInBounds_toArray, List.set_cons_zero, List.set_cons_succ, Bz, Cb]
                    rfl
                  refine one_ (i := 2) (N := some 13) #[true, true, true, true, true, false, false, false] rfl rfl (Gg HT_.out (by kernel_rfl)) (by decide) (fun K hK => ?_)
                  refine Gn Tryd.func43 (by kernel_rfl) rfl #[.int .i64 a0_2] (by rfl) rfl rfl Yb_ ?_
                  with_reducible refine (Em.calls a0_2 t181 _ ?side1 A3.out).mono ?_
                  (case side1 => exact Eo.below HGL.out Yd_)
                  rintro e w46 ⟨rfl, hb⟩
                  refine ⟨_, rfl, ?_⟩
                  have n0_ := Ac.mk (Ce (g := gb0) (o := .cells #[.int .i64 a0_0, .string a0_1, .int .i64 a0_2, .int .i64 a0_3] 27 (0, 0)) Ye_ hb)
                  have n1_ := Ac.mk (Au Yd_ hb)
                  clear BK0
                  clear HB
                  have BK0 := n0_
                  have HB := n1_
                  clear n0_ n1_
                  (try clear hb)
                  (try clear hb2)
                  (try clear hk)
                  (try clear hi)
                  refine hK.out _ _ ⟨(Af BK0.out 0).trans rfl, (Af BK0.out 1).trans rfl, (Af BK0.out 2).trans rfl, (Af BK0.out 3).trans rfl⟩ (fun hHeld => ?_)
                  clear hK K
                  refine Gp (a' := ?_) ?_ ?_
                  rotate_left
                  · show Act.put _ (some 13) _ = _
                    simp only [Act.put, List.setIfInBounds_toArray, List.set_cons_zero, List.set_cons_succ, Bz, Cb]
                    rfl
                  refine one_ (i := 5) (N := some 16) #[true, true, true, true, true, true, false, false] rfl rfl (Gg HT_.out (by kernel_rfl)) (by decide) (fun K hK => ?_)
                  refine Gn Tryd.func43 (by kernel_rfl) rfl #[.int .i64 a0_3] (by rfl) rfl rfl Yb_ ?_
                  with_reducible refine (Em.calls a0_3 t182 _ ?side1 A4.out).mono ?_
                  (case side1 => exact Eo.below HGL.out Yd_)
                  rintro e w47 ⟨rfl, hb⟩
                  refine ⟨_, rfl, ?_⟩
                  have n0_ := Ac.mk (Ce (g := gb0) (o := .cells #[.int .i64 a0_0, .string a0_1, .int .i64 a0_2, .int .i64 a0_3] 27 (0, 0)) Ye_ hb)
                  have n1_ := Ac.mk (Au Yd_ hb)
                  clear BK0
                  clear HB
                  have BK0 := n0_
                  have HB := n1_
                  clear n0_ n1_
                  (try clear hb)
                  (try clear hb2)
                  (try clear hk)
                  (try clear hi)
                  refine hK.out _ _ ⟨(Af BK0.out 0).trans rfl, (Af BK0.out 1).trans rfl, (Af BK0.out 2).trans rfl, (Af BK0.out 3).trans rfl⟩ (fun hHeld => ?_)
                  clear hK K
                  refine Gp (a' := ?_) ?_ ?_
                  rotate_left
                  · show Act.put _ (some 16) _ = _
                    simp only [Act.put, List.setIfInBounds_toArray, List.set_cons_zero, List.set_cons_succ, Bz, Cb]
                    rfl
                  refine Du (i := 6) (N := some 4) (v := ?_) (a' := ?_) #[true, true, true, true, true, true, true, false] rfl rfl (Di HT_.out (by kernel_rfl)) (fun _ _ _ h => h) (Or.inl ⟨by rfl, ?_⟩) ?_ ?_
                  rotate_left
                  · intro w'
                    go_simp
                    first | with_reducible rfl | (rw [if_neg (by omega)]; try with_reducible rfl)
                  rotate_left
                  · simp only [Act.put, List.setIfInBounds_toArray, List.set_cons_zero, List.set_cons_succ, Bz, Cb]
                    rfl
                  refine Du (i := 7) (N := some 5) (v := ?_) (a' := ?_) #[true, true, true, true, true, true, true, true] rfl rfl (Di HT_.out (by kernel_rfl)) (fun _ _ _ h => h) (Or.inl ⟨by rfl, ?_⟩) ?_ ?_
                  rotate_left
                  · intro w'
                    go_simp
                    first | with_reducible rfl | (rw [if_neg (by omega)]; try with_reducible rfl)
                  rotate_left
                  · simp only [Act.put, List.setIfInBounds_toArray, List.set_cons_zero, List.set_cons_succ, Bz, Cb]
                    rfl
                  refine done_ (Gv HT_.out (by kernel_rfl)) ?_
                  have hcz48_0 : w47.cell? ⟨gb0, 0, none⟩ = some (.int .i64 a0_0) := (Af BK0.out 0).trans rfl
                  have hcz48_1 : w47.cell? ⟨gb0, 1, none⟩ = some (.string a0_1) := (Af BK0.out 1).trans rfl
                  have hcz48_2 : w47.cell? ⟨gb0, 2, none⟩ = some (.int .i64 a0_2) := (Af BK0.out 2).trans rfl
                  have hcz48_3 : w47.cell? ⟨gb0, 3, none⟩ = some (.int .i64 a0_3) := (Af BK0.out 3).trans rfl
                  have hfz48_0 := Ag BK0.out 0
                  have hfz48_1 := Ag BK0.out 1
                  have hfz48_2 := Ag BK0.out 2
                  have hfz48_3 := Ag BK0.out 3
                  try go_wp2
                  go_ret
                  exact ⟨by first | rfl | (simp [Aq, Ar] <;> rfl) | (simp [*, Aq, Ar] <;> rfl), by repeat (first | (with_reducible first | exact HB.out | apply Ae | apply Aa | apply Ad | refine Am ?_ GE0.out) | exact HB.out)⟩
                · rw [if_neg c42] at H
                  exact absurd H (by simp)
              · rw [if_neg c41] at H
                exact absurd H (by simp)
            · rw [if_neg c40] at H
              exact absurd H (by simp)
          · rw [if_neg c39] at H
            have c39b0 : (a0_0 == 4) = false := beq_eq_false_iff_ne.mpr c39
            have c39b1 : (a0_0 != 4) = true := bne_iff_ne.mpr c39
            by_cases c49 : a0_3 = 1
            · rw [if_pos c49] at H
              have c49b0 : (a0_3 == 1) = true := beq_iff_eq.mpr c49
              have c49b1 : (a0_3 != 1) = false := bne_eq_false_iff_eq.mpr c49
              clear c49
              by_cases c50 : ((⟨#[67, 111, 110, 116, 97, 105, 110, 101, 114, 32]⟩ : ByteArray) ++ a0_1).size + 6 ≤ 9223372036854775807
              · rw [if_pos c50] at H
                have c50b0 := eq_true c50
                have c50b1 : decide (((⟨#[67, 111, 110, 116, 97, 105, 110, 101, 114, 32]⟩ : ByteArray) ++ a0_1).size + 6 ≤ 9223372036854775807) = true := decide_eq_true c50
                try have c50b2 : (9223372036854775807 < ((⟨#[67, 111, 110, 116, 97, 105, 110, 101, 114, 32]⟩ : ByteArray) ++ a0_1).size + 6) = False := eq_false (Nat.not_lt.2 c50)
                have c50z0 : (⟨#[67, 111, 110, 116, 97, 105, 110, 101, 114, 32]⟩ : ByteArray).size = 10 := rfl
                have c50b3 := c50
                try simp only [ByteArray.size_extract, ByteArray.size_append, c50z0] at c50b3
                have c50b4 := eq_false (Nat.not_lt.2 c50b3)
                by_cases c51 : (((⟨#[67, 111, 110, 116, 97, 105, 110, 101, 114, 32]⟩ : ByteArray) ++ a0_1) ++ (⟨#[32, 111, 119, 101, 115, 32]⟩ : ByteArray)).size + t181.size ≤ 9223372036854775807
                · rw [if_pos c51] at H
                  have c51b0 := eq_true c51
                  have c51b1 : decide ((((⟨#[67, 111, 110, 116, 97, 105, 110, 101, 114, 32]⟩ : ByteArray) ++ a0_1) ++ (⟨#[32, 111, 119, 101, 115, 32]⟩ : ByteArray)).size + t181.size ≤ 9223372036854775807) = true := decide_eq_true c51
                  try have c51b2 : (9223372036854775807 < (((⟨#[67, 111, 110, 116, 97, 105, 110, 101, 114, 32]⟩ : ByteArray) ++ a0_1) ++ (⟨#[32, 111, 119, 101, 115, 32]⟩ : ByteArray)).size + t181.size) = False := eq_false (Nat.not_lt.2 c51)
                  have c51z0 : (⟨#[32, 111, 119, 101, 115, 32]⟩ : ByteArray).size = 6 := rfl
                  have c51z1 : (⟨#[67, 111, 110, 116, 97, 105, 110, 101, 114, 32]⟩ : ByteArray).size = 10 := rfl
                  have c51b3 := c51
                  try simp only [ByteArray.size_extract, ByteArray.size_append, c51z0, c51z1] at c51b3
                  have c51b4 := eq_false (Nat.not_lt.2 c51b3)
                  by_cases c52 : ((((⟨#[67, 111, 110, 116, 97, 105, 110, 101, 114, 32]⟩ : ByteArray) ++ a0_1) ++ (⟨#[32, 111, 119, 101, 115, 32]⟩ : ByteArray)) ++ t181).size + 11 ≤ 9223372036854775807
                  · rw [if_pos c52] at H
                    have c52b0 := eq_true c52
                    have c52b1 : decide (((((⟨#[67, 111, 110, 116, 97, 105, 110, 101, 114, 32]⟩ : ByteArray) ++ a0_1) ++ (⟨#[32, 111, 119, 101, 115, 32]⟩ : ByteArray)) ++ t181).size + 11 ≤ 9223372036854775807) = true := decide_eq_true c52
                    try have c52b2 : (9223372036854775807 < ((((⟨#[67, 111, 110, 116, 97, 105, 110, 101, 114, 32]⟩ : ByteArray) ++ a0_1) ++ (⟨#[32, 111, 119, 101, 115, 32]⟩ : ByteArray)) ++ t181).size + 11) = False := eq_false (Nat.not_lt.2 c52)
                    have c52z0 : (⟨#[32, 111, 119, 101, 115, 32]⟩ : ByteArray).size = 6 := rfl
                    have c52z1 : (⟨#[67, 111, 110, 116, 97, 105, 110, 101, 114, 32]⟩ : ByteArray).size = 10 := rfl
                    have c52b3 := c52
                    try simp only [ByteArray.size_extract, ByteArray.size_append, c52z0, c52z1] at c52b3
                    have c52b4 := eq_false (Nat.not_lt.2 c52b3)
                    obtain rfl := Option.some.inj H
                    go_enter Tryd.func26, Tryd.ntmps26
                    try go_wp2_with (first | ((with_reducible refine Dh (N := 1) rfl ?_); refine Dl ?hg (N := 1) ?hd (cs := #[.int .i64 a0_0, .string a0_1, .int .i64 a0_2, .int .i64 a0_3]) (t := 27) ?hr ?_; (case hd => rfl); (case hg => rfl); (case hr => first | (go_simp; done) | (go_simp; rfl)); intro gb0 hg w53 hbox hb; have n0_ := Ac.mk (Au Ya_ hb); have n1_ := Ac.mk (hbox); have n2_ := Ac.mk ((by rw [hg]; exact (Az Ya_) : w.heap.size ≤ gb0)); have n3_ := Ac.mk ((by rw [hg]; exact (Az Ya_) : w.heap.size ≤ gb0)); clear HB; have HB := n0_; have BK0 := n1_; have GW0 := n2_; have GE0 := n3_; clear n0_ n1_ n2_ n3_; clear hb hbox hg; have hcz54_0 : w53.cell? ⟨gb0, 0, none⟩ = some (.int .i64 a0_0) := (Af BK0.out 0).trans rfl; have hcz54_1 : w53.cell? ⟨gb0, 1, none⟩ = some (.string a0_1) := (Af BK0.out 1).trans rfl; have hcz54_2 : w53.cell? ⟨gb0, 2, none⟩ = some (.int .i64 a0_2) := (Af BK0.out 2).trans rfl; have hcz54_3 : w53.cell? ⟨gb0, 3, none⟩ = some (.int .i64 a0_3) := (Af BK0.out 3).trans rfl; have hfz54_0 := Ag BK0.out 0; have hfz54_1 := Ag BK0.out 1; have hfz54_2 := Ag BK0.out 2; have hfz54_3 := Ag BK0.out 3))
                    have n0_ := Ac.mk (Aj BK0.out)
                    have n1_ := Ac.mk (Ad HB.out)
                    clear BK0
                    clear HB
                    have BK0 := n0_
                    have HB := n1_
                    clear n0_ n1_
                    refine G7 (n := 8) (S := fun w' => w'.cell? ⟨gb0, 0, none⟩ = some (.int .i64 a0_0) ∧ w'.cell? ⟨gb0, 1, none⟩ = some (.string a0_1) ∧ w'.cell? ⟨gb0, 2, none⟩ = some (.int .i64 a0_2) ∧ w'.cell? ⟨gb0, 3, none⟩ = some (.int .i64 a0_3)) (ds := []) #[false, false, false, false, false, false, false, false] (by kernel_rfl) rfl rfl ⟨(Af BK0.out 0).trans rfl, (Af BK0.out 1).trans rfl, (Af BK0.out 2).trans rfl, (Af BK0.out 3).trans rfl⟩ (fun hHeld => ?_); refine Gf Dk.tab2 Dk.bits2 (fun HT_ HW_ => ?_)
                    generalize w53.drew = w55 at BK0 HB hHeld ⊢
                    refine Du (i := 0) (N := some 11) (v := ?_) (a' := ?_) #[true, false, false, false, false, false, false, false] rfl rfl (Di HT_.out (by kernel_rfl)) (fun _ _ _ h => h) (Or.inl ⟨by rfl, ?_⟩) ?_ ?_
                    rotate_left
                    · intro w'
                      go_simp
                      first | with_reducible rfl | (rw [if_neg (by omega)]; try with_reducible rfl)
                    rotate_left
                    · simp only [Act.put, List.setIfInBounds_toArray, List.set_cons_zero, List.set_cons_succ, Bz, Cb]
                      rfl
                    refine Du (i := 3) (N := some 14) (v := ?_) (a' := ?_) #[true, false, false, true, false, false, false, false] rfl rfl (Di HT_.out (by kernel_rfl)) (fun _ _ _ h => h) (Or.inl ⟨by rfl, ?_⟩) ?_ ?_
                    rotate_left
                    · intro w'
                      go_simp
                      first | with_reducible rfl | (rw [if_neg (by omega)]; try with_reducible rfl)
                    rotate_left
                    · simp only [Act.put, List.setIfInBounds_toArray, List.set_cons_zero, List.set_cons_succ, Bz, Cb]
                      rfl
                    refine Fv (i := 1) (N := some 12) (v := ?_) (a' := ?_) #[true, true, false, true, false, false, false, false] rfl rfl (Et HT_.out HW_.out (by kernel_rfl)) (fun _ _ _ h => h) (Or.inl ⟨by rfl, ?_⟩) hHeld ?_ ?_
                    rotate_left
                    · rintro w' ⟨s0, s1, s2, s3⟩
                      go_simp
                      first | with_reducible rfl | (rw [if_neg (by omega)]; try with_reducible rfl)
                    rotate_left
                    · simp only [Act.put, List.setIfInBounds_toArray, List.set_cons_zero, List.set_cons_succ, Bz, Cb]
                      rfl
                    refine Fv (i := 4) (N := some 15) (v := ?_) (a' := ?_) #[true, true, false, true, true, false, false, false] rfl rfl (Et HT_.out HW_.out (by kernel_rfl)) (fun _ _ _ h => h) (Or.inl ⟨by rfl, ?_⟩) hHeld ?_ ?_
                    rotate_left
                    · rintro w' ⟨s0, s1, s2, s3⟩
                      go_simp
                      first | with_reducible rfl | (rw [if_neg (by omega)]; try with_reducible rfl)
                    rotate_left
                    · simp only [Act.put, List.setIfInBounds_toArray, List.set_cons_zero, List.set_cons_succ, Bz, Cb]
                      rfl
                    refine one_ (i := 2) (N := some 13) #[true, true, true, true, true, false, false, false] rfl rfl (Gg HT_.out (by kernel_rfl)) (by decide) (fun K hK => ?_)
                    refine Gn Tryd.func43 (by kernel_rfl) rfl #[.int .i64 a0_2] (by rfl) rfl rfl Yb_ ?_
                    with_reducible refine (Em.calls a0_2 t181 _ ?side1 A3.out).mono ?_
                    (case side1 => exact Eo.below HGL.out Yd_)
                    rintro e w56 ⟨rfl, hb⟩
                    refine ⟨_, rfl, ?_⟩
                    have n0_ := Ac.mk (Ce (g := gb0) (o := .cells #[.int .i64 a0_0, .string a0_1, .int .i64 a0_2, .int .i64 a0_3] 27 (0, 0)) Ye_ hb)
                    have n1_ := Ac.mk (Au Yd_ hb)
                    clear BK0
                    clear HB
                    have BK0 := n0_
                    have HB := n1_
                    clear n0_ n1_
                    (try clear hb)
                    (try clear hb2)
                    (try clear hk)
                    (try clear hi)
                    refine hK.out _ _ ⟨(Af BK0.out 0).trans rfl, (Af BK0.out 1).trans rfl, (Af BK0.out 2).trans rfl, (Af BK0.out 3).trans rfl⟩ (fun hHeld => ?_)
                    clear hK K
                    refine Gp (a' := ?_) ?_ ?_
                    rotate_left
                    · show Act.put _ (some 13) _ = _
                      simp only [Act.put, List.setIfInBounds_toArray, List.set_cons_zero, List.set_cons_succ, Bz, Cb]
                      rfl
                    refine one_ (i := 5) (N := some 16) #[true, true, true, true, true, true, false, false] rfl rfl (Gg HT_.out (by kernel_rfl)) (by decide) (fun K hK => ?_)
                    refine Gn Tryd.func43 (by kernel_rfl) rfl #[.int .i64 a0_3] (by rfl) rfl rfl Yb_ ?_
                    with_reducible refine (Em.calls a0_3 t182 _ ?side1 A4.out).mono ?_
                    (case side1 => exact Eo.below HGL.out Yd_)
                    rintro e w57 ⟨rfl, hb⟩
                    refine ⟨_, rfl, ?_⟩
                    have n0_ := Ac.mk (Ce (g := gb0) (o := .cells #[.int .i64 a0_0, .string a0_1, .int .i64 a0_2, .int .i64 a0_3] 27 (0, 0)) Ye_ hb)
                    have n1_ := Ac.mk (Au Yd_ hb)
                    clear BK0
                    clear HB
                    have BK0 := n0_
                    have HB := n1_
                    clear n0_ n1_
                    (try clear hb)
                    (try clear hb2)
                    (try clear hk)
                    (try clear hi)
                    refine hK.out _ _ ⟨(Af BK0.out 0).trans rfl, (Af BK0.out 1).trans rfl, (Af BK0.out 2).trans rfl, (Af BK0.out 3).trans rfl⟩ (fun hHeld => ?_)
                    clear hK K
                    refine Gp (a' := ?_) ?_ ?_
                    rotate_left
                    · show Act.put _ (some 16) _ = _
                      simp only [Act.put, List.setIfInBounds_toArray, List.set_cons_zero, List.set_cons_succ, Bz, Cb]
                      rfl
                    refine Du (i := 6) (N := some 4) (v := ?_) (a' := ?_) #[true, true, true, true, true, true, true, false] rfl rfl (Di HT_.out (by kernel_rfl)) (fun _ _ _ h => h) (Or.inl ⟨by rfl, ?_⟩) ?_ ?_
                    rotate_left
                    · intro w'
                      go_simp
                      first | with_reducible rfl | (rw [if_neg (by omega)]; try with_reducible rfl)
                    rotate_left
                    · simp only [Act.put, List.setIfInBounds_toArray, List.set_cons_zero, List.set_cons_succ, Bz, Cb]
                      rfl
                    refine Du (i := 7) (N := some 5) (v := ?_) (a' := ?_) #[true, true, true, true, true, true, true, true] rfl rfl (Di HT_.out (by kernel_rfl)) (fun _ _ _ h => h) (Or.inl ⟨by rfl, ?_⟩) ?_ ?_
                    rotate_left
                    · intro w'
                      go_simp
                      first | with_reducible rfl | (rw [if_neg (by omega)]; try with_reducible rfl)
                    rotate_left
                    · simp only [Act.put, List.setIfInBounds_toArray, List.set_cons_zero, List.set_cons_succ, Bz, Cb]
                      rfl
                    refine done_ (Gv HT_.out (by kernel_rfl)) ?_
                    have hcz58_0 : w57.cell? ⟨gb0, 0, none⟩ = some (.int .i64 a0_0) := (Af BK0.out 0).trans rfl
                    have hcz58_1 : w57.cell? ⟨gb0, 1, none⟩ = some (.string a0_1) := (Af BK0.out 1).trans rfl
                    have hcz58_2 : w57.cell? ⟨gb0, 2, none⟩ = some (.int .i64 a0_2) := (Af BK0.out 2).trans rfl
                    have hcz58_3 : w57.cell? ⟨gb0, 3, none⟩ = some (.int .i64 a0_3) := (Af BK0.out 3).trans rfl
                    have hfz58_0 := Ag BK0.out 0
                    have hfz58_1 := Ag BK0.out 1
                    have hfz58_2 := Ag BK0.out 2
                    have hfz58_3 := Ag BK0.out 3
                    try go_wp2
                    go_ret
                    exact ⟨by first | rfl | (simp [Aq, Ar] <;> rfl) | (simp [*, Aq, Ar] <;> rfl), by repeat (first | (with_reducible first | exact HB.out | apply Ae | apply Aa | apply Ad | refine Am ?_ GE0.out) | exact HB.out)⟩
                  · rw [if_neg c52] at H
                    exact absurd H (by simp)
                · rw [if_neg c51] at H
                  exact absurd H (by simp)
              · rw [if_neg c50] at H
                exact absurd H (by simp)
            · rw [if_neg c49] at H
              have c49b0 : (a0_3 == 1) = false := beq_eq_false_iff_ne.mpr c49
              have c49b1 : (a0_3 != 1) = true := bne_iff_ne.mpr c49
              by_cases c59 : ((⟨#[67, 111, 110, 116, 97, 105, 110, 101, 114, 32]⟩ : ByteArray) ++ a0_1).size + 6 ≤ 9223372036854775807
              · rw [if_pos c59] at H
                have c59b0 := eq_true c59
                have c59b1 : decide (((⟨#[67, 111, 110, 116, 97, 105, 110, 101, 114, 32]⟩ : ByteArray) ++ a0_1).size + 6 ≤ 9223372036854775807) = true := decide_eq_true c59
                try have c59b2 : (9223372036854775807 < ((⟨#[67, 111, 110, 116, 97, 105, 110, 101, 114, 32]⟩ : ByteArray) ++ a0_1).size + 6) = False := eq_false (Nat.not_lt.2 c59)
                have c59z0 : (⟨#[67, 111, 110, 116, 97, 105, 110, 101, 114, 32]⟩ : ByteArray).size = 10 := rfl
                have c59b3 := c59
                try simp only [ByteArray.size_extract, ByteArray.size_append, c59z0] at c59b3
                have c59b4 := eq_false (Nat.not_lt.2 c59b3)
                by_cases c60 : (((⟨#[67, 111, 110, 116, 97, 105, 110, 101, 114, 32]⟩ : ByteArray) ++ a0_1) ++ (⟨#[32, 111, 119, 101, 115, 32]⟩ : ByteArray)).size + t181.size ≤ 9223372036854775807
                · rw [if_pos c60] at H
                  have c60b0 := eq_true c60
                  have c60b1 : decide ((((⟨#[67, 111, 110, 116, 97, 105, 110, 101, 114, 32]⟩ : ByteArray) ++ a0_1) ++ (⟨#[32, 111, 119, 101, 115, 32]⟩ : ByteArray)).size + t181.size ≤ 9223372036854775807) = true := decide_eq_true c60
                  try have c60b2 : (9223372036854775807 < (((⟨#[67, 111, 110, 116, 97, 105, 110, 101, 114, 32]⟩ : ByteArray) ++ a0_1) ++ (⟨#[32, 111, 119, 101, 115, 32]⟩ : ByteArray)).size + t181.size) = False := eq_false (Nat.not_lt.2 c60)
                  have c60z0 : (⟨#[32, 111, 119, 101, 115, 32]⟩ : ByteArray).size = 6 := rfl
                  have c60z1 : (⟨#[67, 111, 110, 116, 97, 105, 110, 101, 114, 32]⟩ : ByteArray).size = 10 := rfl
                  have c60b3 := c60
                  try simp only [ByteArray.size_extract, ByteArray.size_append, c60z0, c60z1] at c60b3
                  have c60b4 := eq_false (Nat.not_lt.2 c60b3)
                  by_cases c61 : ((((⟨#[67, 111, 110, 116, 97, 105, 110, 101, 114, 32]⟩ : ByteArray) ++ a0_1) ++ (⟨#[32, 111, 119, 101, 115, 32]⟩ : ByteArray)) ++ t181).size + 5 ≤ 9223372036854775807
                  · rw [if_pos c61] at H
                    have c61b0 := eq_true c61
                    have c61b1 : decide (((((⟨#[67, 111, 110, 116, 97, 105, 110, 101, 114, 32]⟩ : ByteArray) ++ a0_1) ++ (⟨#[32, 111, 119, 101, 115, 32]⟩ : ByteArray)) ++ t181).size + 5 ≤ 9223372036854775807) = true := decide_eq_true c61
                    try have c61b2 : (9223372036854775807 < ((((⟨#[67, 111, 110, 116, 97, 105, 110, 101, 114, 32]⟩ : ByteArray) ++ a0_1) ++ (⟨#[32, 111, 119, 101, 115, 32]⟩ : ByteArray)) ++ t181).size + 5) = False := eq_false (Nat.not_lt.2 c61)
                    have c61z0 : (⟨#[32, 111, 119, 101, 115, 32]⟩ : ByteArray).size = 6 := rfl
                    have c61z1 : (⟨#[67, 111, 110, 116, 97, 105, 110, 101, 114, 32]⟩ : ByteArray).size = 10 := rfl
                    have c61b3 := c61
                    try simp only [ByteArray.size_extract, ByteArray.size_append, c61z0, c61z1] at c61b3
                    have c61b4 := eq_false (Nat.not_lt.2 c61b3)
                    by_cases c62 : (((((⟨#[67, 111, 110, 116, 97, 105, 110, 101, 114, 32]⟩ : ByteArray) ++ a0_1) ++ (⟨#[32, 111, 119, 101, 115, 32]⟩ : ByteArray)) ++ t181) ++ (⟨#[32, 102, 111, 114, 32]⟩ : ByteArray)).size + t182.size ≤ 9223372036854775807
                    · rw [if_pos c62] at H
                      have c62b0 := eq_true c62
                      have c62b1 : decide ((((((⟨#[67, 111, 110, 116, 97, 105, 110, 101, 114, 32]⟩ : ByteArray) ++ a0_1) ++ (⟨#[32, 111, 119, 101, 115, 32]⟩ : ByteArray)) ++ t181) ++ (⟨#[32, 102, 111, 114, 32]⟩ : ByteArray)).size + t182.size ≤ 9223372036854775807) = true := decide_eq_true c62
                      try have c62b2 : (9223372036854775807 < (((((⟨#[67, 111, 110, 116, 97, 105, 110, 101, 114, 32]⟩ : ByteArray) ++ a0_1) ++ (⟨#[32, 111, 119, 101, 115, 32]⟩ : ByteArray)) ++ t181) ++ (⟨#[32, 102, 111, 114, 32]⟩ : ByteArray)).size + t182.size) = False := eq_false (Nat.not_lt.2 c62)
                      have c62z0 : (⟨#[32, 102, 111, 114, 32]⟩ : ByteArray).size = 5 := rfl
                      have c62z1 : (⟨#[32, 111, 119, 101, 115, 32]⟩ : ByteArray).size = 6 := rfl
                      have c62z2 : (⟨#[67, 111, 110, 116, 97, 105, 110, 101, 114, 32]⟩ : ByteArray).size = 10 := rfl
                      have c62b3 := c62
                      try simp only [ByteArray.size_extract, ByteArray.size_append, c62z0, c62z1, c62z2] at c62b3
                      have c62b4 := eq_false (Nat.not_lt.2 c62b3)
                      by_cases c63 : ((((((⟨#[67, 111, 110, 116, 97, 105, 110, 101, 114, 32]⟩ : ByteArray) ++ a0_1) ++ (⟨#[32, 111, 119, 101, 115, 32]⟩ : ByteArray)) ++ t181) ++ (⟨#[32, 102, 111, 114, 32]⟩ : ByteArray)) ++ t182).size + 6 ≤ 9223372036854775807
                      · rw [if_pos c63] at H
                        have c63b0 := eq_true c63
                        have c63b1 : decide (((((((⟨#[67, 111, 110, 116, 97, 105, 110, 101, 114, 32]⟩ : ByteArray) ++ a0_1) ++ (⟨#[32, 111, 119, 101, 115, 32]⟩ : ByteArray)) ++ t181) ++ (⟨#[32, 102, 111, 114, 32]⟩ : ByteArray)) ++ t182).size + 6 ≤ 9223372036854775807) = true := decide_eq_true c63
                        try have c63b2 : (9223372036854775807 < ((((((⟨#[67, 111, 110, 116, 97, 105, 110, 101, 114, 32]⟩ : ByteArray) ++ a0_1) ++ (⟨#[32, 111, 119, 101, 115, 32]⟩ : ByteArray)) ++ t181) ++ (⟨#[32, 102, 111, 114, 32]⟩ : ByteArray)) ++ t182).size + 6) = False := eq_false (Nat.not_lt.2 c63)
                        have c63z0 : (⟨#[32, 102, 111, 114, 32]⟩ : ByteArray).size = 5 := rfl
                        have c63z1 : (⟨#[32, 111, 119, 101, 115, 32]⟩ : ByteArray).size = 6 := rfl
                        have c63z2 : (⟨#[67, 111, 110, 116, 97, 105, 110, 101, 114, 32]⟩ : ByteArray).size = 10 := rfl
                        have c63b3 := c63
                        try simp only [ByteArray.size_extract, ByteArray.size_append, c63z0, c63z1, c63z2] at c63b3
                        have c63b4 := eq_false (Nat.not_lt.2 c63b3)
                        obtain rfl := Option.some.inj H
                        go_enter Tryd.func26, Tryd.ntmps26
                        try go_wp2_with (first | ((with_reducible refine Dh (N := 1) rfl ?_); refine Dl ?hg (N := 1) ?hd (cs := #[.int .i64 a0_0, .string a0_1, .int .i64 a0_2, .int .i64 a0_3]) (t := 27) ?hr ?_; (case hd => rfl); (case hg => rfl); (case hr => first | (go_simp; done) | (go_simp; rfl)); intro gb0 hg w64 hbox hb; have n0_ := Ac.mk (Au Ya_ hb); have n1_ := Ac.mk (hbox); have n2_ := Ac.mk ((by rw [hg]; exact (Az Ya_) : w.heap.size ≤ gb0)); have n3_ := Ac.mk ((by rw [hg]; exact (Az Ya_) : w.heap.size ≤ gb0)); clear HB; have HB := n0_; have BK0 := n1_; have GW0 := n2_; have GE0 := n3_; clear n0_ n1_ n2_ n3_; clear hb hbox hg; have hcz65_0 : w64.cell? ⟨gb0, 0, none⟩ = some (.int .i64 a0_0) := (Af BK0.out 0).trans rfl; have hcz65_1 : w64.cell? ⟨gb0, 1, none⟩ = some (.string a0_1) := (Af BK0.out 1).trans rfl; have hcz65_2 : w64.cell? ⟨gb0, 2, none⟩ = some (.int .i64 a0_2) := (Af BK0.out 2).trans rfl; have hcz65_3 : w64.cell? ⟨gb0, 3, none⟩ = some (.int .i64 a0_3) := (Af BK0.out 3).trans rfl; have hfz65_0 := Ag BK0.out 0; have hfz65_1 := Ag BK0.out 1; have hfz65_2 := Ag BK0.out 2; have hfz65_3 := Ag BK0.out 3))
                        have n0_ := Ac.mk (Aj BK0.out)
                        have n1_ := Ac.mk (Ad HB.out)
                        clear BK0
                        clear HB
                        have BK0 := n0_
                        have HB := n1_
                        clear n0_ n1_
                        refine G7 (n := 8) (S := fun w' => w'.cell? ⟨gb0, 0, none⟩ = some (.int .i64 a0_0) ∧ w'.cell? ⟨gb0, 1, none⟩ = some (.string a0_1) ∧ w'.cell? ⟨gb0, 2, none⟩ = some (.int .i64 a0_2) ∧ w'.cell? ⟨gb0, 3, none⟩ = some (.int .i64 a0_3)) (ds := []) #[false, false, false, false, false, false, false, false] (by kernel_rfl) rfl rfl ⟨(Af BK0.out 0).trans rfl, (Af BK0.out 1).trans rfl, (Af BK0.out 2).trans rfl, (Af BK0.out 3).trans rfl⟩ (fun hHeld => ?_); refine Gf Dk.tab2 Dk.bits2 (fun HT_ HW_ => ?_)
                        generalize w64.drew = w66 at BK0 HB hHeld ⊢
                        refine Du (i := 0) (N := some 11) (v := ?_) (a' := ?_) #[true, false, false, false, false, false, false, false] rfl rfl (Di HT_.out (by kernel_rfl)) (fun _ _ _ h => h) (Or.inl ⟨by rfl, ?_⟩) ?_ ?_
                        rotate_left
                        · intro w'
                          go_simp
                          first | with_reducible rfl | (rw [if_neg (by omega)]; try with_reducible rfl)
                        rotate_left
                        · simp only [Act.put, List.setIfInBounds_toArray, List.set_cons_zero, List.set_cons_succ, Bz, Cb]
                          rfl
                        refine Du (i := 3) (N := some 14) (v := ?_) (a' := ?_) #[true, false, false, true, false, false, false, false] rfl rfl (Di HT_.out (by kernel_rfl)) (fun _ _ _ h => h) (Or.inl ⟨by rfl, ?_⟩) ?_ ?_
                        rotate_left
                        · intro w'
                          go_simp
                          first | with_reducible rfl | (rw [if_neg (by omega)]; try with_reducible rfl)
                        rotate_left
                        · simp only [Act.put, List.setIfInBounds_toArray, List.set_cons_zero, List.set_cons_succ, Bz, Cb]
                          rfl
                        refine Fv (i := 1) (N := some 12) (v := ?_) (a' := ?_) #[true, true, false, true, false, false, false, false] rfl rfl (Et HT_.out HW_.out (by kernel_rfl)) (fun _ _ _ h => h) (Or.inl ⟨by rfl, ?_⟩) hHeld ?_ ?_
                        rotate_left
                        · rintro w' ⟨s0, s1, s2, s3⟩
                          go_simp
                          first | with_reducible rfl | (rw [if_neg (by omega)]; try with_reducible rfl)
                        rotate_left
                        · simp only [Act.put, List.setIfInBounds_toArray, List.set_cons_zero, List.set_cons_succ, Bz, Cb]
                          rfl
                        refine Fv (i := 4) (N := some 15) (v := ?_) (a' := ?_) #[true, true, false, true, true, false, false, false] rfl rfl (Et HT_.out HW_.out (by kernel_rfl)) (fun _ _ _ h => h) (Or.inl ⟨by rfl, ?_⟩) hHeld ?_ ?_
                        rotate_left
                        · rintro w' ⟨s0, s1, s2, s3⟩
                          go_simp
                          first | with_reducible rfl | (rw [if_neg (by omega)]; try with_reducible rfl)
                        rotate_left
                        · simp only [Act.put, List.setIfInBounds_toArray, List.set_cons_zero, List.set_cons_succ, Bz, Cb]
                          rfl
                        refine one_ (i := 2) (N := some 13) #[true, true, true, true, true, false, false, false] rfl rfl (Gg HT_.out (by kernel_rfl)) (by decide) (fun K hK => ?_)
                        refine Gn Tryd.func43 (by kernel_rfl) rfl #[.int .i64 a0_2] (by rfl) rfl rfl Yb_ ?_
                        with_reducible refine (Em.calls a0_2 t181 _ ?side1 A3.out).mono ?_
                        (case side1 => exact Eo.below HGL.out Yd_)
                        rintro e w67 ⟨rfl, hb⟩
                        refine ⟨_, rfl, ?_⟩
                        have n0_ := Ac.mk (Ce (g := gb0) (o := .cells #[.int .i64 a0_0, .string a0_1, .int .i64 a0_2, .int .i64 a0_3] 27 (0, 0)) Ye_ hb)
                        have n1_ := Ac.mk (Au Yd_ hb)
                        clear BK0
                        clear HB
                        have BK0 := n0_
                        have HB := n1_
                        clear n0_ n1_
                        (try clear hb)
                        (try clear hb2)
                        (try clear hk)
                        (try clear hi)
                        refine hK.out _ _ ⟨(Af BK0.out 0).trans rfl, (Af BK0.out 1).trans rfl, (Af BK0.out 2).trans rfl, (Af BK0.out 3).trans rfl⟩ (fun hHeld => ?_)
                        clear hK K
                        refine Gp (a' := ?_) ?_ ?_
                        rotate_left
                        · show Act.put _ (some 13) _ = _
                          simp only [Act.put, List.setIfInBounds_toArray, List.set_cons_zero, List.set_cons_succ, Bz, Cb]
                          rfl
                        refine one_ (i := 5) (N := some 16) #[true, true, true, true, true, true, false, false] rfl rfl (Gg HT_.out (by kernel_rfl)) (by decide) (fun K hK => ?_)
                        refine Gn Tryd.func43 (by kernel_rfl) rfl #[.int .i64 a0_3] (by rfl) rfl rfl Yb_ ?_
                        with_reducible refine (Em.calls a0_3 t182 _ ?side1 A4.out).mono ?_
                        (case side1 => exact Eo.below HGL.out Yd_)
                        rintro e w68 ⟨rfl, hb⟩
                        refine ⟨_, rfl, ?_⟩
                        have n0_ := Ac.mk (Ce (g := gb0) (o := .cells #[.int .i64 a0_0, .string a0_1, .int .i64 a0_2, .int .i64 a0_3] 27 (0, 0)) Ye_ hb)
                        have n1_ := Ac.mk (Au Yd_ hb)
                        clear BK0
                        clear HB
                        have BK0 := n0_
                        have HB := n1_
                        clear n0_ n1_
                        (try clear hb)
                        (try clear hb2)
                        (try clear hk)
                        (try clear hi)
                        refine hK.out _ _ ⟨(Af BK0.out 0).trans rfl, (Af BK0.out 1).trans rfl, (Af BK0.out 2).trans rfl, (Af BK0.out 3).trans rfl⟩ (fun hHeld => ?_)
                        clear hK K
                        refine Gp (a' := ?_) ?_ ?_
                        rotate_left
                        · show Act.put _ (some 16) _ = _
                          simp only [Act.put, List.setIfInBounds_toArray, List.set_cons_zero, List.set_cons_succ, Bz, Cb]
                          rfl
                        refine Du (i := 6) (N := some 4) (v := ?_) (a' := ?_) #[true, true, true, true, true, true, true, false] rfl rfl (Di HT_.out (by kernel_rfl)) (fun _ _ _ h => h) (Or.inl ⟨by rfl, ?_⟩) ?_ ?_
                        rotate_left
                        · intro w'
                          go_simp
                          first | with_reducible rfl | (rw [if_neg (by omega)]; try with_reducible rfl)
                        rotate_left
                        · simp only [Act.put, List.setIfInBounds_toArray, List.set_cons_zero, List.set_cons_succ, Bz, Cb]
                          rfl
                        refine Du (i := 7) (N := some 5) (v := ?_) (a' := ?_) #[true, true, true, true, true, true, true, true] rfl rfl (Di HT_.out (by kernel_rfl)) (fun _ _ _ h => h) (Or.inl ⟨by rfl, ?_⟩) ?_ ?_
                        rotate_left
                        · intro w'
                          go_simp
                          first | with_reducible rfl | (rw [if_neg (by omega)]; try with_reducible rfl)
                        rotate_left
                        · simp only [Act.put, List.setIfInBounds_toArray, List.set_cons_zero, List.set_cons_succ, Bz, Cb]
                          rfl
                        refine done_ (Gv HT_.out (by kernel_rfl)) ?_
                        have hcz69_0 : w68.cell? ⟨gb0, 0, none⟩ = some (.int .i64 a0_0) := (Af BK0.out 0).trans rfl
                        have hcz69_1 : w68.cell? ⟨gb0, 1, none⟩ = some (.string a0_1) := (Af BK0.out 1).trans rfl
                        have hcz69_2 : w68.cell? ⟨gb0, 2, none⟩ = some (.int .i64 a0_2) := (Af BK0.out 2).trans rfl
                        have hcz69_3 : w68.cell? ⟨gb0, 3, none⟩ = some (.int .i64 a0_3) := (Af BK0.out 3).trans rfl
                        have hfz69_0 := Ag BK0.out 0
                        have hfz69_1 := Ag BK0.out 1
                        have hfz69_2 := Ag BK0.out 2
                        have hfz69_3 := Ag BK0.out 3
                        try go_wp2
                        go_ret
                        exact ⟨by first | rfl | (simp [Aq, Ar] <;> rfl) | (simp [*, Aq, Ar] <;> rfl), by repeat (first | (with_reducible first | exact HB.out | apply Ae | apply Aa | apply Ad | refine Am ?_ GE0.out) | exact HB.out)⟩
                      · rw [if_neg c63] at H
                        exact absurd H (by simp)
                    · rw [if_neg c62] at H
                      exact absurd H (by simp)
                  · rw [if_neg c61] at H
                    exact absurd H (by simp)
                · rw [if_neg c60] at H
                  exact absurd H (by simp)
              · rw [if_neg c59] at H
                exact absurd H (by simp)
  · rw [if_neg c2] at H
    exact absurd H (by simp)
end Go.Proofs.YtghnljoaklmakaaDoor.X

namespace Go.Proofs.YtghnljoaklmakaaDoor.X
open Go.RowKit Go.Proofs.YtghnljoaklmakaaDoorW.PrintWords Go.Proofs.YtghnljoaklmakaaDoorW.PrintLast Go.Proofs.YtghnljoaklmakaaDoorW.PrintMore
attribute [local go_sem] Ea Eb Eh Eg Dz D5 Ec D9
open Go.Proofs.YtghnljoaklmakaaDoorG
def stringslite_HasPrefix.f (a0 : ByteArray) (a1 : ByteArray) : Option (Bool) := if (a0.size : Int) ≥ (a1.size : Int) then (if 0 ≤ (a1.size : Int) then (if (a1.size : Int) ≤ (a0.size : Int) then (some ((a0.extract 0 ((a1.size : Int) : Int).toNat).toList == a1.toList)) else (none)) else (none)) else (some false)
set_option maxHeartbeats 8000000 in
set_option maxRecDepth 100000 in
theorem stringslite_HasPrefix.calls (a0 : ByteArray) (a1 : ByteArray) (r : Bool) (w : World) (h : stringslite_HasPrefix.f a0 a1 = some r) :
    Calls Tryd.prog 63 #[.string a0, .string a1] w fun e w' => e = .returned (.bool r) ∧ Cj w w' := by
  have H : (if (a0.size : Int) ≥ (a1.size : Int) then (if 0 ≤ (a1.size : Int) then (if (a1.size : Int) ≤ (a0.size : Int) then (some ((a0.extract 0 ((a1.size : Int) : Int).toNat).toList == a1.toList)) else (none)) else (none)) else (some false)) = some r := h
  clear h
  by_cases c3 : (a0.size : Int) ≥ (a1.size : Int)
  · rw [if_pos c3] at H
    have c3b0 : decide ((a1.size : Int) ≤ (a0.size : Int)) = true := decide_eq_true c3
    have c3b1 : decide (a1.size ≤ a0.size) = true := decide_eq_true (Int.ofNat_le.mp c3)
    clear c3
    by_cases c4 : 0 ≤ (a1.size : Int)
    · rw [if_pos c4] at H
      have c4b0 := eq_true c4
      have c4b1 : decide (0 ≤ (a1.size : Int)) = true := decide_eq_true c4
      clear c4
      by_cases c5 : (a1.size : Int) ≤ (a0.size : Int)
      · rw [if_pos c5] at H
        have c5b0 := eq_true c5
        have c5b1 : decide ((a1.size : Int) ≤ (a0.size : Int)) = true := decide_eq_true c5
        clear c5
        obtain rfl := Option.some.inj H
        go_enter Tryd.func63, Tryd.ntmps63
        go_wp2
        go_ret
        exact ⟨by first | rfl | (simp; done) | (simp [*]; done), by repeat (first | exact Cj.refl _ | apply Cj.step)⟩
      · rw [if_neg c5] at H
        exact absurd H (by simp)
    · rw [if_neg c4] at H
      exact absurd H (by simp)
  · rw [if_neg c3] at H
    have c3b0 : decide ((a1.size : Int) ≤ (a0.size : Int)) = false := decide_eq_false c3
    have c3b1 : decide (a1.size ≤ a0.size) = false := decide_eq_false (fun h => c3 (Int.ofNat_le.mpr h))
    clear c3
    obtain rfl := Option.some.inj H
    go_enter Tryd.func63, Tryd.ntmps63
    go_wp2
    go_ret
    exact ⟨by first | rfl | (simp; done) | (simp [*]; done), by repeat (first | exact Cj.refl _ | apply Cj.step)⟩
end Go.Proofs.YtghnljoaklmakaaDoor.X

namespace Go.Proofs.YtghnljoaklmakaaDoor.X
open Go.RowKit Go.Proofs.YtghnljoaklmakaaDoorW.PrintWords Go.Proofs.YtghnljoaklmakaaDoorW.PrintLast Go.Proofs.YtghnljoaklmakaaDoorW.PrintMore
attribute [local go_sem] Ea Eb Eh Eg Dz D5 Ec D9
open Go.Proofs.YtghnljoaklmakaaDoorG
def stringslite_CutPrefix.f (a0 : ByteArray) (a1 : ByteArray) : Option (ByteArray × Bool) := (stringslite_HasPrefix.f a0 a1).bind fun t299 => (if t299 = true then (if 0 ≤ (a1.size : Int) then (if (a1.size : Int) ≤ (a0.size : Int) then (some (a0.extract ((a1.size : Int) : Int).toNat a0.size, true)) else (none)) else (none)) else (some (a0, false)))
set_option maxHeartbeats 8000000 in
set_option maxRecDepth 100000 in
theorem stringslite_CutPrefix.calls (a0 : ByteArray) (a1 : ByteArray) (r1 : ByteArray) (r2 : Bool) (w : World) (h : stringslite_CutPrefix.f a0 a1 = some (r1, r2)) :
    Calls Tryd.prog 51 #[.string a0, .string a1] w fun e w' => e = .returned (.tuple #[.string r1, .bool r2]) ∧ Cj w w' := by
  have H : ((stringslite_HasPrefix.f a0 a1).bind fun t299 => (if t299 = true then (if 0 ≤ (a1.size : Int) then (if (a1.size : Int) ≤ (a0.size : Int) then (some (a0.extract ((a1.size : Int) : Int).toNat a0.size, true)) else (none)) else (none)) else (some (a0, false)))) = some (r1, r2) := h
  clear h
  replace H := Option.bind_eq_some_iff.mp H
  obtain ⟨t299, A30, H⟩ := H
  replace H : (if t299 = true then (if 0 ≤ (a1.size : Int) then (if (a1.size : Int) ≤ (a0.size : Int) then (some (a0.extract ((a1.size : Int) : Int).toNat a0.size, true)) else (none)) else (none)) else (some (a0, false))) = some (r1, r2) := H
  have A3 := Ac.mk A30
  clear A30
  by_cases c4 : t299 = true
  · subst c4
    have H1 : (if 0 ≤ (a1.size : Int) then (if (a1.size : Int) ≤ (a0.size : Int) then (some (a0.extract ((a1.size : Int) : Int).toNat a0.size, true)) else (none)) else (none)) = some (r1, r2) := by rw [if_pos rfl] at H; exact H
    clear H
    have H := H1
    clear H1
    by_cases c5 : 0 ≤ (a1.size : Int)
    · rw [if_pos c5] at H
      have c5b0 := eq_true c5
      have c5b1 : decide (0 ≤ (a1.size : Int)) = true := decide_eq_true c5
      clear c5
      by_cases c6 : (a1.size : Int) ≤ (a0.size : Int)
      · rw [if_pos c6] at H
        have c6b0 := eq_true c6
        have c6b1 : decide ((a1.size : Int) ≤ (a0.size : Int)) = true := decide_eq_true c6
        clear c6
        simp only [Option.some.injEq, Prod.mk.injEq] at H
        obtain ⟨rfl, rfl⟩ := H
        go_enter Tryd.func51, Tryd.ntmps51
        go_wp2_with (first | ((with_reducible refine Aw (f := 63) rfl ?_); refine Bj (some 8) rfl rfl Tryd.func63 (by kernel_rfl) rfl #[.string a0, .string a1] rfl Yb_ ?_; (with_reducible refine (stringslite_HasPrefix.calls a0 a1 true _ A3.out).mono ?_); rintro e w' ⟨rfl, ⟨nd, rfl⟩⟩; refine ⟨_, rfl, ?_⟩))
        go_ret2
        exact ⟨by first | rfl | (simp; done) | (simp [*]; done), by repeat (first | exact Cj.refl _ | apply Cj.step)⟩
      · rw [if_neg c6] at H
        exact absurd H (by simp)
    · rw [if_neg c5] at H
      exact absurd H (by simp)
  · replace c4 := Bool.eq_false_iff.mpr c4
    subst c4
    have H1 : (some (a0, false)) = some (r1, r2) := by rw [if_neg (show ¬ (false = true) by decide)] at H; exact H
    clear H
    have H := H1
    clear H1
    simp only [Option.some.injEq, Prod.mk.injEq] at H
    obtain ⟨rfl, rfl⟩ := H
    go_enter Tryd.func51, Tryd.ntmps51
    go_wp2_with (first | ((with_reducible refine Aw (f := 63) rfl ?_); refine Bj (some 8) rfl rfl Tryd.func63 (by kernel_rfl) rfl #[.string a0, .string a1] rfl Yb_ ?_; (with_reducible refine (stringslite_HasPrefix.calls a0 a1 false _ A3.out).mono ?_); rintro e w' ⟨rfl, ⟨nd, rfl⟩⟩; refine ⟨_, rfl, ?_⟩))
    go_ret2
    exact ⟨by first | rfl | (simp; done) | (simp [*]; done), by repeat (first | exact Cj.refl _ | apply Cj.step)⟩
end Go.Proofs.YtghnljoaklmakaaDoor.X

namespace Go.Proofs.YtghnljoaklmakaaDoor.X
open Go.RowKit Go.Proofs.YtghnljoaklmakaaDoorW.PrintWords Go.Proofs.YtghnljoaklmakaaDoorW.PrintLast Go.Proofs.YtghnljoaklmakaaDoorW.PrintMore
attribute [local go_sem] Ea Eb Eh Eg Dz D5 Ec D9
open Go.Proofs.YtghnljoaklmakaaDoorG
def strings_CutPrefix.f (a0 : ByteArray) (a1 : ByteArray) : Option (ByteArray × Bool) := (stringslite_CutPrefix.f a0 a1).bind fun bt300 => (some (bt300.1, bt300.2))
set_option maxHeartbeats 8000000 in
set_option maxRecDepth 100000 in
theorem strings_CutPrefix.calls (a0 : ByteArray) (a1 : ByteArray) (r1 : ByteArray) (r2 : Bool) (w : World) (h : strings_CutPrefix.f a0 a1 = some (r1, r2)) :
    Calls Tryd.prog 33 #[.string a0, .string a1] w fun e w' => e = .returned (.tuple #[.string r1, .bool r2]) ∧ Cj w w' := by
  have H : ((stringslite_CutPrefix.f a0 a1).bind fun bt300 => (some (bt300.1, bt300.2))) = some (r1, r2) := h
  clear h
  replace H := Option.bind_eq_some_iff.mp H
  obtain ⟨⟨t300, t301⟩, A30, H⟩ := H
  replace H : (some (t300, t301)) = some (r1, r2) := H
  have A3 := Ac.mk A30
  clear A30
  simp only [Option.some.injEq, Prod.mk.injEq] at H
  obtain ⟨rfl, rfl⟩ := H
  go_enter Tryd.func33, Tryd.ntmps33
  go_wp2_with (first | ((with_reducible refine Aw (f := 51) rfl ?_); refine Bj (some 8) rfl rfl Tryd.func51 (by kernel_rfl) rfl #[.string a0, .string a1] rfl Yb_ ?_; (with_reducible refine (stringslite_CutPrefix.calls a0 a1 t300 t301 _ A3.out).mono ?_); rintro e w' ⟨rfl, ⟨nd, rfl⟩⟩; refine ⟨_, rfl, ?_⟩))
  go_ret2
  exact ⟨by first | rfl | (simp; done) | (simp [*]; done), by repeat (first | exact Cj.refl _ | apply Cj.step)⟩
end Go.Proofs.YtghnljoaklmakaaDoor.X

namespace Go.Proofs.YtghnljoaklmakaaDoor.X
open Go.RowKit Go.Proofs.YtghnljoaklmakaaDoorW.PrintWords Go.Proofs.YtghnljoaklmakaaDoorW.PrintLast Go.Proofs.YtghnljoaklmakaaDoorW.PrintMore
attribute [local go_sem] Ea Eb Eh Eg Dz D5 Ec D9
open Go.Proofs.YtghnljoaklmakaaDoorG
def Ht.f (a0 : Int) : Option (Bool) := if a0 = 32 then (some true) else (some (a0 == 46))
set_option maxHeartbeats 8000000 in
set_option maxRecDepth 100000 in
theorem Ht.calls (a0 : Int) (r : Bool) (w : World) (h : Ht.f a0 = some r) :
    Calls Tryd.prog 53 #[.int .i32 a0] w fun e w' => e = .returned (.bool r) ∧ Cj w w' := by
  have H : (if a0 = 32 then (some true) else (some (a0 == 46))) = some r := h
  clear h
  by_cases c2 : a0 = 32
  · rw [if_pos c2] at H
    have c2b0 : (a0 == 32) = true := beq_iff_eq.mpr c2
    have c2b1 : (a0 != 32) = false := bne_eq_false_iff_eq.mpr c2
    clear c2
    obtain rfl := Option.some.inj H
    go_enter Tryd.func53, Tryd.ntmps53
    go_wp2
    go_ret
    exact ⟨by first | rfl | (simp; done) | (simp [*]; done), by repeat (first | exact Cj.refl _ | apply Cj.step)⟩
  · rw [if_neg c2] at H
    have c2b0 : (a0 == 32) = false := beq_eq_false_iff_ne.mpr c2
    have c2b1 : (a0 != 32) = true := bne_iff_ne.mpr c2
    obtain rfl := Option.some.inj H
    go_enter Tryd.func53, Tryd.ntmps53
    go_wp2
    go_ret
    exact ⟨by first | rfl | (simp; done) | (simp [*]; done), by repeat (first | exact Cj.refl _ | apply Cj.step)⟩
end Go.Proofs.YtghnljoaklmakaaDoor.X

namespace Go.Proofs.YtghnljoaklmakaaDoor.X
open Go.RowKit Go.Proofs.YtghnljoaklmakaaDoorW.PrintWords Go.Proofs.YtghnljoaklmakaaDoorW.PrintLast Go.Proofs.YtghnljoaklmakaaDoorW.PrintMore
attribute [local go_sem] Ea Eb Eh Eg Dz D5 Ec D9
open Go.Proofs.YtghnljoaklmakaaDoorG
/-- A function value that answers as p at every rune, in this world and in all later ones. -/
def CloRune (v : Value) (p : Nat → Bool) (w : World) : Prop := ∃ (g : Nat) (lb : Array Value), v = .func (.func g) #[] lb ∧ (∀ args w, (callFunc g args).run Tryd.prog w = .ok (.enter g args) w) ∧ PredGrows Tryd.prog g lb p w
def strings_FieldsFunc.f (a0 : ByteArray) (p : Nat → Bool) : Option (List ByteArray) := if a0.size ≤ 4294967296 then some (Lib.goFieldsP p a0) else none
theorem strings_FieldsFunc.calls (a0 : ByteArray) (p : Nat → Bool) (v : Value) (r : List ByteArray) (w : World) (hv : CloRune v p w) (h : strings_FieldsFunc.f a0 p = some r) :
    Calls Tryd.prog 52 #[.string a0, v] w fun e w' => ∃ v0_ : Value, e = .returned (v0_) ∧ Kd.R Kd.string 9 w' w.heap.size (fun _ => True) v0_ r ∧ Below w.heap.size w w' := by
  obtain ⟨g, lb, rfl, eg, hp⟩ := hv
  unfold strings_FieldsFunc.f at h
  split at h
  · rename_i hc
    simp only [Option.some.injEq] at h
    subst h
    refine (Go.Proofs.Tryd.strings_FieldsFunc_grows g lb eg p a0 w hc hp).mono ?_
    rintro e w' ⟨A, rfl, hA, ho, hb⟩
    exact ⟨_, rfl, Kd.R_of_own (enc := Value.string) ho (fun _ _ => trivial), hb⟩
  · cases h
/-- A blank or a stop. -/
def clo_53 (x : Nat) : Bool := x == 32 || x == 46
theorem clo_53.ok {w : World} : CloRune (.func (.func 53) #[] #[]) clo_53 w := by
  refine ⟨53, #[], rfl, enters_of Tryd.func53 (by kernel_rfl) rfl, fun W x hx hb => ?_⟩
  show Calls Tryd.prog 53 #[.int .i32 (x : Int)] W _
  refine (Ht.calls (x : Int) (clo_53 x) W ?_).mono ?_
  · unfold Ht.f clo_53
    by_cases h : x = 32
    · subst h; rfl
    · rw [if_neg (by omega)]
      congr 1
      by_cases h2 : x = 46
      · subst h2; rfl
      · have e1 : (x == 32) = false := by simpa using h
        have e2 : (x == 46) = false := by simpa using h2
        have e3 : ((x : Int) == 46) = false := by simp; omega
        rw [e1, e2, e3]; rfl
  · rintro e w' ⟨rfl, hd⟩
    exact ⟨rfl, Cj.below hd⟩
end Go.Proofs.YtghnljoaklmakaaDoor.X

namespace Go.Proofs.YtghnljoaklmakaaDoor.X
open Go.RowKit Go.Proofs.YtghnljoaklmakaaDoorW.PrintWords Go.Proofs.YtghnljoaklmakaaDoorW.PrintLast Go.Proofs.YtghnljoaklmakaaDoorW.PrintMore
attribute [local go_sem] Ea Eb Eh Eg Dz D5 Ec D9
open Go.Proofs.YtghnljoaklmakaaDoorG
def F9.f (a0 : ByteArray) : Option (Int × Bool) := if a0.size ≤ 281474976710656 then (match Lib.atoiAll a0.data.toList with | .ok v => if -999999 ≤ v ∧ v ≤ 999999 then (Em.f v).bind fun t => if t.toList = a0.toList then some (v, true) else some (0, false) else some (0, false) | _ => some (0, false)) else none
set_option maxHeartbeats 8000000 in
set_option maxRecDepth 100000 in
theorem F9.calls (a0 : ByteArray) (r1 : Int) (r2 : Bool) (w : World) (hG : Eo w) (h : F9.f a0 = some (r1, r2)) :
    Calls Tryd.prog 54 #[.string a0] w fun e w' => e = .returned (.tuple #[.int .i64 r1, .bool r2]) ∧ Below w.heap.size w w' := by
  have HG := Ac.mk hG
  clear hG
  unfold F9.f at h
  by_cases hz : a0.size ≤ 281474976710656
  · rw [if_pos hz] at h
    rcases ha : Lib.atoiAll a0.data.toList with v | _ | _
    · rw [ha] at h
      dsimp only at h
      have HA := Ac.mk (Go.Proofs.Tryd.strconv_Atoi_ok a0 (by omega) v ha w)
      clear ha
      have HX : Ac (Calls Tryd.prog 64 #[.string a0] w fun e w' => e = .returned (.tuple #[.int .i64 v, .nilIface]) ∧ Below w.heap.size w w') := ⟨HA.out.mono (by
        rintro e w' ⟨rfl, h⟩
        rcases h with rfl | ⟨t, rfl⟩
        · exact ⟨rfl, Below.refl _ _⟩
        · exact ⟨rfl, Lib.bytesWorld_below _ _ _⟩)⟩
      clear HA
      by_cases hw : -999999 ≤ v ∧ v ≤ 999999
      · rw [if_pos hw] at h
        replace h := Option.bind_eq_some_iff.mp h
        obtain ⟨t, ht, h⟩ := h
        have A1 := Ac.mk (show Df.f v (-999999) 999999 = some true by unfold Df.f; rw [if_pos (show v ≥ -999999 from hw.1)]; simp [hw.2])
        have A2 := Ac.mk ht
        clear ht hw
        by_cases c : t.toList = a0.toList
        · rw [if_pos c] at h
          simp only [Option.some.injEq, Prod.mk.injEq] at h
          obtain ⟨rfl, rfl⟩ := h
          have cb0 : (t.toList == a0.toList) = true := beq_iff_eq.mpr c
          have cb1 : (t.toList != a0.toList) = false := bne_eq_false_iff_eq.mpr c
          clear c
          go_enter Tryd.func54, Tryd.ntmps54
          go_wp2_with (first | ((with_reducible refine Aw (f := 64) rfl ?_); refine Bj (some 8) rfl rfl Tryd.func64 (by kernel_rfl) rfl #[.string a0] rfl Yb_ ?_; refine HX.out.mono ?_; rintro e w1 ⟨rfl, hb⟩; have HB := Ac.mk hb; have HG1 := Ac.mk (HG.out.below hb); clear hb; refine ⟨_, rfl, ?_⟩) | ((with_reducible refine Aw (f := 42) rfl ?_); (try (refine Gi (by rfl) ?_; dsimp only)); refine Bj (some 15) rfl rfl Tryd.func42 (by kernel_rfl) rfl #[.int .i64 v, .int .i64 (-999999), .int .i64 999999] rfl Yb_ ?_; (with_reducible refine (Df.calls v (-999999) 999999 true _ A1.out).mono ?_); rintro e w2 ⟨rfl, ⟨nd, rfl⟩⟩; refine ⟨_, rfl, ?_⟩) | ((with_reducible refine Aw (f := 43) rfl ?_); (try (refine Gi (by rfl) ?_; dsimp only)); refine Bj (some 20) rfl rfl Tryd.func43 (by kernel_rfl) rfl #[.int .i64 v] rfl Yb_ ?_; (with_reducible refine (Em.calls v t _ (HG1.out.below (by repeat (first | (with_reducible first | exact Below.refl _ _ | apply Ae | apply Aa | apply Ad)))) A2.out).mono ?_); rintro e w3 ⟨rfl, hb⟩; have HB2 := Ac.mk (Au Ya_ hb); clear hb; refine ⟨_, rfl, ?_⟩))
          go_ret2
          exact ⟨by first | rfl | (simp; done) | (simp [*]; done), by repeat (first | (with_reducible first | exact HB2.out | apply Ae | apply Aa | apply Ad))⟩
        · rw [if_neg c] at h
          simp only [Option.some.injEq, Prod.mk.injEq] at h
          obtain ⟨rfl, rfl⟩ := h
          have cb0 : (t.toList == a0.toList) = false := beq_eq_false_iff_ne.mpr c
          have cb1 : (t.toList != a0.toList) = true := bne_iff_ne.mpr c
          clear c
          go_enter Tryd.func54, Tryd.ntmps54
          go_wp2_with (first | ((with_reducible refine Aw (f := 64) rfl ?_); refine Bj (some 8) rfl rfl Tryd.func64 (by kernel_rfl) rfl #[.string a0] rfl Yb_ ?_; refine HX.out.mono ?_; rintro e w1 ⟨rfl, hb⟩; have HB := Ac.mk hb; have HG1 := Ac.mk (HG.out.below hb); clear hb; refine ⟨_, rfl, ?_⟩) | ((with_reducible refine Aw (f := 42) rfl ?_); (try (refine Gi (by rfl) ?_; dsimp only)); refine Bj (some 15) rfl rfl Tryd.func42 (by kernel_rfl) rfl #[.int .i64 v, .int .i64 (-999999), .int .i64 999999] rfl Yb_ ?_; (with_reducible refine (Df.calls v (-999999) 999999 true _ A1.out).mono ?_); rintro e w2 ⟨rfl, ⟨nd, rfl⟩⟩; refine ⟨_, rfl, ?_⟩) | ((with_reducible refine Aw (f := 43) rfl ?_); (try (refine Gi (by rfl) ?_; dsimp only)); refine Bj (some 20) rfl rfl Tryd.func43 (by kernel_rfl) rfl #[.int .i64 v] rfl Yb_ ?_; (with_reducible refine (Em.calls v t _ (HG1.out.below (by repeat (first | (with_reducible first | exact Below.refl _ _ | apply Ae | apply Aa | apply Ad)))) A2.out).mono ?_); rintro e w3 ⟨rfl, hb⟩; have HB2 := Ac.mk (Au Ya_ hb); clear hb; refine ⟨_, rfl, ?_⟩))
          go_ret2
          exact ⟨by first | rfl | (simp; done) | (simp [*]; done), by repeat (first | (with_reducible first | exact HB2.out | apply Ae | apply Aa | apply Ad))⟩
      · rw [if_neg hw] at h
        simp only [Option.some.injEq, Prod.mk.injEq] at h
        obtain ⟨rfl, rfl⟩ := h
        have A1 := Ac.mk (show Df.f v (-999999) 999999 = some false by
          unfold Df.f
          by_cases h1 : v ≥ -999999
          · rw [if_pos h1]; congr 1; simp; omega
          · rw [if_neg h1])
        clear hw
        go_enter Tryd.func54, Tryd.ntmps54
        go_wp2_with (first | ((with_reducible refine Aw (f := 64) rfl ?_); refine Bj (some 8) rfl rfl Tryd.func64 (by kernel_rfl) rfl #[.string a0] rfl Yb_ ?_; refine HX.out.mono ?_; rintro e w1 ⟨rfl, hb⟩; have HB := Ac.mk hb; have HG1 := Ac.mk (HG.out.below hb); clear hb; refine ⟨_, rfl, ?_⟩) | ((with_reducible refine Aw (f := 42) rfl ?_); (try (refine Gi (by rfl) ?_; dsimp only)); refine Bj (some 15) rfl rfl Tryd.func42 (by kernel_rfl) rfl #[.int .i64 v, .int .i64 (-999999), .int .i64 999999] rfl Yb_ ?_; (with_reducible refine (Df.calls v (-999999) 999999 false _ A1.out).mono ?_); rintro e w2 ⟨rfl, ⟨nd, rfl⟩⟩; refine ⟨_, rfl, ?_⟩))
        go_ret2
        exact ⟨by first | rfl | (simp; done) | (simp [*]; done), by repeat (first | (with_reducible first | exact HB.out | apply Ae | apply Aa | apply Ad))⟩
    · rw [ha] at h
      dsimp only at h
      simp only [Option.some.injEq, Prod.mk.injEq] at h
      obtain ⟨rfl, rfl⟩ := h
      obtain ⟨g_, tp, p, _, _, hv⟩ := HG.out.esyn
      have HA := Ac.mk (Go.Proofs.Any.strconv_Atoi_syntax_var Go.Proofs.Tryd.laysC172 a0 hz ha tp p w hv)
      clear ha hv
      have HX : Ac (Calls Tryd.prog 64 #[.string a0] w fun e w' => ∃ N, e = .returned (.tuple #[.int .i64 (0), .iface 95 (.pointer (some ⟨N, 0, none⟩))]) ∧ Below w.heap.size w w') := ⟨HA.out.mono (by
        rintro e w' ⟨N, rfl, _, _, hb⟩
        exact ⟨N, rfl, hb⟩)⟩
      clear HA
      go_enter Tryd.func54, Tryd.ntmps54
      go_wp2_with (first | ((with_reducible refine Aw (f := 64) rfl ?_); refine Bj (some 8) rfl rfl Tryd.func64 (by kernel_rfl) rfl #[.string a0] rfl Yb_ ?_; refine HX.out.mono ?_; rintro e w1 ⟨N_, rfl, hb⟩; have HB := Ac.mk hb; clear hb; refine ⟨_, rfl, ?_⟩))
      go_ret2
      exact ⟨by first | rfl | (simp; done) | (simp [*]; done), by repeat (first | (with_reducible first | exact HB.out | apply Ae | apply Aa | apply Ad))⟩
    · rw [ha] at h
      dsimp only at h
      simp only [Option.some.injEq, Prod.mk.injEq] at h
      obtain ⟨rfl, rfl⟩ := h
      obtain ⟨g_, tp, p, _, _, hv⟩ := HG.out.erng
      have HA := Ac.mk (Go.Proofs.Tryd.strconv_Atoi_range_var a0 hz ha tp p w hv)
      clear ha hv
      have HX : Ac (Calls Tryd.prog 64 #[.string a0] w fun e w' => ∃ N, e = .returned (.tuple #[.int .i64 (Lib.atoiSat a0.data.toList), .iface 95 (.pointer (some ⟨N, 0, none⟩))]) ∧ Below w.heap.size w w') := ⟨HA.out.mono (by
        rintro e w' ⟨N, rfl, _, _, hb⟩
        exact ⟨N, rfl, hb⟩)⟩
      clear HA
      go_enter Tryd.func54, Tryd.ntmps54
      go_wp2_with (first | ((with_reducible refine Aw (f := 64) rfl ?_); refine Bj (some 8) rfl rfl Tryd.func64 (by kernel_rfl) rfl #[.string a0] rfl Yb_ ?_; refine HX.out.mono ?_; rintro e w1 ⟨N_, rfl, hb⟩; have HB := Ac.mk hb; clear hb; refine ⟨_, rfl, ?_⟩))
      go_ret2
      exact ⟨by first | rfl | (simp; done) | (simp [*]; done), by repeat (first | (with_reducible first | exact HB.out | apply Ae | apply Aa | apply Ad))⟩
  · rw [if_neg hz] at h; cases h
end Go.Proofs.YtghnljoaklmakaaDoor.X

namespace Go.Proofs.YtghnljoaklmakaaDoor.X
open Go.RowKit Go.Proofs.YtghnljoaklmakaaDoorW.PrintWords Go.Proofs.YtghnljoaklmakaaDoorW.PrintLast Go.Proofs.YtghnljoaklmakaaDoorW.PrintMore
attribute [local go_sem] Ea Eb Eh Eg Dz D5 Ec D9
open Go.Proofs.YtghnljoaklmakaaDoorG
def Dj.l0 : Nat → List Int → List ByteArray → Int → Int → Option (List Int)
  | 0, _, _, _, _ => none
  | k + 1, x3, x10, x11, x12 => if x12 < x11 then (if 0 ≤ x12 then (if x12 < (x10.length : Int) then ((F9.f (rdOf ByteArray.empty x10 x12)).bind fun bt324 => (if bt324.2 = true then (if x3.length < 17592186044416 then (Dj.l0 k (x3 ++ [bt324.1]) x10 x11 (wrap64 (x12 + 1))) else (none)) else (Dj.l0 k x3 x10 x11 (wrap64 (x12 + 1))))) else (none)) else (none)) else ((some (([0, 0] : List Int) : List Int)).bind fun y329 => (if x3.length + y329.length < 17592186044416 then (some (x3 ++ y329)) else (none)))
def Dj.f (k : Nat) (a0 : ByteArray) : Option (List Int) := (strings_FieldsFunc.f a0 clo_53).bind fun t320 => (Dj.l0 k (([] : List Int)) t320 (t320.length : Int) 0)
theorem Dj.Ed : ∀ k, (∀ y0 y1 y2 y3, LeO (Dj.l0 k y0 y1 y2 y3) (Dj.l0 (k + 1) y0 y1 y2 y3))
  | 0 => fun _ _ _ _ r h => by simp [Dj.l0] at h
  | k + 1 => by
    have ih0 := Dj.Ed k
    · intro y0 y1 y2 y3
      unfold Dj.l0
      repeat' first
      | (with_reducible exact ih0 _ _ _ _)
      | (with_reducible exact LeO.refl _)
      | (with_reducible exact LeO.none _)
      | (with_reducible refine LeO.ite ?_ ?_)
      | (with_reducible refine LeO.bind ?_ (fun _ => ?_))
      | exact ih0 _ _ _ _
      | exact LeO.none _
      | refine LeO.ite ?_ ?_
      | refine LeO.bind ?_ (fun _ => ?_)
theorem Dj.mono : ∀ a0 k, LeO (Dj.f k a0) (Dj.f (k + 1) a0) := by
  intro a0 k
  have ih0 := Dj.Ed k
  unfold Dj.f
  repeat' first
      | (with_reducible exact ih0 _ _ _ _)
      | (with_reducible exact LeO.refl _)
      | (with_reducible exact LeO.none _)
      | (with_reducible refine LeO.ite ?_ ?_)
      | (with_reducible refine LeO.bind ?_ (fun _ => ?_))
      | exact ih0 _ _ _ _
      | exact LeO.none _
      | refine LeO.ite ?_ ?_
      | refine LeO.bind ?_ (fun _ => ?_)
set_option maxHeartbeats 8000000 in
set_option maxRecDepth 100000 in
theorem Dj.calls (k : Nat) (a0 : ByteArray) (r : List Int) (w : World) (hG : Eo w) (h : Dj.f k a0 = some r) :
    Calls Tryd.prog 34 #[.string a0] w fun e w' => ∃ v0_ : Value, e = .returned (v0_) ∧ Kd.R (Kd.int .i64) 3 w' w.heap.size (fun _ => True) v0_ r ∧ Below w.heap.size w w' := by
  have HGL := Ac.mk hG
  clear hG
  have HB := Ac.mk (Below.refl w.heap.size w)
  have H : ((strings_FieldsFunc.f a0 clo_53).bind fun t320 => (Dj.l0 k (([] : List Int)) t320 (t320.length : Int) 0)) = some r := h
  clear h
  obtain ⟨y317, hy317⟩ : ∃ y_ : List Int, y_ = (([] : List Int)) := ⟨_, rfl⟩
  replace H : ((strings_FieldsFunc.f a0 clo_53).bind fun t320 => (Dj.l0 k y317 t320 (t320.length : Int) 0)) = some r := by first | (rw [hy317]; with_reducible exact H) | (have H2_ := (Option.bind_some _ _).symm.trans H; rw [hy317]; with_reducible exact H2_) | (have H2_ := (Option.bind_some _ _).symm.trans H; with_reducible exact H2_) | with_reducible exact H | (rw [hy317]; exact H) | exact H
  have Ny317 := Ac.mk hy317
  clear hy317
  replace H := Option.bind_eq_some_iff.mp H
  obtain ⟨t320, A20, H⟩ := H
  replace H : (Dj.l0 k y317 t320 (t320.length : Int) 0) = some r := H
  have A2 := Ac.mk A20
  clear A20
  have H' := Ac.mk H
  clear H
  go_enter Tryd.func34, Tryd.ntmps34
  go_wp2_with (first | ((with_reducible refine Dh (N := 8) rfl ?_); refine Kd.R_lit (Kd.int .i64) _ 3 ?hg (N := 8) ?hd (xs := ([] : List Int)) (inner := []) (ok := fun _ => True) (okp := fun _ => True) ?hr ?hp (fun _ hk => hk) trivial (Below.refl _ _) (Nat.le_refl _) (by simp) ?_; (case hd => rfl); (case hg => rfl); (case hr => first | (go_simp; done) | (go_simp; rfl)); (case hp => exact (Ee.none _ _)); intro v318 w3 ho4 hb hg_ hnew_; clear hg_ hnew_; (first | rw [← Ny317.out] at ho4 | (simp only [Int.reduceToNat] at ho4; rw [← Ny317.out] at ho4)); have n0_ := Ac.mk (Kd.F6 ho4 (Az Ya_)); have n1_ := Ac.mk (Au Ya_ hb); clear HB; have HO319 := n0_; have HB := n1_; clear n0_ n1_; clear hb ho4) | ((with_reducible refine Aw (f := 52) rfl ?_); refine Bj (some 10) rfl rfl Tryd.func52 (by kernel_rfl) rfl #[.string a0, .func (.func 53) #[] #[]] rfl Yb_ ?_; (with_reducible refine (strings_FieldsFunc.calls a0 (clo_53) (.func (.func 53) #[] #[]) t320 _ ?side1 A2.out).mono ?_); (case side1 => exact clo_53.ok ); rintro e w5 ⟨v321, rfl, ho0, hb⟩; refine ⟨_, rfl, ?_⟩; have n0_ := Ac.mk (Kd.D6 (by (with_reducible repeat (first | apply Kd.Bg | apply Kd.Bh | apply Kd.Bl)); exact HO319.out) hb); have n1_ := Ac.mk (Kd.F6 ho0 (Az Ya_)); have n2_ := Ac.mk (Au Ya_ hb); clear HO319; clear HB; have HO319 := n0_; have HO322 := n1_; have HB := n2_; clear n0_ n1_ n2_; (try clear hb); (try clear hb2); (try clear hk); (try clear hi); (try clear ho0); obtain ⟨Ao6, co6, eo6⟩ := Kd.Ff HO322.out; subst eo6))
  go_loopg [3, 12] k (fun kq v3 v12 w' => ∃ (x3_1 : List Int) (x12_1 : Int), v12 = .int .i64 x12_1 ∧ Ac (Dj.l0 kq x3_1 t320 (t320.length : Int) x12_1 = some r) ∧ Ac (kq ≤ k) ∧ Ac (Kd.R (Kd.int .i64) 3 w' w.heap.size (fun _ => True) v3 x3_1) ∧ Ac (Kd.R Kd.string 9 w' w.heap.size (fun _ => True) (.slice Ao6 t320.length co6) t320) ∧ Ac (Below w.heap.size w w'))
  case atStart => exact ⟨(y317), (0), Yf_, H', ⟨Nat.le_refl _⟩, ⟨by (with_reducible repeat (first | apply Kd.Bg | apply Kd.Bh | apply Kd.Bl)); exact HO319.out⟩, ⟨by (with_reducible repeat (first | apply Kd.Bg | apply Kd.Bh | apply Kd.Bl)); exact HO322.out⟩, ⟨by repeat (first | (with_reducible first | exact HB.out | apply Ae | apply Aa | apply Ad) | exact HB.out)⟩⟩
  case round =>
    clear H'
    try clear p2
    try clear c3
    try clear c5
    obtain ⟨x3_1, x12_1, rfl, HA, HK1, HO_3, HO_10, HB⟩ := hrel
    cases gk with
    | zero => exact absurd HA.out (by simp [Dj.l0])
    | succ k1 =>
      have H := HA.out
      clear HA
      simp only [Dj.l0] at H
      by_cases c7 : x12_1 < (t320.length : Int)
      · rw [if_pos c7] at H
        have c7b0 : decide (x12_1 < (t320.length : Int)) = true := decide_eq_true c7
        clear c7
        by_cases c8 : 0 ≤ x12_1
        · rw [if_pos c8] at H
          have c8b0 : decide (0 ≤ x12_1) = true := decide_eq_true c8
          clear c8
          by_cases c9 : x12_1 < (t320.length : Int)
          · rw [if_pos c9] at H
            have c9b0 : decide (x12_1 < (t320.length : Int)) = true := decide_eq_true c9
            clear c9
            replace H := Option.bind_eq_some_iff.mp H
            obtain ⟨⟨t324, t325⟩, A100, H⟩ := H
            replace H : (if t325 = true then (if x3_1.length < 17592186044416 then (Dj.l0 k1 (x3_1 ++ [t324]) t320 (t320.length : Int) (wrap64 (x12_1 + 1))) else (none)) else (Dj.l0 k1 x3_1 t320 (t320.length : Int) (wrap64 (x12_1 + 1)))) = some r := H
            have A10 := Ac.mk A100
            clear A100
            by_cases c11 : t325 = true
            · subst c11
              have H1 : (if x3_1.length < 17592186044416 then (Dj.l0 k1 (x3_1 ++ [t324]) t320 (t320.length : Int) (wrap64 (x12_1 + 1))) else (none)) = some r := by rw [if_pos rfl] at H; exact H
              clear H
              have H := H1
              clear H1
              by_cases c12 : x3_1.length < 17592186044416
              · rw [if_pos c12] at H
                have LMc12 := Ac.mk c12
                clear c12
                obtain ⟨y326, hy326⟩ : ∃ y_ : List Int, y_ = (x3_1 ++ [t324]) := ⟨_, rfl⟩
                replace H : (Dj.l0 k1 y326 t320 (t320.length : Int) (wrap64 (x12_1 + 1))) = some r := by first | (rw [hy326]; with_reducible exact H) | (have H2_ := (Option.bind_some _ _).symm.trans H; rw [hy326]; with_reducible exact H2_) | (have H2_ := (Option.bind_some _ _).symm.trans H; with_reducible exact H2_) | with_reducible exact H | (rw [hy326]; exact H) | exact H
                have Ny326 := Ac.mk hy326
                clear hy326
                have H' := Ac.mk H
                clear H
                have p323 : 0 ≤ (x12_1 : Int) := of_decide_eq_true Yc_
                have q323 : x12_1 < (t320.length : Int) := of_decide_eq_true Yc_
                obtain ⟨ad323, e323, hx323_0⟩ := Kd.H9 (Kd.Dv HO_10.out).2.2 x12_1 p323 q323
                cases e323
                replace p323 := eq_true p323
                replace q323 := eq_true q323
                go_wp2_with (first | ((with_reducible refine Aw (f := 54) rfl ?_); refine Bj (some 18) rfl rfl Tryd.func54 (by kernel_rfl) rfl #[.string (rdOf ByteArray.empty t320 x12_1)] rfl Yb_ ?_; (with_reducible refine (F9.calls (rdOf ByteArray.empty t320 x12_1) t324 true _ ?side1 A10.out).mono ?_); (case side1 => exact Eo.below HGL.out Ya_); rintro e w13 ⟨rfl, hb⟩; refine ⟨_, rfl, ?_⟩; have n0_ := Ac.mk (Kd.D6 Ybf_ hb); have n1_ := Ac.mk (Kd.D6 Ycd_ hb); have n2_ := Ac.mk (Au Ya_ hb); clear HO_3; clear HO_10; clear HB; have HO_3 := n0_; have HO_10 := n1_; have HB := n2_; clear n0_ n1_ n2_; (try clear hb); (try clear hb2); (try clear hk); (try clear hi)) | ((with_reducible refine Gy (b := .append) (xs := #[.tmp 22, .tmp 24]) rfl ?_); at_builtin; refine Kd.R_append (Kd.int .i64) (w0 := w) w.heap.size rfl (.tmp 22) (.tmp 24) 53 3 (.int .i64 0) 8 rfl Tryd.underlying53 info3 rfl (by decide) (by omega) u3 x3_1 t324 [.int .i64 t324] (fun _ => True) (fun _ => False) rfl rfl ?aP (fun _ hk => hk.elim) ?aF ?aO ?aB ?aS ?aL ?_; (case aP => exact rfl); (case aB => exact Ya_); (case aF => exact (fun _ _ => trivial)); (case aO => exact Ybf_); (case aS => exact (Az Ya_)); (case aL => have := LMc12.out; omega); intro v327 w14 ho hb hg hat; rw [← Ny326.out] at ho; have n0_ := Ac.mk (Kd.R_over' Ycd_ (Kd.R_typed Ybf_) (by decide) hg); have n1_ := Ac.mk (hb); have n2_ := Ac.mk (ho); clear HO_10; clear HB; clear HO_3; have HO_10 := n0_; have HB := n1_; have HO328 := n2_; clear n0_ n1_ n2_; clear ho hb hg hat))
                go_roundg k1
                case measure => have := HK1.out; omega
                case rel => exact ⟨(y326), (wrap64 (x12_1 + 1)), Yf_, H', ⟨by have := HK1.out; omega⟩, ⟨by (with_reducible repeat (first | apply Kd.Bg | apply Kd.Bh | apply Kd.Bl)); exact HO328.out⟩, ⟨by (with_reducible repeat (first | apply Kd.Bg | apply Kd.Bh | apply Kd.Bl)); exact HO_10.out⟩, ⟨by repeat (first | (with_reducible first | exact HB.out | apply Ae | apply Aa | apply Ad) | exact HB.out)⟩⟩
              · rw [if_neg c12] at H
                exact absurd H (by simp)
            · replace c11 := Bool.eq_false_iff.mpr c11
              subst c11
              have H1 : (Dj.l0 k1 x3_1 t320 (t320.length : Int) (wrap64 (x12_1 + 1))) = some r := by rw [if_neg (show ¬ (false = true) by decide)] at H; exact H
              clear H
              have H := H1
              clear H1
              have H' := Ac.mk H
              clear H
              have p323 : 0 ≤ (x12_1 : Int) := of_decide_eq_true Yc_
              have q323 : x12_1 < (t320.length : Int) := of_decide_eq_true Yc_
              obtain ⟨ad323, e323, hx323_0⟩ := Kd.H9 (Kd.Dv HO_10.out).2.2 x12_1 p323 q323
              cases e323
              replace p323 := eq_true p323
              replace q323 := eq_true q323
              go_wp2_with (first | ((with_reducible refine Aw (f := 54) rfl ?_); refine Bj (some 18) rfl rfl Tryd.func54 (by kernel_rfl) rfl #[.string (rdOf ByteArray.empty t320 x12_1)] rfl Yb_ ?_; (with_reducible refine (F9.calls (rdOf ByteArray.empty t320 x12_1) t324 false _ ?side1 A10.out).mono ?_); (case side1 => exact Eo.below HGL.out Ya_); rintro e w15 ⟨rfl, hb⟩; refine ⟨_, rfl, ?_⟩; have n0_ := Ac.mk (Kd.D6 Ybf_ hb); have n1_ := Ac.mk (Kd.D6 Ycd_ hb); have n2_ := Ac.mk (Au Ya_ hb); clear HO_3; clear HO_10; clear HB; have HO_3 := n0_; have HO_10 := n1_; have HB := n2_; clear n0_ n1_ n2_; (try clear hb); (try clear hb2); (try clear hk); (try clear hi)))
              go_roundg k1
              case measure => have := HK1.out; omega
              case rel => exact ⟨(x3_1), (wrap64 (x12_1 + 1)), Yf_, H', ⟨by have := HK1.out; omega⟩, ⟨by (with_reducible repeat (first | apply Kd.Bg | apply Kd.Bh | apply Kd.Bl)); exact HO_3.out⟩, ⟨by (with_reducible repeat (first | apply Kd.Bg | apply Kd.Bh | apply Kd.Bl)); exact HO_10.out⟩, ⟨by repeat (first | (with_reducible first | exact HB.out | apply Ae | apply Aa | apply Ad) | exact HB.out)⟩⟩
          · rw [if_neg c9] at H
            exact absurd H (by simp)
        · rw [if_neg c8] at H
          exact absurd H (by simp)
      · rw [if_neg c7] at H
        have c7b0 : decide (x12_1 < (t320.length : Int)) = false := decide_eq_false c7
        clear c7
        obtain ⟨y329, hy329⟩ : ∃ y_ : List Int, y_ = (([0, 0] : List Int)) := ⟨_, rfl⟩
        replace H : (if x3_1.length + y329.length < 17592186044416 then (some (x3_1 ++ y329)) else (none)) = some r := by first | (rw [hy329]; with_reducible exact H) | (have H2_ := (Option.bind_some _ _).symm.trans H; rw [hy329]; with_reducible exact H2_) | (have H2_ := (Option.bind_some _ _).symm.trans H; with_reducible exact H2_) | with_reducible exact H | (rw [hy329]; exact H) | exact H
        have Ny329 := Ac.mk hy329
        clear hy329
        by_cases c16 : x3_1.length + y329.length < 17592186044416
        · rw [if_pos c16] at H
          have LMc16 := Ac.mk c16
          clear c16
          obtain ⟨y332, hy332⟩ : ∃ y_ : List Int, y_ = (x3_1 ++ y329) := ⟨_, rfl⟩
          replace H : (some y332) = some r := by first | (rw [hy332]; with_reducible exact H) | (have H2_ := (Option.bind_some _ _).symm.trans H; rw [hy332]; with_reducible exact H2_) | (have H2_ := (Option.bind_some _ _).symm.trans H; with_reducible exact H2_) | with_reducible exact H | (rw [hy332]; exact H) | exact H
          have Ny332 := Ac.mk hy332
          clear hy332
          obtain rfl := Option.some.inj H
          go_wp2_with (first | ((with_reducible refine Dh (N := 28) rfl ?_); refine Kd.R_lit (Kd.int .i64) _ 3 ?hg (N := 28) ?hd (xs := ([0, 0] : List Int)) (inner := [.int .i64 0, .int .i64 0]) (ok := fun _ => True) (okp := fun _ => True) ?hr ?hp (fun _ hk => hk) trivial (Below.refl _ _) (Nat.le_refl _) (by simp) ?_; (case hd => rfl); (case hg => rfl); (case hr => first | (go_simp; done) | (go_simp; rfl)); (case hp => exact (Ee.one (show Kd.M (Kd.int .i64) _ _ _ 0 [.int .i64 0] from rfl) (Ee.one (show Kd.M (Kd.int .i64) _ _ _ 0 [.int .i64 0] from rfl) (Ee.none _ _)))); intro v330 w17 ho18 hb hg_ hnew_; clear hg_ hnew_; (first | rw [← Ny329.out] at ho18 | (simp only [Int.reduceToNat] at ho18; rw [← Ny329.out] at ho18)); have n0_ := Ac.mk (Kd.Hr Ybf_ (Kd.R_base ho18) hb); have n1_ := Ac.mk (Kd.D6 Ycd_ hb); have n2_ := Ac.mk (Kd.F6 (Kd.R_new' ho18 (Kd.R_lt Ybf_)) (Az Ya_)); have n3_ := Ac.mk (Au Ya_ hb); clear HO_3; clear HO_10; clear HB; have HO_3 := n0_; have HO_10 := n1_; have HO331 := n2_; have HB := n3_; clear n0_ n1_ n2_ n3_; clear hb ho18; obtain ⟨Ao20, co20, eo20⟩ := Kd.Ff HO331.out; subst eo20) | ((with_reducible refine Gy (b := .append) (xs := #[.tmp 27, .tmp 28]) rfl ?_); at_builtin; refine Kd.R_append_rows (Kd.int .i64) (w0 := w) w.heap.size rfl (.tmp 27) (.tmp 28) 53 3 (.int .i64 0) 8 rfl Tryd.underlying53 info3 rfl (by decide) (by omega) u3 x3_1 y329 _ _ _ (fun k_ => some k_ ≠ (.slice Ao20 y329.length co20 : Value).ownBlock) (fun _ => False) rfl rfl ?aO ?aR (fun _ _ h => h) (fun _ h => h.elim) ?aF ?aB ?aS ?aL ?_; (case aR => repeat (first | exact (Kd.Dv HO331.out).2.2 | (with_reducible refine Kd.Fz ?_ _) | (with_reducible refine Kd.F5 ?_ _) | (with_reducible refine Kd.Gj ?_))); (case aB => exact Ya_); (case aF => exact (fun k_ hk => Kd.fresh' (Kd.R_lt (by (with_reducible repeat (first | apply Kd.Bg | apply Kd.Bh | apply Kd.Bl)); exact HO331.out)) k_ hk)); (case aO => exact (by (with_reducible repeat (first | apply Kd.Bg | apply Kd.Bh | apply Kd.Bl)); exact Kd.R_mono HO_3.out (fun _ hk => hk.2))); (case aS => exact (Az Ya_)); (case aL => have := LMc16.out; omega); intro v333 w19 ho hb hg hat; rw [← Ny332.out] at ho; have n0_ := Ac.mk (Kd.R_over' Ycd_ (Kd.R_typed Ybf_) (by decide) hg); have n1_ := Ac.mk (Kd.R_after (ok := (fun _ => True)) (by (with_reducible repeat (first | apply Kd.Bg | apply Kd.Bh | apply Kd.Bl)); exact HO331.out) hg hat); have n2_ := Ac.mk (hb); have n3_ := Ac.mk (ho); clear HO_10; clear HO331; clear HB; clear HO_3; have HO_10 := n0_; have HO331 := n1_; have HB := n2_; have HO334 := n3_; clear n0_ n1_ n2_ n3_; clear ho hb hg hat))
          go_ret
          exact ⟨_, by first | rfl | (simp [Aq, Ar] <;> rfl) | (simp [*, Aq, Ar] <;> rfl), by (with_reducible repeat (first | apply Kd.Bg | apply Kd.Bh | apply Kd.Bl)); exact Kd.R_mono HO334.out (fun _ hk => trivial), by repeat (first | (with_reducible first | exact HB.out | apply Ae | apply Aa | apply Ad) | exact HB.out)⟩
        · rw [if_neg c16] at H
          exact absurd H (by simp)
end Go.Proofs.YtghnljoaklmakaaDoor.X

