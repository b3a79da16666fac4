/-
  DERIVED: THE SHELF's CONTRACTS AT THIS DUMP, IN PLAIN WORDS (tools/lay-plain.mjs out of 'TrydShelf.lean', which tools/lay-shelf.mjs wrote): THE SAME DECLARATIONS UNDER THE SAME NAMES: 'import', 'namespace', 'open', 'def', 'theorem' AND NOTHING ELSE: no command of the shelf's: FOR A HAND-IN. Each laying: the table of numbers ('.._ren') and one theorem, a field a fact of the dump's own or the kernel
  Contracts of what only makes memory, in this frame. Conditions: those typed in each theorem.
  What Go's library answers, as contracts of this frame. Conditions: those typed in each theorem.
  What the reader reads, on words. Conditions: those typed in each theorem.
  The text of a term; read again it is the term. Conditions: those typed in each theorem.
  What single operations do, kind by kind (11): division, conversions; strings.Fields of a constant, strings.Join. Conditions: those typed in each theorem.
  How many parts a term of a kind has, by the reference's table: its walk. Conditions: those typed in each theorem.
  The walks of the reference's functions on terms. Conditions: those typed in each theorem.
  The walks of the reference's functions on terms (2): whether it is one. Conditions: those typed in each theorem.
  The walks of next, number and kind. Conditions: those typed in each theorem.
  The walk of kind. Conditions: those typed in each theorem.
-/
import Derived.Test.YtnflnbdlgdjfmabDoorU3
import Derived.Shelf.Strings.Builder1
import Derived.Shelf.Strings.Builder2
import Derived.Shelf.Strings.OnBuilder
import Derived.Shelf.Strconv.Atoi
import Derived.Shelf.Strconv.Itoa0
import Derived.Shelf.Strconv.Itoa1
import Derived.Shelf.LaysM
import Derived.Shelf.Strconv.Itoa2
import Derived.Shelf.Strconv.Itoa3
import Derived.Shelf.Strconv.AtoiErrFast
import Derived.Shelf.Strconv.ParseIntEmpty
import Derived.Shelf.Strconv.AtoiFail
import Derived.Shelf.Strconv.Clone
import Derived.Shelf.Strconv.SyntaxError
import Derived.Shelf.LaysC
import Derived.Shelf.Strconv.ToError
import Derived.Shelf.Strconv.Lower
import Derived.Shelf.Strconv.ParseUint10
import Derived.Shelf.Strconv.ParseUint10Empty
import Derived.Shelf.Strconv.ParseUint10Any
import Derived.Shelf.Strconv.ParseInt10
import Derived.Shelf.Strconv.AtoiLong
import Derived.Shelf.Strconv.AtoiInnerAll
import Derived.Shelf.Strconv.RangeError
import Derived.Shelf.Strconv.ToErrorRange
import Derived.Shelf.Strconv.AtoiAll
import Derived.Shelf.Strconv.ErrVarAll
import Derived.Shelf.Strings.Search1
import Derived.Shelf.Strings.Search2
import Derived.Shelf.Strings.Search3
import Derived.Shelf.Strings.Count
import Derived.Shelf.Strings.Shaped
import Derived.Shelf.Strings.Prefix
import Derived.Shelf.Strings.Split
import Derived.Shelf.Strings.Fields
import Derived.Shelf.Strings.Replace
import Derived.Shelf.Unicode.Latin
import Derived.Shelf.Unicode.DecodeSlow
import Derived.Shelf.Unicode.DecodeAny
import Derived.Shelf.Unicode.Is16White
import Derived.Shelf.Unicode.IsSpaceAny
import Derived.Shelf.Unicode.Is16WhiteD
import Derived.Shelf.Unicode.IsSpaceAnyD
import Derived.Shelf.Strings.FieldsFuncAny
import Derived.Shelf.Unicode.Is16Any
import Derived.Shelf.Unicode.Is32Any
import Derived.Shelf.Unicode.ExclAny
import Derived.Shelf.Strings.FieldsFuncGrows
import Derived.Test.YtnflnbdlgdjfmabDoorProg
import Derived.Lib.SmallJoins
import Derived.Lib.LaidTab
import Derived.Laws.BytesArg
import Derived.Lib.JoinLaws
import Derived.WalkKit
import Derived.Carry
import Derived.MapKept
namespace Go.Proofs
open Go.Shelf
open Go.RowKit in
open Go.RowKit in
open Go.RowKit in
open Go.RowKit in
open Go.RowKit in
def Tryd.lays156_ren : Go.Shelf.Ren := ⟨fun | 156 => 54 | 165 => 64 | 166 => 66 | 169 => 68 | 240 => 88 | 241 => 89 | 276 => 106 | 277 => 107 | n => n, fun | 31 => 52 | 9 => 9 | 3 => 3 | 4 => 4 | 0 => 0 | 20 => 20 | 72 => 100 | 76 => 104 | 70 => 97 | 37 => 98 | 75 => 103 | 127 => 128 | 164 => 148 | 5 => 5 | 80 => 75 | n => n, fun | n => n⟩
theorem Tryd.lays156 : Go.Proofs.Lays.n156 Tryd.prog Tryd.lays156_ren := {
  mixed := by kernel_rfl
  f156 := Tryd.func54.trans (congrArg some (by kernel_rfl))
  f165 := Tryd.func64.trans (congrArg some (by kernel_rfl))
  f166 := Tryd.func66.trans (congrArg some (by kernel_rfl))
  f169 := Tryd.func68.trans (congrArg some (by kernel_rfl))
  f240 := Tryd.func88.trans (congrArg some (by kernel_rfl))
  f241 := Tryd.func89.trans (congrArg some (by kernel_rfl))
  f276 := Tryd.func106.trans (congrArg some (by kernel_rfl))
  f277 := Tryd.func107.trans (congrArg some (by kernel_rfl))
  t0 := Tryd.underlying0
  a0 := Tryd.isAgg0
  z0 := Tryd.sizeOf0
  v0 := Tryd.zeroValue0
  t3 := Tryd.underlying3
  a3 := Tryd.isAgg3
  z3 := Tryd.sizeOf3
  v3 := Tryd.zeroValue3
  t4 := Tryd.underlying4
  a4 := Tryd.isAgg4
  z4 := Tryd.sizeOf4
  v4 := Tryd.zeroValue4
  t9 := Tryd.underlying9
  a9 := Tryd.isAgg9
  z9 := Tryd.sizeOf9
  v9 := Tryd.zeroValue9
  t20 := Tryd.underlying20
  a20 := Tryd.isAgg20
  z20 := Tryd.sizeOf20
  v20 := Tryd.zeroValue20
  t31 := Tryd.underlying52
  a31 := Tryd.isAgg52
  z31 := Tryd.sizeOf52
  v31 := Tryd.zeroValue52
  t37 := Tryd.underlying98
  a37 := Tryd.isAgg98
  z37 := Tryd.sizeOf98
  v37 := Tryd.zeroValue98
  t70 := Tryd.underlying97
  a70 := Tryd.isAgg97
  z70 := Tryd.sizeOf97
  v70 := Tryd.zeroValue97
  t72 := Tryd.underlying100
  a72 := Tryd.isAgg100
  z72 := Tryd.sizeOf100
  v72 := Tryd.zeroValue100
  t75 := Tryd.underlying103
  a75 := Tryd.isAgg103
  z75 := Tryd.sizeOf103
  v75 := Tryd.zeroValue103
  t76 := Tryd.underlying104
  a76 := Tryd.isAgg104
  z76 := Tryd.sizeOf104
  v76 := Tryd.zeroValue104
  t127 := Tryd.underlying128
  a127 := Tryd.isAgg128
  z127 := Tryd.sizeOf128
  v127 := Tryd.zeroValue128
  t164 := Tryd.underlying148
  a164 := Tryd.isAgg148
  z164 := Tryd.sizeOf148
  v164 := Tryd.zeroValue148 }
theorem Tryd.Builder_Extra_156 : Builder.Extra Tryd.prog Tryd.lays156_ren := {
  sizeBuilder := by kernel_rfl
  liesBuilder := by kernel_rfl
  t5 := Tryd.underlying5
  a5 := Tryd.isAgg5
  z5 := Tryd.sizeOf5
  v5 := Tryd.zeroValue5
  infoByte := by kernel_rfl
  cellsByte := by kernel_rfl
  sizeByte := by kernel_rfl
  neB5 := by decide }
open Go.RowKit in
open Go.RowKit in
/-- strings.Join: "Join concatenates the elements of its first argument to create a single string. The separator string sep is placed between elements in the resulting string.": HOWEVER MANY ELEMENTS. Below the heap's end the world is as it was. (LAID: no walk: one application.) -/
theorem Tryd.strings_Join (bk o c : Nat) (xs : List ByteArray) (sep : ByteArray) (w : World) (hcells : ∀ (j : Nat) x, xs[j]? = some x → w.cell? ⟨bk, o + j, none⟩ = some (.string x)) (hbk : bk < w.heap.size) (hN : xs.length ≤ 140737488355328) (hcap : xs.length ≤ c) (hlen : (Lib.join (xs.map (·.data.toList)) sep.data.toList).length ≤ 140737488355328) :
    Calls Tryd.prog 54 #[.slice (some ⟨bk, o, none⟩) xs.length c, .string sep] w fun e w' => e = .returned (.string ⟨(Lib.join (xs.map (·.data.toList)) sep.data.toList).toArray⟩) ∧ Below w.heap.size w w' := Any.strings_Join Tryd.lays156 Tryd.Builder_Extra_156 bk o c xs sep w hcells hbk hN hcap hlen
open Go.RowKit in
open Go.RowKit in
open Go.Lib in
open Go.Lib in
open Go.Lib in
open Go.Lib in
open Go.RowKit Go.Sort Go.Lib in
open Go.RowKit Go.Sort Go.Lib in
open Go.RowKit Go.Sort Go.Lib in
open Go.RowKit Go.Sort Go.Lib in
open Go.RowKit Go.Sort Go.Lib in
def Tryd.laysM171_ren : Go.Shelf.Ren := ⟨fun | 171 => 44 | 243 => 62 | 246 => 85 | 283 => 102 | 284 => 103 | 285 => 104 | 286 => 105 | 129 => 120 | 317 => 119 | 318 => 121 | 319 => 122 | 320 => 123 | 337 => 129 | 338 => 130 | n => n, fun | 3 => 3 | 9 => 9 | 2 => 2 | 4 => 4 | 171 => 142 | 0 => 0 | 53 => 143 | 37 => 98 | 5 => 5 | 173 => 146 | 212 => 173 | 51 => 130 | 20 => 20 | 213 => 174 | 46 => 151 | 232 => 193 | 233 => 194 | n => n, fun | 17 => 8 | 18 => 11 | 19 => 12 | n => n⟩
theorem Tryd.laysM171 : Go.Proofs.LaysM.n171 Tryd.prog Tryd.laysM171_ren := {
  mixed := by kernel_rfl
  f129 := Tryd.func120.trans (congrArg some (by kernel_rfl))
  f171 := Tryd.func44.trans (congrArg some (by kernel_rfl))
  f243 := Tryd.func62.trans (congrArg some (by kernel_rfl))
  f246 := Tryd.func85.trans (congrArg some (by kernel_rfl))
  f283 := Tryd.func102.trans (congrArg some (by kernel_rfl))
  f284 := Tryd.func103.trans (congrArg some (by kernel_rfl))
  f285 := Tryd.func104.trans (congrArg some (by kernel_rfl))
  f286 := Tryd.func105.trans (congrArg some (by kernel_rfl))
  f317 := Tryd.func119.trans (congrArg some (by kernel_rfl))
  f318 := Tryd.func121.trans (congrArg some (by kernel_rfl))
  f319 := Tryd.func122.trans (congrArg some (by kernel_rfl))
  f320 := Tryd.func123.trans (congrArg some (by kernel_rfl))
  f337 := Tryd.func129.trans (congrArg some (by kernel_rfl))
  f338 := Tryd.func130.trans (congrArg some (by kernel_rfl))
  t0 := Tryd.underlying0
  a0 := Tryd.isAgg0
  z0 := Tryd.sizeOf0
  v0 := Tryd.zeroValue0
  t2 := Tryd.underlying2
  a2 := Tryd.isAgg2
  z2 := Tryd.sizeOf2
  v2 := Tryd.zeroValue2
  t3 := Tryd.underlying3
  a3 := Tryd.isAgg3
  z3 := Tryd.sizeOf3
  v3 := Tryd.zeroValue3
  t4 := Tryd.underlying4
  a4 := Tryd.isAgg4
  z4 := Tryd.sizeOf4
  v4 := Tryd.zeroValue4
  t5 := Tryd.underlying5
  a5 := Tryd.isAgg5
  z5 := Tryd.sizeOf5
  v5 := Tryd.zeroValue5
  t9 := Tryd.underlying9
  a9 := Tryd.isAgg9
  z9 := Tryd.sizeOf9
  v9 := Tryd.zeroValue9
  t20 := Tryd.underlying20
  a20 := Tryd.isAgg20
  z20 := Tryd.sizeOf20
  v20 := Tryd.zeroValue20
  t37 := Tryd.underlying98
  a37 := Tryd.isAgg98
  z37 := Tryd.sizeOf98
  v37 := Tryd.zeroValue98
  t46 := Tryd.underlying151
  a46 := Tryd.isAgg151
  z46 := Tryd.sizeOf151
  v46 := Tryd.zeroValue151
  t51 := Tryd.underlying130
  a51 := Tryd.isAgg130
  z51 := Tryd.sizeOf130
  v51 := Tryd.zeroValue130
  t53 := Tryd.underlying143
  a53 := Tryd.isAgg143
  z53 := Tryd.sizeOf143
  v53 := Tryd.zeroValue143
  t171 := Tryd.underlying142
  a171 := Tryd.isAgg142
  z171 := Tryd.sizeOf142
  v171 := Tryd.zeroValue142
  t173 := Tryd.underlying146
  a173 := Tryd.isAgg146
  z173 := Tryd.sizeOf146
  v173 := Tryd.zeroValue146
  t212 := Tryd.underlying173
  a212 := Tryd.isAgg173
  z212 := Tryd.sizeOf173
  v212 := Tryd.zeroValue173
  t213 := Tryd.underlying174
  a213 := Tryd.isAgg174
  z213 := Tryd.sizeOf174
  t232 := Tryd.underlying193
  a232 := Tryd.isAgg193
  z232 := Tryd.sizeOf193
  v232 := Tryd.zeroValue193
  t233 := Tryd.underlying194
  a233 := Tryd.isAgg194
  z233 := Tryd.sizeOf194
  v233 := Tryd.zeroValue194
  g17 := by kernel_rfl
  g18 := by kernel_rfl
  g19 := by kernel_rfl
  i0 := by kernel_rfl
  i2 := by kernel_rfl
  i3 := by kernel_rfl
  i4 := by kernel_rfl
  i5 := by kernel_rfl
  i9 := by kernel_rfl
  i20 := by kernel_rfl
  i37 := by kernel_rfl
  i46 := by kernel_rfl
  i51 := by kernel_rfl
  i53 := by kernel_rfl
  i171 := by kernel_rfl
  i173 := by kernel_rfl
  i212 := by kernel_rfl
  i232 := by kernel_rfl
  i233 := by kernel_rfl
  m17 := by kernel_rfl
  m18 := by kernel_rfl
  m19 := by kernel_rfl }
open Go.RowKit Go.Sort Go.Lib in
/-- strconv.Itoa: "Itoa is equivalent to FormatInt(int64(i), 10).": i's DECIMAL NUMERAL ('Lib.itoa': a '-' where i is negative, then the digits), FOR EVERY int. The world behind the call: the world before it, new blocks behind the heap (the library's 'var a [24]byte'), draws. (LAID: no walk: one application.) -/
theorem Tryd.strconv_Itoa (n : Int) (h0 : -9223372036854775808 ≤ n) (h1 : n ≤ 9223372036854775807) (w : World) (htab : Lib.TabIs Tryd.prog w "internal/strconv.uint64pow10" .u64 Lib.pow10Tab) :
    Calls Tryd.prog 44 #[.int .i64 n] w fun e w' => e = .returned (.string ⟨(Lib.itoa n).toArray⟩) ∧ ∃ k os, w' = grow (w.drewN k) os := Any.strconv_Itoa Tryd.laysM171 n h0 h1 w htab
open Go.RowKit Go.Sort Go.Lib in
open Go.RowKit in
open Go.RowKit in
open Go.RowKit in
open Go.RowKit in
open Go.RowKit in
open Go.RowKit in
open Go.RowKit in
open Go.RowKit in
open Go.RowKit in
open Go.RowKit in
open Go.RowKit in
open Go.RowKit in
open Go.RowKit in
open Go.RowKit in
open Go.RowKit in
open Go.RowKit in
def Tryd.laysC172_ren : Go.Shelf.Ren := ⟨fun | 172 => 70 | 244 => 92 | 245 => 93 | 247 => 112 | 279 => 113 | 280 => 114 | 281 => 115 | 282 => 116 | 287 => 126 | 316 => 127 | 171 => 44 | 205 => 128 | 321 => 131 | 322 => 132 | 243 => 62 | 246 => 85 | 283 => 102 | 284 => 103 | 285 => 104 | 286 => 105 | 129 => 120 | 317 => 119 | 318 => 121 | 319 => 122 | 320 => 123 | 337 => 129 | 338 => 130 | n => n, fun | 9 => 9 | 3 => 3 | 75 => 103 | 76 => 104 | 4 => 4 | 5 => 5 | 167 => 155 | 37 => 98 | 0 => 0 | 85 => 156 | 2 => 2 | 168 => 158 | 53 => 143 | 175 => 179 | 46 => 151 | 210 => 183 | 127 => 128 | 145 => 192 | 143 => 190 | 21 => 21 | 171 => 142 | 173 => 146 | 212 => 173 | 51 => 130 | 20 => 20 | 213 => 174 | 232 => 193 | 233 => 194 | 80 => 75 | n => n, fun | 15 => 9 | 16 => 10 | 17 => 8 | 18 => 11 | 19 => 12 | n => n⟩
theorem Tryd.laysC172 : Go.Proofs.LaysC.n172 Tryd.prog Tryd.laysC172_ren := {
  mixed := by kernel_rfl
  f129 := Tryd.func120.trans (congrArg some (by kernel_rfl))
  f171 := Tryd.func44.trans (congrArg some (by kernel_rfl))
  f172 := Tryd.func70.trans (congrArg some (by kernel_rfl))
  f205 := Tryd.func128.trans (congrArg some (by kernel_rfl))
  f243 := Tryd.func62.trans (congrArg some (by kernel_rfl))
  f244 := Tryd.func92.trans (congrArg some (by kernel_rfl))
  f245 := Tryd.func93.trans (congrArg some (by kernel_rfl))
  f246 := Tryd.func85.trans (congrArg some (by kernel_rfl))
  f247 := Tryd.func112.trans (congrArg some (by kernel_rfl))
  f279 := Tryd.func113.trans (congrArg some (by kernel_rfl))
  f280 := Tryd.func114.trans (congrArg some (by kernel_rfl))
  f281 := Tryd.func115.trans (congrArg some (by kernel_rfl))
  f282 := Tryd.func116.trans (congrArg some (by kernel_rfl))
  f283 := Tryd.func102.trans (congrArg some (by kernel_rfl))
  f284 := Tryd.func103.trans (congrArg some (by kernel_rfl))
  f285 := Tryd.func104.trans (congrArg some (by kernel_rfl))
  f286 := Tryd.func105.trans (congrArg some (by kernel_rfl))
  f287 := Tryd.func126.trans (congrArg some (by kernel_rfl))
  f316 := Tryd.func127.trans (congrArg some (by kernel_rfl))
  f317 := Tryd.func119.trans (congrArg some (by kernel_rfl))
  f318 := Tryd.func121.trans (congrArg some (by kernel_rfl))
  f319 := Tryd.func122.trans (congrArg some (by kernel_rfl))
  f320 := Tryd.func123.trans (congrArg some (by kernel_rfl))
  f321 := Tryd.func131.trans (congrArg some (by kernel_rfl))
  f322 := Tryd.func132.trans (congrArg some (by kernel_rfl))
  f337 := Tryd.func129.trans (congrArg some (by kernel_rfl))
  f338 := Tryd.func130.trans (congrArg some (by kernel_rfl))
  t0 := Tryd.underlying0
  a0 := Tryd.isAgg0
  z0 := Tryd.sizeOf0
  v0 := Tryd.zeroValue0
  t2 := Tryd.underlying2
  a2 := Tryd.isAgg2
  z2 := Tryd.sizeOf2
  v2 := Tryd.zeroValue2
  t3 := Tryd.underlying3
  a3 := Tryd.isAgg3
  z3 := Tryd.sizeOf3
  v3 := Tryd.zeroValue3
  t4 := Tryd.underlying4
  a4 := Tryd.isAgg4
  z4 := Tryd.sizeOf4
  v4 := Tryd.zeroValue4
  t5 := Tryd.underlying5
  a5 := Tryd.isAgg5
  z5 := Tryd.sizeOf5
  v5 := Tryd.zeroValue5
  t9 := Tryd.underlying9
  a9 := Tryd.isAgg9
  z9 := Tryd.sizeOf9
  v9 := Tryd.zeroValue9
  t20 := Tryd.underlying20
  a20 := Tryd.isAgg20
  z20 := Tryd.sizeOf20
  v20 := Tryd.zeroValue20
  t21 := Tryd.underlying21
  a21 := Tryd.isAgg21
  z21 := Tryd.sizeOf21
  v21 := Tryd.zeroValue21
  t37 := Tryd.underlying98
  a37 := Tryd.isAgg98
  z37 := Tryd.sizeOf98
  v37 := Tryd.zeroValue98
  t46 := Tryd.underlying151
  a46 := Tryd.isAgg151
  z46 := Tryd.sizeOf151
  v46 := Tryd.zeroValue151
  t51 := Tryd.underlying130
  a51 := Tryd.isAgg130
  z51 := Tryd.sizeOf130
  v51 := Tryd.zeroValue130
  t53 := Tryd.underlying143
  a53 := Tryd.isAgg143
  z53 := Tryd.sizeOf143
  v53 := Tryd.zeroValue143
  t75 := Tryd.underlying103
  a75 := Tryd.isAgg103
  z75 := Tryd.sizeOf103
  v75 := Tryd.zeroValue103
  t76 := Tryd.underlying104
  a76 := Tryd.isAgg104
  z76 := Tryd.sizeOf104
  v76 := Tryd.zeroValue104
  t85 := Tryd.underlying156
  a85 := Tryd.isAgg156
  z85 := Tryd.sizeOf156
  v85 := Tryd.zeroValue156
  t127 := Tryd.underlying128
  a127 := Tryd.isAgg128
  z127 := Tryd.sizeOf128
  v127 := Tryd.zeroValue128
  t143 := Tryd.underlying190
  a143 := Tryd.isAgg190
  z143 := Tryd.sizeOf190
  v143 := Tryd.zeroValue190
  t145 := Tryd.underlying192
  a145 := Tryd.isAgg192
  z145 := Tryd.sizeOf192
  v145 := Tryd.zeroValue192
  t167 := Tryd.underlying155
  a167 := Tryd.isAgg155
  z167 := Tryd.sizeOf155
  v167 := Tryd.zeroValue155
  t168 := Tryd.underlying158
  a168 := Tryd.isAgg158
  z168 := Tryd.sizeOf158
  v168 := Tryd.zeroValue158
  t171 := Tryd.underlying142
  a171 := Tryd.isAgg142
  z171 := Tryd.sizeOf142
  v171 := Tryd.zeroValue142
  t173 := Tryd.underlying146
  a173 := Tryd.isAgg146
  z173 := Tryd.sizeOf146
  v173 := Tryd.zeroValue146
  t175 := Tryd.underlying179
  a175 := Tryd.isAgg179
  z175 := Tryd.sizeOf179
  v175 := Tryd.zeroValue179
  t210 := Tryd.underlying183
  a210 := Tryd.isAgg183
  z210 := Tryd.sizeOf183
  v210 := Tryd.zeroValue183
  t212 := Tryd.underlying173
  a212 := Tryd.isAgg173
  z212 := Tryd.sizeOf173
  v212 := Tryd.zeroValue173
  t213 := Tryd.underlying174
  a213 := Tryd.isAgg174
  z213 := Tryd.sizeOf174
  t232 := Tryd.underlying193
  a232 := Tryd.isAgg193
  z232 := Tryd.sizeOf193
  v232 := Tryd.zeroValue193
  t233 := Tryd.underlying194
  a233 := Tryd.isAgg194
  z233 := Tryd.sizeOf194
  v233 := Tryd.zeroValue194
  g15 := by kernel_rfl
  g16 := by kernel_rfl
  g17 := by kernel_rfl
  g18 := by kernel_rfl
  g19 := by kernel_rfl
  t80 := Tryd.underlying75
  a80 := Tryd.isAgg75
  z80 := Tryd.sizeOf75
  v80 := Tryd.zeroValue75
  i0 := by kernel_rfl
  i2 := by kernel_rfl
  i3 := by kernel_rfl
  i4 := by kernel_rfl
  i5 := by kernel_rfl
  i9 := by kernel_rfl
  i20 := by kernel_rfl
  i21 := by kernel_rfl
  i37 := by kernel_rfl
  i46 := by kernel_rfl
  i51 := by kernel_rfl
  i53 := by kernel_rfl
  i75 := by kernel_rfl
  i76 := by kernel_rfl
  i80 := by kernel_rfl
  i85 := by kernel_rfl
  i127 := by kernel_rfl
  i143 := by kernel_rfl
  i145 := by kernel_rfl
  i167 := by kernel_rfl
  i168 := by kernel_rfl
  i171 := by kernel_rfl
  i173 := by kernel_rfl
  i175 := by kernel_rfl
  i210 := by kernel_rfl
  i212 := by kernel_rfl
  i232 := by kernel_rfl
  i233 := by kernel_rfl
  m15 := by kernel_rfl
  m16 := by kernel_rfl
  m17 := by kernel_rfl
  m18 := by kernel_rfl
  m19 := by kernel_rfl
  c0 := by kernel_rfl
  c2 := by kernel_rfl
  c3 := by kernel_rfl
  c4 := by kernel_rfl
  c5 := by kernel_rfl
  c9 := by kernel_rfl
  c20 := by kernel_rfl
  c21 := by kernel_rfl
  c37 := by kernel_rfl
  c46 := by kernel_rfl
  c51 := by kernel_rfl
  c53 := by kernel_rfl
  c75 := by kernel_rfl
  c76 := by kernel_rfl
  c80 := by kernel_rfl
  c85 := by kernel_rfl
  c127 := by kernel_rfl
  c143 := by kernel_rfl
  c145 := by kernel_rfl
  c167 := by kernel_rfl
  c168 := by kernel_rfl
  c171 := by kernel_rfl
  c173 := by kernel_rfl
  c175 := by kernel_rfl
  c210 := by kernel_rfl
  c212 := by kernel_rfl
  c213 := by kernel_rfl
  c232 := by kernel_rfl
  c233 := by kernel_rfl }
open Go.RowKit in
/-- strconv.Atoi, AT EVERY STRING THAT SPELLS AN int ('Lib.atoiAll .. = .ok v'; of whatever length: leading zeros count): v, AND NO ERROR. The world: as it was, or with the one new row that '[]byte(..)' lays. (LAID: no walk: one application.) -/
theorem Tryd.strconv_Atoi_ok (s : ByteArray) (hmax : s.size ≤ 9223372036854775806) (v : Int) (h : Lib.atoiAll s.data.toList = .ok v) (w : World) :
    Calls Tryd.prog 70 #[.string s] w fun e w' => e = .returned (.tuple #[.int .i64 v, .nilIface]) ∧ (w' = w ∨ ∃ t, w' = Lib.bytesWorld w 5 t) := Any.strconv_Atoi_ok Tryd.laysC172 s hmax v h w
open Go.RowKit in
open Go.RowKit in
open Go.RowKit in
theorem Tryd.strconv_Atoi_syntax_var (s : ByteArray) (hlim : s.size ≤ 281474976710656) (h : Lib.atoiAll s.data.toList = Lib.atoiAll []) (tp : TypeId) (p : Value) (w : World) (hvar : w.var? Tryd.prog "strconv.ErrSyntax" = some #[.iface tp p]) :
    Calls Tryd.prog 70 #[.string s] w fun e w' => ∃ N, e = .returned (.tuple #[.int .i64 0, .iface 158 (.pointer (some ⟨N, 0, none⟩))]) ∧ w.heap.size ≤ N ∧ w'.heap[N]? = some (.cells #[.string ⟨#[65, 116, 111, 105]⟩, .string s, .iface tp p] 183 (0, 0)) ∧ Below w.heap.size w w' := Any.strconv_Atoi_syntax_var Tryd.laysC172 s hlim h tp p w hvar
open Go.RowKit in
theorem Tryd.strconv_Atoi_range_var (s : ByteArray) (hlim : s.size ≤ 281474976710656) (h : Lib.atoiAll s.data.toList = .range) (tp : TypeId) (p : Value) (w : World) (hvar : w.var? Tryd.prog "strconv.ErrRange" = some #[.iface tp p]) :
    Calls Tryd.prog 70 #[.string s] w fun e w' => ∃ N, e = .returned (.tuple #[.int .i64 (Lib.atoiSat s.data.toList), .iface 158 (.pointer (some ⟨N, 0, none⟩))]) ∧ w.heap.size ≤ N ∧ w'.heap[N]? = some (.cells #[.string ⟨#[65, 116, 111, 105]⟩, .string s, .iface tp p] 183 (0, 0)) ∧ Below w.heap.size w w' := Any.strconv_Atoi_range_var Tryd.laysC172 s hlim h tp p w hvar
open Go.RowKit Go.Lib in
open Go.RowKit Go.Lib in
open Go.RowKit Go.Lib in
open Go.RowKit Go.Lib in
open Go.RowKit Go.Lib in
open Go.RowKit Go.Lib in
open Go.RowKit Go.Lib in
open Go.RowKit Go.Lib in
open Go.RowKit Go.Lib in
open Go.RowKit Go.Lib in
open Go.RowKit Go.Lib in
open Go.RowKit Go.Lib in
open Go.RowKit Go.Lib in
open Go.RowKit Go.Lib in
def Tryd.lays99_ren : Go.Shelf.Ren := ⟨fun | 99 => 48 | 206 => 69 | n => n, fun | 9 => 9 | 4 => 4 | 3 => 3 | n => n, fun | n => n⟩
theorem Tryd.lays99 : Go.Proofs.Lays.n99 Tryd.prog Tryd.lays99_ren := {
  mixed := by kernel_rfl
  f99 := Tryd.func48.trans (congrArg some (by kernel_rfl))
  f206 := Tryd.func69.trans (congrArg some (by kernel_rfl))
  t3 := Tryd.underlying3
  a3 := Tryd.isAgg3
  z3 := Tryd.sizeOf3
  v3 := Tryd.zeroValue3
  t4 := Tryd.underlying4
  a4 := Tryd.isAgg4
  z4 := Tryd.sizeOf4
  v4 := Tryd.zeroValue4
  t9 := Tryd.underlying9
  a9 := Tryd.isAgg9
  z9 := Tryd.sizeOf9
  v9 := Tryd.zeroValue9 }
open Go.RowKit Go.Lib in
/-- strings.HasPrefix: "HasPrefix reports whether the string s begins with prefix.": IT RETURNS 'Lib.hasPrefix s prefix'; the world is as it was. (LAID: no walk: one application.) -/
theorem Tryd.strings_HasPrefix (s p : ByteArray) (w : World) :
    Calls Tryd.prog 48 #[.string s, .string p] w fun e w' => e = .returned (.bool (Lib.hasPrefix s.data.toList p.data.toList)) ∧ w' = w := Any.strings_HasPrefix Tryd.lays99 s p w
open Go.RowKit Go.Lib in
def Tryd.lays157_ren : Go.Shelf.Ren := ⟨fun | 157 => 52 | 229 => 29 | 199 => 71 | 261 => 94 | 311 => 117 | 312 => 118 | n => n, fun | 9 => 9 | 31 => 52 | 3 => 3 | 5 => 5 | 4 => 4 | 119 => 108 | 0 => 0 | 40 => 54 | 152 => 72 | 21 => 21 | 154 => 74 | 51 => 130 | 141 => 132 | 196 => 164 | 193 => 161 | 198 => 167 | 49 => 165 | 194 => 162 | 201 => 170 | 226 => 185 | 46 => 151 | 227 => 186 | n => n, fun | 0 => 3 | 6 => 4 | n => n⟩
theorem Tryd.lays157 : Go.Proofs.Lays.n157 Tryd.prog Tryd.lays157_ren := {
  mixed := by kernel_rfl
  f157 := Tryd.func52.trans (congrArg some (by kernel_rfl))
  f199 := Tryd.func71.trans (congrArg some (by kernel_rfl))
  f229 := Tryd.func29.trans (congrArg some (by kernel_rfl))
  f261 := Tryd.func94.trans (congrArg some (by kernel_rfl))
  f311 := Tryd.func117.trans (congrArg some (by kernel_rfl))
  f312 := Tryd.func118.trans (congrArg some (by kernel_rfl))
  t0 := Tryd.underlying0
  a0 := Tryd.isAgg0
  z0 := Tryd.sizeOf0
  v0 := Tryd.zeroValue0
  t3 := Tryd.underlying3
  a3 := Tryd.isAgg3
  z3 := Tryd.sizeOf3
  v3 := Tryd.zeroValue3
  t4 := Tryd.underlying4
  a4 := Tryd.isAgg4
  z4 := Tryd.sizeOf4
  v4 := Tryd.zeroValue4
  t5 := Tryd.underlying5
  a5 := Tryd.isAgg5
  z5 := Tryd.sizeOf5
  v5 := Tryd.zeroValue5
  t9 := Tryd.underlying9
  a9 := Tryd.isAgg9
  z9 := Tryd.sizeOf9
  v9 := Tryd.zeroValue9
  t21 := Tryd.underlying21
  a21 := Tryd.isAgg21
  z21 := Tryd.sizeOf21
  v21 := Tryd.zeroValue21
  t31 := Tryd.underlying52
  a31 := Tryd.isAgg52
  z31 := Tryd.sizeOf52
  v31 := Tryd.zeroValue52
  t40 := Tryd.underlying54
  a40 := Tryd.isAgg54
  z40 := Tryd.sizeOf54
  v40 := Tryd.zeroValue54
  t46 := Tryd.underlying151
  a46 := Tryd.isAgg151
  z46 := Tryd.sizeOf151
  v46 := Tryd.zeroValue151
  t49 := Tryd.underlying165
  a49 := Tryd.isAgg165
  z49 := Tryd.sizeOf165
  v49 := Tryd.zeroValue165
  t51 := Tryd.underlying130
  a51 := Tryd.isAgg130
  z51 := Tryd.sizeOf130
  v51 := Tryd.zeroValue130
  t119 := Tryd.underlying108
  a119 := Tryd.isAgg108
  z119 := Tryd.sizeOf108
  t141 := Tryd.underlying132
  a141 := Tryd.isAgg132
  z141 := Tryd.sizeOf132
  v141 := Tryd.zeroValue132
  t152 := Tryd.underlying72
  a152 := Tryd.isAgg72
  z152 := Tryd.sizeOf72
  v152 := Tryd.zeroValue72
  t154 := Tryd.underlying74
  a154 := Tryd.isAgg74
  z154 := Tryd.sizeOf74
  v154 := Tryd.zeroValue74
  t193 := Tryd.underlying161
  a193 := Tryd.isAgg161
  z193 := Tryd.sizeOf161
  v193 := Tryd.zeroValue161
  t194 := Tryd.underlying162
  a194 := Tryd.isAgg162
  z194 := Tryd.sizeOf162
  v194 := Tryd.zeroValue162
  t196 := Tryd.underlying164
  a196 := Tryd.isAgg164
  z196 := Tryd.sizeOf164
  v196 := Tryd.zeroValue164
  t198 := Tryd.underlying167
  a198 := Tryd.isAgg167
  z198 := Tryd.sizeOf167
  v198 := Tryd.zeroValue167
  t201 := Tryd.underlying170
  a201 := Tryd.isAgg170
  z201 := Tryd.sizeOf170
  v201 := Tryd.zeroValue170
  t226 := Tryd.underlying185
  a226 := Tryd.isAgg185
  z226 := Tryd.sizeOf185
  v226 := Tryd.zeroValue185
  t227 := Tryd.underlying186
  a227 := Tryd.isAgg186
  z227 := Tryd.sizeOf186
  v227 := Tryd.zeroValue186
  g0 := by kernel_rfl
  g6 := by kernel_rfl }
open Go.RowKit Go.Lib in
/-- strings.Fields, the table by 'Lib.TabIs' (as strings.TrimSpace's contract). 'hg': the table's number, by its name: at a dump 'by kernel_rfl'. (LAID: no walk: one application.) -/
theorem Tryd.strings_Fields (s : ByteArray) (w : World) (hs : s.size < 4294967281) (hascii : ∀ (j : Nat) b, s.data.toList[j]? = some b → b.toNat < 128) (htab : Lib.TabIs Tryd.prog w "strings.asciiSpace" .u8 Lib.asciiSpaceTab) :
    Calls Tryd.prog 52 #[.string s] w fun e w' =>
      e = .returned (.slice (some ⟨w.heap.size, 0, none⟩) (Lib.fields s.data.toList).length (Lib.fields s.data.toList).length) ∧ w' = w.alloc (.cells ((Lib.fields s.data.toList).map fun l => Value.string ⟨l.toArray⟩).toArray 9) := Any.strings_Fields Tryd.lays157 (by kernel_rfl) (by kernel_rfl) s w hs hascii htab
open Go.RowKit Go.Lib in
open Go.RowKit Go.Lib in
open Go.RowKit Go.Lib in
open Go.RowKit Go.Lib in
def Tryd.lays155_ren : Go.Shelf.Ren := ⟨fun | 155 => 28 | 154 => 46 | 138 => 63 | 165 => 64 | 143 => 65 | 166 => 66 | 197 => 67 | 169 => 68 | 195 => 86 | 218 => 87 | 240 => 88 | 241 => 89 | 219 => 90 | 260 => 91 | 276 => 106 | 277 => 107 | 217 => 108 | 225 => 109 | 224 => 110 | 267 => 111 | 266 => 124 | 314 => 125 | n => n, fun | 9 => 9 | 3 => 3 | 4 => 4 | 72 => 100 | 0 => 0 | 76 => 104 | 105 => 106 | 21 => 21 | 5 => 5 | 70 => 97 | 20 => 20 | 37 => 98 | 75 => 103 | 127 => 128 | 164 => 148 | 46 => 151 | 119 => 108 | 139 => 154 | 138 => 153 | 146 => 177 | 51 => 130 | 80 => 75 | n => n, fun | 1 => 5 | 3 => 6 | 4 => 7 | n => n⟩
theorem Tryd.lays155 : Go.Proofs.Lays.n155 Tryd.prog Tryd.lays155_ren := {
  mixed := by kernel_rfl
  f138 := Tryd.func63.trans (congrArg some (by kernel_rfl))
  f143 := Tryd.func65.trans (congrArg some (by kernel_rfl))
  f154 := Tryd.func46.trans (congrArg some (by kernel_rfl))
  f155 := Tryd.func28.trans (congrArg some (by kernel_rfl))
  f165 := Tryd.func64.trans (congrArg some (by kernel_rfl))
  f166 := Tryd.func66.trans (congrArg some (by kernel_rfl))
  f169 := Tryd.func68.trans (congrArg some (by kernel_rfl))
  f195 := Tryd.func86.trans (congrArg some (by kernel_rfl))
  f197 := Tryd.func67.trans (congrArg some (by kernel_rfl))
  f217 := Tryd.func108.trans (congrArg some (by kernel_rfl))
  f218 := Tryd.func87.trans (congrArg some (by kernel_rfl))
  f219 := Tryd.func90.trans (congrArg some (by kernel_rfl))
  f224 := Tryd.func110.trans (congrArg some (by kernel_rfl))
  f225 := Tryd.func109.trans (congrArg some (by kernel_rfl))
  f240 := Tryd.func88.trans (congrArg some (by kernel_rfl))
  f241 := Tryd.func89.trans (congrArg some (by kernel_rfl))
  f260 := Tryd.func91.trans (congrArg some (by kernel_rfl))
  f266 := Tryd.func124.trans (congrArg some (by kernel_rfl))
  f267 := Tryd.func111.trans (congrArg some (by kernel_rfl))
  f276 := Tryd.func106.trans (congrArg some (by kernel_rfl))
  f277 := Tryd.func107.trans (congrArg some (by kernel_rfl))
  f314 := Tryd.func125.trans (congrArg some (by kernel_rfl))
  t0 := Tryd.underlying0
  a0 := Tryd.isAgg0
  z0 := Tryd.sizeOf0
  v0 := Tryd.zeroValue0
  t3 := Tryd.underlying3
  a3 := Tryd.isAgg3
  z3 := Tryd.sizeOf3
  v3 := Tryd.zeroValue3
  t4 := Tryd.underlying4
  a4 := Tryd.isAgg4
  z4 := Tryd.sizeOf4
  v4 := Tryd.zeroValue4
  t5 := Tryd.underlying5
  a5 := Tryd.isAgg5
  z5 := Tryd.sizeOf5
  v5 := Tryd.zeroValue5
  t9 := Tryd.underlying9
  a9 := Tryd.isAgg9
  z9 := Tryd.sizeOf9
  v9 := Tryd.zeroValue9
  t20 := Tryd.underlying20
  a20 := Tryd.isAgg20
  z20 := Tryd.sizeOf20
  v20 := Tryd.zeroValue20
  t21 := Tryd.underlying21
  a21 := Tryd.isAgg21
  z21 := Tryd.sizeOf21
  v21 := Tryd.zeroValue21
  t37 := Tryd.underlying98
  a37 := Tryd.isAgg98
  z37 := Tryd.sizeOf98
  v37 := Tryd.zeroValue98
  t46 := Tryd.underlying151
  a46 := Tryd.isAgg151
  z46 := Tryd.sizeOf151
  v46 := Tryd.zeroValue151
  t51 := Tryd.underlying130
  a51 := Tryd.isAgg130
  z51 := Tryd.sizeOf130
  v51 := Tryd.zeroValue130
  t70 := Tryd.underlying97
  a70 := Tryd.isAgg97
  z70 := Tryd.sizeOf97
  v70 := Tryd.zeroValue97
  t72 := Tryd.underlying100
  a72 := Tryd.isAgg100
  z72 := Tryd.sizeOf100
  v72 := Tryd.zeroValue100
  t75 := Tryd.underlying103
  a75 := Tryd.isAgg103
  z75 := Tryd.sizeOf103
  v75 := Tryd.zeroValue103
  t76 := Tryd.underlying104
  a76 := Tryd.isAgg104
  z76 := Tryd.sizeOf104
  v76 := Tryd.zeroValue104
  t105 := Tryd.underlying106
  a105 := Tryd.isAgg106
  z105 := Tryd.sizeOf106
  v105 := Tryd.zeroValue106
  t119 := Tryd.underlying108
  a119 := Tryd.isAgg108
  z119 := Tryd.sizeOf108
  t127 := Tryd.underlying128
  a127 := Tryd.isAgg128
  z127 := Tryd.sizeOf128
  v127 := Tryd.zeroValue128
  t138 := Tryd.underlying153
  a138 := Tryd.isAgg153
  z138 := Tryd.sizeOf153
  v138 := Tryd.zeroValue153
  t139 := Tryd.underlying154
  a139 := Tryd.isAgg154
  z139 := Tryd.sizeOf154
  v139 := Tryd.zeroValue154
  t146 := Tryd.underlying177
  a146 := Tryd.isAgg177
  z146 := Tryd.sizeOf177
  v146 := Tryd.zeroValue177
  t164 := Tryd.underlying148
  a164 := Tryd.isAgg148
  z164 := Tryd.sizeOf148
  v164 := Tryd.zeroValue148
  g1 := by kernel_rfl
  g3 := by kernel_rfl
  g4 := by kernel_rfl }
theorem Tryd.Builder_Extra_155 : Builder.Extra Tryd.prog Tryd.lays155_ren := {
  sizeBuilder := by kernel_rfl
  liesBuilder := by kernel_rfl
  t5 := Tryd.underlying5
  a5 := Tryd.isAgg5
  z5 := Tryd.sizeOf5
  v5 := Tryd.zeroValue5
  infoByte := by kernel_rfl
  cellsByte := by kernel_rfl
  sizeByte := by kernel_rfl
  neB5 := by decide }
open Go.RowKit Go.Lib in
/-- strings.ReplaceAll: "ReplaceAll returns a copy of the string s with all non-overlapping instances of old replaced by new.": AT AN old THAT IS NOT EMPTY: 'Lib.replaceAll s old new'. (LAID: no walk: one application.) -/
theorem Tryd.strings_ReplaceAll (s old new : ByteArray) (m : Int) (w : World) (hs : s.size < 4294967281) (hm : w.cell? ⟨5, 0, none⟩ = some (.int .i64 m)) (h1 : 1 ≤ old.size) (hlen : s.size + Lib.countB s old * new.size ≤ 140737488355328) :
    Calls Tryd.prog 28 #[.string s, .string old, .string new] w fun e w' =>
      e = .returned (.string ⟨(Lib.replaceAll s.data.toList old.data.toList new.data.toList).toArray⟩) ∧ Below w.heap.size w w' := Any.strings_ReplaceAll Tryd.lays155 Tryd.Builder_Extra_155 s old new m w hs hm h1 hlen
open Go.RowKit Go.Lib in
open Go.RowKit Go.Lib in
open Go.RowKit Go.Lib in
open Go.RowKit Go.Lib in
open Go.RowKit Go.Lib in
open Go.RowKit Go.Lib in
open Go.RowKit Go.Lib in
open Go.RowKit Go.Lib in
open Go.RowKit Go.Lib in
def Tryd.lays229_ren : Go.Shelf.Ren := ⟨fun | 229 => 29 | n => n, fun | 9 => 9 | 40 => 54 | 31 => 52 | 152 => 72 | 3 => 3 | 0 => 0 | 4 => 4 | 21 => 21 | 154 => 74 | n => n, fun | n => n⟩
theorem Tryd.lays229 : Go.Proofs.Lays.n229 Tryd.prog Tryd.lays229_ren := {
  mixed := by kernel_rfl
  f229 := Tryd.func29.trans (congrArg some (by kernel_rfl))
  t0 := Tryd.underlying0
  a0 := Tryd.isAgg0
  z0 := Tryd.sizeOf0
  v0 := Tryd.zeroValue0
  t3 := Tryd.underlying3
  a3 := Tryd.isAgg3
  z3 := Tryd.sizeOf3
  v3 := Tryd.zeroValue3
  t4 := Tryd.underlying4
  a4 := Tryd.isAgg4
  z4 := Tryd.sizeOf4
  v4 := Tryd.zeroValue4
  t9 := Tryd.underlying9
  a9 := Tryd.isAgg9
  z9 := Tryd.sizeOf9
  v9 := Tryd.zeroValue9
  t21 := Tryd.underlying21
  a21 := Tryd.isAgg21
  z21 := Tryd.sizeOf21
  v21 := Tryd.zeroValue21
  t31 := Tryd.underlying52
  a31 := Tryd.isAgg52
  z31 := Tryd.sizeOf52
  v31 := Tryd.zeroValue52
  t40 := Tryd.underlying54
  a40 := Tryd.isAgg54
  z40 := Tryd.sizeOf54
  v40 := Tryd.zeroValue54
  t152 := Tryd.underlying72
  a152 := Tryd.isAgg72
  z152 := Tryd.sizeOf72
  v152 := Tryd.zeroValue72
  t154 := Tryd.underlying74
  a154 := Tryd.isAgg74
  z154 := Tryd.sizeOf74
  v154 := Tryd.zeroValue74 }
open Go.RowKit Go.Lib in
open Go.RowKit Go.Lib in
open Go.RowKit Go.Lib in
open Go.RowKit Go.Lib in
open Go.RowKit Go.Lib in
open Go.RowKit Go.Lib in
theorem Tryd.strings_FieldsFunc_grows (g : Nat) (lb : Array Value) (eg : ∀ args w, (callFunc g args).run Tryd.prog w = .ok (.enter g args) w) (p : Nat → Bool) (s : ByteArray) (w : World) (hs : s.size ≤ 4294967296) (hp : PredGrows Tryd.prog g lb p w) :
    Calls Tryd.prog 29 #[.string s, .func (.func g) #[] lb] w fun e w' => ∃ A, e = .returned (.slice (some ⟨A, 0, none⟩) (Lib.goFieldsP p s).length (Lib.goFieldsP p s).length) ∧ w.heap.size ≤ A ∧
      w'.ownsRow w.heap.size 9 1 (.slice (some ⟨A, 0, none⟩) (Lib.goFieldsP p s).length (Lib.goFieldsP p s).length) (Lib.goFieldsP p s).length ((Lib.goFieldsP p s).map Value.string) ∧ Below w.heap.size w w' := Any.strings_FieldsFunc_grows Tryd.lays229 g lb eg p s w hs hp (by kernel_rfl) (by kernel_rfl)
end Go.Proofs
namespace Go.Proofs.YtnflnbdlgdjfmabDoor
open Go.RowKit
set_option linter.unusedVariables false
set_option linter.unusedSimpArgs false
section
variable {F : Nat → Prop} {ρ : Nat → Lc} {w w' : World}
theorem moves_below (H : HRel F ρ (ofL []) w) (hb : Below w.heap.size w w') (G : Nat → Prop) (hG : ∀ k, G k → w.heap.size ≤ k ∧ k < w'.heap.size) : Moves (namesL []) F ρ (ofL []) w (fun k => F k ∨ G k) ρ (ofL []) w' where
  sub := fun k h => .inl h
  same := fun k h => hb.block k (H.lt k h)
  stb := fun b h => absurd rfl h
  stbd := fun b h => by cases h
  heap := ⟨fun b x h => (by cases h), fun b b' g h => absurd rfl h, fun b g h => absurd rfl h, fun k h => by
      rcases h with h | h
      · exact Nat.lt_of_lt_of_le (H.lt k h) hb.size
      · exact (hG k h).2, fun b x h => (by cases h), fun g c h => relK_mono (fun k h => .inl h) (fun k h => hb.block k (H.lt k h)) (H.gl g c h), fun g p h => ⟨.inl (H.gx g p h).1, by rw [hb.block g (H.lt g (H.gx g p h).1)]; exact (H.gx g p h).2⟩⟩
  le := fun b x h => by cases h
  own := fun b g h => absurd rfl h
  Fnew := fun k h => by
    rcases h with h | h
    · exact .inl h
    · exact .inr (.inl (hG k h).1)
  os := hb.os
  tape := hb.tape
  output := hb.output
  size := hb.size
  kept := fun k hk _ => hb.block k hk
end
/-- A contract of what only makes memory. -/
theorem acalls_ext {P : Program} {f : FuncId} {args : List U} {r : U} (hcan : canCall P f = true)
    (h : ∀ (F : Nat → Prop) (ρ : Nat → Lc) (w : World) (vals : List Value), HRel F ρ (ofL []) w → All2 (fun u v => relU F ρ w u v ∧ okU (ofL []) u) args vals →
      Calls P f vals.toArray w fun e w' => ∃ (v : Value) (G : Nat → Prop), e = .returned v ∧ Below w.heap.size w w' ∧ (∀ k, G k → w.heap.size ≤ k ∧ k < w'.heap.size) ∧ relU (fun k => F k ∨ G k) ρ w' r v)
    (hok : okU (ofL []) r) : ACalls P f args [] r [] :=
  ⟨hcan, fun F ρ w vals H ha => (h F ρ w vals H ha).mono fun e w' ⟨v, G, he, hb, hG, hr⟩ => ⟨v, _, ρ, he, moves_below H hb G hG, hr, hok⟩⟩
theorem args2 {F : Nat → Prop} {ρ : Nat → Lc} {w : World} {a b : C} {vals : List Value} (h : All2 (fun u v => relU F ρ w u v ∧ okU (ofL []) u) [.one a, .one b] vals) : ∃ x y, vals = [x, y] ∧ relC F ρ w a x ∧ relC F ρ w b y := by
  match vals, h with
  | [x, y], ⟨⟨h1, _⟩, ⟨h2, _⟩, _⟩ => exact ⟨x, y, rfl, h1, h2⟩
theorem args1 {F : Nat → Prop} {ρ : Nat → Lc} {w : World} {a : C} {vals : List Value} (h : All2 (fun u v => relU F ρ w u v ∧ okU (ofL []) u) [.one a] vals) : ∃ x, vals = [x] ∧ relC F ρ w a x := by
  match vals, h with
  | [x], ⟨⟨h1, _⟩, _⟩ => exact ⟨x, rfl, h1⟩
theorem args3 {F : Nat → Prop} {ρ : Nat → Lc} {w : World} {a b c : C} {vals : List Value} (h : All2 (fun u v => relU F ρ w u v ∧ okU (ofL []) u) [.one a, .one b, .one c] vals) : ∃ x y z, vals = [x, y, z] ∧ relC F ρ w a x ∧ relC F ρ w b y ∧ relC F ρ w c z := by
  match vals, h with
  | [x, y, z], ⟨⟨h1, _⟩, ⟨h2, _⟩, ⟨h3, _⟩, _⟩ => exact ⟨x, y, z, rfl, h1, h2, h3⟩
def noG : Nat → Prop := fun _ => False
end Go.Proofs.YtnflnbdlgdjfmabDoor
namespace Go.Proofs.YtnflnbdlgdjfmabDoor
open Go.RowKit
set_option linter.unusedVariables false
set_option linter.unusedSimpArgs false
theorem hasPrefix_a (s p : ByteArray) : ACalls Tryd.prog 48 [.one (.str s), .one (.str p)] [] (.one (.bool (Lib.hasPrefix s.data.toList p.data.toList))) [] :=
  acalls_ext (by kernel_rfl) (fun F ρ w vals H ha => by
    obtain ⟨_, _, rfl, rfl, rfl⟩ := args2 ha
    exact (Tryd.strings_HasPrefix s p w).mono fun e w' ⟨he, hw⟩ => by
      subst hw; exact ⟨_, noG, he, Below.refl _ _, fun k h => h.elim, rfl⟩) trivial
theorem below_grow (w : World) (k : Nat) (os : Array Obj) : Below w.heap.size w (Sort.grow (w.drewN k) os) :=
  ⟨rfl, rfl, rfl, by simp [Sort.grow], fun i hi => by simp [Sort.grow, Array.getElem?_append_left hi]⟩
/-- A listed variable, out of what the frame knows. -/
theorem gx_var {F : Nat → Prop} {ρ : Nat → Lc} {w : World} (H : HRel F ρ (ofL []) w) {g : Nat} {name : String} {p : Array Value → Prop} (hn : Tryd.prog.globalNamed name = some g) (hg : globX g = some p) : ∃ cs, w.var? Tryd.prog name = some cs ∧ p cs ∧ ∀ i v, cs[i]? = some v → w.cell? ⟨g, i, none⟩ = some v := by
  obtain ⟨_, cs, t, fz, hp, hh⟩ := H.gx g p hg
  have hv : w.var? Tryd.prog name = some cs := by unfold World.var?; rw [hn]; simp [hh]
  refine ⟨cs, hv, hp, fun i v hi => ?_⟩
  have := World.var?_cell hn hv i; rw [this]; exact hi
theorem nPow : Tryd.prog.globalNamed "internal/strconv.uint64pow10" = some 8 := by kernel_rfl
theorem nMax : Tryd.prog.globalNamed "internal/bytealg.MaxLen" = some 5 := by kernel_rfl
theorem nSyn : Tryd.prog.globalNamed "strconv.ErrSyntax" = some 9 := by kernel_rfl
theorem nRng : Tryd.prog.globalNamed "strconv.ErrRange" = some 10 := by kernel_rfl
theorem itoa_a (n : Int) (h0 : -9223372036854775808 ≤ n) (h1 : n ≤ 9223372036854775807) : ACalls Tryd.prog 44 [.one (.int .i64 n)] [] (.one (.str ⟨(Lib.itoa n).toArray⟩)) [] :=
  acalls_ext (by kernel_rfl) (fun F ρ w vals H ha => by
    obtain ⟨_, rfl, rfl⟩ := args1 ha
    obtain ⟨cs, hv, rfl, _⟩ := gx_var H nPow rfl
    refine (Tryd.strconv_Itoa n h0 h1 w ?_).mono fun e w' ⟨he, k, os, hw⟩ => by
      subst hw; exact ⟨_, noG, he, below_grow w k os, fun k h => h.elim, rfl⟩
    unfold Lib.TabIs
    rw [hv, show pow10V = (Lib.pow10Tab.map fun z => Value.int .u64 z).toArray by simp [pow10V, Lib.pow10Tab, List.range, List.range.loop]]) trivial
/-- What Atoi answers. -/
def atoiU (s : ByteArray) : U :=
  match Lib.atoiAll s.data.toList with
  | .ok v => .tup [.one (.int .i64 v), .one .nilif]
  | _ => .tup [.one .any, .one .ifc]
theorem atoi_a (s : ByteArray) (hs : s.size ≤ 281474976710656) : ACalls Tryd.prog 70 [.one (.str s)] [] (atoiU s) [] :=
  acalls_ext (by kernel_rfl) (fun F ρ w vals H ha => by
    obtain ⟨_, rfl, rfl⟩ := args1 ha
    unfold atoiU
    cases hA : Lib.atoiAll s.data.toList with
    | ok v =>
      exact (Tryd.strconv_Atoi_ok s (by omega) v hA w).mono fun e w' ⟨he, hw⟩ => by
        refine ⟨_, noG, he, ?_, fun k h => h.elim, [_, _], rfl, rfl, rfl, trivial⟩
        rcases hw with rfl | ⟨t, rfl⟩
        · exact Below.refl _ _
        · exact Joins.below_bytesWorld _ _ _ _ (Nat.le_refl _)
    | range =>
      obtain ⟨cs, hv, ⟨t, x, rfl⟩, _⟩ := gx_var H nRng rfl
      exact (Tryd.strconv_Atoi_range_var s hs hA t x w hv).mono fun e w' ⟨N, he, _, _, hb⟩ => by
        exact ⟨_, noG, he, hb, fun k h => h.elim, [_, _], rfl, rfl, ⟨_, _, rfl⟩, trivial⟩
    | _ =>
      obtain ⟨cs, hv, ⟨t, x, rfl⟩, _⟩ := gx_var H nSyn rfl
      exact (Tryd.strconv_Atoi_syntax_var s hs hA t x w hv).mono fun e w' ⟨N, he, _, _, hb⟩ => by
        exact ⟨_, noG, he, hb, fun k h => h.elim, [_, _], rfl, rfl, ⟨_, _, rfl⟩, trivial⟩) (by
    unfold atoiU
    split <;> exact okU_of (by exact ⟨trivial, trivial, trivial⟩))
def replaceS (s old new : ByteArray) : ByteArray := ⟨(Lib.replaceAll s.data.toList old.data.toList new.data.toList).toArray⟩
theorem replaceAll_a (s old new : ByteArray) (hs : s.size < 4294967281) (h1 : 1 ≤ old.size) (hl : s.size + Lib.countB s old * new.size ≤ 140737488355328) : ACalls Tryd.prog 28 [.one (.str s), .one (.str old), .one (.str new)] [] (.one (.str (replaceS s old new))) [] :=
  acalls_ext (by kernel_rfl) (fun F ρ w vals H ha => by
    obtain ⟨_, _, _, rfl, rfl, rfl, rfl⟩ := args3 ha
    obtain ⟨cs, hv, ⟨m, rfl⟩, hc⟩ := gx_var H nMax rfl
    exact (Tryd.strings_ReplaceAll s old new m w hs (hc 0 _ rfl) h1 hl).mono fun e w' ⟨he, hb⟩ => by
      exact ⟨_, noG, he, hb, fun k h => h.elim, rfl⟩) trivial
/-- The words' cells. -/
def strRows (ws : List ByteArray) : List (List C) := ws.map fun s => [.str s]
theorem fields_a (g : FuncId) (p : Nat → Bool) (s : ByteArray) (hs : s.size ≤ 4294967296) (hcan : canCall Tryd.prog g = true)
    (eg : ∀ (args : Array Value) (w : World), (callFunc g args).run Tryd.prog w = .ok (.enter g args) w)
    (hp : ∀ x : Nat, x ≤ 1114111 → ACalls Tryd.prog g [.one (.int .i32 x)] [] (.one (.bool (p x))) []) : ACalls Tryd.prog 29 [.one (.str s), .one (.fn g)] [] (.one (slFOf 1 (strRows (Lib.goFieldsP p s)))) [] :=
  acalls_ext (by kernel_rfl) (fun F ρ w vals H ha => by
    obtain ⟨_, _, rfl, rfl, rfl⟩ := args2 ha
    have hpg : PredGrows Tryd.prog g #[] p w := by
      intro W x hx hb
      have HW : HRel F ρ (ofL []) W := by
        have := (moves_below H hb noG (fun k h => h.elim)).heap
        refine ⟨fun b x h => (by cases h), fun b b' g h => absurd rfl h, fun b g h => absurd rfl h, fun k h => this.lt k (.inl h), fun b x h => (by cases h), fun g c hg => ?_, fun g q hg => ?_⟩
        · exact relK_mono (fun k h => h) (fun k h => hb.block k (H.lt k h)) (H.gl g c hg)
        · exact ⟨(H.gx g q hg).1, by rw [hb.block g (H.lt g (H.gx g q hg).1)]; exact (H.gx g q hg).2⟩
      refine ((hp x hx).2 F ρ W [.int .i32 x] HW ⟨⟨rfl, trivial⟩, trivial⟩).mono fun e W' ⟨v, F', ρ', he, hM, hr, _⟩ => ?_
      have hr : v = .bool (p x) := hr
      subst hr
      exact ⟨he, hM.os, hM.tape, hM.output, hM.size, fun k hk => hM.kept k hk fun b hb => absurd rfl hb⟩
    refine (Tryd.strings_FieldsFunc_grows g #[] eg p s w hs hpg).mono fun e w' ⟨A, he, hA, ⟨hlen, hrow⟩, hb⟩ => ?_
    refine ⟨_, fun k => k = A ∧ k < w'.heap.size, he, hb, fun k h => ⟨by rw [h.1]; exact hA, h.2⟩, ?_⟩
    have hn : (strRows (Lib.goFieldsP p s)).length = (Lib.goFieldsP p s).length := by simp [strRows]
    rcases hrow with ⟨h0, _⟩ | ⟨g', cap, cur, hv, _, hh, hc1, hc2, hcs, hct⟩
    · cases h0
    · simp only [Value.slice.injEq, Option.some.injEq, Addr.mk.injEq] at hv
      obtain ⟨⟨rfl, _, _⟩, _, rfl⟩ := hv
      refine ⟨_, by rw [hn], by rw [hn]; exact hc2, fun i hi => ⟨A, 0, rfl, .inr ⟨rfl, (Array.getElem?_eq_some_iff.1 hh).1⟩, fun j hj => ?_⟩⟩
      obtain rfl : j = 0 := by omega
      rw [hn] at hi
      have hx : cur[i]? = some (.string (Lib.goFieldsP p s)[i]) := by
        have := congrArg (fun l => l[i]?) hct
        simp only [Nat.mul_one, List.getElem?_take, hi, if_true, List.getElem?_map, List.getElem?_eq_getElem hi, Option.map_some, Array.getElem?_toList] at this
        exact this
      refine ⟨.string (Lib.goFieldsP p s)[i], ?_, ?_⟩
      · unfold World.cell?
        simp only [hh, Nat.zero_add, Nat.mul_one, Nat.add_zero]
        exact hx
      · simp [rowF, strRows, hi, relK]) trivial
end Go.Proofs.YtnflnbdlgdjfmabDoor
namespace Go.Proofs.YtnflnbdlgdjfmabDoor
set_option linter.unusedVariables false
set_option linter.unusedSimpArgs false
/-- A reader: the words that are left; was something wrong? -/
structure Rd where
  ws : List ByteArray
  bad : Bool
def Rd.c (r : Rd) : List C := [slOf 1 (strRows r.ws), .bool r.bad]
def sNil : ByteArray := ⟨#[]⟩
def sLp : ByteArray := ⟨#[40]⟩
def sRp : ByteArray := ⟨#[41]⟩
def sYes : ByteArray := ⟨#[121, 101, 115]⟩
def sNo : ByteArray := ⟨#[110, 111]⟩
def sHash : ByteArray := ⟨#[35]⟩
def Rd.fail (r : Rd) : Rd := ⟨r.ws, true⟩
def Rd.next (r : Rd) : ByteArray × Rd := match r.ws with | [] => (sNil, ⟨[], true⟩) | w :: ws => (w, ⟨ws, r.bad⟩)
/-- The closing bracket. -/
def Rd.close (r : Rd) : Rd := ⟨r.next.2.ws, !sEq r.next.1 sRp || r.next.2.bad⟩
def kAt (s : ByteArray) (op : Bool) (i : Nat) : Bool := sEq (kindsL.getD i sNil) s && ((i == 3) == op)
/-- The first of the last n kinds that fits. -/
def kFrom (s : ByteArray) (op : Bool) : Nat → Option Nat
  | 0 => none
  | n + 1 => if kAt s op (3 - n) then some (3 - n) else kFrom s op n
def wAt (s : ByteArray) (i : Nat) : Bool := !sEq (wordsL.getD i sNil) sNil && sEq (wordsL.getD i sNil) s
def wFrom (s : ByteArray) : Nat → Option Nat
  | 0 => none
  | n + 1 => if wAt s (9 - n) then some (9 - n) else wFrom s n
/-- A type; so many may be within one another. -/
def readK : Nat → Rd → Ty × Rd
  | 0, r => (.any, (if sEq r.next.1 sLp then r.next.2.next else r.next).2.fail)
  | d + 1, r =>
    let op := sEq r.next.1 sLp
    let q := if op then r.next.2.next else r.next
    match kFrom q.1 op 4 with
    | none => (.any, q.2.fail)
    | some k => if op then (.mk k [(readK d q.2).1, (readK d (readK d q.2).2).1], (readK d (readK d q.2).2).2.close) else (.mk k [], q.2)
def numOf (s : ByteArray) : Option Int :=
  match Lib.atoiAll s.data.toList with
  | .ok v => if sEq ⟨(Lib.itoa v).toArray⟩ s then some v else none
  | _ => none
def Rd.number (r : Rd) (s : ByteArray) : Int × Rd := match numOf s with | some v => (v, r) | none => (0, r.fail)
/-- So many terms, one after the other. -/
def readN (f : Rd → Tm × Rd) : Nat → Rd → List Tm × Rd
  | 0, r => ([], r)
  | n + 1, r => ((f r).1 :: (readN f n (f r).2).1, (readN f n (f r).2).2)
/-- A term of a word's kind. -/
def readB (f : Rd → Tm × Rd) (k : Nat) (r : Rd) : Tm × Rd :=
  let t := if (k : Int) == 7 || (k : Int) == 9 then readK 4 r else (.any, r)
  let l := readN f (arity k).toNat t.2
  (.mk k 0 t.1 .any l.1, l.2.close)
/-- A term; so many may be within one another. -/
def readT : Nat → Rd → Tm × Rd
  | 0, r => (Tm.zero, r.next.2.fail)
  | n + 1, r =>
    let s := r.next.1
    let q := r.next.2
    if q.bad then (Tm.zero, q.fail)
    else if sEq s sYes || sEq s sNo then (.mk 3 (if sEq s sYes then 1 else 0) .any .any [], q)
    else if Lib.hasPrefix s.data.toList sHash.data.toList then (.mk 1 (q.number (s.extract 1 s.size)).1 .any .any [], (q.number (s.extract 1 s.size)).2)
    else if !sEq s sLp then (.mk 2 (q.number s).1 .any .any [], (q.number s).2)
    else match wFrom q.next.1 10 with
      | none => (Tm.zero, q.next.2.fail)
      | some k => readB (readT n) k q.next.2
/-- A text's words. -/
def wordsOf (s : ByteArray) : List ByteArray := Lib.goFieldsP (fun x => x == 32 || x == 10) (replaceS (replaceS s sLp ⟨#[32, 40, 32]⟩) sRp ⟨#[32, 41, 32]⟩)
/-- The term of a text, and what was wrong. -/
def parse (s : ByteArray) : Tm × Int :=
  if 1000 < s.size then (Tm.zero, 4)
  else
    let p := readT 40 ⟨wordsOf s, false⟩
    if p.2.bad || decide (0 < p.2.ws.length) || !p.1.Good 0 then (Tm.zero, 1) else (p.1, 0)
theorem next_len (r : Rd) : r.next.2.ws.length ≤ r.ws.length ∧ (r.next.2.bad = false → r.next.2.ws.length + 1 = r.ws.length ∧ r.bad = false) := by
  unfold Rd.next
  split
  · rename_i h; exact ⟨by simp, fun h => by cases h⟩
  · rename_i w ws h; exact ⟨by simp [h], fun hb => ⟨by simp [h], hb⟩⟩
theorem close_len (r : Rd) (h : r.close.bad = false) : r.close.ws.length + 1 = r.ws.length ∧ r.bad = false := by
  unfold Rd.close at h ⊢
  simp only [Bool.or_eq_false_iff] at h
  exact (next_len r).2 h.2
theorem readK_thin : ∀ (d : Nat) (r : Rd), Thin (readK d r).1 ∧ ((readK d r).2.bad = false → (readK d r).2.ws.length + 1 ≤ r.ws.length ∧ r.bad = false)
  | 0, r => by
    refine ⟨Right.any.thin, fun h => ?_⟩
    simp [readK, Rd.fail] at h
  | d + 1, r => by
    have leaf : ∀ k : Int, Thin (.mk k []) := fun k => .mk k [] (by simp) (fun t h => by cases h)
    have hq : ∀ q : ByteArray × Rd, q = (if sEq r.next.1 sLp then r.next.2.next else r.next) → q.2.bad = false → q.2.ws.length + 1 ≤ r.ws.length ∧ r.bad = false := by
      intro q hq hb
      subst hq
      split at hb
      · rename_i h
        obtain ⟨h1, h2⟩ := (next_len r.next.2).2 hb
        obtain ⟨h3, h4⟩ := (next_len r).2 h2
        rw [if_pos h]
        exact ⟨by omega, h4⟩
      · rename_i h
        obtain ⟨h3, h4⟩ := (next_len r).2 hb
        rw [if_neg h]
        exact ⟨by omega, h4⟩
    simp only [readK]
    generalize hqe : (if sEq r.next.1 sLp = true then r.next.2.next else r.next) = q
    have hq := hq q hqe.symm
    cases kFrom q.1 (sEq r.next.1 sLp) 4 with
    | none => exact ⟨Right.any.thin, fun h => by cases h⟩
    | some k =>
      simp only
      split
      · obtain ⟨t1, b1⟩ := readK_thin d q.2
        obtain ⟨t2, b2⟩ := readK_thin d (readK d q.2).2
        refine ⟨.mk _ _ (by simp) fun t ht => ?_, fun h => ?_⟩
        · simp at ht
          rcases ht with rfl | rfl
          · exact t1
          · exact t2
        · obtain ⟨h1, h2⟩ := close_len _ h
          obtain ⟨h3, h4⟩ := b2 h2
          obtain ⟨h5, h6⟩ := b1 h4
          obtain ⟨h7, h8⟩ := hq h6
          exact ⟨by simp only; omega, h8⟩
      · exact ⟨leaf _, hq⟩
theorem atoi_in {l : List UInt8} {v : Int} (h : Lib.atoiAll l = .ok v) : -9223372036854775808 ≤ v ∧ v ≤ 9223372036854775807 := by
  unfold Lib.atoiAll at h
  split at h
  · cases h
  · simp only at h
    split at h
    · cases h
    · cases h
    · split at h
      · cases h
      · rename_i h1
        split at h
        · cases h
        · rename_i h2
          simp only [Lib.NumEnd.ok.injEq] at h
          subst h
          split
          · rename_i h3; simp only [h3, true_and, Nat.not_lt] at h2; omega
          · rename_i h3; simp only [h3, not_false_eq_true, true_and, Nat.not_le] at h1; omega
theorem numOf_in {s : ByteArray} {v : Int} (h : numOf s = some v) : -9223372036854775808 ≤ v ∧ v ≤ 9223372036854775807 := by
  unfold numOf at h
  split at h
  · rename_i hA
    split at h
    · cases h; exact atoi_in hA
    · cases h
  · cases h
theorem number_in (r : Rd) (s : ByteArray) : (r.number s).1 ≤ 9223372036854775807 ∧ ((r.number s).2.bad = false → (r.number s).2 = r) := by
  unfold Rd.number
  split
  · rename_i h; exact ⟨(numOf_in h).2, fun _ => rfl⟩
  · exact ⟨by show (0 : Int) ≤ _; decide, fun h => by cases h⟩
/-- What has been read: of the right form; not more terms than words. -/
def ReadOk (r : Rd) (p : Tm × Rd) : Prop := TmOk p.1 ∧ (p.2.bad = false → p.1.nodes + p.2.ws.length ≤ r.ws.length ∧ r.bad = false)
theorem zero_ok : TmOk Tm.zero := .mk (by decide) Right.any.thin Right.any.thin fun x h => by cases h
theorem leaf_ok {k n : Int} (hn : n ≤ 9223372036854775807) : TmOk (.mk k n .any .any []) := .mk hn Right.any.thin Right.any.thin fun x h => by cases h
theorem readN_ok {f : Rd → Tm × Rd} (hf : ∀ r, ReadOk r (f r)) : ∀ (n : Nat) (r : Rd), (∀ t ∈ (readN f n r).1, TmOk t) ∧ (readN f n r).1.length = n ∧ ((readN f n r).2.bad = false → nodesL (readN f n r).1 + (readN f n r).2.ws.length ≤ r.ws.length ∧ r.bad = false)
  | 0, r => by simp [readN, nodesL]
  | n + 1, r => by
    obtain ⟨h1, h2⟩ := hf r
    obtain ⟨h3, h4, h5⟩ := readN_ok hf n (f r).2
    simp only [readN, List.length_cons, h4, nodesL]
    refine ⟨fun t ht => ?_, trivial, fun hb => ?_⟩
    · rcases List.mem_cons.1 ht with rfl | ht
      · exact h1
      · exact h3 t ht
    · obtain ⟨h6, h7⟩ := h5 hb
      obtain ⟨h8, h9⟩ := h2 h7
      exact ⟨by omega, h9⟩
theorem readT_ok : ∀ (n : Nat) (r : Rd), ReadOk r (readT n r)
  | 0, r => ⟨zero_ok, fun h => by simp [readT, Rd.fail] at h⟩
  | n + 1, r => by
    have hlen := next_len r
    have leafN : ∀ t : Tm, t.l = [] → t.nodes = 1 := fun t h => by rw [nodes_eta, h]; rfl
    simp only [readT]
    cases hb : r.next.2.bad with
    | true => exact ⟨zero_ok, fun h => by simp [Rd.fail] at h⟩
    | false =>
      obtain ⟨hl, hbad⟩ := hlen.2 hb
      simp only [Bool.false_eq_true, if_false]
      split
      · exact ⟨leaf_ok (by split <;> decide), fun _ => ⟨by rw [leafN _ rfl]; simp only; omega, hbad⟩⟩
      split
      · obtain ⟨h1, h2⟩ := number_in r.next.2 (r.next.1.extract 1 r.next.1.size)
        exact ⟨leaf_ok h1, fun h => ⟨by rw [leafN _ rfl]; simp only at h ⊢; rw [h2 h]; omega, hbad⟩⟩
      split
      · obtain ⟨h1, h2⟩ := number_in r.next.2 r.next.1
        exact ⟨leaf_ok h1, fun h => ⟨by rw [leafN _ rfl]; simp only at h ⊢; rw [h2 h]; omega, hbad⟩⟩
      · have hlen2 := next_len r.next.2
        split
        · exact ⟨zero_ok, fun h => by simp [Rd.fail] at h⟩
        · rename_i k _
          simp only [readB]
          have ht : ∀ t : Ty × Rd, t = (if ((k : Int) == 7 || (k : Int) == 9) = true then readK 4 r.next.2.next.2 else (.any, r.next.2.next.2)) → Thin t.1 ∧ (t.2.bad = false → t.2.ws.length ≤ r.next.2.next.2.ws.length ∧ r.next.2.next.2.bad = false) := by
            intro t ht
            subst ht
            split
            · obtain ⟨h1, h2⟩ := readK_thin 4 r.next.2.next.2
              exact ⟨h1, fun h => ⟨by have := (h2 h).1; omega, (h2 h).2⟩⟩
            · exact ⟨Right.any.thin, fun h => ⟨Nat.le_refl _, h⟩⟩
          generalize hte : (if ((k : Int) == 7 || (k : Int) == 9) = true then readK 4 r.next.2.next.2 else (Ty.any, r.next.2.next.2)) = t
          obtain ⟨h1, h2⟩ := ht t hte.symm
          obtain ⟨h3, h4, h5⟩ := readN_ok (readT_ok n) (arity k).toNat t.2
          refine ⟨.mk (by simp) h1 Right.any.thin h3, fun h => ?_⟩
          obtain ⟨h6, h7⟩ := close_len _ h
          obtain ⟨h8, h9⟩ := h5 h7
          obtain ⟨h10, h11⟩ := h2 h9
          obtain ⟨h12, h13⟩ := hlen2.2 h11
          refine ⟨?_, hbad⟩
          simp only [Tm.nodes]
          omega
end Go.Proofs.YtnflnbdlgdjfmabDoor
namespace Go.Proofs.YtnflnbdlgdjfmabDoor
set_option linter.unusedVariables false
set_option linter.unusedSimpArgs false
def kTxt (k : Int) : List UInt8 := (kindsL.getD k.toNat sNil).data.toList
def wTxt (k : Int) : List UInt8 := (wordsL.getD k.toNat sNil).data.toList
mutual
/-- The text of a type. -/
def tyTxt : Ty → List UInt8
  | .mk k l => if k == 3 then 40 :: (kTxt k ++ tyTxtL l) ++ [41] else kTxt k ++ tyTxtL l
def tyTxtL : List Ty → List UInt8
  | [] => []
  | a :: l => 32 :: tyTxt a ++ tyTxtL l
end
theorem tyTxt_eta (a : Ty) : tyTxt a = if a.k == 3 then 40 :: (kTxt a.k ++ tyTxtL a.l) ++ [41] else kTxt a.k ++ tyTxtL a.l := by cases a; simp only [tyTxt, Ty.k_mk, Ty.l_mk]; rfl
mutual
/-- The text of a term. -/
def tmTxt : Tm → List UInt8
  | .mk k n t _ l =>
    if k == 1 then 35 :: Lib.itoa n
    else if k == 2 then Lib.itoa n
    else if k == 3 then (if n == 1 then sYes.data.toList else sNo.data.toList)
    else 40 :: (wTxt k ++ ((if k == 7 || k == 9 then 32 :: tyTxt t else []) ++ tmTxtL l)) ++ [41]
def tmTxtL : List Tm → List UInt8
  | [] => []
  | a :: l => 32 :: tmTxt a ++ tmTxtL l
end
theorem tmTxt_eta (a : Tm) : tmTxt a = if a.k == 1 then 35 :: Lib.itoa a.n
    else if a.k == 2 then Lib.itoa a.n
    else if a.k == 3 then (if a.n == 1 then sYes.data.toList else sNo.data.toList)
    else 40 :: (wTxt a.k ++ ((if a.k == 7 || a.k == 9 then 32 :: tyTxt a.t else []) ++ tmTxtL a.l)) ++ [41] := by cases a; simp only [tmTxt, Tm.k, Tm.n, Tm.t, Tm.l]; rfl
def mkB (l : List UInt8) : ByteArray := ⟨l.toArray⟩
theorem mkB_l (l : List UInt8) : (mkB l).data.toList = l := by simp [mkB]
/-- The text of a term, and whether it has one. -/
def print (a : Tm) : ByteArray × Int := if a.Good 0 then (if 1000 < (tmTxt a).length then (sNil, 4) else (mkB (tmTxt a), 0)) else (sNil, 1)
end Go.Proofs.YtnflnbdlgdjfmabDoor
namespace Go.Proofs.YtnflnbdlgdjfmabDoor
open Go.RowKit
set_option linter.unusedVariables false
set_option linter.unusedSimpArgs false
section ops
variable {P : Program} {s : St} {dst : Option Tmp} {rt : TypeId} {pos : String} {after : Array Edge} {guard : Option (Nat × Bool)}
theorem loc_quo {t t' : TypeId} {x y : Operand} {k : IntKind} {a b r : Int} (hx' : opU s.t x = .one (.int k a)) (hy' : opU s.t y = .one (.int k b)) (hr : Op.intDiv .quo k a b = pure (.int k r)) : LocOp P ⟨dst, .binOp .quo t x y t', rt, pos, after, guard⟩ s [] [] (.one (.int k r)) :=
  loc_run fun F ρ h w ev H hx => by
    have h1 := (hx x (by simp [Op.operands])).1
    have h2 := (hx y (by simp [Op.operands])).1
    rw [hx'] at h1
    rw [hy'] at h2
    have h1 : ev x = .int k a := h1
    have h2 : ev y = .int k b := h2
    refine ⟨.int k r, ?_, rfl, trivial⟩
    simp only [execOp, h1, h2]
    simp [binOp_quo, hr, eqGuard]
theorem loc_remB {t t' : TypeId} {x y : Operand} {k : IntKind} {a b r : Int} (hx' : opU s.t x = .one (.int k a)) (hy' : opU s.t y = .one (.int k b)) (hr : Op.intDiv .rem k a b = pure (.int k r)) : LocOp P ⟨dst, .binOp .rem t x y t', rt, pos, after, guard⟩ s [] [] (.one (.int k r)) :=
  loc_run fun F ρ h w ev H hx => by
    have h1 := (hx x (by simp [Op.operands])).1
    have h2 := (hx y (by simp [Op.operands])).1
    rw [hx'] at h1
    rw [hy'] at h2
    have h1 : ev x = .int k a := h1
    have h2 : ev y = .int k b := h2
    refine ⟨.int k r, ?_, rfl, trivial⟩
    simp only [execOp, h1, h2]
    simp [binOp_rem, hr, eqGuard]
theorem loc_convI {src d : TypeId} {x : Operand} {k k' : IntKind} {a r : Int} (hx' : opU s.t x = .one (.int k a)) (hs : (P.underlying src).isSome = true) (hd : P.underlying d = some (.int k')) (hr : k'.wrap a = r) : LocOp P ⟨dst, .convert src d x, rt, pos, after, guard⟩ s [] [] (.one (.int k' r)) :=
  loc_run fun F ρ h w ev H hx => by
    have h1 := (hx x (by simp [Op.operands])).1
    rw [hx'] at h1
    have h1 : ev x = .int k a := h1
    have hk : P.intKind d = k' := by simp [Program.intKind, hd]
    refine ⟨.int k' r, ?_, rfl, trivial⟩
    have := run_convert_int (P := P) w src d k a hs (by rw [hk]; exact hd)
    rw [hk, hr] at this
    simp only [execOp, h1]
    simp [this]
/-- A byte by itself, as a string. -/
theorem loc_convS {src d e : TypeId} {x : Operand} {b : Int} (hx' : opU s.t x = .one (slFOf 1 [[.int .u8 b]])) (hs : P.underlying src = some (.slice e)) (he : P.underlying e = some (.int .u8)) (hd : P.underlying d = some .string) : LocOp P ⟨dst, .convert src d x, rt, pos, after, guard⟩ s [] [] (.one (.str ⟨#[UInt8.ofNat b.toNat]⟩)) :=
  loc_run fun F ρ h w ev H hx => by
    have h1 := (hx x (by simp [Op.operands])).1
    rw [hx'] at h1
    obtain ⟨a, hp, hmax, hj⟩ := h1
    obtain ⟨g, o, rfl, hF, hj⟩ := hj 0 (by simp)
    obtain ⟨u, hu, hk⟩ := hj 0 (by simp)
    have hu' : u = .int .u8 b := hk
    subst hu'
    refine ⟨.string (strOfNums [b]), ?_, rfl, trivial⟩
    have := run_convert_bytes_arg (P := P) w src e hs he g o 1 1 [b] rfl (fun i hi => by
      obtain rfl : i = 0 := by omega
      simpa using hu) d hd
    simp only [execOp, hp]
    show ((convert src d (.slice (some ⟨g, o, none⟩) 1 1)).bind fun v => pure (Next.value v)).run P w = _
    show (Sem.run P (do let v ← convert src d (.slice (some ⟨g, o, none⟩) 1 1); pure (Next.value v)) w) = _
    rw [Sem.run_bind, this]
    rfl
end ops
theorem quo10 (u : Nat) (h : u ≤ 1000000000) : Op.intDiv .quo .i64 (u : Int) 10 = pure (.int .i64 ((u / 10 : Nat) : Int)) := by
  have h1 : (u : Int).tdiv 10 = ((u / 10 : Nat) : Int) := by rw [Int.tdiv_eq_ediv_of_nonneg (by omega)]; omega
  unfold Op.intDiv
  rw [if_neg (by decide)]
  show pure (Value.int .i64 (IntKind.i64.wrap ((u : Int).tdiv 10))) = _
  rw [h1, wrap_small _ (by omega) (by omega)]
theorem rem10 (u : Nat) : Op.intDiv .rem .i64 (u : Int) 10 = pure (.int .i64 ((u % 10 : Nat) : Int)) := by
  have h1 : (u : Int).tmod 10 = ((u % 10 : Nat) : Int) := by rw [Int.tmod_eq_emod_of_nonneg (by omega)]; omega
  unfold Op.intDiv
  rw [if_neg (by decide)]
  show pure (Value.int .i64 ((u : Int).tmod 10)) = _
  rw [h1]
/-- The words of the terms that have brackets. -/
def sixS : ByteArray := ⟨#[97, 100, 100, 32, 108, 101, 115, 115, 32, 105, 102, 32, 102, 117, 110, 32, 99, 97, 108, 108, 32, 97, 115]⟩
def sixL : List (List UInt8) := [[97, 100, 100], [108, 101, 115, 115], [105, 102], [102, 117, 110], [99, 97, 108, 108], [97, 115]]
theorem six_fields : Lib.fields sixS.data.toList = sixL := by decide +kernel
theorem space_tab : spaceV = (Lib.asciiSpaceTab.map fun z => Value.int .u8 z).toArray := by kernel_rfl
theorem nSpc : Tryd.prog.globalNamed "strings.asciiSpace" = some 3 := by kernel_rfl
theorem fieldsSix_a : ACalls Tryd.prog 52 [.one (.str sixS)] [] (.one (slFOf 1 (strRows (sixL.map mkB)))) [] :=
  acalls_ext (by kernel_rfl) (fun F ρ w vals H ha => by
    obtain ⟨_, rfl, rfl⟩ := args1 ha
    obtain ⟨cs, hv, hcs, _⟩ := gx_var H nSpc rfl
    rw [space_tab] at hcs
    subst hcs
    refine (Tryd.strings_Fields sixS w (by decide) (fun j b hb => by
      have h1 := List.mem_of_getElem? hb
      have h2 : ∀ b ∈ sixS.data.toList, b.toNat < 128 := by decide
      exact h2 b h1) hv).mono fun e w' ⟨he, hw⟩ => ?_
    rw [six_fields] at he hw
    subst hw
    refine ⟨_, fun k => k = w.heap.size, he, (Below.refl _ w).alloc (Nat.le_refl _) _, fun k h => by subst h; exact ⟨Nat.le_refl _, by simp⟩, ?_⟩
    refine ⟨some ⟨w.heap.size, 0, none⟩, rfl, by decide, fun i hi => ⟨w.heap.size, 0, rfl, .inr rfl, fun j hj => ?_⟩⟩
    obtain rfl : j = 0 := by omega
    have hi6 : i < 6 := hi
    unfold World.cell?
    simp only [heap_alloc_new]
    match i, hi6 with
    | 0, _ => exact ⟨_, rfl, rfl⟩
    | 1, _ => exact ⟨_, rfl, rfl⟩
    | 2, _ => exact ⟨_, rfl, rfl⟩
    | 3, _ => exact ⟨_, rfl, rfl⟩
    | 4, _ => exact ⟨_, rfl, rfl⟩
    | 5, _ => exact ⟨_, rfl, rfl⟩) (by trivial)
set_option maxRecDepth 100000 in
theorem sjoin_a (ws : List (List UInt8)) (sep : ByteArray) (hne : ws ≠ []) (hn : ws.length ≤ 100000000) (hl : (Lib.join ws sep.data.toList).length ≤ 140737488355328) : ACalls Tryd.prog 54 [.one (slOf 1 (strRows (ws.map mkB))), .one (.str sep)] [] (.one (.str (mkB (Lib.join ws sep.data.toList)))) [] :=
  acalls_ext (by kernel_rfl) (fun F ρ w vals H ha => by
    obtain ⟨v, _, rfl, h1, rfl⟩ := args2 ha
    obtain ⟨a, cap, hp, hcap, hmax, hj⟩ := h1
    have hlen : (strRows (ws.map mkB)).length = ws.length := by simp [strRows]
    rw [hlen] at hp hcap hj
    have h0 : 0 < ws.length := List.length_pos_iff.2 hne
    obtain ⟨g, o, rfl, hF, _⟩ := hj 0 h0
    have hws : (ws.map mkB).map (·.data.toList) = ws := by
      rw [List.map_map]
      conv => rhs; rw [← List.map_id ws]
      exact List.map_congr_left fun x _ => mkB_l x
    have hcells : ∀ (j : Nat) x, (ws.map mkB)[j]? = some x → w.cell? ⟨g, o + j, none⟩ = some (.string x) := by
      intro j x hx
      have hjl : j < ws.length := by have := (List.getElem?_eq_some_iff.1 hx).1; simpa using this
      obtain ⟨g', o', he, _, hc⟩ := hj j hjl
      simp only [Option.some.injEq, Addr.mk.injEq] at he
      obtain ⟨rfl, rfl, _⟩ := he
      obtain ⟨u, hu, hr⟩ := hc 0 (by decide)
      rw [Nat.mul_one, Nat.add_zero] at hu
      rw [hu]
      have hrow : rowF ((strRows (ws.map mkB)).getD j []) 0 = .str x := by
        have : (strRows (ws.map mkB))[j]? = some [.str x] := by simp only [strRows, List.getElem?_map]; rw [← List.getElem?_map, hx]; rfl
        rw [List.getD_eq_getElem?_getD, this]; rfl
      have hr : relK F w (rowF ((strRows (ws.map mkB)).getD j []) 0) u := hr
      rw [hrow] at hr
      have hr : u = .string x := hr
      rw [hr]
    have hmm : (ws.map mkB).length = ws.length := by simp
    have h := Tryd.strings_Join g o cap (ws.map mkB) sep w hcells (H.lt g hF) (by rw [hmm]; omega) (by rw [hmm]; exact hcap) (by rw [hws]; exact hl)
    rw [hws, hmm] at h
    generalize hL : (Lib.join ws sep.data.toList) = L at h ⊢
    subst hp
    clear hl hL hcells hj hmax ha
    exact Calls.mono h (fun e w' hx => ⟨_, noG, hx.1, hx.2, fun k h => h.elim, rfl⟩)) trivial
end Go.Proofs.YtnflnbdlgdjfmabDoor
namespace Go.Proofs.YtnflnbdlgdjfmabDoor
open Go.RowKit
set_option linter.unusedVariables false
set_option linter.unusedSimpArgs false
def mapEs (l : List (Int × Int)) : Array MapEntry := (l.zipIdx.map fun x => (⟨.int .i64 x.1.1, .int .i64 x.1.2, x.2⟩ : MapEntry)).toArray
theorem findNow_none (k : Int) : ∀ (l : List (Int × Int)) (n i : Nat), (∀ p ∈ l, p.1 ≠ k) → Instr.findNow (.int .i64) (.int .i64 k) ((l.zipIdx n).map fun x => (⟨.int .i64 x.1.1, .int .i64 x.1.2, x.2⟩ : MapEntry)) i = some none
  | [], _, _, _ => rfl
  | p :: l, n, i, h => by
    have h1 : (k == p.1) = false := by rw [beq_eq_false_iff_ne]; exact fun e => h p (by simp) e.symm
    have h2 := findNow_none k l (n + 1) (i + 1) fun q hq => h q (by simp [hq])
    simp only [List.zipIdx_cons, List.map_cons, Instr.findNow, Instr.sameNow, h1]
    exact h2
theorem set_alloc (w : World) (a b : Obj) : ({ w.alloc a with heap := (w.alloc a).heap.setIfInBounds w.heap.size b } : World) = w.alloc b := by
  simp only [World.alloc]
  congr 1
  apply Array.ext'
  simp [List.set_append]
theorem run_ins (w : World) (l : List (Int × Int)) (k v : Int) (h : ∀ p ∈ l, p.1 ≠ k) :
    (Instr.mapUpdate 110 (.map (some w.heap.size)) (.int .i64 k) (.int .i64 v)).run Tryd.prog (w.alloc (.map (mapEs l) l.length)) = .ok () (w.alloc (.map (mapEs (l ++ [(k, v)])) (l ++ [(k, v)]).length)) := by
  have hb : (w.alloc (.map (mapEs l) l.length)).heap[w.heap.size]? = some (.map (mapEs l) l.length) := by simp [World.alloc, -World.alloc_eq]
  have hf := findNow_none k l 0 0 h
  have hp : (mapEs l).push ⟨.int .i64 k, .int .i64 v, l.length⟩ = mapEs (l ++ [(k, v)]) := by
    simp [mapEs, List.zipIdx_append]
  unfold Instr.mapUpdate
  simp only [Sem.run_bind, run_underlying Tryd.underlying110, Result.andThen, MapKept.run_getObj_map hb, MapKept.run_checkKey Tryd.underlying3 (show MapKept.IsKey (.int .i64) (.int .i64 k) from rfl), MapKept.run_findKey Tryd.underlying3 (show Instr.findNow (.int .i64) (.int .i64 k) (mapEs l).toList 0 = some none by simpa [mapEs] using hf), MapKept.run_setObj_map _ hb]
  rw [set_alloc, hp, List.length_append]
  rfl
theorem findNow_some (k v : Int) : ∀ (l : List (Int × Int)) (n i : Nat), (l.find? fun p => p.1 == k) = some (k, v) → ∃ j, Instr.findNow (.int .i64) (.int .i64 k) ((l.zipIdx n).map fun x => (⟨.int .i64 x.1.1, .int .i64 x.1.2, x.2⟩ : MapEntry)) i = some (some (j, .int .i64 v))
  | [], _, _, h => by cases h
  | p :: l, n, i, h => by
    simp only [List.zipIdx_cons, List.map_cons, Instr.findNow, Instr.sameNow]
    rw [List.find?_cons] at h
    cases hp : (p.1 == k) with
    | true =>
      rw [hp] at h
      have hp2 : p = (k, v) := Option.some.inj h
      subst hp2
      simp
    | false =>
      rw [hp] at h
      have h1 : (k == p.1) = false := by rw [beq_eq_false_iff_ne] at hp ⊢; exact fun e => hp e.symm
      rw [h1]
      exact findNow_some k v l (n + 1) (i + 1) h
theorem run_look (w : World) (l : List (Int × Int)) (c : Nat) (k v : Int) (h : (l.find? fun p => p.1 == k) = some (k, v)) :
    (Instr.lookup 110 (.map (some w.heap.size)) (.int .i64 k) false).run Tryd.prog (w.alloc (.map (mapEs l) c)) = .ok (.int .i64 v) (w.alloc (.map (mapEs l) c)) := by
  have hb : (w.alloc (.map (mapEs l) c)).heap[w.heap.size]? = some (.map (mapEs l) c) := by simp [World.alloc, -World.alloc_eq]
  obtain ⟨j, hf⟩ := findNow_some k v l 0 0 h
  unfold Instr.lookup
  simp only [Sem.run_bind, run_underlying Tryd.underlying110, Result.andThen, MapKept.run_getObj_map hb, MapKept.run_checkKey Tryd.underlying3 (show MapKept.IsKey (.int .i64) (.int .i64 k) from rfl), MapKept.run_findKey Tryd.underlying3 (show Instr.findNow (.int .i64) (.int .i64 k) (mapEs l).toList 0 = some (some (j, .int .i64 v)) by simpa [mapEs] using hf), Sem.run_pure]
  rfl
def partsL : List (Int × Int) := [(1, 0), (2, 0), (3, 0), (4, 2), (5, 2), (6, 3), (7, 1), (8, 2), (9, 1)]
set_option maxRecDepth 100000 in
set_option maxHeartbeats 1000000 in
theorem parts_calls (w : World) (k v : Int) (h : (partsL.find? fun p => p.1 == k) = some (k, v)) : Calls Tryd.prog 57 #[.int .i64 k] w fun e w' => e = .returned (.int .i64 v) ∧ Below w.heap.size w w' := by
  have hmm : (Instr.makeMap 110 none).run Tryd.prog w = .ok (.map (some w.heap.size)) (w.alloc (.map (mapEs []) 0)) := rfl
  have i1 := run_ins w [] 1 0 (by decide)
  have i2 := run_ins w [(1, 0)] 2 0 (by decide)
  have i3 := run_ins w [(1, 0), (2, 0)] 3 0 (by decide)
  have i4 := run_ins w [(1, 0), (2, 0), (3, 0)] 4 2 (by decide)
  have i5 := run_ins w [(1, 0), (2, 0), (3, 0), (4, 2)] 5 2 (by decide)
  have i6 := run_ins w [(1, 0), (2, 0), (3, 0), (4, 2), (5, 2)] 6 3 (by decide)
  have i7 := run_ins w [(1, 0), (2, 0), (3, 0), (4, 2), (5, 2), (6, 3)] 7 1 (by decide)
  have i8 := run_ins w [(1, 0), (2, 0), (3, 0), (4, 2), (5, 2), (6, 3), (7, 1)] 8 2 (by decide)
  have i9 := run_ins w [(1, 0), (2, 0), (3, 0), (4, 2), (5, 2), (6, 3), (7, 1), (8, 2)] 9 1 (by decide)
  have lk := run_look w [(1, 0), (2, 0), (3, 0), (4, 2), (5, 2), (6, 3), (7, 1), (8, 2), (9, 1)] 9 k v h
  simp only [List.nil_append, List.cons_append, List.length_cons, List.length_nil] at i1 i2 i3 i4 i5 i6 i7 i8 i9
  go_enter Tryd.func57, Tryd.ntmps57
  go_wp2
  all_goals go_ret
  all_goals exact ⟨rfl, (Below.refl _ _).alloc (Nat.le_refl _) _⟩
theorem parts_find {k : Int} (h1 : 1 ≤ k) (h9 : k ≤ 9) : (partsL.find? fun p => p.1 == k) = some (k, arity k) := by
  obtain ⟨n, rfl⟩ : ∃ n : Nat, k = n := ⟨k.toNat, by omega⟩
  have : n < 10 := by omega
  match n, this with
  | 0, _ => omega
  | 1, _ | 2, _ | 3, _ | 4, _ | 5, _ | 6, _ | 7, _ | 8, _ | 9, _ => rfl
theorem parts_a (k : Int) (h1 : 1 ≤ k) (h9 : k ≤ 9) : ACalls Tryd.prog 57 [.one (.int .i64 k)] [] (.one (.int .i64 (arity k))) [] :=
  acalls_ext (by kernel_rfl) (fun F ρ w vals H ha => by
    obtain ⟨_, rfl, rfl⟩ := args1 ha
    exact (parts_calls w k (arity k) (parts_find h1 h9)).mono fun e w' ⟨he, hw⟩ => ⟨_, noG, he, hw, fun k h => h.elim, rfl⟩) trivial
end Go.Proofs.YtnflnbdlgdjfmabDoor
namespace Go.Proofs.YtnflnbdlgdjfmabDoor
open Go.RowKit
set_option linter.unusedVariables false
set_option linter.unusedSimpArgs false
set_option maxRecDepth 100000
attribute [local irreducible] RunL AW LocOp ACalls Gh
set_option maxHeartbeats 2000000 in
theorem copyTm_a : ∀ a : Tm, TmOk a → a.nodes ≤ 1048576 → ACalls Tryd.prog 13 [a.u] [] a.u [] := by
  intro a
  induction a using Tm.ind' with
  | h a ih =>
  intro hok hsz
  have hne := nodes_eta a
  have hnn := nodesL_len a.l
  have hL := tmRows_length a.l
  refine acalls_of_body Tryd.func13 rfl (by kernel_rfl) (Nat.le_of_ble_eq_true rfl) trivial (by simp [namesL]) ?_
  refine AW.seq ?_; refine AW.region (by kernel_rfl) ?_; refine RunL.mem (by exact rfl) (loc_boxD rfl rfl rfl) ?_; refine RunL.mem (by exact rfl) (loc_allocD rfl rfl) ?_; refine RunL.nil ?_; refine AW.seq ?_; refine AW.regionD (by kernel_rfl) (by kernel_rfl) (by kernel_rfl) ?_; refine RunL.val (by exact rfl) (loc_fieldAddr rfl) ?_; refine RunL.val (by exact rfl) (loc_loadA rfl rfl (by exact Cut.cons (by exact rfl) (Cut.cons (by exact rfl) Cut.nil))) ?_
  refine RunL.val (by exact rfl) (loc_fun (copyT_a a.t hok.t) rfl (by refine ⟨_, _, rfl, (by exact LeU.of_eq rfl trivial), (by (refine And.intro ?_ ?_; exact trivial; refine And.intro ?_ ?_; exact trivial; exact trivial; done)), ?_⟩; exact rfl)) ?_
  refine RunL.val (by exact rfl) (loc_fieldAddr rfl) ?_; refine RunL.val (by exact rfl) (loc_loadA rfl rfl (by exact Cut.cons (by exact rfl) (Cut.cons (by exact rfl) Cut.nil))) ?_
  refine RunL.val (by exact rfl) (loc_fun (copyT_a a.f hok.f) rfl (by refine ⟨_, _, rfl, (by exact LeU.of_eq rfl trivial), (by (refine And.intro ?_ ?_; exact trivial; refine And.intro ?_ ?_; exact trivial; exact trivial; done)), ?_⟩; exact rfl)) ?_
  refine RunL.val (by exact rfl) (loc_fieldAddr rfl) ?_; refine RunL.eff (by exact rfl) (loc_store (by exact rfl) (by exact rfl) (by exact rfl) (by exact rfl) (by exact rfl) (by exact Nat.le_of_ble_eq_true rfl) (by exact rfl)) ?_; refine RunL.val (by exact rfl) (loc_fieldAddr rfl) ?_; refine RunL.eff (by exact rfl) (loc_store (by exact rfl) (by exact rfl) (by exact rfl) (by exact rfl) (by exact rfl) (by exact Nat.le_of_ble_eq_true rfl) (by exact rfl)) ?_; refine RunL.nilD (by kernel_rfl) ?_; refine AW.seq ?_; refine AW.region (by kernel_rfl) ?_; refine RunL.val (by exact rfl) (loc_fieldAddr rfl) ?_; refine RunL.val (by exact rfl) (loc_load rfl rfl rfl) ?_; refine RunL.val (by exact rfl) (loc_assignC rfl) ?_; refine RunL.nil ?_; refine AW.seq ?_; refine AW.region (by kernel_rfl) ?_; refine RunL.val (by exact rfl) (loc_fieldAddr rfl) ?_; refine RunL.eff (by exact rfl) (loc_store (by exact rfl) (by exact rfl) (by exact rfl) (by exact rfl) (by exact rfl) (by exact Nat.le_of_ble_eq_true rfl) (by exact rfl)) ?_; refine RunL.nil ?_; refine AW.seq ?_; refine AW.seq ?_; refine AW.region (by kernel_rfl) ?_; refine RunL.val (by exact rfl) (loc_moveC rfl) ?_; refine RunL.val (by exact rfl) (loc_lenSl rfl) ?_; refine RunL.val (by exact rfl) (loc_moveC rfl) ?_; refine RunL.nil ?_; refine AW.block ?_
  refine AW.gh (gh_lit [(1, .one (.ptr 1 0)), (2, .one (.ptr 2 0)), (17, .one (slOf 7 (tmRows a.l))), (18, .one (.int .i64 ((tmRows a.l).length : Nat))), (19, .one (.int .i64 ((0 : Nat) : Int)))] [(1, .obj [.int .i64 a.k, .int .i64 a.n, .int .i64 a.t.k, slOf 2 (tyRows a.t.l), .int .i64 a.f.k, slOf 2 (tyRows a.f.l), .own 105 (0) (0)]), (2, .obj Tm.zero.c), (105, .row 27 7 (0) ([]))] [] [105] ⟨(WkU.of_eq rfl trivial), (WkU.of_eq rfl trivial), (by exact WkU.of_eq rfl trivial), (WkU.of_eq rfl trivial), (WkU.of_eq rfl trivial), trivial⟩ ⟨(by (refine Or.inl ⟨_, rfl, ?_⟩; show All2 _ _ _; refine And.intro ?_ ?_; exact WkC.le (LeC.refl _); refine And.intro ?_ ?_; exact WkC.le (LeC.refl _); refine And.intro ?_ ?_; exact WkC.le (LeC.refl _); refine And.intro ?_ ?_; exact WkC.le (LeC.refl _); refine And.intro ?_ ?_; exact WkC.le (LeC.refl _); refine And.intro ?_ ?_; exact WkC.le (LeC.refl _); refine And.intro ?_ ?_; exact WkC.nil (List.mem_cons_self ..); exact trivial)), (by (refine Or.inl ⟨_, rfl, ?_⟩; show All2 _ _ _; refine And.intro ?_ ?_; exact WkC.le (LeC.refl _); refine And.intro ?_ ?_; exact WkC.le (LeC.refl _); refine And.intro ?_ ?_; exact WkC.le (LeC.refl _); refine And.intro ?_ ?_; exact WkC.le (LeC.nil _); refine And.intro ?_ ?_; exact WkC.le (LeC.refl _); refine And.intro ?_ ?_; exact WkC.le (LeC.nil _); refine And.intro ?_ ?_; exact WkC.le (LeC.nil _); exact trivial)), (by exact Or.inr ⟨rfl, List.mem_cons_self .., _, _, by decide, rfl⟩), trivial⟩ trivial ⟨rfl, trivial⟩ rfl rfl ⟨⟨_, rfl⟩, ⟨_, rfl⟩, trivial, trivial, trivial, trivial⟩ ⟨(by refine And.intro ?_ ?_; exact trivial; refine And.intro ?_ ?_; exact trivial; refine And.intro ?_ ?_; exact trivial; refine And.intro ?_ ?_; exact trivial; refine And.intro ?_ ?_; exact trivial; refine And.intro ?_ ?_; exact trivial; refine And.intro ?_ ?_; exact ⟨_, _, _, _, rfl, Nat.le_refl _⟩; exact trivial), (by refine And.intro ?_ ?_; exact trivial; refine And.intro ?_ ?_; exact trivial; refine And.intro ?_ ?_; exact trivial; refine And.intro ?_ ?_; exact trivial; refine And.intro ?_ ?_; exact trivial; refine And.intro ?_ ?_; exact trivial; refine And.intro ?_ ?_; exact trivial; exact trivial), (okRows_closed (by exact rfl)), trivial⟩) ?_
  refine AW.lenSl 17 rfl fun hmax => ?_
  refine AW.loop (fun m t h => ∃ i : Nat, i ≤ a.l.length ∧ m = a.l.length - i ∧ t = tOfL [(1, .one (.ptr 1 0)), (2, .one (.ptr 2 0)), (17, .one (slOf 7 (tmRows a.l))), (18, .one (.int .i64 ((tmRows a.l).length : Nat))), (19, .one (.int .i64 ((i : Nat) : Int)))] ∧ h = ofL [(1, .obj [.int .i64 a.k, .int .i64 a.n, .int .i64 a.t.k, slOf 2 (tyRows a.t.l), .int .i64 a.f.k, slOf 2 (tyRows a.f.l), .own 105 (i) (i)]), (2, .obj Tm.zero.c), (105, .row 27 7 (i) (tmRows (a.l.take (i))))]) a.l.length ⟨0, Nat.zero_le _, rfl, rfl, rfl⟩ ?_
  rintro m t h ⟨i, hi, rfl, rfl, rfl⟩
  have htk : (tmRows (a.l.take i)).length = i := by rw [tmRows_length, List.length_take]; omega
  cases hlt : decide ((i : Int) < ((tmRows a.l).length : Nat)) with
  | false =>
    have hil : i = a.l.length := by simp at hlt; omega
    refine AW.seq ?_; refine AW.region (by kernel_rfl) ?_; refine RunL.val (by exact rfl) (loc_binInt rfl rfl rfl) ?_; refine RunL.nil ?_; refine AW.seq ?_; refine AW.condFa (by exact rfl) (by assumption) ?_; refine AW.exit ?_; refine AW.seq ?_; refine AW.region (by kernel_rfl) ?_; refine RunL.val (by exact rfl) (loc_loadA rfl rfl (by exact Cut.all (by exact rfl))) ?_; refine RunL.eff (by exact rfl) (loc_storeW rfl rfl rfl rfl (by exact rfl) (by exact rfl)) ?_; refine RunL.nil ?_; refine AW.ret ?_
    refine rq ?_
    refine ret_cell (by exact .inr rfl) (by exact rfl) (by exact rfl) (by exact rfl) [105] (by exact ⟨⟨_, rfl, closed_tmRows _⟩, trivial⟩) (l' := a.c) (by exact ⟨.le (.refl _), .le (.refl _), .le (.refl _), .le (.refl _), .le (.refl _), .le (.refl _), .row (List.mem_cons_self ..) rfl htk (by rw [hil, List.take_length]; exact LeRows.refl _), trivial⟩) (by refine And.intro ?_ ?_; exact trivial; refine And.intro ?_ ?_; exact trivial; refine And.intro ?_ ?_; exact trivial; refine And.intro ?_ ?_; exact trivial; refine And.intro ?_ ?_; exact trivial; refine And.intro ?_ ?_; exact trivial; refine And.intro ?_ ?_; exact trivial; exact trivial) (by exact rfl)
  | true =>
    have hil : i < a.l.length := by simp at hlt; omega
    have hr1 := tmRows_get hil
    have hn3 := nodes_mem (List.getElem_mem hil)
    refine AW.seq ?_; refine AW.region (by kernel_rfl) ?_; refine RunL.val (by exact rfl) (loc_binInt rfl rfl rfl) ?_; refine RunL.nil ?_; refine AW.seq ?_; refine AW.condTa (by exact rfl) (by assumption) ?_; refine AW.skip ?_; refine AW.seq ?_; refine AW.block ?_; refine AW.seq ?_; refine AW.region (by kernel_rfl) ?_; refine RunL.val (by exact rfl) (loc_indexSl _ rfl rfl rfl (by assumption) rfl) ?_; refine RunL.val (by exact rfl) (loc_loadFA rfl (by exact Cut.all (by exact rfl))) ?_; refine RunL.mem (by exact rfl) (loc_allocD rfl rfl) ?_; refine RunL.eff (by exact rfl) (loc_storeW rfl rfl rfl rfl (by exact rfl) (by exact rfl)) ?_; refine RunL.nil ?_; refine AW.regionD (by kernel_rfl) (by kernel_rfl) (by kernel_rfl) ?_; refine RunL.val (by exact rfl) (loc_fieldAddr rfl) ?_; refine RunL.val (by exact rfl) (loc_load rfl rfl rfl) ?_; refine RunL.val (by exact rfl) (loc_loadA rfl rfl (by exact Cut.all (by exact rfl))) ?_
    refine RunL.val (by exact rfl) (loc_fun (ih a.l[i] (List.getElem_mem _) (hok.l _ (List.getElem_mem _)) (by omega)) rfl (by refine ⟨_, _, rfl, (by exact LeU.of_eq rfl trivial), (by (refine And.intro ?_ ?_; exact trivial; refine And.intro ?_ ?_; exact trivial; refine And.intro ?_ ?_; exact trivial; refine And.intro ?_ ?_; exact trivial; refine And.intro ?_ ?_; exact trivial; refine And.intro ?_ ?_; exact trivial; refine And.intro ?_ ?_; exact trivial; exact trivial; done)), ?_⟩; exact rfl)) ?_
    refine RunL.val (by exact rfl) (loc_sliceLit (by exact rfl) (by exact rfl) (by decide) (by decide) (by exact RowsOf.cons (by exact rfl) RowsOf.nil) (by exact AllP.cons (by exact rfl) AllP.nil) (by exact rfl)) ?_
    refine RunL.mem (by exact rfl) (loc_appendAll (by exact rfl) (by exact rfl) (by exact rfl) (by exact .inl rfl) (by exact htk) (by exact ⟨rfl, trivial⟩) (by simp only [List.length_cons, List.length_nil]; omega) (by decide)) ?_
    have hrows : tmRows (a.l.take i) ++ [a.l[i].c] = tmRows (a.l.take (i + 1)) := by
      rw [List.take_add_one, List.getElem?_eq_getElem hil, Option.toList_some, tmRows_append]; simp [tmRows, Tm.cells_c]
    rw [hrows]
    refine RunL.val (by exact rfl) (loc_fieldAddr rfl) ?_; refine RunL.eff (by exact rfl) (loc_store (by exact rfl) (by exact rfl) (by exact rfl) (by exact rfl) (by exact rfl) (by exact Nat.le_of_ble_eq_true rfl) (by exact rfl)) ?_; refine RunL.nilD (by kernel_rfl) ?_; refine AW.region (by kernel_rfl) ?_; refine RunL.val (by exact rfl) (loc_inc rfl rfl (by omega)) ?_; refine RunL.val (by exact rfl) (loc_moveC rfl) ?_; refine RunL.nil ?_
    exact ⟨a.l.length - (i + 1), _, _, by omega, (gh_lit [(1, .one (.ptr 1 0)), (2, .one (.ptr 2 0)), (17, .one (slOf 7 (tmRows a.l))), (18, .one (.int .i64 ((tmRows a.l).length : Nat))), (19, .one (.int .i64 (((i + 1) : Nat) : Int)))] [(1, .obj [.int .i64 a.k, .int .i64 a.n, .int .i64 a.t.k, slOf 2 (tyRows a.t.l), .int .i64 a.f.k, slOf 2 (tyRows a.f.l), .own 105 ((i + 1)) ((i + 1))]), (2, .obj Tm.zero.c), (105, .row 27 7 ((i + 1)) (tmRows (a.l.take (i + 1))))] [] [] ⟨(WkU.of_eq rfl trivial), (WkU.of_eq rfl trivial), (by exact WkU.of_eq rfl trivial), (WkU.of_eq rfl trivial), (WkU.of_eq rfl trivial), trivial⟩ ⟨(by exact Or.inl ⟨_, rfl, WkBlk.refl _⟩), (by exact Or.inl ⟨_, rfl, WkBlk.refl _⟩), (by exact Or.inl ⟨_, rfl, WkBlk.refl _⟩), trivial⟩ trivial trivial rfl rfl ⟨⟨_, rfl⟩, ⟨_, rfl⟩, trivial, trivial, trivial, trivial⟩ ⟨(by refine And.intro ?_ ?_; exact trivial; refine And.intro ?_ ?_; exact trivial; refine And.intro ?_ ?_; exact trivial; refine And.intro ?_ ?_; exact trivial; refine And.intro ?_ ?_; exact trivial; refine And.intro ?_ ?_; exact trivial; refine And.intro ?_ ?_; exact ⟨_, _, _, _, rfl, Nat.le_refl _⟩; exact trivial), (by refine And.intro ?_ ?_; exact trivial; refine And.intro ?_ ?_; exact trivial; refine And.intro ?_ ?_; exact trivial; refine And.intro ?_ ?_; exact trivial; refine And.intro ?_ ?_; exact trivial; refine And.intro ?_ ?_; exact trivial; refine And.intro ?_ ?_; exact trivial; exact trivial), (okRows_closed (by exact closed_tmRows _)), trivial⟩), i + 1, by omega, rfl, rfl, rfl⟩
set_option maxHeartbeats 4000000 in
theorem rsameTm_a : ∀ a b : Tm, ACalls Tryd.prog 19 [a.u, b.u] [] (.one (.bool (a.same b))) [] := by
  intro a
  induction a using Tm.ind' with
  | h a ih =>
  intro b
  have hL := tmRows_length a.l
  have hM := tmRows_length b.l
  have s1 := rsame_a a.t b.t
  have s2 := rsame_a a.f b.f
  refine acalls_of_body Tryd.func19 rfl (by kernel_rfl) (Nat.le_of_ble_eq_true rfl) trivial (by simp [namesL]) ?_
  refine AW.seq ?_
  refine AW.region (by kernel_rfl) ?_
  refine RunL.mem (by exact rfl) (loc_boxD rfl rfl rfl) ?_; refine RunL.mem (by exact rfl) (loc_boxD rfl rfl rfl) ?_; refine RunL.val (by exact rfl) (loc_assignC rfl) ?_; refine RunL.nil ?_
  refine AW.seq ?_
  refine AW.midC (fun t h => t = tOfL [(2, .one (.ptr 2 0)), (3, .one (.ptr 3 0)), (5, .one (.bool (a.k == b.k && a.n == b.n && a.t.same b.t && a.f.same b.f && (((tmRows a.l).length : Nat) : Int) == ((tmRows b.l).length : Nat))))] ∧ h = ofL [(2, .obj a.c), (3, .obj b.c)]) ?_ ?_
  · cases h1 : (a.k == b.k) with
    | false =>
      refine AW.region (by kernel_rfl) ?_; refine RunL.val (by exact rfl) (loc_fieldAddr rfl) ?_; refine RunL.val (by exact rfl) (loc_load rfl rfl rfl) ?_; refine RunL.val (by exact rfl) (loc_fieldAddr rfl) ?_; refine RunL.val (by exact rfl) (loc_load rfl rfl rfl) ?_; refine RunL.val (by exact rfl) (loc_binInt rfl rfl rfl) ?_; refine RunL.val (by exact rfl) (loc_moveC rfl) ?_; refine RunL.skip (.inl ⟨_, _, rfl, rfl, guard_eq false (by assumption) rfl⟩) ?_; refine RunL.skip (.inl ⟨_, _, rfl, rfl, guard_eq false (by assumption) rfl⟩) ?_; refine RunL.skip (.inl ⟨_, _, rfl, rfl, guard_eq false (by assumption) rfl⟩) ?_; refine RunL.skip (.inl ⟨_, _, rfl, rfl, guard_eq false (by assumption) rfl⟩) ?_; refine RunL.skip (.inl ⟨_, _, rfl, rfl, guard_eq false (by assumption) rfl⟩) ?_; refine RunL.val (by exact rfl) (loc_pickI false (by assumption) rfl rfl) ?_; refine RunL.val (by exact rfl) (loc_moveC rfl) ?_; refine RunL.skip (.inl ⟨_, _, rfl, rfl, rfl⟩) ?_; refine RunL.skip (.inl ⟨_, _, rfl, rfl, rfl⟩) ?_; refine RunL.skip (.inl ⟨_, _, rfl, rfl, rfl⟩) ?_; refine RunL.skip (.inl ⟨_, _, rfl, rfl, rfl⟩) ?_; refine RunL.skip (.inl ⟨_, _, rfl, rfl, rfl⟩) ?_; refine RunL.val (by exact rfl) (loc_pickF rfl rfl) ?_; refine RunL.val (by exact rfl) (loc_moveC rfl) ?_; refine RunL.skip (.inl ⟨_, _, rfl, rfl, rfl⟩) ?_; refine RunL.skip (.inl ⟨_, _, rfl, rfl, rfl⟩) ?_; refine RunL.skip (.inl ⟨_, _, rfl, rfl, rfl⟩) ?_; refine RunL.skip (.inl ⟨_, _, rfl, rfl, rfl⟩) ?_; refine RunL.skip (.inl ⟨_, _, rfl, rfl, rfl⟩) ?_; refine RunL.val (by exact rfl) (loc_pickF rfl rfl) ?_; refine RunL.val (by exact rfl) (loc_moveC rfl) ?_; refine RunL.skip (.inl ⟨_, _, rfl, rfl, rfl⟩) ?_; refine RunL.skip (.inl ⟨_, _, rfl, rfl, rfl⟩) ?_; refine RunL.skip (.inl ⟨_, _, rfl, rfl, rfl⟩) ?_; refine RunL.skip (.inl ⟨_, _, rfl, rfl, rfl⟩) ?_; refine RunL.skip (.inl ⟨_, _, rfl, rfl, rfl⟩) ?_; refine RunL.skip (.inl ⟨_, _, rfl, rfl, rfl⟩) ?_; refine RunL.skip (.inl ⟨_, _, rfl, rfl, rfl⟩) ?_; refine RunL.val (by exact rfl) (loc_pickF rfl rfl) ?_; refine RunL.val (by exact rfl) (loc_assignC rfl) ?_; refine RunL.nil ?_
      exact ⟨_, _, (gh_lit [(2, .one (.ptr 2 0)), (3, .one (.ptr 3 0)), (5, .one (.bool (false)))] [(2, .obj a.c), (3, .obj b.c)] [] [] ⟨(WkU.of_eq rfl trivial), (WkU.of_eq rfl trivial), (WkU.of_eq rfl trivial), trivial⟩ ⟨(by exact Or.inl ⟨_, rfl, WkBlk.refl _⟩), (by exact Or.inl ⟨_, rfl, WkBlk.refl _⟩), trivial⟩ trivial trivial rfl rfl ⟨⟨_, rfl⟩, ⟨_, rfl⟩, trivial, trivial⟩ ⟨(by refine And.intro ?_ ?_; exact trivial; refine And.intro ?_ ?_; exact trivial; refine And.intro ?_ ?_; exact trivial; refine And.intro ?_ ?_; exact trivial; refine And.intro ?_ ?_; exact trivial; refine And.intro ?_ ?_; exact trivial; refine And.intro ?_ ?_; exact trivial; exact trivial), (by refine And.intro ?_ ?_; exact trivial; refine And.intro ?_ ?_; exact trivial; refine And.intro ?_ ?_; exact trivial; refine And.intro ?_ ?_; exact trivial; refine And.intro ?_ ?_; exact trivial; refine And.intro ?_ ?_; exact trivial; refine And.intro ?_ ?_; exact trivial; exact trivial), trivial⟩), by simp, rfl⟩
    | true =>
    cases h2 : (a.n == b.n) with
    | false =>
      refine AW.region (by kernel_rfl) ?_; refine RunL.val (by exact rfl) (loc_fieldAddr rfl) ?_; refine RunL.val (by exact rfl) (loc_load rfl rfl rfl) ?_; refine RunL.val (by exact rfl) (loc_fieldAddr rfl) ?_; refine RunL.val (by exact rfl) (loc_load rfl rfl rfl) ?_; refine RunL.val (by exact rfl) (loc_binInt rfl rfl rfl) ?_; refine RunL.val (by exact rfl) (loc_moveC rfl) ?_; refine RunL.val (by exact .inl ⟨_, _, rfl, rfl, guard_eq true (by assumption) rfl⟩) (loc_fieldAddr rfl) ?_; refine RunL.val (by exact .inl ⟨_, _, rfl, rfl, guard_eq true (by assumption) rfl⟩) (loc_load rfl rfl rfl) ?_; refine RunL.val (by exact .inl ⟨_, _, rfl, rfl, guard_eq true (by assumption) rfl⟩) (loc_fieldAddr rfl) ?_; refine RunL.val (by exact .inl ⟨_, _, rfl, rfl, guard_eq true (by assumption) rfl⟩) (loc_load rfl rfl rfl) ?_; refine RunL.val (by exact .inl ⟨_, _, rfl, rfl, guard_eq true (by assumption) rfl⟩) (loc_binInt rfl rfl rfl) ?_; refine RunL.val (by exact rfl) (loc_pickI true (by assumption) rfl rfl) ?_; refine RunL.val (by exact rfl) (loc_moveC rfl) ?_; refine RunL.skip (.inl ⟨_, _, rfl, rfl, guard_eq false (by assumption) rfl⟩) ?_; refine RunL.skip (.inl ⟨_, _, rfl, rfl, guard_eq false (by assumption) rfl⟩) ?_; refine RunL.skip (.inl ⟨_, _, rfl, rfl, guard_eq false (by assumption) rfl⟩) ?_; refine RunL.skip (.inl ⟨_, _, rfl, rfl, guard_eq false (by assumption) rfl⟩) ?_; refine RunL.skip (.inl ⟨_, _, rfl, rfl, guard_eq false (by assumption) rfl⟩) ?_; refine RunL.val (by exact rfl) (loc_pickI false (by assumption) rfl rfl) ?_; refine RunL.val (by exact rfl) (loc_moveC rfl) ?_; refine RunL.skip (.inl ⟨_, _, rfl, rfl, rfl⟩) ?_; refine RunL.skip (.inl ⟨_, _, rfl, rfl, rfl⟩) ?_; refine RunL.skip (.inl ⟨_, _, rfl, rfl, rfl⟩) ?_; refine RunL.skip (.inl ⟨_, _, rfl, rfl, rfl⟩) ?_; refine RunL.skip (.inl ⟨_, _, rfl, rfl, rfl⟩) ?_; refine RunL.val (by exact rfl) (loc_pickF rfl rfl) ?_; refine RunL.val (by exact rfl) (loc_moveC rfl) ?_; refine RunL.skip (.inl ⟨_, _, rfl, rfl, rfl⟩) ?_; refine RunL.skip (.inl ⟨_, _, rfl, rfl, rfl⟩) ?_; refine RunL.skip (.inl ⟨_, _, rfl, rfl, rfl⟩) ?_; refine RunL.skip (.inl ⟨_, _, rfl, rfl, rfl⟩) ?_; refine RunL.skip (.inl ⟨_, _, rfl, rfl, rfl⟩) ?_; refine RunL.skip (.inl ⟨_, _, rfl, rfl, rfl⟩) ?_; refine RunL.skip (.inl ⟨_, _, rfl, rfl, rfl⟩) ?_; refine RunL.val (by exact rfl) (loc_pickF rfl rfl) ?_; refine RunL.val (by exact rfl) (loc_assignC rfl) ?_; refine RunL.nil ?_
      exact ⟨_, _, (gh_lit [(2, .one (.ptr 2 0)), (3, .one (.ptr 3 0)), (5, .one (.bool (false)))] [(2, .obj a.c), (3, .obj b.c)] [] [] ⟨(WkU.of_eq rfl trivial), (WkU.of_eq rfl trivial), (WkU.of_eq rfl trivial), trivial⟩ ⟨(by exact Or.inl ⟨_, rfl, WkBlk.refl _⟩), (by exact Or.inl ⟨_, rfl, WkBlk.refl _⟩), trivial⟩ trivial trivial rfl rfl ⟨⟨_, rfl⟩, ⟨_, rfl⟩, trivial, trivial⟩ ⟨(by refine And.intro ?_ ?_; exact trivial; refine And.intro ?_ ?_; exact trivial; refine And.intro ?_ ?_; exact trivial; refine And.intro ?_ ?_; exact trivial; refine And.intro ?_ ?_; exact trivial; refine And.intro ?_ ?_; exact trivial; refine And.intro ?_ ?_; exact trivial; exact trivial), (by refine And.intro ?_ ?_; exact trivial; refine And.intro ?_ ?_; exact trivial; refine And.intro ?_ ?_; exact trivial; refine And.intro ?_ ?_; exact trivial; refine And.intro ?_ ?_; exact trivial; refine And.intro ?_ ?_; exact trivial; refine And.intro ?_ ?_; exact trivial; exact trivial), trivial⟩), by simp, rfl⟩
    | true =>
    refine AW.region (by kernel_rfl) ?_; refine RunL.val (by exact rfl) (loc_fieldAddr rfl) ?_; refine RunL.val (by exact rfl) (loc_load rfl rfl rfl) ?_; refine RunL.val (by exact rfl) (loc_fieldAddr rfl) ?_; refine RunL.val (by exact rfl) (loc_load rfl rfl rfl) ?_; refine RunL.val (by exact rfl) (loc_binInt rfl rfl rfl) ?_; refine RunL.val (by exact rfl) (loc_moveC rfl) ?_; refine RunL.val (by exact .inl ⟨_, _, rfl, rfl, guard_eq true (by assumption) rfl⟩) (loc_fieldAddr rfl) ?_; refine RunL.val (by exact .inl ⟨_, _, rfl, rfl, guard_eq true (by assumption) rfl⟩) (loc_load rfl rfl rfl) ?_; refine RunL.val (by exact .inl ⟨_, _, rfl, rfl, guard_eq true (by assumption) rfl⟩) (loc_fieldAddr rfl) ?_; refine RunL.val (by exact .inl ⟨_, _, rfl, rfl, guard_eq true (by assumption) rfl⟩) (loc_load rfl rfl rfl) ?_; refine RunL.val (by exact .inl ⟨_, _, rfl, rfl, guard_eq true (by assumption) rfl⟩) (loc_binInt rfl rfl rfl) ?_; refine RunL.val (by exact rfl) (loc_pickI true (by assumption) rfl rfl) ?_; refine RunL.val (by exact rfl) (loc_moveC rfl) ?_; refine RunL.val (by exact .inl ⟨_, _, rfl, rfl, guard_eq true (by assumption) rfl⟩) (loc_fieldAddr rfl) ?_; refine RunL.val (by exact .inl ⟨_, _, rfl, rfl, guard_eq true (by assumption) rfl⟩) (loc_loadA rfl rfl (by exact Cut.cons (by exact rfl) (Cut.cons (by exact rfl) Cut.nil))) ?_; refine RunL.val (by exact .inl ⟨_, _, rfl, rfl, guard_eq true (by assumption) rfl⟩) (loc_fieldAddr rfl) ?_; refine RunL.val (by exact .inl ⟨_, _, rfl, rfl, guard_eq true (by assumption) rfl⟩) (loc_loadA rfl rfl (by exact Cut.cons (by exact rfl) (Cut.cons (by exact rfl) Cut.nil))) ?_
    refine RunL.val (by exact .inl ⟨_, _, rfl, rfl, guard_eq true (by assumption) rfl⟩) (loc_fun s1 rfl (by refine ⟨_, _, rfl, (by exact LeU.of_eq rfl trivial), (by (refine And.intro ?_ ?_; exact trivial; refine And.intro ?_ ?_; exact trivial; exact trivial; done)), ?_⟩; refine ⟨_, _, rfl, (by exact LeU.of_eq rfl trivial), (by (refine And.intro ?_ ?_; exact trivial; refine And.intro ?_ ?_; exact trivial; exact trivial; done)), ?_⟩; exact rfl)) ?_
    cases h3 : a.t.same b.t with
    | false =>
      refine RunL.val (by exact rfl) (loc_pickI true (by assumption) rfl rfl) ?_; refine RunL.val (by exact rfl) (loc_moveC rfl) ?_; refine RunL.skip (.inl ⟨_, _, rfl, rfl, rfl⟩) ?_; refine RunL.skip (.inl ⟨_, _, rfl, rfl, rfl⟩) ?_; refine RunL.skip (.inl ⟨_, _, rfl, rfl, rfl⟩) ?_; refine RunL.skip (.inl ⟨_, _, rfl, rfl, rfl⟩) ?_; refine RunL.skip (.inl ⟨_, _, rfl, rfl, rfl⟩) ?_; refine RunL.val (by exact rfl) (loc_pickF rfl rfl) ?_; refine RunL.val (by exact rfl) (loc_moveC rfl) ?_; refine RunL.skip (.inl ⟨_, _, rfl, rfl, rfl⟩) ?_; refine RunL.skip (.inl ⟨_, _, rfl, rfl, rfl⟩) ?_; refine RunL.skip (.inl ⟨_, _, rfl, rfl, rfl⟩) ?_; refine RunL.skip (.inl ⟨_, _, rfl, rfl, rfl⟩) ?_; refine RunL.skip (.inl ⟨_, _, rfl, rfl, rfl⟩) ?_; refine RunL.skip (.inl ⟨_, _, rfl, rfl, rfl⟩) ?_; refine RunL.skip (.inl ⟨_, _, rfl, rfl, rfl⟩) ?_; refine RunL.val (by exact rfl) (loc_pickF rfl rfl) ?_; refine RunL.val (by exact rfl) (loc_assignC rfl) ?_; refine RunL.nil ?_
      exact ⟨_, _, (gh_lit [(2, .one (.ptr 2 0)), (3, .one (.ptr 3 0)), (5, .one (.bool (false)))] [(2, .obj a.c), (3, .obj b.c)] [] [] ⟨(WkU.of_eq rfl trivial), (WkU.of_eq rfl trivial), (WkU.of_eq rfl trivial), trivial⟩ ⟨(by exact Or.inl ⟨_, rfl, WkBlk.refl _⟩), (by exact Or.inl ⟨_, rfl, WkBlk.refl _⟩), trivial⟩ trivial trivial rfl rfl ⟨⟨_, rfl⟩, ⟨_, rfl⟩, trivial, trivial⟩ ⟨(by refine And.intro ?_ ?_; exact trivial; refine And.intro ?_ ?_; exact trivial; refine And.intro ?_ ?_; exact trivial; refine And.intro ?_ ?_; exact trivial; refine And.intro ?_ ?_; exact trivial; refine And.intro ?_ ?_; exact trivial; refine And.intro ?_ ?_; exact trivial; exact trivial), (by refine And.intro ?_ ?_; exact trivial; refine And.intro ?_ ?_; exact trivial; refine And.intro ?_ ?_; exact trivial; refine And.intro ?_ ?_; exact trivial; refine And.intro ?_ ?_; exact trivial; refine And.intro ?_ ?_; exact trivial; refine And.intro ?_ ?_; exact trivial; exact trivial), trivial⟩), by simp, rfl⟩
    | true =>
    refine RunL.val (by exact rfl) (loc_pickI true (by assumption) rfl rfl) ?_; refine RunL.val (by exact rfl) (loc_moveC rfl) ?_; refine RunL.val (by exact .inl ⟨_, _, rfl, rfl, rfl⟩) (loc_fieldAddr rfl) ?_; refine RunL.val (by exact .inl ⟨_, _, rfl, rfl, rfl⟩) (loc_loadA rfl rfl (by exact Cut.cons (by exact rfl) (Cut.cons (by exact rfl) Cut.nil))) ?_; refine RunL.val (by exact .inl ⟨_, _, rfl, rfl, rfl⟩) (loc_fieldAddr rfl) ?_; refine RunL.val (by exact .inl ⟨_, _, rfl, rfl, rfl⟩) (loc_loadA rfl rfl (by exact Cut.cons (by exact rfl) (Cut.cons (by exact rfl) Cut.nil))) ?_
    refine RunL.val (by exact .inl ⟨_, _, rfl, rfl, rfl⟩) (loc_fun s2 rfl (by refine ⟨_, _, rfl, (by exact LeU.of_eq rfl trivial), (by (refine And.intro ?_ ?_; exact trivial; refine And.intro ?_ ?_; exact trivial; exact trivial; done)), ?_⟩; refine ⟨_, _, rfl, (by exact LeU.of_eq rfl trivial), (by (refine And.intro ?_ ?_; exact trivial; refine And.intro ?_ ?_; exact trivial; exact trivial; done)), ?_⟩; exact rfl)) ?_
    cases h4 : a.f.same b.f with
    | false =>
      refine RunL.val (by exact rfl) (loc_pickT rfl rfl) ?_; refine RunL.val (by exact rfl) (loc_moveC rfl) ?_; refine RunL.skip (.inl ⟨_, _, rfl, rfl, rfl⟩) ?_; refine RunL.skip (.inl ⟨_, _, rfl, rfl, rfl⟩) ?_; refine RunL.skip (.inl ⟨_, _, rfl, rfl, rfl⟩) ?_; refine RunL.skip (.inl ⟨_, _, rfl, rfl, rfl⟩) ?_; refine RunL.skip (.inl ⟨_, _, rfl, rfl, rfl⟩) ?_; refine RunL.skip (.inl ⟨_, _, rfl, rfl, rfl⟩) ?_; refine RunL.skip (.inl ⟨_, _, rfl, rfl, rfl⟩) ?_; refine RunL.val (by exact rfl) (loc_pickF rfl rfl) ?_; refine RunL.val (by exact rfl) (loc_assignC rfl) ?_; refine RunL.nil ?_
      exact ⟨_, _, (gh_lit [(2, .one (.ptr 2 0)), (3, .one (.ptr 3 0)), (5, .one (.bool (false)))] [(2, .obj a.c), (3, .obj b.c)] [] [] ⟨(WkU.of_eq rfl trivial), (WkU.of_eq rfl trivial), (WkU.of_eq rfl trivial), trivial⟩ ⟨(by exact Or.inl ⟨_, rfl, WkBlk.refl _⟩), (by exact Or.inl ⟨_, rfl, WkBlk.refl _⟩), trivial⟩ trivial trivial rfl rfl ⟨⟨_, rfl⟩, ⟨_, rfl⟩, trivial, trivial⟩ ⟨(by refine And.intro ?_ ?_; exact trivial; refine And.intro ?_ ?_; exact trivial; refine And.intro ?_ ?_; exact trivial; refine And.intro ?_ ?_; exact trivial; refine And.intro ?_ ?_; exact trivial; refine And.intro ?_ ?_; exact trivial; refine And.intro ?_ ?_; exact trivial; exact trivial), (by refine And.intro ?_ ?_; exact trivial; refine And.intro ?_ ?_; exact trivial; refine And.intro ?_ ?_; exact trivial; refine And.intro ?_ ?_; exact trivial; refine And.intro ?_ ?_; exact trivial; refine And.intro ?_ ?_; exact trivial; refine And.intro ?_ ?_; exact trivial; exact trivial), trivial⟩), by simp, rfl⟩
    | true =>
    refine RunL.val (by exact rfl) (loc_pickT rfl rfl) ?_; refine RunL.val (by exact rfl) (loc_moveC rfl) ?_; refine RunL.val (by exact .inl ⟨_, _, rfl, rfl, rfl⟩) (loc_fieldAddr rfl) ?_; refine RunL.val (by exact .inl ⟨_, _, rfl, rfl, rfl⟩) (loc_load rfl rfl rfl) ?_; refine RunL.val (by exact .inl ⟨_, _, rfl, rfl, rfl⟩) (loc_lenSl rfl) ?_; refine RunL.val (by exact .inl ⟨_, _, rfl, rfl, rfl⟩) (loc_fieldAddr rfl) ?_; refine RunL.val (by exact .inl ⟨_, _, rfl, rfl, rfl⟩) (loc_load rfl rfl rfl) ?_; refine RunL.val (by exact .inl ⟨_, _, rfl, rfl, rfl⟩) (loc_lenSl rfl) ?_; refine RunL.val (by exact .inl ⟨_, _, rfl, rfl, rfl⟩) (loc_binInt rfl rfl rfl) ?_; refine RunL.val (by exact rfl) (loc_pickT rfl rfl) ?_; refine RunL.val (by exact rfl) (loc_assignC rfl) ?_; refine RunL.nil ?_
    exact ⟨_, _, (gh_lit [(2, .one (.ptr 2 0)), (3, .one (.ptr 3 0)), (5, .one (.bool ((((tmRows a.l).length : Nat) : Int) == ((tmRows b.l).length : Nat))))] [(2, .obj a.c), (3, .obj b.c)] [] [] ⟨(WkU.of_eq rfl trivial), (WkU.of_eq rfl trivial), (WkU.of_eq rfl trivial), trivial⟩ ⟨(by exact Or.inl ⟨_, rfl, WkBlk.refl _⟩), (by exact Or.inl ⟨_, rfl, WkBlk.refl _⟩), trivial⟩ trivial trivial rfl rfl ⟨⟨_, rfl⟩, ⟨_, rfl⟩, trivial, trivial⟩ ⟨(by refine And.intro ?_ ?_; exact trivial; refine And.intro ?_ ?_; exact trivial; refine And.intro ?_ ?_; exact trivial; refine And.intro ?_ ?_; exact trivial; refine And.intro ?_ ?_; exact trivial; refine And.intro ?_ ?_; exact trivial; refine And.intro ?_ ?_; exact trivial; exact trivial), (by refine And.intro ?_ ?_; exact trivial; refine And.intro ?_ ?_; exact trivial; refine And.intro ?_ ?_; exact trivial; refine And.intro ?_ ?_; exact trivial; refine And.intro ?_ ?_; exact trivial; refine And.intro ?_ ?_; exact trivial; refine And.intro ?_ ?_; exact trivial; exact trivial), trivial⟩), by simp, rfl⟩
  · rintro t h ⟨rfl, rfl⟩
    have h0 : a.same b = ((a.k == b.k && a.n == b.n && a.t.same b.t && a.f.same b.f && (((tmRows a.l).length : Nat) : Int) == ((tmRows b.l).length : Nat)) && sameTL (a.l.drop 0) (b.l.drop 0)) := by
      rw [sameT_eta, hL, hM, List.drop_zero, List.drop_zero]
      by_cases hl : a.l.length = b.l.length
      · simp [hl]
      · simp [hl, sameTL_len hl]
    have hl : (a.k == b.k && a.n == b.n && a.t.same b.t && a.f.same b.f && (((tmRows a.l).length : Nat) : Int) == ((tmRows b.l).length : Nat)) = true → a.l.length = b.l.length := by
      intro h; rw [hL, hM, Bool.and_eq_true] at h; have := h.2; simp at this; omega
    generalize (a.k == b.k && a.n == b.n && a.t.same b.t && a.f.same b.f && (((tmRows a.l).length : Nat) : Int) == ((tmRows b.l).length : Nat)) = ok0 at *
    refine AW.seq ?_; refine AW.seq ?_; refine AW.region (by kernel_rfl) ?_; refine RunL.val (by exact rfl) (loc_assignC rfl) ?_; refine RunL.nil ?_; refine AW.block ?_
    refine AW.gh (gh_lit [(2, .one (.ptr 2 0)), (3, .one (.ptr 3 0)), (5, .one (.bool (ok0))), (6, .one (.int .i64 ((0 : Nat) : Int)))] [(2, .obj a.c), (3, .obj b.c)] [] [] ⟨(WkU.of_eq rfl trivial), (WkU.of_eq rfl trivial), (WkU.of_eq rfl trivial), (WkU.of_eq rfl trivial), trivial⟩ ⟨(by exact Or.inl ⟨_, rfl, WkBlk.refl _⟩), (by exact Or.inl ⟨_, rfl, WkBlk.refl _⟩), trivial⟩ trivial trivial rfl rfl ⟨⟨_, rfl⟩, ⟨_, rfl⟩, trivial, trivial, trivial⟩ ⟨(by refine And.intro ?_ ?_; exact trivial; refine And.intro ?_ ?_; exact trivial; refine And.intro ?_ ?_; exact trivial; refine And.intro ?_ ?_; exact trivial; refine And.intro ?_ ?_; exact trivial; refine And.intro ?_ ?_; exact trivial; refine And.intro ?_ ?_; exact trivial; exact trivial), (by refine And.intro ?_ ?_; exact trivial; refine And.intro ?_ ?_; exact trivial; refine And.intro ?_ ?_; exact trivial; refine And.intro ?_ ?_; exact trivial; refine And.intro ?_ ?_; exact trivial; refine And.intro ?_ ?_; exact trivial; refine And.intro ?_ ?_; exact trivial; exact trivial), trivial⟩) ?_
    refine AW.lenBlk 2 6 rfl rfl fun hmax => ?_
    refine AW.loop (fun m t h => ∃ i : Nat, ∃ ok : Bool, i ≤ a.l.length ∧ m = a.l.length - i ∧ (ok = true → a.l.length = b.l.length) ∧ a.same b = (ok && sameTL (a.l.drop i) (b.l.drop i)) ∧ t = tOfL [(2, .one (.ptr 2 0)), (3, .one (.ptr 3 0)), (5, .one (.bool (ok))), (6, .one (.int .i64 ((i : Nat) : Int)))] ∧ h = ofL [(2, .obj a.c), (3, .obj b.c)]) a.l.length ⟨0, ok0, Nat.zero_le _, rfl, hl, h0, rfl, rfl⟩ ?_
    rintro m t h ⟨i, ok, hi, rfl, hlen, hinv, rfl, rfl⟩
    clear hl h0
    cases ok with
    | false =>
      refine AW.seq ?_; refine AW.seq ?_; refine AW.region (by kernel_rfl) ?_; refine RunL.val (by exact rfl) (loc_moveC rfl) ?_; refine RunL.val (by exact rfl) (loc_moveC rfl) ?_; refine RunL.skip (.inl ⟨_, _, rfl, rfl, rfl⟩) ?_; refine RunL.skip (.inl ⟨_, _, rfl, rfl, rfl⟩) ?_; refine RunL.skip (.inl ⟨_, _, rfl, rfl, rfl⟩) ?_; refine RunL.skip (.inl ⟨_, _, rfl, rfl, rfl⟩) ?_; refine RunL.skip (.inl ⟨_, _, rfl, rfl, rfl⟩) ?_; refine RunL.val (by exact rfl) (loc_pickF rfl rfl) ?_; refine RunL.nil ?_; refine AW.condF (by exact rfl) ?_; refine AW.exit ?_; refine AW.seq ?_; refine AW.region (by kernel_rfl) ?_; refine RunL.val (by exact rfl) (loc_moveC rfl) ?_; refine RunL.val (by exact rfl) (loc_assignC rfl) ?_; refine RunL.nil ?_; refine AW.ret ?_
      rw [hinv]
      exact ret_same (.inr rfl) rfl trivial
    | true =>
    have hlen := hlen rfl
    cases hlt : decide ((i : Int) < ((tmRows a.l).length : Nat)) with
    | false =>
      have hil : i = a.l.length := by simp at hlt; omega
      refine AW.seq ?_; refine AW.seq ?_; refine AW.region (by kernel_rfl) ?_; refine RunL.val (by exact rfl) (loc_moveC rfl) ?_; refine RunL.val (by exact rfl) (loc_moveC rfl) ?_; refine RunL.val (by exact .inl ⟨_, _, rfl, rfl, rfl⟩) (loc_moveC rfl) ?_; refine RunL.val (by exact .inl ⟨_, _, rfl, rfl, rfl⟩) (loc_fieldAddr rfl) ?_; refine RunL.val (by exact .inl ⟨_, _, rfl, rfl, rfl⟩) (loc_load rfl rfl rfl) ?_; refine RunL.val (by exact .inl ⟨_, _, rfl, rfl, rfl⟩) (loc_lenSl rfl) ?_; refine RunL.val (by exact .inl ⟨_, _, rfl, rfl, rfl⟩) (loc_binInt rfl rfl rfl) ?_; refine RunL.val (by exact rfl) (loc_pickT rfl rfl) ?_; refine RunL.nil ?_; refine AW.condFa (by exact rfl) (by assumption) ?_; refine AW.exit ?_; refine AW.seq ?_; refine AW.region (by kernel_rfl) ?_; refine RunL.val (by exact rfl) (loc_moveC rfl) ?_; refine RunL.val (by exact rfl) (loc_assignC rfl) ?_; refine RunL.nil ?_; refine AW.ret ?_
      rw [hinv, hil, show sameTL (a.l.drop a.l.length) (b.l.drop a.l.length) = true by rw [List.drop_length, hlen, List.drop_length]; rfl]
      exact ret_same (.inr rfl) rfl trivial
    | true =>
      have hil : i < a.l.length := by simp at hlt; omega
      have hilb : i < b.l.length := by omega
      have hr1 := tmRows_get hil
      have hr2 := tmRows_get hilb
      have hs := sameTL_drop hil hilb
      refine AW.seq ?_; refine AW.seq ?_; refine AW.region (by kernel_rfl) ?_; refine RunL.val (by exact rfl) (loc_moveC rfl) ?_; refine RunL.val (by exact rfl) (loc_moveC rfl) ?_; refine RunL.val (by exact .inl ⟨_, _, rfl, rfl, rfl⟩) (loc_moveC rfl) ?_; refine RunL.val (by exact .inl ⟨_, _, rfl, rfl, rfl⟩) (loc_fieldAddr rfl) ?_; refine RunL.val (by exact .inl ⟨_, _, rfl, rfl, rfl⟩) (loc_load rfl rfl rfl) ?_; refine RunL.val (by exact .inl ⟨_, _, rfl, rfl, rfl⟩) (loc_lenSl rfl) ?_; refine RunL.val (by exact .inl ⟨_, _, rfl, rfl, rfl⟩) (loc_binInt rfl rfl rfl) ?_; refine RunL.val (by exact rfl) (loc_pickT rfl rfl) ?_; refine RunL.nil ?_; refine AW.condTa (by exact rfl) (by assumption) ?_; refine AW.skip ?_; refine AW.seq ?_; refine AW.block ?_; refine AW.regionD (by kernel_rfl) (by kernel_rfl) (by kernel_rfl) ?_; refine RunL.val (by exact rfl) (loc_fieldAddr rfl) ?_; refine RunL.val (by exact rfl) (loc_load rfl rfl rfl) ?_; refine RunL.val (by exact rfl) (loc_moveC rfl) ?_; refine RunL.val (by exact rfl) (loc_indexSl _ rfl rfl rfl (by assumption) rfl) ?_; refine RunL.val (by exact rfl) (loc_loadFA rfl (by exact Cut.all (by exact rfl))) ?_; refine RunL.val (by exact rfl) (loc_fieldAddr rfl) ?_; refine RunL.val (by exact rfl) (loc_load rfl rfl rfl) ?_; refine RunL.val (by exact rfl) (loc_moveC rfl) ?_; refine RunL.val (by exact rfl) (loc_indexSl _ rfl rfl rfl (by assumption) rfl) ?_; refine RunL.val (by exact rfl) (loc_loadFA rfl (by exact Cut.all (by exact rfl))) ?_
      refine RunL.val (by exact rfl) (loc_fun (ih a.l[i] (List.getElem_mem _) b.l[i]) rfl (by refine ⟨_, _, rfl, (by exact LeU.of_eq rfl trivial), (by (refine And.intro ?_ ?_; exact trivial; refine And.intro ?_ ?_; exact trivial; refine And.intro ?_ ?_; exact trivial; refine And.intro ?_ ?_; exact trivial; refine And.intro ?_ ?_; exact trivial; refine And.intro ?_ ?_; exact trivial; refine And.intro ?_ ?_; exact trivial; exact trivial; done)), ?_⟩; refine ⟨_, _, rfl, (by exact LeU.of_eq rfl trivial), (by (refine And.intro ?_ ?_; exact trivial; refine And.intro ?_ ?_; exact trivial; refine And.intro ?_ ?_; exact trivial; refine And.intro ?_ ?_; exact trivial; refine And.intro ?_ ?_; exact trivial; refine And.intro ?_ ?_; exact trivial; refine And.intro ?_ ?_; exact trivial; exact trivial; done)), ?_⟩; exact rfl)) ?_
      refine RunL.val (by exact rfl) (loc_assignC rfl) ?_; refine RunL.nilD (by kernel_rfl) ?_; refine AW.region (by kernel_rfl) ?_; refine RunL.val (by exact rfl) (loc_moveC rfl) ?_; refine RunL.val (by exact rfl) (loc_inc rfl rfl (by omega)) ?_; refine RunL.val (by exact rfl) (loc_assignC rfl) ?_; refine RunL.nil ?_
      exact ⟨a.l.length - (i + 1), _, _, by omega, (gh_lit [(2, .one (.ptr 2 0)), (3, .one (.ptr 3 0)), (5, .one (.bool (a.l[i].same b.l[i]))), (6, .one (.int .i64 (((i + 1) : Nat) : Int)))] [(2, .obj a.c), (3, .obj b.c)] [] [] ⟨(WkU.of_eq rfl trivial), (WkU.of_eq rfl trivial), (WkU.of_eq rfl trivial), (WkU.of_eq rfl trivial), trivial⟩ ⟨(by exact Or.inl ⟨_, rfl, WkBlk.refl _⟩), (by exact Or.inl ⟨_, rfl, WkBlk.refl _⟩), trivial⟩ trivial trivial rfl rfl ⟨⟨_, rfl⟩, ⟨_, rfl⟩, trivial, trivial, trivial⟩ ⟨(by refine And.intro ?_ ?_; exact trivial; refine And.intro ?_ ?_; exact trivial; refine And.intro ?_ ?_; exact trivial; refine And.intro ?_ ?_; exact trivial; refine And.intro ?_ ?_; exact trivial; refine And.intro ?_ ?_; exact trivial; refine And.intro ?_ ?_; exact trivial; exact trivial), (by refine And.intro ?_ ?_; exact trivial; refine And.intro ?_ ?_; exact trivial; refine And.intro ?_ ?_; exact trivial; refine And.intro ?_ ?_; exact trivial; refine And.intro ?_ ?_; exact trivial; refine And.intro ?_ ?_; exact trivial; refine And.intro ?_ ?_; exact trivial; exact trivial), trivial⟩), i + 1, _, by omega, rfl, fun _ => hlen, by rw [hinv, hs]; rfl, rfl, rfl⟩
set_option maxHeartbeats 2000000 in
theorem nodesOf_a (a : Tm) (hsz : a.nodes ≤ 1048576) : ACalls Tryd.prog 18 [a.u] [] (.one (.int .i64 ((a.nodes : Nat) : Int))) [] := by
  refine acalls_of_body Tryd.func18 rfl (by kernel_rfl) (Nat.le_of_ble_eq_true rfl) trivial (by simp [namesL]) ?_
  refine AW.seq ?_
  refine AW.region (by kernel_rfl) ?_
  refine RunL.mem (by exact rfl) (loc_boxD rfl rfl rfl) ?_; refine RunL.val (by exact rfl) (loc_assignC rfl) ?_; refine RunL.nil ?_
  refine AW.seq ?_
  refine AW.regionD (by kernel_rfl) (by kernel_rfl) (by kernel_rfl) ?_
  refine RunL.val (by exact rfl) (loc_loadA rfl rfl (by exact Cut.all (by exact rfl))) ?_
  refine RunL.mem (by exact rfl) (loc_buildOwnD (len := 1) (rows := [a.c]) (by exact rfl) (by exact rfl) (by decide) (by decide) (by exact RowsOf.cons (by exact rfl) RowsOf.nil) (by exact AllP.cons rfl AllP.nil) (by exact rfl) (by exact rfl) (by exact rfl)) ?_
  refine RunL.val (by exact rfl) (loc_assignC rfl) ?_; refine RunL.val (by exact rfl) (loc_assignC rfl) ?_; refine RunL.nilD (by kernel_rfl) ?_; refine AW.seq ?_; refine AW.block ?_
  refine AW.gh (gh_lit [(3, .one (.int .i64 ((0 : Nat) : Int))), (4, .one (.own 7 (0) (1)))] [(7, .row 27 7 (0) ([a.c]))] [] [] ⟨(WkU.of_eq rfl trivial), (by exact WkU.of_eq rfl trivial), trivial⟩ ⟨(by exact Or.inl ⟨_, rfl, WkBlk.refl _⟩), trivial⟩ trivial trivial rfl rfl ⟨trivial, ⟨_, _, _, _, rfl, Nat.le_refl _⟩, trivial⟩ ⟨(okRows_closed (by exact rfl)), trivial⟩) ?_
  rw [show [a.c] = tmRows [a] by simp [tmRows, Tm.cells_c]]
  refine AW.loop (fun m t h => ∃ (st : List Tm) (c v : Nat), m = nodesL st ∧ c + nodesL st = a.nodes ∧ t = tOfL [(3, .one (.int .i64 ((c : Nat) : Int))), (4, .one (.own 7 (v) (st.length)))] ∧ h = ofL [(7, .row 27 7 (v) (tmRows st))]) a.nodes ⟨[a], 0, 0, by simp [nodesL], by simp [nodesL], rfl, rfl⟩ ?_
  rintro m t h ⟨st, c, v, rfl, hc, rfl, rfl⟩
  have hlen := nodesL_len st
  rcases List.eq_nil_or_concat st with rfl | ⟨st', x, he⟩
  · have hd : decide ((([] : List Tm).length : Nat) > (0 : Int)) = false := rfl
    have hcn : c = a.nodes := by simpa [nodesL] using hc
    subst hcn
    refine AW.seq ?_; refine AW.seq ?_; refine AW.region (by kernel_rfl) ?_; refine RunL.val (by exact rfl) (loc_moveC rfl) ?_; refine RunL.val (by exact rfl) (loc_lenOwn rfl rfl) ?_; refine RunL.val (by exact rfl) (loc_binInt rfl rfl rfl) ?_; refine RunL.nil ?_; refine AW.condF (by exact rfl) ?_; refine AW.exit ?_; refine AW.seq ?_; refine AW.region (by kernel_rfl) ?_; refine RunL.val (by exact rfl) (loc_moveC rfl) ?_; refine RunL.val (by exact rfl) (loc_assignC rfl) ?_; refine RunL.nil ?_; refine AW.ret ?_
    exact ret_same (.inr rfl) rfl trivial
  · rw [List.concat_eq_append] at he
    subst he
    have hls : (st' ++ [x]).length = st'.length + 1 := by simp
    have hd : decide ((((st' ++ [x]).length : Nat) : Int) > 0) = true := by rw [hls]; simp
    have hrow : (tmRows (st' ++ [x]))[st'.length]? = some x.c := by rw [tmRows_append, List.getElem?_append_right (by rw [tmRows_length]; exact Nat.le_refl _), tmRows_length]; simp [tmRows, Tm.cells_c]
    have hrl : (tmRows (st' ++ [x])).length = st'.length + 1 := by rw [tmRows_length, hls]
    have hn1 : nodesL (st' ++ [x]) = nodesL st' + (1 + nodesL x.l) := by rw [nodesL_append]; simp only [nodesL]; rw [nodes_eta x]; omega
    have hn2 := nodesL_len st'
    have hn3 := nodesL_len x.l
    have hk7 := tmRows_len7 x.l
    have hxl := tmRows_length x.l
    refine AW.seq ?_; refine AW.seq ?_; refine AW.region (by kernel_rfl) ?_; refine RunL.val (by exact rfl) (loc_moveC rfl) ?_; refine RunL.val (by exact rfl) (loc_lenOwn rfl rfl) ?_; refine RunL.val (by exact rfl) (loc_binInt rfl rfl rfl) ?_; refine RunL.nil ?_; refine AW.condTa (by exact rfl) (by assumption) ?_; refine AW.skip ?_; refine AW.block ?_; refine AW.seq ?_; refine AW.region (by kernel_rfl) ?_; refine RunL.val (by exact rfl) (loc_moveC rfl) ?_; refine RunL.val (by exact rfl) (loc_moveC rfl) ?_; refine RunL.val (by exact rfl) (loc_lenOwn rfl rfl) ?_; refine RunL.val (by exact rfl) (loc_subB rfl rfl (by omega)) ?_
    refine RunL.val (by exact rfl) (loc_indexOwn st'.length (by exact rfl) (by exact rfl) (by omega) (by exact rfl) (by omega)) ?_
    refine RunL.val (by exact rfl) (loc_loadEA rfl rfl (by assumption) (by exact Cut.all (by exact rfl))) ?_; refine RunL.mem (by exact rfl) (loc_allocD rfl rfl) ?_; refine RunL.eff (by exact rfl) (loc_storeW rfl rfl rfl rfl (by exact rfl) (by exact rfl)) ?_; refine RunL.nil ?_; refine AW.seq ?_; refine AW.regionD (by kernel_rfl) (by kernel_rfl) (by kernel_rfl) ?_; refine RunL.val (by exact rfl) (loc_moveC rfl) ?_; refine RunL.val (by exact rfl) (loc_moveC rfl) ?_; refine RunL.val (by exact rfl) (loc_lenOwn rfl rfl) ?_; refine RunL.val (by exact rfl) (loc_subB rfl rfl (by omega)) ?_
    refine RunL.val (by exact rfl) (loc_sliceOwn (n' := st'.length) (by exact rfl) (by exact rfl) (by omega) (by exact rfl) (by omega) (by omega)) ?_
    refine RunL.val (by exact rfl) (loc_fieldAddr rfl) ?_; refine RunL.val (by exact rfl) (loc_load rfl rfl rfl) ?_
    refine RunL.mem (by exact rfl) (loc_appendOwn (news := tmRows x.l) (rows0 := tmRows st') (by exact rfl) (by exact rfl) (by exact rfl) (by exact .inr (.inl rfl)) (by omega) (by rw [tmRows_append, List.take_left' (tmRows_length _)]) hk7 (by unfold maxLen; omega) (by omega)) ?_
    rw [← tmRows_append]
    refine RunL.val (by exact rfl) (loc_assignC rfl) ?_; refine RunL.nilD (by kernel_rfl) ?_; refine AW.region (by kernel_rfl) ?_; refine RunL.val (by exact rfl) (loc_moveC rfl) ?_; refine RunL.val (by exact rfl) (loc_inc rfl rfl (by omega)) ?_; refine RunL.val (by exact rfl) (loc_assignC rfl) ?_; refine RunL.nil ?_
    exact ⟨nodesL (st' ++ x.l), _, _, by rw [nodesL_append]; omega, (gh_lit [(3, .one (.int .i64 (((c + 1) : Nat) : Int))), (4, .one (.own 7 ((v + 1)) ((st'.length + (tmRows x.l).length))))] [(7, .row 27 7 ((v + 1)) (tmRows (st' ++ x.l)))] [] [] ⟨(WkU.of_eq rfl trivial), (by exact WkU.of_eq rfl trivial), trivial⟩ ⟨(by exact Or.inl ⟨_, rfl, WkBlk.refl _⟩), trivial⟩ trivial trivial rfl rfl ⟨trivial, ⟨_, _, _, _, rfl, Nat.le_refl _⟩, trivial⟩ ⟨(okRows_closed (by exact closed_tmRows _)), trivial⟩), st' ++ x.l, c + 1, v + 1, rfl, by rw [nodesL_append]; omega, by rw [List.length_append, hxl], rfl⟩
end Go.Proofs.YtnflnbdlgdjfmabDoor
namespace Go.Proofs.YtnflnbdlgdjfmabDoor
open Go.RowKit
set_option linter.unusedVariables false
set_option linter.unusedSimpArgs false
set_option maxRecDepth 100000
attribute [local irreducible] RunL AW LocOp ACalls Gh
/-- No type in it is deep. -/
inductive TmDp : Tm → Prop
  | mk {t : Tm} (ht : t.t.deep ≤ 1048576) (hl : ∀ x ∈ t.l, TmDp x) : TmDp t
theorem TmDp.t {t : Tm} (h : TmDp t) : t.t.deep ≤ 1048576 := by cases h; assumption
theorem TmDp.l {t : Tm} (h : TmDp t) : ∀ x ∈ t.l, TmDp x := by cases h; assumption
theorem wrap_sq (n : Int) : (IntKind.i64.wrap (n * n) == n && decide (n < 2) && decide (n ≥ 0)) = (n == 0 || n == 1) := by
  by_cases h0 : n = 0
  · subst h0; decide
  by_cases h1 : n = 1
  · subst h1; decide
  have : (decide (n < 2) && decide (n ≥ 0)) = false := by
    rw [Bool.and_eq_false_iff]
    by_cases h2 : n < 2
    · exact .inr (decide_eq_false (by omega))
    · exact .inl (decide_eq_false h2)
  rw [Bool.and_assoc, this, Bool.and_false]
  simp [h0, h1]
set_option maxHeartbeats 8000000 in
theorem right_a : ∀ (a : Tm) (ar ow : Int), TmOk a → TmDp a → 0 ≤ ow → ow + a.nodes ≤ 1048576 → ACalls Tryd.prog 36 [a.u, .one (.int .i64 ar), .one (.int .i64 ow)] [] (.one (.bool (a.good ar ow))) [] := by
  intro a
  induction a using Tm.ind' with
  | h a ih =>
  intro ar ow hok hdp h0 hsz
  have hL := tmRows_length a.l
  have hne := nodes_eta a
  have hge := goodT_eta a ar ow
  have sf := rsame_a a.f .any
  have st := rsame_a a.t .any
  have sd := isType_a a.t hdp.t
  refine acalls_of_body Tryd.func36 rfl (by kernel_rfl) (Nat.le_of_ble_eq_true rfl) trivial (by simp [namesL]) ?_
  cases k1 : decide (a.k < 1) with
  | true =>
    refine AW.seq ?_; refine AW.region (by kernel_rfl) ?_; refine RunL.mem (by exact rfl) (loc_boxD rfl rfl rfl) ?_; refine RunL.val (by exact rfl) (loc_assignC rfl) ?_; refine RunL.nil ?_; refine AW.seq ?_; refine AW.seq ?_; refine AW.regionD (by kernel_rfl) (by kernel_rfl) (by kernel_rfl) ?_; refine RunL.val (by exact rfl) (loc_fieldAddr rfl) ?_; refine RunL.val (by exact rfl) (loc_load rfl rfl rfl) ?_; refine RunL.val (by exact rfl) (loc_binInt rfl rfl rfl) ?_; refine RunL.val (by exact rfl) (loc_moveC rfl) ?_; refine RunL.skip (.inl ⟨_, _, rfl, rfl, guard_eq true (by assumption) rfl⟩) ?_; refine RunL.skip (.inl ⟨_, _, rfl, rfl, guard_eq true (by assumption) rfl⟩) ?_; refine RunL.skip (.inl ⟨_, _, rfl, rfl, guard_eq true (by assumption) rfl⟩) ?_; refine RunL.val (by exact rfl) (loc_pickI true (by assumption) rfl rfl) ?_; refine RunL.val (by exact rfl) (loc_moveC rfl) ?_; refine RunL.skip (.inl ⟨_, _, rfl, rfl, rfl⟩) ?_; refine RunL.skip (.inl ⟨_, _, rfl, rfl, rfl⟩) ?_; refine RunL.skip (.inl ⟨_, _, rfl, rfl, rfl⟩) ?_; refine RunL.skip (.inl ⟨_, _, rfl, rfl, rfl⟩) ?_; refine RunL.skip (.inl ⟨_, _, rfl, rfl, rfl⟩) ?_; refine RunL.skip (.inl ⟨_, _, rfl, rfl, rfl⟩) ?_; refine RunL.skip (.inl ⟨_, _, rfl, rfl, rfl⟩) ?_; refine RunL.val (by exact rfl) (loc_pickT rfl rfl) ?_; refine RunL.val (by exact rfl) (loc_moveC rfl) ?_; refine RunL.skip (.inl ⟨_, _, rfl, rfl, rfl⟩) ?_; refine RunL.skip (.inl ⟨_, _, rfl, rfl, rfl⟩) ?_; refine RunL.skip (.inl ⟨_, _, rfl, rfl, rfl⟩) ?_; refine RunL.skip (.inl ⟨_, _, rfl, rfl, rfl⟩) ?_; refine RunL.skip (.inl ⟨_, _, rfl, rfl, rfl⟩) ?_; refine RunL.val (by exact rfl) (loc_pickT rfl rfl) ?_; refine RunL.nilD (by kernel_rfl) ?_; refine AW.condT (by exact rfl) ?_; refine AW.seq ?_; refine AW.region (by kernel_rfl) ?_; refine RunL.val (by exact rfl) (loc_assignC rfl) ?_; refine RunL.nil ?_; refine AW.ret ?_
    rw [show a.good ar ow = false by rw [hge]; simp [Tm.fit, k1]]
    exact ret_same (.inr rfl) rfl trivial
  | false =>
  cases k9 : decide (a.k > 9) with
  | true =>
    refine AW.seq ?_; refine AW.region (by kernel_rfl) ?_; refine RunL.mem (by exact rfl) (loc_boxD rfl rfl rfl) ?_; refine RunL.val (by exact rfl) (loc_assignC rfl) ?_; refine RunL.nil ?_; refine AW.seq ?_; refine AW.seq ?_; refine AW.regionD (by kernel_rfl) (by kernel_rfl) (by kernel_rfl) ?_; refine RunL.val (by exact rfl) (loc_fieldAddr rfl) ?_; refine RunL.val (by exact rfl) (loc_load rfl rfl rfl) ?_; refine RunL.val (by exact rfl) (loc_binInt rfl rfl rfl) ?_; refine RunL.val (by exact rfl) (loc_moveC rfl) ?_; refine RunL.val (by exact .inl ⟨_, _, rfl, rfl, guard_eq false (by assumption) rfl⟩) (loc_fieldAddr rfl) ?_; refine RunL.val (by exact .inl ⟨_, _, rfl, rfl, guard_eq false (by assumption) rfl⟩) (loc_load rfl rfl rfl) ?_; refine RunL.val (by exact .inl ⟨_, _, rfl, rfl, guard_eq false (by assumption) rfl⟩) (loc_binInt rfl rfl rfl) ?_; refine RunL.val (by exact rfl) (loc_pickI false (by assumption) rfl rfl) ?_; refine RunL.val (by exact rfl) (loc_moveC rfl) ?_; refine RunL.skip (.inl ⟨_, _, rfl, rfl, guard_eq true (by assumption) rfl⟩) ?_; refine RunL.skip (.inl ⟨_, _, rfl, rfl, guard_eq true (by assumption) rfl⟩) ?_; refine RunL.skip (.inl ⟨_, _, rfl, rfl, guard_eq true (by assumption) rfl⟩) ?_; refine RunL.skip (.inl ⟨_, _, rfl, rfl, guard_eq true (by assumption) rfl⟩) ?_; refine RunL.skip (.inl ⟨_, _, rfl, rfl, guard_eq true (by assumption) rfl⟩) ?_; refine RunL.skip (.inl ⟨_, _, rfl, rfl, guard_eq true (by assumption) rfl⟩) ?_; refine RunL.skip (.inl ⟨_, _, rfl, rfl, guard_eq true (by assumption) rfl⟩) ?_; refine RunL.val (by exact rfl) (loc_pickI true (by assumption) rfl rfl) ?_; refine RunL.val (by exact rfl) (loc_moveC rfl) ?_; refine RunL.skip (.inl ⟨_, _, rfl, rfl, rfl⟩) ?_; refine RunL.skip (.inl ⟨_, _, rfl, rfl, rfl⟩) ?_; refine RunL.skip (.inl ⟨_, _, rfl, rfl, rfl⟩) ?_; refine RunL.skip (.inl ⟨_, _, rfl, rfl, rfl⟩) ?_; refine RunL.skip (.inl ⟨_, _, rfl, rfl, rfl⟩) ?_; refine RunL.val (by exact rfl) (loc_pickT rfl rfl) ?_; refine RunL.nilD (by kernel_rfl) ?_; refine AW.condT (by exact rfl) ?_; refine AW.seq ?_; refine AW.region (by kernel_rfl) ?_; refine RunL.val (by exact rfl) (loc_assignC rfl) ?_; refine RunL.nil ?_; refine AW.ret ?_
    rw [show a.good ar ow = false by rw [hge]; simp [Tm.fit, k9]]
    exact ret_same (.inr rfl) rfl trivial
  | false =>
  have hk1 : 1 ≤ a.k := by simp at k1; omega
  have hk9 : a.k ≤ 9 := by simp at k9; omega
  have hpa := parts_a a.k hk1 hk9
  cases hlen : ((((tmRows a.l).length : Nat) : Int) != arity a.k) with
  | true =>
    refine AW.seq ?_; refine AW.region (by kernel_rfl) ?_; refine RunL.mem (by exact rfl) (loc_boxD rfl rfl rfl) ?_; refine RunL.val (by exact rfl) (loc_assignC rfl) ?_; refine RunL.nil ?_; refine AW.seq ?_; refine AW.seq ?_; refine AW.regionD (by kernel_rfl) (by kernel_rfl) (by kernel_rfl) ?_; refine RunL.val (by exact rfl) (loc_fieldAddr rfl) ?_; refine RunL.val (by exact rfl) (loc_load rfl rfl rfl) ?_; refine RunL.val (by exact rfl) (loc_binInt rfl rfl rfl) ?_; refine RunL.val (by exact rfl) (loc_moveC rfl) ?_; refine RunL.val (by exact .inl ⟨_, _, rfl, rfl, guard_eq false (by assumption) rfl⟩) (loc_fieldAddr rfl) ?_; refine RunL.val (by exact .inl ⟨_, _, rfl, rfl, guard_eq false (by assumption) rfl⟩) (loc_load rfl rfl rfl) ?_; refine RunL.val (by exact .inl ⟨_, _, rfl, rfl, guard_eq false (by assumption) rfl⟩) (loc_binInt rfl rfl rfl) ?_; refine RunL.val (by exact rfl) (loc_pickI false (by assumption) rfl rfl) ?_; refine RunL.val (by exact rfl) (loc_moveC rfl) ?_; refine RunL.val (by exact .inl ⟨_, _, rfl, rfl, guard_eq false (by assumption) rfl⟩) (loc_fieldAddr rfl) ?_; refine RunL.val (by exact .inl ⟨_, _, rfl, rfl, guard_eq false (by assumption) rfl⟩) (loc_load rfl rfl rfl) ?_; refine RunL.val (by exact .inl ⟨_, _, rfl, rfl, guard_eq false (by assumption) rfl⟩) (loc_lenSl rfl) ?_; refine RunL.val (by exact .inl ⟨_, _, rfl, rfl, guard_eq false (by assumption) rfl⟩) (loc_fieldAddr rfl) ?_; refine RunL.val (by exact .inl ⟨_, _, rfl, rfl, guard_eq false (by assumption) rfl⟩) (loc_load rfl rfl rfl) ?_
    refine RunL.val (by exact .inl ⟨_, _, rfl, rfl, guard_eq false (by assumption) rfl⟩) (loc_fun hpa rfl (by refine ⟨_, _, rfl, (by exact LeU.of_eq rfl trivial), (by exact trivial), ?_⟩; exact rfl)) ?_
    refine RunL.val (by exact .inl ⟨_, _, rfl, rfl, guard_eq false (by assumption) rfl⟩) (loc_binInt rfl rfl rfl) ?_; refine RunL.val (by exact rfl) (loc_pickI false (by assumption) rfl rfl) ?_; refine RunL.val (by exact rfl) (loc_moveC rfl) ?_; refine RunL.skip (.inl ⟨_, _, rfl, rfl, guard_eq true (by assumption) rfl⟩) ?_; refine RunL.skip (.inl ⟨_, _, rfl, rfl, guard_eq true (by assumption) rfl⟩) ?_; refine RunL.skip (.inl ⟨_, _, rfl, rfl, guard_eq true (by assumption) rfl⟩) ?_; refine RunL.skip (.inl ⟨_, _, rfl, rfl, guard_eq true (by assumption) rfl⟩) ?_; refine RunL.skip (.inl ⟨_, _, rfl, rfl, guard_eq true (by assumption) rfl⟩) ?_; refine RunL.val (by exact rfl) (loc_pickI true (by assumption) rfl rfl) ?_; refine RunL.nilD (by kernel_rfl) ?_; refine AW.condT (by exact rfl) ?_; refine AW.seq ?_; refine AW.region (by kernel_rfl) ?_; refine RunL.val (by exact rfl) (loc_assignC rfl) ?_; refine RunL.nil ?_; refine AW.ret ?_
    rw [show a.good ar ow = false by rw [hge]; rw [hL] at hlen; simp at hlen; simp [Tm.fit, hlen]]
    exact ret_same (.inr rfl) rfl trivial
  | false =>
  cases hf : a.f.same .any with
  | false =>
    rw [hf] at sf
    refine AW.seq ?_; refine AW.region (by kernel_rfl) ?_; refine RunL.mem (by exact rfl) (loc_boxD rfl rfl rfl) ?_; refine RunL.val (by exact rfl) (loc_assignC rfl) ?_; refine RunL.nil ?_; refine AW.seq ?_; refine AW.seq ?_; refine AW.regionD (by kernel_rfl) (by kernel_rfl) (by kernel_rfl) ?_; refine RunL.val (by exact rfl) (loc_fieldAddr rfl) ?_; refine RunL.val (by exact rfl) (loc_load rfl rfl rfl) ?_; refine RunL.val (by exact rfl) (loc_binInt rfl rfl rfl) ?_; refine RunL.val (by exact rfl) (loc_moveC rfl) ?_; refine RunL.val (by exact .inl ⟨_, _, rfl, rfl, guard_eq false (by assumption) rfl⟩) (loc_fieldAddr rfl) ?_; refine RunL.val (by exact .inl ⟨_, _, rfl, rfl, guard_eq false (by assumption) rfl⟩) (loc_load rfl rfl rfl) ?_; refine RunL.val (by exact .inl ⟨_, _, rfl, rfl, guard_eq false (by assumption) rfl⟩) (loc_binInt rfl rfl rfl) ?_; refine RunL.val (by exact rfl) (loc_pickI false (by assumption) rfl rfl) ?_; refine RunL.val (by exact rfl) (loc_moveC rfl) ?_; refine RunL.val (by exact .inl ⟨_, _, rfl, rfl, guard_eq false (by assumption) rfl⟩) (loc_fieldAddr rfl) ?_; refine RunL.val (by exact .inl ⟨_, _, rfl, rfl, guard_eq false (by assumption) rfl⟩) (loc_load rfl rfl rfl) ?_; refine RunL.val (by exact .inl ⟨_, _, rfl, rfl, guard_eq false (by assumption) rfl⟩) (loc_lenSl rfl) ?_; refine RunL.val (by exact .inl ⟨_, _, rfl, rfl, guard_eq false (by assumption) rfl⟩) (loc_fieldAddr rfl) ?_; refine RunL.val (by exact .inl ⟨_, _, rfl, rfl, guard_eq false (by assumption) rfl⟩) (loc_load rfl rfl rfl) ?_
    refine RunL.val (by exact .inl ⟨_, _, rfl, rfl, guard_eq false (by assumption) rfl⟩) (loc_fun hpa rfl (by refine ⟨_, _, rfl, (by exact LeU.of_eq rfl trivial), (by exact trivial), ?_⟩; exact rfl)) ?_
    refine RunL.val (by exact .inl ⟨_, _, rfl, rfl, guard_eq false (by assumption) rfl⟩) (loc_binInt rfl rfl rfl) ?_; refine RunL.val (by exact rfl) (loc_pickI false (by assumption) rfl rfl) ?_; refine RunL.val (by exact rfl) (loc_moveC rfl) ?_; refine RunL.val (by exact .inl ⟨_, _, rfl, rfl, guard_eq false (by assumption) rfl⟩) (loc_fieldAddr rfl) ?_; refine RunL.val (by exact .inl ⟨_, _, rfl, rfl, guard_eq false (by assumption) rfl⟩) (loc_loadA rfl rfl (by exact Cut.cons (by exact rfl) (Cut.cons (by exact rfl) Cut.nil))) ?_
    refine RunL.val (by exact .inl ⟨_, _, rfl, rfl, guard_eq false (by assumption) rfl⟩) (loc_fun any0_a rfl (by exact rfl)) ?_
    refine RunL.val (by exact .inl ⟨_, _, rfl, rfl, guard_eq false (by assumption) rfl⟩) (loc_fun sf rfl (by refine ⟨_, _, rfl, (by exact LeU.of_eq rfl trivial), (by (refine And.intro ?_ ?_; exact trivial; refine And.intro ?_ ?_; exact trivial; exact trivial; done)), ?_⟩; refine ⟨_, _, rfl, (by exact LeU.of_eq rfl trivial), (by (refine And.intro ?_ ?_; exact trivial; refine And.intro ?_ ?_; exact trivial; exact trivial; done)), ?_⟩; exact rfl)) ?_
    refine RunL.val (by exact .inl ⟨_, _, rfl, rfl, guard_eq false (by assumption) rfl⟩) (loc_not rfl) ?_; refine RunL.val (by exact rfl) (loc_pickI false (by assumption) rfl rfl) ?_; refine RunL.nilD (by kernel_rfl) ?_; refine AW.condT (by exact rfl) ?_; refine AW.seq ?_; refine AW.region (by kernel_rfl) ?_; refine RunL.val (by exact rfl) (loc_assignC rfl) ?_; refine RunL.nil ?_; refine AW.ret ?_
    rw [show a.good ar ow = false by rw [hge]; simp [Tm.fit, hf]]
    exact ret_same (.inr rfl) rfl trivial
  | true =>
  rw [hf] at sf
  have hfit : a.fit ar ow = (a.num ar ow && (if a.k == 7 || a.k == 9 then a.t.good 4 else a.t.same .any)) := by
    rw [hL] at hlen
    have : (((a.l.length : Nat) : Int) == arity a.k) = true := by simpa using hlen
    unfold Tm.fit
    rw [k1, k9, this, hf, Bool.and_comm]
    rfl
  refine AW.seq ?_
  refine AW.region (by kernel_rfl) ?_
  refine RunL.mem (by exact rfl) (loc_boxD rfl rfl rfl) ?_; refine RunL.val (by exact rfl) (loc_assignC rfl) ?_; refine RunL.nil ?_
  refine AW.seq ?_
  refine AW.seq ?_
  refine AW.regionD (by kernel_rfl) (by kernel_rfl) (by kernel_rfl) ?_
  refine RunL.val (by exact rfl) (loc_fieldAddr rfl) ?_; refine RunL.val (by exact rfl) (loc_load rfl rfl rfl) ?_; refine RunL.val (by exact rfl) (loc_binInt rfl rfl rfl) ?_; refine RunL.val (by exact rfl) (loc_moveC rfl) ?_; refine RunL.val (by exact .inl ⟨_, _, rfl, rfl, guard_eq false (by assumption) rfl⟩) (loc_fieldAddr rfl) ?_; refine RunL.val (by exact .inl ⟨_, _, rfl, rfl, guard_eq false (by assumption) rfl⟩) (loc_load rfl rfl rfl) ?_; refine RunL.val (by exact .inl ⟨_, _, rfl, rfl, guard_eq false (by assumption) rfl⟩) (loc_binInt rfl rfl rfl) ?_; refine RunL.val (by exact rfl) (loc_pickI false (by assumption) rfl rfl) ?_; refine RunL.val (by exact rfl) (loc_moveC rfl) ?_; refine RunL.val (by exact .inl ⟨_, _, rfl, rfl, guard_eq false (by assumption) rfl⟩) (loc_fieldAddr rfl) ?_; refine RunL.val (by exact .inl ⟨_, _, rfl, rfl, guard_eq false (by assumption) rfl⟩) (loc_load rfl rfl rfl) ?_; refine RunL.val (by exact .inl ⟨_, _, rfl, rfl, guard_eq false (by assumption) rfl⟩) (loc_lenSl rfl) ?_; refine RunL.val (by exact .inl ⟨_, _, rfl, rfl, guard_eq false (by assumption) rfl⟩) (loc_fieldAddr rfl) ?_; refine RunL.val (by exact .inl ⟨_, _, rfl, rfl, guard_eq false (by assumption) rfl⟩) (loc_load rfl rfl rfl) ?_
  refine RunL.val (by exact .inl ⟨_, _, rfl, rfl, guard_eq false (by assumption) rfl⟩) (loc_fun hpa rfl (by refine ⟨_, _, rfl, (by exact LeU.of_eq rfl trivial), (by exact trivial), ?_⟩; exact rfl)) ?_
  refine RunL.val (by exact .inl ⟨_, _, rfl, rfl, guard_eq false (by assumption) rfl⟩) (loc_binInt rfl rfl rfl) ?_; refine RunL.val (by exact rfl) (loc_pickI false (by assumption) rfl rfl) ?_; refine RunL.val (by exact rfl) (loc_moveC rfl) ?_; refine RunL.val (by exact .inl ⟨_, _, rfl, rfl, guard_eq false (by assumption) rfl⟩) (loc_fieldAddr rfl) ?_; refine RunL.val (by exact .inl ⟨_, _, rfl, rfl, guard_eq false (by assumption) rfl⟩) (loc_loadA rfl rfl (by exact Cut.cons (by exact rfl) (Cut.cons (by exact rfl) Cut.nil))) ?_
  refine RunL.val (by exact .inl ⟨_, _, rfl, rfl, guard_eq false (by assumption) rfl⟩) (loc_fun any0_a rfl (by exact rfl)) ?_
  refine RunL.val (by exact .inl ⟨_, _, rfl, rfl, guard_eq false (by assumption) rfl⟩) (loc_fun sf rfl (by refine ⟨_, _, rfl, (by exact LeU.of_eq rfl trivial), (by (refine And.intro ?_ ?_; exact trivial; refine And.intro ?_ ?_; exact trivial; exact trivial; done)), ?_⟩; refine ⟨_, _, rfl, (by exact LeU.of_eq rfl trivial), (by (refine And.intro ?_ ?_; exact trivial; refine And.intro ?_ ?_; exact trivial; exact trivial; done)), ?_⟩; exact rfl)) ?_
  refine RunL.val (by exact .inl ⟨_, _, rfl, rfl, guard_eq false (by assumption) rfl⟩) (loc_not rfl) ?_; refine RunL.val (by exact rfl) (loc_pickI false (by assumption) rfl rfl) ?_; refine RunL.nilD (by kernel_rfl) ?_
  refine AW.condF (by exact rfl) ?_
  refine AW.skip ?_
  refine AW.seq ?_
  refine AW.region (by kernel_rfl) ?_
  refine RunL.val (by exact rfl) (loc_fieldAddr rfl) ?_; refine RunL.val (by exact rfl) (loc_load rfl rfl rfl) ?_; refine RunL.val (by exact rfl) (loc_binInt rfl rfl rfl) ?_; refine RunL.val (by exact rfl) (loc_assignC rfl) ?_; refine RunL.nil ?_
  refine AW.seq ?_
  refine AW.midC (fun t h => t = tOfL [(1, .one (.int .i64 ar)), (2, .one (.int .i64 (ow))), (3, .one (.ptr 3 0)), (7, .one (.bool (a.num ar ow)))] ∧ h = ofL [(3, .obj a.c)]) ?_ ?_
  · cases k1' : (a.k == 1) with
    | true =>
      rw [show a.num ar ow = (decide (a.n ≥ 0) && decide (a.n - ow < ar)) by simp [Tm.num, k1']]
      cases h2 : decide (a.n ≥ 0) with
      | true =>
        have h2' : 0 ≤ a.n := by simpa using h2
        have hn := hok.n
        refine AW.seq ?_; refine AW.region (by kernel_rfl) ?_; refine RunL.val (by exact rfl) (loc_fieldAddr rfl) ?_; refine RunL.val (by exact rfl) (loc_load rfl rfl rfl) ?_; refine RunL.nil ?_; refine AW.block ?_; refine AW.seq ?_; refine AW.region (by kernel_rfl) ?_; refine RunL.val (by exact rfl) (loc_binInt rfl rfl rfl) ?_; refine RunL.val (by exact rfl) (loc_assignC rfl) ?_; refine RunL.nil ?_; refine AW.condTa (by exact rfl) (by assumption) ?_; refine AW.region (by kernel_rfl) ?_; refine RunL.val (by exact rfl) (loc_fieldAddr rfl) ?_; refine RunL.val (by exact rfl) (loc_load rfl rfl rfl) ?_; refine RunL.val (by exact rfl) (loc_binInt rfl rfl rfl) ?_; refine RunL.val (by exact rfl) (loc_moveC rfl) ?_; refine RunL.val (by exact .inl ⟨_, _, rfl, rfl, guard_eq true (by assumption) rfl⟩) (loc_fieldAddr rfl) ?_; refine RunL.val (by exact .inl ⟨_, _, rfl, rfl, guard_eq true (by assumption) rfl⟩) (loc_load rfl rfl rfl) ?_; refine RunL.val (by exact .inl ⟨_, _, rfl, rfl, guard_eq true (by assumption) rfl⟩) (loc_moveC rfl) ?_; refine RunL.val (by exact .inl ⟨_, _, rfl, rfl, guard_eq true (by assumption) rfl⟩) (loc_subB rfl rfl (by omega)) ?_; refine RunL.val (by exact .inl ⟨_, _, rfl, rfl, guard_eq true (by assumption) rfl⟩) (loc_moveC rfl) ?_; refine RunL.val (by exact .inl ⟨_, _, rfl, rfl, guard_eq true (by assumption) rfl⟩) (loc_binInt rfl rfl rfl) ?_; refine RunL.val (by exact rfl) (loc_pickI true (by assumption) rfl rfl) ?_; refine RunL.val (by exact rfl) (loc_assignC rfl) ?_; refine RunL.nil ?_
        exact ⟨_, _, (gh_lit [(1, .one (.int .i64 ar)), (2, .one (.int .i64 (ow))), (3, .one (.ptr 3 0)), (7, .one (.bool (decide (a.n - ow < ar))))] [(3, .obj a.c)] [] [] ⟨(WkU.of_eq rfl trivial), (WkU.of_eq rfl trivial), (WkU.of_eq rfl trivial), (WkU.of_eq rfl trivial), trivial⟩ ⟨(by exact Or.inl ⟨_, rfl, WkBlk.refl _⟩), trivial⟩ trivial trivial rfl rfl ⟨trivial, trivial, ⟨_, rfl⟩, trivial, trivial⟩ ⟨(by refine And.intro ?_ ?_; exact trivial; refine And.intro ?_ ?_; exact trivial; refine And.intro ?_ ?_; exact trivial; refine And.intro ?_ ?_; exact trivial; refine And.intro ?_ ?_; exact trivial; refine And.intro ?_ ?_; exact trivial; refine And.intro ?_ ?_; exact trivial; exact trivial), trivial⟩), by simp, rfl⟩
      | false =>
        refine AW.seq ?_; refine AW.region (by kernel_rfl) ?_; refine RunL.val (by exact rfl) (loc_fieldAddr rfl) ?_; refine RunL.val (by exact rfl) (loc_load rfl rfl rfl) ?_; refine RunL.nil ?_; refine AW.block ?_; refine AW.seq ?_; refine AW.region (by kernel_rfl) ?_; refine RunL.val (by exact rfl) (loc_binInt rfl rfl rfl) ?_; refine RunL.val (by exact rfl) (loc_assignC rfl) ?_; refine RunL.nil ?_; refine AW.condTa (by exact rfl) (by assumption) ?_; refine AW.region (by kernel_rfl) ?_; refine RunL.val (by exact rfl) (loc_fieldAddr rfl) ?_; refine RunL.val (by exact rfl) (loc_load rfl rfl rfl) ?_; refine RunL.val (by exact rfl) (loc_binInt rfl rfl rfl) ?_; refine RunL.val (by exact rfl) (loc_moveC rfl) ?_; refine RunL.skip (.inl ⟨_, _, rfl, rfl, guard_eq false (by assumption) rfl⟩) ?_; refine RunL.skip (.inl ⟨_, _, rfl, rfl, guard_eq false (by assumption) rfl⟩) ?_; refine RunL.skip (.inl ⟨_, _, rfl, rfl, guard_eq false (by assumption) rfl⟩) ?_; refine RunL.skip (.inl ⟨_, _, rfl, rfl, guard_eq false (by assumption) rfl⟩) ?_; refine RunL.skip (.inl ⟨_, _, rfl, rfl, guard_eq false (by assumption) rfl⟩) ?_; refine RunL.skip (.inl ⟨_, _, rfl, rfl, guard_eq false (by assumption) rfl⟩) ?_; refine RunL.val (by exact rfl) (loc_pickI false (by assumption) rfl rfl) ?_; refine RunL.val (by exact rfl) (loc_assignC rfl) ?_; refine RunL.nil ?_
        exact ⟨_, _, (gh_lit [(1, .one (.int .i64 ar)), (2, .one (.int .i64 (ow))), (3, .one (.ptr 3 0)), (7, .one (.bool (false)))] [(3, .obj a.c)] [] [] ⟨(WkU.of_eq rfl trivial), (WkU.of_eq rfl trivial), (WkU.of_eq rfl trivial), (WkU.of_eq rfl trivial), trivial⟩ ⟨(by exact Or.inl ⟨_, rfl, WkBlk.refl _⟩), trivial⟩ trivial trivial rfl rfl ⟨trivial, trivial, ⟨_, rfl⟩, trivial, trivial⟩ ⟨(by refine And.intro ?_ ?_; exact trivial; refine And.intro ?_ ?_; exact trivial; refine And.intro ?_ ?_; exact trivial; refine And.intro ?_ ?_; exact trivial; refine And.intro ?_ ?_; exact trivial; refine And.intro ?_ ?_; exact trivial; refine And.intro ?_ ?_; exact trivial; exact trivial), trivial⟩), by simp, rfl⟩
    | false =>
    cases k2' : (a.k == 2) with
    | true =>
      rw [show a.num ar ow = (decide (a.n ≤ 1000000) && decide (a.n ≥ -1000000)) by simp [Tm.num, k1', k2', Bool.and_comm]]
      cases h2 : decide (a.n ≤ 1000000) with
      | true =>
        refine AW.seq ?_; refine AW.region (by kernel_rfl) ?_; refine RunL.val (by exact rfl) (loc_fieldAddr rfl) ?_; refine RunL.val (by exact rfl) (loc_load rfl rfl rfl) ?_; refine RunL.nil ?_; refine AW.block ?_; refine AW.seq ?_; refine AW.region (by kernel_rfl) ?_; refine RunL.val (by exact rfl) (loc_binInt rfl rfl rfl) ?_; refine RunL.val (by exact rfl) (loc_assignC rfl) ?_; refine RunL.nil ?_; refine AW.condFa (by exact rfl) (by assumption) ?_; refine AW.seq ?_; refine AW.region (by kernel_rfl) ?_; refine RunL.val (by exact rfl) (loc_binInt rfl rfl rfl) ?_; refine RunL.val (by exact rfl) (loc_assignC rfl) ?_; refine RunL.nil ?_; refine AW.condTa (by exact rfl) (by assumption) ?_; refine AW.region (by kernel_rfl) ?_; refine RunL.val (by exact rfl) (loc_fieldAddr rfl) ?_; refine RunL.val (by exact rfl) (loc_load rfl rfl rfl) ?_; refine RunL.val (by exact rfl) (loc_binInt rfl rfl rfl) ?_; refine RunL.val (by exact rfl) (loc_moveC rfl) ?_; refine RunL.val (by exact .inl ⟨_, _, rfl, rfl, guard_eq true (by assumption) rfl⟩) (loc_fieldAddr rfl) ?_; refine RunL.val (by exact .inl ⟨_, _, rfl, rfl, guard_eq true (by assumption) rfl⟩) (loc_load rfl rfl rfl) ?_; refine RunL.val (by exact .inl ⟨_, _, rfl, rfl, guard_eq true (by assumption) rfl⟩) (loc_binInt rfl rfl rfl) ?_; refine RunL.val (by exact rfl) (loc_pickI true (by assumption) rfl rfl) ?_; refine RunL.val (by exact rfl) (loc_assignC rfl) ?_; refine RunL.nil ?_
        exact ⟨_, _, (gh_lit [(1, .one (.int .i64 ar)), (2, .one (.int .i64 (ow))), (3, .one (.ptr 3 0)), (7, .one (.bool (decide (a.n ≥ -1000000))))] [(3, .obj a.c)] [] [] ⟨(WkU.of_eq rfl trivial), (WkU.of_eq rfl trivial), (WkU.of_eq rfl trivial), (WkU.of_eq rfl trivial), trivial⟩ ⟨(by exact Or.inl ⟨_, rfl, WkBlk.refl _⟩), trivial⟩ trivial trivial rfl rfl ⟨trivial, trivial, ⟨_, rfl⟩, trivial, trivial⟩ ⟨(by refine And.intro ?_ ?_; exact trivial; refine And.intro ?_ ?_; exact trivial; refine And.intro ?_ ?_; exact trivial; refine And.intro ?_ ?_; exact trivial; refine And.intro ?_ ?_; exact trivial; refine And.intro ?_ ?_; exact trivial; refine And.intro ?_ ?_; exact trivial; exact trivial), trivial⟩), by simp, rfl⟩
      | false =>
        refine AW.seq ?_; refine AW.region (by kernel_rfl) ?_; refine RunL.val (by exact rfl) (loc_fieldAddr rfl) ?_; refine RunL.val (by exact rfl) (loc_load rfl rfl rfl) ?_; refine RunL.nil ?_; refine AW.block ?_; refine AW.seq ?_; refine AW.region (by kernel_rfl) ?_; refine RunL.val (by exact rfl) (loc_binInt rfl rfl rfl) ?_; refine RunL.val (by exact rfl) (loc_assignC rfl) ?_; refine RunL.nil ?_; refine AW.condFa (by exact rfl) (by assumption) ?_; refine AW.seq ?_; refine AW.region (by kernel_rfl) ?_; refine RunL.val (by exact rfl) (loc_binInt rfl rfl rfl) ?_; refine RunL.val (by exact rfl) (loc_assignC rfl) ?_; refine RunL.nil ?_; refine AW.condTa (by exact rfl) (by assumption) ?_; refine AW.region (by kernel_rfl) ?_; refine RunL.val (by exact rfl) (loc_fieldAddr rfl) ?_; refine RunL.val (by exact rfl) (loc_load rfl rfl rfl) ?_; refine RunL.val (by exact rfl) (loc_binInt rfl rfl rfl) ?_; refine RunL.val (by exact rfl) (loc_moveC rfl) ?_; refine RunL.skip (.inl ⟨_, _, rfl, rfl, guard_eq false (by assumption) rfl⟩) ?_; refine RunL.skip (.inl ⟨_, _, rfl, rfl, guard_eq false (by assumption) rfl⟩) ?_; refine RunL.skip (.inl ⟨_, _, rfl, rfl, guard_eq false (by assumption) rfl⟩) ?_; refine RunL.val (by exact rfl) (loc_pickI false (by assumption) rfl rfl) ?_; refine RunL.val (by exact rfl) (loc_assignC rfl) ?_; refine RunL.nil ?_
        exact ⟨_, _, (gh_lit [(1, .one (.int .i64 ar)), (2, .one (.int .i64 (ow))), (3, .one (.ptr 3 0)), (7, .one (.bool (false)))] [(3, .obj a.c)] [] [] ⟨(WkU.of_eq rfl trivial), (WkU.of_eq rfl trivial), (WkU.of_eq rfl trivial), (WkU.of_eq rfl trivial), trivial⟩ ⟨(by exact Or.inl ⟨_, rfl, WkBlk.refl _⟩), trivial⟩ trivial trivial rfl rfl ⟨trivial, trivial, ⟨_, rfl⟩, trivial, trivial⟩ ⟨(by refine And.intro ?_ ?_; exact trivial; refine And.intro ?_ ?_; exact trivial; refine And.intro ?_ ?_; exact trivial; refine And.intro ?_ ?_; exact trivial; refine And.intro ?_ ?_; exact trivial; refine And.intro ?_ ?_; exact trivial; refine And.intro ?_ ?_; exact trivial; exact trivial), trivial⟩), by simp, rfl⟩
    | false =>
    cases k3' : (a.k == 3) with
    | true =>
      rw [show a.num ar ow = (IntKind.i64.wrap (a.n * a.n) == a.n && decide (a.n < 2) && decide (a.n ≥ 0)) by rw [wrap_sq]; simp [Tm.num, k1', k2', k3']]
      cases h2 : (IntKind.i64.wrap (a.n * a.n) == a.n) with
      | true =>
        cases h3 : decide (a.n < 2) with
        | true =>
          refine AW.seq ?_; refine AW.region (by kernel_rfl) ?_; refine RunL.val (by exact rfl) (loc_fieldAddr rfl) ?_; refine RunL.val (by exact rfl) (loc_load rfl rfl rfl) ?_; refine RunL.nil ?_; refine AW.block ?_; refine AW.seq ?_; refine AW.region (by kernel_rfl) ?_; refine RunL.val (by exact rfl) (loc_binInt rfl rfl rfl) ?_; refine RunL.val (by exact rfl) (loc_assignC rfl) ?_; refine RunL.nil ?_; refine AW.condFa (by exact rfl) (by assumption) ?_; refine AW.seq ?_; refine AW.region (by kernel_rfl) ?_; refine RunL.val (by exact rfl) (loc_binInt rfl rfl rfl) ?_; refine RunL.val (by exact rfl) (loc_assignC rfl) ?_; refine RunL.nil ?_; refine AW.condFa (by exact rfl) (by assumption) ?_; refine AW.seq ?_; refine AW.region (by kernel_rfl) ?_; refine RunL.val (by exact rfl) (loc_binInt rfl rfl rfl) ?_; refine RunL.val (by exact rfl) (loc_assignC rfl) ?_; refine RunL.nil ?_; refine AW.condTa (by exact rfl) (by assumption) ?_; refine AW.region (by kernel_rfl) ?_; refine RunL.val (by exact rfl) (loc_fieldAddr rfl) ?_; refine RunL.val (by exact rfl) (loc_load rfl rfl rfl) ?_; refine RunL.val (by exact rfl) (loc_fieldAddr rfl) ?_; refine RunL.val (by exact rfl) (loc_load rfl rfl rfl) ?_; refine RunL.val (by exact rfl) (loc_binInt rfl rfl rfl) ?_; refine RunL.val (by exact rfl) (loc_fieldAddr rfl) ?_; refine RunL.val (by exact rfl) (loc_load rfl rfl rfl) ?_; refine RunL.val (by exact rfl) (loc_binInt rfl rfl rfl) ?_; refine RunL.val (by exact rfl) (loc_moveC rfl) ?_; refine RunL.val (by exact .inl ⟨_, _, rfl, rfl, guard_eq true (by assumption) rfl⟩) (loc_fieldAddr rfl) ?_; refine RunL.val (by exact .inl ⟨_, _, rfl, rfl, guard_eq true (by assumption) rfl⟩) (loc_load rfl rfl rfl) ?_; refine RunL.val (by exact .inl ⟨_, _, rfl, rfl, guard_eq true (by assumption) rfl⟩) (loc_binInt rfl rfl rfl) ?_; refine RunL.val (by exact rfl) (loc_pickI true (by assumption) rfl rfl) ?_; refine RunL.val (by exact rfl) (loc_moveC rfl) ?_; refine RunL.val (by exact .inl ⟨_, _, rfl, rfl, guard_eq true (by assumption) rfl⟩) (loc_fieldAddr rfl) ?_; refine RunL.val (by exact .inl ⟨_, _, rfl, rfl, guard_eq true (by assumption) rfl⟩) (loc_load rfl rfl rfl) ?_; refine RunL.val (by exact .inl ⟨_, _, rfl, rfl, guard_eq true (by assumption) rfl⟩) (loc_binInt rfl rfl rfl) ?_; refine RunL.val (by exact rfl) (loc_pickI true (by assumption) rfl rfl) ?_; refine RunL.val (by exact rfl) (loc_assignC rfl) ?_; refine RunL.nil ?_
          exact ⟨_, _, (gh_lit [(1, .one (.int .i64 ar)), (2, .one (.int .i64 (ow))), (3, .one (.ptr 3 0)), (7, .one (.bool (decide (a.n ≥ 0))))] [(3, .obj a.c)] [] [] ⟨(WkU.of_eq rfl trivial), (WkU.of_eq rfl trivial), (WkU.of_eq rfl trivial), (WkU.of_eq rfl trivial), trivial⟩ ⟨(by exact Or.inl ⟨_, rfl, WkBlk.refl _⟩), trivial⟩ trivial trivial rfl rfl ⟨trivial, trivial, ⟨_, rfl⟩, trivial, trivial⟩ ⟨(by refine And.intro ?_ ?_; exact trivial; refine And.intro ?_ ?_; exact trivial; refine And.intro ?_ ?_; exact trivial; refine And.intro ?_ ?_; exact trivial; refine And.intro ?_ ?_; exact trivial; refine And.intro ?_ ?_; exact trivial; refine And.intro ?_ ?_; exact trivial; exact trivial), trivial⟩), by simp, rfl⟩
        | false =>
          refine AW.seq ?_; refine AW.region (by kernel_rfl) ?_; refine RunL.val (by exact rfl) (loc_fieldAddr rfl) ?_; refine RunL.val (by exact rfl) (loc_load rfl rfl rfl) ?_; refine RunL.nil ?_; refine AW.block ?_; refine AW.seq ?_; refine AW.region (by kernel_rfl) ?_; refine RunL.val (by exact rfl) (loc_binInt rfl rfl rfl) ?_; refine RunL.val (by exact rfl) (loc_assignC rfl) ?_; refine RunL.nil ?_; refine AW.condFa (by exact rfl) (by assumption) ?_; refine AW.seq ?_; refine AW.region (by kernel_rfl) ?_; refine RunL.val (by exact rfl) (loc_binInt rfl rfl rfl) ?_; refine RunL.val (by exact rfl) (loc_assignC rfl) ?_; refine RunL.nil ?_; refine AW.condFa (by exact rfl) (by assumption) ?_; refine AW.seq ?_; refine AW.region (by kernel_rfl) ?_; refine RunL.val (by exact rfl) (loc_binInt rfl rfl rfl) ?_; refine RunL.val (by exact rfl) (loc_assignC rfl) ?_; refine RunL.nil ?_; refine AW.condTa (by exact rfl) (by assumption) ?_; refine AW.region (by kernel_rfl) ?_; refine RunL.val (by exact rfl) (loc_fieldAddr rfl) ?_; refine RunL.val (by exact rfl) (loc_load rfl rfl rfl) ?_; refine RunL.val (by exact rfl) (loc_fieldAddr rfl) ?_; refine RunL.val (by exact rfl) (loc_load rfl rfl rfl) ?_; refine RunL.val (by exact rfl) (loc_binInt rfl rfl rfl) ?_; refine RunL.val (by exact rfl) (loc_fieldAddr rfl) ?_; refine RunL.val (by exact rfl) (loc_load rfl rfl rfl) ?_; refine RunL.val (by exact rfl) (loc_binInt rfl rfl rfl) ?_; refine RunL.val (by exact rfl) (loc_moveC rfl) ?_; refine RunL.val (by exact .inl ⟨_, _, rfl, rfl, guard_eq true (by assumption) rfl⟩) (loc_fieldAddr rfl) ?_; refine RunL.val (by exact .inl ⟨_, _, rfl, rfl, guard_eq true (by assumption) rfl⟩) (loc_load rfl rfl rfl) ?_; refine RunL.val (by exact .inl ⟨_, _, rfl, rfl, guard_eq true (by assumption) rfl⟩) (loc_binInt rfl rfl rfl) ?_; refine RunL.val (by exact rfl) (loc_pickI true (by assumption) rfl rfl) ?_; refine RunL.val (by exact rfl) (loc_moveC rfl) ?_; refine RunL.skip (.inl ⟨_, _, rfl, rfl, guard_eq false (by assumption) rfl⟩) ?_; refine RunL.skip (.inl ⟨_, _, rfl, rfl, guard_eq false (by assumption) rfl⟩) ?_; refine RunL.skip (.inl ⟨_, _, rfl, rfl, guard_eq false (by assumption) rfl⟩) ?_; refine RunL.val (by exact rfl) (loc_pickI false (by assumption) rfl rfl) ?_; refine RunL.val (by exact rfl) (loc_assignC rfl) ?_; refine RunL.nil ?_
          exact ⟨_, _, (gh_lit [(1, .one (.int .i64 ar)), (2, .one (.int .i64 (ow))), (3, .one (.ptr 3 0)), (7, .one (.bool (false)))] [(3, .obj a.c)] [] [] ⟨(WkU.of_eq rfl trivial), (WkU.of_eq rfl trivial), (WkU.of_eq rfl trivial), (WkU.of_eq rfl trivial), trivial⟩ ⟨(by exact Or.inl ⟨_, rfl, WkBlk.refl _⟩), trivial⟩ trivial trivial rfl rfl ⟨trivial, trivial, ⟨_, rfl⟩, trivial, trivial⟩ ⟨(by refine And.intro ?_ ?_; exact trivial; refine And.intro ?_ ?_; exact trivial; refine And.intro ?_ ?_; exact trivial; refine And.intro ?_ ?_; exact trivial; refine And.intro ?_ ?_; exact trivial; refine And.intro ?_ ?_; exact trivial; refine And.intro ?_ ?_; exact trivial; exact trivial), trivial⟩), by simp, rfl⟩
      | false =>
        refine AW.seq ?_; refine AW.region (by kernel_rfl) ?_; refine RunL.val (by exact rfl) (loc_fieldAddr rfl) ?_; refine RunL.val (by exact rfl) (loc_load rfl rfl rfl) ?_; refine RunL.nil ?_; refine AW.block ?_; refine AW.seq ?_; refine AW.region (by kernel_rfl) ?_; refine RunL.val (by exact rfl) (loc_binInt rfl rfl rfl) ?_; refine RunL.val (by exact rfl) (loc_assignC rfl) ?_; refine RunL.nil ?_; refine AW.condFa (by exact rfl) (by assumption) ?_; refine AW.seq ?_; refine AW.region (by kernel_rfl) ?_; refine RunL.val (by exact rfl) (loc_binInt rfl rfl rfl) ?_; refine RunL.val (by exact rfl) (loc_assignC rfl) ?_; refine RunL.nil ?_; refine AW.condFa (by exact rfl) (by assumption) ?_; refine AW.seq ?_; refine AW.region (by kernel_rfl) ?_; refine RunL.val (by exact rfl) (loc_binInt rfl rfl rfl) ?_; refine RunL.val (by exact rfl) (loc_assignC rfl) ?_; refine RunL.nil ?_; refine AW.condTa (by exact rfl) (by assumption) ?_; refine AW.region (by kernel_rfl) ?_; refine RunL.val (by exact rfl) (loc_fieldAddr rfl) ?_; refine RunL.val (by exact rfl) (loc_load rfl rfl rfl) ?_; refine RunL.val (by exact rfl) (loc_fieldAddr rfl) ?_; refine RunL.val (by exact rfl) (loc_load rfl rfl rfl) ?_; refine RunL.val (by exact rfl) (loc_binInt rfl rfl rfl) ?_; refine RunL.val (by exact rfl) (loc_fieldAddr rfl) ?_; refine RunL.val (by exact rfl) (loc_load rfl rfl rfl) ?_; refine RunL.val (by exact rfl) (loc_binInt rfl rfl rfl) ?_; refine RunL.val (by exact rfl) (loc_moveC rfl) ?_; refine RunL.skip (.inl ⟨_, _, rfl, rfl, guard_eq false (by assumption) rfl⟩) ?_; refine RunL.skip (.inl ⟨_, _, rfl, rfl, guard_eq false (by assumption) rfl⟩) ?_; refine RunL.skip (.inl ⟨_, _, rfl, rfl, guard_eq false (by assumption) rfl⟩) ?_; refine RunL.val (by exact rfl) (loc_pickI false (by assumption) rfl rfl) ?_; refine RunL.val (by exact rfl) (loc_moveC rfl) ?_; refine RunL.skip (.inl ⟨_, _, rfl, rfl, rfl⟩) ?_; refine RunL.skip (.inl ⟨_, _, rfl, rfl, rfl⟩) ?_; refine RunL.skip (.inl ⟨_, _, rfl, rfl, rfl⟩) ?_; refine RunL.val (by exact rfl) (loc_pickF rfl rfl) ?_; refine RunL.val (by exact rfl) (loc_assignC rfl) ?_; refine RunL.nil ?_
        exact ⟨_, _, (gh_lit [(1, .one (.int .i64 ar)), (2, .one (.int .i64 (ow))), (3, .one (.ptr 3 0)), (7, .one (.bool (false)))] [(3, .obj a.c)] [] [] ⟨(WkU.of_eq rfl trivial), (WkU.of_eq rfl trivial), (WkU.of_eq rfl trivial), (WkU.of_eq rfl trivial), trivial⟩ ⟨(by exact Or.inl ⟨_, rfl, WkBlk.refl _⟩), trivial⟩ trivial trivial rfl rfl ⟨trivial, trivial, ⟨_, rfl⟩, trivial, trivial⟩ ⟨(by refine And.intro ?_ ?_; exact trivial; refine And.intro ?_ ?_; exact trivial; refine And.intro ?_ ?_; exact trivial; refine And.intro ?_ ?_; exact trivial; refine And.intro ?_ ?_; exact trivial; refine And.intro ?_ ?_; exact trivial; refine And.intro ?_ ?_; exact trivial; exact trivial), trivial⟩), by simp, rfl⟩
    | false =>
      rw [show a.num ar ow = (a.n == 0) by simp [Tm.num, k1', k2', k3']]
      refine AW.seq ?_; refine AW.region (by kernel_rfl) ?_; refine RunL.val (by exact rfl) (loc_fieldAddr rfl) ?_; refine RunL.val (by exact rfl) (loc_load rfl rfl rfl) ?_; refine RunL.nil ?_; refine AW.block ?_; refine AW.seq ?_; refine AW.region (by kernel_rfl) ?_; refine RunL.val (by exact rfl) (loc_binInt rfl rfl rfl) ?_; refine RunL.val (by exact rfl) (loc_assignC rfl) ?_; refine RunL.nil ?_; refine AW.condFa (by exact rfl) (by assumption) ?_; refine AW.seq ?_; refine AW.region (by kernel_rfl) ?_; refine RunL.val (by exact rfl) (loc_binInt rfl rfl rfl) ?_; refine RunL.val (by exact rfl) (loc_assignC rfl) ?_; refine RunL.nil ?_; refine AW.condFa (by exact rfl) (by assumption) ?_; refine AW.seq ?_; refine AW.region (by kernel_rfl) ?_; refine RunL.val (by exact rfl) (loc_binInt rfl rfl rfl) ?_; refine RunL.val (by exact rfl) (loc_assignC rfl) ?_; refine RunL.nil ?_; refine AW.condFa (by exact rfl) (by assumption) ?_; refine AW.skip ?_
      exact ⟨_, _, (gh_lit [(1, .one (.int .i64 ar)), (2, .one (.int .i64 (ow))), (3, .one (.ptr 3 0)), (7, .one (.bool (a.n == 0)))] [(3, .obj a.c)] [] [] ⟨(WkU.of_eq rfl trivial), (WkU.of_eq rfl trivial), (WkU.of_eq rfl trivial), (WkU.of_eq rfl trivial), trivial⟩ ⟨(by exact Or.inl ⟨_, rfl, WkBlk.refl _⟩), trivial⟩ trivial trivial rfl rfl ⟨trivial, trivial, ⟨_, rfl⟩, trivial, trivial⟩ ⟨(by refine And.intro ?_ ?_; exact trivial; refine And.intro ?_ ?_; exact trivial; refine And.intro ?_ ?_; exact trivial; refine And.intro ?_ ?_; exact trivial; refine And.intro ?_ ?_; exact trivial; refine And.intro ?_ ?_; exact trivial; refine And.intro ?_ ?_; exact trivial; exact trivial), trivial⟩), by simp, rfl⟩
  · rintro t h ⟨rfl, rfl⟩
    generalize a.num ar ow = nm at *
    refine AW.seq ?_
    refine AW.midC (fun t h => t = tOfL [(1, .one (.int .i64 ar)), (2, .one (.int .i64 (ow))), (3, .one (.ptr 3 0)), (7, .one (.bool (a.fit ar ow)))] ∧ h = ofL [(3, .obj a.c)]) ?_ ?_
    · rw [hfit]
      cases k7 : (a.k == 7 || a.k == 9) with
      | true =>
        cases nm with
        | true =>
          cases k7' : (a.k == 7) with
          | true =>
            refine AW.seq ?_; refine AW.region (by kernel_rfl) ?_; refine RunL.val (by exact rfl) (loc_fieldAddr rfl) ?_; refine RunL.val (by exact rfl) (loc_load rfl rfl rfl) ?_; refine RunL.val (by exact rfl) (loc_binInt rfl rfl rfl) ?_; refine RunL.val (by exact rfl) (loc_moveC rfl) ?_; refine RunL.skip (.inl ⟨_, _, rfl, rfl, guard_eq true (by assumption) rfl⟩) ?_; refine RunL.skip (.inl ⟨_, _, rfl, rfl, guard_eq true (by assumption) rfl⟩) ?_; refine RunL.skip (.inl ⟨_, _, rfl, rfl, guard_eq true (by assumption) rfl⟩) ?_; refine RunL.val (by exact rfl) (loc_pickI true (by assumption) rfl rfl) ?_; refine RunL.nil ?_; refine AW.condT (by exact rfl) ?_; refine AW.region (by kernel_rfl) ?_; refine RunL.val (by exact rfl) (loc_moveC rfl) ?_; refine RunL.val (by exact rfl) (loc_moveC rfl) ?_; refine RunL.val (by exact .inl ⟨_, _, rfl, rfl, rfl⟩) (loc_fieldAddr rfl) ?_; refine RunL.val (by exact .inl ⟨_, _, rfl, rfl, rfl⟩) (loc_loadA rfl rfl (by exact Cut.cons (by exact rfl) (Cut.cons (by exact rfl) Cut.nil))) ?_
            refine RunL.val (by exact .inl ⟨_, _, rfl, rfl, rfl⟩) (loc_fun sd rfl (by refine ⟨_, _, rfl, (by exact LeU.of_eq rfl trivial), (by (refine And.intro ?_ ?_; exact trivial; refine And.intro ?_ ?_; exact trivial; exact trivial; done)), ?_⟩; exact rfl)) ?_
            refine RunL.val (by exact rfl) (loc_pickT rfl rfl) ?_; refine RunL.val (by exact rfl) (loc_assignC rfl) ?_; refine RunL.nil ?_
            exact ⟨_, _, (gh_lit [(1, .one (.int .i64 ar)), (2, .one (.int .i64 (ow))), (3, .one (.ptr 3 0)), (7, .one (.bool (a.t.good 4)))] [(3, .obj a.c)] [] [] ⟨(WkU.of_eq rfl trivial), (WkU.of_eq rfl trivial), (WkU.of_eq rfl trivial), (WkU.of_eq rfl trivial), trivial⟩ ⟨(by exact Or.inl ⟨_, rfl, WkBlk.refl _⟩), trivial⟩ trivial trivial rfl rfl ⟨trivial, trivial, ⟨_, rfl⟩, trivial, trivial⟩ ⟨(by refine And.intro ?_ ?_; exact trivial; refine And.intro ?_ ?_; exact trivial; refine And.intro ?_ ?_; exact trivial; refine And.intro ?_ ?_; exact trivial; refine And.intro ?_ ?_; exact trivial; refine And.intro ?_ ?_; exact trivial; refine And.intro ?_ ?_; exact trivial; exact trivial), trivial⟩), by simp, rfl⟩
          | false =>
            have k9' : (a.k == 9) = true := by rw [k7'] at k7; simpa using k7
            refine AW.seq ?_; refine AW.region (by kernel_rfl) ?_; refine RunL.val (by exact rfl) (loc_fieldAddr rfl) ?_; refine RunL.val (by exact rfl) (loc_load rfl rfl rfl) ?_; refine RunL.val (by exact rfl) (loc_binInt rfl rfl rfl) ?_; refine RunL.val (by exact rfl) (loc_moveC rfl) ?_; refine RunL.val (by exact .inl ⟨_, _, rfl, rfl, guard_eq false (by assumption) rfl⟩) (loc_fieldAddr rfl) ?_; refine RunL.val (by exact .inl ⟨_, _, rfl, rfl, guard_eq false (by assumption) rfl⟩) (loc_load rfl rfl rfl) ?_; refine RunL.val (by exact .inl ⟨_, _, rfl, rfl, guard_eq false (by assumption) rfl⟩) (loc_binInt rfl rfl rfl) ?_; refine RunL.val (by exact rfl) (loc_pickI false (by assumption) rfl rfl) ?_; refine RunL.nil ?_; refine AW.condTa (by exact rfl) (by assumption) ?_; refine AW.region (by kernel_rfl) ?_; refine RunL.val (by exact rfl) (loc_moveC rfl) ?_; refine RunL.val (by exact rfl) (loc_moveC rfl) ?_; refine RunL.val (by exact .inl ⟨_, _, rfl, rfl, rfl⟩) (loc_fieldAddr rfl) ?_; refine RunL.val (by exact .inl ⟨_, _, rfl, rfl, rfl⟩) (loc_loadA rfl rfl (by exact Cut.cons (by exact rfl) (Cut.cons (by exact rfl) Cut.nil))) ?_
            refine RunL.val (by exact .inl ⟨_, _, rfl, rfl, rfl⟩) (loc_fun sd rfl (by refine ⟨_, _, rfl, (by exact LeU.of_eq rfl trivial), (by (refine And.intro ?_ ?_; exact trivial; refine And.intro ?_ ?_; exact trivial; exact trivial; done)), ?_⟩; exact rfl)) ?_
            refine RunL.val (by exact rfl) (loc_pickT rfl rfl) ?_; refine RunL.val (by exact rfl) (loc_assignC rfl) ?_; refine RunL.nil ?_
            exact ⟨_, _, (gh_lit [(1, .one (.int .i64 ar)), (2, .one (.int .i64 (ow))), (3, .one (.ptr 3 0)), (7, .one (.bool (a.t.good 4)))] [(3, .obj a.c)] [] [] ⟨(WkU.of_eq rfl trivial), (WkU.of_eq rfl trivial), (WkU.of_eq rfl trivial), (WkU.of_eq rfl trivial), trivial⟩ ⟨(by exact Or.inl ⟨_, rfl, WkBlk.refl _⟩), trivial⟩ trivial trivial rfl rfl ⟨trivial, trivial, ⟨_, rfl⟩, trivial, trivial⟩ ⟨(by refine And.intro ?_ ?_; exact trivial; refine And.intro ?_ ?_; exact trivial; refine And.intro ?_ ?_; exact trivial; refine And.intro ?_ ?_; exact trivial; refine And.intro ?_ ?_; exact trivial; refine And.intro ?_ ?_; exact trivial; refine And.intro ?_ ?_; exact trivial; exact trivial), trivial⟩), by simp, rfl⟩
        | false =>
          cases k7' : (a.k == 7) with
          | true =>
            refine AW.seq ?_; refine AW.region (by kernel_rfl) ?_; refine RunL.val (by exact rfl) (loc_fieldAddr rfl) ?_; refine RunL.val (by exact rfl) (loc_load rfl rfl rfl) ?_; refine RunL.val (by exact rfl) (loc_binInt rfl rfl rfl) ?_; refine RunL.val (by exact rfl) (loc_moveC rfl) ?_; refine RunL.skip (.inl ⟨_, _, rfl, rfl, guard_eq true (by assumption) rfl⟩) ?_; refine RunL.skip (.inl ⟨_, _, rfl, rfl, guard_eq true (by assumption) rfl⟩) ?_; refine RunL.skip (.inl ⟨_, _, rfl, rfl, guard_eq true (by assumption) rfl⟩) ?_; refine RunL.val (by exact rfl) (loc_pickI true (by assumption) rfl rfl) ?_; refine RunL.nil ?_; refine AW.condT (by exact rfl) ?_; refine AW.region (by kernel_rfl) ?_; refine RunL.val (by exact rfl) (loc_moveC rfl) ?_; refine RunL.val (by exact rfl) (loc_moveC rfl) ?_; refine RunL.skip (.inl ⟨_, _, rfl, rfl, rfl⟩) ?_; refine RunL.skip (.inl ⟨_, _, rfl, rfl, rfl⟩) ?_; refine RunL.skip (.inl ⟨_, _, rfl, rfl, rfl⟩) ?_; refine RunL.val (by exact rfl) (loc_pickF rfl rfl) ?_; refine RunL.val (by exact rfl) (loc_assignC rfl) ?_; refine RunL.nil ?_
            exact ⟨_, _, (gh_lit [(1, .one (.int .i64 ar)), (2, .one (.int .i64 (ow))), (3, .one (.ptr 3 0)), (7, .one (.bool (false)))] [(3, .obj a.c)] [] [] ⟨(WkU.of_eq rfl trivial), (WkU.of_eq rfl trivial), (WkU.of_eq rfl trivial), (WkU.of_eq rfl trivial), trivial⟩ ⟨(by exact Or.inl ⟨_, rfl, WkBlk.refl _⟩), trivial⟩ trivial trivial rfl rfl ⟨trivial, trivial, ⟨_, rfl⟩, trivial, trivial⟩ ⟨(by refine And.intro ?_ ?_; exact trivial; refine And.intro ?_ ?_; exact trivial; refine And.intro ?_ ?_; exact trivial; refine And.intro ?_ ?_; exact trivial; refine And.intro ?_ ?_; exact trivial; refine And.intro ?_ ?_; exact trivial; refine And.intro ?_ ?_; exact trivial; exact trivial), trivial⟩), by simp, rfl⟩
          | false =>
            have k9' : (a.k == 9) = true := by rw [k7'] at k7; simpa using k7
            refine AW.seq ?_; refine AW.region (by kernel_rfl) ?_; refine RunL.val (by exact rfl) (loc_fieldAddr rfl) ?_; refine RunL.val (by exact rfl) (loc_load rfl rfl rfl) ?_; refine RunL.val (by exact rfl) (loc_binInt rfl rfl rfl) ?_; refine RunL.val (by exact rfl) (loc_moveC rfl) ?_; refine RunL.val (by exact .inl ⟨_, _, rfl, rfl, guard_eq false (by assumption) rfl⟩) (loc_fieldAddr rfl) ?_; refine RunL.val (by exact .inl ⟨_, _, rfl, rfl, guard_eq false (by assumption) rfl⟩) (loc_load rfl rfl rfl) ?_; refine RunL.val (by exact .inl ⟨_, _, rfl, rfl, guard_eq false (by assumption) rfl⟩) (loc_binInt rfl rfl rfl) ?_; refine RunL.val (by exact rfl) (loc_pickI false (by assumption) rfl rfl) ?_; refine RunL.nil ?_; refine AW.condTa (by exact rfl) (by assumption) ?_; refine AW.region (by kernel_rfl) ?_; refine RunL.val (by exact rfl) (loc_moveC rfl) ?_; refine RunL.val (by exact rfl) (loc_moveC rfl) ?_; refine RunL.skip (.inl ⟨_, _, rfl, rfl, rfl⟩) ?_; refine RunL.skip (.inl ⟨_, _, rfl, rfl, rfl⟩) ?_; refine RunL.skip (.inl ⟨_, _, rfl, rfl, rfl⟩) ?_; refine RunL.val (by exact rfl) (loc_pickF rfl rfl) ?_; refine RunL.val (by exact rfl) (loc_assignC rfl) ?_; refine RunL.nil ?_
            exact ⟨_, _, (gh_lit [(1, .one (.int .i64 ar)), (2, .one (.int .i64 (ow))), (3, .one (.ptr 3 0)), (7, .one (.bool (false)))] [(3, .obj a.c)] [] [] ⟨(WkU.of_eq rfl trivial), (WkU.of_eq rfl trivial), (WkU.of_eq rfl trivial), (WkU.of_eq rfl trivial), trivial⟩ ⟨(by exact Or.inl ⟨_, rfl, WkBlk.refl _⟩), trivial⟩ trivial trivial rfl rfl ⟨trivial, trivial, ⟨_, rfl⟩, trivial, trivial⟩ ⟨(by refine And.intro ?_ ?_; exact trivial; refine And.intro ?_ ?_; exact trivial; refine And.intro ?_ ?_; exact trivial; refine And.intro ?_ ?_; exact trivial; refine And.intro ?_ ?_; exact trivial; refine And.intro ?_ ?_; exact trivial; refine And.intro ?_ ?_; exact trivial; exact trivial), trivial⟩), by simp, rfl⟩
      | false =>
        rw [Bool.or_eq_false_iff] at k7
        obtain ⟨k7', k9'⟩ := k7
        cases nm with
        | true =>
          refine AW.seq ?_; refine AW.region (by kernel_rfl) ?_; refine RunL.val (by exact rfl) (loc_fieldAddr rfl) ?_; refine RunL.val (by exact rfl) (loc_load rfl rfl rfl) ?_; refine RunL.val (by exact rfl) (loc_binInt rfl rfl rfl) ?_; refine RunL.val (by exact rfl) (loc_moveC rfl) ?_; refine RunL.val (by exact .inl ⟨_, _, rfl, rfl, guard_eq false (by assumption) rfl⟩) (loc_fieldAddr rfl) ?_; refine RunL.val (by exact .inl ⟨_, _, rfl, rfl, guard_eq false (by assumption) rfl⟩) (loc_load rfl rfl rfl) ?_; refine RunL.val (by exact .inl ⟨_, _, rfl, rfl, guard_eq false (by assumption) rfl⟩) (loc_binInt rfl rfl rfl) ?_; refine RunL.val (by exact rfl) (loc_pickI false (by assumption) rfl rfl) ?_; refine RunL.nil ?_; refine AW.condFa (by exact rfl) (by assumption) ?_; refine AW.regionD (by kernel_rfl) (by kernel_rfl) (by kernel_rfl) ?_; refine RunL.val (by exact rfl) (loc_moveC rfl) ?_; refine RunL.val (by exact rfl) (loc_moveC rfl) ?_; refine RunL.val (by exact .inl ⟨_, _, rfl, rfl, rfl⟩) (loc_fieldAddr rfl) ?_; refine RunL.val (by exact .inl ⟨_, _, rfl, rfl, rfl⟩) (loc_loadA rfl rfl (by exact Cut.cons (by exact rfl) (Cut.cons (by exact rfl) Cut.nil))) ?_
          refine RunL.val (by exact .inl ⟨_, _, rfl, rfl, rfl⟩) (loc_fun any0_a rfl (by exact rfl)) ?_
          refine RunL.val (by exact .inl ⟨_, _, rfl, rfl, rfl⟩) (loc_fun st rfl (by refine ⟨_, _, rfl, (by exact LeU.of_eq rfl trivial), (by (refine And.intro ?_ ?_; exact trivial; refine And.intro ?_ ?_; exact trivial; exact trivial; done)), ?_⟩; refine ⟨_, _, rfl, (by exact LeU.of_eq rfl trivial), (by (refine And.intro ?_ ?_; exact trivial; refine And.intro ?_ ?_; exact trivial; exact trivial; done)), ?_⟩; exact rfl)) ?_
          refine RunL.val (by exact rfl) (loc_pickT rfl rfl) ?_; refine RunL.val (by exact rfl) (loc_assignC rfl) ?_; refine RunL.nilD (by kernel_rfl) ?_
          exact ⟨_, _, (gh_lit [(1, .one (.int .i64 ar)), (2, .one (.int .i64 (ow))), (3, .one (.ptr 3 0)), (7, .one (.bool (a.t.same .any)))] [(3, .obj a.c)] [] [] ⟨(WkU.of_eq rfl trivial), (WkU.of_eq rfl trivial), (WkU.of_eq rfl trivial), (WkU.of_eq rfl trivial), trivial⟩ ⟨(by exact Or.inl ⟨_, rfl, WkBlk.refl _⟩), trivial⟩ trivial trivial rfl rfl ⟨trivial, trivial, ⟨_, rfl⟩, trivial, trivial⟩ ⟨(by refine And.intro ?_ ?_; exact trivial; refine And.intro ?_ ?_; exact trivial; refine And.intro ?_ ?_; exact trivial; refine And.intro ?_ ?_; exact trivial; refine And.intro ?_ ?_; exact trivial; refine And.intro ?_ ?_; exact trivial; refine And.intro ?_ ?_; exact trivial; exact trivial), trivial⟩), by simp, rfl⟩
        | false =>
          refine AW.seq ?_; refine AW.region (by kernel_rfl) ?_; refine RunL.val (by exact rfl) (loc_fieldAddr rfl) ?_; refine RunL.val (by exact rfl) (loc_load rfl rfl rfl) ?_; refine RunL.val (by exact rfl) (loc_binInt rfl rfl rfl) ?_; refine RunL.val (by exact rfl) (loc_moveC rfl) ?_; refine RunL.val (by exact .inl ⟨_, _, rfl, rfl, guard_eq false (by assumption) rfl⟩) (loc_fieldAddr rfl) ?_; refine RunL.val (by exact .inl ⟨_, _, rfl, rfl, guard_eq false (by assumption) rfl⟩) (loc_load rfl rfl rfl) ?_; refine RunL.val (by exact .inl ⟨_, _, rfl, rfl, guard_eq false (by assumption) rfl⟩) (loc_binInt rfl rfl rfl) ?_; refine RunL.val (by exact rfl) (loc_pickI false (by assumption) rfl rfl) ?_; refine RunL.nil ?_; refine AW.condFa (by exact rfl) (by assumption) ?_; refine AW.regionD (by kernel_rfl) (by kernel_rfl) (by kernel_rfl) ?_; refine RunL.val (by exact rfl) (loc_moveC rfl) ?_; refine RunL.val (by exact rfl) (loc_moveC rfl) ?_; refine RunL.skip (.inl ⟨_, _, rfl, rfl, rfl⟩) ?_; refine RunL.skip (.inl ⟨_, _, rfl, rfl, rfl⟩) ?_; refine RunL.skip (.inl ⟨_, _, rfl, rfl, rfl⟩) ?_; refine RunL.skip (.inl ⟨_, _, rfl, rfl, rfl⟩) ?_; refine RunL.val (by exact rfl) (loc_pickF rfl rfl) ?_; refine RunL.val (by exact rfl) (loc_assignC rfl) ?_; refine RunL.nilD (by kernel_rfl) ?_
          exact ⟨_, _, (gh_lit [(1, .one (.int .i64 ar)), (2, .one (.int .i64 (ow))), (3, .one (.ptr 3 0)), (7, .one (.bool (false)))] [(3, .obj a.c)] [] [] ⟨(WkU.of_eq rfl trivial), (WkU.of_eq rfl trivial), (WkU.of_eq rfl trivial), (WkU.of_eq rfl trivial), trivial⟩ ⟨(by exact Or.inl ⟨_, rfl, WkBlk.refl _⟩), trivial⟩ trivial trivial rfl rfl ⟨trivial, trivial, ⟨_, rfl⟩, trivial, trivial⟩ ⟨(by refine And.intro ?_ ?_; exact trivial; refine And.intro ?_ ?_; exact trivial; refine And.intro ?_ ?_; exact trivial; refine And.intro ?_ ?_; exact trivial; refine And.intro ?_ ?_; exact trivial; refine And.intro ?_ ?_; exact trivial; refine And.intro ?_ ?_; exact trivial; exact trivial), trivial⟩), by simp, rfl⟩
    · rintro t h ⟨rfl, rfl⟩
      clear hfit
      have hdrop : a.good ar ow = (a.fit ar ow && goodL (a.l.drop 0) ar (if a.k == 7 then ow + 1 else ow)) := by rw [hge, List.drop_zero]
      generalize a.fit ar ow = ok0 at *
      refine AW.seq ?_
      refine AW.midC (fun t h => t = tOfL [(1, .one (.int .i64 ar)), (2, .one (.int .i64 ((if a.k == 7 then ow + 1 else ow)))), (3, .one (.ptr 3 0)), (7, .one (.bool (ok0)))] ∧ h = ofL [(3, .obj a.c)]) ?_ ?_
      · cases k7 : (a.k == 7) with
        | true =>
          refine AW.seq ?_; refine AW.region (by kernel_rfl) ?_; refine RunL.val (by exact rfl) (loc_fieldAddr rfl) ?_; refine RunL.val (by exact rfl) (loc_load rfl rfl rfl) ?_; refine RunL.val (by exact rfl) (loc_binInt rfl rfl rfl) ?_; refine RunL.nil ?_; refine AW.condTa (by exact rfl) (by assumption) ?_; refine AW.region (by kernel_rfl) ?_; refine RunL.val (by exact rfl) (loc_moveC rfl) ?_; refine RunL.val (by exact rfl) (loc_addB rfl rfl (by omega)) ?_; refine RunL.val (by exact rfl) (loc_assignC rfl) ?_; refine RunL.nil ?_
          exact ⟨_, _, (gh_lit [(1, .one (.int .i64 ar)), (2, .one (.int .i64 ((ow + 1)))), (3, .one (.ptr 3 0)), (7, .one (.bool (ok0)))] [(3, .obj a.c)] [] [] ⟨(WkU.of_eq rfl trivial), (WkU.of_eq rfl trivial), (WkU.of_eq rfl trivial), (WkU.of_eq rfl trivial), trivial⟩ ⟨(by exact Or.inl ⟨_, rfl, WkBlk.refl _⟩), trivial⟩ trivial trivial rfl rfl ⟨trivial, trivial, ⟨_, rfl⟩, trivial, trivial⟩ ⟨(by refine And.intro ?_ ?_; exact trivial; refine And.intro ?_ ?_; exact trivial; refine And.intro ?_ ?_; exact trivial; refine And.intro ?_ ?_; exact trivial; refine And.intro ?_ ?_; exact trivial; refine And.intro ?_ ?_; exact trivial; refine And.intro ?_ ?_; exact trivial; exact trivial), trivial⟩), by simp, rfl⟩
        | false =>
          refine AW.seq ?_; refine AW.region (by kernel_rfl) ?_; refine RunL.val (by exact rfl) (loc_fieldAddr rfl) ?_; refine RunL.val (by exact rfl) (loc_load rfl rfl rfl) ?_; refine RunL.val (by exact rfl) (loc_binInt rfl rfl rfl) ?_; refine RunL.nil ?_; refine AW.condFa (by exact rfl) (by assumption) ?_; refine AW.skip ?_
          exact ⟨_, _, (gh_lit [(1, .one (.int .i64 ar)), (2, .one (.int .i64 (ow))), (3, .one (.ptr 3 0)), (7, .one (.bool (ok0)))] [(3, .obj a.c)] [] [] ⟨(WkU.of_eq rfl trivial), (WkU.of_eq rfl trivial), (WkU.of_eq rfl trivial), (WkU.of_eq rfl trivial), trivial⟩ ⟨(by exact Or.inl ⟨_, rfl, WkBlk.refl _⟩), trivial⟩ trivial trivial rfl rfl ⟨trivial, trivial, ⟨_, rfl⟩, trivial, trivial⟩ ⟨(by refine And.intro ?_ ?_; exact trivial; refine And.intro ?_ ?_; exact trivial; refine And.intro ?_ ?_; exact trivial; refine And.intro ?_ ?_; exact trivial; refine And.intro ?_ ?_; exact trivial; refine And.intro ?_ ?_; exact trivial; refine And.intro ?_ ?_; exact trivial; exact trivial), trivial⟩), by simp, rfl⟩
      · rintro t h ⟨rfl, rfl⟩
        have how : 0 ≤ (if a.k == 7 then ow + 1 else ow) ∧ (if a.k == 7 then ow + 1 else ow) ≤ ow + 1 := by split <;> omega
        generalize (if a.k == 7 then ow + 1 else ow) = ow' at *
        refine AW.seq ?_; refine AW.seq ?_; refine AW.region (by kernel_rfl) ?_; refine RunL.val (by exact rfl) (loc_fieldAddr rfl) ?_; refine RunL.val (by exact rfl) (loc_load rfl rfl rfl) ?_; refine RunL.val (by exact rfl) (loc_lenSl rfl) ?_; refine RunL.val (by exact rfl) (loc_moveC rfl) ?_; refine RunL.nil ?_; refine AW.block ?_
        refine AW.gh (gh_lit [(1, .one (.int .i64 ar)), (2, .one (.int .i64 (ow'))), (3, .one (.ptr 3 0)), (7, .one (.bool (ok0))), (109, .one (slOf 7 (tmRows a.l))), (110, .one (.int .i64 ((tmRows a.l).length : Nat))), (111, .one (.int .i64 ((0 : Nat) : Int)))] [(3, .obj a.c)] [] [] ⟨(WkU.of_eq rfl trivial), (WkU.of_eq rfl trivial), (WkU.of_eq rfl trivial), (WkU.of_eq rfl trivial), (by exact WkU.of_eq rfl trivial), (WkU.of_eq rfl trivial), (WkU.of_eq rfl trivial), trivial⟩ ⟨(by exact Or.inl ⟨_, rfl, WkBlk.refl _⟩), trivial⟩ trivial trivial rfl rfl ⟨trivial, trivial, ⟨_, rfl⟩, trivial, trivial, trivial, trivial, trivial⟩ ⟨(by refine And.intro ?_ ?_; exact trivial; refine And.intro ?_ ?_; exact trivial; refine And.intro ?_ ?_; exact trivial; refine And.intro ?_ ?_; exact trivial; refine And.intro ?_ ?_; exact trivial; refine And.intro ?_ ?_; exact trivial; refine And.intro ?_ ?_; exact trivial; exact trivial), trivial⟩) ?_
        refine AW.lenSl 109 rfl fun hmax => ?_
        refine AW.loop (fun m t h => ∃ i : Nat, ∃ ok : Bool, i ≤ a.l.length ∧ m = a.l.length - i ∧ a.good ar ow = (ok && goodL (a.l.drop i) ar ow') ∧ t = tOfL [(1, .one (.int .i64 ar)), (2, .one (.int .i64 (ow'))), (3, .one (.ptr 3 0)), (7, .one (.bool (ok))), (109, .one (slOf 7 (tmRows a.l))), (110, .one (.int .i64 ((tmRows a.l).length : Nat))), (111, .one (.int .i64 ((i : Nat) : Int)))] ∧ h = ofL [(3, .obj a.c)]) a.l.length ⟨0, ok0, Nat.zero_le _, rfl, hdrop, rfl, rfl⟩ ?_
        rintro m t h ⟨i, ok, hi, rfl, hinv, rfl, rfl⟩
        clear hge hdrop
        cases hlt : decide ((i : Int) < ((tmRows a.l).length : Nat)) with
        | false =>
          have hil : i = a.l.length := by simp at hlt; omega
          refine AW.seq ?_; refine AW.region (by kernel_rfl) ?_; refine RunL.val (by exact rfl) (loc_binInt rfl rfl rfl) ?_; refine RunL.nil ?_; refine AW.seq ?_; refine AW.condFa (by exact rfl) (by assumption) ?_; refine AW.exit ?_; refine AW.seq ?_; refine AW.region (by kernel_rfl) ?_; refine RunL.val (by exact rfl) (loc_moveC rfl) ?_; refine RunL.val (by exact rfl) (loc_assignC rfl) ?_; refine RunL.nil ?_; refine AW.ret ?_
          rw [hinv, hil, List.drop_length, show goodL [] ar ow' = true from rfl, Bool.and_true]
          exact ret_same (.inr rfl) rfl trivial
        | true =>
          have hil : i < a.l.length := by simp at hlt; omega
          have hr1 := tmRows_get hil
          have hs := goodL_drop hil ar ow'
          have hn3 := nodes_mem (List.getElem_mem hil)
          cases ok with
          | false =>
            refine AW.seq ?_; refine AW.region (by kernel_rfl) ?_; refine RunL.val (by exact rfl) (loc_binInt rfl rfl rfl) ?_; refine RunL.nil ?_; refine AW.seq ?_; refine AW.condTa (by exact rfl) (by assumption) ?_; refine AW.skip ?_; refine AW.seq ?_; refine AW.block ?_; refine AW.seq ?_; refine AW.region (by kernel_rfl) ?_; refine RunL.val (by exact rfl) (loc_indexSl _ rfl rfl rfl (by assumption) rfl) ?_; refine RunL.val (by exact rfl) (loc_loadFA rfl (by exact Cut.all (by exact rfl))) ?_; refine RunL.mem (by exact rfl) (loc_allocD rfl rfl) ?_; refine RunL.eff (by exact rfl) (loc_storeW rfl rfl rfl rfl (by exact rfl) (by exact rfl)) ?_; refine RunL.nil ?_; refine AW.region (by kernel_rfl) ?_; refine RunL.val (by exact rfl) (loc_moveC rfl) ?_; refine RunL.val (by exact rfl) (loc_moveC rfl) ?_; refine RunL.skip (.inl ⟨_, _, rfl, rfl, rfl⟩) ?_; refine RunL.skip (.inl ⟨_, _, rfl, rfl, rfl⟩) ?_; refine RunL.skip (.inl ⟨_, _, rfl, rfl, rfl⟩) ?_; refine RunL.skip (.inl ⟨_, _, rfl, rfl, rfl⟩) ?_; refine RunL.val (by exact rfl) (loc_pickF rfl rfl) ?_; refine RunL.val (by exact rfl) (loc_assignC rfl) ?_; refine RunL.nil ?_; refine AW.region (by kernel_rfl) ?_; refine RunL.val (by exact rfl) (loc_inc rfl rfl (by omega)) ?_; refine RunL.val (by exact rfl) (loc_moveC rfl) ?_; refine RunL.nil ?_
            exact ⟨a.l.length - (i + 1), _, _, by omega, (gh_lit [(1, .one (.int .i64 ar)), (2, .one (.int .i64 (ow'))), (3, .one (.ptr 3 0)), (7, .one (.bool (false))), (109, .one (slOf 7 (tmRows a.l))), (110, .one (.int .i64 ((tmRows a.l).length : Nat))), (111, .one (.int .i64 (((i + 1) : Nat) : Int)))] [(3, .obj a.c)] [] [] ⟨(WkU.of_eq rfl trivial), (WkU.of_eq rfl trivial), (WkU.of_eq rfl trivial), (WkU.of_eq rfl trivial), (by exact WkU.of_eq rfl trivial), (WkU.of_eq rfl trivial), (WkU.of_eq rfl trivial), trivial⟩ ⟨(by exact Or.inl ⟨_, rfl, WkBlk.refl _⟩), trivial⟩ trivial trivial rfl rfl ⟨trivial, trivial, ⟨_, rfl⟩, trivial, trivial, trivial, trivial, trivial⟩ ⟨(by refine And.intro ?_ ?_; exact trivial; refine And.intro ?_ ?_; exact trivial; refine And.intro ?_ ?_; exact trivial; refine And.intro ?_ ?_; exact trivial; refine And.intro ?_ ?_; exact trivial; refine And.intro ?_ ?_; exact trivial; refine And.intro ?_ ?_; exact trivial; exact trivial), trivial⟩), i + 1, _, by omega, rfl, by rw [hinv]; rfl, rfl, rfl⟩
          | true =>
            refine AW.seq ?_; refine AW.region (by kernel_rfl) ?_; refine RunL.val (by exact rfl) (loc_binInt rfl rfl rfl) ?_; refine RunL.nil ?_; refine AW.seq ?_; refine AW.condTa (by exact rfl) (by assumption) ?_; refine AW.skip ?_; refine AW.seq ?_; refine AW.block ?_; refine AW.seq ?_; refine AW.region (by kernel_rfl) ?_; refine RunL.val (by exact rfl) (loc_indexSl _ rfl rfl rfl (by assumption) rfl) ?_; refine RunL.val (by exact rfl) (loc_loadFA rfl (by exact Cut.all (by exact rfl))) ?_; refine RunL.mem (by exact rfl) (loc_allocD rfl rfl) ?_; refine RunL.eff (by exact rfl) (loc_storeW rfl rfl rfl rfl (by exact rfl) (by exact rfl)) ?_; refine RunL.nil ?_; refine AW.region (by kernel_rfl) ?_; refine RunL.val (by exact rfl) (loc_moveC rfl) ?_; refine RunL.val (by exact rfl) (loc_moveC rfl) ?_; refine RunL.val (by exact .inl ⟨_, _, rfl, rfl, rfl⟩) (loc_loadA rfl rfl (by exact Cut.all (by exact rfl))) ?_; refine RunL.val (by exact .inl ⟨_, _, rfl, rfl, rfl⟩) (loc_moveC rfl) ?_; refine RunL.val (by exact .inl ⟨_, _, rfl, rfl, rfl⟩) (loc_moveC rfl) ?_
            refine RunL.val (by exact .inl ⟨_, _, rfl, rfl, rfl⟩) (loc_fun (ih a.l[i] (List.getElem_mem _) ar ow' (hok.l _ (List.getElem_mem _)) (hdp.l _ (List.getElem_mem _)) how.1 (by omega)) rfl (by refine ⟨_, _, rfl, (by exact LeU.of_eq rfl trivial), (by (refine And.intro ?_ ?_; exact trivial; refine And.intro ?_ ?_; exact trivial; refine And.intro ?_ ?_; exact trivial; refine And.intro ?_ ?_; exact trivial; refine And.intro ?_ ?_; exact trivial; refine And.intro ?_ ?_; exact trivial; refine And.intro ?_ ?_; exact trivial; exact trivial; done)), ?_⟩; refine ⟨_, _, rfl, (by exact LeU.of_eq rfl trivial), (by exact trivial), ?_⟩; refine ⟨_, _, rfl, (by exact LeU.of_eq rfl trivial), (by exact trivial), ?_⟩; exact rfl)) ?_
            refine RunL.val (by exact rfl) (loc_pickT rfl rfl) ?_; refine RunL.val (by exact rfl) (loc_assignC rfl) ?_; refine RunL.nil ?_; refine AW.region (by kernel_rfl) ?_; refine RunL.val (by exact rfl) (loc_inc rfl rfl (by omega)) ?_; refine RunL.val (by exact rfl) (loc_moveC rfl) ?_; refine RunL.nil ?_
            exact ⟨a.l.length - (i + 1), _, _, by omega, (gh_lit [(1, .one (.int .i64 ar)), (2, .one (.int .i64 (ow'))), (3, .one (.ptr 3 0)), (7, .one (.bool (a.l[i].good ar ow'))), (109, .one (slOf 7 (tmRows a.l))), (110, .one (.int .i64 ((tmRows a.l).length : Nat))), (111, .one (.int .i64 (((i + 1) : Nat) : Int)))] [(3, .obj a.c)] [] [] ⟨(WkU.of_eq rfl trivial), (WkU.of_eq rfl trivial), (WkU.of_eq rfl trivial), (WkU.of_eq rfl trivial), (by exact WkU.of_eq rfl trivial), (WkU.of_eq rfl trivial), (WkU.of_eq rfl trivial), trivial⟩ ⟨(by exact Or.inl ⟨_, rfl, WkBlk.refl _⟩), trivial⟩ trivial trivial rfl rfl ⟨trivial, trivial, ⟨_, rfl⟩, trivial, trivial, trivial, trivial, trivial⟩ ⟨(by refine And.intro ?_ ?_; exact trivial; refine And.intro ?_ ?_; exact trivial; refine And.intro ?_ ?_; exact trivial; refine And.intro ?_ ?_; exact trivial; refine And.intro ?_ ?_; exact trivial; refine And.intro ?_ ?_; exact trivial; refine And.intro ?_ ?_; exact trivial; exact trivial), trivial⟩), i + 1, _, by omega, rfl, by rw [hinv, hs]; rfl, rfl, rfl⟩
set_option maxHeartbeats 2000000 in
theorem isTerm_a (a : Tm) (ar : Int) (hok : TmOk a) (hdp : TmDp a) (hsz : a.nodes ≤ 1048576) : ACalls Tryd.prog 16 [a.u, .one (.int .i64 ar)] [] (.one (.bool (a.Good ar))) [] := by
  refine acalls_of_body Tryd.func16 rfl (by kernel_rfl) (Nat.le_of_ble_eq_true rfl) trivial (by simp [namesL]) ?_
  refine AW.seq ?_; refine AW.region (by kernel_rfl) ?_; refine RunL.mem (by exact rfl) (loc_boxD rfl rfl rfl) ?_; refine RunL.val (by exact rfl) (loc_assignC rfl) ?_; refine RunL.nil ?_; refine AW.seq ?_; refine AW.region (by kernel_rfl) ?_; refine RunL.val (by exact rfl) (loc_loadA rfl rfl (by exact Cut.all (by exact rfl))) ?_
  refine RunL.val (by exact rfl) (loc_fun (nodesOf_a a hsz) rfl (by refine ⟨_, _, rfl, (by exact LeU.of_eq rfl trivial), (by (refine And.intro ?_ ?_; exact trivial; refine And.intro ?_ ?_; exact trivial; refine And.intro ?_ ?_; exact trivial; refine And.intro ?_ ?_; exact trivial; refine And.intro ?_ ?_; exact trivial; refine And.intro ?_ ?_; exact trivial; refine And.intro ?_ ?_; exact trivial; exact trivial; done)), ?_⟩; exact rfl)) ?_
  cases hn : decide (((a.nodes : Nat) : Int) < 41) with
  | false =>
    refine RunL.val (by exact rfl) (loc_binInt rfl rfl rfl) ?_; refine RunL.val (by exact rfl) (loc_moveC rfl) ?_; refine RunL.skip (.inl ⟨_, _, rfl, rfl, guard_eq false (by assumption) rfl⟩) ?_; refine RunL.skip (.inl ⟨_, _, rfl, rfl, guard_eq false (by assumption) rfl⟩) ?_; refine RunL.skip (.inl ⟨_, _, rfl, rfl, guard_eq false (by assumption) rfl⟩) ?_; refine RunL.val (by exact rfl) (loc_pickI false (by assumption) rfl rfl) ?_; refine RunL.val (by exact rfl) (loc_assignC rfl) ?_; refine RunL.nil ?_; refine AW.ret ?_
    rw [show a.Good ar = false by unfold Tm.Good; rw [show decide (((a.nodes : Nat) : Int) ≤ 40) = false by simp at hn ⊢; omega]; rfl]
    exact ret_same (.inr rfl) rfl trivial
  | true =>
    refine RunL.val (by exact rfl) (loc_binInt rfl rfl rfl) ?_; refine RunL.val (by exact rfl) (loc_moveC rfl) ?_; refine RunL.val (by exact .inl ⟨_, _, rfl, rfl, guard_eq true (by assumption) rfl⟩) (loc_loadA rfl rfl (by exact Cut.all (by exact rfl))) ?_; refine RunL.val (by exact .inl ⟨_, _, rfl, rfl, guard_eq true (by assumption) rfl⟩) (loc_moveC rfl) ?_
    refine RunL.val (by exact .inl ⟨_, _, rfl, rfl, guard_eq true (by assumption) rfl⟩) (loc_fun (right_a a ar 0 hok hdp (by omega) (by omega)) rfl (by refine ⟨_, _, rfl, (by exact LeU.of_eq rfl trivial), (by (refine And.intro ?_ ?_; exact trivial; refine And.intro ?_ ?_; exact trivial; refine And.intro ?_ ?_; exact trivial; refine And.intro ?_ ?_; exact trivial; refine And.intro ?_ ?_; exact trivial; refine And.intro ?_ ?_; exact trivial; refine And.intro ?_ ?_; exact trivial; exact trivial; done)), ?_⟩; refine ⟨_, _, rfl, (by exact LeU.of_eq rfl trivial), (by exact trivial), ?_⟩; refine ⟨_, _, rfl, (by exact LeU.of_eq rfl trivial), (by exact trivial), ?_⟩; exact rfl)) ?_
    refine RunL.val (by exact rfl) (loc_pickI true (by assumption) rfl rfl) ?_; refine RunL.val (by exact rfl) (loc_assignC rfl) ?_; refine RunL.nil ?_; refine AW.ret ?_
    rw [show a.Good ar = a.good ar 0 by unfold Tm.Good; rw [show decide (((a.nodes : Nat) : Int) ≤ 40) = true by simp at hn ⊢; omega]; rfl]
    exact ret_same (.inr rfl) rfl trivial
end Go.Proofs.YtnflnbdlgdjfmabDoor
namespace Go.Proofs.YtnflnbdlgdjfmabDoor
open Go.RowKit
set_option linter.unusedVariables false
set_option linter.unusedSimpArgs false
set_option maxRecDepth 100000
attribute [local irreducible] RunL AW LocOp ACalls Gh
theorem strRows_get {ws : List ByteArray} {i : Nat} {w : ByteArray} (h : ws[i]? = some w) : (strRows ws)[i]? = some [.str w] := by simp [strRows, h]
theorem closed_strRows : ∀ ws : List ByteArray, closedRows (strRows ws) = true
  | [] => rfl
  | w :: ws => by show closedRows ([.str w] :: strRows ws) = true; simp only [closedRows, closed_strRows ws, Bool.and_true]; rfl
/-- The end of what answers a string or a number, the reader as it is. -/
theorem ret_rd {P : Program} {x : Tmp} {c : C} {e : Exit} {t : Nat → U} {h : Nat → Option Blk} {r : Rd} {l : List C} (he : e = .normal ∨ e = .ret) (hx : t x = .one c) (hc : closedC c = true) (hb : h 1000 = some (.obj l)) (hl : All2 (WkC h [] []) l r.c) : RetQ P #[.tmp x] (.one c) [(1000, .obj r.c)] e t h :=
  ⟨he, [.one c], ⟨hx, trivial⟩, ⟨trivial, trivial⟩, .one c, rfl, [], trivial, WkU.one, ⟨⟨_, hb, hl⟩, trivial⟩, rfl, closed_okC hc, ⟨⟨trivial, trivial, trivial⟩, trivial⟩⟩
theorem next_a (r : Rd) : ACalls Tryd.prog 47 [.one (.ptr 1000 0)] [(1000, .obj (Rd.c (r)))] (.one (.str r.next.1)) [(1000, .obj (Rd.c (r.next.2)))] := by
  obtain ⟨ws, bad⟩ := r
  refine acalls_of_body Tryd.func47 rfl (by kernel_rfl) (Nat.le_of_ble_eq_true rfl) (by exact ⟨⟨rfl, trivial⟩, trivial⟩) (by simp [namesL]) ?_
  cases ws with
  | nil =>
    refine AW.seq ?_; refine AW.region (by kernel_rfl) ?_; refine RunL.val (by exact rfl) (loc_assignC rfl) ?_; refine RunL.nil ?_; refine AW.seq ?_; refine AW.seq ?_; refine AW.region (by kernel_rfl) ?_; refine RunL.val (by exact rfl) (loc_moveC rfl) ?_; refine RunL.val (by exact rfl) (loc_nilCheck rfl rfl) ?_; refine RunL.val (by exact rfl) (loc_fieldAddr rfl) ?_; refine RunL.val (by exact rfl) (loc_load rfl rfl rfl) ?_; refine RunL.val (by exact rfl) (loc_lenSl rfl) ?_; refine RunL.val (by exact rfl) (loc_binInt rfl rfl rfl) ?_; refine RunL.nil ?_; refine AW.condT (by exact rfl) ?_; refine AW.seq ?_; refine AW.region (by kernel_rfl) ?_; refine RunL.val (by exact rfl) (loc_moveC rfl) ?_; refine RunL.val (by exact rfl) (loc_nilCheck rfl rfl) ?_; refine RunL.val (by exact rfl) (loc_fieldAddr rfl) ?_; refine RunL.eff (by exact rfl) (loc_store (by exact rfl) (by exact rfl) (by exact rfl) (by exact rfl) (by exact rfl) (by exact Nat.le_of_ble_eq_true rfl) (by exact rfl)) ?_; refine RunL.nil ?_; refine AW.seq ?_; refine AW.region (by kernel_rfl) ?_; refine RunL.val (by exact rfl) (loc_assignC rfl) ?_; refine RunL.nil ?_; refine AW.ret ?_
    refine rq ?_
    exact ret_rd (by exact .inr rfl) (by exact rfl) rfl (by exact rfl) (by exact wkRow_refl _)
  | cons w ws =>
    have hz : (((((strRows (w :: ws)).length : Nat)) : Int) == 0) = false := by rw [beq_eq_false_iff_ne]; simp [strRows]; omega
    have hr0 : (strRows (w :: ws))[0]? = some [.str w] := strRows_get rfl
    refine AW.seq ?_; refine AW.region (by kernel_rfl) ?_; refine RunL.val (by exact rfl) (loc_assignC rfl) ?_; refine RunL.nil ?_; refine AW.seq ?_; refine AW.seq ?_; refine AW.region (by kernel_rfl) ?_; refine RunL.val (by exact rfl) (loc_moveC rfl) ?_; refine RunL.val (by exact rfl) (loc_nilCheck rfl rfl) ?_; refine RunL.val (by exact rfl) (loc_fieldAddr rfl) ?_; refine RunL.val (by exact rfl) (loc_load rfl rfl rfl) ?_; refine RunL.val (by exact rfl) (loc_lenSl rfl) ?_; refine RunL.val (by exact rfl) (loc_binInt rfl rfl rfl) ?_; refine RunL.nil ?_; refine AW.condF (by exact rfl) ?_; refine AW.skip ?_; refine AW.seq ?_; refine AW.region (by kernel_rfl) ?_; refine RunL.val (by exact rfl) (loc_moveC rfl) ?_; refine RunL.val (by exact rfl) (loc_nilCheck rfl rfl) ?_; refine RunL.val (by exact rfl) (loc_fieldAddr rfl) ?_; refine RunL.val (by exact rfl) (loc_load rfl rfl rfl) ?_; refine RunL.val (by exact rfl) (loc_indexSl _ rfl rfl rfl (by assumption) rfl) ?_; refine RunL.val (by exact rfl) (loc_loadF rfl (by exact rfl)) ?_; refine RunL.val (by exact rfl) (loc_assignC rfl) ?_; refine RunL.nil ?_; refine AW.seq ?_; refine AW.region (by kernel_rfl) ?_; refine RunL.val (by exact rfl) (loc_moveC rfl) ?_; refine RunL.val (by exact rfl) (loc_moveC rfl) ?_; refine RunL.val (by exact rfl) (loc_nilCheck rfl rfl) ?_; refine RunL.val (by exact rfl) (loc_fieldAddr rfl) ?_; refine RunL.val (by exact rfl) (loc_load rfl rfl rfl) ?_
    refine RunL.val (by exact rfl) (loc_sliceLo (n := 1) (by exact rfl) (by exact rfl) rfl (by simp [strRows]) (by simp [strRows])) ?_
    refine RunL.val (by exact rfl) (loc_nilCheck rfl rfl) ?_; refine RunL.val (by exact rfl) (loc_fieldAddr rfl) ?_; refine RunL.eff (by exact rfl) (loc_store (by exact rfl) (by exact rfl) (by exact rfl) (by exact rfl) (by exact rfl) (by exact Nat.le_of_ble_eq_true rfl) (by exact rfl)) ?_; refine RunL.nil ?_; refine AW.seq ?_; refine AW.region (by kernel_rfl) ?_; refine RunL.val (by exact rfl) (loc_moveC rfl) ?_; refine RunL.val (by exact rfl) (loc_assignC rfl) ?_; refine RunL.nil ?_; refine AW.ret ?_
    refine rq ?_
    exact ret_rd (by exact .inr rfl) (by exact rfl) rfl (by exact rfl) (by exact wkRow_refl _)
theorem number_a (r : Rd) (s : ByteArray) (hs : s.size ≤ 281474976710656) : ACalls Tryd.prog 49 [.one (.ptr 1000 0), .one (.str s)] [(1000, .obj (Rd.c (r)))] (.one (.int .i64 (r.number s).1)) [(1000, .obj (Rd.c ((r.number s).2)))] := by
  refine acalls_of_body Tryd.func49 rfl (by kernel_rfl) (Nat.le_of_ble_eq_true rfl) (by exact ⟨⟨rfl, trivial⟩, trivial⟩) (by simp [namesL]) ?_
  refine AW.seq ?_; refine AW.region (by kernel_rfl) ?_; refine RunL.val (by exact rfl) (loc_assignC rfl) ?_; refine RunL.nil ?_; refine AW.seq ?_; refine AW.region (by kernel_rfl) ?_; refine RunL.val (by exact rfl) (loc_moveC rfl) ?_
  refine RunL.val (by exact rfl) (loc_fun (atoi_a s hs) rfl (by refine ⟨_, _, rfl, (by exact LeU.of_eq rfl trivial), (by exact trivial), ?_⟩; exact rfl)) ?_
  cases hA : Lib.atoiAll s.data.toList with
  | ok v =>
    obtain ⟨h0, h1⟩ := atoi_in hA
    rw [show atoiU s = .tup [.one (.int .i64 v), .one .nilif] by unfold atoiU; rw [hA]]
    refine RunL.val (by exact rfl) (loc_moveT rfl) ?_; refine RunL.val (by exact rfl) (loc_extractC rfl rfl) ?_; refine RunL.val (by exact rfl) (loc_extractC rfl rfl) ?_; refine RunL.val (by exact rfl) (loc_assignC rfl) ?_; refine RunL.val (by exact rfl) (loc_assignC rfl) ?_; refine RunL.nil ?_; refine AW.seq ?_; refine AW.seq ?_; refine AW.region (by kernel_rfl) ?_; refine RunL.val (by exact rfl) (loc_moveC rfl) ?_
    refine RunL.val (by exact rfl) (loc_neIfF (by exact rfl) rfl) ?_
    refine RunL.val (by exact rfl) (loc_moveC rfl) ?_; refine RunL.val (by exact .inl ⟨_, _, rfl, rfl, rfl⟩) (loc_moveC rfl) ?_
    refine RunL.val (by exact .inl ⟨_, _, rfl, rfl, rfl⟩) (loc_fun (itoa_a v h0 h1) rfl (by refine ⟨_, _, rfl, (by exact LeU.of_eq rfl trivial), (by exact trivial), ?_⟩; exact rfl)) ?_
    refine RunL.val (by exact .inl ⟨_, _, rfl, rfl, rfl⟩) (loc_moveC rfl) ?_
    refine RunL.val (by exact .inl ⟨_, _, rfl, rfl, rfl⟩) (loc_neStr (by exact rfl) (by exact rfl)) ?_
    cases hq : sEq ⟨(Lib.itoa v).toArray⟩ s with
    | true =>
      have e : r.number s = (v, r) := by unfold Rd.number numOf; rw [hA]; simp [hq]
      rw [e]
      refine RunL.val (by exact rfl) (loc_pickF rfl rfl) ?_; refine RunL.nil ?_; refine AW.condF (by exact rfl) ?_; refine AW.skip ?_; refine AW.seq ?_; refine AW.region (by kernel_rfl) ?_; refine RunL.val (by exact rfl) (loc_moveC rfl) ?_; refine RunL.val (by exact rfl) (loc_assignC rfl) ?_; refine RunL.nil ?_; refine AW.ret ?_
      refine rq ?_
      exact ret_rd (by exact .inr rfl) (by exact rfl) rfl (by exact rfl) (by exact wkRow_refl _)
    | false =>
      have e : r.number s = (0, r.fail) := by unfold Rd.number numOf; rw [hA]; simp [hq]
      rw [e]
      refine RunL.val (by exact rfl) (loc_pickF rfl rfl) ?_; refine RunL.nil ?_; refine AW.condT (by exact rfl) ?_; refine AW.seq ?_; refine AW.region (by kernel_rfl) ?_; refine RunL.val (by exact rfl) (loc_moveC rfl) ?_; refine RunL.val (by exact rfl) (loc_nilCheck rfl rfl) ?_; refine RunL.val (by exact rfl) (loc_fieldAddr rfl) ?_; refine RunL.eff (by exact rfl) (loc_store (by exact rfl) (by exact rfl) (by exact rfl) (by exact rfl) (by exact rfl) (by exact Nat.le_of_ble_eq_true rfl) (by exact rfl)) ?_; refine RunL.nil ?_; refine AW.seq ?_; refine AW.region (by kernel_rfl) ?_; refine RunL.val (by exact rfl) (loc_assignC rfl) ?_; refine RunL.nil ?_; refine AW.ret ?_
      refine rq ?_
      exact ret_rd (by exact .inr rfl) (by exact rfl) rfl (by exact rfl) (by exact wkRow_refl _)
  | range =>
    rw [show atoiU s = .tup [.one .any, .one .ifc] by unfold atoiU; rw [hA]]
    have e : r.number s = (0, r.fail) := by unfold Rd.number numOf; rw [hA]
    rw [e]
    refine RunL.val (by exact rfl) (loc_moveT rfl) ?_; refine RunL.val (by exact rfl) (loc_extractC rfl rfl) ?_; refine RunL.val (by exact rfl) (loc_extractC rfl rfl) ?_; refine RunL.val (by exact rfl) (loc_assignC rfl) ?_; refine RunL.val (by exact rfl) (loc_assignC rfl) ?_; refine RunL.nil ?_; refine AW.seq ?_; refine AW.seq ?_; refine AW.region (by kernel_rfl) ?_; refine RunL.val (by exact rfl) (loc_moveC rfl) ?_
    refine RunL.val (by exact rfl) (loc_neIfT (by exact rfl) rfl) ?_
    refine RunL.val (by exact rfl) (loc_moveC rfl) ?_; refine RunL.skip (.inl ⟨_, _, rfl, rfl, rfl⟩) ?_; refine RunL.skip (.inl ⟨_, _, rfl, rfl, rfl⟩) ?_; refine RunL.skip (.inl ⟨_, _, rfl, rfl, rfl⟩) ?_; refine RunL.skip (.inl ⟨_, _, rfl, rfl, rfl⟩) ?_; refine RunL.val (by exact rfl) (loc_pickT rfl rfl) ?_; refine RunL.nil ?_; refine AW.condT (by exact rfl) ?_; refine AW.seq ?_; refine AW.region (by kernel_rfl) ?_; refine RunL.val (by exact rfl) (loc_moveC rfl) ?_; refine RunL.val (by exact rfl) (loc_nilCheck rfl rfl) ?_; refine RunL.val (by exact rfl) (loc_fieldAddr rfl) ?_; refine RunL.eff (by exact rfl) (loc_store (by exact rfl) (by exact rfl) (by exact rfl) (by exact rfl) (by exact rfl) (by exact Nat.le_of_ble_eq_true rfl) (by exact rfl)) ?_; refine RunL.nil ?_; refine AW.seq ?_; refine AW.region (by kernel_rfl) ?_; refine RunL.val (by exact rfl) (loc_assignC rfl) ?_; refine RunL.nil ?_; refine AW.ret ?_
    refine rq ?_
    exact ret_rd (by exact .inr rfl) (by exact rfl) rfl (by exact rfl) (by exact wkRow_refl _)
  | _ =>
    rw [show atoiU s = .tup [.one .any, .one .ifc] by unfold atoiU; rw [hA]]
    have e : r.number s = (0, r.fail) := by unfold Rd.number numOf; rw [hA]
    rw [e]
    refine RunL.val (by exact rfl) (loc_moveT rfl) ?_; refine RunL.val (by exact rfl) (loc_extractC rfl rfl) ?_; refine RunL.val (by exact rfl) (loc_extractC rfl rfl) ?_; refine RunL.val (by exact rfl) (loc_assignC rfl) ?_; refine RunL.val (by exact rfl) (loc_assignC rfl) ?_; refine RunL.nil ?_; refine AW.seq ?_; refine AW.seq ?_; refine AW.region (by kernel_rfl) ?_; refine RunL.val (by exact rfl) (loc_moveC rfl) ?_
    refine RunL.val (by exact rfl) (loc_neIfT (by exact rfl) rfl) ?_
    refine RunL.val (by exact rfl) (loc_moveC rfl) ?_; refine RunL.skip (.inl ⟨_, _, rfl, rfl, rfl⟩) ?_; refine RunL.skip (.inl ⟨_, _, rfl, rfl, rfl⟩) ?_; refine RunL.skip (.inl ⟨_, _, rfl, rfl, rfl⟩) ?_; refine RunL.skip (.inl ⟨_, _, rfl, rfl, rfl⟩) ?_; refine RunL.val (by exact rfl) (loc_pickT rfl rfl) ?_; refine RunL.nil ?_; refine AW.condT (by exact rfl) ?_; refine AW.seq ?_; refine AW.region (by kernel_rfl) ?_; refine RunL.val (by exact rfl) (loc_moveC rfl) ?_; refine RunL.val (by exact rfl) (loc_nilCheck rfl rfl) ?_; refine RunL.val (by exact rfl) (loc_fieldAddr rfl) ?_; refine RunL.eff (by exact rfl) (loc_store (by exact rfl) (by exact rfl) (by exact rfl) (by exact rfl) (by exact rfl) (by exact Nat.le_of_ble_eq_true rfl) (by exact rfl)) ?_; refine RunL.nil ?_; refine AW.seq ?_; refine AW.region (by kernel_rfl) ?_; refine RunL.val (by exact rfl) (loc_assignC rfl) ?_; refine RunL.nil ?_; refine AW.ret ?_
    refine rq ?_
    exact ret_rd (by exact .inr rfl) (by exact rfl) rfl (by exact rfl) (by exact wkRow_refl _)
end Go.Proofs.YtnflnbdlgdjfmabDoor
namespace Go.Proofs.YtnflnbdlgdjfmabDoor
open Go.RowKit
set_option linter.unusedVariables false
set_option linter.unusedSimpArgs false
set_option maxRecDepth 100000
attribute [local irreducible] RunL AW LocOp ACalls Gh
/-- One type is answered, the reader as it is. -/
theorem ret_ty {P : Program} {x : Tmp} {tx : TypeId} {bx : Nat} {e : Exit} {t : Nat → U} {h : Nat → Option Blk} {r : Rd} {a : Ty} {l k : List C} [T : TAgg P tx 2] (he : e = .normal ∨ e = .ret) (hx : t x = .one (.ptr bx 0)) (hbx : h bx = some (.obj k)) (hk : All2 (WkC h [] []) k a.c) (hb : h 1000 = some (.obj l)) (hl : All2 (WkC h [] []) l r.c) : RetQ P #[.cell x tx] a.u [(1000, .obj r.c)] e t h := by
  have hlen : k.length = 2 := hk.length
  exact ⟨he, [.agg k], ⟨⟨bx, k, hx, hbx, .inl ⟨2, T, hlen, rfl⟩⟩, trivial⟩, ⟨trivial, trivial⟩, .agg k, rfl, [], trivial, hk, ⟨⟨_, hb, hl⟩, trivial⟩, rfl, ⟨trivial, trivial, trivial⟩, ⟨⟨trivial, trivial, trivial⟩, trivial⟩⟩
theorem anyCells {h : Nat → Option Blk} : All2 (WkC h [] []) [.int .i64 0, .nilsl] Ty.any.c := ⟨.le (.refl _), .le (.nil _), trivial⟩
theorem leafCells {h : Nat → Option Blk} {k : Int} : All2 (WkC h [] []) [.int .i64 k, .nilsl] (Ty.mk k []).c := ⟨.le (.refl _), .le (.nil _), trivial⟩
theorem pairCells {h : Nat → Option Blk} {k : Int} {a b : Ty} : All2 (WkC h [] []) [.int .i64 k, slFOf 2 [a.c, b.c]] (Ty.mk k [a, b]).c := by
  have e : (Ty.mk k [a, b]).c = [.int .i64 k, slOf 2 [a.c, b.c]] := by simp [Ty.c, tyRows_map]
  rw [e]
  exact ⟨.le (.refl _), .le (LeC.slF (LeRows.refl _)), trivial⟩
theorem kinds_get {i : Nat} (h : i < 4) : kindsC[i]? = some (.str (kindsL.getD i sNil)) := by
  match i, h with
  | 0, _ | 1, _ | 2, _ | 3, _ => rfl
/-- What comes of the loop over the kinds. -/
theorem kFrom_step {s : ByteArray} {op : Bool} {i : Nat} (h : i < 4) : kFrom s op (4 - i) = if kAt s op i then some i else kFrom s op (4 - (i + 1)) := by
  obtain ⟨n, hn⟩ : ∃ n, 4 - i = n + 1 := ⟨3 - i, by omega⟩
  rw [hn, show 4 - (i + 1) = n by omega]
  simp only [kFrom]
  rw [show 3 - n = i by omega]
/-- What is read behind the words that say which. -/
def readKq (d : Nat) (op : Bool) (q : ByteArray × Rd) : Ty × Rd :=
  match d with
  | 0 => (.any, q.2.fail)
  | d + 1 => match kFrom q.1 op 4 with
    | none => (.any, q.2.fail)
    | some k => if op then (.mk k [(readK d q.2).1, (readK d (readK d q.2).2).1], (readK d (readK d q.2).2).2.close) else (.mk k [], q.2)
theorem readK_q (d : Nat) (r : Rd) : readK d r = readKq d (sEq r.next.1 sLp) (if sEq r.next.1 sLp then r.next.2.next else r.next) := by cases d <;> rfl
set_option maxHeartbeats 20000000 in
theorem kind_a : ∀ (d : Nat), d ≤ 5 → ∀ (r : Rd), ACalls Tryd.prog 50 [.one (.ptr 1000 0), .one (.int .i64 (5 - (d : Int)))] [(1000, .obj (Rd.c (r)))] (readK d r).1.u [(1000, .obj (Rd.c ((readK d r).2)))] := by
  intro d
  induction d with
  | zero =>
    intro hd r
    generalize hdp : (5 - (((0 : Nat)) : Int)) = dp
    have hdeep : decide (dp > 4) = true := decide_eq_true (by omega)
    rw [readK_q]
    refine acalls_of_body Tryd.func50 rfl (by kernel_rfl) (Nat.le_of_ble_eq_true rfl) (by exact ⟨⟨rfl, trivial⟩, trivial⟩) (by simp [namesL]) ?_
    refine AW.seq ?_; refine AW.region (by kernel_rfl) ?_; refine RunL.mem (by exact rfl) (loc_allocD rfl rfl) ?_; refine RunL.nil ?_; refine AW.seq ?_; refine AW.region (by kernel_rfl) ?_; refine RunL.val (by exact rfl) (loc_moveC rfl) ?_
    refine RunL.many (by exact rfl) (loc_funE (next_a (r)) rfl (by refine ⟨_, _, rfl, (by exact LeU.of_eq rfl trivial), (by exact Exists.intro _ rfl), ?_⟩; exact rfl) (by exact ⟨rfl, trivial⟩) (by exact rfl) (by simp [namesL]) (by exact ⟨⟨trivial, trivial, trivial⟩, trivial⟩)) ?_
    refine RunL.val (by exact rfl) (loc_assignC rfl) ?_; refine RunL.nil ?_; refine AW.seq ?_; refine AW.region (by kernel_rfl) ?_; refine RunL.val (by exact rfl) (loc_moveC rfl) ?_
    refine RunL.val (by exact rfl) (loc_eqStr (b := sLp) (by exact rfl) (by exact rfl)) ?_
    refine RunL.val (by exact rfl) (loc_assignC rfl) ?_; refine RunL.nil ?_
    refine AW.seq ?_
    refine AW.midB (fun t h => ∃ op q, op = sEq r.next.1 sLp ∧ q = (if sEq r.next.1 sLp then r.next.2.next else r.next) ∧ t = tOfL [(0, .one (.ptr 1000 0)), (1, .one (.int .i64 dp)), (4, .one (.ptr 4 0)), (5, .one (.str q.1)), (6, .one (.bool op))] ∧ h = ofL [(1000, .obj (Rd.c q.2)), (4, .obj [.int .i64 0, .nilsl])]) ?_ ?_
    · cases hop : sEq r.next.1 sLp with
      | false =>
        refine AW.seq ?_; refine AW.region (by kernel_rfl) ?_; refine RunL.val (by exact rfl) (loc_moveC rfl) ?_; refine RunL.nil ?_; refine AW.condF (by exact rfl) ?_; refine AW.skip ?_
        exact ⟨_, _, (gh_lit [(0, .one (.ptr 1000 0)), (1, .one (.int .i64 dp)), (4, .one (.ptr 4 0)), (5, .one (.str r.next.1)), (6, .one (.bool false))] [(1000, .obj (Rd.c r.next.2)), (4, .obj [.int .i64 0, .nilsl])] [] [] ⟨(WkU.of_eq rfl trivial), (WkU.of_eq rfl trivial), (WkU.of_eq rfl trivial), (by exact WkU.of_eq rfl trivial), (WkU.of_eq rfl trivial), trivial⟩ ⟨(by exact Or.inl ⟨_, rfl, WkBlk.refl _⟩), (by exact Or.inl ⟨_, rfl, WkBlk.refl _⟩), trivial⟩ trivial trivial rfl rfl ⟨⟨_, rfl⟩, trivial, ⟨_, rfl⟩, trivial, trivial, trivial⟩ ⟨(by refine And.intro ?_ ?_; exact trivial; refine And.intro ?_ ?_; exact trivial; exact trivial), (by refine And.intro ?_ ?_; exact trivial; refine And.intro ?_ ?_; exact trivial; exact trivial), trivial⟩), false, r.next, rfl, rfl, rfl, rfl⟩
      | true =>
        refine AW.seq ?_; refine AW.region (by kernel_rfl) ?_; refine RunL.val (by exact rfl) (loc_moveC rfl) ?_; refine RunL.nil ?_; refine AW.condT (by exact rfl) ?_; refine AW.region (by kernel_rfl) ?_; refine RunL.val (by exact rfl) (loc_moveC rfl) ?_
        refine RunL.many (by exact rfl) (loc_funE (next_a (r.next.2)) rfl (by refine ⟨_, _, rfl, (by exact LeU.of_eq rfl trivial), (by exact Exists.intro _ rfl), ?_⟩; exact rfl) (by exact ⟨rfl, trivial⟩) (by exact rfl) (by simp [namesL]) (by exact ⟨⟨trivial, trivial, trivial⟩, trivial⟩)) ?_
        refine RunL.val (by exact rfl) (loc_assignC rfl) ?_; refine RunL.nil ?_
        exact ⟨_, _, (gh_lit [(0, .one (.ptr 1000 0)), (1, .one (.int .i64 dp)), (4, .one (.ptr 4 0)), (5, .one (.str r.next.2.next.1)), (6, .one (.bool true))] [(1000, .obj (Rd.c r.next.2.next.2)), (4, .obj [.int .i64 0, .nilsl])] [] [] ⟨(WkU.of_eq rfl trivial), (WkU.of_eq rfl trivial), (WkU.of_eq rfl trivial), (by exact WkU.of_eq rfl trivial), (WkU.of_eq rfl trivial), trivial⟩ ⟨(by exact Or.inl ⟨_, rfl, WkBlk.refl _⟩), (by exact Or.inl ⟨_, rfl, WkBlk.refl _⟩), trivial⟩ trivial trivial rfl rfl ⟨⟨_, rfl⟩, trivial, ⟨_, rfl⟩, trivial, trivial, trivial⟩ ⟨(by refine And.intro ?_ ?_; exact trivial; refine And.intro ?_ ?_; exact trivial; exact trivial), (by refine And.intro ?_ ?_; exact trivial; refine And.intro ?_ ?_; exact trivial; exact trivial), trivial⟩), true, r.next.2.next, rfl, rfl, rfl, rfl⟩
    · rintro t h ⟨op, q, ho, hq, rfl, rfl⟩
      rw [← hq, ← ho]
      refine AW.seq ?_; refine AW.seq ?_; refine AW.region (by kernel_rfl) ?_; refine RunL.val (by exact rfl) (loc_loadFA rfl (by exact Cut.all (by exact rfl))) ?_; refine RunL.val (by exact rfl) (loc_moveC rfl) ?_; refine RunL.nil ?_; refine AW.block ?_
      refine AW.gh (gh_lit [(0, .one (.ptr 1000 0)), (1, .one (.int .i64 dp)), (4, .one (.ptr 4 0)), (5, .one (.str q.1)), (6, .one (.bool op)), (17, .agg kindsC), (18, .one (.int .i64 ((0 : Nat) : Int)))] [(1000, .obj (Rd.c q.2)), (4, .obj [.int .i64 0, .nilsl])] [] [] ⟨(WkU.of_eq rfl trivial), (WkU.of_eq rfl trivial), (WkU.of_eq rfl trivial), (by exact WkU.of_eq rfl trivial), (WkU.of_eq rfl trivial), (by exact WkU.of_eq rfl trivial), (WkU.of_eq rfl trivial), trivial⟩ ⟨(by exact Or.inl ⟨_, rfl, WkBlk.refl _⟩), (by exact Or.inl ⟨_, rfl, WkBlk.refl _⟩), trivial⟩ trivial trivial rfl rfl ⟨⟨_, rfl⟩, trivial, ⟨_, rfl⟩, trivial, trivial, (by refine And.intro ?_ ?_; exact trivial; refine And.intro ?_ ?_; exact trivial; refine And.intro ?_ ?_; exact trivial; refine And.intro ?_ ?_; exact trivial; exact trivial), trivial, trivial⟩ ⟨(by refine And.intro ?_ ?_; exact trivial; refine And.intro ?_ ?_; exact trivial; exact trivial), (by refine And.intro ?_ ?_; exact trivial; refine And.intro ?_ ?_; exact trivial; exact trivial), trivial⟩) ?_
      refine AW.loop (fun m t' h => ∃ i : Nat, i ≤ 4 ∧ m = 4 - i ∧ (True) ∧ t' = tOfL [(0, .one (.ptr 1000 0)), (1, .one (.int .i64 dp)), (4, .one (.ptr 4 0)), (5, .one (.str q.1)), (6, .one (.bool op)), (17, .agg kindsC), (18, .one (.int .i64 ((i : Nat) : Int)))] ∧ h = ofL [(1000, .obj (Rd.c q.2)), (4, .obj [.int .i64 0, .nilsl])]) 4 ⟨0, by omega, rfl, trivial, rfl, rfl⟩ ?_
      rintro m t' h ⟨i, hi, rfl, _, rfl, rfl⟩
      cases hlt : decide ((i : Int) < 4) with
      | false =>
        have hi4 : i = 4 := by have := of_decide_eq_false hlt; omega
        subst hi4
        refine AW.seq ?_; refine AW.region (by kernel_rfl) ?_; refine RunL.val (by exact rfl) (loc_binInt rfl rfl rfl) ?_; refine RunL.nil ?_; refine AW.seq ?_; refine AW.condF (by exact rfl) ?_; refine AW.exit ?_; refine AW.seq ?_; refine AW.region (by kernel_rfl) ?_; refine RunL.val (by exact rfl) (loc_moveC rfl) ?_; refine RunL.val (by exact rfl) (loc_nilCheck rfl rfl) ?_; refine RunL.val (by exact rfl) (loc_fieldAddr rfl) ?_; refine RunL.eff (by exact rfl) (loc_store (by exact rfl) (by exact rfl) (by exact rfl) (by exact rfl) (by exact rfl) (by exact Nat.le_of_ble_eq_true rfl) (by exact rfl)) ?_; refine RunL.nil ?_; refine AW.seq ?_; refine AW.region (by kernel_rfl) ?_; refine RunL.val (by exact rfl) (loc_build (by exact rfl) (by exact Cut.all (by exact rfl)) (by exact rfl)) ?_; refine RunL.eff (by exact rfl) (loc_storeW rfl rfl rfl rfl (by exact rfl) (by exact rfl)) ?_; refine RunL.nil ?_; refine AW.ret ?_
        refine rq ?_
        exact ret_ty (by exact .inr rfl) (by exact rfl) (by exact rfl) anyCells (by exact rfl) (by exact wkRow_refl _)
      | true =>
        have hi4 : i < 4 := by have := of_decide_eq_true hlt; omega
        have hg := kinds_get hi4
        refine AW.seq ?_; refine AW.region (by kernel_rfl) ?_; refine RunL.val (by exact rfl) (loc_binInt rfl rfl rfl) ?_; refine RunL.nil ?_; refine AW.seq ?_; refine AW.condTa (by exact rfl) (by assumption) ?_; refine AW.skip ?_; refine AW.seq ?_; refine AW.block ?_; refine AW.seq ?_; refine AW.region (by kernel_rfl) ?_; refine RunL.val (by exact rfl) (loc_moveC rfl) ?_
        refine RunL.val (by exact rfl) (loc_indexA (by exact rfl) (by exact rfl) hi4 hg) ?_
        refine RunL.val (by exact rfl) (loc_assignC rfl) ?_; refine RunL.val (by exact rfl) (loc_assignC rfl) ?_; refine RunL.nil ?_; refine AW.seq ?_; refine AW.seq ?_; refine AW.region (by kernel_rfl) ?_; refine RunL.val (by exact rfl) (loc_moveC rfl) ?_; refine RunL.val (by exact rfl) (loc_moveC rfl) ?_
        refine RunL.val (by exact rfl) (loc_neStr (by exact rfl) (by exact rfl)) ?_
        cases h1 : sEq (kindsL.getD i sNil) q.1 with
        | false =>
          have hk : kAt q.1 op i = false := by unfold kAt; rw [h1]; rfl
          refine RunL.val (by exact rfl) (loc_moveC rfl) ?_; refine RunL.skip (.inl ⟨_, _, rfl, rfl, rfl⟩) ?_; refine RunL.skip (.inl ⟨_, _, rfl, rfl, rfl⟩) ?_; refine RunL.skip (.inl ⟨_, _, rfl, rfl, rfl⟩) ?_; refine RunL.skip (.inl ⟨_, _, rfl, rfl, rfl⟩) ?_; refine RunL.val (by exact rfl) (loc_pickT rfl rfl) ?_; refine RunL.val (by exact rfl) (loc_moveC rfl) ?_; refine RunL.skip (.inl ⟨_, _, rfl, rfl, rfl⟩) ?_; refine RunL.skip (.inl ⟨_, _, rfl, rfl, rfl⟩) ?_; refine RunL.val (by exact rfl) (loc_pickT rfl rfl) ?_; refine RunL.nil ?_; refine AW.condT (by exact rfl) ?_; refine AW.exit ?_; refine AW.region (by kernel_rfl) ?_; refine RunL.val (by exact rfl) (loc_inc rfl rfl (by omega)) ?_; refine RunL.val (by exact rfl) (loc_moveC rfl) ?_; refine RunL.nil ?_
          exact ⟨4 - (i + 1), _, _, by omega, (gh_lit [(0, .one (.ptr 1000 0)), (1, .one (.int .i64 dp)), (4, .one (.ptr 4 0)), (5, .one (.str q.1)), (6, .one (.bool op)), (17, .agg kindsC), (18, .one (.int .i64 (((i + 1) : Nat) : Int)))] [(1000, .obj (Rd.c q.2)), (4, .obj [.int .i64 0, .nilsl])] [] [] ⟨(WkU.of_eq rfl trivial), (WkU.of_eq rfl trivial), (WkU.of_eq rfl trivial), (by exact WkU.of_eq rfl trivial), (WkU.of_eq rfl trivial), (by exact WkU.of_eq rfl trivial), (WkU.of_eq rfl trivial), trivial⟩ ⟨(by exact Or.inl ⟨_, rfl, WkBlk.refl _⟩), (by exact Or.inl ⟨_, rfl, WkBlk.refl _⟩), trivial⟩ trivial trivial rfl rfl ⟨⟨_, rfl⟩, trivial, ⟨_, rfl⟩, trivial, trivial, (by refine And.intro ?_ ?_; exact trivial; refine And.intro ?_ ?_; exact trivial; refine And.intro ?_ ?_; exact trivial; refine And.intro ?_ ?_; exact trivial; exact trivial), trivial, trivial⟩ ⟨(by refine And.intro ?_ ?_; exact trivial; refine And.intro ?_ ?_; exact trivial; exact trivial), (by refine And.intro ?_ ?_; exact trivial; refine And.intro ?_ ?_; exact trivial; exact trivial), trivial⟩), i + 1, by omega, by omega, trivial, rfl, rfl⟩
        | true =>
          refine RunL.val (by exact rfl) (loc_moveC rfl) ?_; refine RunL.val (by exact .inl ⟨_, _, rfl, rfl, rfl⟩) (loc_moveC rfl) ?_; refine RunL.val (by exact .inl ⟨_, _, rfl, rfl, rfl⟩) (loc_binInt rfl rfl rfl) ?_; refine RunL.val (by exact .inl ⟨_, _, rfl, rfl, rfl⟩) (loc_moveC rfl) ?_
          refine RunL.val (by exact .inl ⟨_, _, rfl, rfl, rfl⟩) (loc_neBool (by exact rfl) (by exact rfl)) ?_
          have hio : ((i : Int) == 3) = (i == 3) := by rw [Bool.eq_iff_iff]; simp; omega
          rw [hio]
          cases h2 : ((i == 3) == op) with
          | false =>
            have hk : kAt q.1 op i = false := by unfold kAt; rw [h1, h2]; rfl
            refine RunL.val (by exact rfl) (loc_pickF rfl rfl) ?_; refine RunL.val (by exact rfl) (loc_moveC rfl) ?_; refine RunL.skip (.inl ⟨_, _, rfl, rfl, rfl⟩) ?_; refine RunL.skip (.inl ⟨_, _, rfl, rfl, rfl⟩) ?_; refine RunL.val (by exact rfl) (loc_pickT rfl rfl) ?_; refine RunL.nil ?_; refine AW.condT (by exact rfl) ?_; refine AW.exit ?_; refine AW.region (by kernel_rfl) ?_; refine RunL.val (by exact rfl) (loc_inc rfl rfl (by omega)) ?_; refine RunL.val (by exact rfl) (loc_moveC rfl) ?_; refine RunL.nil ?_
            exact ⟨4 - (i + 1), _, _, by omega, (gh_lit [(0, .one (.ptr 1000 0)), (1, .one (.int .i64 dp)), (4, .one (.ptr 4 0)), (5, .one (.str q.1)), (6, .one (.bool op)), (17, .agg kindsC), (18, .one (.int .i64 (((i + 1) : Nat) : Int)))] [(1000, .obj (Rd.c q.2)), (4, .obj [.int .i64 0, .nilsl])] [] [] ⟨(WkU.of_eq rfl trivial), (WkU.of_eq rfl trivial), (WkU.of_eq rfl trivial), (by exact WkU.of_eq rfl trivial), (WkU.of_eq rfl trivial), (by exact WkU.of_eq rfl trivial), (WkU.of_eq rfl trivial), trivial⟩ ⟨(by exact Or.inl ⟨_, rfl, WkBlk.refl _⟩), (by exact Or.inl ⟨_, rfl, WkBlk.refl _⟩), trivial⟩ trivial trivial rfl rfl ⟨⟨_, rfl⟩, trivial, ⟨_, rfl⟩, trivial, trivial, (by refine And.intro ?_ ?_; exact trivial; refine And.intro ?_ ?_; exact trivial; refine And.intro ?_ ?_; exact trivial; refine And.intro ?_ ?_; exact trivial; exact trivial), trivial, trivial⟩ ⟨(by refine And.intro ?_ ?_; exact trivial; refine And.intro ?_ ?_; exact trivial; exact trivial), (by refine And.intro ?_ ?_; exact trivial; refine And.intro ?_ ?_; exact trivial; exact trivial), trivial⟩), i + 1, by omega, by omega, trivial, rfl, rfl⟩
          | true =>
            have hk : kAt q.1 op i = true := by unfold kAt; rw [h1, h2]; rfl
            refine RunL.val (by exact rfl) (loc_pickF rfl rfl) ?_; refine RunL.val (by exact rfl) (loc_moveC rfl) ?_; refine RunL.val (by exact .inl ⟨_, _, rfl, rfl, rfl⟩) (loc_moveC rfl) ?_; refine RunL.val (by exact .inl ⟨_, _, rfl, rfl, rfl⟩) (loc_binInt rfl rfl rfl) ?_; refine RunL.val (by exact rfl) (loc_pickF rfl rfl) ?_; refine RunL.nil ?_; refine AW.condTa (by exact rfl) (by assumption) ?_; refine AW.exit ?_; refine AW.region (by kernel_rfl) ?_; refine RunL.val (by exact rfl) (loc_inc rfl rfl (by omega)) ?_; refine RunL.val (by exact rfl) (loc_moveC rfl) ?_; refine RunL.nil ?_
            exact ⟨4 - (i + 1), _, _, by omega, (gh_lit [(0, .one (.ptr 1000 0)), (1, .one (.int .i64 dp)), (4, .one (.ptr 4 0)), (5, .one (.str q.1)), (6, .one (.bool op)), (17, .agg kindsC), (18, .one (.int .i64 (((i + 1) : Nat) : Int)))] [(1000, .obj (Rd.c q.2)), (4, .obj [.int .i64 0, .nilsl])] [] [] ⟨(WkU.of_eq rfl trivial), (WkU.of_eq rfl trivial), (WkU.of_eq rfl trivial), (by exact WkU.of_eq rfl trivial), (WkU.of_eq rfl trivial), (by exact WkU.of_eq rfl trivial), (WkU.of_eq rfl trivial), trivial⟩ ⟨(by exact Or.inl ⟨_, rfl, WkBlk.refl _⟩), (by exact Or.inl ⟨_, rfl, WkBlk.refl _⟩), trivial⟩ trivial trivial rfl rfl ⟨⟨_, rfl⟩, trivial, ⟨_, rfl⟩, trivial, trivial, (by refine And.intro ?_ ?_; exact trivial; refine And.intro ?_ ?_; exact trivial; refine And.intro ?_ ?_; exact trivial; refine And.intro ?_ ?_; exact trivial; exact trivial), trivial, trivial⟩ ⟨(by refine And.intro ?_ ?_; exact trivial; refine And.intro ?_ ?_; exact trivial; exact trivial), (by refine And.intro ?_ ?_; exact trivial; refine And.intro ?_ ?_; exact trivial; exact trivial), trivial⟩), i + 1, by omega, by omega, trivial, rfl, rfl⟩
  | succ d ih =>
    intro hd r
    have ih := ih (by omega)
    generalize hdp : (5 - (((d + 1 : Nat)) : Int)) = dp
    have ih2 : ∀ (r : Rd), ACalls Tryd.prog 50 [.one (.ptr 1000 0), .one (.int .i64 (dp + 1))] [(1000, .obj (Rd.c (r)))] (readK d r).1.u [(1000, .obj (Rd.c ((readK d r).2)))] := fun r => by
      rw [show dp + 1 = 5 - (d : Int) by omega]; exact ih r
    have hdeep : decide (dp > 4) = false := decide_eq_false (by omega)
    rw [readK_q]
    refine acalls_of_body Tryd.func50 rfl (by kernel_rfl) (Nat.le_of_ble_eq_true rfl) (by exact ⟨⟨rfl, trivial⟩, trivial⟩) (by simp [namesL]) ?_
    refine AW.seq ?_; refine AW.region (by kernel_rfl) ?_; refine RunL.mem (by exact rfl) (loc_allocD rfl rfl) ?_; refine RunL.nil ?_; refine AW.seq ?_; refine AW.region (by kernel_rfl) ?_; refine RunL.val (by exact rfl) (loc_moveC rfl) ?_
    refine RunL.many (by exact rfl) (loc_funE (next_a (r)) rfl (by refine ⟨_, _, rfl, (by exact LeU.of_eq rfl trivial), (by exact Exists.intro _ rfl), ?_⟩; exact rfl) (by exact ⟨rfl, trivial⟩) (by exact rfl) (by simp [namesL]) (by exact ⟨⟨trivial, trivial, trivial⟩, trivial⟩)) ?_
    refine RunL.val (by exact rfl) (loc_assignC rfl) ?_; refine RunL.nil ?_; refine AW.seq ?_; refine AW.region (by kernel_rfl) ?_; refine RunL.val (by exact rfl) (loc_moveC rfl) ?_
    refine RunL.val (by exact rfl) (loc_eqStr (b := sLp) (by exact rfl) (by exact rfl)) ?_
    refine RunL.val (by exact rfl) (loc_assignC rfl) ?_; refine RunL.nil ?_
    refine AW.seq ?_
    refine AW.midB (fun t h => ∃ op q, op = sEq r.next.1 sLp ∧ q = (if sEq r.next.1 sLp then r.next.2.next else r.next) ∧ t = tOfL [(0, .one (.ptr 1000 0)), (1, .one (.int .i64 dp)), (4, .one (.ptr 4 0)), (5, .one (.str q.1)), (6, .one (.bool op))] ∧ h = ofL [(1000, .obj (Rd.c q.2)), (4, .obj [.int .i64 0, .nilsl])]) ?_ ?_
    · cases hop : sEq r.next.1 sLp with
      | false =>
        refine AW.seq ?_; refine AW.region (by kernel_rfl) ?_; refine RunL.val (by exact rfl) (loc_moveC rfl) ?_; refine RunL.nil ?_; refine AW.condF (by exact rfl) ?_; refine AW.skip ?_
        exact ⟨_, _, (gh_lit [(0, .one (.ptr 1000 0)), (1, .one (.int .i64 dp)), (4, .one (.ptr 4 0)), (5, .one (.str r.next.1)), (6, .one (.bool false))] [(1000, .obj (Rd.c r.next.2)), (4, .obj [.int .i64 0, .nilsl])] [] [] ⟨(WkU.of_eq rfl trivial), (WkU.of_eq rfl trivial), (WkU.of_eq rfl trivial), (by exact WkU.of_eq rfl trivial), (WkU.of_eq rfl trivial), trivial⟩ ⟨(by exact Or.inl ⟨_, rfl, WkBlk.refl _⟩), (by exact Or.inl ⟨_, rfl, WkBlk.refl _⟩), trivial⟩ trivial trivial rfl rfl ⟨⟨_, rfl⟩, trivial, ⟨_, rfl⟩, trivial, trivial, trivial⟩ ⟨(by refine And.intro ?_ ?_; exact trivial; refine And.intro ?_ ?_; exact trivial; exact trivial), (by refine And.intro ?_ ?_; exact trivial; refine And.intro ?_ ?_; exact trivial; exact trivial), trivial⟩), false, r.next, rfl, rfl, rfl, rfl⟩
      | true =>
        refine AW.seq ?_; refine AW.region (by kernel_rfl) ?_; refine RunL.val (by exact rfl) (loc_moveC rfl) ?_; refine RunL.nil ?_; refine AW.condT (by exact rfl) ?_; refine AW.region (by kernel_rfl) ?_; refine RunL.val (by exact rfl) (loc_moveC rfl) ?_
        refine RunL.many (by exact rfl) (loc_funE (next_a (r.next.2)) rfl (by refine ⟨_, _, rfl, (by exact LeU.of_eq rfl trivial), (by exact Exists.intro _ rfl), ?_⟩; exact rfl) (by exact ⟨rfl, trivial⟩) (by exact rfl) (by simp [namesL]) (by exact ⟨⟨trivial, trivial, trivial⟩, trivial⟩)) ?_
        refine RunL.val (by exact rfl) (loc_assignC rfl) ?_; refine RunL.nil ?_
        exact ⟨_, _, (gh_lit [(0, .one (.ptr 1000 0)), (1, .one (.int .i64 dp)), (4, .one (.ptr 4 0)), (5, .one (.str r.next.2.next.1)), (6, .one (.bool true))] [(1000, .obj (Rd.c r.next.2.next.2)), (4, .obj [.int .i64 0, .nilsl])] [] [] ⟨(WkU.of_eq rfl trivial), (WkU.of_eq rfl trivial), (WkU.of_eq rfl trivial), (by exact WkU.of_eq rfl trivial), (WkU.of_eq rfl trivial), trivial⟩ ⟨(by exact Or.inl ⟨_, rfl, WkBlk.refl _⟩), (by exact Or.inl ⟨_, rfl, WkBlk.refl _⟩), trivial⟩ trivial trivial rfl rfl ⟨⟨_, rfl⟩, trivial, ⟨_, rfl⟩, trivial, trivial, trivial⟩ ⟨(by refine And.intro ?_ ?_; exact trivial; refine And.intro ?_ ?_; exact trivial; exact trivial), (by refine And.intro ?_ ?_; exact trivial; refine And.intro ?_ ?_; exact trivial; exact trivial), trivial⟩), true, r.next.2.next, rfl, rfl, rfl, rfl⟩
    · rintro t h ⟨op, q, ho, hq, rfl, rfl⟩
      rw [← hq, ← ho]
      refine AW.seq ?_; refine AW.seq ?_; refine AW.region (by kernel_rfl) ?_; refine RunL.val (by exact rfl) (loc_loadFA rfl (by exact Cut.all (by exact rfl))) ?_; refine RunL.val (by exact rfl) (loc_moveC rfl) ?_; refine RunL.nil ?_; refine AW.block ?_
      refine AW.gh (gh_lit [(0, .one (.ptr 1000 0)), (1, .one (.int .i64 dp)), (4, .one (.ptr 4 0)), (5, .one (.str q.1)), (6, .one (.bool op)), (17, .agg kindsC), (18, .one (.int .i64 ((0 : Nat) : Int)))] [(1000, .obj (Rd.c q.2)), (4, .obj [.int .i64 0, .nilsl])] [] [] ⟨(WkU.of_eq rfl trivial), (WkU.of_eq rfl trivial), (WkU.of_eq rfl trivial), (by exact WkU.of_eq rfl trivial), (WkU.of_eq rfl trivial), (by exact WkU.of_eq rfl trivial), (WkU.of_eq rfl trivial), trivial⟩ ⟨(by exact Or.inl ⟨_, rfl, WkBlk.refl _⟩), (by exact Or.inl ⟨_, rfl, WkBlk.refl _⟩), trivial⟩ trivial trivial rfl rfl ⟨⟨_, rfl⟩, trivial, ⟨_, rfl⟩, trivial, trivial, (by refine And.intro ?_ ?_; exact trivial; refine And.intro ?_ ?_; exact trivial; refine And.intro ?_ ?_; exact trivial; refine And.intro ?_ ?_; exact trivial; exact trivial), trivial, trivial⟩ ⟨(by refine And.intro ?_ ?_; exact trivial; refine And.intro ?_ ?_; exact trivial; exact trivial), (by refine And.intro ?_ ?_; exact trivial; refine And.intro ?_ ?_; exact trivial; exact trivial), trivial⟩) ?_
      refine AW.loop (fun m t' h => ∃ i : Nat, i ≤ 4 ∧ m = 4 - i ∧ (kFrom q.1 op 4 = kFrom q.1 op (4 - i)) ∧ t' = tOfL [(0, .one (.ptr 1000 0)), (1, .one (.int .i64 dp)), (4, .one (.ptr 4 0)), (5, .one (.str q.1)), (6, .one (.bool op)), (17, .agg kindsC), (18, .one (.int .i64 ((i : Nat) : Int)))] ∧ h = ofL [(1000, .obj (Rd.c q.2)), (4, .obj [.int .i64 0, .nilsl])]) 4 ⟨0, by omega, rfl, rfl, rfl, rfl⟩ ?_
      rintro m t' h ⟨i, hi, rfl, hinv, rfl, rfl⟩
      cases hlt : decide ((i : Int) < 4) with
      | false =>
        have hi4 : i = 4 := by have := of_decide_eq_false hlt; omega
        subst hi4
        have hres : readKq (d + 1) op q = (.any, q.2.fail) := by unfold readKq; simp only; rw [hinv]; rfl
        rw [hres]
        refine AW.seq ?_; refine AW.region (by kernel_rfl) ?_; refine RunL.val (by exact rfl) (loc_binInt rfl rfl rfl) ?_; refine RunL.nil ?_; refine AW.seq ?_; refine AW.condF (by exact rfl) ?_; refine AW.exit ?_; refine AW.seq ?_; refine AW.region (by kernel_rfl) ?_; refine RunL.val (by exact rfl) (loc_moveC rfl) ?_; refine RunL.val (by exact rfl) (loc_nilCheck rfl rfl) ?_; refine RunL.val (by exact rfl) (loc_fieldAddr rfl) ?_; refine RunL.eff (by exact rfl) (loc_store (by exact rfl) (by exact rfl) (by exact rfl) (by exact rfl) (by exact rfl) (by exact Nat.le_of_ble_eq_true rfl) (by exact rfl)) ?_; refine RunL.nil ?_; refine AW.seq ?_; refine AW.region (by kernel_rfl) ?_; refine RunL.val (by exact rfl) (loc_build (by exact rfl) (by exact Cut.all (by exact rfl)) (by exact rfl)) ?_; refine RunL.eff (by exact rfl) (loc_storeW rfl rfl rfl rfl (by exact rfl) (by exact rfl)) ?_; refine RunL.nil ?_; refine AW.ret ?_
        refine rq ?_
        exact ret_ty (by exact .inr rfl) (by exact rfl) (by exact rfl) anyCells (by exact rfl) (by exact wkRow_refl _)
      | true =>
        have hi4 : i < 4 := by have := of_decide_eq_true hlt; omega
        have hg := kinds_get hi4
        refine AW.seq ?_; refine AW.region (by kernel_rfl) ?_; refine RunL.val (by exact rfl) (loc_binInt rfl rfl rfl) ?_; refine RunL.nil ?_; refine AW.seq ?_; refine AW.condTa (by exact rfl) (by assumption) ?_; refine AW.skip ?_; refine AW.seq ?_; refine AW.block ?_; refine AW.seq ?_; refine AW.region (by kernel_rfl) ?_; refine RunL.val (by exact rfl) (loc_moveC rfl) ?_
        refine RunL.val (by exact rfl) (loc_indexA (by exact rfl) (by exact rfl) hi4 hg) ?_
        refine RunL.val (by exact rfl) (loc_assignC rfl) ?_; refine RunL.val (by exact rfl) (loc_assignC rfl) ?_; refine RunL.nil ?_; refine AW.seq ?_; refine AW.seq ?_; refine AW.region (by kernel_rfl) ?_; refine RunL.val (by exact rfl) (loc_moveC rfl) ?_; refine RunL.val (by exact rfl) (loc_moveC rfl) ?_
        refine RunL.val (by exact rfl) (loc_neStr (by exact rfl) (by exact rfl)) ?_
        cases h1 : sEq (kindsL.getD i sNil) q.1 with
        | false =>
          have hk : kAt q.1 op i = false := by unfold kAt; rw [h1]; rfl
          refine RunL.val (by exact rfl) (loc_moveC rfl) ?_; refine RunL.skip (.inl ⟨_, _, rfl, rfl, rfl⟩) ?_; refine RunL.skip (.inl ⟨_, _, rfl, rfl, rfl⟩) ?_; refine RunL.skip (.inl ⟨_, _, rfl, rfl, rfl⟩) ?_; refine RunL.skip (.inl ⟨_, _, rfl, rfl, rfl⟩) ?_; refine RunL.val (by exact rfl) (loc_pickT rfl rfl) ?_; refine RunL.val (by exact rfl) (loc_moveC rfl) ?_; refine RunL.skip (.inl ⟨_, _, rfl, rfl, rfl⟩) ?_; refine RunL.skip (.inl ⟨_, _, rfl, rfl, rfl⟩) ?_; refine RunL.val (by exact rfl) (loc_pickT rfl rfl) ?_; refine RunL.nil ?_; refine AW.condT (by exact rfl) ?_; refine AW.exit ?_; refine AW.region (by kernel_rfl) ?_; refine RunL.val (by exact rfl) (loc_inc rfl rfl (by omega)) ?_; refine RunL.val (by exact rfl) (loc_moveC rfl) ?_; refine RunL.nil ?_
          exact ⟨4 - (i + 1), _, _, by omega, (gh_lit [(0, .one (.ptr 1000 0)), (1, .one (.int .i64 dp)), (4, .one (.ptr 4 0)), (5, .one (.str q.1)), (6, .one (.bool op)), (17, .agg kindsC), (18, .one (.int .i64 (((i + 1) : Nat) : Int)))] [(1000, .obj (Rd.c q.2)), (4, .obj [.int .i64 0, .nilsl])] [] [] ⟨(WkU.of_eq rfl trivial), (WkU.of_eq rfl trivial), (WkU.of_eq rfl trivial), (by exact WkU.of_eq rfl trivial), (WkU.of_eq rfl trivial), (by exact WkU.of_eq rfl trivial), (WkU.of_eq rfl trivial), trivial⟩ ⟨(by exact Or.inl ⟨_, rfl, WkBlk.refl _⟩), (by exact Or.inl ⟨_, rfl, WkBlk.refl _⟩), trivial⟩ trivial trivial rfl rfl ⟨⟨_, rfl⟩, trivial, ⟨_, rfl⟩, trivial, trivial, (by refine And.intro ?_ ?_; exact trivial; refine And.intro ?_ ?_; exact trivial; refine And.intro ?_ ?_; exact trivial; refine And.intro ?_ ?_; exact trivial; exact trivial), trivial, trivial⟩ ⟨(by refine And.intro ?_ ?_; exact trivial; refine And.intro ?_ ?_; exact trivial; exact trivial), (by refine And.intro ?_ ?_; exact trivial; refine And.intro ?_ ?_; exact trivial; exact trivial), trivial⟩), i + 1, by omega, by omega, by rw [hinv, kFrom_step hi4, hk]; rfl, rfl, rfl⟩
        | true =>
          refine RunL.val (by exact rfl) (loc_moveC rfl) ?_; refine RunL.val (by exact .inl ⟨_, _, rfl, rfl, rfl⟩) (loc_moveC rfl) ?_; refine RunL.val (by exact .inl ⟨_, _, rfl, rfl, rfl⟩) (loc_binInt rfl rfl rfl) ?_; refine RunL.val (by exact .inl ⟨_, _, rfl, rfl, rfl⟩) (loc_moveC rfl) ?_
          refine RunL.val (by exact .inl ⟨_, _, rfl, rfl, rfl⟩) (loc_neBool (by exact rfl) (by exact rfl)) ?_
          have hio : ((i : Int) == 3) = (i == 3) := by rw [Bool.eq_iff_iff]; simp; omega
          rw [hio]
          cases h2 : ((i == 3) == op) with
          | false =>
            have hk : kAt q.1 op i = false := by unfold kAt; rw [h1, h2]; rfl
            refine RunL.val (by exact rfl) (loc_pickF rfl rfl) ?_; refine RunL.val (by exact rfl) (loc_moveC rfl) ?_; refine RunL.skip (.inl ⟨_, _, rfl, rfl, rfl⟩) ?_; refine RunL.skip (.inl ⟨_, _, rfl, rfl, rfl⟩) ?_; refine RunL.val (by exact rfl) (loc_pickT rfl rfl) ?_; refine RunL.nil ?_; refine AW.condT (by exact rfl) ?_; refine AW.exit ?_; refine AW.region (by kernel_rfl) ?_; refine RunL.val (by exact rfl) (loc_inc rfl rfl (by omega)) ?_; refine RunL.val (by exact rfl) (loc_moveC rfl) ?_; refine RunL.nil ?_
            exact ⟨4 - (i + 1), _, _, by omega, (gh_lit [(0, .one (.ptr 1000 0)), (1, .one (.int .i64 dp)), (4, .one (.ptr 4 0)), (5, .one (.str q.1)), (6, .one (.bool op)), (17, .agg kindsC), (18, .one (.int .i64 (((i + 1) : Nat) : Int)))] [(1000, .obj (Rd.c q.2)), (4, .obj [.int .i64 0, .nilsl])] [] [] ⟨(WkU.of_eq rfl trivial), (WkU.of_eq rfl trivial), (WkU.of_eq rfl trivial), (by exact WkU.of_eq rfl trivial), (WkU.of_eq rfl trivial), (by exact WkU.of_eq rfl trivial), (WkU.of_eq rfl trivial), trivial⟩ ⟨(by exact Or.inl ⟨_, rfl, WkBlk.refl _⟩), (by exact Or.inl ⟨_, rfl, WkBlk.refl _⟩), trivial⟩ trivial trivial rfl rfl ⟨⟨_, rfl⟩, trivial, ⟨_, rfl⟩, trivial, trivial, (by refine And.intro ?_ ?_; exact trivial; refine And.intro ?_ ?_; exact trivial; refine And.intro ?_ ?_; exact trivial; refine And.intro ?_ ?_; exact trivial; exact trivial), trivial, trivial⟩ ⟨(by refine And.intro ?_ ?_; exact trivial; refine And.intro ?_ ?_; exact trivial; exact trivial), (by refine And.intro ?_ ?_; exact trivial; refine And.intro ?_ ?_; exact trivial; exact trivial), trivial⟩), i + 1, by omega, by omega, by rw [hinv, kFrom_step hi4, hk]; rfl, rfl, rfl⟩
          | true =>
            have hk : kAt q.1 op i = true := by unfold kAt; rw [h1, h2]; rfl
            have hres : readKq (d + 1) op q = if op then (.mk i [(readK d q.2).1, (readK d (readK d q.2).2).1], (readK d (readK d q.2).2).2.close) else (.mk i [], q.2) := by
              unfold readKq; simp only; rw [hinv, kFrom_step hi4, hk]; rfl
            rw [hres]
            cases op with
            | false =>
              refine RunL.val (by exact rfl) (loc_pickF rfl rfl) ?_; refine RunL.val (by exact rfl) (loc_moveC rfl) ?_; refine RunL.val (by exact .inl ⟨_, _, rfl, rfl, rfl⟩) (loc_moveC rfl) ?_; refine RunL.val (by exact .inl ⟨_, _, rfl, rfl, rfl⟩) (loc_binInt rfl rfl rfl) ?_; refine RunL.val (by exact rfl) (loc_pickF rfl rfl) ?_; refine RunL.nil ?_; refine AW.condFa (by exact rfl) (by assumption) ?_; refine AW.skip ?_; refine AW.seq ?_; refine AW.region (by kernel_rfl) ?_; refine RunL.val (by exact rfl) (loc_moveC rfl) ?_; refine RunL.val (by exact rfl) (loc_build (by exact rfl) (by exact Cut.all (by exact rfl)) (by exact rfl)) ?_; refine RunL.mem (by exact rfl) (loc_allocD rfl rfl) ?_; refine RunL.eff (by exact rfl) (loc_storeW rfl rfl rfl rfl (by exact rfl) (by exact rfl)) ?_; refine RunL.nil ?_; refine AW.seq ?_; refine AW.seq ?_; refine AW.region (by kernel_rfl) ?_; refine RunL.val (by exact rfl) (loc_moveC rfl) ?_; refine RunL.nil ?_; refine AW.condF (by exact rfl) ?_; refine AW.skip ?_; refine AW.seq ?_; refine AW.region (by kernel_rfl) ?_; refine RunL.val (by exact rfl) (loc_loadA rfl rfl (by exact Cut.all (by exact rfl))) ?_; refine RunL.eff (by exact rfl) (loc_storeW rfl rfl rfl rfl (by exact rfl) (by exact rfl)) ?_; refine RunL.nil ?_; refine AW.ret ?_
              refine rq ?_
              exact ret_ty (by exact .inr rfl) (by exact rfl) (by exact rfl) leafCells (by exact rfl) (by exact wkRow_refl _)
            | true =>
              refine RunL.val (by exact rfl) (loc_pickF rfl rfl) ?_; refine RunL.val (by exact rfl) (loc_moveC rfl) ?_; refine RunL.val (by exact .inl ⟨_, _, rfl, rfl, rfl⟩) (loc_moveC rfl) ?_; refine RunL.val (by exact .inl ⟨_, _, rfl, rfl, rfl⟩) (loc_binInt rfl rfl rfl) ?_; refine RunL.val (by exact rfl) (loc_pickF rfl rfl) ?_; refine RunL.nil ?_; refine AW.condFa (by exact rfl) (by assumption) ?_; refine AW.skip ?_; refine AW.seq ?_; refine AW.region (by kernel_rfl) ?_; refine RunL.val (by exact rfl) (loc_moveC rfl) ?_; refine RunL.val (by exact rfl) (loc_build (by exact rfl) (by exact Cut.all (by exact rfl)) (by exact rfl)) ?_; refine RunL.mem (by exact rfl) (loc_allocD rfl rfl) ?_; refine RunL.eff (by exact rfl) (loc_storeW rfl rfl rfl rfl (by exact rfl) (by exact rfl)) ?_; refine RunL.nil ?_; refine AW.seq ?_; refine AW.seq ?_; refine AW.region (by kernel_rfl) ?_; refine RunL.val (by exact rfl) (loc_moveC rfl) ?_; refine RunL.nil ?_; refine AW.condT (by exact rfl) ?_; refine AW.seq ?_; refine AW.region (by kernel_rfl) ?_; refine RunL.val (by exact rfl) (loc_moveC rfl) ?_; refine RunL.val (by exact rfl) (loc_moveC rfl) ?_; refine RunL.val (by exact rfl) (loc_addB rfl rfl (by omega)) ?_
              refine RunL.many (by exact rfl) (loc_funE (ih2 (q.2)) rfl (by refine ⟨_, _, rfl, (by exact LeU.of_eq rfl trivial), (by exact Exists.intro _ rfl), ?_⟩; refine ⟨_, _, rfl, (by exact LeU.of_eq rfl trivial), (by exact trivial), ?_⟩; exact rfl) (by exact ⟨rfl, trivial⟩) (by exact rfl) (by simp [namesL]) (by exact ⟨⟨trivial, trivial, trivial⟩, trivial⟩)) ?_
              refine RunL.val (by exact rfl) (loc_moveC rfl) ?_; refine RunL.val (by exact rfl) (loc_moveC rfl) ?_; refine RunL.val (by exact rfl) (loc_addB rfl rfl (by omega)) ?_
              refine RunL.many (by exact rfl) (loc_funE (ih2 ((readK d q.2).2)) rfl (by refine ⟨_, _, rfl, (by exact LeU.of_eq rfl trivial), (by exact Exists.intro _ rfl), ?_⟩; refine ⟨_, _, rfl, (by exact LeU.of_eq rfl trivial), (by exact trivial), ?_⟩; exact rfl) (by exact ⟨rfl, trivial⟩) (by exact rfl) (by simp [namesL]) (by exact ⟨⟨trivial, trivial, trivial⟩, trivial⟩)) ?_
              refine RunL.val (by exact rfl) (loc_sliceLit (by exact rfl) (by exact rfl) (by decide) (by decide) (by exact RowsOf.cons (by exact rfl) (RowsOf.cons (by exact rfl) RowsOf.nil)) (by exact AllP.cons (by exact rfl) (AllP.cons (by exact rfl) AllP.nil)) (by exact rfl)) ?_; refine RunL.val (by exact rfl) (loc_fieldAddr rfl) ?_; refine RunL.eff (by exact rfl) (loc_store (by exact rfl) (by exact rfl) (by exact rfl) (by exact rfl) (by exact rfl) (by exact Nat.le_of_ble_eq_true rfl) (by exact rfl)) ?_; refine RunL.nil ?_; refine AW.region (by kernel_rfl) ?_; refine RunL.val (by exact rfl) (loc_moveC rfl) ?_; refine RunL.val (by exact rfl) (loc_moveC rfl) ?_
              refine RunL.many (by exact rfl) (loc_funE (next_a ((readK d (readK d q.2).2).2)) rfl (by refine ⟨_, _, rfl, (by exact LeU.of_eq rfl trivial), (by exact Exists.intro _ rfl), ?_⟩; exact rfl) (by exact ⟨rfl, trivial⟩) (by exact rfl) (by simp [namesL]) (by exact ⟨⟨trivial, trivial, trivial⟩, trivial⟩)) ?_
              skip
              refine RunL.val (by exact rfl) (loc_neStr (b := sRp) (by exact rfl) (by exact rfl)) ?_
              cases hc : sEq (readK d (readK d q.2).2).2.next.1 sRp with
              | false =>
                refine RunL.val (by exact rfl) (loc_moveC rfl) ?_; refine RunL.skip (.inl ⟨_, _, rfl, rfl, rfl⟩) ?_; refine RunL.skip (.inl ⟨_, _, rfl, rfl, rfl⟩) ?_; refine RunL.skip (.inl ⟨_, _, rfl, rfl, rfl⟩) ?_; refine RunL.skip (.inl ⟨_, _, rfl, rfl, rfl⟩) ?_; refine RunL.val (by exact rfl) (loc_pickT rfl rfl) ?_; refine RunL.val (by exact rfl) (loc_nilCheck rfl rfl) ?_; refine RunL.val (by exact rfl) (loc_fieldAddr rfl) ?_; refine RunL.eff (by exact rfl) (loc_store (by exact rfl) (by exact rfl) (by exact rfl) (by exact rfl) (by exact rfl) (by exact Nat.le_of_ble_eq_true rfl) (by exact rfl)) ?_; refine RunL.nil ?_; refine AW.seq ?_; refine AW.region (by kernel_rfl) ?_; refine RunL.val (by exact rfl) (loc_loadA rfl rfl (by exact Cut.all (by exact rfl))) ?_; refine RunL.eff (by exact rfl) (loc_storeW rfl rfl rfl rfl (by exact rfl) (by exact rfl)) ?_; refine RunL.nil ?_; refine AW.ret ?_
                refine rq ?_
                exact ret_ty (by exact .inr rfl) (by exact rfl) (by exact rfl) pairCells (by exact rfl) (by unfold Rd.close; rw [hc]; exact wkRow_refl _)
              | true =>
                refine RunL.val (by exact rfl) (loc_moveC rfl) ?_; refine RunL.val (by exact .inl ⟨_, _, rfl, rfl, rfl⟩) (loc_moveC rfl) ?_; refine RunL.val (by exact .inl ⟨_, _, rfl, rfl, rfl⟩) (loc_nilCheck rfl rfl) ?_; refine RunL.val (by exact .inl ⟨_, _, rfl, rfl, rfl⟩) (loc_fieldAddr rfl) ?_; refine RunL.val (by exact .inl ⟨_, _, rfl, rfl, rfl⟩) (loc_load rfl rfl rfl) ?_; refine RunL.val (by exact rfl) (loc_pickF rfl rfl) ?_; refine RunL.val (by exact rfl) (loc_nilCheck rfl rfl) ?_; refine RunL.val (by exact rfl) (loc_fieldAddr rfl) ?_; refine RunL.eff (by exact rfl) (loc_store (by exact rfl) (by exact rfl) (by exact rfl) (by exact rfl) (by exact rfl) (by exact Nat.le_of_ble_eq_true rfl) (by exact rfl)) ?_; refine RunL.nil ?_; refine AW.seq ?_; refine AW.region (by kernel_rfl) ?_; refine RunL.val (by exact rfl) (loc_loadA rfl rfl (by exact Cut.all (by exact rfl))) ?_; refine RunL.eff (by exact rfl) (loc_storeW rfl rfl rfl rfl (by exact rfl) (by exact rfl)) ?_; refine RunL.nil ?_; refine AW.ret ?_
                refine rq ?_
                exact ret_ty (by exact .inr rfl) (by exact rfl) (by exact rfl) pairCells (by exact rfl) (by unfold Rd.close; rw [hc]; exact wkRow_refl _)
end Go.Proofs.YtnflnbdlgdjfmabDoor
