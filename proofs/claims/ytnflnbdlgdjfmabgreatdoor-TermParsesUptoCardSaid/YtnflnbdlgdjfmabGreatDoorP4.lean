/-
  DERIVED: THE SHELF's CONTRACTS AT THIS DUMP, IN PLAIN WORDS (tools/lay-plain.mjs out of 'TryzShelf.lean', which tools/lay-shelf.mjs wrote): THE SAME DECLARATIONS UNDER THE SAME NAMES: 'import', 'namespace', 'open', 'def', 'theorem' AND NOTHING ELSE: no command of the shelf's: FOR A HAND-IN. Each laying: the table of numbers ('.._ren') and one theorem, a field a fact of the dump's own or the kernel
  Contracts of what only makes memory, in this frame. Conditions: those typed in each theorem.
  What Go's library answers, as contracts of this frame. Conditions: those typed in each theorem.
  What the reader reads, on words. Conditions: those typed in each theorem.
  The text of a term; read again it is the term. Conditions: those typed in each theorem.
  Operations on texts: a byte, a part, the bytes of one. Conditions: those typed in each theorem.
  What the reference reads: trees of words, and terms of trees; it reads what the reader reads. Conditions: those typed in each theorem.
  strings.IndexAny at a text of whatever bytes. Conditions: those typed in each theorem.
  What Go's library answers of texts that are cut, as contracts of this frame. Conditions: those typed in each theorem.
  What single operations do, kind by kind (11): division, conversions; strings.Fields of a constant, strings.Join. Conditions: those typed in each theorem.
  The walks of next, number and kind. Conditions: those typed in each theorem.
  The walk of kind. Conditions: those typed in each theorem.
-/
import Derived.Test.YtnflnbdlgdjfmabGreatDoorP3
import Derived.Shelf.Strings.Builder1
import Derived.Shelf.Strings.Builder2
import Derived.Shelf.Strings.Trim
import Derived.Shelf.Small.Utf8
import Derived.Shelf.Small.Strs
import Derived.Shelf.Strconv.Atoi
import Derived.Shelf.Strconv.Itoa0
import Derived.Shelf.Strconv.Itoa1
import Derived.Shelf.LaysM
import Derived.Shelf.Strconv.Itoa2
import Derived.Shelf.Strconv.Itoa3
import Derived.Shelf.Strconv.AtoiErrFast
import Derived.Shelf.Strconv.ParseIntEmpty
import Derived.Shelf.Strconv.AtoiFail
import Derived.Shelf.Strconv.Clone
import Derived.Shelf.Strconv.SyntaxError
import Derived.Shelf.LaysC
import Derived.Shelf.Strconv.ToError
import Derived.Shelf.Strconv.Lower
import Derived.Shelf.Strconv.ParseUint10
import Derived.Shelf.Strconv.ParseUint10Empty
import Derived.Shelf.Strconv.ParseUint10Any
import Derived.Shelf.Strconv.ParseInt10
import Derived.Shelf.Strconv.AtoiLong
import Derived.Shelf.Strconv.AtoiInnerAll
import Derived.Shelf.Strconv.RangeError
import Derived.Shelf.Strconv.ToErrorRange
import Derived.Shelf.Strconv.AtoiAll
import Derived.Shelf.Strconv.ErrVarAll
import Derived.Shelf.Strings.Search1
import Derived.Shelf.Strings.Search2
import Derived.Shelf.Strings.Search3
import Derived.Shelf.Strings.Count
import Derived.Shelf.Strings.Shaped
import Derived.Shelf.Strings.Prefix
import Derived.Shelf.Strings.Split
import Derived.Shelf.Strings.Fields
import Derived.Shelf.Strings.Replace
import Derived.Shelf.Unicode.Latin
import Derived.Shelf.Strings.Runes
import Derived.Shelf.Strings.IndexAny
import Derived.Shelf.Strings.AsciiSet
import Derived.Shelf.Strings.IndexAnyAll
import Derived.Shelf.Unicode.DecodeSlow
import Derived.Shelf.Unicode.DecodeAny
import Derived.Shelf.Unicode.Is16White
import Derived.Shelf.Unicode.IsSpaceAny
import Derived.Shelf.Unicode.DecodeLast
import Derived.Shelf.Unicode.Is16WhiteD
import Derived.Shelf.Unicode.IsSpaceAnyD
import Derived.Shelf.Strings.FieldsAny
import Derived.Shelf.Strings.FieldsFuncAny
import Derived.Shelf.Unicode.Is16Any
import Derived.Shelf.Unicode.Is32Any
import Derived.Shelf.Unicode.ExclAny
import Derived.Shelf.Strings.FieldsFuncGrows
import Derived.Test.YtnflnbdlgdjfmabGreatDoorProg
import Derived.Lib.SmallJoins
import Derived.Lib.LaidTab
import Derived.Lib.ConvBytes
import Derived.Scope
import Derived.Lib.SlTrimSet
import Derived.Laws.Runes
import Derived.Lib.OthersKept
import Derived.Shelf.Strings.SlTrimAscii
import Derived.Laws.BytesArg
import Derived.Lib.JoinLaws
namespace Go.Proofs
open Go.Shelf
open Go.RowKit in
open Go.RowKit in
open Go.RowKit in
open Go.RowKit in
open Go.RowKit in
open Go.RowKit in
open Go.RowKit in
def Tryz.lays161_ren : Go.Shelf.Ren := ⟨fun | 161 => 50 | 231 => 87 | 227 => 88 | 233 => 89 | 235 => 90 | 228 => 93 | 197 => 82 | 151 => 120 | 260 => 116 | 152 => 91 | 137 => 121 | 119 => 122 | 224 => 123 | 225 => 124 | 217 => 132 | 266 => 143 | n => n, fun | 9 => 9 | 4 => 4 | 3 => 3 | 5 => 5 | 117 => 141 | 116 => 140 | 0 => 0 | 124 => 144 | 105 => 134 | 21 => 21 | 119 => 148 | 46 => 166 | 139 => 175 | 138 => 174 | n => n, fun | 3 => 6 | 4 => 7 | n => n⟩
theorem Tryz.lays161 : Go.Proofs.Lays.n161 Tryz.prog Tryz.lays161_ren := {
  mixed := by kernel_rfl
  f119 := Tryz.func122.trans (congrArg some (by kernel_rfl))
  f137 := Tryz.func121.trans (congrArg some (by kernel_rfl))
  f151 := Tryz.func120.trans (congrArg some (by kernel_rfl))
  f152 := Tryz.func91.trans (congrArg some (by kernel_rfl))
  f161 := Tryz.func50.trans (congrArg some (by kernel_rfl))
  f197 := Tryz.func82.trans (congrArg some (by kernel_rfl))
  f217 := Tryz.func132.trans (congrArg some (by kernel_rfl))
  f224 := Tryz.func123.trans (congrArg some (by kernel_rfl))
  f225 := Tryz.func124.trans (congrArg some (by kernel_rfl))
  f227 := Tryz.func88.trans (congrArg some (by kernel_rfl))
  f228 := Tryz.func93.trans (congrArg some (by kernel_rfl))
  f231 := Tryz.func87.trans (congrArg some (by kernel_rfl))
  f233 := Tryz.func89.trans (congrArg some (by kernel_rfl))
  f235 := Tryz.func90.trans (congrArg some (by kernel_rfl))
  f260 := Tryz.func116.trans (congrArg some (by kernel_rfl))
  f266 := Tryz.func143.trans (congrArg some (by kernel_rfl))
  t0 := Tryz.underlying0
  a0 := Tryz.isAgg0
  z0 := Tryz.sizeOf0
  v0 := Tryz.zeroValue0
  t3 := Tryz.underlying3
  a3 := Tryz.isAgg3
  z3 := Tryz.sizeOf3
  v3 := Tryz.zeroValue3
  t4 := Tryz.underlying4
  a4 := Tryz.isAgg4
  z4 := Tryz.sizeOf4
  v4 := Tryz.zeroValue4
  t5 := Tryz.underlying5
  a5 := Tryz.isAgg5
  z5 := Tryz.sizeOf5
  v5 := Tryz.zeroValue5
  t9 := Tryz.underlying9
  a9 := Tryz.isAgg9
  z9 := Tryz.sizeOf9
  v9 := Tryz.zeroValue9
  t21 := Tryz.underlying21
  a21 := Tryz.isAgg21
  z21 := Tryz.sizeOf21
  v21 := Tryz.zeroValue21
  t46 := Tryz.underlying166
  a46 := Tryz.isAgg166
  z46 := Tryz.sizeOf166
  v46 := Tryz.zeroValue166
  t105 := Tryz.underlying134
  a105 := Tryz.isAgg134
  z105 := Tryz.sizeOf134
  v105 := Tryz.zeroValue134
  t116 := Tryz.underlying140
  a116 := Tryz.isAgg140
  z116 := Tryz.sizeOf140
  t117 := Tryz.underlying141
  a117 := Tryz.isAgg141
  z117 := Tryz.sizeOf141
  v117 := Tryz.zeroValue141
  t119 := Tryz.underlying148
  a119 := Tryz.isAgg148
  z119 := Tryz.sizeOf148
  t124 := Tryz.underlying144
  a124 := Tryz.isAgg144
  z124 := Tryz.sizeOf144
  v124 := Tryz.zeroValue144
  t138 := Tryz.underlying174
  a138 := Tryz.isAgg174
  z138 := Tryz.sizeOf174
  v138 := Tryz.zeroValue174
  t139 := Tryz.underlying175
  a139 := Tryz.isAgg175
  z139 := Tryz.sizeOf175
  v139 := Tryz.zeroValue175
  g3 := by kernel_rfl
  g4 := by kernel_rfl }
open Go.RowKit in
def Tryz.lays160_ren : Go.Shelf.Ren := ⟨fun | 160 => 95 | 232 => 126 | 231 => 87 | 227 => 88 | 234 => 127 | 233 => 89 | 236 => 128 | 235 => 90 | 228 => 93 | 271 => 140 | 151 => 120 | 197 => 82 | 120 => 152 | 152 => 91 | 260 => 116 | 137 => 121 | 119 => 122 | 224 => 123 | 225 => 124 | 217 => 132 | 266 => 143 | n => n, fun | 9 => 9 | 4 => 4 | 3 => 3 | 5 => 5 | 117 => 141 | 116 => 140 | 0 => 0 | 124 => 144 | 21 => 21 | 105 => 134 | 46 => 166 | 119 => 148 | 139 => 175 | 138 => 174 | n => n, fun | 3 => 6 | 4 => 7 | n => n⟩
theorem Tryz.lays160 : Go.Proofs.Lays.n160 Tryz.prog Tryz.lays160_ren := {
  mixed := by kernel_rfl
  f119 := Tryz.func122.trans (congrArg some (by kernel_rfl))
  f120 := Tryz.func152.trans (congrArg some (by kernel_rfl))
  f137 := Tryz.func121.trans (congrArg some (by kernel_rfl))
  f151 := Tryz.func120.trans (congrArg some (by kernel_rfl))
  f152 := Tryz.func91.trans (congrArg some (by kernel_rfl))
  f160 := Tryz.func95.trans (congrArg some (by kernel_rfl))
  f197 := Tryz.func82.trans (congrArg some (by kernel_rfl))
  f217 := Tryz.func132.trans (congrArg some (by kernel_rfl))
  f224 := Tryz.func123.trans (congrArg some (by kernel_rfl))
  f225 := Tryz.func124.trans (congrArg some (by kernel_rfl))
  f227 := Tryz.func88.trans (congrArg some (by kernel_rfl))
  f228 := Tryz.func93.trans (congrArg some (by kernel_rfl))
  f231 := Tryz.func87.trans (congrArg some (by kernel_rfl))
  f232 := Tryz.func126.trans (congrArg some (by kernel_rfl))
  f233 := Tryz.func89.trans (congrArg some (by kernel_rfl))
  f234 := Tryz.func127.trans (congrArg some (by kernel_rfl))
  f235 := Tryz.func90.trans (congrArg some (by kernel_rfl))
  f236 := Tryz.func128.trans (congrArg some (by kernel_rfl))
  f260 := Tryz.func116.trans (congrArg some (by kernel_rfl))
  f266 := Tryz.func143.trans (congrArg some (by kernel_rfl))
  f271 := Tryz.func140.trans (congrArg some (by kernel_rfl))
  t0 := Tryz.underlying0
  a0 := Tryz.isAgg0
  z0 := Tryz.sizeOf0
  v0 := Tryz.zeroValue0
  t3 := Tryz.underlying3
  a3 := Tryz.isAgg3
  z3 := Tryz.sizeOf3
  v3 := Tryz.zeroValue3
  t4 := Tryz.underlying4
  a4 := Tryz.isAgg4
  z4 := Tryz.sizeOf4
  v4 := Tryz.zeroValue4
  t5 := Tryz.underlying5
  a5 := Tryz.isAgg5
  z5 := Tryz.sizeOf5
  v5 := Tryz.zeroValue5
  t9 := Tryz.underlying9
  a9 := Tryz.isAgg9
  z9 := Tryz.sizeOf9
  v9 := Tryz.zeroValue9
  t21 := Tryz.underlying21
  a21 := Tryz.isAgg21
  z21 := Tryz.sizeOf21
  v21 := Tryz.zeroValue21
  t46 := Tryz.underlying166
  a46 := Tryz.isAgg166
  z46 := Tryz.sizeOf166
  v46 := Tryz.zeroValue166
  t105 := Tryz.underlying134
  a105 := Tryz.isAgg134
  z105 := Tryz.sizeOf134
  v105 := Tryz.zeroValue134
  t116 := Tryz.underlying140
  a116 := Tryz.isAgg140
  z116 := Tryz.sizeOf140
  t117 := Tryz.underlying141
  a117 := Tryz.isAgg141
  z117 := Tryz.sizeOf141
  v117 := Tryz.zeroValue141
  t119 := Tryz.underlying148
  a119 := Tryz.isAgg148
  z119 := Tryz.sizeOf148
  t124 := Tryz.underlying144
  a124 := Tryz.isAgg144
  z124 := Tryz.sizeOf144
  v124 := Tryz.zeroValue144
  t138 := Tryz.underlying174
  a138 := Tryz.isAgg174
  z138 := Tryz.sizeOf174
  v138 := Tryz.zeroValue174
  t139 := Tryz.underlying175
  a139 := Tryz.isAgg175
  z139 := Tryz.sizeOf175
  v139 := Tryz.zeroValue175
  g3 := by kernel_rfl
  g4 := by kernel_rfl }
open Go.RowKit in
def Tryz.lays119_ren : Go.Shelf.Ren := ⟨fun | 119 => 122 | n => n, fun | 21 => 21 | 4 => 4 | n => n, fun | n => n⟩
theorem Tryz.lays119 : Go.Proofs.Lays.n119 Tryz.prog Tryz.lays119_ren := {
  mixed := by kernel_rfl
  f119 := Tryz.func122.trans (congrArg some (by kernel_rfl))
  t4 := Tryz.underlying4
  a4 := Tryz.isAgg4
  z4 := Tryz.sizeOf4
  v4 := Tryz.zeroValue4
  t21 := Tryz.underlying21
  a21 := Tryz.isAgg21
  z21 := Tryz.sizeOf21
  v21 := Tryz.zeroValue21 }
/-- utf8.ValidRune: "ValidRune reports whether r can be legally encoded as UTF-8. Code points that are out of range or a surrogate half are illegal.": IT RETURNS 'Lib.validRune r'; the world is as it was. (LAID: no walk: one application.) -/
theorem Tryz.utf8_ValidRune (r : Int) (w : World) :
    Calls Tryz.prog 122 #[.int .i32 r] w fun e w' => e = .returned (.bool (Lib.validRune r)) ∧ w' = w := Any.utf8_ValidRune Tryz.lays119 r w
def Tryz.lays137_ren : Go.Shelf.Ren := ⟨fun | 137 => 121 | 217 => 132 | 266 => 143 | n => n, fun | 9 => 9 | 5 => 5 | 3 => 3 | n => n, fun | n => n⟩
theorem Tryz.lays137 : Go.Proofs.Lays.n137 Tryz.prog Tryz.lays137_ren := {
  mixed := by kernel_rfl
  f137 := Tryz.func121.trans (congrArg some (by kernel_rfl))
  f217 := Tryz.func132.trans (congrArg some (by kernel_rfl))
  f266 := Tryz.func143.trans (congrArg some (by kernel_rfl))
  t3 := Tryz.underlying3
  a3 := Tryz.isAgg3
  z3 := Tryz.sizeOf3
  v3 := Tryz.zeroValue3
  t5 := Tryz.underlying5
  a5 := Tryz.isAgg5
  z5 := Tryz.sizeOf5
  v5 := Tryz.zeroValue5
  t9 := Tryz.underlying9
  a9 := Tryz.isAgg9
  z9 := Tryz.sizeOf9
  v9 := Tryz.zeroValue9 }
open Go.RowKit in
/-- strings.IndexByte: "IndexByte returns the index of the first instance of c in s, or -1 if c is not present in s.": IT RETURNS 'Lib.indexByte s c'; the world is as it was. (LAID: no walk: one application.) -/
theorem Tryz.strings_IndexByte (s : ByteArray) (c : Int) (w : World) :
    Calls Tryz.prog 121 #[.string s, .int .u8 c] w fun e w' => e = .returned (.int .i64 (Lib.indexByte s.data.toList c.toNat.toUInt8)) ∧ w' = w := Any.strings_IndexByte Tryz.lays137 s c w
open Go.RowKit in
open Go.RowKit in
open Go.Lib in
open Go.Lib in
open Go.Lib in
open Go.Lib in
open Go.RowKit Go.Sort Go.Lib in
open Go.RowKit Go.Sort Go.Lib in
open Go.RowKit Go.Sort Go.Lib in
open Go.RowKit Go.Sort Go.Lib in
open Go.RowKit Go.Sort Go.Lib in
def Tryz.laysM171_ren : Go.Shelf.Ren := ⟨fun | 171 => 86 | 243 => 119 | 246 => 139 | 283 => 148 | 284 => 149 | 285 => 150 | 286 => 151 | 129 => 156 | 317 => 155 | 318 => 157 | 319 => 158 | 320 => 159 | 337 => 160 | 338 => 161 | n => n, fun | 3 => 3 | 9 => 9 | 2 => 2 | 4 => 4 | 171 => 203 | 0 => 0 | 53 => 196 | 37 => 126 | 5 => 5 | 173 => 206 | 212 => 215 | 51 => 167 | 20 => 20 | 213 => 216 | 46 => 166 | 232 => 219 | 233 => 220 | n => n, fun | 17 => 10 | 18 => 11 | 19 => 12 | n => n⟩
theorem Tryz.laysM171 : Go.Proofs.LaysM.n171 Tryz.prog Tryz.laysM171_ren := {
  mixed := by kernel_rfl
  f129 := Tryz.func156.trans (congrArg some (by kernel_rfl))
  f171 := Tryz.func86.trans (congrArg some (by kernel_rfl))
  f243 := Tryz.func119.trans (congrArg some (by kernel_rfl))
  f246 := Tryz.func139.trans (congrArg some (by kernel_rfl))
  f283 := Tryz.func148.trans (congrArg some (by kernel_rfl))
  f284 := Tryz.func149.trans (congrArg some (by kernel_rfl))
  f285 := Tryz.func150.trans (congrArg some (by kernel_rfl))
  f286 := Tryz.func151.trans (congrArg some (by kernel_rfl))
  f317 := Tryz.func155.trans (congrArg some (by kernel_rfl))
  f318 := Tryz.func157.trans (congrArg some (by kernel_rfl))
  f319 := Tryz.func158.trans (congrArg some (by kernel_rfl))
  f320 := Tryz.func159.trans (congrArg some (by kernel_rfl))
  f337 := Tryz.func160.trans (congrArg some (by kernel_rfl))
  f338 := Tryz.func161.trans (congrArg some (by kernel_rfl))
  t0 := Tryz.underlying0
  a0 := Tryz.isAgg0
  z0 := Tryz.sizeOf0
  v0 := Tryz.zeroValue0
  t2 := Tryz.underlying2
  a2 := Tryz.isAgg2
  z2 := Tryz.sizeOf2
  v2 := Tryz.zeroValue2
  t3 := Tryz.underlying3
  a3 := Tryz.isAgg3
  z3 := Tryz.sizeOf3
  v3 := Tryz.zeroValue3
  t4 := Tryz.underlying4
  a4 := Tryz.isAgg4
  z4 := Tryz.sizeOf4
  v4 := Tryz.zeroValue4
  t5 := Tryz.underlying5
  a5 := Tryz.isAgg5
  z5 := Tryz.sizeOf5
  v5 := Tryz.zeroValue5
  t9 := Tryz.underlying9
  a9 := Tryz.isAgg9
  z9 := Tryz.sizeOf9
  v9 := Tryz.zeroValue9
  t20 := Tryz.underlying20
  a20 := Tryz.isAgg20
  z20 := Tryz.sizeOf20
  v20 := Tryz.zeroValue20
  t37 := Tryz.underlying126
  a37 := Tryz.isAgg126
  z37 := Tryz.sizeOf126
  v37 := Tryz.zeroValue126
  t46 := Tryz.underlying166
  a46 := Tryz.isAgg166
  z46 := Tryz.sizeOf166
  v46 := Tryz.zeroValue166
  t51 := Tryz.underlying167
  a51 := Tryz.isAgg167
  z51 := Tryz.sizeOf167
  v51 := Tryz.zeroValue167
  t53 := Tryz.underlying196
  a53 := Tryz.isAgg196
  z53 := Tryz.sizeOf196
  v53 := Tryz.zeroValue196
  t171 := Tryz.underlying203
  a171 := Tryz.isAgg203
  z171 := Tryz.sizeOf203
  v171 := Tryz.zeroValue203
  t173 := Tryz.underlying206
  a173 := Tryz.isAgg206
  z173 := Tryz.sizeOf206
  v173 := Tryz.zeroValue206
  t212 := Tryz.underlying215
  a212 := Tryz.isAgg215
  z212 := Tryz.sizeOf215
  v212 := Tryz.zeroValue215
  t213 := Tryz.underlying216
  a213 := Tryz.isAgg216
  z213 := Tryz.sizeOf216
  t232 := Tryz.underlying219
  a232 := Tryz.isAgg219
  z232 := Tryz.sizeOf219
  v232 := Tryz.zeroValue219
  t233 := Tryz.underlying220
  a233 := Tryz.isAgg220
  z233 := Tryz.sizeOf220
  v233 := Tryz.zeroValue220
  g17 := by kernel_rfl
  g18 := by kernel_rfl
  g19 := by kernel_rfl
  i0 := by kernel_rfl
  i2 := by kernel_rfl
  i3 := by kernel_rfl
  i4 := by kernel_rfl
  i5 := by kernel_rfl
  i9 := by kernel_rfl
  i20 := by kernel_rfl
  i37 := by kernel_rfl
  i46 := by kernel_rfl
  i51 := by kernel_rfl
  i53 := by kernel_rfl
  i171 := by kernel_rfl
  i173 := by kernel_rfl
  i212 := by kernel_rfl
  i232 := by kernel_rfl
  i233 := by kernel_rfl
  m17 := by kernel_rfl
  m18 := by kernel_rfl
  m19 := by kernel_rfl }
open Go.RowKit Go.Sort Go.Lib in
/-- strconv.Itoa: "Itoa is equivalent to FormatInt(int64(i), 10).": i's DECIMAL NUMERAL ('Lib.itoa': a '-' where i is negative, then the digits), FOR EVERY int. The world behind the call: the world before it, new blocks behind the heap (the library's 'var a [24]byte'), draws. (LAID: no walk: one application.) -/
theorem Tryz.strconv_Itoa (n : Int) (h0 : -9223372036854775808 ≤ n) (h1 : n ≤ 9223372036854775807) (w : World) (htab : Lib.TabIs Tryz.prog w "internal/strconv.uint64pow10" .u64 Lib.pow10Tab) :
    Calls Tryz.prog 86 #[.int .i64 n] w fun e w' => e = .returned (.string ⟨(Lib.itoa n).toArray⟩) ∧ ∃ k os, w' = grow (w.drewN k) os := Any.strconv_Itoa Tryz.laysM171 n h0 h1 w htab
open Go.RowKit Go.Sort Go.Lib in
open Go.RowKit in
open Go.RowKit in
open Go.RowKit in
open Go.RowKit in
open Go.RowKit in
open Go.RowKit in
open Go.RowKit in
open Go.RowKit in
open Go.RowKit in
open Go.RowKit in
open Go.RowKit in
open Go.RowKit in
open Go.RowKit in
open Go.RowKit in
open Go.RowKit in
open Go.RowKit in
def Tryz.laysC172_ren : Go.Shelf.Ren := ⟨fun | 172 => 85 | 244 => 117 | 245 => 118 | 247 => 134 | 279 => 135 | 280 => 136 | 281 => 137 | 282 => 138 | 287 => 145 | 316 => 146 | 171 => 86 | 205 => 147 | 321 => 153 | 322 => 154 | 243 => 119 | 246 => 139 | 283 => 148 | 284 => 149 | 285 => 150 | 286 => 151 | 129 => 156 | 317 => 155 | 318 => 157 | 319 => 158 | 320 => 159 | 337 => 160 | 338 => 161 | n => n, fun | 9 => 9 | 3 => 3 | 75 => 131 | 76 => 132 | 4 => 4 | 5 => 5 | 167 => 176 | 37 => 126 | 0 => 0 | 85 => 177 | 2 => 2 | 168 => 179 | 53 => 196 | 175 => 197 | 46 => 166 | 210 => 201 | 127 => 163 | 145 => 213 | 143 => 211 | 21 => 21 | 171 => 203 | 173 => 206 | 212 => 215 | 51 => 167 | 20 => 20 | 213 => 216 | 232 => 219 | 233 => 220 | 80 => 92 | n => n, fun | 15 => 8 | 16 => 9 | 17 => 10 | 18 => 11 | 19 => 12 | n => n⟩
theorem Tryz.laysC172 : Go.Proofs.LaysC.n172 Tryz.prog Tryz.laysC172_ren := {
  mixed := by kernel_rfl
  f129 := Tryz.func156.trans (congrArg some (by kernel_rfl))
  f171 := Tryz.func86.trans (congrArg some (by kernel_rfl))
  f172 := Tryz.func85.trans (congrArg some (by kernel_rfl))
  f205 := Tryz.func147.trans (congrArg some (by kernel_rfl))
  f243 := Tryz.func119.trans (congrArg some (by kernel_rfl))
  f244 := Tryz.func117.trans (congrArg some (by kernel_rfl))
  f245 := Tryz.func118.trans (congrArg some (by kernel_rfl))
  f246 := Tryz.func139.trans (congrArg some (by kernel_rfl))
  f247 := Tryz.func134.trans (congrArg some (by kernel_rfl))
  f279 := Tryz.func135.trans (congrArg some (by kernel_rfl))
  f280 := Tryz.func136.trans (congrArg some (by kernel_rfl))
  f281 := Tryz.func137.trans (congrArg some (by kernel_rfl))
  f282 := Tryz.func138.trans (congrArg some (by kernel_rfl))
  f283 := Tryz.func148.trans (congrArg some (by kernel_rfl))
  f284 := Tryz.func149.trans (congrArg some (by kernel_rfl))
  f285 := Tryz.func150.trans (congrArg some (by kernel_rfl))
  f286 := Tryz.func151.trans (congrArg some (by kernel_rfl))
  f287 := Tryz.func145.trans (congrArg some (by kernel_rfl))
  f316 := Tryz.func146.trans (congrArg some (by kernel_rfl))
  f317 := Tryz.func155.trans (congrArg some (by kernel_rfl))
  f318 := Tryz.func157.trans (congrArg some (by kernel_rfl))
  f319 := Tryz.func158.trans (congrArg some (by kernel_rfl))
  f320 := Tryz.func159.trans (congrArg some (by kernel_rfl))
  f321 := Tryz.func153.trans (congrArg some (by kernel_rfl))
  f322 := Tryz.func154.trans (congrArg some (by kernel_rfl))
  f337 := Tryz.func160.trans (congrArg some (by kernel_rfl))
  f338 := Tryz.func161.trans (congrArg some (by kernel_rfl))
  t0 := Tryz.underlying0
  a0 := Tryz.isAgg0
  z0 := Tryz.sizeOf0
  v0 := Tryz.zeroValue0
  t2 := Tryz.underlying2
  a2 := Tryz.isAgg2
  z2 := Tryz.sizeOf2
  v2 := Tryz.zeroValue2
  t3 := Tryz.underlying3
  a3 := Tryz.isAgg3
  z3 := Tryz.sizeOf3
  v3 := Tryz.zeroValue3
  t4 := Tryz.underlying4
  a4 := Tryz.isAgg4
  z4 := Tryz.sizeOf4
  v4 := Tryz.zeroValue4
  t5 := Tryz.underlying5
  a5 := Tryz.isAgg5
  z5 := Tryz.sizeOf5
  v5 := Tryz.zeroValue5
  t9 := Tryz.underlying9
  a9 := Tryz.isAgg9
  z9 := Tryz.sizeOf9
  v9 := Tryz.zeroValue9
  t20 := Tryz.underlying20
  a20 := Tryz.isAgg20
  z20 := Tryz.sizeOf20
  v20 := Tryz.zeroValue20
  t21 := Tryz.underlying21
  a21 := Tryz.isAgg21
  z21 := Tryz.sizeOf21
  v21 := Tryz.zeroValue21
  t37 := Tryz.underlying126
  a37 := Tryz.isAgg126
  z37 := Tryz.sizeOf126
  v37 := Tryz.zeroValue126
  t46 := Tryz.underlying166
  a46 := Tryz.isAgg166
  z46 := Tryz.sizeOf166
  v46 := Tryz.zeroValue166
  t51 := Tryz.underlying167
  a51 := Tryz.isAgg167
  z51 := Tryz.sizeOf167
  v51 := Tryz.zeroValue167
  t53 := Tryz.underlying196
  a53 := Tryz.isAgg196
  z53 := Tryz.sizeOf196
  v53 := Tryz.zeroValue196
  t75 := Tryz.underlying131
  a75 := Tryz.isAgg131
  z75 := Tryz.sizeOf131
  v75 := Tryz.zeroValue131
  t76 := Tryz.underlying132
  a76 := Tryz.isAgg132
  z76 := Tryz.sizeOf132
  v76 := Tryz.zeroValue132
  t85 := Tryz.underlying177
  a85 := Tryz.isAgg177
  z85 := Tryz.sizeOf177
  v85 := Tryz.zeroValue177
  t127 := Tryz.underlying163
  a127 := Tryz.isAgg163
  z127 := Tryz.sizeOf163
  v127 := Tryz.zeroValue163
  t143 := Tryz.underlying211
  a143 := Tryz.isAgg211
  z143 := Tryz.sizeOf211
  v143 := Tryz.zeroValue211
  t145 := Tryz.underlying213
  a145 := Tryz.isAgg213
  z145 := Tryz.sizeOf213
  v145 := Tryz.zeroValue213
  t167 := Tryz.underlying176
  a167 := Tryz.isAgg176
  z167 := Tryz.sizeOf176
  v167 := Tryz.zeroValue176
  t168 := Tryz.underlying179
  a168 := Tryz.isAgg179
  z168 := Tryz.sizeOf179
  v168 := Tryz.zeroValue179
  t171 := Tryz.underlying203
  a171 := Tryz.isAgg203
  z171 := Tryz.sizeOf203
  v171 := Tryz.zeroValue203
  t173 := Tryz.underlying206
  a173 := Tryz.isAgg206
  z173 := Tryz.sizeOf206
  v173 := Tryz.zeroValue206
  t175 := Tryz.underlying197
  a175 := Tryz.isAgg197
  z175 := Tryz.sizeOf197
  v175 := Tryz.zeroValue197
  t210 := Tryz.underlying201
  a210 := Tryz.isAgg201
  z210 := Tryz.sizeOf201
  v210 := Tryz.zeroValue201
  t212 := Tryz.underlying215
  a212 := Tryz.isAgg215
  z212 := Tryz.sizeOf215
  v212 := Tryz.zeroValue215
  t213 := Tryz.underlying216
  a213 := Tryz.isAgg216
  z213 := Tryz.sizeOf216
  t232 := Tryz.underlying219
  a232 := Tryz.isAgg219
  z232 := Tryz.sizeOf219
  v232 := Tryz.zeroValue219
  t233 := Tryz.underlying220
  a233 := Tryz.isAgg220
  z233 := Tryz.sizeOf220
  v233 := Tryz.zeroValue220
  g15 := by kernel_rfl
  g16 := by kernel_rfl
  g17 := by kernel_rfl
  g18 := by kernel_rfl
  g19 := by kernel_rfl
  t80 := Tryz.underlying92
  a80 := Tryz.isAgg92
  z80 := Tryz.sizeOf92
  v80 := Tryz.zeroValue92
  i0 := by kernel_rfl
  i2 := by kernel_rfl
  i3 := by kernel_rfl
  i4 := by kernel_rfl
  i5 := by kernel_rfl
  i9 := by kernel_rfl
  i20 := by kernel_rfl
  i21 := by kernel_rfl
  i37 := by kernel_rfl
  i46 := by kernel_rfl
  i51 := by kernel_rfl
  i53 := by kernel_rfl
  i75 := by kernel_rfl
  i76 := by kernel_rfl
  i80 := by kernel_rfl
  i85 := by kernel_rfl
  i127 := by kernel_rfl
  i143 := by kernel_rfl
  i145 := by kernel_rfl
  i167 := by kernel_rfl
  i168 := by kernel_rfl
  i171 := by kernel_rfl
  i173 := by kernel_rfl
  i175 := by kernel_rfl
  i210 := by kernel_rfl
  i212 := by kernel_rfl
  i232 := by kernel_rfl
  i233 := by kernel_rfl
  m15 := by kernel_rfl
  m16 := by kernel_rfl
  m17 := by kernel_rfl
  m18 := by kernel_rfl
  m19 := by kernel_rfl
  c0 := by kernel_rfl
  c2 := by kernel_rfl
  c3 := by kernel_rfl
  c4 := by kernel_rfl
  c5 := by kernel_rfl
  c9 := by kernel_rfl
  c20 := by kernel_rfl
  c21 := by kernel_rfl
  c37 := by kernel_rfl
  c46 := by kernel_rfl
  c51 := by kernel_rfl
  c53 := by kernel_rfl
  c75 := by kernel_rfl
  c76 := by kernel_rfl
  c80 := by kernel_rfl
  c85 := by kernel_rfl
  c127 := by kernel_rfl
  c143 := by kernel_rfl
  c145 := by kernel_rfl
  c167 := by kernel_rfl
  c168 := by kernel_rfl
  c171 := by kernel_rfl
  c173 := by kernel_rfl
  c175 := by kernel_rfl
  c210 := by kernel_rfl
  c212 := by kernel_rfl
  c213 := by kernel_rfl
  c232 := by kernel_rfl
  c233 := by kernel_rfl }
open Go.RowKit in
/-- strconv.Atoi, AT EVERY STRING THAT SPELLS AN int ('Lib.atoiAll .. = .ok v'; of whatever length: leading zeros count): v, AND NO ERROR. The world: as it was, or with the one new row that '[]byte(..)' lays. (LAID: no walk: one application.) -/
theorem Tryz.strconv_Atoi_ok (s : ByteArray) (hmax : s.size ≤ 9223372036854775806) (v : Int) (h : Lib.atoiAll s.data.toList = .ok v) (w : World) :
    Calls Tryz.prog 85 #[.string s] w fun e w' => e = .returned (.tuple #[.int .i64 v, .nilIface]) ∧ (w' = w ∨ ∃ t, w' = Lib.bytesWorld w 5 t) := Any.strconv_Atoi_ok Tryz.laysC172 s hmax v h w
open Go.RowKit in
open Go.RowKit in
open Go.RowKit in
theorem Tryz.strconv_Atoi_syntax_var (s : ByteArray) (hlim : s.size ≤ 281474976710656) (h : Lib.atoiAll s.data.toList = Lib.atoiAll []) (tp : TypeId) (p : Value) (w : World) (hvar : w.var? Tryz.prog "strconv.ErrSyntax" = some #[.iface tp p]) :
    Calls Tryz.prog 85 #[.string s] w fun e w' => ∃ N, e = .returned (.tuple #[.int .i64 0, .iface 179 (.pointer (some ⟨N, 0, none⟩))]) ∧ w.heap.size ≤ N ∧ w'.heap[N]? = some (.cells #[.string ⟨#[65, 116, 111, 105]⟩, .string s, .iface tp p] 201 (0, 0)) ∧ Below w.heap.size w w' := Any.strconv_Atoi_syntax_var Tryz.laysC172 s hlim h tp p w hvar
open Go.RowKit in
theorem Tryz.strconv_Atoi_range_var (s : ByteArray) (hlim : s.size ≤ 281474976710656) (h : Lib.atoiAll s.data.toList = .range) (tp : TypeId) (p : Value) (w : World) (hvar : w.var? Tryz.prog "strconv.ErrRange" = some #[.iface tp p]) :
    Calls Tryz.prog 85 #[.string s] w fun e w' => ∃ N, e = .returned (.tuple #[.int .i64 (Lib.atoiSat s.data.toList), .iface 179 (.pointer (some ⟨N, 0, none⟩))]) ∧ w.heap.size ≤ N ∧ w'.heap[N]? = some (.cells #[.string ⟨#[65, 116, 111, 105]⟩, .string s, .iface tp p] 201 (0, 0)) ∧ Below w.heap.size w w' := Any.strconv_Atoi_range_var Tryz.laysC172 s hlim h tp p w hvar
open Go.RowKit Go.Lib in
open Go.RowKit Go.Lib in
open Go.RowKit Go.Lib in
open Go.RowKit Go.Lib in
open Go.RowKit Go.Lib in
open Go.RowKit Go.Lib in
open Go.RowKit Go.Lib in
open Go.RowKit Go.Lib in
open Go.RowKit Go.Lib in
open Go.RowKit Go.Lib in
open Go.RowKit Go.Lib in
open Go.RowKit Go.Lib in
open Go.RowKit Go.Lib in
open Go.RowKit Go.Lib in
def Tryz.lays99_ren : Go.Shelf.Ren := ⟨fun | 99 => 47 | 206 => 84 | n => n, fun | 9 => 9 | 4 => 4 | 3 => 3 | n => n, fun | n => n⟩
theorem Tryz.lays99 : Go.Proofs.Lays.n99 Tryz.prog Tryz.lays99_ren := {
  mixed := by kernel_rfl
  f99 := Tryz.func47.trans (congrArg some (by kernel_rfl))
  f206 := Tryz.func84.trans (congrArg some (by kernel_rfl))
  t3 := Tryz.underlying3
  a3 := Tryz.isAgg3
  z3 := Tryz.sizeOf3
  v3 := Tryz.zeroValue3
  t4 := Tryz.underlying4
  a4 := Tryz.isAgg4
  z4 := Tryz.sizeOf4
  v4 := Tryz.zeroValue4
  t9 := Tryz.underlying9
  a9 := Tryz.isAgg9
  z9 := Tryz.sizeOf9
  v9 := Tryz.zeroValue9 }
open Go.RowKit Go.Lib in
/-- strings.HasPrefix: "HasPrefix reports whether the string s begins with prefix.": IT RETURNS 'Lib.hasPrefix s prefix'; the world is as it was. (LAID: no walk: one application.) -/
theorem Tryz.strings_HasPrefix (s p : ByteArray) (w : World) :
    Calls Tryz.prog 47 #[.string s, .string p] w fun e w' => e = .returned (.bool (Lib.hasPrefix s.data.toList p.data.toList)) ∧ w' = w := Any.strings_HasPrefix Tryz.lays99 s p w
open Go.RowKit Go.Lib in
def Tryz.lays101_ren : Go.Shelf.Ren := ⟨fun | 101 => 94 | 208 => 125 | 206 => 84 | n => n, fun | 9 => 9 | 4 => 4 | 3 => 3 | n => n, fun | n => n⟩
theorem Tryz.lays101 : Go.Proofs.Lays.n101 Tryz.prog Tryz.lays101_ren := {
  mixed := by kernel_rfl
  f101 := Tryz.func94.trans (congrArg some (by kernel_rfl))
  f206 := Tryz.func84.trans (congrArg some (by kernel_rfl))
  f208 := Tryz.func125.trans (congrArg some (by kernel_rfl))
  t3 := Tryz.underlying3
  a3 := Tryz.isAgg3
  z3 := Tryz.sizeOf3
  v3 := Tryz.zeroValue3
  t4 := Tryz.underlying4
  a4 := Tryz.isAgg4
  z4 := Tryz.sizeOf4
  v4 := Tryz.zeroValue4
  t9 := Tryz.underlying9
  a9 := Tryz.isAgg9
  z9 := Tryz.sizeOf9
  v9 := Tryz.zeroValue9 }
open Go.RowKit Go.Lib in
/-- strings.TrimPrefix: "TrimPrefix returns s without the provided leading prefix string. If s doesn't start with prefix, s is returned unchanged.": IT RETURNS 'Lib.trimPrefix s prefix'; the world is as it was. (LAID: no walk: one application.) -/
theorem Tryz.strings_TrimPrefix (s p : ByteArray) (w : World) :
    Calls Tryz.prog 94 #[.string s, .string p] w fun e w' => e = .returned (.string ⟨(Lib.trimPrefix s.data.toList p.data.toList).toArray⟩) ∧ w' = w := Any.strings_TrimPrefix Tryz.lays101 s p w
open Go.RowKit Go.Lib in
def Tryz.lays157_ren : Go.Shelf.Ren := ⟨fun | 157 => 53 | 229 => 29 | 199 => 97 | 261 => 129 | 311 => 141 | 312 => 142 | n => n, fun | 9 => 9 | 31 => 49 | 3 => 3 | 5 => 5 | 4 => 4 | 119 => 148 | 0 => 0 | 40 => 51 | 152 => 89 | 21 => 21 | 154 => 91 | 51 => 167 | 141 => 169 | 196 => 186 | 193 => 183 | 198 => 189 | 49 => 187 | 194 => 184 | 201 => 192 | 226 => 208 | 46 => 166 | 227 => 209 | n => n, fun | 0 => 3 | 6 => 4 | n => n⟩
theorem Tryz.lays157 : Go.Proofs.Lays.n157 Tryz.prog Tryz.lays157_ren := {
  mixed := by kernel_rfl
  f157 := Tryz.func53.trans (congrArg some (by kernel_rfl))
  f199 := Tryz.func97.trans (congrArg some (by kernel_rfl))
  f229 := Tryz.func29.trans (congrArg some (by kernel_rfl))
  f261 := Tryz.func129.trans (congrArg some (by kernel_rfl))
  f311 := Tryz.func141.trans (congrArg some (by kernel_rfl))
  f312 := Tryz.func142.trans (congrArg some (by kernel_rfl))
  t0 := Tryz.underlying0
  a0 := Tryz.isAgg0
  z0 := Tryz.sizeOf0
  v0 := Tryz.zeroValue0
  t3 := Tryz.underlying3
  a3 := Tryz.isAgg3
  z3 := Tryz.sizeOf3
  v3 := Tryz.zeroValue3
  t4 := Tryz.underlying4
  a4 := Tryz.isAgg4
  z4 := Tryz.sizeOf4
  v4 := Tryz.zeroValue4
  t5 := Tryz.underlying5
  a5 := Tryz.isAgg5
  z5 := Tryz.sizeOf5
  v5 := Tryz.zeroValue5
  t9 := Tryz.underlying9
  a9 := Tryz.isAgg9
  z9 := Tryz.sizeOf9
  v9 := Tryz.zeroValue9
  t21 := Tryz.underlying21
  a21 := Tryz.isAgg21
  z21 := Tryz.sizeOf21
  v21 := Tryz.zeroValue21
  t31 := Tryz.underlying49
  a31 := Tryz.isAgg49
  z31 := Tryz.sizeOf49
  v31 := Tryz.zeroValue49
  t40 := Tryz.underlying51
  a40 := Tryz.isAgg51
  z40 := Tryz.sizeOf51
  v40 := Tryz.zeroValue51
  t46 := Tryz.underlying166
  a46 := Tryz.isAgg166
  z46 := Tryz.sizeOf166
  v46 := Tryz.zeroValue166
  t49 := Tryz.underlying187
  a49 := Tryz.isAgg187
  z49 := Tryz.sizeOf187
  v49 := Tryz.zeroValue187
  t51 := Tryz.underlying167
  a51 := Tryz.isAgg167
  z51 := Tryz.sizeOf167
  v51 := Tryz.zeroValue167
  t119 := Tryz.underlying148
  a119 := Tryz.isAgg148
  z119 := Tryz.sizeOf148
  t141 := Tryz.underlying169
  a141 := Tryz.isAgg169
  z141 := Tryz.sizeOf169
  v141 := Tryz.zeroValue169
  t152 := Tryz.underlying89
  a152 := Tryz.isAgg89
  z152 := Tryz.sizeOf89
  v152 := Tryz.zeroValue89
  t154 := Tryz.underlying91
  a154 := Tryz.isAgg91
  z154 := Tryz.sizeOf91
  v154 := Tryz.zeroValue91
  t193 := Tryz.underlying183
  a193 := Tryz.isAgg183
  z193 := Tryz.sizeOf183
  v193 := Tryz.zeroValue183
  t194 := Tryz.underlying184
  a194 := Tryz.isAgg184
  z194 := Tryz.sizeOf184
  v194 := Tryz.zeroValue184
  t196 := Tryz.underlying186
  a196 := Tryz.isAgg186
  z196 := Tryz.sizeOf186
  v196 := Tryz.zeroValue186
  t198 := Tryz.underlying189
  a198 := Tryz.isAgg189
  z198 := Tryz.sizeOf189
  v198 := Tryz.zeroValue189
  t201 := Tryz.underlying192
  a201 := Tryz.isAgg192
  z201 := Tryz.sizeOf192
  v201 := Tryz.zeroValue192
  t226 := Tryz.underlying208
  a226 := Tryz.isAgg208
  z226 := Tryz.sizeOf208
  v226 := Tryz.zeroValue208
  t227 := Tryz.underlying209
  a227 := Tryz.isAgg209
  z227 := Tryz.sizeOf209
  v227 := Tryz.zeroValue209
  g0 := by kernel_rfl
  g6 := by kernel_rfl }
open Go.RowKit Go.Lib in
/-- strings.Fields, the table by 'Lib.TabIs' (as strings.TrimSpace's contract). 'hg': the table's number, by its name: at a dump 'by kernel_rfl'. (LAID: no walk: one application.) -/
theorem Tryz.strings_Fields (s : ByteArray) (w : World) (hs : s.size < 4294967281) (hascii : ∀ (j : Nat) b, s.data.toList[j]? = some b → b.toNat < 128) (htab : Lib.TabIs Tryz.prog w "strings.asciiSpace" .u8 Lib.asciiSpaceTab) :
    Calls Tryz.prog 53 #[.string s] w fun e w' =>
      e = .returned (.slice (some ⟨w.heap.size, 0, none⟩) (Lib.fields s.data.toList).length (Lib.fields s.data.toList).length) ∧ w' = w.alloc (.cells ((Lib.fields s.data.toList).map fun l => Value.string ⟨l.toArray⟩).toArray 9) := Any.strings_Fields Tryz.lays157 (by kernel_rfl) (by kernel_rfl) s w hs hascii htab
open Go.RowKit Go.Lib in
open Go.RowKit Go.Lib in
open Go.RowKit Go.Lib in
open Go.RowKit Go.Lib in
def Tryz.lays155_ren : Go.Shelf.Ren := ⟨fun | 155 => 28 | 154 => 45 | 138 => 78 | 165 => 79 | 143 => 80 | 166 => 81 | 197 => 82 | 169 => 83 | 195 => 111 | 218 => 112 | 240 => 113 | 241 => 114 | 219 => 115 | 260 => 116 | 276 => 130 | 277 => 131 | 217 => 132 | 225 => 124 | 224 => 123 | 267 => 133 | 266 => 143 | 314 => 144 | n => n, fun | 9 => 9 | 3 => 3 | 4 => 4 | 72 => 128 | 0 => 0 | 76 => 132 | 105 => 134 | 21 => 21 | 5 => 5 | 70 => 125 | 20 => 20 | 37 => 126 | 75 => 131 | 127 => 163 | 164 => 170 | 46 => 166 | 119 => 148 | 139 => 175 | 138 => 174 | 146 => 194 | 51 => 167 | 80 => 92 | n => n, fun | 1 => 5 | 3 => 6 | 4 => 7 | n => n⟩
theorem Tryz.lays155 : Go.Proofs.Lays.n155 Tryz.prog Tryz.lays155_ren := {
  mixed := by kernel_rfl
  f138 := Tryz.func78.trans (congrArg some (by kernel_rfl))
  f143 := Tryz.func80.trans (congrArg some (by kernel_rfl))
  f154 := Tryz.func45.trans (congrArg some (by kernel_rfl))
  f155 := Tryz.func28.trans (congrArg some (by kernel_rfl))
  f165 := Tryz.func79.trans (congrArg some (by kernel_rfl))
  f166 := Tryz.func81.trans (congrArg some (by kernel_rfl))
  f169 := Tryz.func83.trans (congrArg some (by kernel_rfl))
  f195 := Tryz.func111.trans (congrArg some (by kernel_rfl))
  f197 := Tryz.func82.trans (congrArg some (by kernel_rfl))
  f217 := Tryz.func132.trans (congrArg some (by kernel_rfl))
  f218 := Tryz.func112.trans (congrArg some (by kernel_rfl))
  f219 := Tryz.func115.trans (congrArg some (by kernel_rfl))
  f224 := Tryz.func123.trans (congrArg some (by kernel_rfl))
  f225 := Tryz.func124.trans (congrArg some (by kernel_rfl))
  f240 := Tryz.func113.trans (congrArg some (by kernel_rfl))
  f241 := Tryz.func114.trans (congrArg some (by kernel_rfl))
  f260 := Tryz.func116.trans (congrArg some (by kernel_rfl))
  f266 := Tryz.func143.trans (congrArg some (by kernel_rfl))
  f267 := Tryz.func133.trans (congrArg some (by kernel_rfl))
  f276 := Tryz.func130.trans (congrArg some (by kernel_rfl))
  f277 := Tryz.func131.trans (congrArg some (by kernel_rfl))
  f314 := Tryz.func144.trans (congrArg some (by kernel_rfl))
  t0 := Tryz.underlying0
  a0 := Tryz.isAgg0
  z0 := Tryz.sizeOf0
  v0 := Tryz.zeroValue0
  t3 := Tryz.underlying3
  a3 := Tryz.isAgg3
  z3 := Tryz.sizeOf3
  v3 := Tryz.zeroValue3
  t4 := Tryz.underlying4
  a4 := Tryz.isAgg4
  z4 := Tryz.sizeOf4
  v4 := Tryz.zeroValue4
  t5 := Tryz.underlying5
  a5 := Tryz.isAgg5
  z5 := Tryz.sizeOf5
  v5 := Tryz.zeroValue5
  t9 := Tryz.underlying9
  a9 := Tryz.isAgg9
  z9 := Tryz.sizeOf9
  v9 := Tryz.zeroValue9
  t20 := Tryz.underlying20
  a20 := Tryz.isAgg20
  z20 := Tryz.sizeOf20
  v20 := Tryz.zeroValue20
  t21 := Tryz.underlying21
  a21 := Tryz.isAgg21
  z21 := Tryz.sizeOf21
  v21 := Tryz.zeroValue21
  t37 := Tryz.underlying126
  a37 := Tryz.isAgg126
  z37 := Tryz.sizeOf126
  v37 := Tryz.zeroValue126
  t46 := Tryz.underlying166
  a46 := Tryz.isAgg166
  z46 := Tryz.sizeOf166
  v46 := Tryz.zeroValue166
  t51 := Tryz.underlying167
  a51 := Tryz.isAgg167
  z51 := Tryz.sizeOf167
  v51 := Tryz.zeroValue167
  t70 := Tryz.underlying125
  a70 := Tryz.isAgg125
  z70 := Tryz.sizeOf125
  v70 := Tryz.zeroValue125
  t72 := Tryz.underlying128
  a72 := Tryz.isAgg128
  z72 := Tryz.sizeOf128
  v72 := Tryz.zeroValue128
  t75 := Tryz.underlying131
  a75 := Tryz.isAgg131
  z75 := Tryz.sizeOf131
  v75 := Tryz.zeroValue131
  t76 := Tryz.underlying132
  a76 := Tryz.isAgg132
  z76 := Tryz.sizeOf132
  v76 := Tryz.zeroValue132
  t105 := Tryz.underlying134
  a105 := Tryz.isAgg134
  z105 := Tryz.sizeOf134
  v105 := Tryz.zeroValue134
  t119 := Tryz.underlying148
  a119 := Tryz.isAgg148
  z119 := Tryz.sizeOf148
  t127 := Tryz.underlying163
  a127 := Tryz.isAgg163
  z127 := Tryz.sizeOf163
  v127 := Tryz.zeroValue163
  t138 := Tryz.underlying174
  a138 := Tryz.isAgg174
  z138 := Tryz.sizeOf174
  v138 := Tryz.zeroValue174
  t139 := Tryz.underlying175
  a139 := Tryz.isAgg175
  z139 := Tryz.sizeOf175
  v139 := Tryz.zeroValue175
  t146 := Tryz.underlying194
  a146 := Tryz.isAgg194
  z146 := Tryz.sizeOf194
  v146 := Tryz.zeroValue194
  t164 := Tryz.underlying170
  a164 := Tryz.isAgg170
  z164 := Tryz.sizeOf170
  v164 := Tryz.zeroValue170
  g1 := by kernel_rfl
  g3 := by kernel_rfl
  g4 := by kernel_rfl }
theorem Tryz.Builder_Extra_155 : Builder.Extra Tryz.prog Tryz.lays155_ren := {
  sizeBuilder := by kernel_rfl
  liesBuilder := by kernel_rfl
  t5 := Tryz.underlying5
  a5 := Tryz.isAgg5
  z5 := Tryz.sizeOf5
  v5 := Tryz.zeroValue5
  infoByte := by kernel_rfl
  cellsByte := by kernel_rfl
  sizeByte := by kernel_rfl
  neB5 := by decide }
open Go.RowKit Go.Lib in
/-- strings.ReplaceAll: "ReplaceAll returns a copy of the string s with all non-overlapping instances of old replaced by new.": AT AN old THAT IS NOT EMPTY: 'Lib.replaceAll s old new'. (LAID: no walk: one application.) -/
theorem Tryz.strings_ReplaceAll (s old new : ByteArray) (m : Int) (w : World) (hs : s.size < 4294967281) (hm : w.cell? ⟨5, 0, none⟩ = some (.int .i64 m)) (h1 : 1 ≤ old.size) (hlen : s.size + Lib.countB s old * new.size ≤ 140737488355328) :
    Calls Tryz.prog 28 #[.string s, .string old, .string new] w fun e w' =>
      e = .returned (.string ⟨(Lib.replaceAll s.data.toList old.data.toList new.data.toList).toArray⟩) ∧ Below w.heap.size w w' := Any.strings_ReplaceAll Tryz.lays155 Tryz.Builder_Extra_155 s old new m w hs hm h1 hlen
open Go.RowKit Go.Lib in
def Tryz.lays152_ren : Go.Shelf.Ren := ⟨fun | 152 => 91 | 137 => 121 | 119 => 122 | 224 => 123 | 225 => 124 | 217 => 132 | 266 => 143 | n => n, fun | 9 => 9 | 21 => 21 | 3 => 3 | 4 => 4 | 5 => 5 | 0 => 0 | 46 => 166 | n => n, fun | n => n⟩
theorem Tryz.lays152 : Go.Proofs.Lays.n152 Tryz.prog Tryz.lays152_ren := {
  mixed := by kernel_rfl
  f119 := Tryz.func122.trans (congrArg some (by kernel_rfl))
  f137 := Tryz.func121.trans (congrArg some (by kernel_rfl))
  f152 := Tryz.func91.trans (congrArg some (by kernel_rfl))
  f217 := Tryz.func132.trans (congrArg some (by kernel_rfl))
  f224 := Tryz.func123.trans (congrArg some (by kernel_rfl))
  f225 := Tryz.func124.trans (congrArg some (by kernel_rfl))
  f266 := Tryz.func143.trans (congrArg some (by kernel_rfl))
  t0 := Tryz.underlying0
  a0 := Tryz.isAgg0
  z0 := Tryz.sizeOf0
  v0 := Tryz.zeroValue0
  t3 := Tryz.underlying3
  a3 := Tryz.isAgg3
  z3 := Tryz.sizeOf3
  v3 := Tryz.zeroValue3
  t4 := Tryz.underlying4
  a4 := Tryz.isAgg4
  z4 := Tryz.sizeOf4
  v4 := Tryz.zeroValue4
  t5 := Tryz.underlying5
  a5 := Tryz.isAgg5
  z5 := Tryz.sizeOf5
  v5 := Tryz.zeroValue5
  t9 := Tryz.underlying9
  a9 := Tryz.isAgg9
  z9 := Tryz.sizeOf9
  v9 := Tryz.zeroValue9
  t21 := Tryz.underlying21
  a21 := Tryz.isAgg21
  z21 := Tryz.sizeOf21
  v21 := Tryz.zeroValue21
  t46 := Tryz.underlying166
  a46 := Tryz.isAgg166
  z46 := Tryz.sizeOf166
  v46 := Tryz.zeroValue166 }
open Go.RowKit Go.Lib in
theorem Tryz.strings_IndexRune_ascii (s : ByteArray) (r : Int) (w : World) (h0 : 0 ≤ r) (h1 : r < 128) :
    Calls Tryz.prog 91 #[.string s, .int .i32 r] w fun e w' => e = .returned (.int .i64 (Lib.indexByte s.data.toList r.toNat.toUInt8)) ∧ w' = w := Any.strings_IndexRune_ascii Tryz.lays152 s r w h0 h1
open Go.RowKit Go.Lib in
def Tryz.lays226_ren : Go.Shelf.Ren := ⟨fun | 226 => 92 | n => n, fun | 3 => 3 | 4 => 4 | n => n, fun | n => n⟩
theorem Tryz.lays226 : Go.Proofs.Lays.n226 Tryz.prog Tryz.lays226_ren := {
  mixed := by kernel_rfl
  f226 := Tryz.func92.trans (congrArg some (by kernel_rfl))
  t3 := Tryz.underlying3
  a3 := Tryz.isAgg3
  z3 := Tryz.sizeOf3
  v3 := Tryz.zeroValue3
  t4 := Tryz.underlying4
  a4 := Tryz.isAgg4
  z4 := Tryz.sizeOf4
  v4 := Tryz.zeroValue4 }
open Go.RowKit Go.Lib in
theorem Tryz.strings_shouldUseASCIISet (n : Int) (w : World) :
    Calls Tryz.prog 92 #[.int .i64 n] w fun e w' => e = .returned (.bool (decide (8 < n))) ∧ w' = w := Any.strings_shouldUseASCIISet Tryz.lays226 n w
def Tryz.lays153_ren : Go.Shelf.Ren := ⟨fun | 153 => 51 | 152 => 91 | 226 => 92 | 227 => 88 | 228 => 93 | 137 => 121 | 119 => 122 | 224 => 123 | 225 => 124 | 217 => 132 | 266 => 143 | n => n, fun | 9 => 9 | 3 => 3 | 4 => 4 | 5 => 5 | 21 => 21 | 117 => 141 | 116 => 140 | 0 => 0 | 46 => 166 | 124 => 144 | n => n, fun | n => n⟩
theorem Tryz.lays153 : Go.Proofs.Lays.n153 Tryz.prog Tryz.lays153_ren := {
  mixed := by kernel_rfl
  f119 := Tryz.func122.trans (congrArg some (by kernel_rfl))
  f137 := Tryz.func121.trans (congrArg some (by kernel_rfl))
  f152 := Tryz.func91.trans (congrArg some (by kernel_rfl))
  f153 := Tryz.func51.trans (congrArg some (by kernel_rfl))
  f217 := Tryz.func132.trans (congrArg some (by kernel_rfl))
  f224 := Tryz.func123.trans (congrArg some (by kernel_rfl))
  f225 := Tryz.func124.trans (congrArg some (by kernel_rfl))
  f226 := Tryz.func92.trans (congrArg some (by kernel_rfl))
  f227 := Tryz.func88.trans (congrArg some (by kernel_rfl))
  f228 := Tryz.func93.trans (congrArg some (by kernel_rfl))
  f266 := Tryz.func143.trans (congrArg some (by kernel_rfl))
  t0 := Tryz.underlying0
  a0 := Tryz.isAgg0
  z0 := Tryz.sizeOf0
  v0 := Tryz.zeroValue0
  t3 := Tryz.underlying3
  a3 := Tryz.isAgg3
  z3 := Tryz.sizeOf3
  v3 := Tryz.zeroValue3
  t4 := Tryz.underlying4
  a4 := Tryz.isAgg4
  z4 := Tryz.sizeOf4
  v4 := Tryz.zeroValue4
  t5 := Tryz.underlying5
  a5 := Tryz.isAgg5
  z5 := Tryz.sizeOf5
  v5 := Tryz.zeroValue5
  t9 := Tryz.underlying9
  a9 := Tryz.isAgg9
  z9 := Tryz.sizeOf9
  v9 := Tryz.zeroValue9
  t21 := Tryz.underlying21
  a21 := Tryz.isAgg21
  z21 := Tryz.sizeOf21
  v21 := Tryz.zeroValue21
  t46 := Tryz.underlying166
  a46 := Tryz.isAgg166
  z46 := Tryz.sizeOf166
  v46 := Tryz.zeroValue166
  t116 := Tryz.underlying140
  a116 := Tryz.isAgg140
  z116 := Tryz.sizeOf140
  t117 := Tryz.underlying141
  a117 := Tryz.isAgg141
  z117 := Tryz.sizeOf141
  v117 := Tryz.zeroValue141
  t124 := Tryz.underlying144
  a124 := Tryz.isAgg144
  z124 := Tryz.sizeOf144
  v124 := Tryz.zeroValue144 }
open Go.RowKit Go.Lib in
open Go.RowKit Go.Lib in
open Go.RowKit Go.Lib in
open Go.RowKit Go.Lib in
open Go.RowKit Go.Lib in
open Go.RowKit Go.Lib in
theorem Tryz.strings_IndexAny_long (hv116 : ∀ w, (zeroValue 140).run Tryz.prog w = .ok (.agg (Array.replicate 256 (.bool false))) w) (s chars : ByteArray) (w : World) (h2 : 2 ≤ chars.size) (h8 : 8 < s.size) (hs : s.size < 4294967281) (hcs : chars.size < 4294967281) (hascii : ∀ (j : Nat) b, chars.data.toList[j]? = some b → b.toNat < 128) :
    Calls Tryz.prog 51 #[.string s, .string chars] w fun e w' => e = .returned (.int .i64 (Lib.indexAny s.data.toList chars.data.toList)) ∧ w' = ((w.alloc (.cells (Lib.setCells chars.data.toList) 140)).alloc (.cells (Lib.setCells chars.data.toList) 140)) := Any.strings_IndexAny_long Tryz.lays153 hv116 (by kernel_rfl) s chars w h2 h8 hs hcs hascii
open Go.RowKit Go.Lib in
open Go.RowKit Go.Lib in
open Go.RowKit Go.Lib in
open Go.RowKit Go.Lib in
open Go.RowKit Go.Lib in
open Go.RowKit Go.Lib in
open Go.RowKit Go.Lib in
open Go.RowKit Go.Lib in
open Go.RowKit Go.Lib in
open Go.RowKit Go.Lib in
open Go.RowKit Go.Lib in
open Go.RowKit Go.Lib in
open Go.RowKit Go.Lib in
def Tryz.lays229_ren : Go.Shelf.Ren := ⟨fun | 229 => 29 | n => n, fun | 9 => 9 | 40 => 51 | 31 => 49 | 152 => 89 | 3 => 3 | 0 => 0 | 4 => 4 | 21 => 21 | 154 => 91 | n => n, fun | n => n⟩
theorem Tryz.lays229 : Go.Proofs.Lays.n229 Tryz.prog Tryz.lays229_ren := {
  mixed := by kernel_rfl
  f229 := Tryz.func29.trans (congrArg some (by kernel_rfl))
  t0 := Tryz.underlying0
  a0 := Tryz.isAgg0
  z0 := Tryz.sizeOf0
  v0 := Tryz.zeroValue0
  t3 := Tryz.underlying3
  a3 := Tryz.isAgg3
  z3 := Tryz.sizeOf3
  v3 := Tryz.zeroValue3
  t4 := Tryz.underlying4
  a4 := Tryz.isAgg4
  z4 := Tryz.sizeOf4
  v4 := Tryz.zeroValue4
  t9 := Tryz.underlying9
  a9 := Tryz.isAgg9
  z9 := Tryz.sizeOf9
  v9 := Tryz.zeroValue9
  t21 := Tryz.underlying21
  a21 := Tryz.isAgg21
  z21 := Tryz.sizeOf21
  v21 := Tryz.zeroValue21
  t31 := Tryz.underlying49
  a31 := Tryz.isAgg49
  z31 := Tryz.sizeOf49
  v31 := Tryz.zeroValue49
  t40 := Tryz.underlying51
  a40 := Tryz.isAgg51
  z40 := Tryz.sizeOf51
  v40 := Tryz.zeroValue51
  t152 := Tryz.underlying89
  a152 := Tryz.isAgg89
  z152 := Tryz.sizeOf89
  v152 := Tryz.zeroValue89
  t154 := Tryz.underlying91
  a154 := Tryz.isAgg91
  z154 := Tryz.sizeOf91
  v154 := Tryz.zeroValue91 }
open Go.RowKit Go.Lib in
open Go.RowKit Go.Lib in
open Go.RowKit Go.Lib in
open Go.RowKit Go.Lib in
open Go.RowKit Go.Lib in
open Go.RowKit Go.Lib in
theorem Tryz.strings_FieldsFunc_grows (g : Nat) (lb : Array Value) (eg : ∀ args w, (callFunc g args).run Tryz.prog w = .ok (.enter g args) w) (p : Nat → Bool) (s : ByteArray) (w : World) (hs : s.size ≤ 4294967296) (hp : PredGrows Tryz.prog g lb p w) :
    Calls Tryz.prog 29 #[.string s, .func (.func g) #[] lb] w fun e w' => ∃ A, e = .returned (.slice (some ⟨A, 0, none⟩) (Lib.goFieldsP p s).length (Lib.goFieldsP p s).length) ∧ w.heap.size ≤ A ∧
      w'.ownsRow w.heap.size 9 1 (.slice (some ⟨A, 0, none⟩) (Lib.goFieldsP p s).length (Lib.goFieldsP p s).length) (Lib.goFieldsP p s).length ((Lib.goFieldsP p s).map Value.string) ∧ Below w.heap.size w w' := Any.strings_FieldsFunc_grows Tryz.lays229 g lb eg p s w hs hp (by kernel_rfl) (by kernel_rfl)
end Go.Proofs
namespace Go.Proofs.YtnflnbdlgdjfmabGreatDoor
open Go.RowKit
set_option linter.unusedVariables false
set_option linter.unusedSimpArgs false
section
variable {F : Nat → Prop} {ρ : Nat → Lc} {w w' : World}
theorem moves_below (H : HRel F ρ (ofL []) w) (hb : Below w.heap.size w w') (G : Nat → Prop) (hG : ∀ k, G k → w.heap.size ≤ k ∧ k < w'.heap.size) : Moves (namesL []) F ρ (ofL []) w (fun k => F k ∨ G k) ρ (ofL []) w' where
  sub := fun k h => .inl h
  same := fun k h => hb.block k (H.lt k h)
  stb := fun b h => absurd rfl h
  stbd := fun b h => by cases h
  heap := ⟨fun b x h => (by cases h), fun b b' g h => absurd rfl h, fun b g h => absurd rfl h, fun k h => by
      rcases h with h | h
      · exact Nat.lt_of_lt_of_le (H.lt k h) hb.size
      · exact (hG k h).2, fun b x h => (by cases h), fun g c h => relK_mono (fun k h => .inl h) (fun k h => hb.block k (H.lt k h)) (H.gl g c h), fun g p h => ⟨.inl (H.gx g p h).1, by rw [hb.block g (H.lt g (H.gx g p h).1)]; exact (H.gx g p h).2⟩⟩
  le := fun b x h => by cases h
  own := fun b g h => absurd rfl h
  Fnew := fun k h => by
    rcases h with h | h
    · exact .inl h
    · exact .inr (.inl (hG k h).1)
  os := hb.os
  tape := hb.tape
  output := hb.output
  size := hb.size
  kept := fun k hk _ => hb.block k hk
end
/-- A contract of what only makes memory. -/
theorem acalls_ext {P : Program} {f : FuncId} {args : List U} {r : U} (hcan : canCall P f = true)
    (h : ∀ (F : Nat → Prop) (ρ : Nat → Lc) (w : World) (vals : List Value), HRel F ρ (ofL []) w → All2 (fun u v => relU F ρ w u v ∧ okU (ofL []) u) args vals →
      Calls P f vals.toArray w fun e w' => ∃ (v : Value) (G : Nat → Prop), e = .returned v ∧ Below w.heap.size w w' ∧ (∀ k, G k → w.heap.size ≤ k ∧ k < w'.heap.size) ∧ relU (fun k => F k ∨ G k) ρ w' r v)
    (hok : okU (ofL []) r) : ACalls P f args [] r [] :=
  ⟨hcan, fun F ρ w vals H ha => (h F ρ w vals H ha).mono fun e w' ⟨v, G, he, hb, hG, hr⟩ => ⟨v, _, ρ, he, moves_below H hb G hG, hr, hok⟩⟩
theorem args2 {F : Nat → Prop} {ρ : Nat → Lc} {w : World} {a b : C} {vals : List Value} (h : All2 (fun u v => relU F ρ w u v ∧ okU (ofL []) u) [.one a, .one b] vals) : ∃ x y, vals = [x, y] ∧ relC F ρ w a x ∧ relC F ρ w b y := by
  match vals, h with
  | [x, y], ⟨⟨h1, _⟩, ⟨h2, _⟩, _⟩ => exact ⟨x, y, rfl, h1, h2⟩
theorem args1 {F : Nat → Prop} {ρ : Nat → Lc} {w : World} {a : C} {vals : List Value} (h : All2 (fun u v => relU F ρ w u v ∧ okU (ofL []) u) [.one a] vals) : ∃ x, vals = [x] ∧ relC F ρ w a x := by
  match vals, h with
  | [x], ⟨⟨h1, _⟩, _⟩ => exact ⟨x, rfl, h1⟩
theorem args3 {F : Nat → Prop} {ρ : Nat → Lc} {w : World} {a b c : C} {vals : List Value} (h : All2 (fun u v => relU F ρ w u v ∧ okU (ofL []) u) [.one a, .one b, .one c] vals) : ∃ x y z, vals = [x, y, z] ∧ relC F ρ w a x ∧ relC F ρ w b y ∧ relC F ρ w c z := by
  match vals, h with
  | [x, y, z], ⟨⟨h1, _⟩, ⟨h2, _⟩, ⟨h3, _⟩, _⟩ => exact ⟨x, y, z, rfl, h1, h2, h3⟩
def noG : Nat → Prop := fun _ => False
end Go.Proofs.YtnflnbdlgdjfmabGreatDoor
namespace Go.Proofs.YtnflnbdlgdjfmabGreatDoor
open Go.RowKit
set_option linter.unusedVariables false
set_option linter.unusedSimpArgs false
theorem hasPrefix_a (s p : ByteArray) : ACalls Tryz.prog 47 [.one (.str s), .one (.str p)] [] (.one (.bool (Lib.hasPrefix s.data.toList p.data.toList))) [] :=
  acalls_ext (by kernel_rfl) (fun F ρ w vals H ha => by
    obtain ⟨_, _, rfl, rfl, rfl⟩ := args2 ha
    exact (Tryz.strings_HasPrefix s p w).mono fun e w' ⟨he, hw⟩ => by
      subst hw; exact ⟨_, noG, he, Below.refl _ _, fun k h => h.elim, rfl⟩) trivial
theorem below_grow (w : World) (k : Nat) (os : Array Obj) : Below w.heap.size w (Sort.grow (w.drewN k) os) :=
  ⟨rfl, rfl, rfl, by simp [Sort.grow], fun i hi => by simp [Sort.grow, Array.getElem?_append_left hi]⟩
/-- A listed variable, out of what the frame knows. -/
theorem gx_var {F : Nat → Prop} {ρ : Nat → Lc} {w : World} (H : HRel F ρ (ofL []) w) {g : Nat} {name : String} {p : Array Value → Prop} (hn : Tryz.prog.globalNamed name = some g) (hg : globX g = some p) : ∃ cs, w.var? Tryz.prog name = some cs ∧ p cs ∧ ∀ i v, cs[i]? = some v → w.cell? ⟨g, i, none⟩ = some v := by
  obtain ⟨_, cs, t, fz, hp, hh⟩ := H.gx g p hg
  have hv : w.var? Tryz.prog name = some cs := by unfold World.var?; rw [hn]; simp [hh]
  refine ⟨cs, hv, hp, fun i v hi => ?_⟩
  have := World.var?_cell hn hv i; rw [this]; exact hi
theorem nPow : Tryz.prog.globalNamed "internal/strconv.uint64pow10" = some 10 := by kernel_rfl
theorem nMax : Tryz.prog.globalNamed "internal/bytealg.MaxLen" = some 5 := by kernel_rfl
theorem nSyn : Tryz.prog.globalNamed "strconv.ErrSyntax" = some 8 := by kernel_rfl
theorem nRng : Tryz.prog.globalNamed "strconv.ErrRange" = some 9 := by kernel_rfl
theorem itoa_a (n : Int) (h0 : -9223372036854775808 ≤ n) (h1 : n ≤ 9223372036854775807) : ACalls Tryz.prog 86 [.one (.int .i64 n)] [] (.one (.str ⟨(Lib.itoa n).toArray⟩)) [] :=
  acalls_ext (by kernel_rfl) (fun F ρ w vals H ha => by
    obtain ⟨_, rfl, rfl⟩ := args1 ha
    obtain ⟨cs, hv, rfl, _⟩ := gx_var H nPow rfl
    refine (Tryz.strconv_Itoa n h0 h1 w ?_).mono fun e w' ⟨he, k, os, hw⟩ => by
      subst hw; exact ⟨_, noG, he, below_grow w k os, fun k h => h.elim, rfl⟩
    unfold Lib.TabIs
    rw [hv, show pow10V = (Lib.pow10Tab.map fun z => Value.int .u64 z).toArray by simp [pow10V, Lib.pow10Tab, List.range, List.range.loop]]) trivial
/-- What Atoi answers. -/
def atoiU (s : ByteArray) : U :=
  match Lib.atoiAll s.data.toList with
  | .ok v => .tup [.one (.int .i64 v), .one .nilif]
  | _ => .tup [.one .any, .one .ifc]
theorem atoi_a (s : ByteArray) (hs : s.size ≤ 281474976710656) : ACalls Tryz.prog 85 [.one (.str s)] [] (atoiU s) [] :=
  acalls_ext (by kernel_rfl) (fun F ρ w vals H ha => by
    obtain ⟨_, rfl, rfl⟩ := args1 ha
    unfold atoiU
    cases hA : Lib.atoiAll s.data.toList with
    | ok v =>
      exact (Tryz.strconv_Atoi_ok s (by omega) v hA w).mono fun e w' ⟨he, hw⟩ => by
        refine ⟨_, noG, he, ?_, fun k h => h.elim, [_, _], rfl, rfl, rfl, trivial⟩
        rcases hw with rfl | ⟨t, rfl⟩
        · exact Below.refl _ _
        · exact Joins.below_bytesWorld _ _ _ _ (Nat.le_refl _)
    | range =>
      obtain ⟨cs, hv, ⟨t, x, rfl⟩, _⟩ := gx_var H nRng rfl
      exact (Tryz.strconv_Atoi_range_var s hs hA t x w hv).mono fun e w' ⟨N, he, _, _, hb⟩ => by
        exact ⟨_, noG, he, hb, fun k h => h.elim, [_, _], rfl, rfl, ⟨_, _, rfl⟩, trivial⟩
    | _ =>
      obtain ⟨cs, hv, ⟨t, x, rfl⟩, _⟩ := gx_var H nSyn rfl
      exact (Tryz.strconv_Atoi_syntax_var s hs hA t x w hv).mono fun e w' ⟨N, he, _, _, hb⟩ => by
        exact ⟨_, noG, he, hb, fun k h => h.elim, [_, _], rfl, rfl, ⟨_, _, rfl⟩, trivial⟩) (by
    unfold atoiU
    split <;> exact okU_of (by exact ⟨trivial, trivial, trivial⟩))
def replaceS (s old new : ByteArray) : ByteArray := ⟨(Lib.replaceAll s.data.toList old.data.toList new.data.toList).toArray⟩
theorem replaceAll_a (s old new : ByteArray) (hs : s.size < 4294967281) (h1 : 1 ≤ old.size) (hl : s.size + Lib.countB s old * new.size ≤ 140737488355328) : ACalls Tryz.prog 28 [.one (.str s), .one (.str old), .one (.str new)] [] (.one (.str (replaceS s old new))) [] :=
  acalls_ext (by kernel_rfl) (fun F ρ w vals H ha => by
    obtain ⟨_, _, _, rfl, rfl, rfl, rfl⟩ := args3 ha
    obtain ⟨cs, hv, ⟨m, rfl⟩, hc⟩ := gx_var H nMax rfl
    exact (Tryz.strings_ReplaceAll s old new m w hs (hc 0 _ rfl) h1 hl).mono fun e w' ⟨he, hb⟩ => by
      exact ⟨_, noG, he, hb, fun k h => h.elim, rfl⟩) trivial
/-- The words' cells. -/
def strRows (ws : List ByteArray) : List (List C) := ws.map fun s => [.str s]
theorem fields_a (g : FuncId) (p : Nat → Bool) (s : ByteArray) (hs : s.size ≤ 4294967296) (hcan : canCall Tryz.prog g = true)
    (eg : ∀ (args : Array Value) (w : World), (callFunc g args).run Tryz.prog w = .ok (.enter g args) w)
    (hp : ∀ x : Nat, x ≤ 1114111 → ACalls Tryz.prog g [.one (.int .i32 x)] [] (.one (.bool (p x))) []) : ACalls Tryz.prog 29 [.one (.str s), .one (.fn g)] [] (.one (slFOf 1 (strRows (Lib.goFieldsP p s)))) [] :=
  acalls_ext (by kernel_rfl) (fun F ρ w vals H ha => by
    obtain ⟨_, _, rfl, rfl, rfl⟩ := args2 ha
    have hpg : PredGrows Tryz.prog g #[] p w := by
      intro W x hx hb
      have HW : HRel F ρ (ofL []) W := by
        have := (moves_below H hb noG (fun k h => h.elim)).heap
        refine ⟨fun b x h => (by cases h), fun b b' g h => absurd rfl h, fun b g h => absurd rfl h, fun k h => this.lt k (.inl h), fun b x h => (by cases h), fun g c hg => ?_, fun g q hg => ?_⟩
        · exact relK_mono (fun k h => h) (fun k h => hb.block k (H.lt k h)) (H.gl g c hg)
        · exact ⟨(H.gx g q hg).1, by rw [hb.block g (H.lt g (H.gx g q hg).1)]; exact (H.gx g q hg).2⟩
      refine ((hp x hx).2 F ρ W [.int .i32 x] HW ⟨⟨rfl, trivial⟩, trivial⟩).mono fun e W' ⟨v, F', ρ', he, hM, hr, _⟩ => ?_
      have hr : v = .bool (p x) := hr
      subst hr
      exact ⟨he, hM.os, hM.tape, hM.output, hM.size, fun k hk => hM.kept k hk fun b hb => absurd rfl hb⟩
    refine (Tryz.strings_FieldsFunc_grows g #[] eg p s w hs hpg).mono fun e w' ⟨A, he, hA, ⟨hlen, hrow⟩, hb⟩ => ?_
    refine ⟨_, fun k => k = A ∧ k < w'.heap.size, he, hb, fun k h => ⟨by rw [h.1]; exact hA, h.2⟩, ?_⟩
    have hn : (strRows (Lib.goFieldsP p s)).length = (Lib.goFieldsP p s).length := by simp [strRows]
    rcases hrow with ⟨h0, _⟩ | ⟨g', cap, cur, hv, _, hh, hc1, hc2, hcs, hct⟩
    · cases h0
    · simp only [Value.slice.injEq, Option.some.injEq, Addr.mk.injEq] at hv
      obtain ⟨⟨rfl, _, _⟩, _, rfl⟩ := hv
      refine ⟨_, by rw [hn], by rw [hn]; exact hc2, fun i hi => ⟨A, 0, rfl, .inr ⟨rfl, (Array.getElem?_eq_some_iff.1 hh).1⟩, fun j hj => ?_⟩⟩
      obtain rfl : j = 0 := by omega
      rw [hn] at hi
      have hx : cur[i]? = some (.string (Lib.goFieldsP p s)[i]) := by
        have := congrArg (fun l => l[i]?) hct
        simp only [Nat.mul_one, List.getElem?_take, hi, if_true, List.getElem?_map, List.getElem?_eq_getElem hi, Option.map_some, Array.getElem?_toList] at this
        exact this
      refine ⟨.string (Lib.goFieldsP p s)[i], ?_, ?_⟩
      · unfold World.cell?
        simp only [hh, Nat.zero_add, Nat.mul_one, Nat.add_zero]
        exact hx
      · simp [rowF, strRows, hi, relK]) trivial
end Go.Proofs.YtnflnbdlgdjfmabGreatDoor
namespace Go.Proofs.YtnflnbdlgdjfmabGreatDoor
set_option linter.unusedVariables false
set_option linter.unusedSimpArgs false
/-- A reader: the words that are left; was something wrong? -/
structure Rd where
  ws : List ByteArray
  bad : Bool
def Rd.c (r : Rd) : List C := [slOf 1 (strRows r.ws), .bool r.bad]
def sNil : ByteArray := ⟨#[]⟩
def sLp : ByteArray := ⟨#[40]⟩
def sRp : ByteArray := ⟨#[41]⟩
def sYes : ByteArray := ⟨#[121, 101, 115]⟩
def sNo : ByteArray := ⟨#[110, 111]⟩
def sHash : ByteArray := ⟨#[35]⟩
def Rd.fail (r : Rd) : Rd := ⟨r.ws, true⟩
def Rd.next (r : Rd) : ByteArray × Rd := match r.ws with | [] => (sNil, ⟨[], true⟩) | w :: ws => (w, ⟨ws, r.bad⟩)
/-- The closing bracket. -/
def Rd.close (r : Rd) : Rd := ⟨r.next.2.ws, !sEq r.next.1 sRp || r.next.2.bad⟩
def kAt (s : ByteArray) (op : Bool) (i : Nat) : Bool := sEq (kindsL.getD i sNil) s && ((i == 3) == op)
/-- The first of the last n kinds that fits. -/
def kFrom (s : ByteArray) (op : Bool) : Nat → Option Nat
  | 0 => none
  | n + 1 => if kAt s op (3 - n) then some (3 - n) else kFrom s op n
def wAt (s : ByteArray) (i : Nat) : Bool := !sEq (wordsL.getD i sNil) sNil && sEq (wordsL.getD i sNil) s
def wFrom (s : ByteArray) : Nat → Option Nat
  | 0 => none
  | n + 1 => if wAt s (9 - n) then some (9 - n) else wFrom s n
/-- A type; so many may be within one another. -/
def readK : Nat → Rd → Ty × Rd
  | 0, r => (.any, (if sEq r.next.1 sLp then r.next.2.next else r.next).2.fail)
  | d + 1, r =>
    let op := sEq r.next.1 sLp
    let q := if op then r.next.2.next else r.next
    match kFrom q.1 op 4 with
    | none => (.any, q.2.fail)
    | some k => if op then (.mk k [(readK d q.2).1, (readK d (readK d q.2).2).1], (readK d (readK d q.2).2).2.close) else (.mk k [], q.2)
def numOf (s : ByteArray) : Option Int :=
  match Lib.atoiAll s.data.toList with
  | .ok v => if sEq ⟨(Lib.itoa v).toArray⟩ s then some v else none
  | _ => none
def Rd.number (r : Rd) (s : ByteArray) : Int × Rd := match numOf s with | some v => (v, r) | none => (0, r.fail)
/-- So many terms, one after the other. -/
def readN (f : Rd → Tm × Rd) : Nat → Rd → List Tm × Rd
  | 0, r => ([], r)
  | n + 1, r => ((f r).1 :: (readN f n (f r).2).1, (readN f n (f r).2).2)
/-- A term of a word's kind. -/
def readB (f : Rd → Tm × Rd) (k : Nat) (r : Rd) : Tm × Rd :=
  let t := if (k : Int) == 7 || (k : Int) == 9 then readK 4 r else (.any, r)
  let l := readN f (arity k).toNat t.2
  (.mk k 0 t.1 .any l.1, l.2.close)
/-- A term; so many may be within one another. -/
def readT : Nat → Rd → Tm × Rd
  | 0, r => (Tm.zero, r.next.2.fail)
  | n + 1, r =>
    let s := r.next.1
    let q := r.next.2
    if q.bad then (Tm.zero, q.fail)
    else if sEq s sYes || sEq s sNo then (.mk 3 (if sEq s sYes then 1 else 0) .any .any [], q)
    else if Lib.hasPrefix s.data.toList sHash.data.toList then (.mk 1 (q.number (s.extract 1 s.size)).1 .any .any [], (q.number (s.extract 1 s.size)).2)
    else if !sEq s sLp then (.mk 2 (q.number s).1 .any .any [], (q.number s).2)
    else match wFrom q.next.1 10 with
      | none => (Tm.zero, q.next.2.fail)
      | some k => readB (readT n) k q.next.2
/-- A text's words. -/
def wordsOf (s : ByteArray) : List ByteArray := Lib.goFieldsP (fun x => x == 32 || x == 10) (replaceS (replaceS s sLp ⟨#[32, 40, 32]⟩) sRp ⟨#[32, 41, 32]⟩)
/-- The term of a text, and what was wrong. -/
def parse (s : ByteArray) : Tm × Int :=
  if 1000 < s.size then (Tm.zero, 4)
  else
    let p := readT 40 ⟨wordsOf s, false⟩
    if p.2.bad || decide (0 < p.2.ws.length) || !p.1.Good 0 then (Tm.zero, 1) else (p.1, 0)
theorem next_len (r : Rd) : r.next.2.ws.length ≤ r.ws.length ∧ (r.next.2.bad = false → r.next.2.ws.length + 1 = r.ws.length ∧ r.bad = false) := by
  unfold Rd.next
  split
  · rename_i h; exact ⟨by simp, fun h => by cases h⟩
  · rename_i w ws h; exact ⟨by simp [h], fun hb => ⟨by simp [h], hb⟩⟩
theorem close_len (r : Rd) (h : r.close.bad = false) : r.close.ws.length + 1 = r.ws.length ∧ r.bad = false := by
  unfold Rd.close at h ⊢
  simp only [Bool.or_eq_false_iff] at h
  exact (next_len r).2 h.2
theorem readK_thin : ∀ (d : Nat) (r : Rd), Thin (readK d r).1 ∧ ((readK d r).2.bad = false → (readK d r).2.ws.length + 1 ≤ r.ws.length ∧ r.bad = false)
  | 0, r => by
    refine ⟨Right.any.thin, fun h => ?_⟩
    simp [readK, Rd.fail] at h
  | d + 1, r => by
    have leaf : ∀ k : Int, Thin (.mk k []) := fun k => .mk k [] (by simp) (fun t h => by cases h)
    have hq : ∀ q : ByteArray × Rd, q = (if sEq r.next.1 sLp then r.next.2.next else r.next) → q.2.bad = false → q.2.ws.length + 1 ≤ r.ws.length ∧ r.bad = false := by
      intro q hq hb
      subst hq
      split at hb
      · rename_i h
        obtain ⟨h1, h2⟩ := (next_len r.next.2).2 hb
        obtain ⟨h3, h4⟩ := (next_len r).2 h2
        rw [if_pos h]
        exact ⟨by omega, h4⟩
      · rename_i h
        obtain ⟨h3, h4⟩ := (next_len r).2 hb
        rw [if_neg h]
        exact ⟨by omega, h4⟩
    simp only [readK]
    generalize hqe : (if sEq r.next.1 sLp = true then r.next.2.next else r.next) = q
    have hq := hq q hqe.symm
    cases kFrom q.1 (sEq r.next.1 sLp) 4 with
    | none => exact ⟨Right.any.thin, fun h => by cases h⟩
    | some k =>
      simp only
      split
      · obtain ⟨t1, b1⟩ := readK_thin d q.2
        obtain ⟨t2, b2⟩ := readK_thin d (readK d q.2).2
        refine ⟨.mk _ _ (by simp) fun t ht => ?_, fun h => ?_⟩
        · simp at ht
          rcases ht with rfl | rfl
          · exact t1
          · exact t2
        · obtain ⟨h1, h2⟩ := close_len _ h
          obtain ⟨h3, h4⟩ := b2 h2
          obtain ⟨h5, h6⟩ := b1 h4
          obtain ⟨h7, h8⟩ := hq h6
          exact ⟨by simp only; omega, h8⟩
      · exact ⟨leaf _, hq⟩
theorem atoi_in {l : List UInt8} {v : Int} (h : Lib.atoiAll l = .ok v) : -9223372036854775808 ≤ v ∧ v ≤ 9223372036854775807 := by
  unfold Lib.atoiAll at h
  split at h
  · cases h
  · simp only at h
    split at h
    · cases h
    · cases h
    · split at h
      · cases h
      · rename_i h1
        split at h
        · cases h
        · rename_i h2
          simp only [Lib.NumEnd.ok.injEq] at h
          subst h
          split
          · rename_i h3; simp only [h3, true_and, Nat.not_lt] at h2; omega
          · rename_i h3; simp only [h3, not_false_eq_true, true_and, Nat.not_le] at h1; omega
theorem numOf_in {s : ByteArray} {v : Int} (h : numOf s = some v) : -9223372036854775808 ≤ v ∧ v ≤ 9223372036854775807 := by
  unfold numOf at h
  split at h
  · rename_i hA
    split at h
    · cases h; exact atoi_in hA
    · cases h
  · cases h
theorem number_in (r : Rd) (s : ByteArray) : (r.number s).1 ≤ 9223372036854775807 ∧ ((r.number s).2.bad = false → (r.number s).2 = r) := by
  unfold Rd.number
  split
  · rename_i h; exact ⟨(numOf_in h).2, fun _ => rfl⟩
  · exact ⟨by show (0 : Int) ≤ _; decide, fun h => by cases h⟩
/-- What has been read: of the right form; not more terms than words. -/
def ReadOk (r : Rd) (p : Tm × Rd) : Prop := TmOk p.1 ∧ (p.2.bad = false → p.1.nodes + p.2.ws.length ≤ r.ws.length ∧ r.bad = false)
theorem zero_ok : TmOk Tm.zero := .mk (by decide) Right.any.thin Right.any.thin fun x h => by cases h
theorem leaf_ok {k n : Int} (hn : n ≤ 9223372036854775807) : TmOk (.mk k n .any .any []) := .mk hn Right.any.thin Right.any.thin fun x h => by cases h
theorem readN_ok {f : Rd → Tm × Rd} (hf : ∀ r, ReadOk r (f r)) : ∀ (n : Nat) (r : Rd), (∀ t ∈ (readN f n r).1, TmOk t) ∧ (readN f n r).1.length = n ∧ ((readN f n r).2.bad = false → nodesL (readN f n r).1 + (readN f n r).2.ws.length ≤ r.ws.length ∧ r.bad = false)
  | 0, r => by simp [readN, nodesL]
  | n + 1, r => by
    obtain ⟨h1, h2⟩ := hf r
    obtain ⟨h3, h4, h5⟩ := readN_ok hf n (f r).2
    simp only [readN, List.length_cons, h4, nodesL]
    refine ⟨fun t ht => ?_, trivial, fun hb => ?_⟩
    · rcases List.mem_cons.1 ht with rfl | ht
      · exact h1
      · exact h3 t ht
    · obtain ⟨h6, h7⟩ := h5 hb
      obtain ⟨h8, h9⟩ := h2 h7
      exact ⟨by omega, h9⟩
theorem readT_ok : ∀ (n : Nat) (r : Rd), ReadOk r (readT n r)
  | 0, r => ⟨zero_ok, fun h => by simp [readT, Rd.fail] at h⟩
  | n + 1, r => by
    have hlen := next_len r
    have leafN : ∀ t : Tm, t.l = [] → t.nodes = 1 := fun t h => by rw [nodes_eta, h]; rfl
    simp only [readT]
    cases hb : r.next.2.bad with
    | true => exact ⟨zero_ok, fun h => by simp [Rd.fail] at h⟩
    | false =>
      obtain ⟨hl, hbad⟩ := hlen.2 hb
      simp only [Bool.false_eq_true, if_false]
      split
      · exact ⟨leaf_ok (by split <;> decide), fun _ => ⟨by rw [leafN _ rfl]; simp only; omega, hbad⟩⟩
      split
      · obtain ⟨h1, h2⟩ := number_in r.next.2 (r.next.1.extract 1 r.next.1.size)
        exact ⟨leaf_ok h1, fun h => ⟨by rw [leafN _ rfl]; simp only at h ⊢; rw [h2 h]; omega, hbad⟩⟩
      split
      · obtain ⟨h1, h2⟩ := number_in r.next.2 r.next.1
        exact ⟨leaf_ok h1, fun h => ⟨by rw [leafN _ rfl]; simp only at h ⊢; rw [h2 h]; omega, hbad⟩⟩
      · have hlen2 := next_len r.next.2
        split
        · exact ⟨zero_ok, fun h => by simp [Rd.fail] at h⟩
        · rename_i k _
          simp only [readB]
          have ht : ∀ t : Ty × Rd, t = (if ((k : Int) == 7 || (k : Int) == 9) = true then readK 4 r.next.2.next.2 else (.any, r.next.2.next.2)) → Thin t.1 ∧ (t.2.bad = false → t.2.ws.length ≤ r.next.2.next.2.ws.length ∧ r.next.2.next.2.bad = false) := by
            intro t ht
            subst ht
            split
            · obtain ⟨h1, h2⟩ := readK_thin 4 r.next.2.next.2
              exact ⟨h1, fun h => ⟨by have := (h2 h).1; omega, (h2 h).2⟩⟩
            · exact ⟨Right.any.thin, fun h => ⟨Nat.le_refl _, h⟩⟩
          generalize hte : (if ((k : Int) == 7 || (k : Int) == 9) = true then readK 4 r.next.2.next.2 else (Ty.any, r.next.2.next.2)) = t
          obtain ⟨h1, h2⟩ := ht t hte.symm
          obtain ⟨h3, h4, h5⟩ := readN_ok (readT_ok n) (arity k).toNat t.2
          refine ⟨.mk (by simp) h1 Right.any.thin h3, fun h => ?_⟩
          obtain ⟨h6, h7⟩ := close_len _ h
          obtain ⟨h8, h9⟩ := h5 h7
          obtain ⟨h10, h11⟩ := h2 h9
          obtain ⟨h12, h13⟩ := hlen2.2 h11
          refine ⟨?_, hbad⟩
          simp only [Tm.nodes]
          omega
end Go.Proofs.YtnflnbdlgdjfmabGreatDoor
namespace Go.Proofs.YtnflnbdlgdjfmabGreatDoor
set_option linter.unusedVariables false
set_option linter.unusedSimpArgs false
def kTxt (k : Int) : List UInt8 := (kindsL.getD k.toNat sNil).data.toList
def wTxt (k : Int) : List UInt8 := (wordsL.getD k.toNat sNil).data.toList
mutual
/-- The text of a type. -/
def tyTxt : Ty → List UInt8
  | .mk k l => if k == 3 then 40 :: (kTxt k ++ tyTxtL l) ++ [41] else kTxt k ++ tyTxtL l
def tyTxtL : List Ty → List UInt8
  | [] => []
  | a :: l => 32 :: tyTxt a ++ tyTxtL l
end
theorem tyTxt_eta (a : Ty) : tyTxt a = if a.k == 3 then 40 :: (kTxt a.k ++ tyTxtL a.l) ++ [41] else kTxt a.k ++ tyTxtL a.l := by cases a; simp only [tyTxt, Ty.k_mk, Ty.l_mk]; rfl
mutual
/-- The text of a term. -/
def tmTxt : Tm → List UInt8
  | .mk k n t _ l =>
    if k == 1 then 35 :: Lib.itoa n
    else if k == 2 then Lib.itoa n
    else if k == 3 then (if n == 1 then sYes.data.toList else sNo.data.toList)
    else 40 :: (wTxt k ++ ((if k == 7 || k == 9 then 32 :: tyTxt t else []) ++ tmTxtL l)) ++ [41]
def tmTxtL : List Tm → List UInt8
  | [] => []
  | a :: l => 32 :: tmTxt a ++ tmTxtL l
end
theorem tmTxt_eta (a : Tm) : tmTxt a = if a.k == 1 then 35 :: Lib.itoa a.n
    else if a.k == 2 then Lib.itoa a.n
    else if a.k == 3 then (if a.n == 1 then sYes.data.toList else sNo.data.toList)
    else 40 :: (wTxt a.k ++ ((if a.k == 7 || a.k == 9 then 32 :: tyTxt a.t else []) ++ tmTxtL a.l)) ++ [41] := by cases a; simp only [tmTxt, Tm.k, Tm.n, Tm.t, Tm.l]; rfl
mutual
def tyTok : Ty → List (List UInt8)
  | .mk k l => if k == 3 then [40] :: kTxt k :: tyTokL l ++ [[41]] else [kTxt k]
def tyTokL : List Ty → List (List UInt8)
  | [] => []
  | a :: l => tyTok a ++ tyTokL l
end
mutual
def tmTok : Tm → List (List UInt8)
  | .mk k n t _ l =>
    if k == 1 then [35 :: Lib.itoa n]
    else if k == 2 then [Lib.itoa n]
    else if k == 3 then [if n == 1 then sYes.data.toList else sNo.data.toList]
    else [40] :: wTxt k :: ((if k == 7 || k == 9 then tyTok t else []) ++ tmTokL l) ++ [[41]]
def tmTokL : List Tm → List (List UInt8)
  | [] => []
  | a :: l => tmTok a ++ tmTokL l
end
def plainB (b : UInt8) : Bool := !isSpB b && b != 40 && b != 41
theorem toks_run {xs : List UInt8} (h : ∀ b ∈ xs, plainB b = true) (cur l : List UInt8) : toks cur (xs ++ l) = toks (cur ++ xs) l := by
  induction xs generalizing cur with
  | nil => simp
  | cons x xs ih =>
    have hx := h x (by simp)
    simp only [plainB, Bool.and_eq_true, Bool.not_eq_true', bne_iff_ne] at hx
    simp only [List.cons_append, toks, hx.1.1, Bool.false_eq_true, if_false]
    rw [if_neg (by simp [hx.1.2, hx.2]), ih (fun b hb => h b (by simp [hb])), List.append_assoc]
    rfl
/-- What stands behind a word. -/
def SepB (l : List UInt8) : Prop := l = [] ∨ ∃ c r, l = c :: r ∧ plainB c = false
theorem toks_sep {l : List UInt8} (h : SepB l) (w : List UInt8) : toks w l = flushW w ++ toks [] l := by
  rcases h with rfl | ⟨c, r, rfl, h⟩
  · simp [toks, flushW]
  · simp only [toks]
    by_cases h1 : isSpB c = true
    · simp [h1, flushW]
    · have h2 : (c == 40 || c == 41) = true := by
        simp only [plainB] at h
        simp only [Bool.not_eq_true] at h1
        rw [h1] at h
        by_cases h3 : c = 40
        · simp [h3]
        · by_cases h4 : c = 41
          · simp [h4]
          · simp [h3, h4] at h
      simp [h1, h2, flushW]
theorem toks_word {w l : List UInt8} (h : ∀ b ∈ w, plainB b = true) (hne : w ≠ []) (hs : SepB l) : toks [] (w ++ l) = w :: toks [] l := by
  rw [toks_run h, List.nil_append, toks_sep hs]; simp [flushW, hne]
theorem toks_open (l : List UInt8) : toks [] (40 :: l) = [40] :: toks [] l := by simp [toks, isSpB, flushW]
theorem toks_close (l : List UInt8) : toks [] (41 :: l) = [41] :: toks [] l := by simp [toks, isSpB, flushW]
theorem wTxt_ok {k : Int} (h : k = 4 ∨ k = 5 ∨ k = 6 ∨ k = 7 ∨ k = 8 ∨ k = 9) : (∀ b ∈ wTxt k, plainB b = true) ∧ wTxt k ≠ [] := by
  rcases h with rfl | rfl | rfl | rfl | rfl | rfl <;> exact ⟨by decide, by decide⟩
theorem dig_ok (d : Nat) (h : d < 10) : plainB (UInt8.ofNat (48 + d)) = true ∧ 48 ≤ (UInt8.ofNat (48 + d)).toNat ∧ (UInt8.ofNat (48 + d)).toNat ≤ 57 ∧ (UInt8.ofNat (48 + d)).toNat - 48 = d := by
  have : d = 0 ∨ d = 1 ∨ d = 2 ∨ d = 3 ∨ d = 4 ∨ d = 5 ∨ d = 6 ∨ d = 7 ∨ d = 8 ∨ d = 9 := by omega
  rcases this with rfl | rfl | rfl | rfl | rfl | rfl | rfl | rfl | rfl | rfl <;> decide
theorem dec_ok (u : Nat) : (∀ b ∈ Lib.decDigits u, plainB b = true ∧ 48 ≤ b.toNat ∧ b.toNat ≤ 57) ∧ Lib.decDigits u ≠ [] := by
  induction u using Nat.strongRecOn with
  | _ u ih =>
    by_cases h : u < 10
    · rw [Lib.decDigits, dif_pos h]
      refine ⟨fun b hb => ?_, by simp⟩
      rw [List.mem_singleton.1 hb]
      obtain ⟨h1, h2, h3, _⟩ := dig_ok u h
      exact ⟨h1, h2, h3⟩
    · rw [Lib.decDigits, dif_neg h]
      refine ⟨fun b hb => ?_, by simp⟩
      rcases List.mem_append.1 hb with hb | hb
      · exact (ih (u / 10) (by omega)).1 b hb
      · rw [List.mem_singleton.1 hb]
        obtain ⟨h1, h2, h3, _⟩ := dig_ok (u % 10) (by omega)
        exact ⟨h1, h2, h3⟩
theorem parse_dec (u : Nat) (hu : u < 1000000000000) (r : List UInt8) : Lib.parseUint10 0 (Lib.decDigits u ++ r) = Lib.parseUint10 u r := by
  induction u using Nat.strongRecOn generalizing r with
  | _ u ih =>
    by_cases h : u < 10
    · rw [Lib.decDigits, dif_pos h]
      obtain ⟨_, h2, h3, h4⟩ := dig_ok u h
      simp only [List.singleton_append, Lib.parseUint10]
      rw [if_pos ⟨h2, h3⟩, if_neg (by omega), if_neg (by omega), h4]
      simp
    · rw [Lib.decDigits, dif_neg h, List.append_assoc, ih (u / 10) (by omega) (by omega)]
      obtain ⟨_, h2, h3, h4⟩ := dig_ok (u % 10) (by omega)
      simp only [List.singleton_append, Lib.parseUint10]
      rw [if_pos ⟨h2, h3⟩, if_neg (by omega), if_neg (by omega), h4]
      congr 1
      omega
theorem itoa_ok (n : Int) : (∀ b ∈ Lib.itoa n, plainB b = true ∧ (b = 45 ∨ 48 ≤ b.toNat ∧ b.toNat ≤ 57)) ∧ Lib.itoa n ≠ [] := by
  unfold Lib.itoa
  split
  · refine ⟨fun b hb => ?_, by simp⟩
    rcases List.mem_cons.1 hb with rfl | hb
    · exact ⟨by decide, .inl rfl⟩
    · exact ⟨((dec_ok _).1 b hb).1, .inr ((dec_ok _).1 b hb).2⟩
  · exact ⟨fun b hb => ⟨((dec_ok _).1 b hb).1, .inr ((dec_ok _).1 b hb).2⟩, (dec_ok _).2⟩
theorem atoi_itoa (n : Int) (h : -1000000000 ≤ n ∧ n ≤ 1000000000) : Lib.atoiAll (Lib.itoa n) = .ok n := by
  have hp : ∀ u : Nat, u < 1000000000000 → Lib.parseMag (Lib.decDigits u) = .ok u := fun u hu => by
    unfold Lib.parseMag
    rw [if_neg (dec_ok u).2]
    have := parse_dec u hu []
    rw [List.append_nil] at this
    rw [this]; rfl
  unfold Lib.itoa
  split
  · rename_i hn
    unfold Lib.atoiAll
    simp only [show (45 : UInt8).toNat = 45 from rfl, or_true, if_true]
    rw [hp _ (by omega)]
    simp only [not_true_eq_false, false_and, if_false, true_and, if_true]
    rw [if_neg (by omega)]
    congr 1; omega
  · rename_i hn
    have hd := hp n.toNat (by omega)
    have hb := (dec_ok n.toNat).1
    have hne := (dec_ok n.toNat).2
    generalize Lib.decDigits n.toNat = l at *
    cases l with
    | nil => exact absurd rfl hne
    | cons c r =>
      have hc := hb c (by simp)
      unfold Lib.atoiAll
      dsimp only
      rw [if_neg (by omega), hd]
      dsimp only
      have h45 : ¬ c.toNat = 45 := by omega
      simp only [h45, not_false_eq_true, true_and, false_and, if_false]
      rw [if_neg (by omega)]
      congr 1; omega
def mkB (l : List UInt8) : ByteArray := ⟨l.toArray⟩
theorem mkB_l (l : List UInt8) : (mkB l).data.toList = l := by simp [mkB]
theorem mkB_of (s : ByteArray) : mkB s.data.toList = s := by cases s; simp [mkB]
theorem sEq_mk (a b : List UInt8) : sEq (mkB a) (mkB b) = (a == b) := by simp [sEq, mkB_l]
theorem sEq_mkl (a : List UInt8) (b : ByteArray) : sEq (mkB a) b = (a == b.data.toList) := by simp [sEq, mkB_l]
theorem sEq_mkr (a : ByteArray) (b : List UInt8) : sEq a (mkB b) = (a.data.toList == b) := by simp [sEq, mkB_l]
theorem numOf_itoa (n : Int) (h : -1000000000 ≤ n ∧ n ≤ 1000000000) : numOf (mkB (Lib.itoa n)) = some n := by
  unfold numOf
  rw [mkB_l, atoi_itoa n h]
  simp only
  rw [show (⟨(Lib.itoa n).toArray⟩ : ByteArray) = mkB (Lib.itoa n) from rfl, sEq_mk]
  simp
theorem next_cons (w : ByteArray) (ws : List ByteArray) (b : Bool) : (Rd.mk (w :: ws) b).next = (w, ⟨ws, b⟩) := rfl
theorem close_ok (ws : List ByteArray) (b : Bool) : (Rd.mk (mkB [41] :: ws) b).close = ⟨ws, b⟩ := by
  simp only [Rd.close, next_cons]
  rw [show sEq (mkB [41]) sRp = true from rfl]
  simp
theorem kFrom_base {k : Int} (h : k = 0 ∨ k = 1 ∨ k = 2) : kFrom (mkB (kTxt k)) false 4 = some k.toNat ∧ sEq (mkB (kTxt k)) sLp = false := by
  rcases h with rfl | rfl | rfl <;> exact ⟨by decide, by decide⟩
theorem kFrom_fn : kFrom (mkB (kTxt 3)) true 4 = some 3 := by decide
theorem ty_back : ∀ (d : Nat) (a : Ty), a.good d = true → ∀ ws b, readK d ⟨(tyTok a).map mkB ++ ws, b⟩ = (a, ⟨ws, b⟩)
  | 0, a, h, _, _ => by simp [Ty.good] at h
  | d + 1, .mk k l, h, ws, b => by
    have hr := good_right h
    cases hr with
    | base hk =>
      have h3 : (k == 3) = false := by rw [beq_eq_false_iff_ne]; omega
      obtain ⟨h1, h2⟩ := kFrom_base hk
      simp only [tyTok, h3, Bool.false_eq_true, if_false, List.map_cons, List.map_nil, List.singleton_append, readK, next_cons, h2, h1]
      congr 2
      omega
    | @fn x y hx hy =>
      simp only [Ty.good, bne_self_eq_false, Bool.false_eq_true, if_false, Bool.and_eq_true] at h
      have ih1 := ty_back d x h.2.1
      have ih2 := ty_back d y h.2.2
      simp only [tyTok, tyTokL, beq_self_eq_true, if_true, List.append_nil, List.map_cons, List.map_append, List.map_nil, List.cons_append, List.append_assoc, List.nil_append, readK, next_cons]
      rw [show sEq (mkB [40]) sLp = true from rfl]
      simp only [if_true, next_cons, kFrom_fn, ih1, ih2, close_ok]
      rfl
theorem wFrom_ok {k : Int} (h : k = 4 ∨ k = 5 ∨ k = 6 ∨ k = 7 ∨ k = 8 ∨ k = 9) : wFrom (mkB (wTxt k)) 10 = some k.toNat := by
  rcases h with rfl | rfl | rfl | rfl | rfl | rfl <;> decide
theorem good_f {a : Tm} {ar ow : Int} (h : a.good ar ow = true) : a.f = .any := by
  rw [goodT_eta, Bool.and_eq_true] at h
  have h := h.1
  simp only [Tm.fit, Bool.and_eq_true] at h
  exact same_eq h.1.1.2
/-- A number's word is no other word. -/
theorem num_word {l : List UInt8} {n : Int} (hl : l = Lib.itoa n) : sEq (mkB l) sYes = false ∧ sEq (mkB l) sNo = false ∧ Lib.hasPrefix (mkB l).data.toList sHash.data.toList = false ∧ sEq (mkB l) sLp = false := by
  obtain ⟨h1, h2⟩ := itoa_ok n
  rw [← hl] at h1 h2
  cases l with
  | nil => exact absurd rfl h2
  | cons c r =>
    have hc := (h1 c (by simp)).2
    have hne : c ≠ 121 ∧ c ≠ 110 ∧ c ≠ 35 ∧ c ≠ 40 := by
      refine ⟨?_, ?_, ?_, ?_⟩ <;> (rintro rfl; revert hc; decide)
    refine ⟨?_, ?_, ?_, ?_⟩
    · rw [sEq_mkl]; simp [sYes, hne.1]
    · rw [sEq_mkl]; simp [sNo, hne.2.1]
    · rw [mkB_l]
      unfold Lib.hasPrefix
      simp [sHash, List.isPrefixOf]
      exact fun h => hne.2.2.1 h.symm
    · rw [sEq_mkl]; simp [sLp, hne.2.2.2]
theorem tm_back : ∀ (m : Nat) (a : Tm) (ar ow : Int), a.good ar ow = true → a.nodes ≤ m → ar + ow + a.nodes ≤ 1000000 → ∀ ws, readT m ⟨(tmTok a).map mkB ++ ws, false⟩ = (a, ⟨ws, false⟩)
  | 0, a, _, _, _, h, _, _ => by have := nodes_pos a; omega
  | m + 1, a, ar, ow, hg, hm, hb, ws => by
    have hf := good_f hg
    have hne := nodes_eta a
    obtain ⟨k, n, t, f, x⟩ := a
    simp only [Tm.f] at hf
    subst hf
    rcases good_cases hg with ⟨e, el, n0, n1, et⟩ | ⟨e, el, en, et⟩ | ⟨e, el, en, et⟩ | ⟨e, en, et, x, y, el, h1, h2⟩ | ⟨e, en, et, x, y, z, el, h1, h2, h3⟩ | ⟨e, en, ht, x, el, h1⟩ | ⟨e, en, ht, x, el, h1⟩ <;> simp only [Tm.k, Tm.n, Tm.t, Tm.l] at *
    · subst e; subst el; subst et
      simp only [tmTok, beq_self_eq_true, if_true, List.map_cons, List.map_nil, List.singleton_append, readT, next_cons]
      rw [sEq_mkl, sEq_mkl, mkB_l]
      have hx1 : ((35 : UInt8) :: Lib.itoa n == sYes.data.toList) = false := by simp [sYes]
      have hx2 : ((35 : UInt8) :: Lib.itoa n == sNo.data.toList) = false := by simp [sNo]
      have hx3 : Lib.hasPrefix ((35 : UInt8) :: Lib.itoa n) sHash.data.toList = true := by unfold Lib.hasPrefix; simp [sHash, List.isPrefixOf]
      have hx4 : (mkB (35 :: Lib.itoa n)).extract 1 (mkB (35 :: Lib.itoa n)).size = mkB (Lib.itoa n) := by
        rw [Lib.extract_eq, mkB_l]
        unfold mkB
        congr 2
        show ((Lib.itoa n).take _) = _
        apply List.take_of_length_le
        show (Lib.itoa n).length ≤ (ByteArray.mk (35 :: Lib.itoa n).toArray).size - 1
        simp [ByteArray.size]
      simp only [hx1, hx2, hx3, hx4, Bool.or_self, Bool.false_eq_true, if_false, if_true]
      unfold Rd.number
      rw [numOf_itoa n (by simp only [nodesL] at hne; omega)]
    · subst e; subst el; subst et
      obtain ⟨w1, w2, w3, w4⟩ := num_word (l := Lib.itoa n) rfl
      have hnb := inB_iff.1 en
      simp only [tmTok, show ((2 : Int) == 1) = false from rfl, beq_self_eq_true, if_true, Bool.false_eq_true, if_false, List.map_cons, List.map_nil, List.singleton_append, readT, next_cons, w1, w2, w3, w4, Bool.or_self, Bool.not_false]
      unfold Rd.number
      rw [numOf_itoa n (by omega)]
    · subst e; subst el; subst et
      simp only [tmTok, show ((3 : Int) == 1) = false from rfl, show ((3 : Int) == 2) = false from rfl, beq_self_eq_true, if_true, Bool.false_eq_true, if_false, List.map_cons, List.map_nil, List.singleton_append, readT, next_cons]
      rcases en with rfl | rfl
      · rw [show mkB (if ((0 : Int) == 1) = true then sYes.data.toList else sNo.data.toList) = sNo from rfl, show sEq sNo sYes = false from rfl, show sEq sNo sNo = true from rfl]
        rfl
      · rw [show mkB (if ((1 : Int) == 1) = true then sYes.data.toList else sNo.data.toList) = sYes from rfl, show sEq sYes sYes = true from rfl]
        rfl
    · subst el; subst et; subst en
      have ih1 := fun ws => tm_back m x _ _ h1 (by simp only [nodesL] at hne; omega) (by simp only [nodesL] at hne; omega) ws
      have ih2 := fun ws => tm_back m y _ _ h2 (by simp only [nodesL] at hne; omega) (by simp only [nodesL] at hne; omega) ws
      have e1 : (k == 1) = false := by rw [beq_eq_false_iff_ne]; omega
      have e2 : (k == 2) = false := by rw [beq_eq_false_iff_ne]; omega
      have e3 : (k == 3) = false := by rw [beq_eq_false_iff_ne]; omega
      have e7 : (k == 7) = false := by rw [beq_eq_false_iff_ne]; omega
      have e9 : (k == 9) = false := by rw [beq_eq_false_iff_ne]; omega
      have hw := wFrom_ok (k := k) (by omega)
      have hkk : ((k.toNat : Nat) : Int) = k := by omega
      have har : (arity k).toNat = 2 := by rcases e with rfl | rfl | rfl <;> rfl
      simp only [tmTok, tmTokL, e1, e2, e3, e7, e9, Bool.or_self, Bool.false_eq_true, if_false, List.nil_append, List.append_nil, List.map_cons, List.map_append, List.map_nil, List.cons_append, List.append_assoc, readT, next_cons]
      rw [show sEq (mkB [40]) sYes = false from rfl, show sEq (mkB [40]) sNo = false from rfl, show Lib.hasPrefix (mkB [40]).data.toList sHash.data.toList = false from rfl, show sEq (mkB [40]) sLp = true from rfl]
      simp only [Bool.or_self, Bool.false_eq_true, if_false, Bool.not_true, hw, readB, hkk, e7, e9, har, readN, ih1, ih2, close_ok]
    · subst el; subst et; subst en; subst e
      have ih1 := fun ws => tm_back m x _ _ h1 (by simp only [nodesL] at hne; omega) (by simp only [nodesL] at hne; omega) ws
      have ih2 := fun ws => tm_back m y _ _ h2 (by simp only [nodesL] at hne; omega) (by simp only [nodesL] at hne; omega) ws
      have ih3 := fun ws => tm_back m z _ _ h3 (by simp only [nodesL] at hne; omega) (by simp only [nodesL] at hne; omega) ws
      have hw := wFrom_ok (k := 6) (by omega)
      simp only [tmTok, tmTokL, show ((6 : Int) == 1) = false from rfl, show ((6 : Int) == 2) = false from rfl, show ((6 : Int) == 3) = false from rfl, show ((6 : Int) == 7) = false from rfl, show ((6 : Int) == 9) = false from rfl, Bool.or_self, Bool.false_eq_true, if_false, List.nil_append, List.append_nil, List.map_cons, List.map_append, List.map_nil, List.cons_append, List.append_assoc, readT, next_cons]
      rw [show sEq (mkB [40]) sYes = false from rfl, show sEq (mkB [40]) sNo = false from rfl, show Lib.hasPrefix (mkB [40]).data.toList sHash.data.toList = false from rfl, show sEq (mkB [40]) sLp = true from rfl]
      simp only [Bool.or_self, Bool.false_eq_true, if_false, Bool.not_true, hw, readB, show (((6 : Int).toNat : Nat) : Int) = 6 from rfl, show ((6 : Int) == 7) = false from rfl, show ((6 : Int) == 9) = false from rfl, show (arity 6).toNat = 3 from rfl, readN, ih1, ih2, ih3, close_ok]
    · subst el; subst en; subst e
      have ih1 := fun ws => tm_back m x _ _ h1 (by simp only [nodesL] at hne; omega) (by simp only [nodesL] at hne; omega) ws
      have iht := ty_back 4 t ht
      have hw := wFrom_ok (k := 7) (by omega)
      simp only [tmTok, tmTokL, show ((7 : Int) == 1) = false from rfl, show ((7 : Int) == 2) = false from rfl, show ((7 : Int) == 3) = false from rfl, beq_self_eq_true, Bool.true_or, if_true, Bool.false_eq_true, if_false, List.nil_append, List.append_nil, List.map_cons, List.map_append, List.map_nil, List.cons_append, List.append_assoc, readT, next_cons]
      rw [show sEq (mkB [40]) sYes = false from rfl, show sEq (mkB [40]) sNo = false from rfl, show Lib.hasPrefix (mkB [40]).data.toList sHash.data.toList = false from rfl, show sEq (mkB [40]) sLp = true from rfl]
      simp only [Bool.or_self, Bool.false_eq_true, if_false, Bool.not_true, hw, readB, show (((7 : Int).toNat : Nat) : Int) = 7 from rfl, beq_self_eq_true, Bool.true_or, if_true, show (arity 7).toNat = 1 from rfl, readN, iht, ih1, close_ok]
    · subst el; subst en; subst e
      have ih1 := fun ws => tm_back m x _ _ h1 (by simp only [nodesL] at hne; omega) (by simp only [nodesL] at hne; omega) ws
      have iht := ty_back 4 t ht
      have hw := wFrom_ok (k := 9) (by omega)
      simp only [tmTok, tmTokL, show ((9 : Int) == 1) = false from rfl, show ((9 : Int) == 2) = false from rfl, show ((9 : Int) == 3) = false from rfl, beq_self_eq_true, Bool.or_true, if_true, Bool.false_eq_true, if_false, List.nil_append, List.append_nil, List.map_cons, List.map_append, List.map_nil, List.cons_append, List.append_assoc, readT, next_cons]
      rw [show sEq (mkB [40]) sYes = false from rfl, show sEq (mkB [40]) sNo = false from rfl, show Lib.hasPrefix (mkB [40]).data.toList sHash.data.toList = false from rfl, show sEq (mkB [40]) sLp = true from rfl]
      simp only [Bool.or_self, Bool.false_eq_true, if_false, Bool.not_true, hw, readB, show (((9 : Int).toNat : Nat) : Int) = 9 from rfl, beq_self_eq_true, Bool.or_true, if_true, show (arity 9).toNat = 1 from rfl, readN, iht, ih1, close_ok]
theorem words_toks (s : ByteArray) : wordsOf s = (toks [] s.data.toList).map mkB := by
  have h1 := fieldsP_eq (fun x => x == 32 || x == 10) (fun _ => rfl) (replaceS (replaceS s sLp ⟨#[32, 40, 32]⟩) sRp ⟨#[32, 41, 32]⟩)
  have h2 : (replaceS (replaceS s sLp ⟨#[32, 40, 32]⟩) sRp ⟨#[32, 41, 32]⟩).data.toList = s.data.toList.flatMap padB := by
    unfold replaceS
    simp only [sLp, sRp]
    exact replace_both _
  rw [h2, spl_pad] at h1
  rw [← h1, List.map_map]
  unfold wordsOf
  rw [show (mkB ∘ fun (x : ByteArray) => x.data.toList) = id from funext mkB_of, List.map_id]
/-- The text of a term, and whether it has one. -/
def print (a : Tm) : ByteArray × Int := if a.Good 0 then (if 1000 < (tmTxt a).length then (sNil, 4) else (mkB (tmTxt a), 0)) else (sNil, 1)
end Go.Proofs.YtnflnbdlgdjfmabGreatDoor
namespace Go.Proofs.YtnflnbdlgdjfmabGreatDoor
open Go.RowKit
set_option linter.unusedVariables false
set_option linter.unusedSimpArgs false
def NoGo (Q : Exit → (Nat → U) → (Nat → Option Blk) → Prop) : Exit → (Nat → U) → (Nat → Option Blk) → Prop
  | .goto _, _, _ => False
  | e, t, h => Q e t h
theorem AW.scope {P : Program} {n : Nat} {c : Code} {t : Nat → U} {h : Nat → Option Blk} {d : List Nat} {Q : Exit → (Nat → U) → (Nat → Option Blk) → Prop} (hw : AW P n c t h d (NoGo Q)) : AW P n (.scope c) t h d Q := fun E a w hn S =>
  wp_scope_straight (wp_mono (hw E a w hn S) fun e a' w' ⟨t', h', S', q⟩ => by
    cases e <;> first | exact q.elim | exact ⟨t', h', S', q⟩)
theorem acalls_at {P : Program} {f : FuncId} {args : List U} {r : U} (h : ACalls P f args [] r []) (F : Nat → Prop) (ρ : Nat → Lc) (w : World) (vals : List Value) (H : HRel F ρ (ofL []) w) (ha : All2 (fun u v => relU F ρ w u v ∧ okU (ofL []) u) args vals) :
    Calls P f vals.toArray w fun e w' => ∃ v F' ρ', e = .returned v ∧ Moves (namesL []) F ρ (ofL []) w F' ρ' (ofL []) w' ∧ relU F' ρ' w' r v ∧ okU (ofL []) r := h.2 F ρ w vals H ha
/-- The bytes of a text, as cells. -/
def byteRows (l : List UInt8) : List (List C) := l.map fun b => [.int .u8 (b.toNat : Int)]
section ops
variable {P : Program} {s : St} {dst : Option Tmp} {rt : TypeId} {pos : String} {after : Array Edge} {guard : Option (Nat × Bool)}
theorem loc_indexStr {t : TypeId} {x y : Operand} {k : IntKind} {l : List UInt8} {n : Int} {c : UInt8} [T : TStr P t] (hx' : opU s.t x = .one (.str (mkB l))) (hy' : opU s.t y = .one (.int k n)) (h0 : 0 ≤ n) (hc : l[n.toNat]? = some c) : LocOp P ⟨dst, .index t x y, rt, pos, after, guard⟩ s [] [] (.one (.int .u8 (c.toNat : Int))) :=
  loc_run fun F ρ h w ev H hx => by
    have h1 := (hx x (by simp [Op.operands])).1
    have h2 := (hx y (by simp [Op.operands])).1
    rw [hx'] at h1
    rw [hy'] at h2
    have h1 : ev x = .string (mkB l) := h1
    have h2 : ev y = .int k n := h2
    have hl := (List.getElem?_eq_some_iff.1 hc).1
    have hsz : (mkB l).size = l.length := by simp [mkB, ByteArray.size]
    have hi : 0 ≤ n ∧ n < ((mkB l).size : Int) := ⟨h0, by rw [hsz]; omega⟩
    have := run_index_string w t (mkB l) k n T.ok
    rw [dif_pos hi] at this
    refine ⟨_, by simp only [execOp, h1, h2]; simp [this]; rfl, ?_, trivial⟩
    show Value.int .u8 _ = Value.int .u8 _
    have hb : (mkB l)[n.toNat]'(by omega) = c := by
      have h3 := (List.getElem?_eq_some_iff.1 hc).2
      rw [← h3]
      show (mkB l).data[n.toNat]'_ = _
      simp [mkB]
    rw [hb]
theorem loc_sliceStrLo {t : TypeId} {x y : Operand} {k : IntKind} {l : List UInt8} {n : Int} [T : TStr P t] (hx' : opU s.t x = .one (.str (mkB l))) (hy' : opU s.t y = .one (.int k n)) (h0 : 0 ≤ n) (h1 : n ≤ (l.length : Int)) : LocOp P ⟨dst, .slice t x (some y) none none, rt, pos, after, guard⟩ s [] [] (.one (.str (mkB (l.drop n.toNat)))) :=
  loc_run fun F ρ h w ev H hx => by
    have h2 := (hx x (by simp [Op.operands])).1
    have h3 := (hx y (by simp [Op.operands])).1
    rw [hx'] at h2
    rw [hy'] at h3
    have h2 : ev x = .string (mkB l) := h2
    have h3 : ev y = .int k n := h3
    have hsz : (mkB l).size = l.length := by simp [mkB, ByteArray.size]
    have hb : 0 ≤ n ∧ n ≤ ((mkB l).size : Int) := ⟨h0, by rw [hsz]; exact h1⟩
    refine ⟨.string ((mkB l).extract n.toNat (mkB l).size), ?_, ?_, trivial⟩
    · have := run_slice_string_from_if w t (mkB l) k n T.ok
      rw [if_pos hb] at this
      simp only [execOp, h2, h3, Option.map_some, Option.map_none]
      simp [run_sliceAt_string w t _ _ _ _ T.ok, this]
    · show Value.string _ = Value.string _
      rw [Lib.extract_eq, mkB_l, hsz, List.take_of_length_le (by simp)]
      rfl
theorem loc_sliceStrHi {t : TypeId} {x y : Operand} {k : IntKind} {l : List UInt8} {n : Int} [T : TStr P t] (hx' : opU s.t x = .one (.str (mkB l))) (hy' : opU s.t y = .one (.int k n)) (h0 : 0 ≤ n) (h1 : n ≤ (l.length : Int)) : LocOp P ⟨dst, .slice t x none (some y) none, rt, pos, after, guard⟩ s [] [] (.one (.str (mkB (l.take n.toNat)))) :=
  loc_run fun F ρ h w ev H hx => by
    have h2 := (hx x (by simp [Op.operands])).1
    have h3 := (hx y (by simp [Op.operands])).1
    rw [hx'] at h2
    rw [hy'] at h3
    have h2 : ev x = .string (mkB l) := h2
    have h3 : ev y = .int k n := h3
    have hsz : (mkB l).size = l.length := by simp [mkB, ByteArray.size]
    refine ⟨.string ((mkB l).extract 0 n.toNat), ?_, ?_, trivial⟩
    · have := run_slice_string_h w (t := t) (s := mkB l) T.ok k n h0 (by rw [hsz]; exact h1)
      simp only [execOp, h2, h3, Option.map_some, Option.map_none]
      simp [run_sliceAt_string w t _ _ _ _ T.ok, this]
    · show Value.string _ = Value.string _
      rw [Lib.extract_eq, mkB_l]
      rfl
/-- The bytes of a text. -/
theorem loc_convBytes {src d e : TypeId} {x : Operand} {l : List UInt8} (hx' : opU s.t x = .one (.str (mkB l))) (hs : P.underlying src = some .string) (hd : P.underlying d = some (.slice e)) (he : P.underlying e = some (.int .u8)) (hm : l.length ≤ maxLen) : LocOp P ⟨dst, .convert src d x, rt, pos, after, guard⟩ s [] [] (.one (slOf 1 (byteRows l))) := by
  intro F ρ h w a Q H _ hx
  have hx := opU_rel H hx
  have h1 := (hx x (by simp [Op.operands])).1
  rw [hx'] at h1
  have h1 : a.eval x = .string (mkB l) := h1
  have hsz : (mkB l).size = l.length := by simp [mkB, ByteArray.size]
  have hrun := Lib.run_convert_string_bytes (P := P) w src d e (mkB l) hs hd he
  have hexec : (execOp a.eval (⟨dst, .convert src d x, rt, pos, after, guard⟩ : Oper)).run P w = .ok (.value (.slice (some ⟨w.heap.size, 0, none⟩) (mkB l).size (grownCap w (mkB l).size 0 e))) (Lib.bytesWorld w e (mkB l)) := by
    show (do pure (Next.value (← convert src d (a.eval x))) : Sem Next).run P w = _
    rw [h1, Sem.run_bind, hrun]
    rfl
  unfold Oper.wp
  rw [hexec]
  have hbelow : Below w.heap.size w (Lib.bytesWorld w e (mkB l)) := Joins.below_bytesWorld _ _ _ _ (Nat.le_refl _)
  have hsize := Lib.bytesWorld_size w e (mkB l)
  have hM : Moves s.d F ρ h w (fun b => F b ∨ b = w.heap.size) ρ h (Lib.bytesWorld w e (mkB l)) := moves_quiet H hbelow (fun _ h => .inl h) (fun b hb => hb.imp id fun e => Nat.le_of_eq e.symm) (fun b hb => by
    rw [hsize]
    rcases hb with h1 | h1
    · exact Nat.lt_succ_of_lt (H.lt b h1)
    · rw [h1]; exact Nat.lt_succ_self _)
  have hn : (byteRows l).length = l.length := by simp [byteRows]
  refine ⟨_, _, ρ, rfl, hM, ⟨_, grownCap w (mkB l).size 0 e, by rw [hn, hsz], by rw [hn, ← hsz]; exact grownCap_ge _ _ _ _, by rw [hn]; exact hm, fun i hi => ⟨w.heap.size, 0, rfl, .inr rfl, fun j hj => ?_⟩⟩, trivial⟩
  obtain rfl : j = 0 := by omega
  rw [hn] at hi
  refine ⟨_, by rw [Nat.zero_add, Nat.mul_one, Nat.add_zero]; exact Lib.bytesWorld_cell w e (mkB l) i (by omega), ?_⟩
  show relK _ _ (rowF ((byteRows l).getD i []) 0) _
  have e1 : (byteRows l).getD i [] = [.int .u8 (l[i].toNat : Int)] := by rw [List.getD_eq_getElem?_getD]; simp [byteRows, hi]
  have e2 : (mkB l).data.toList.getD i 0 = l[i] := by rw [mkB_l, List.getD_eq_getElem?_getD]; simp [hi]
  rw [e1, e2]
  rfl
end ops
end Go.Proofs.YtnflnbdlgdjfmabGreatDoor
namespace Go.Proofs.YtnflnbdlgdjfmabGreatDoor
set_option linter.unusedVariables false
set_option linter.unusedSimpArgs false
/-- A tree of words. -/
inductive Tr where
  | w (s : List UInt8)
  | n (l : List Tr)
theorem Tr.ind {p : Tr → Prop} (hw : ∀ s, p (.w s)) (hn : ∀ l, (∀ x ∈ l, p x) → p (.n l)) : ∀ x, p x
  | .w s => hw s
  | .n l => hn l fun x hx => Tr.ind hw hn x
termination_by x => SizeOf.sizeOf x
decreasing_by
  simp_wf
  have := List.sizeOf_lt_of_mem hx
  omega
mutual
def trTok : Tr → List (List UInt8)
  | .w s => [s]
  | .n l => [40] :: trTokL l ++ [[41]]
def trTokL : List Tr → List (List UInt8)
  | [] => []
  | a :: l => trTok a ++ trTokL l
end
/-- Trees of a text; acc: those that have been read; what is left; false: brackets do not go together. -/
def treesF : Nat → Bool → List Tr → List UInt8 → List Tr × List UInt8 × Bool
  | 0, _, _, _ => ([], [], false)
  | f + 1, within, acc, s =>
    match s.dropWhile isSpB with
    | [] => (acc, [], !within)
    | c :: r =>
      if c == 41 then (acc, r, within)
      else if c == 40 then
        (if (treesF f true [] r).2.2 then treesF f within (acc ++ [.n (treesF f true [] r).1]) (treesF f true [] r).2.1 else ([], [], false))
      else treesF f within (acc ++ [.w ((c :: r).takeWhile plainB)]) ((c :: r).dropWhile plainB)
/-- The same on words. -/
def treesW : Nat → Bool → List Tr → List (List UInt8) → List Tr × List (List UInt8) × Bool
  | 0, _, _, _ => ([], [], false)
  | f + 1, within, acc, [] => (acc, [], !within)
  | f + 1, within, acc, t :: ws =>
    if t == [41] then (acc, ws, within)
    else if t == [40] then
      (if (treesW f true [] ws).2.2 then treesW f within (acc ++ [.n (treesW f true [] ws).1]) (treesW f true [] ws).2.1 else ([], [], false))
    else treesW f within (acc ++ [.w t]) ws
theorem toks_trim : ∀ s : List UInt8, toks [] (s.dropWhile isSpB) = toks [] s
  | [] => rfl
  | c :: s => by
    cases h : isSpB c with
    | true => rw [List.dropWhile_cons_of_pos h, toks_trim s]; simp [toks, h, flushW]
    | false => rw [List.dropWhile_cons_of_neg (by simp [h])]
theorem drop_head {p : UInt8 → Bool} : ∀ {s : List UInt8} {c : UInt8} {r : List UInt8}, s.dropWhile p = c :: r → p c = false
  | [], _, _, h => by cases h
  | b :: s, c, r, h => by
    cases hb : p b with
    | true => rw [List.dropWhile_cons_of_pos hb] at h; exact drop_head h
    | false => rw [List.dropWhile_cons_of_neg (by simp [hb])] at h; cases h; exact hb
theorem drop_len {p : UInt8 → Bool} : ∀ s : List UInt8, (s.dropWhile p).length ≤ s.length
  | [] => Nat.le_refl _
  | b :: s => by
    cases hb : p b with
    | true => rw [List.dropWhile_cons_of_pos hb, List.length_cons]; have := drop_len (p := p) s; omega
    | false => rw [List.dropWhile_cons_of_neg (by simp [hb])]; exact Nat.le_refl _
theorem take_all {p : UInt8 → Bool} : ∀ s : List UInt8, ∀ b ∈ s.takeWhile p, p b = true
  | [], b, h => by cases h
  | c :: s, b, h => by
    cases hc : p c with
    | true =>
      rw [List.takeWhile_cons_of_pos hc] at h
      rcases List.mem_cons.1 h with rfl | h
      · exact hc
      · exact take_all s b h
    | false => rw [List.takeWhile_cons_of_neg (by simp [hc])] at h; cases h
theorem sep_drop (s : List UInt8) : SepB (s.dropWhile plainB) := by
  cases h : s.dropWhile plainB with
  | nil => exact .inl rfl
  | cons c r => exact .inr ⟨c, r, rfl, drop_head h⟩
theorem toks_take {c : UInt8} {r : List UInt8} (h : plainB c = true) : toks [] (c :: r) = (c :: r).takeWhile plainB :: toks [] ((c :: r).dropWhile plainB) := by
  have h1 : (c :: r).takeWhile plainB ≠ [] := by rw [List.takeWhile_cons_of_pos h]; simp
  have := toks_word (take_all (p := plainB) (c :: r)) h1 (sep_drop (c :: r))
  rw [List.takeWhile_append_dropWhile] at this
  exact this
theorem trees_sim : ∀ (f : Nat) (within : Bool) (acc : List Tr) (s : List UInt8), s.length < f →
    (treesF f within acc s).1 = (treesW f within acc (toks [] s)).1 ∧ (treesF f within acc s).2.2 = (treesW f within acc (toks [] s)).2.2 ∧ toks [] (treesF f within acc s).2.1 = (treesW f within acc (toks [] s)).2.1 ∧ (treesF f within acc s).2.1.length ≤ s.length
  | 0, _, _, _, h => by omega
  | f + 1, within, acc, s, h => by
    have hl := drop_len (p := isSpB) s
    rw [← toks_trim s]
    unfold treesF
    cases hs : s.dropWhile isSpB with
    | nil => exact ⟨rfl, rfl, rfl, Nat.zero_le _⟩
    | cons c r =>
      rw [hs, List.length_cons] at hl
      have hc := drop_head hs
      dsimp only
      by_cases h1 : c = 41
      · subst h1
        rw [toks_close]
        unfold treesW
        exact ⟨rfl, rfl, rfl, by simp; omega⟩
      · by_cases h2 : c = 40
        · subst h2
          rw [toks_open]
          unfold treesW
          obtain ⟨i1, i2, i3, i4⟩ := trees_sim f true [] r (by omega)
          rw [show ((40 : UInt8) == 41) = false from rfl, show ((40 : UInt8) == 40) = true from rfl, show (([40] : List UInt8) == [41]) = false from rfl, show (([40] : List UInt8) == [40]) = true from rfl]
          simp only [Bool.false_eq_true, if_false, if_true]
          rw [i2]
          cases hx : (treesW f true [] (toks [] r)).2.2 with
          | false => exact ⟨rfl, rfl, rfl, Nat.zero_le _⟩
          | true =>
            simp only [if_true]
            rw [← i1, ← i3]
            obtain ⟨j1, j2, j3, j4⟩ := trees_sim f within (acc ++ [.n (treesF f true [] r).1]) (treesF f true [] r).2.1 (by omega)
            exact ⟨j1, j2, j3, by omega⟩
        · have hp : plainB c = true := by unfold plainB; simp [hc, h1, h2]
          have e1 : (c == 41) = false := by simpa using h1
          have e2 : (c == 40) = false := by simpa using h2
          rw [toks_take hp]
          have hd : ((c :: r).dropWhile plainB).length ≤ r.length := by rw [List.dropWhile_cons_of_pos hp]; exact drop_len r
          have n1 : ((c :: r).takeWhile plainB == [41]) = false := by rw [List.takeWhile_cons_of_pos hp]; simp [h1]
          have n2 : ((c :: r).takeWhile plainB == [40]) = false := by rw [List.takeWhile_cons_of_pos hp]; simp [h2]
          unfold treesW
          rw [e1, e2, n1, n2]
          simp only [Bool.false_eq_true, if_false]
          obtain ⟨j1, j2, j3, j4⟩ := trees_sim f within (acc ++ [.w ((c :: r).takeWhile plainB)]) ((c :: r).dropWhile plainB) (by omega)
          exact ⟨j1, j2, j3, by omega⟩
theorem treesW_ok : ∀ (f : Nat) (within : Bool) (acc : List Tr) (ws : List (List UInt8)), (treesW f within acc ws).2.2 = true →
    ∃ xs, (treesW f within acc ws).1 = acc ++ xs ∧ ws = trTokL xs ++ (if within then [41] :: (treesW f within acc ws).2.1 else [])
  | 0, _, _, _, h => by cases h
  | f + 1, within, acc, [], h => by
    have hw : within = false := by simpa [treesW] using h
    subst hw
    exact ⟨[], by simp [treesW], by simp [trTokL]⟩
  | f + 1, within, acc, t :: ws, h => by
    unfold treesW at h ⊢
    cases h1 : (t == [41]) with
    | true =>
      rw [h1] at h
      simp only [if_true] at h ⊢
      subst h
      have : t = [41] := by simpa using h1
      subst this
      exact ⟨[], by simp, by simp [trTokL]⟩
    | false =>
      rw [h1] at h
      simp only [Bool.false_eq_true, if_false] at h ⊢
      cases h2 : (t == [40]) with
      | true =>
        rw [h2] at h
        simp only [if_true] at h ⊢
        have : t = [40] := by simpa using h2
        subst this
        cases hx : (treesW f true [] ws).2.2 with
        | false => rw [hx] at h; cases h
        | true =>
          rw [hx] at h
          simp only [if_true] at h ⊢
          obtain ⟨xs, e1, e2⟩ := treesW_ok f true [] ws hx
          obtain ⟨ys, e3, e4⟩ := treesW_ok f within _ _ h
          refine ⟨.n xs :: ys, ?_, ?_⟩
          · rw [e3, e1]; simp
          · rw [if_pos (by rfl)] at e2
            simp only [trTokL, trTok, List.append_assoc, List.cons_append, List.nil_append]
            rw [← e4, ← e2]
      | false =>
        rw [h2] at h
        simp only [Bool.false_eq_true, if_false] at h ⊢
        obtain ⟨ys, e3, e4⟩ := treesW_ok f within _ _ h
        refine ⟨.w t :: ys, ?_, ?_⟩
        · rw [e3]; simp
        · simp only [trTokL, trTok, List.cons_append, List.nil_append]
          rw [← e4]
/-- Its words are no brackets. -/
inductive TrW : Tr → Prop
  | w {s : List UInt8} (h0 : s ≠ [40]) (h1 : s ≠ [41]) : TrW (.w s)
  | n {l : List Tr} (h : ∀ x ∈ l, TrW x) : TrW (.n l)
theorem treesW_back : ∀ (f : Nat) (within : Bool) (acc xs : List Tr) (rest : List (List UInt8)), (∀ x ∈ xs, TrW x) → (trTokL xs).length < f →
    treesW f within acc (trTokL xs ++ (if within then [41] :: rest else [])) = (acc ++ xs, if within then rest else [], true)
  | 0, _, _, _, _, _, h => by omega
  | f + 1, within, acc, [], rest, _, _ => by
    cases within <;> simp [trTokL, treesW]
  | f + 1, within, acc, x :: xs, rest, hx, hf => by
    have hxs : ∀ y ∈ xs, TrW y := fun y hy => hx y (List.mem_cons_of_mem _ hy)
    cases hx x (List.mem_cons_self ..) with
    | @w s h0 h1 =>
      have ih := treesW_back f within (acc ++ [.w s]) xs rest hxs (by simp [trTokL, trTok] at hf; omega)
      simp only [trTokL, trTok, List.cons_append, List.nil_append, treesW]
      rw [show (s == [41]) = false by simpa using h1, show (s == [40]) = false by simpa using h0]
      simp only [Bool.false_eq_true, if_false]
      rw [ih]; simp
    | @n l h =>
      have hlen : (trTokL l).length + 1 < f ∧ (trTokL xs).length < f := by
        simp only [trTokL, trTok, List.length_append, List.length_cons, List.length_nil] at hf
        omega
      have i1 := treesW_back f true [] l (trTokL xs ++ (if within then [41] :: rest else [])) h (by omega)
      have i2 := treesW_back f within (acc ++ [.n l]) xs rest hxs hlen.2
      simp only [if_true] at i1
      simp only [trTokL, trTok, List.cons_append, List.nil_append, List.append_assoc, treesW]
      rw [i1]
      simp only [show (([40] : List UInt8) == [41]) = false from rfl, show (([40] : List UInt8) == [40]) = true from rfl, Bool.false_eq_true, if_false, if_true, List.nil_append]
      rw [i2]; simp
def baseK (s : List UInt8) : Ty × Bool := if s == kTxt 0 then (.mk 0 [], true) else if s == kTxt 1 then (.mk 1 [], true) else if s == kTxt 2 then (.mk 2 [], true) else (.any, false)
def kindL (l : List Tr) (ks : List (Ty × Bool)) : Ty × Bool :=
  match l, ks with
  | [.w s, _, _], [_, a, b] => if s == kTxt 3 then (.mk 3 [a.1, b.1], a.2 && b.2) else (.any, false)
  | _, _ => (.any, false)
mutual
def trKind : Tr → Ty × Bool
  | .w s => baseK s
  | .n l => kindL l (trKinds l)
def trKinds : List Tr → List (Ty × Bool)
  | [] => []
  | a :: l => trKind a :: trKinds l
end
/-- Is it of digits? -/
def numR (s : List UInt8) : Int × Bool :=
  if Lib.trimPrefix s [45] = [] ∨ 7 < (Lib.trimPrefix s [45]).length ∨ Lib.trimS (Lib.trimPrefix s [45]) [48, 49, 50, 51, 52, 53, 54, 55, 56, 57] ≠ [] then (0, false)
  else
    let n := (Lib.trimPrefix s [45]).foldl (fun (n : Int) (c : UInt8) => 10 * n + (c.toNat : Int) - 48) 0
    let m := if Lib.trimPrefix s [45] == s then n else -n
    (m, Lib.itoa m == s)
def wordTm (s : List UInt8) : Tm × Bool :=
  if s == sYes.data.toList then (.mk 3 1 .any .any [], true)
  else if s == sNo.data.toList then (.mk 3 0 .any .any [], true)
  else if s.headD 0 == 35 then (.mk 1 (numR (s.drop 1)).1 .any .any [], (numR (s.drop 1)).2)
  else (.mk 2 (numR s).1 .any .any [], (numR s).2)
def nodeTm (l : List Tr) (ts : List (Tm × Bool)) : Tm × Bool :=
  match l with
  | .w s :: l =>
    match wFrom (mkB s) 10 with
    | none => (Tm.zero, false)
    | some k =>
      if (k : Int) == 7 || (k : Int) == 9 then
        match l with
        | [] => (.mk k 0 .any .any [], false)
        | a :: l => (.mk k 0 (trKind a).1 .any ((ts.drop 2).map (·.1)), (trKind a).2 && ((l.length : Int) == arity k) && (ts.drop 2).all (·.2))
      else (.mk k 0 .any .any ((ts.drop 1).map (·.1)), ((l.length : Int) == arity k) && (ts.drop 1).all (·.2))
  | _ => (Tm.zero, false)
mutual
def trTerm : Tr → Tm × Bool
  | .w s => wordTm s
  | .n l => nodeTm l (trTerms l)
def trTerms : List Tr → List (Tm × Bool)
  | [] => []
  | a :: l => trTerm a :: trTerms l
end
theorem trTerms_map : ∀ l : List Tr, trTerms l = l.map trTerm
  | [] => rfl
  | a :: l => by simp only [trTerms, List.map_cons, trTerms_map l]
theorem trKinds_map : ∀ l : List Tr, trKinds l = l.map trKind
  | [] => rfl
  | a :: l => by simp only [trKinds, List.map_cons, trKinds_map l]
/-- The term of a text, and what was wrong. -/
def refParse (s : ByteArray) : Tm × Int :=
  if 1000 < s.size then (Tm.zero, 4)
  else
    let p := treesF (s.size + 1) false [] s.data.toList
    match p.1 with
    | [x] => if p.2.2 && ((trTerm x).2 && (trTerm x).1.Good 0) then ((trTerm x).1, 0) else (Tm.zero, 1)
    | _ => (Tm.zero, 1)
theorem kind_tok : ∀ x : Tr, (trKind x).2 = true → trTok x = tyTok (trKind x).1 ∧ Right (trKind x).1 := by
  intro x
  induction x using Tr.ind with
  | hw s =>
    intro h
    simp only [trKind, baseK] at h ⊢
    by_cases h0 : s = kTxt 0
    · subst h0; rw [if_pos (by simp)]; exact ⟨rfl, .base (by simp)⟩
    rw [if_neg (by simpa using h0)] at h ⊢
    by_cases h1 : s = kTxt 1
    · subst h1; rw [if_pos (by simp)]; exact ⟨rfl, .base (by simp)⟩
    rw [if_neg (by simpa using h1)] at h ⊢
    by_cases h2 : s = kTxt 2
    · subst h2; rw [if_pos (by simp)]; exact ⟨rfl, .base (by simp)⟩
    rw [if_neg (by simpa using h2)] at h
    cases h
  | hn l ih =>
    intro h
    simp only [trKind, kindL, trKinds_map] at h ⊢
    split at h
    · rename_i s a b k ka kb heq
      simp only [List.map_cons, List.map_nil, List.cons.injEq, and_true] at heq
      obtain ⟨_, rfl, rfl⟩ := heq
      split at h
      · rename_i hs
        have hs : s = kTxt 3 := by simpa using hs
        subst hs
        simp only [Bool.and_eq_true] at h
        obtain ⟨t1, r1⟩ := ih a (by simp) h.1
        obtain ⟨t2, r2⟩ := ih b (by simp) h.2
        simp only [List.map_cons, List.map_nil, beq_self_eq_true, if_true]
        refine ⟨?_, .fn r1 r2⟩
        simp [trTok, trTokL, tyTok, tyTokL, t1, t2]
      · cases h
    · cases h
theorem wFrom_inv : ∀ {n : Nat} {s : List UInt8} {k : Nat}, n ≤ 10 → wFrom (mkB s) n = some k → s = wTxt k ∧ 4 ≤ k ∧ k ≤ 9
  | 0, s, k, _, h => by cases h
  | n + 1, s, k, hn, h => by
    unfold wFrom at h
    split at h
    · rename_i hw
      cases h
      unfold wAt at hw
      simp only [Bool.and_eq_true, Bool.not_eq_true'] at hw
      obtain ⟨w1, w2⟩ := hw
      rw [sEq_mkr] at w2
      have e : (9 - n = 0 ∨ 9 - n = 1 ∨ 9 - n = 2 ∨ 9 - n = 3) ∨ 4 ≤ 9 - n := by omega
      rcases e with (e | e | e | e) | e
      · rw [e] at w1; exact absurd w1 (by decide)
      · rw [e] at w1; exact absurd w1 (by decide)
      · rw [e] at w1; exact absurd w1 (by decide)
      · rw [e] at w1; exact absurd w1 (by decide)
      · refine ⟨?_, e, by omega⟩
        unfold wTxt
        rw [Int.toNat_natCast]
        exact (by simpa using w2 : _ = s).symm
    · exact wFrom_inv (by omega) h
theorem numR_ok {s : List UInt8} (h : (numR s).2 = true) : s = Lib.itoa (numR s).1 := by
  unfold numR at h ⊢
  split at h
  · cases h
  · rename_i hc
    rw [if_neg hc]
    exact (by simpa using h : _ = s).symm
theorem wordTm_tok {s : List UInt8} (h : (wordTm s).2 = true) : [s] = tmTok (wordTm s).1 := by
  unfold wordTm at h ⊢
  by_cases h0 : s = sYes.data.toList
  · subst h0; rw [if_pos (by simp)]; rfl
  rw [if_neg (by simpa using h0)] at h ⊢
  by_cases h1 : s = sNo.data.toList
  · subst h1; rw [if_pos (by simp)]; rfl
  rw [if_neg (by simpa using h1)] at h ⊢
  split at h
  · rename_i h2
    rw [if_pos h2]
    have h3 := numR_ok h
    cases s with
    | nil => simp at h2
    | cons c r =>
      have : c = 35 := by simpa using h2
      subst this
      simp only [tmTok, beq_self_eq_true, if_true]
      rw [← h3]; rfl
  · rename_i h2
    rw [if_neg h2]
    have h3 := numR_ok h
    simp only [tmTok, show ((2 : Int) == 1) = false from rfl, beq_self_eq_true, if_true, Bool.false_eq_true, if_false]
    rw [← h3]
theorem toks_kids : ∀ {l : List Tr}, (∀ x ∈ l, (trTerm x).2 = true → trTok x = tmTok (trTerm x).1) → ((l.map trTerm).all (·.2)) = true → trTokL l = tmTokL ((l.map trTerm).map (·.1))
  | [], _, _ => rfl
  | a :: l, ih, h => by
    simp only [List.map_cons, List.all_cons, Bool.and_eq_true] at h
    simp only [trTokL, List.map_cons, tmTokL]
    rw [ih a (List.mem_cons_self ..) h.1, toks_kids (fun x hx => ih x (List.mem_cons_of_mem _ hx)) h.2]
theorem term_tok : ∀ x : Tr, (trTerm x).2 = true → trTok x = tmTok (trTerm x).1 := by
  intro x
  induction x using Tr.ind with
  | hw s => intro h; simp only [trTerm, trTok] at h ⊢; exact wordTm_tok h
  | hn l ih =>
    intro h
    cases l with
    | nil => cases h
    | cons y l =>
    cases y with
    | n _ => cases h
    | w s =>
    cases hk : wFrom (mkB s) 10 with
    | none => simp only [trTerm, nodeTm, hk] at h; cases h
    | some k =>
    obtain ⟨hs, k4, k9⟩ := wFrom_inv (Nat.le_refl _) hk
    have e1 : ((k : Int) == 1) = false := by rw [beq_eq_false_iff_ne]; omega
    have e2 : ((k : Int) == 2) = false := by rw [beq_eq_false_iff_ne]; omega
    have e3 : ((k : Int) == 3) = false := by rw [beq_eq_false_iff_ne]; omega
    simp only [trTerm, nodeTm, hk, trTerms_map] at h ⊢
    split at h
    · rename_i h79
      rw [if_pos h79]
      cases l with
      | nil => cases h
      | cons a l =>
        simp only [List.map_cons, List.drop_succ_cons, List.drop_zero, Bool.and_eq_true] at h ⊢
        obtain ⟨⟨h1, _⟩, h3⟩ := h
        have := toks_kids (fun x hx => ih x (by simp [hx])) h3
        simp only [trTok, trTokL, tmTok, e1, e2, e3, h79, Bool.false_eq_true, if_false, if_true]
        rw [(kind_tok a h1).1, this, hs]
        simp
    · rename_i h79
      rw [if_neg h79]
      simp only [List.map_cons, List.drop_succ_cons, List.drop_zero, Bool.and_eq_true] at h ⊢
      have := toks_kids (fun x hx => ih x (by simp [hx])) h.2
      simp only [trTok, trTokL, tmTok, e1, e2, e3, h79, Bool.false_eq_true, if_false]
      rw [this, hs]
      simp
theorem ty_tree : ∀ (a : Ty), Right a → ∃ x, TrW x ∧ trTok x = tyTok a ∧ trKind x = (a, true) := by
  intro a h
  induction h with
  | @base k hk =>
    refine ⟨.w (kTxt k), ?_, ?_, ?_⟩
    · rcases hk with rfl | rfl | rfl <;> exact .w (by decide) (by decide)
    · have h3 : (k == 3) = false := by rw [beq_eq_false_iff_ne]; omega
      simp [trTok, tyTok, h3]
    · rcases hk with rfl | rfl | rfl <;> rfl
  | @fn a b ha hb iha ihb =>
    obtain ⟨x, x1, x2, x3⟩ := iha
    obtain ⟨y, y1, y2, y3⟩ := ihb
    refine ⟨.n [.w (kTxt 3), x, y], .n fun z hz => ?_, ?_, ?_⟩
    · simp only [List.mem_cons, List.not_mem_nil, or_false] at hz
      rcases hz with rfl | rfl | rfl
      · exact .w (by decide) (by decide)
      · exact x1
      · exact y1
    · simp [trTok, trTokL, tyTok, tyTokL, x2, y2]
    · simp only [trKind, trKinds, kindL, x3, y3, beq_self_eq_true, if_true, Bool.and_self]
theorem trimR_dig : ∀ (l : List UInt8), (∀ b ∈ l, 48 ≤ b.toNat ∧ b.toNat ≤ 57) → Lib.trimS l [48, 49, 50, 51, 52, 53, 54, 55, 56, 57] = [] := by
  intro l h
  have hd : ∀ b : UInt8, 48 ≤ b.toNat → b.toNat ≤ 57 → ([48, 49, 50, 51, 52, 53, 54, 55, 56, 57] : List UInt8).contains b = true := by
    intro b h0 h1
    have : b.toNat = 48 ∨ b.toNat = 49 ∨ b.toNat = 50 ∨ b.toNat = 51 ∨ b.toNat = 52 ∨ b.toNat = 53 ∨ b.toNat = 54 ∨ b.toNat = 55 ∨ b.toNat = 56 ∨ b.toNat = 57 := by omega
    have inj : ∀ c : UInt8, b.toNat = c.toNat → b = c := fun c h => UInt8.toNat_inj.1 h
    rcases this with h | h | h | h | h | h | h | h | h | h
    · rw [inj 48 h]; decide
    · rw [inj 49 h]; decide
    · rw [inj 50 h]; decide
    · rw [inj 51 h]; decide
    · rw [inj 52 h]; decide
    · rw [inj 53 h]; decide
    · rw [inj 54 h]; decide
    · rw [inj 55 h]; decide
    · rw [inj 56 h]; decide
    · rw [inj 57 h]; decide
  have hr : Lib.trimRightS l [48, 49, 50, 51, 52, 53, 54, 55, 56, 57] = [] := by
    unfold Lib.trimRightS
    have : l.reverse.dropWhile (fun x => ([48, 49, 50, 51, 52, 53, 54, 55, 56, 57] : List UInt8).contains x) = [] := by
      have key : ∀ m : List UInt8, (∀ b ∈ m, 48 ≤ b.toNat ∧ b.toNat ≤ 57) → m.dropWhile (fun x => ([48, 49, 50, 51, 52, 53, 54, 55, 56, 57] : List UInt8).contains x) = [] := by
        intro m
        induction m with
        | nil => intro _; rfl
        | cons c m ih =>
          intro hm
          obtain ⟨h0, h1⟩ := hm c (List.mem_cons_self ..)
          rw [List.dropWhile_cons_of_pos (hd c h0 h1)]
          exact ih fun b hb => hm b (List.mem_cons_of_mem _ hb)
      exact key _ fun b hb => h b (List.mem_reverse.1 hb)
    rw [this]; rfl
  unfold Lib.trimS
  rw [hr]; rfl
theorem dec_fold (u : Nat) (n : Int) : (Lib.decDigits u).foldl (fun (n : Int) (c : UInt8) => 10 * n + (c.toNat : Int) - 48) 0 = u := by
  induction u using Nat.strongRecOn with
  | _ u ih =>
    by_cases h : u < 10
    · rw [Lib.decDigits, dif_pos h]
      obtain ⟨_, h2, h3, h4⟩ := dig_ok u h
      simp only [List.foldl_cons, List.foldl_nil]
      omega
    · rw [Lib.decDigits, dif_neg h, List.foldl_append, ih (u / 10) (by omega)]
      obtain ⟨_, h2, h3, h4⟩ := dig_ok (u % 10) (by omega)
      simp only [List.foldl_cons, List.foldl_nil]
      omega
theorem trimP_dec {l : List UInt8} (h : ∀ b ∈ l, 48 ≤ b.toNat ∧ b.toNat ≤ 57) : Lib.trimPrefix l [45] = l := by
  unfold Lib.trimPrefix Lib.hasPrefix
  cases l with
  | nil => rfl
  | cons c l =>
    have : c ≠ 45 := by rintro rfl; have := (h 45 (by simp)).1; revert this; decide
    have h2 : List.isPrefixOf [45] (c :: l) = false := by simp [List.isPrefixOf]; exact fun h => this h.symm
    rw [h2]; rfl
theorem trimP_neg (l : List UInt8) : Lib.trimPrefix (45 :: l) [45] = l := by
  unfold Lib.trimPrefix Lib.hasPrefix
  have h2 : List.isPrefixOf [45] (45 :: l) = true := by simp [List.isPrefixOf]
  rw [h2]; rfl
theorem decLen : ∀ (k u : Nat), u < 10 ^ (k + 1) → (Lib.decDigits u).length ≤ k + 1
  | 0, u, h => by rw [Lib.decDigits, dif_pos (by omega)]; simp
  | k + 1, u, h => by
    by_cases hu : u < 10
    · rw [Lib.decDigits, dif_pos hu]; simp
    · rw [Lib.decDigits, dif_neg hu, List.length_append]
      have := decLen k (u / 10) (by rw [Nat.pow_succ] at h; omega)
      simp; omega
theorem decL (u : Nat) (h : u ≤ 1000000) : (Lib.decDigits u).length ≤ 7 := decLen 6 u (by omega)
theorem numR_itoa (n : Int) (h : -1000000 ≤ n ∧ n ≤ 1000000) : numR (Lib.itoa n) = (n, true) := by
  have hd := fun u => (dec_ok u).1
  by_cases hn : n < 0
  · have e : Lib.itoa n = 45 :: Lib.decDigits n.natAbs := by unfold Lib.itoa; rw [if_pos hn]
    have hl := decL n.natAbs (by omega)
    have hne : (Lib.decDigits n.natAbs == 45 :: Lib.decDigits n.natAbs) = false := by
      rw [beq_eq_false_iff_ne]
      intro h
      have := congrArg List.length h
      simp at this
    unfold numR
    rw [e, trimP_neg, if_neg (by
      rintro (h | h | h)
      · exact (dec_ok _).2 h
      · omega
      · exact h (trimR_dig _ fun b hb => (hd _ b hb).2))]
    simp only [dec_fold _ 0, hne, Bool.false_eq_true, if_false]
    rw [show -((n.natAbs : Nat) : Int) = n by omega, e]
    simp
  · have e : Lib.itoa n = Lib.decDigits n.toNat := by unfold Lib.itoa; rw [if_neg hn]
    have hl := decL n.toNat (by omega)
    have hdd := fun b hb => (hd n.toNat b hb).2
    unfold numR
    rw [e, trimP_dec hdd, if_neg (by
      rintro (h | h | h)
      · exact (dec_ok _).2 h
      · omega
      · exact h (trimR_dig _ hdd))]
    simp only [dec_fold _ 0, beq_self_eq_true, if_true]
    rw [show ((n.toNat : Nat) : Int) = n by omega, e]
    simp
theorem trTok_node (s : List UInt8) (l : List Tr) : trTok (.n (.w s :: l)) = [40] :: s :: trTokL l ++ [[41]] := by simp [trTok, trTokL]
theorem wordTm_num {n : Int} (h : -1000000 ≤ n ∧ n ≤ 1000000) : wordTm (Lib.itoa n) = (.mk 2 n .any .any [], true) := by
  obtain ⟨h1, h2, h3, h4⟩ := num_word (l := Lib.itoa n) rfl
  rw [sEq_mkl] at h1 h2
  have h5 : ((Lib.itoa n).headD 0 == 35) = false := by
    obtain ⟨a1, a2⟩ := itoa_ok n
    cases hl : Lib.itoa n with
    | nil => exact absurd hl a2
    | cons c r =>
      rw [List.headD_cons]
      have := (a1 c (by rw [hl]; simp)).2
      rw [beq_eq_false_iff_ne]
      rintro rfl
      revert this; decide
  unfold wordTm
  rw [h1, h2, h5, numR_itoa n h]
  rfl
theorem wordTm_ref {n : Int} (h : -1000000 ≤ n ∧ n ≤ 1000000) : wordTm (35 :: Lib.itoa n) = (.mk 1 n .any .any [], true) := by
  have h1 : ((35 :: Lib.itoa n : List UInt8) == sYes.data.toList) = false := by simp [sYes]
  have h2 : ((35 :: Lib.itoa n : List UInt8) == sNo.data.toList) = false := by simp [sNo]
  unfold wordTm
  rw [h1, h2, List.headD_cons, List.drop_succ_cons, List.drop_zero, numR_itoa n h]
  rfl
theorem trW_word {s : List UInt8} (h : ∀ b ∈ s, plainB b = true) : TrW (.w s) := by
  refine .w ?_ ?_
  · rintro rfl; have := h 40 (by simp); revert this; decide
  · rintro rfl; have := h 41 (by simp); revert this; decide
theorem tm_tree : ∀ (a : Tm) (ar ow : Int), a.good ar ow = true → ar + ow + a.nodes ≤ 1000000 → ∃ x, TrW x ∧ trTok x = tmTok a ∧ trTerm x = (a, true) := by
  intro a
  induction a using Tm.ind' with
  | h a ih =>
  intro ar ow hg hb
  have hf := good_f hg
  have hne := nodes_eta a
  obtain ⟨k, n, t, f, l⟩ := a
  simp only [Tm.f] at hf
  subst hf
  rcases good_cases hg with ⟨e, el, n0, n1, et⟩ | ⟨e, el, en, et⟩ | ⟨e, el, en, et⟩ | ⟨e, en, et, x, y, el, h1, h2⟩ | ⟨e, en, et, x, y, z, el, h1, h2, h3⟩ | ⟨e, en, ht, x, el, h1⟩ | ⟨e, en, ht, x, el, h1⟩ <;> simp only [Tm.k, Tm.n, Tm.t, Tm.l] at *
  · subst e; subst el; subst et
    simp only [nodesL] at hne
    refine ⟨.w (35 :: Lib.itoa n), trW_word fun b hb => ?_, rfl, ?_⟩
    · rcases List.mem_cons.1 hb with rfl | hb
      · decide
      · exact ((itoa_ok n).1 b hb).1
    · simp only [trTerm]; exact wordTm_ref ⟨by omega, by omega⟩
  · subst e; subst el; subst et
    refine ⟨.w (Lib.itoa n), trW_word fun b hb => ((itoa_ok n).1 b hb).1, rfl, ?_⟩
    simp only [trTerm]; exact wordTm_num (inB_iff.1 en)
  · subst e; subst el; subst et
    rcases en with rfl | rfl
    · exact ⟨.w sNo.data.toList, .w (by decide) (by decide), rfl, rfl⟩
    · exact ⟨.w sYes.data.toList, .w (by decide) (by decide), rfl, rfl⟩
  · subst el; subst et; subst en
    simp only [nodesL] at hne
    obtain ⟨u, u1, u2, u3⟩ := ih x (by simp) _ _ h1 (by omega)
    obtain ⟨v, v1, v2, v3⟩ := ih y (by simp) _ _ h2 (by omega)
    have e1 : (k == 1) = false := by rw [beq_eq_false_iff_ne]; omega
    have e2 : (k == 2) = false := by rw [beq_eq_false_iff_ne]; omega
    have e3 : (k == 3) = false := by rw [beq_eq_false_iff_ne]; omega
    have e7 : (k == 7) = false := by rw [beq_eq_false_iff_ne]; omega
    have e9 : (k == 9) = false := by rw [beq_eq_false_iff_ne]; omega
    have hw := wFrom_ok (k := k) (by omega)
    have hkk : ((k.toNat : Nat) : Int) = k := by omega
    have har : arity k = 2 := by rcases e with rfl | rfl | rfl <;> rfl
    refine ⟨.n [.w (wTxt k), u, v], .n fun z hz => ?_, ?_, ?_⟩
    · simp only [List.mem_cons, List.not_mem_nil, or_false] at hz
      rcases hz with rfl | rfl | rfl
      · exact trW_word (wTxt_ok (k := k) (by omega)).1
      · exact u1
      · exact v1
    · rw [trTok_node]
      simp only [trTokL, tmTok, tmTokL, e1, e2, e3, e7, e9, u2, v2, Bool.or_self, Bool.false_eq_true, if_false, List.nil_append]
    · simp only [trTerm, trTerms, nodeTm, hw, hkk, e7, e9, Bool.or_self, Bool.false_eq_true, if_false, u3, v3, har]
      rfl
  · subst el; subst et; subst en; subst e
    simp only [nodesL] at hne
    obtain ⟨u, u1, u2, u3⟩ := ih x (by simp) _ _ h1 (by omega)
    obtain ⟨v, v1, v2, v3⟩ := ih y (by simp) _ _ h2 (by omega)
    obtain ⟨q, q1, q2, q3⟩ := ih z (by simp) _ _ h3 (by omega)
    have hw := wFrom_ok (k := 6) (by omega)
    refine ⟨.n [.w (wTxt 6), u, v, q], .n fun z hz => ?_, ?_, ?_⟩
    · simp only [List.mem_cons, List.not_mem_nil, or_false] at hz
      rcases hz with rfl | rfl | rfl | rfl
      · exact trW_word (wTxt_ok (k := 6) (by omega)).1
      · exact u1
      · exact v1
      · exact q1
    · rw [trTok_node]
      simp only [trTokL, tmTok, tmTokL, u2, v2, q2, show ((6 : Int) == 1) = false from rfl, show ((6 : Int) == 2) = false from rfl, show ((6 : Int) == 3) = false from rfl, show ((6 : Int) == 7) = false from rfl, show ((6 : Int) == 9) = false from rfl, Bool.or_self, Bool.false_eq_true, if_false, List.nil_append]
    · simp only [trTerm, trTerms, nodeTm, hw, u3, v3, q3]
      rfl
  · subst el; subst en; subst e
    simp only [nodesL] at hne
    obtain ⟨u, u1, u2, u3⟩ := ih x (by simp) _ _ h1 (by omega)
    obtain ⟨v, v1, v2, v3⟩ := ty_tree t (good_right ht)
    have hw := wFrom_ok (k := 7) (by omega)
    refine ⟨.n [.w (wTxt 7), v, u], .n fun z hz => ?_, ?_, ?_⟩
    · simp only [List.mem_cons, List.not_mem_nil, or_false] at hz
      rcases hz with rfl | rfl | rfl
      · exact trW_word (wTxt_ok (k := 7) (by omega)).1
      · exact v1
      · exact u1
    · rw [trTok_node]
      simp only [trTokL, tmTok, tmTokL, u2, v2, show ((7 : Int) == 1) = false from rfl, show ((7 : Int) == 2) = false from rfl, show ((7 : Int) == 3) = false from rfl, beq_self_eq_true, Bool.true_or, if_true, Bool.false_eq_true, if_false, List.append_nil]
    · simp only [trTerm, trTerms, nodeTm, hw, u3, v3]
      rfl
  · subst el; subst en; subst e
    simp only [nodesL] at hne
    obtain ⟨u, u1, u2, u3⟩ := ih x (by simp) _ _ h1 (by omega)
    obtain ⟨v, v1, v2, v3⟩ := ty_tree t (good_right ht)
    have hw := wFrom_ok (k := 9) (by omega)
    refine ⟨.n [.w (wTxt 9), v, u], .n fun z hz => ?_, ?_, ?_⟩
    · simp only [List.mem_cons, List.not_mem_nil, or_false] at hz
      rcases hz with rfl | rfl | rfl
      · exact trW_word (wTxt_ok (k := 9) (by omega)).1
      · exact v1
      · exact u1
    · rw [trTok_node]
      simp only [trTokL, tmTok, tmTokL, u2, v2, show ((9 : Int) == 1) = false from rfl, show ((9 : Int) == 2) = false from rfl, show ((9 : Int) == 3) = false from rfl, beq_self_eq_true, Bool.or_true, if_true, Bool.false_eq_true, if_false, List.append_nil]
    · simp only [trTerm, trTerms, nodeTm, hw, u3, v3]
      rfl
theorem next_inv {r : Rd} (h : r.next.2.bad = false) : r.bad = false ∧ r.ws = r.next.1 :: r.next.2.ws := by
  obtain ⟨ws, b⟩ := r
  cases ws with
  | nil => cases h
  | cons w ws => exact ⟨h, rfl⟩
theorem close_inv {r : Rd} (h : r.close.bad = false) : r.bad = false ∧ r.ws = mkB [41] :: r.close.ws := by
  unfold Rd.close at h ⊢
  simp only [Bool.or_eq_false_iff, Bool.not_eq_false'] at h
  obtain ⟨h1, h2⟩ := next_inv h.2
  refine ⟨h1, ?_⟩
  rw [h2]
  have : r.next.1 = mkB [41] := by
    rw [← mkB_of r.next.1]
    have h3 := h.1
    unfold sEq at h3
    rw [show r.next.1.data.toList = [41] by simpa [sRp] using h3]
  rw [this]
theorem sEq_eq {a b : ByteArray} (h : sEq a b = true) : a = b := by
  unfold sEq at h
  rw [← mkB_of a, ← mkB_of b, show a.data.toList = b.data.toList by simpa using h]
theorem kFrom_inv : ∀ {n : Nat} {s : ByteArray} {op : Bool} {k : Nat}, n ≤ 4 → kFrom s op n = some k → s = mkB (kTxt k) ∧ (k == 3) = op ∧ k ≤ 3
  | 0, s, op, k, _, h => by cases h
  | n + 1, s, op, k, hn, h => by
    unfold kFrom at h
    split at h
    · rename_i hw
      cases h
      unfold kAt at hw
      simp only [Bool.and_eq_true] at hw
      refine ⟨?_, by simpa using hw.2, by omega⟩
      rw [← sEq_eq hw.1]
      unfold kTxt
      rw [Int.toNat_natCast, mkB_of]
    · exact kFrom_inv (by omega) h
theorem readK_inv : ∀ (d : Nat) (r : Rd), (readK d r).2.bad = false → r.bad = false ∧ r.ws = (tyTok (readK d r).1).map mkB ++ (readK d r).2.ws
  | 0, r, h => by simp [readK, Rd.fail] at h
  | d + 1, r, h => by
    cases hop : sEq r.next.1 sLp with
    | true =>
      simp only [readK, hop, if_true] at h ⊢
      cases hk : kFrom r.next.2.next.1 true 4 with
      | none => rw [hk] at h; cases h
      | some k =>
        rw [hk] at h
        simp only at h ⊢
        obtain ⟨e1, e2, e3⟩ := kFrom_inv (Nat.le_refl _) hk
        have e2 : k = 3 := by simpa using e2
        subst e2
        obtain ⟨c1, c2⟩ := close_inv h
        obtain ⟨c3, c4⟩ := readK_inv d _ c1
        obtain ⟨c5, c6⟩ := readK_inv d _ c3
        obtain ⟨c7, c8⟩ := next_inv c5
        obtain ⟨c9, c10⟩ := next_inv c7
        refine ⟨c9, ?_⟩
        rw [c10, sEq_eq hop, c8, e1, c6, c4, c2]
        simp [tyTok, tyTokL, sLp, mkB]
    | false =>
      simp only [readK, hop, Bool.false_eq_true, if_false] at h ⊢
      cases hk : kFrom r.next.1 false 4 with
      | none => rw [hk] at h; cases h
      | some k =>
        rw [hk] at h
        simp only at h ⊢
        obtain ⟨e1, e2, e3⟩ := kFrom_inv (Nat.le_refl _) hk
        have e2 : k ≠ 3 := by simpa using e2
        obtain ⟨c1, c2⟩ := next_inv h
        refine ⟨c1, ?_⟩
        have h3 : ((k : Int) == 3) = false := by rw [beq_eq_false_iff_ne]; omega
        rw [c2, e1]
        simp [tyTok, h3]
theorem numOf_inv {s : ByteArray} {v : Int} (h : numOf s = some v) : s = mkB (Lib.itoa v) := by
  unfold numOf at h
  split at h
  · split at h
    · rename_i hq; cases h; exact (sEq_eq hq).symm
    · cases h
  · cases h
theorem number_inv {r : Rd} {s : ByteArray} (h : (r.number s).2.bad = false) : s = mkB (Lib.itoa (r.number s).1) ∧ (r.number s).2 = r := by
  unfold Rd.number at h ⊢
  split at h
  · rename_i v hv
    exact ⟨numOf_inv hv, rfl⟩
  · cases h
theorem readN_inv {f : Rd → Tm × Rd} (hf : ∀ r, (f r).2.bad = false → r.bad = false ∧ r.ws = (tmTok (f r).1).map mkB ++ (f r).2.ws) : ∀ (n : Nat) (r : Rd), (readN f n r).2.bad = false →
    r.bad = false ∧ r.ws = (tmTokL (readN f n r).1).map mkB ++ (readN f n r).2.ws
  | 0, r, h => ⟨h, rfl⟩
  | n + 1, r, h => by
    simp only [readN] at h ⊢
    obtain ⟨h1, h2⟩ := readN_inv hf n _ h
    obtain ⟨h3, h4⟩ := hf r h1
    refine ⟨h3, ?_⟩
    rw [h4]
    conv => lhs; rw [h2]
    simp [tmTokL]
theorem wFrom_inv' {s : ByteArray} {k : Nat} (h : wFrom s 10 = some k) : s = mkB (wTxt k) ∧ 4 ≤ k ∧ k ≤ 9 := by
  rw [← mkB_of s] at h
  obtain ⟨h1, h2⟩ := wFrom_inv (Nat.le_refl _) h
  exact ⟨by rw [← h1, mkB_of], h2⟩
theorem hash_inv {s : ByteArray} {l : List UInt8} (h1 : Lib.hasPrefix s.data.toList sHash.data.toList = true) (h2 : s.extract 1 s.size = mkB l) : s = mkB (35 :: l) := by
  have h3 : (s.extract 1 s.size).data.toList = s.data.toList.drop 1 := by
    rw [Lib.extract_eq]
    show ((s.data.toList.drop 1).take _) = _
    apply List.take_of_length_le
    rw [List.length_drop]
    have : s.data.toList.length = s.size := Array.length_toList
    omega
  rw [h2, mkB_l] at h3
  rw [← mkB_of s]
  cases hl : s.data.toList with
  | nil => rw [hl] at h1; cases h1
  | cons c r =>
    rw [hl] at h1 h3
    unfold Lib.hasPrefix at h1
    have : c = 35 := by
      simp [sHash, List.isPrefixOf] at h1
      exact h1.symm
    subst this
    rw [h3]; rfl
theorem readT_inv : ∀ (n : Nat) (r : Rd), (readT n r).2.bad = false → r.bad = false ∧ r.ws = (tmTok (readT n r).1).map mkB ++ (readT n r).2.ws
  | 0, r, h => by simp [readT, Rd.fail] at h
  | n + 1, r, h => by
    cases hb : r.next.2.bad with
    | true => simp [readT, hb, Rd.fail] at h
    | false =>
    obtain ⟨n1, n2⟩ := next_inv hb
    refine ⟨n1, ?_⟩
    rw [n2]
    cases hyn : (sEq r.next.1 sYes || sEq r.next.1 sNo) with
    | true =>
      simp only [readT, hb, hyn, Bool.false_eq_true, if_false, if_true]
      cases hy : sEq r.next.1 sYes with
      | true => rw [sEq_eq hy]; rfl
      | false =>
        rw [hy, Bool.false_or] at hyn
        rw [sEq_eq hyn]; rfl
    | false =>
    cases hh : Lib.hasPrefix r.next.1.data.toList sHash.data.toList with
    | true =>
      simp only [readT, hb, hyn, hh, Bool.false_eq_true, if_false, if_true] at h ⊢
      obtain ⟨q1, q2⟩ := number_inv h
      have := hash_inv hh q1
      rw [q2]
      simp only [tmTok, beq_self_eq_true, if_true, List.map_cons, List.map_nil, List.singleton_append]
      rw [← this]
    | false =>
    cases hl : sEq r.next.1 sLp with
    | false =>
      simp only [readT, hb, hyn, hh, hl, Bool.false_eq_true, if_false, if_true, Bool.not_false] at h ⊢
      obtain ⟨q1, q2⟩ := number_inv h
      rw [q2]
      simp only [tmTok, show ((2 : Int) == 1) = false from rfl, beq_self_eq_true, Bool.false_eq_true, if_false, if_true, List.map_cons, List.map_nil, List.singleton_append]
      rw [← q1]
    | true =>
      simp only [readT, hb, hyn, hh, hl, Bool.false_eq_true, if_false, if_true, Bool.not_true] at h ⊢
      cases hk : wFrom r.next.2.next.1 10 with
      | none => rw [hk] at h; cases h
      | some k =>
        rw [hk] at h
        obtain ⟨w1, w2, w3⟩ := wFrom_inv' hk
        have e1 : ((k : Int) == 1) = false := by rw [beq_eq_false_iff_ne]; omega
        have e2 : ((k : Int) == 2) = false := by rw [beq_eq_false_iff_ne]; omega
        have e3 : ((k : Int) == 3) = false := by rw [beq_eq_false_iff_ne]; omega
        simp only [readB] at h ⊢
        obtain ⟨c1, c2⟩ := close_inv h
        obtain ⟨c3, c4⟩ := readN_inv (readT_inv n) _ _ c1
        rw [sEq_eq hl]
        cases h79 : ((k : Int) == 7 || (k : Int) == 9) with
        | true =>
          simp only [h79, if_true] at c2 c3 c4 ⊢
          obtain ⟨c5, c6⟩ := readK_inv 4 _ c3
          obtain ⟨c7, c8⟩ := next_inv c5
          rw [c8, w1, c6, c4, c2]
          simp only [tmTok, e1, e2, e3, h79, Bool.false_eq_true, if_false, if_true]
          simp [sLp, mkB]
        | false =>
          simp only [h79, Bool.false_eq_true, if_false] at c2 c3 c4 ⊢
          obtain ⟨c7, c8⟩ := next_inv c3
          rw [c8, w1, c4, c2]
          simp only [tmTok, e1, e2, e3, h79, Bool.false_eq_true, if_false]
          simp [sLp, mkB]
theorem toks_len : ∀ (l cur : List UInt8), (toks cur l).length ≤ l.length + (if cur = [] then 0 else 1)
  | [], cur => by unfold toks flushW; split <;> simp
  | c :: l, cur => by
    have hf : (flushW cur).length ≤ (if cur = [] then 0 else 1) := by unfold flushW; split <;> simp
    have h0 := toks_len l []
    simp only [if_true] at h0
    unfold toks
    split
    · simp only [List.length_append, List.length_cons]; omega
    · split
      · simp only [List.length_append, List.length_cons]; omega
      · have h1 := toks_len l (cur ++ [c])
        rw [if_neg (by simp)] at h1
        simp only [List.length_cons]; omega
theorem mkB_inj : ∀ {l m : List (List UInt8)}, l.map mkB = m.map mkB → l = m := fun {l m} h => by
  have h1 := congrArg (List.map (fun x : ByteArray => x.data.toList)) h
  rw [List.map_map, List.map_map] at h1
  have e : ((fun x : ByteArray => x.data.toList) ∘ mkB) = id := by funext x; exact mkB_l x
  rw [e, List.map_id, List.map_id] at h1
  exact h1
theorem good_parts {t : Tm} (h : t.Good 0 = true) : (t.nodes : Int) ≤ 40 ∧ t.good 0 0 = true := by
  unfold Tm.Good at h
  simpa using h
theorem refParse_eq (s : ByteArray) : refParse s = parse s := by
  unfold refParse parse
  by_cases hs : 1000 < s.size
  · rw [if_pos hs, if_pos hs]
  rw [if_neg hs, if_neg hs]
  have hlen : s.data.toList.length = s.size := Array.length_toList
  obtain ⟨s1, s2, _, _⟩ := trees_sim (s.size + 1) false [] s.data.toList (by omega)
  simp only [words_toks]
  rw [s1, s2]
  have htl := toks_len s.data.toList []
  simp only [if_true] at htl
  generalize toks [] s.data.toList = ws at *
  by_cases hok : ∃ x, (treesW (s.size + 1) false [] ws).1 = [x] ∧ (treesW (s.size + 1) false [] ws).2.2 = true ∧ (trTerm x).2 = true ∧ (trTerm x).1.Good 0 = true
  · obtain ⟨x, h1, h2, h3, h4⟩ := hok
    obtain ⟨xs, e1, e2⟩ := treesW_ok _ _ _ _ h2
    rw [h1, List.nil_append] at e1
    subst e1
    have e2 : ws = tmTok (trTerm x).1 := by
      rw [e2, ← term_tok x h3]; simp [trTokL]
    obtain ⟨g1, g2⟩ := good_parts h4
    have hb := tm_back 40 (trTerm x).1 0 0 g2 (by omega) (by omega) []
    rw [List.append_nil, ← e2] at hb
    rw [h1, h2, hb]
    simp [h3, h4]
  · have hl : (match (treesW (s.size + 1) false [] ws).1 with
        | [x] => if (treesW (s.size + 1) false [] ws).2.2 && ((trTerm x).2 && (trTerm x).1.Good 0) then ((trTerm x).1, (0 : Int)) else (Tm.zero, 1)
        | _ => (Tm.zero, 1)) = (Tm.zero, 1) := by
      split
      · rename_i x hx
        rw [if_neg]
        intro h
        simp only [Bool.and_eq_true] at h
        exact hok ⟨x, hx, h.1, h.2.1, h.2.2⟩
      · rfl
    rw [hl]
    split
    · rfl
    · rename_i hc
      exfalso
      simp only [Bool.or_eq_true, not_or, Bool.not_eq_true, Bool.not_eq_false', decide_eq_false_iff_not] at hc
      obtain ⟨⟨c1, c2⟩, c3⟩ := hc
      obtain ⟨r1, r2⟩ := readT_inv 40 ⟨ws.map mkB, false⟩ c1
      have c2 : (readT 40 ⟨ws.map mkB, false⟩).2.ws = [] := by
        cases hq : (readT 40 ⟨ws.map mkB, false⟩).2.ws with
        | nil => rfl
        | cons a b => rw [hq] at c2; simp at c2
      rw [c2, List.append_nil] at r2
      have hw := mkB_inj r2
      obtain ⟨g1, g2⟩ := good_parts c3
      obtain ⟨x, x1, x2, x3⟩ := tm_tree _ 0 0 g2 (by omega)
      have e : trTokL [x] = ws := by rw [hw, ← x2]; simp [trTokL]
      have hbk := treesW_back (s.size + 1) false [] [x] [] (by simpa using x1) (by rw [e]; omega)
      rw [e] at hbk
      simp only [Bool.false_eq_true, if_false, List.append_nil, List.nil_append] at hbk
      refine hok ⟨x, by rw [hbk], by rw [hbk], by rw [x3], by rw [x3]; exact c3⟩
end Go.Proofs.YtnflnbdlgdjfmabGreatDoor
namespace Go.Proofs.YtnflnbdlgdjfmabGreatDoor
open Go.Shelf Go.RowKit Go.Lib
set_option linter.unusedVariables false
set_option linter.unusedSimpArgs false
set_option maxRecDepth 100000 in
theorem decode_hi (s : ByteArray) (pos : Nat) (h : pos < s.size) (ha : 128 ≤ (s[pos]'h).toNat) : 128 ≤ (Utf8.decode s pos).1 ∧ (Utf8.decode s pos).1 ≤ 1114111 ∧ Utf8.valid ((Utf8.decode s pos).1 : Int) = true := by
  have hn : ¬ (s[pos]'h).toNat < 128 := by omega
  have e0 : s.get! (pos + 0) = s[pos]'h := get_at s pos h
  have hb : ∀ k, (s.get! (pos + k)).toNat < 256 := fun k => (s.get! (pos + k)).toNat_lt
  have h0 := hb 0; have h1 := hb 1; have h2 := hb 2; have h3 := hb 3
  have v1 : ∀ c : Nat, c < 2048 → Utf8.valid (c : Int) = true := fun c hc => by unfold Utf8.valid; simp; omega
  have hre : 128 ≤ Utf8.runeError ∧ Utf8.runeError ≤ 1114111 ∧ Utf8.valid ((Utf8.runeError : Nat) : Int) = true := ⟨by decide, by decide, by decide⟩
  have le : ∀ c : Nat, Utf8.valid (c : Int) = true → c ≤ 1114111 := fun c hc => by unfold Utf8.valid at hc; simp at hc; omega
  simp only [Utf8.decode, e0, hn, if_false]
  repeat' split
  all_goals first | exact hre | skip
  · rename_i hc; exact ⟨hc, by dsimp only; omega, v1 _ (by dsimp only; omega)⟩
  · rename_i hc
    simp only [Bool.and_eq_true, decide_eq_true_eq] at hc
    exact ⟨by have := hc.1; dsimp only; omega, le _ hc.2, hc.2⟩
  · rename_i hc
    simp only [Bool.and_eq_true, decide_eq_true_eq] at hc
    exact ⟨by have := hc.1; dsimp only; omega, le _ hc.2, hc.2⟩
variable {P : Program} {ρ : Ren}
set_option maxHeartbeats 8000000 in
set_option maxRecDepth 1000000 in
/-- strings.IndexRune, of the rune that stands for what is none. -/
theorem indexRune_err (L : Lays.n152 P ρ) (s : ByteArray) (w : World) (hascii : ∀ (j : Nat) b, s.data.toList[j]? = some b → b.toNat < 128) :
    Calls P (ρ.f 152) #[.string s, .int .i32 65533] w fun e w' => (∃ m : Int, e = .returned (.int .i64 m) ∧ m < 0) ∧ Below w.heap.size w w' := by
  have HA : Aside (∀ (j : Nat) b, s.data.toList[j]? = some b → b.toNat < 128) := hascii
  clear hascii
  have t0 := L.t0; have a0 := L.a0; have z0 := L.z0; have v0 := L.v0
  have t3 := L.t3; have a3 := L.a3; have z3 := L.z3; have v3 := L.v3
  have t4 := L.t4; have a4 := L.a4; have z4 := L.z4; have v4 := L.v4
  have t5 := L.t5; have a5 := L.a5; have z5 := L.z5; have v5 := L.v5
  have t9 := L.t9; have a9 := L.a9; have z9 := L.z9; have v9 := L.v9
  have t21 := L.t21; have a21 := L.a21; have z21 := L.z21; have v21 := L.v21
  go_enter L.f152, Body.n152_ntmps ρ
  go_wp2
  go_loopg [5, 6] s.size (fun g _ _ wx => ∃ i : Nat, i + g = s.size ∧ wx = w.iter s i)
  case atStart => exact ⟨0, by omega, rfl⟩
  case round =>
    obtain ⟨i, hig, rfl⟩ := hrel
    cases gk with
    | zero =>
      obtain rfl : i = s.size := by omega
      have hnx := run_next_end (P := P) w s s.size
      go_wp2
      go_ret
      exact ⟨⟨-1, rfl, by decide⟩, (Below.refl _ _).alloc (Nat.le_refl _) _⟩
    | succ g =>
      have hi : i < s.size := by omega
      obtain ⟨x, hx⟩ : ∃ x : UInt8, s[i]'hi = x := ⟨_, rfl⟩
      have hxl : s.data.toList[i]? = some x := by rw [← hx]; exact Lib.data_getElem? s i hi
      have hx128 : x.toNat < 128 := HA.out i x hxl
      have hnx := fun ty => run_next_ascii (P := P) w s i ty hi (by rw [hx]; exact hx128)
      rw [hx] at hnx
      have hne : ((x.toNat : Int) == 65533) = false := beq_eq_false_iff_ne.2 (by omega)
      clear hxl hx
      go_wp2
      go_roundg g
      case measure => omega
      case rel => exact ⟨i + 1, by omega, rfl⟩
theorem noAny_run {s chars : List UInt8} {i n : Nat} (h : Lib.NoAny s chars i) (hc : ∀ b ∈ chars, b.toNat < 128) (hr : ∀ k, k < n → ∀ b, s[i + k]? = some b → 128 ≤ b.toNat) : Lib.NoAny s chars (i + n) := fun j b hj hb => by
  by_cases hji : j < i
  · exact h j b hji hb
  · have h1 := hr (j - i) (by omega) b (by rw [show i + (j - i) = j by omega]; exact hb)
    cases hm : chars.contains b with
    | false => rfl
    | true =>
      have := hc b (by simpa using hm)
      omega
set_option maxHeartbeats 8000000 in
set_option maxRecDepth 1000000 in
theorem indexAny_few (L : Lays.n153 P ρ) (s chars : ByteArray) (w : World) (h2 : 2 ≤ chars.size) (h8 : s.size ≤ 8) (hac : ∀ (j : Nat) b, chars.data.toList[j]? = some b → b.toNat < 128)
    (hR : ∀ W, Below w.heap.size w W → ∀ r : Int, 128 ≤ r → r ≤ 1114111 → Utf8.valid r = true → Calls P (ρ.f 152) #[.string chars, .int .i32 r] W fun e w' => (∃ m : Int, e = .returned (.int .i64 m) ∧ m < 0) ∧ Below W.heap.size W w') :
    Calls P (ρ.f 153) #[.string s, .string chars] w fun e w' => e = .returned (.int .i64 (Lib.indexAny s.data.toList chars.data.toList)) ∧ Below w.heap.size w w' := by
  have HA : Aside (∀ (j : Nat) b, chars.data.toList[j]? = some b → b.toNat < 128) := hac
  clear hac
  have HR : Aside (∀ W, Below w.heap.size w W → ∀ r : Int, 128 ≤ r → r ≤ 1114111 → Utf8.valid r = true → Calls P (ρ.f 152) #[.string chars, .int .i32 r] W fun e w' => (∃ m : Int, e = .returned (.int .i64 m) ∧ m < 0) ∧ Below W.heap.size W w') := hR
  clear hR
  have hemp : chars.toList.isEmpty = false := by
    rw [Lib.toList_data]
    cases h : chars.data.toList with
    | nil => have := Lib.size_eq chars; rw [h, List.length_nil] at this; omega
    | cons _ _ => rfl
  have hn1 : ((chars.size : Int) == 1) = false := beq_eq_false_iff_ne.2 (by omega)
  have h8z : decide ((8 : Int) < (s.size : Int)) = false := decide_eq_false (by omega)
  have t3 := L.t3; have a3 := L.a3; have z3 := L.z3; have v3 := L.v3
  have t4 := L.t4; have a4 := L.a4; have z4 := L.z4; have v4 := L.v4
  have t5 := L.t5; have a5 := L.a5; have z5 := L.z5; have v5 := L.v5
  have t9 := L.t9; have a9 := L.a9; have z9 := L.z9; have v9 := L.v9
  have t21 := L.t21; have a21 := L.a21; have z21 := L.z21; have v21 := L.v21
  have e152 : ∀ args w, (callFunc (ρ.f 152) args).run P w = .ok (.enter (ρ.f 152) args) w := enters_of L.f152 (by kernel_rfl) rfl
  have e226 : ∀ args w, (callFunc (ρ.f 226) args).run P w = .ok (.enter (ρ.f 226) args) w := enters_of L.f226 (by kernel_rfl) rfl
  go_enter L.f153, Body.n153_ntmps ρ
  go_wp2_with (go_at_fn (ρ.f 226); refine (Any.strings_shouldUseASCIISet { L with } _ _).mono ?_; rintro e w' ⟨rfl, hw⟩; rw [hw, h8z])
  go_loopg [9, 10] s.size (fun g _ _ wx => ∃ i : Nat, i ≤ s.size ∧ s.size ≤ i + g ∧ wx.heap[w.heap.size]? = some (.stringIter s i) ∧ Below w.heap.size w wx ∧ Lib.NoAny s.data.toList chars.data.toList i)
  case atStart => exact ⟨0, by omega, by omega, World.iter_heap w s 0, (Below.refl _ _).alloc (Nat.le_refl _) _, Lib.NoAny.zero _ _⟩
  case round =>
    rename World => wx
    obtain ⟨i, hi0, hig, hk, hbel, hno⟩ := hrel
    have HN : Aside (Lib.NoAny s.data.toList chars.data.toList i) := hno
    clear hno
    have HB : Aside (Below w.heap.size w wx) := hbel
    clear hbel
    by_cases hi : i < s.size
    case neg =>
      obtain rfl : i = s.size := by omega
      have hnx := fun ty => run_next_end_at (P := P) wx w.heap.size s s.size ty hk (Nat.lt_irrefl _)
      go_wp2
      go_ret
      exact ⟨by rw [Lib.indexAny_none (by rw [← Lib.size_eq]; exact HN.out)]; rfl, HB.out⟩
    case pos =>
      obtain ⟨g, rfl⟩ : ∃ g, gk = g + 1 := ⟨gk - 1, by omega⟩
      obtain ⟨x, hx⟩ : ∃ x : UInt8, s[i]'hi = x := ⟨_, rfl⟩
      have hxl : s.data.toList[i]? = some x := by rw [← hx]; exact Lib.data_getElem? s i hi
      have HK : Aside (wx.heap[w.heap.size]? = some (.stringIter s i)) := hk
      have hlt : w.heap.size < wx.heap.size := (Array.getElem?_eq_some_iff.1 hk).1
      by_cases hx128 : x.toNat < 128
      · have hnx := fun ty => run_next_ascii_at (P := P) wx w.heap.size s i ty hk hi (by rw [hx]; exact hx128)
        rw [hx] at hnx
        have Hx : Aside (s.data.toList[i]? = some x) := hxl
        clear hxl hx hk
        have hcon := Lib.contains_iff_indexByte chars.data.toList x
        have hback : ((x.toNat : Int)).toNat.toUInt8 = x := by simp
        cases hin : chars.data.toList.contains x
        · rw [hin] at hcon
          have hlt0 : ¬ ((0 : Int) ≤ Lib.indexByte chars.data.toList x) := of_decide_eq_false hcon.symm
          clear hcon
          go_wp2_with (go_at_fn (ρ.f 152); refine (Any.strings_IndexRune_ascii { L with } _ _ _ (by omega) (by omega)).mono ?_; rintro e w' ⟨rfl, hw⟩; rw [hw, hback])
          go_roundg g
          case measure => omega
          case rel => exact ⟨i + 1, by omega, by omega, Lib.iterAt_heap _ _ _ _ _ HK.out, Lib.below_iterAt HB.out (Nat.le_refl _) _ _, HN.out.succ Hx.out hin⟩
        · rw [hin] at hcon
          have hge : (0 : Int) ≤ Lib.indexByte chars.data.toList x := of_decide_eq_true hcon.symm
          clear hcon
          go_wp2_with (go_at_fn (ρ.f 152); refine (Any.strings_IndexRune_ascii { L with } _ _ _ (by omega) (by omega)).mono ?_; rintro e w' ⟨rfl, hw⟩; rw [hw, hback])
          go_ret
          exact ⟨by rw [Lib.indexAny_hit HN.out Hx.out hin]; rfl, Lib.below_iterAt HB.out (Nat.le_refl _) _ _⟩
      · obtain ⟨d1, d2, d3⟩ := decode_hi s i hi (by rw [hx]; omega)
        obtain ⟨d4, d5⟩ := decode_run s i hi (by rw [hx]; omega)
        have d6 : 1 ≤ (Utf8.decode s i).2 := by
          simp only [Utf8.decode]
          repeat' split
          all_goals (first | exact Nat.le_refl 1 | (show 1 ≤ 2; decide) | (show 1 ≤ 3; decide) | (show 1 ≤ 4; decide))
        have hnx := fun ty => run_next_any_at (P := P) wx w.heap.size s i ty hk hi
        have hrun := HR.out (wx.iterAt w.heap.size s (i + (Utf8.decode s i).2)) (Lib.below_iterAt HB.out (Nat.le_refl _) _ _) ((Utf8.decode s i).1 : Int) (by omega) (by omega) d3
        have hno2 : Aside (Lib.NoAny s.data.toList chars.data.toList (i + (Utf8.decode s i).2)) := noAny_run HN.out (fun b hb => by
          obtain ⟨j, hj, hje⟩ := List.getElem_of_mem hb
          exact HA.out j b (by rw [List.getElem?_eq_getElem hj, hje])) fun k hk b hb => by
            have := d5 k hk
            rw [getE_list s (i + k) (by omega)] at hb
            cases hb
            exact this
        have HK2 : Aside ((wx.iterAt w.heap.size s (i + (Utf8.decode s i).2)).heap[w.heap.size]? = some (.stringIter s (i + (Utf8.decode s i).2))) := Lib.iterAt_heap _ _ _ _ _ hk
        have HB2 : Aside (Below w.heap.size w (wx.iterAt w.heap.size s (i + (Utf8.decode s i).2))) := Lib.below_iterAt HB.out (Nat.le_refl _) _ _
        have hsz : (wx.iterAt w.heap.size s (i + (Utf8.decode s i).2)).heap.size = wx.heap.size := Lib.iterAt_size _ _ _ _
        clear hxl hx hk d3 d5
        generalize (Utf8.decode s i).1 = rr at *
        generalize (Utf8.decode s i).2 = nn at *
        have Hrun : Aside (Calls P (ρ.f 152) #[.string chars, .int .i32 (rr : Int)] (wx.iterAt w.heap.size s (i + nn)) fun e w' => (∃ m : Int, e = .returned (.int .i64 m) ∧ m < 0) ∧ Below (wx.iterAt w.heap.size s (i + nn)).heap.size (wx.iterAt w.heap.size s (i + nn)) w') := hrun
        clear hrun
        go_wp2_with (go_at_fn (ρ.f 152); refine Hrun.out.mono ?_; rintro e w' ⟨⟨m, rfl, hm⟩, hb⟩; have hge : ¬ ((0 : Int) ≤ m) := (by omega); have Hb : Aside (Below (wx.iterAt w.heap.size s (i + nn)).heap.size (wx.iterAt w.heap.size s (i + nn)) w') := hb; clear hb)
        go_roundg g
        case measure => omega
        case rel => exact ⟨i + nn, d4, by omega, (Hb.out.block _ (by rw [hsz]; exact hlt)).trans HK2.out, HB2.out.trans ⟨Hb.out.os, Hb.out.tape, Hb.out.output, Hb.out.size, fun j hj => Hb.out.block j (by rw [hsz]; exact Nat.lt_trans hj hlt)⟩, hno2.out⟩
end Go.Proofs.YtnflnbdlgdjfmabGreatDoor
namespace Go.Proofs.YtnflnbdlgdjfmabGreatDoor
open Go.RowKit
set_option linter.unusedVariables false
set_option linter.unusedSimpArgs false
set_option maxRecDepth 100000
attribute [local irreducible] RunL AW LocOp ACalls Gh
theorem trimLeft_a (l : List UInt8) : ACalls Tryz.prog 50 [.one (.str (mkB l)), .one (.str ⟨#[32, 10]⟩)] [] (.one (.str (mkB (l.dropWhile isSpB)))) [] :=
  acalls_ext (by kernel_rfl) (fun F ρ w vals H ha => by
    obtain ⟨_, _, rfl, rfl, rfl⟩ := args2 ha
    refine (Any.strings_TrimLeft_laid Tryz.lays161 (by kernel_rfl) (mkB l) ⟨#[32, 10]⟩ w (by decide) (ascii_of_all (by decide))).mono fun e w' ⟨he, hw⟩ => ?_
    refine ⟨_, noG, he, hw, fun k h => h.elim, ?_⟩
    show Value.string _ = Value.string _
    congr 1
    unfold mkB
    congr 2
    rw [show (ByteArray.mk l.toArray).data.toList = l from rfl]
    unfold Lib.trimLeftS
    congr 1
    funext b
    unfold isSpB
    show List.contains [32, 10] b = _
    simp
    rfl) trivial
theorem trimPrefix_a (l p : List UInt8) : ACalls Tryz.prog 94 [.one (.str (mkB l)), .one (.str (mkB p))] [] (.one (.str (mkB (Lib.trimPrefix l p)))) [] :=
  acalls_ext (by kernel_rfl) (fun F ρ w vals H ha => by
    obtain ⟨_, _, rfl, rfl, rfl⟩ := args2 ha
    refine (Tryz.strings_TrimPrefix (mkB l) (mkB p) w).mono fun e w' ⟨he, hw⟩ => ?_
    subst hw
    refine ⟨_, noG, he, Below.refl _ _, fun k h => h.elim, ?_⟩
    show Value.string _ = Value.string _
    rw [mkB_l, mkB_l]; rfl) trivial
def digB : List UInt8 := [48, 49, 50, 51, 52, 53, 54, 55, 56, 57]
theorem trim_a (l : List UInt8) (hl : l.length ≤ 1000000) : ACalls Tryz.prog 95 [.one (.str (mkB l)), .one (.str (mkB digB))] [] (.one (.str (mkB (Lib.trimS l digB)))) [] :=
  acalls_ext (by kernel_rfl) (fun F ρ w vals H ha => by
    obtain ⟨_, _, rfl, rfl, rfl⟩ := args2 ha
    have hsz : (mkB l).size = l.length := by simp [mkB, ByteArray.size]
    refine (Any.strings_Trim_laid Tryz.lays160 (by kernel_rfl) (mkB l) (mkB digB) w (by omega) (by decide) (ascii_of_all (by decide))).mono fun e w' ⟨he, hw⟩ => ?_
    refine ⟨_, noG, he, hw, fun k h => h.elim, ?_⟩
    show Value.string _ = Value.string _
    rw [mkB_l, mkB_l]; rfl) trivial
theorem validRune_a (r : Int) : ACalls Tryz.prog 122 [.one (.int .i32 r)] [] (.one (.bool (Lib.validRune r))) [] :=
  acalls_ext (by kernel_rfl) (fun F ρ w vals H ha => by
    obtain ⟨_, rfl, rfl⟩ := args1 ha
    have L := Tryz.lays152
    refine (Any.utf8_ValidRune (ρ := Tryz.lays152_ren) { L with } r w).mono fun e w' ⟨he, hw⟩ => ?_
    subst hw
    exact ⟨_, noG, he, Below.refl _ _, fun k h => h.elim, rfl⟩) trivial
theorem indexByte_a (l : List UInt8) (c : Int) : ACalls Tryz.prog 121 [.one (.str (mkB l)), .one (.int .u8 c)] [] (.one (.int .i64 (Lib.indexByte l c.toNat.toUInt8))) [] :=
  acalls_ext (by kernel_rfl) (fun F ρ w vals H ha => by
    obtain ⟨_, _, rfl, rfl, rfl⟩ := args2 ha
    have L := Tryz.lays152
    refine (Any.strings_IndexByte (ρ := Tryz.lays152_ren) { L with } (mkB l) c w).mono fun e w' ⟨he, hw⟩ => ?_
    subst hw
    refine ⟨_, noG, he, Below.refl _ _, fun k h => h.elim, ?_⟩
    rw [mkB_l]; rfl) trivial
section
variable {P : Program} {s : St} {dst : Option Tmp} {rt : TypeId} {pos : String} {after : Array Edge} {guard : Option (Nat × Bool)}
theorem loc_convIS {src d : TypeId} {x : Operand} {k : IntKind} {n : Int} (hx' : opU s.t x = .one (.int k n)) (hs : (P.underlying src).isSome = true) (hd : P.underlying d = some .string) : LocOp P ⟨dst, .convert src d x, rt, pos, after, guard⟩ s [] [] (.one (.str (Utf8.encode n))) :=
  loc_run fun F ρ h w ev H hx => by
    have h1 := (hx x (by simp [Op.operands])).1
    rw [hx'] at h1
    have h1 : ev x = .int k n := h1
    refine ⟨_, ?_, rfl, trivial⟩
    have := run_convert_int_string (P := P) w src d k n hs hd
    simp only [execOp, h1]
    simp [this]
end
theorem indexByte_neg {l : List UInt8} {b : UInt8} (h : ∀ c ∈ l, c ≠ b) : Lib.indexByte l b < 0 := by
  have h1 := Lib.contains_iff_indexByte l b
  have h2 : l.contains b = false := by
    cases hc : l.contains b with
    | false => rfl
    | true => exact absurd rfl (h b (by simpa using hc))
  rw [h2] at h1
  have := of_decide_eq_false h1.symm
  omega
set_option maxHeartbeats 4000000 in
theorem indexRune_a (l : List UInt8) (r : Int) (ha : ∀ b ∈ l, b.toNat < 128) (hl : l.length ≤ 1000) (h0 : 128 ≤ r) (h1 : r ≤ 1114111) (hv : Utf8.valid r = true) (h65 : r ≠ 65533) : ACalls Tryz.prog 91 [.one (.str (mkB l)), .one (.int .i32 r)] [] (.one (.int .i64 (-1))) [] := by
  have c1 : decide ((0 : Int) ≤ r) = true := decide_eq_true (by omega)
  have c2 : decide (r < 128) = false := decide_eq_false (by omega)
  have c3 : (r == 65533) = false := beq_eq_false_iff_ne.2 h65
  have hvr : Lib.validRune r = true := by unfold Lib.validRune; unfold Utf8.valid at hv; simp at hv ⊢; omega
  obtain ⟨f1, f2, f3⟩ := encode_facts r hv h0
  have hen : Utf8.encode r = mkB (Utf8.encode r).data.toList := (mkB_of _).symm
  have hel : (Utf8.encode r).data.toList.length = (Utf8.encode r).size := Array.length_toList
  obtain ⟨q, hq, hq128⟩ : ∃ q, (Utf8.encode r).data.toList[(Utf8.encode r).size - 1]? = some q ∧ 128 ≤ q.toNat := by
    have h := f3 (by omega)
    refine ⟨_, Lib.data_getElem? (Utf8.encode r) _ (by omega), h⟩
  rw [← hel] at f1 f2 hq
  generalize (Utf8.encode r).data.toList = e at *
  have hsz : (mkB e).size = e.length := by simp [mkB, ByteArray.size]
  have hszl : (mkB l).size = l.length := by simp [mkB, ByteArray.size]
  have hvr' := validRune_a r
  rw [hvr] at hvr'
  refine acalls_of_body Tryz.func91 rfl (by kernel_rfl) (Nat.le_of_ble_eq_true rfl) trivial (by simp [namesL]) ?_
  refine AW.seq ?_; refine AW.region (by kernel_rfl) ?_; refine RunL.val (by exact rfl) (loc_assignC rfl) ?_; refine RunL.nil ?_; refine AW.block ?_; refine AW.seq ?_; refine AW.region (by kernel_rfl) ?_; refine RunL.val (by exact rfl) (loc_moveC rfl) ?_; refine RunL.val (by exact rfl) (loc_binInt rfl rfl rfl) ?_; refine RunL.val (by exact rfl) (loc_moveC rfl) ?_; refine RunL.val (by exact .inl ⟨_, _, rfl, rfl, guard_eq true (by assumption) rfl⟩) (loc_moveC rfl) ?_; refine RunL.val (by exact .inl ⟨_, _, rfl, rfl, guard_eq true (by assumption) rfl⟩) (loc_binInt rfl rfl rfl) ?_; refine RunL.val (by exact rfl) (loc_pickI true (by assumption) rfl rfl) ?_; refine RunL.val (by exact rfl) (loc_assignC rfl) ?_; refine RunL.nil ?_; refine AW.condFa (by exact rfl) (by assumption) ?_; refine AW.seq ?_; refine AW.region (by kernel_rfl) ?_; refine RunL.val (by exact rfl) (loc_moveC rfl) ?_; refine RunL.val (by exact rfl) (loc_binInt rfl rfl rfl) ?_; refine RunL.val (by exact rfl) (loc_assignC rfl) ?_; refine RunL.nil ?_; refine AW.condFa (by exact rfl) (by assumption) ?_; refine AW.seq ?_; refine AW.region (by kernel_rfl) ?_; refine RunL.val (by exact rfl) (loc_moveC rfl) ?_
  refine RunL.val (by exact rfl) (loc_fun (hvr') rfl (by refine ⟨_, _, rfl, (by exact LeU.of_eq rfl trivial), (by exact trivial), ?_⟩; exact rfl)) ?_
  refine RunL.val (by exact rfl) (loc_not rfl) ?_; refine RunL.val (by exact rfl) (loc_assignC rfl) ?_; refine RunL.nil ?_; refine AW.condF (by exact rfl) ?_
  refine AW.scope ?_
  refine AW.seq ?_; refine AW.region (by kernel_rfl) ?_; refine RunL.val (by exact rfl) (loc_moveC rfl) ?_
  refine RunL.val (by exact rfl) (loc_convIS (by exact rfl) (by kernel_rfl) (Tryz.underlying9)) ?_
  rw [hen]
  refine RunL.val (by exact rfl) (loc_assignC rfl) ?_; refine RunL.nil ?_; refine AW.seq ?_; refine AW.region (by kernel_rfl) ?_; refine RunL.val (by exact rfl) (loc_moveC rfl) ?_; refine RunL.val (by exact rfl) (loc_lenStr rfl) ?_; refine RunL.val (by exact rfl) (loc_subB rfl rfl (by omega)) ?_; refine RunL.val (by exact rfl) (loc_assignC rfl) ?_; refine RunL.nil ?_; refine AW.seq ?_; refine AW.region (by kernel_rfl) ?_; refine RunL.val (by exact rfl) (loc_moveC rfl) ?_; refine RunL.val (by exact rfl) (loc_assignC rfl) ?_; refine RunL.nil ?_; refine AW.seq ?_; refine AW.region (by kernel_rfl) ?_; refine RunL.val (by exact rfl) (loc_assignC rfl) ?_; refine RunL.nil ?_; refine AW.seq ?_; refine AW.block ?_
  refine AW.gh (gh_lit [(0, .one (.str (mkB l))), (7, .one (.str (mkB e))), (8, .one (.int .i64 ((((mkB e).size : Nat) : Int) - 1))), (9, .one (.int .i64 ((((mkB e).size : Nat) : Int) - 1)))] [] [] [] ⟨(by exact WkU.of_eq rfl trivial), (by exact WkU.of_eq rfl trivial), (WkU.of_eq rfl trivial), (WkU.of_eq rfl trivial), trivial⟩ trivial trivial trivial rfl rfl ⟨trivial, trivial, trivial, trivial, trivial⟩ trivial) ?_
  refine AW.loop (fun m t h => m = 0 ∧ t = tOfL [(0, .one (.str (mkB l))), (7, .one (.str (mkB e))), (8, .one (.int .i64 ((((mkB e).size : Nat) : Int) - 1))), (9, .one (.int .i64 ((((mkB e).size : Nat) : Int) - 1)))] ∧ h = ofL []) 0 ⟨rfl, rfl, rfl⟩ ?_
  rintro m t h ⟨rfl, rfl, rfl⟩
  cases hlt : decide (((((mkB e).size : Nat) : Int) - 1) < (((mkB l).size : Nat) : Int)) with
  | false =>
    refine AW.seq ?_; refine AW.seq ?_; refine AW.region (by kernel_rfl) ?_; refine RunL.val (by exact rfl) (loc_moveC rfl) ?_; refine RunL.val (by exact rfl) (loc_moveC rfl) ?_; refine RunL.val (by exact rfl) (loc_lenStr rfl) ?_; refine RunL.val (by exact rfl) (loc_binInt rfl rfl rfl) ?_; refine RunL.nil ?_; refine AW.condFa (by exact rfl) (by assumption) ?_; refine AW.exit ?_; refine AW.seq ?_; refine AW.seq ?_; refine AW.region (by kernel_rfl) ?_; refine RunL.val (by exact rfl) (loc_assignC rfl) ?_; refine RunL.nil ?_; refine AW.ret ?_
    exact ret_same (.inr rfl) rfl trivial
  | true =>
    have hlt' := of_decide_eq_true hlt
    obtain ⟨c, hc⟩ : ∃ c, l[((((mkB e).size : Nat) : Int) - 1).toNat]? = some c := ⟨_, List.getElem?_eq_getElem (by omega)⟩
    have hc128 := ha c (List.mem_of_getElem? hc)
    have hq' : e[((((mkB e).size : Nat) : Int) - 1).toNat]? = some q := by rw [show ((((mkB e).size : Nat) : Int) - 1).toNat = e.length - 1 by omega]; exact hq
    have hne : ((c.toNat : Int) != (q.toNat : Int)) = true := by simp; omega
    refine AW.seq ?_; refine AW.seq ?_; refine AW.region (by kernel_rfl) ?_; refine RunL.val (by exact rfl) (loc_moveC rfl) ?_; refine RunL.val (by exact rfl) (loc_moveC rfl) ?_; refine RunL.val (by exact rfl) (loc_lenStr rfl) ?_; refine RunL.val (by exact rfl) (loc_binInt rfl rfl rfl) ?_; refine RunL.nil ?_; refine AW.condTa (by exact rfl) (by assumption) ?_; refine AW.skip ?_; refine AW.block ?_
    refine AW.scope ?_
    refine AW.seq ?_; refine AW.seq ?_; refine AW.regionD (by kernel_rfl) (by kernel_rfl) (by kernel_rfl) ?_; refine RunL.val (by exact rfl) (loc_moveC rfl) ?_; refine RunL.val (by exact rfl) (loc_moveC rfl) ?_
    refine RunL.val (by exact rfl) (loc_indexStr (by exact rfl) (by exact rfl) (by omega) hc) ?_
    refine RunL.val (by exact rfl) (loc_moveC rfl) ?_; refine RunL.val (by exact rfl) (loc_moveC rfl) ?_
    refine RunL.val (by exact rfl) (loc_indexStr (by exact rfl) (by exact rfl) (by omega) hq') ?_
    refine RunL.val (by exact rfl) (loc_binInt rfl rfl rfl) ?_; refine RunL.nilD (by kernel_rfl) ?_; refine AW.condTa (by exact rfl) (by assumption) ?_; refine AW.seq ?_; refine AW.regionD (by kernel_rfl) (by kernel_rfl) (by kernel_rfl) ?_; refine RunL.val (by exact rfl) (loc_moveC rfl) ?_; refine RunL.val (by exact rfl) (loc_moveC rfl) ?_; refine RunL.val (by exact rfl) (loc_addB rfl rfl (by omega)) ?_
    refine RunL.val (by exact rfl) (loc_sliceStrLo (by exact rfl) (by exact rfl) (by omega) (by omega)) ?_
    refine RunL.val (by exact rfl) (loc_moveC rfl) ?_; refine RunL.val (by exact rfl) (loc_moveC rfl) ?_
    refine RunL.val (by exact rfl) (loc_indexStr (by exact rfl) (by exact rfl) (by omega) hq') ?_
    have hneg : Lib.indexByte (l.drop ((((mkB e).size : Nat) : Int) - 1 + 1).toNat) ((q.toNat : Int)).toNat.toUInt8 < 0 := by
      refine indexByte_neg fun c hc => ?_
      rintro rfl
      have := ha _ (List.mem_of_mem_drop hc)
      simp at this
      omega
    have hneg' := decide_eq_true hneg
    refine RunL.val (by exact rfl) (loc_fun (indexByte_a (l.drop ((((mkB e).size : Nat) : Int) - 1 + 1).toNat) (q.toNat : Int)) rfl (by refine ⟨_, _, rfl, (by exact LeU.of_eq rfl trivial), (by exact trivial), ?_⟩; refine ⟨_, _, rfl, (by exact LeU.of_eq rfl trivial), (by exact trivial), ?_⟩; exact rfl)) ?_
    refine RunL.val (by exact rfl) (loc_assignC rfl) ?_; refine RunL.nilD (by kernel_rfl) ?_; refine AW.seq ?_; refine AW.seq ?_; refine AW.region (by kernel_rfl) ?_; refine RunL.val (by exact rfl) (loc_moveC rfl) ?_; refine RunL.val (by exact rfl) (loc_binInt rfl rfl rfl) ?_; refine RunL.nil ?_; refine AW.condTa (by exact rfl) (by assumption) ?_; refine AW.seq ?_; refine AW.region (by kernel_rfl) ?_; refine RunL.val (by exact rfl) (loc_assignC rfl) ?_; refine RunL.nil ?_; refine AW.ret ?_
    exact ret_same (.inr rfl) rfl trivial
theorem indexAny_a (l : List UInt8) (hl : l.length ≤ 1000) : ACalls Tryz.prog 51 [.one (.str (mkB l)), .one (.str (mkB [32, 10, 40, 41]))] [] (.one (.int .i64 (Lib.indexAny l [32, 10, 40, 41]))) [] :=
  acalls_ext (by kernel_rfl) (fun F ρ w vals H ha => by
    obtain ⟨_, _, rfl, rfl, rfl⟩ := args2 ha
    have hsz : (mkB l).size = l.length := by simp [mkB, ByteArray.size]
    have hac : ∀ (j : Nat) b, (mkB [32, 10, 40, 41]).data.toList[j]? = some b → b.toNat < 128 := ascii_of_all (by decide)
    have key : Calls Tryz.prog 51 #[.string (mkB l), .string (mkB [32, 10, 40, 41])] w fun e w' => e = .returned (.int .i64 (Lib.indexAny (mkB l).data.toList (mkB [32, 10, 40, 41]).data.toList)) ∧ Below w.heap.size w w' := by
      by_cases h8 : l.length ≤ 8
      · refine indexAny_few Tryz.lays153 (mkB l) (mkB [32, 10, 40, 41]) w (by decide) (by omega) hac fun W hb r h0 h1 hv => ?_
        by_cases h65 : r = 65533
        · subst h65
          exact indexRune_err Tryz.lays152 (mkB [32, 10, 40, 41]) W hac
        · have HW : HRel F ρ (ofL []) W := by
            have := (moves_below H hb noG (fun k h => h.elim)).heap
            refine ⟨fun b x h => (by cases h), fun b b' g h => absurd rfl h, fun b g h => absurd rfl h, fun k h => this.lt k (.inl h), fun b x h => (by cases h), fun g c hg => ?_, fun g q hg => ?_⟩
            · exact relK_mono (fun k h => h) (fun k h => hb.block k (H.lt k h)) (H.gl g c hg)
            · exact ⟨(H.gx g q hg).1, by rw [hb.block g (H.lt g (H.gx g q hg).1)]; exact (H.gx g q hg).2⟩
          have hi := indexRune_a [32, 10, 40, 41] r (by decide) (by decide) h0 h1 hv h65
          refine (acalls_at hi F ρ W [.string (mkB [32, 10, 40, 41]), .int .i32 r] HW ⟨⟨rfl, trivial⟩, ⟨rfl, trivial⟩, trivial⟩).mono fun e W' ⟨v, F', ρ', he, hM, hr, _⟩ => ?_
          have hr : v = .int .i64 (-1) := hr
          subst hr
          exact ⟨⟨-1, he, by decide⟩, hM.os, hM.tape, hM.output, hM.size, fun k hk => hM.kept k hk fun b hb => absurd rfl hb⟩
      · have h116 : (Tryz.prog.info? (Tryz.lays153_ren.t 116)).map (fun i => (i.zero, i.size)) = some (some (.agg (Array.replicate 256 (.bool false))), 256) := by kernel_rfl
        refine (Any.strings_IndexAny_long Tryz.lays153 (zero_of_info h116).1 (zero_of_info h116).2 (mkB l) (mkB [32, 10, 40, 41]) w (by decide) (by omega) (by omega) (by decide) hac).mono fun e w' ⟨h1, h2⟩ => ⟨h1, ?_⟩
        rw [h2]
        exact ((Below.refl _ _).alloc (Nat.le_refl _) _).alloc (by simp) _
    refine key.mono fun e w' ⟨he, hw⟩ => ⟨_, noG, he, hw, fun k h => h.elim, ?_⟩
    rw [mkB_l, mkB_l]; rfl) trivial
end Go.Proofs.YtnflnbdlgdjfmabGreatDoor
namespace Go.Proofs.YtnflnbdlgdjfmabGreatDoor
open Go.RowKit
set_option linter.unusedVariables false
set_option linter.unusedSimpArgs false
section ops
variable {P : Program} {s : St} {dst : Option Tmp} {rt : TypeId} {pos : String} {after : Array Edge} {guard : Option (Nat × Bool)}
theorem loc_quo {t t' : TypeId} {x y : Operand} {k : IntKind} {a b r : Int} (hx' : opU s.t x = .one (.int k a)) (hy' : opU s.t y = .one (.int k b)) (hr : Op.intDiv .quo k a b = pure (.int k r)) : LocOp P ⟨dst, .binOp .quo t x y t', rt, pos, after, guard⟩ s [] [] (.one (.int k r)) :=
  loc_run fun F ρ h w ev H hx => by
    have h1 := (hx x (by simp [Op.operands])).1
    have h2 := (hx y (by simp [Op.operands])).1
    rw [hx'] at h1
    rw [hy'] at h2
    have h1 : ev x = .int k a := h1
    have h2 : ev y = .int k b := h2
    refine ⟨.int k r, ?_, rfl, trivial⟩
    simp only [execOp, h1, h2]
    simp [binOp_quo, hr, eqGuard]
theorem loc_remB {t t' : TypeId} {x y : Operand} {k : IntKind} {a b r : Int} (hx' : opU s.t x = .one (.int k a)) (hy' : opU s.t y = .one (.int k b)) (hr : Op.intDiv .rem k a b = pure (.int k r)) : LocOp P ⟨dst, .binOp .rem t x y t', rt, pos, after, guard⟩ s [] [] (.one (.int k r)) :=
  loc_run fun F ρ h w ev H hx => by
    have h1 := (hx x (by simp [Op.operands])).1
    have h2 := (hx y (by simp [Op.operands])).1
    rw [hx'] at h1
    rw [hy'] at h2
    have h1 : ev x = .int k a := h1
    have h2 : ev y = .int k b := h2
    refine ⟨.int k r, ?_, rfl, trivial⟩
    simp only [execOp, h1, h2]
    simp [binOp_rem, hr, eqGuard]
theorem loc_convI {src d : TypeId} {x : Operand} {k k' : IntKind} {a r : Int} (hx' : opU s.t x = .one (.int k a)) (hs : (P.underlying src).isSome = true) (hd : P.underlying d = some (.int k')) (hr : k'.wrap a = r) : LocOp P ⟨dst, .convert src d x, rt, pos, after, guard⟩ s [] [] (.one (.int k' r)) :=
  loc_run fun F ρ h w ev H hx => by
    have h1 := (hx x (by simp [Op.operands])).1
    rw [hx'] at h1
    have h1 : ev x = .int k a := h1
    have hk : P.intKind d = k' := by simp [Program.intKind, hd]
    refine ⟨.int k' r, ?_, rfl, trivial⟩
    have := run_convert_int (P := P) w src d k a hs (by rw [hk]; exact hd)
    rw [hk, hr] at this
    simp only [execOp, h1]
    simp [this]
/-- A byte by itself, as a string. -/
theorem loc_convS {src d e : TypeId} {x : Operand} {b : Int} (hx' : opU s.t x = .one (slFOf 1 [[.int .u8 b]])) (hs : P.underlying src = some (.slice e)) (he : P.underlying e = some (.int .u8)) (hd : P.underlying d = some .string) : LocOp P ⟨dst, .convert src d x, rt, pos, after, guard⟩ s [] [] (.one (.str ⟨#[UInt8.ofNat b.toNat]⟩)) :=
  loc_run fun F ρ h w ev H hx => by
    have h1 := (hx x (by simp [Op.operands])).1
    rw [hx'] at h1
    obtain ⟨a, hp, hmax, hj⟩ := h1
    obtain ⟨g, o, rfl, hF, hj⟩ := hj 0 (by simp)
    obtain ⟨u, hu, hk⟩ := hj 0 (by simp)
    have hu' : u = .int .u8 b := hk
    subst hu'
    refine ⟨.string (strOfNums [b]), ?_, rfl, trivial⟩
    have := run_convert_bytes_arg (P := P) w src e hs he g o 1 1 [b] rfl (fun i hi => by
      obtain rfl : i = 0 := by omega
      simpa using hu) d hd
    simp only [execOp, hp]
    show ((convert src d (.slice (some ⟨g, o, none⟩) 1 1)).bind fun v => pure (Next.value v)).run P w = _
    show (Sem.run P (do let v ← convert src d (.slice (some ⟨g, o, none⟩) 1 1); pure (Next.value v)) w) = _
    rw [Sem.run_bind, this]
    rfl
end ops
theorem quo10 (u : Nat) (h : u ≤ 1000000000) : Op.intDiv .quo .i64 (u : Int) 10 = pure (.int .i64 ((u / 10 : Nat) : Int)) := by
  have h1 : (u : Int).tdiv 10 = ((u / 10 : Nat) : Int) := by rw [Int.tdiv_eq_ediv_of_nonneg (by omega)]; omega
  unfold Op.intDiv
  rw [if_neg (by decide)]
  show pure (Value.int .i64 (IntKind.i64.wrap ((u : Int).tdiv 10))) = _
  rw [h1, wrap_small _ (by omega) (by omega)]
theorem rem10 (u : Nat) : Op.intDiv .rem .i64 (u : Int) 10 = pure (.int .i64 ((u % 10 : Nat) : Int)) := by
  have h1 : (u : Int).tmod 10 = ((u % 10 : Nat) : Int) := by rw [Int.tmod_eq_emod_of_nonneg (by omega)]; omega
  unfold Op.intDiv
  rw [if_neg (by decide)]
  show pure (Value.int .i64 ((u : Int).tmod 10)) = _
  rw [h1]
/-- The words of the terms that have brackets. -/
def sixS : ByteArray := ⟨#[97, 100, 100, 32, 108, 101, 115, 115, 32, 105, 102, 32, 102, 117, 110, 32, 99, 97, 108, 108, 32, 97, 115]⟩
def sixL : List (List UInt8) := [[97, 100, 100], [108, 101, 115, 115], [105, 102], [102, 117, 110], [99, 97, 108, 108], [97, 115]]
theorem six_fields : Lib.fields sixS.data.toList = sixL := by decide +kernel
theorem space_tab : spaceV = (Lib.asciiSpaceTab.map fun z => Value.int .u8 z).toArray := by kernel_rfl
theorem nSpc : Tryz.prog.globalNamed "strings.asciiSpace" = some 3 := by kernel_rfl
theorem fieldsSix_a : ACalls Tryz.prog 53 [.one (.str sixS)] [] (.one (slFOf 1 (strRows (sixL.map mkB)))) [] :=
  acalls_ext (by kernel_rfl) (fun F ρ w vals H ha => by
    obtain ⟨_, rfl, rfl⟩ := args1 ha
    obtain ⟨cs, hv, hcs, _⟩ := gx_var H nSpc rfl
    rw [space_tab] at hcs
    subst hcs
    refine (Tryz.strings_Fields sixS w (by decide) (fun j b hb => by
      have h1 := List.mem_of_getElem? hb
      have h2 : ∀ b ∈ sixS.data.toList, b.toNat < 128 := by decide
      exact h2 b h1) hv).mono fun e w' ⟨he, hw⟩ => ?_
    rw [six_fields] at he hw
    subst hw
    refine ⟨_, fun k => k = w.heap.size, he, (Below.refl _ w).alloc (Nat.le_refl _) _, fun k h => by subst h; exact ⟨Nat.le_refl _, by simp⟩, ?_⟩
    refine ⟨some ⟨w.heap.size, 0, none⟩, rfl, by decide, fun i hi => ⟨w.heap.size, 0, rfl, .inr rfl, fun j hj => ?_⟩⟩
    obtain rfl : j = 0 := by omega
    have hi6 : i < 6 := hi
    unfold World.cell?
    simp only [heap_alloc_new]
    match i, hi6 with
    | 0, _ => exact ⟨_, rfl, rfl⟩
    | 1, _ => exact ⟨_, rfl, rfl⟩
    | 2, _ => exact ⟨_, rfl, rfl⟩
    | 3, _ => exact ⟨_, rfl, rfl⟩
    | 4, _ => exact ⟨_, rfl, rfl⟩
    | 5, _ => exact ⟨_, rfl, rfl⟩) (by trivial)
end Go.Proofs.YtnflnbdlgdjfmabGreatDoor
namespace Go.Proofs.YtnflnbdlgdjfmabGreatDoor
open Go.RowKit
set_option linter.unusedVariables false
set_option linter.unusedSimpArgs false
set_option maxRecDepth 100000
attribute [local irreducible] RunL AW LocOp ACalls Gh
theorem strRows_get {ws : List ByteArray} {i : Nat} {w : ByteArray} (h : ws[i]? = some w) : (strRows ws)[i]? = some [.str w] := by simp [strRows, h]
/-- The end of what answers a string or a number, the reader as it is. -/
theorem ret_rd {P : Program} {x : Tmp} {c : C} {e : Exit} {t : Nat → U} {h : Nat → Option Blk} {r : Rd} {l : List C} (he : e = .normal ∨ e = .ret) (hx : t x = .one c) (hc : closedC c = true) (hb : h 1000 = some (.obj l)) (hl : All2 (WkC h [] []) l r.c) : RetQ P #[.tmp x] (.one c) [(1000, .obj r.c)] e t h :=
  ⟨he, [.one c], ⟨hx, trivial⟩, ⟨trivial, trivial⟩, .one c, rfl, [], trivial, WkU.one, ⟨⟨_, hb, hl⟩, trivial⟩, rfl, closed_okC hc, ⟨⟨trivial, trivial, trivial⟩, trivial⟩⟩
theorem next_a (r : Rd) : ACalls Tryz.prog 46 [.one (.ptr 1000 0)] [(1000, .obj (Rd.c (r)))] (.one (.str r.next.1)) [(1000, .obj (Rd.c (r.next.2)))] := by
  obtain ⟨ws, bad⟩ := r
  refine acalls_of_body Tryz.func46 rfl (by kernel_rfl) (Nat.le_of_ble_eq_true rfl) (by exact ⟨⟨rfl, trivial⟩, trivial⟩) (by simp [namesL]) ?_
  cases ws with
  | nil =>
    refine AW.seq ?_; refine AW.region (by kernel_rfl) ?_; refine RunL.val (by exact rfl) (loc_assignC rfl) ?_; refine RunL.nil ?_; refine AW.seq ?_; refine AW.seq ?_; refine AW.region (by kernel_rfl) ?_; refine RunL.val (by exact rfl) (loc_moveC rfl) ?_; refine RunL.val (by exact rfl) (loc_nilCheck rfl rfl) ?_; refine RunL.val (by exact rfl) (loc_fieldAddr rfl) ?_; refine RunL.val (by exact rfl) (loc_load rfl rfl rfl) ?_; refine RunL.val (by exact rfl) (loc_lenSl rfl) ?_; refine RunL.val (by exact rfl) (loc_binInt rfl rfl rfl) ?_; refine RunL.nil ?_; refine AW.condT (by exact rfl) ?_; refine AW.seq ?_; refine AW.region (by kernel_rfl) ?_; refine RunL.val (by exact rfl) (loc_moveC rfl) ?_; refine RunL.val (by exact rfl) (loc_nilCheck rfl rfl) ?_; refine RunL.val (by exact rfl) (loc_fieldAddr rfl) ?_; refine RunL.eff (by exact rfl) (loc_store (by exact rfl) (by exact rfl) (by exact rfl) (by exact rfl) (by exact rfl) (by exact Nat.le_of_ble_eq_true rfl) (by exact rfl)) ?_; refine RunL.nil ?_; refine AW.seq ?_; refine AW.region (by kernel_rfl) ?_; refine RunL.val (by exact rfl) (loc_assignC rfl) ?_; refine RunL.nil ?_; refine AW.ret ?_
    refine rq ?_
    exact ret_rd (by exact .inr rfl) (by exact rfl) rfl (by exact rfl) (by exact wkRow_refl _)
  | cons w ws =>
    have hz : (((((strRows (w :: ws)).length : Nat)) : Int) == 0) = false := by rw [beq_eq_false_iff_ne]; simp [strRows]; omega
    have hr0 : (strRows (w :: ws))[0]? = some [.str w] := strRows_get rfl
    refine AW.seq ?_; refine AW.region (by kernel_rfl) ?_; refine RunL.val (by exact rfl) (loc_assignC rfl) ?_; refine RunL.nil ?_; refine AW.seq ?_; refine AW.seq ?_; refine AW.region (by kernel_rfl) ?_; refine RunL.val (by exact rfl) (loc_moveC rfl) ?_; refine RunL.val (by exact rfl) (loc_nilCheck rfl rfl) ?_; refine RunL.val (by exact rfl) (loc_fieldAddr rfl) ?_; refine RunL.val (by exact rfl) (loc_load rfl rfl rfl) ?_; refine RunL.val (by exact rfl) (loc_lenSl rfl) ?_; refine RunL.val (by exact rfl) (loc_binInt rfl rfl rfl) ?_; refine RunL.nil ?_; refine AW.condF (by exact rfl) ?_; refine AW.skip ?_; refine AW.seq ?_; refine AW.region (by kernel_rfl) ?_; refine RunL.val (by exact rfl) (loc_moveC rfl) ?_; refine RunL.val (by exact rfl) (loc_nilCheck rfl rfl) ?_; refine RunL.val (by exact rfl) (loc_fieldAddr rfl) ?_; refine RunL.val (by exact rfl) (loc_load rfl rfl rfl) ?_; refine RunL.val (by exact rfl) (loc_indexSl _ rfl rfl rfl (by assumption) rfl) ?_; refine RunL.val (by exact rfl) (loc_loadF rfl (by exact rfl)) ?_; refine RunL.val (by exact rfl) (loc_assignC rfl) ?_; refine RunL.nil ?_; refine AW.seq ?_; refine AW.region (by kernel_rfl) ?_; refine RunL.val (by exact rfl) (loc_moveC rfl) ?_; refine RunL.val (by exact rfl) (loc_moveC rfl) ?_; refine RunL.val (by exact rfl) (loc_nilCheck rfl rfl) ?_; refine RunL.val (by exact rfl) (loc_fieldAddr rfl) ?_; refine RunL.val (by exact rfl) (loc_load rfl rfl rfl) ?_
    refine RunL.val (by exact rfl) (loc_sliceLo (n := 1) (by exact rfl) (by exact rfl) rfl (by simp [strRows]) (by simp [strRows])) ?_
    refine RunL.val (by exact rfl) (loc_nilCheck rfl rfl) ?_; refine RunL.val (by exact rfl) (loc_fieldAddr rfl) ?_; refine RunL.eff (by exact rfl) (loc_store (by exact rfl) (by exact rfl) (by exact rfl) (by exact rfl) (by exact rfl) (by exact Nat.le_of_ble_eq_true rfl) (by exact rfl)) ?_; refine RunL.nil ?_; refine AW.seq ?_; refine AW.region (by kernel_rfl) ?_; refine RunL.val (by exact rfl) (loc_moveC rfl) ?_; refine RunL.val (by exact rfl) (loc_assignC rfl) ?_; refine RunL.nil ?_; refine AW.ret ?_
    refine rq ?_
    exact ret_rd (by exact .inr rfl) (by exact rfl) rfl (by exact rfl) (by exact wkRow_refl _)
theorem number_a (r : Rd) (s : ByteArray) (hs : s.size ≤ 281474976710656) : ACalls Tryz.prog 48 [.one (.ptr 1000 0), .one (.str s)] [(1000, .obj (Rd.c (r)))] (.one (.int .i64 (r.number s).1)) [(1000, .obj (Rd.c ((r.number s).2)))] := by
  refine acalls_of_body Tryz.func48 rfl (by kernel_rfl) (Nat.le_of_ble_eq_true rfl) (by exact ⟨⟨rfl, trivial⟩, trivial⟩) (by simp [namesL]) ?_
  refine AW.seq ?_; refine AW.region (by kernel_rfl) ?_; refine RunL.val (by exact rfl) (loc_assignC rfl) ?_; refine RunL.nil ?_; refine AW.seq ?_; refine AW.region (by kernel_rfl) ?_; refine RunL.val (by exact rfl) (loc_moveC rfl) ?_
  refine RunL.val (by exact rfl) (loc_fun (atoi_a s hs) rfl (by refine ⟨_, _, rfl, (by exact LeU.of_eq rfl trivial), (by exact trivial), ?_⟩; exact rfl)) ?_
  cases hA : Lib.atoiAll s.data.toList with
  | ok v =>
    obtain ⟨h0, h1⟩ := atoi_in hA
    rw [show atoiU s = .tup [.one (.int .i64 v), .one .nilif] by unfold atoiU; rw [hA]]
    refine RunL.val (by exact rfl) (loc_moveT rfl) ?_; refine RunL.val (by exact rfl) (loc_extractC rfl rfl) ?_; refine RunL.val (by exact rfl) (loc_extractC rfl rfl) ?_; refine RunL.val (by exact rfl) (loc_assignC rfl) ?_; refine RunL.val (by exact rfl) (loc_assignC rfl) ?_; refine RunL.nil ?_; refine AW.seq ?_; refine AW.seq ?_; refine AW.region (by kernel_rfl) ?_; refine RunL.val (by exact rfl) (loc_moveC rfl) ?_
    refine RunL.val (by exact rfl) (loc_neIfF (by exact rfl) rfl) ?_
    refine RunL.val (by exact rfl) (loc_moveC rfl) ?_; refine RunL.val (by exact .inl ⟨_, _, rfl, rfl, rfl⟩) (loc_moveC rfl) ?_
    refine RunL.val (by exact .inl ⟨_, _, rfl, rfl, rfl⟩) (loc_fun (itoa_a v h0 h1) rfl (by refine ⟨_, _, rfl, (by exact LeU.of_eq rfl trivial), (by exact trivial), ?_⟩; exact rfl)) ?_
    refine RunL.val (by exact .inl ⟨_, _, rfl, rfl, rfl⟩) (loc_moveC rfl) ?_
    refine RunL.val (by exact .inl ⟨_, _, rfl, rfl, rfl⟩) (loc_neStr (by exact rfl) (by exact rfl)) ?_
    cases hq : sEq ⟨(Lib.itoa v).toArray⟩ s with
    | true =>
      have e : r.number s = (v, r) := by unfold Rd.number numOf; rw [hA]; simp [hq]
      rw [e]
      refine RunL.val (by exact rfl) (loc_pickF rfl rfl) ?_; refine RunL.nil ?_; refine AW.condF (by exact rfl) ?_; refine AW.skip ?_; refine AW.seq ?_; refine AW.region (by kernel_rfl) ?_; refine RunL.val (by exact rfl) (loc_moveC rfl) ?_; refine RunL.val (by exact rfl) (loc_assignC rfl) ?_; refine RunL.nil ?_; refine AW.ret ?_
      refine rq ?_
      exact ret_rd (by exact .inr rfl) (by exact rfl) rfl (by exact rfl) (by exact wkRow_refl _)
    | false =>
      have e : r.number s = (0, r.fail) := by unfold Rd.number numOf; rw [hA]; simp [hq]
      rw [e]
      refine RunL.val (by exact rfl) (loc_pickF rfl rfl) ?_; refine RunL.nil ?_; refine AW.condT (by exact rfl) ?_; refine AW.seq ?_; refine AW.region (by kernel_rfl) ?_; refine RunL.val (by exact rfl) (loc_moveC rfl) ?_; refine RunL.val (by exact rfl) (loc_nilCheck rfl rfl) ?_; refine RunL.val (by exact rfl) (loc_fieldAddr rfl) ?_; refine RunL.eff (by exact rfl) (loc_store (by exact rfl) (by exact rfl) (by exact rfl) (by exact rfl) (by exact rfl) (by exact Nat.le_of_ble_eq_true rfl) (by exact rfl)) ?_; refine RunL.nil ?_; refine AW.seq ?_; refine AW.region (by kernel_rfl) ?_; refine RunL.val (by exact rfl) (loc_assignC rfl) ?_; refine RunL.nil ?_; refine AW.ret ?_
      refine rq ?_
      exact ret_rd (by exact .inr rfl) (by exact rfl) rfl (by exact rfl) (by exact wkRow_refl _)
  | range =>
    rw [show atoiU s = .tup [.one .any, .one .ifc] by unfold atoiU; rw [hA]]
    have e : r.number s = (0, r.fail) := by unfold Rd.number numOf; rw [hA]
    rw [e]
    refine RunL.val (by exact rfl) (loc_moveT rfl) ?_; refine RunL.val (by exact rfl) (loc_extractC rfl rfl) ?_; refine RunL.val (by exact rfl) (loc_extractC rfl rfl) ?_; refine RunL.val (by exact rfl) (loc_assignC rfl) ?_; refine RunL.val (by exact rfl) (loc_assignC rfl) ?_; refine RunL.nil ?_; refine AW.seq ?_; refine AW.seq ?_; refine AW.region (by kernel_rfl) ?_; refine RunL.val (by exact rfl) (loc_moveC rfl) ?_
    refine RunL.val (by exact rfl) (loc_neIfT (by exact rfl) rfl) ?_
    refine RunL.val (by exact rfl) (loc_moveC rfl) ?_; refine RunL.skip (.inl ⟨_, _, rfl, rfl, rfl⟩) ?_; refine RunL.skip (.inl ⟨_, _, rfl, rfl, rfl⟩) ?_; refine RunL.skip (.inl ⟨_, _, rfl, rfl, rfl⟩) ?_; refine RunL.skip (.inl ⟨_, _, rfl, rfl, rfl⟩) ?_; refine RunL.val (by exact rfl) (loc_pickT rfl rfl) ?_; refine RunL.nil ?_; refine AW.condT (by exact rfl) ?_; refine AW.seq ?_; refine AW.region (by kernel_rfl) ?_; refine RunL.val (by exact rfl) (loc_moveC rfl) ?_; refine RunL.val (by exact rfl) (loc_nilCheck rfl rfl) ?_; refine RunL.val (by exact rfl) (loc_fieldAddr rfl) ?_; refine RunL.eff (by exact rfl) (loc_store (by exact rfl) (by exact rfl) (by exact rfl) (by exact rfl) (by exact rfl) (by exact Nat.le_of_ble_eq_true rfl) (by exact rfl)) ?_; refine RunL.nil ?_; refine AW.seq ?_; refine AW.region (by kernel_rfl) ?_; refine RunL.val (by exact rfl) (loc_assignC rfl) ?_; refine RunL.nil ?_; refine AW.ret ?_
    refine rq ?_
    exact ret_rd (by exact .inr rfl) (by exact rfl) rfl (by exact rfl) (by exact wkRow_refl _)
  | _ =>
    rw [show atoiU s = .tup [.one .any, .one .ifc] by unfold atoiU; rw [hA]]
    have e : r.number s = (0, r.fail) := by unfold Rd.number numOf; rw [hA]
    rw [e]
    refine RunL.val (by exact rfl) (loc_moveT rfl) ?_; refine RunL.val (by exact rfl) (loc_extractC rfl rfl) ?_; refine RunL.val (by exact rfl) (loc_extractC rfl rfl) ?_; refine RunL.val (by exact rfl) (loc_assignC rfl) ?_; refine RunL.val (by exact rfl) (loc_assignC rfl) ?_; refine RunL.nil ?_; refine AW.seq ?_; refine AW.seq ?_; refine AW.region (by kernel_rfl) ?_; refine RunL.val (by exact rfl) (loc_moveC rfl) ?_
    refine RunL.val (by exact rfl) (loc_neIfT (by exact rfl) rfl) ?_
    refine RunL.val (by exact rfl) (loc_moveC rfl) ?_; refine RunL.skip (.inl ⟨_, _, rfl, rfl, rfl⟩) ?_; refine RunL.skip (.inl ⟨_, _, rfl, rfl, rfl⟩) ?_; refine RunL.skip (.inl ⟨_, _, rfl, rfl, rfl⟩) ?_; refine RunL.skip (.inl ⟨_, _, rfl, rfl, rfl⟩) ?_; refine RunL.val (by exact rfl) (loc_pickT rfl rfl) ?_; refine RunL.nil ?_; refine AW.condT (by exact rfl) ?_; refine AW.seq ?_; refine AW.region (by kernel_rfl) ?_; refine RunL.val (by exact rfl) (loc_moveC rfl) ?_; refine RunL.val (by exact rfl) (loc_nilCheck rfl rfl) ?_; refine RunL.val (by exact rfl) (loc_fieldAddr rfl) ?_; refine RunL.eff (by exact rfl) (loc_store (by exact rfl) (by exact rfl) (by exact rfl) (by exact rfl) (by exact rfl) (by exact Nat.le_of_ble_eq_true rfl) (by exact rfl)) ?_; refine RunL.nil ?_; refine AW.seq ?_; refine AW.region (by kernel_rfl) ?_; refine RunL.val (by exact rfl) (loc_assignC rfl) ?_; refine RunL.nil ?_; refine AW.ret ?_
    refine rq ?_
    exact ret_rd (by exact .inr rfl) (by exact rfl) rfl (by exact rfl) (by exact wkRow_refl _)
end Go.Proofs.YtnflnbdlgdjfmabGreatDoor
namespace Go.Proofs.YtnflnbdlgdjfmabGreatDoor
open Go.RowKit
set_option linter.unusedVariables false
set_option linter.unusedSimpArgs false
set_option maxRecDepth 100000
attribute [local irreducible] RunL AW LocOp ACalls Gh
/-- One type is answered, the reader as it is. -/
theorem ret_ty {P : Program} {x : Tmp} {tx : TypeId} {bx : Nat} {e : Exit} {t : Nat → U} {h : Nat → Option Blk} {r : Rd} {a : Ty} {l k : List C} [T : TAgg P tx 2] (he : e = .normal ∨ e = .ret) (hx : t x = .one (.ptr bx 0)) (hbx : h bx = some (.obj k)) (hk : All2 (WkC h [] []) k a.c) (hb : h 1000 = some (.obj l)) (hl : All2 (WkC h [] []) l r.c) : RetQ P #[.cell x tx] a.u [(1000, .obj r.c)] e t h := by
  have hlen : k.length = 2 := hk.length
  exact ⟨he, [.agg k], ⟨⟨bx, k, hx, hbx, .inl ⟨2, T, hlen, rfl⟩⟩, trivial⟩, ⟨trivial, trivial⟩, .agg k, rfl, [], trivial, hk, ⟨⟨_, hb, hl⟩, trivial⟩, rfl, ⟨trivial, trivial, trivial⟩, ⟨⟨trivial, trivial, trivial⟩, trivial⟩⟩
theorem anyCells {h : Nat → Option Blk} : All2 (WkC h [] []) [.int .i64 0, .nilsl] Ty.any.c := ⟨.le (.refl _), .le (.nil _), trivial⟩
theorem leafCells {h : Nat → Option Blk} {k : Int} : All2 (WkC h [] []) [.int .i64 k, .nilsl] (Ty.mk k []).c := ⟨.le (.refl _), .le (.nil _), trivial⟩
theorem pairCells {h : Nat → Option Blk} {k : Int} {a b : Ty} : All2 (WkC h [] []) [.int .i64 k, slFOf 2 [a.c, b.c]] (Ty.mk k [a, b]).c := by
  have e : (Ty.mk k [a, b]).c = [.int .i64 k, slOf 2 [a.c, b.c]] := by simp [Ty.c, tyRows_map]
  rw [e]
  exact ⟨.le (.refl _), .le (LeC.slF (LeRows.refl _)), trivial⟩
theorem kinds_get {i : Nat} (h : i < 4) : kindsC[i]? = some (.str (kindsL.getD i sNil)) := by
  match i, h with
  | 0, _ | 1, _ | 2, _ | 3, _ => rfl
/-- What comes of the loop over the kinds. -/
theorem kFrom_step {s : ByteArray} {op : Bool} {i : Nat} (h : i < 4) : kFrom s op (4 - i) = if kAt s op i then some i else kFrom s op (4 - (i + 1)) := by
  obtain ⟨n, hn⟩ : ∃ n, 4 - i = n + 1 := ⟨3 - i, by omega⟩
  rw [hn, show 4 - (i + 1) = n by omega]
  simp only [kFrom]
  rw [show 3 - n = i by omega]
/-- What is read behind the words that say which. -/
def readKq (d : Nat) (op : Bool) (q : ByteArray × Rd) : Ty × Rd :=
  match d with
  | 0 => (.any, q.2.fail)
  | d + 1 => match kFrom q.1 op 4 with
    | none => (.any, q.2.fail)
    | some k => if op then (.mk k [(readK d q.2).1, (readK d (readK d q.2).2).1], (readK d (readK d q.2).2).2.close) else (.mk k [], q.2)
theorem readK_q (d : Nat) (r : Rd) : readK d r = readKq d (sEq r.next.1 sLp) (if sEq r.next.1 sLp then r.next.2.next else r.next) := by cases d <;> rfl
set_option maxHeartbeats 20000000 in
theorem kind_a : ∀ (d : Nat), d ≤ 5 → ∀ (r : Rd), ACalls Tryz.prog 49 [.one (.ptr 1000 0), .one (.int .i64 (5 - (d : Int)))] [(1000, .obj (Rd.c (r)))] (readK d r).1.u [(1000, .obj (Rd.c ((readK d r).2)))] := by
  intro d
  induction d with
  | zero =>
    intro hd r
    generalize hdp : (5 - (((0 : Nat)) : Int)) = dp
    have hdeep : decide (dp > 4) = true := decide_eq_true (by omega)
    rw [readK_q]
    refine acalls_of_body Tryz.func49 rfl (by kernel_rfl) (Nat.le_of_ble_eq_true rfl) (by exact ⟨⟨rfl, trivial⟩, trivial⟩) (by simp [namesL]) ?_
    refine AW.seq ?_; refine AW.region (by kernel_rfl) ?_; refine RunL.mem (by exact rfl) (loc_allocD rfl rfl) ?_; refine RunL.nil ?_; refine AW.seq ?_; refine AW.region (by kernel_rfl) ?_; refine RunL.val (by exact rfl) (loc_moveC rfl) ?_
    refine RunL.many (by exact rfl) (loc_funE (next_a (r)) rfl (by refine ⟨_, _, rfl, (by exact LeU.of_eq rfl trivial), (by exact Exists.intro _ rfl), ?_⟩; exact rfl) (by exact ⟨rfl, trivial⟩) (by exact rfl) (by simp [namesL]) (by exact ⟨⟨trivial, trivial, trivial⟩, trivial⟩)) ?_
    refine RunL.val (by exact rfl) (loc_assignC rfl) ?_; refine RunL.nil ?_; refine AW.seq ?_; refine AW.region (by kernel_rfl) ?_; refine RunL.val (by exact rfl) (loc_moveC rfl) ?_
    refine RunL.val (by exact rfl) (loc_eqStr (b := sLp) (by exact rfl) (by exact rfl)) ?_
    refine RunL.val (by exact rfl) (loc_assignC rfl) ?_; refine RunL.nil ?_
    refine AW.seq ?_
    refine AW.midB (fun t h => ∃ op q, op = sEq r.next.1 sLp ∧ q = (if sEq r.next.1 sLp then r.next.2.next else r.next) ∧ t = tOfL [(0, .one (.ptr 1000 0)), (1, .one (.int .i64 dp)), (4, .one (.ptr 4 0)), (5, .one (.str q.1)), (6, .one (.bool op))] ∧ h = ofL [(1000, .obj (Rd.c q.2)), (4, .obj [.int .i64 0, .nilsl])]) ?_ ?_
    · cases hop : sEq r.next.1 sLp with
      | false =>
        refine AW.seq ?_; refine AW.region (by kernel_rfl) ?_; refine RunL.val (by exact rfl) (loc_moveC rfl) ?_; refine RunL.nil ?_; refine AW.condF (by exact rfl) ?_; refine AW.skip ?_
        exact ⟨_, _, (gh_lit [(0, .one (.ptr 1000 0)), (1, .one (.int .i64 dp)), (4, .one (.ptr 4 0)), (5, .one (.str r.next.1)), (6, .one (.bool false))] [(1000, .obj (Rd.c r.next.2)), (4, .obj [.int .i64 0, .nilsl])] [] [] ⟨(WkU.of_eq rfl trivial), (WkU.of_eq rfl trivial), (WkU.of_eq rfl trivial), (by exact WkU.of_eq rfl trivial), (WkU.of_eq rfl trivial), trivial⟩ ⟨(by exact Or.inl ⟨_, rfl, WkBlk.refl _⟩), (by exact Or.inl ⟨_, rfl, WkBlk.refl _⟩), trivial⟩ trivial trivial rfl rfl ⟨⟨_, rfl⟩, trivial, ⟨_, rfl⟩, trivial, trivial, trivial⟩ ⟨(by refine And.intro ?_ ?_; exact trivial; refine And.intro ?_ ?_; exact trivial; exact trivial), (by refine And.intro ?_ ?_; exact trivial; refine And.intro ?_ ?_; exact trivial; exact trivial), trivial⟩), false, r.next, rfl, rfl, rfl, rfl⟩
      | true =>
        refine AW.seq ?_; refine AW.region (by kernel_rfl) ?_; refine RunL.val (by exact rfl) (loc_moveC rfl) ?_; refine RunL.nil ?_; refine AW.condT (by exact rfl) ?_; refine AW.region (by kernel_rfl) ?_; refine RunL.val (by exact rfl) (loc_moveC rfl) ?_
        refine RunL.many (by exact rfl) (loc_funE (next_a (r.next.2)) rfl (by refine ⟨_, _, rfl, (by exact LeU.of_eq rfl trivial), (by exact Exists.intro _ rfl), ?_⟩; exact rfl) (by exact ⟨rfl, trivial⟩) (by exact rfl) (by simp [namesL]) (by exact ⟨⟨trivial, trivial, trivial⟩, trivial⟩)) ?_
        refine RunL.val (by exact rfl) (loc_assignC rfl) ?_; refine RunL.nil ?_
        exact ⟨_, _, (gh_lit [(0, .one (.ptr 1000 0)), (1, .one (.int .i64 dp)), (4, .one (.ptr 4 0)), (5, .one (.str r.next.2.next.1)), (6, .one (.bool true))] [(1000, .obj (Rd.c r.next.2.next.2)), (4, .obj [.int .i64 0, .nilsl])] [] [] ⟨(WkU.of_eq rfl trivial), (WkU.of_eq rfl trivial), (WkU.of_eq rfl trivial), (by exact WkU.of_eq rfl trivial), (WkU.of_eq rfl trivial), trivial⟩ ⟨(by exact Or.inl ⟨_, rfl, WkBlk.refl _⟩), (by exact Or.inl ⟨_, rfl, WkBlk.refl _⟩), trivial⟩ trivial trivial rfl rfl ⟨⟨_, rfl⟩, trivial, ⟨_, rfl⟩, trivial, trivial, trivial⟩ ⟨(by refine And.intro ?_ ?_; exact trivial; refine And.intro ?_ ?_; exact trivial; exact trivial), (by refine And.intro ?_ ?_; exact trivial; refine And.intro ?_ ?_; exact trivial; exact trivial), trivial⟩), true, r.next.2.next, rfl, rfl, rfl, rfl⟩
    · rintro t h ⟨op, q, ho, hq, rfl, rfl⟩
      rw [← hq, ← ho]
      refine AW.seq ?_; refine AW.seq ?_; refine AW.region (by kernel_rfl) ?_; refine RunL.val (by exact rfl) (loc_loadFA rfl (by exact Cut.all (by exact rfl))) ?_; refine RunL.val (by exact rfl) (loc_moveC rfl) ?_; refine RunL.nil ?_; refine AW.block ?_
      refine AW.gh (gh_lit [(0, .one (.ptr 1000 0)), (1, .one (.int .i64 dp)), (4, .one (.ptr 4 0)), (5, .one (.str q.1)), (6, .one (.bool op)), (17, .agg kindsC), (18, .one (.int .i64 ((0 : Nat) : Int)))] [(1000, .obj (Rd.c q.2)), (4, .obj [.int .i64 0, .nilsl])] [] [] ⟨(WkU.of_eq rfl trivial), (WkU.of_eq rfl trivial), (WkU.of_eq rfl trivial), (by exact WkU.of_eq rfl trivial), (WkU.of_eq rfl trivial), (by exact WkU.of_eq rfl trivial), (WkU.of_eq rfl trivial), trivial⟩ ⟨(by exact Or.inl ⟨_, rfl, WkBlk.refl _⟩), (by exact Or.inl ⟨_, rfl, WkBlk.refl _⟩), trivial⟩ trivial trivial rfl rfl ⟨⟨_, rfl⟩, trivial, ⟨_, rfl⟩, trivial, trivial, (by refine And.intro ?_ ?_; exact trivial; refine And.intro ?_ ?_; exact trivial; refine And.intro ?_ ?_; exact trivial; refine And.intro ?_ ?_; exact trivial; exact trivial), trivial, trivial⟩ ⟨(by refine And.intro ?_ ?_; exact trivial; refine And.intro ?_ ?_; exact trivial; exact trivial), (by refine And.intro ?_ ?_; exact trivial; refine And.intro ?_ ?_; exact trivial; exact trivial), trivial⟩) ?_
      refine AW.loop (fun m t' h => ∃ i : Nat, i ≤ 4 ∧ m = 4 - i ∧ (True) ∧ t' = tOfL [(0, .one (.ptr 1000 0)), (1, .one (.int .i64 dp)), (4, .one (.ptr 4 0)), (5, .one (.str q.1)), (6, .one (.bool op)), (17, .agg kindsC), (18, .one (.int .i64 ((i : Nat) : Int)))] ∧ h = ofL [(1000, .obj (Rd.c q.2)), (4, .obj [.int .i64 0, .nilsl])]) 4 ⟨0, by omega, rfl, trivial, rfl, rfl⟩ ?_
      rintro m t' h ⟨i, hi, rfl, _, rfl, rfl⟩
      cases hlt : decide ((i : Int) < 4) with
      | false =>
        have hi4 : i = 4 := by have := of_decide_eq_false hlt; omega
        subst hi4
        refine AW.seq ?_; refine AW.region (by kernel_rfl) ?_; refine RunL.val (by exact rfl) (loc_binInt rfl rfl rfl) ?_; refine RunL.nil ?_; refine AW.seq ?_; refine AW.condF (by exact rfl) ?_; refine AW.exit ?_; refine AW.seq ?_; refine AW.region (by kernel_rfl) ?_; refine RunL.val (by exact rfl) (loc_moveC rfl) ?_; refine RunL.val (by exact rfl) (loc_nilCheck rfl rfl) ?_; refine RunL.val (by exact rfl) (loc_fieldAddr rfl) ?_; refine RunL.eff (by exact rfl) (loc_store (by exact rfl) (by exact rfl) (by exact rfl) (by exact rfl) (by exact rfl) (by exact Nat.le_of_ble_eq_true rfl) (by exact rfl)) ?_; refine RunL.nil ?_; refine AW.seq ?_; refine AW.region (by kernel_rfl) ?_; refine RunL.val (by exact rfl) (loc_build (by exact rfl) (by exact Cut.all (by exact rfl)) (by exact rfl)) ?_; refine RunL.eff (by exact rfl) (loc_storeW rfl rfl rfl rfl (by exact rfl) (by exact rfl)) ?_; refine RunL.nil ?_; refine AW.ret ?_
        refine rq ?_
        exact ret_ty (by exact .inr rfl) (by exact rfl) (by exact rfl) anyCells (by exact rfl) (by exact wkRow_refl _)
      | true =>
        have hi4 : i < 4 := by have := of_decide_eq_true hlt; omega
        have hg := kinds_get hi4
        refine AW.seq ?_; refine AW.region (by kernel_rfl) ?_; refine RunL.val (by exact rfl) (loc_binInt rfl rfl rfl) ?_; refine RunL.nil ?_; refine AW.seq ?_; refine AW.condTa (by exact rfl) (by assumption) ?_; refine AW.skip ?_; refine AW.seq ?_; refine AW.block ?_; refine AW.seq ?_; refine AW.region (by kernel_rfl) ?_; refine RunL.val (by exact rfl) (loc_moveC rfl) ?_
        refine RunL.val (by exact rfl) (loc_indexA (by exact rfl) (by exact rfl) hi4 hg) ?_
        refine RunL.val (by exact rfl) (loc_assignC rfl) ?_; refine RunL.val (by exact rfl) (loc_assignC rfl) ?_; refine RunL.nil ?_; refine AW.seq ?_; refine AW.seq ?_; refine AW.region (by kernel_rfl) ?_; refine RunL.val (by exact rfl) (loc_moveC rfl) ?_; refine RunL.val (by exact rfl) (loc_moveC rfl) ?_
        refine RunL.val (by exact rfl) (loc_neStr (by exact rfl) (by exact rfl)) ?_
        cases h1 : sEq (kindsL.getD i sNil) q.1 with
        | false =>
          have hk : kAt q.1 op i = false := by unfold kAt; rw [h1]; rfl
          refine RunL.val (by exact rfl) (loc_moveC rfl) ?_; refine RunL.skip (.inl ⟨_, _, rfl, rfl, rfl⟩) ?_; refine RunL.skip (.inl ⟨_, _, rfl, rfl, rfl⟩) ?_; refine RunL.skip (.inl ⟨_, _, rfl, rfl, rfl⟩) ?_; refine RunL.skip (.inl ⟨_, _, rfl, rfl, rfl⟩) ?_; refine RunL.val (by exact rfl) (loc_pickT rfl rfl) ?_; refine RunL.val (by exact rfl) (loc_moveC rfl) ?_; refine RunL.skip (.inl ⟨_, _, rfl, rfl, rfl⟩) ?_; refine RunL.skip (.inl ⟨_, _, rfl, rfl, rfl⟩) ?_; refine RunL.val (by exact rfl) (loc_pickT rfl rfl) ?_; refine RunL.nil ?_; refine AW.condT (by exact rfl) ?_; refine AW.exit ?_; refine AW.region (by kernel_rfl) ?_; refine RunL.val (by exact rfl) (loc_inc rfl rfl (by omega)) ?_; refine RunL.val (by exact rfl) (loc_moveC rfl) ?_; refine RunL.nil ?_
          exact ⟨4 - (i + 1), _, _, by omega, (gh_lit [(0, .one (.ptr 1000 0)), (1, .one (.int .i64 dp)), (4, .one (.ptr 4 0)), (5, .one (.str q.1)), (6, .one (.bool op)), (17, .agg kindsC), (18, .one (.int .i64 (((i + 1) : Nat) : Int)))] [(1000, .obj (Rd.c q.2)), (4, .obj [.int .i64 0, .nilsl])] [] [] ⟨(WkU.of_eq rfl trivial), (WkU.of_eq rfl trivial), (WkU.of_eq rfl trivial), (by exact WkU.of_eq rfl trivial), (WkU.of_eq rfl trivial), (by exact WkU.of_eq rfl trivial), (WkU.of_eq rfl trivial), trivial⟩ ⟨(by exact Or.inl ⟨_, rfl, WkBlk.refl _⟩), (by exact Or.inl ⟨_, rfl, WkBlk.refl _⟩), trivial⟩ trivial trivial rfl rfl ⟨⟨_, rfl⟩, trivial, ⟨_, rfl⟩, trivial, trivial, (by refine And.intro ?_ ?_; exact trivial; refine And.intro ?_ ?_; exact trivial; refine And.intro ?_ ?_; exact trivial; refine And.intro ?_ ?_; exact trivial; exact trivial), trivial, trivial⟩ ⟨(by refine And.intro ?_ ?_; exact trivial; refine And.intro ?_ ?_; exact trivial; exact trivial), (by refine And.intro ?_ ?_; exact trivial; refine And.intro ?_ ?_; exact trivial; exact trivial), trivial⟩), i + 1, by omega, by omega, trivial, rfl, rfl⟩
        | true =>
          refine RunL.val (by exact rfl) (loc_moveC rfl) ?_; refine RunL.val (by exact .inl ⟨_, _, rfl, rfl, rfl⟩) (loc_moveC rfl) ?_; refine RunL.val (by exact .inl ⟨_, _, rfl, rfl, rfl⟩) (loc_binInt rfl rfl rfl) ?_; refine RunL.val (by exact .inl ⟨_, _, rfl, rfl, rfl⟩) (loc_moveC rfl) ?_
          refine RunL.val (by exact .inl ⟨_, _, rfl, rfl, rfl⟩) (loc_neBool (by exact rfl) (by exact rfl)) ?_
          have hio : ((i : Int) == 3) = (i == 3) := by rw [Bool.eq_iff_iff]; simp; omega
          rw [hio]
          cases h2 : ((i == 3) == op) with
          | false =>
            have hk : kAt q.1 op i = false := by unfold kAt; rw [h1, h2]; rfl
            refine RunL.val (by exact rfl) (loc_pickF rfl rfl) ?_; refine RunL.val (by exact rfl) (loc_moveC rfl) ?_; refine RunL.skip (.inl ⟨_, _, rfl, rfl, rfl⟩) ?_; refine RunL.skip (.inl ⟨_, _, rfl, rfl, rfl⟩) ?_; refine RunL.val (by exact rfl) (loc_pickT rfl rfl) ?_; refine RunL.nil ?_; refine AW.condT (by exact rfl) ?_; refine AW.exit ?_; refine AW.region (by kernel_rfl) ?_; refine RunL.val (by exact rfl) (loc_inc rfl rfl (by omega)) ?_; refine RunL.val (by exact rfl) (loc_moveC rfl) ?_; refine RunL.nil ?_
            exact ⟨4 - (i + 1), _, _, by omega, (gh_lit [(0, .one (.ptr 1000 0)), (1, .one (.int .i64 dp)), (4, .one (.ptr 4 0)), (5, .one (.str q.1)), (6, .one (.bool op)), (17, .agg kindsC), (18, .one (.int .i64 (((i + 1) : Nat) : Int)))] [(1000, .obj (Rd.c q.2)), (4, .obj [.int .i64 0, .nilsl])] [] [] ⟨(WkU.of_eq rfl trivial), (WkU.of_eq rfl trivial), (WkU.of_eq rfl trivial), (by exact WkU.of_eq rfl trivial), (WkU.of_eq rfl trivial), (by exact WkU.of_eq rfl trivial), (WkU.of_eq rfl trivial), trivial⟩ ⟨(by exact Or.inl ⟨_, rfl, WkBlk.refl _⟩), (by exact Or.inl ⟨_, rfl, WkBlk.refl _⟩), trivial⟩ trivial trivial rfl rfl ⟨⟨_, rfl⟩, trivial, ⟨_, rfl⟩, trivial, trivial, (by refine And.intro ?_ ?_; exact trivial; refine And.intro ?_ ?_; exact trivial; refine And.intro ?_ ?_; exact trivial; refine And.intro ?_ ?_; exact trivial; exact trivial), trivial, trivial⟩ ⟨(by refine And.intro ?_ ?_; exact trivial; refine And.intro ?_ ?_; exact trivial; exact trivial), (by refine And.intro ?_ ?_; exact trivial; refine And.intro ?_ ?_; exact trivial; exact trivial), trivial⟩), i + 1, by omega, by omega, trivial, rfl, rfl⟩
          | true =>
            have hk : kAt q.1 op i = true := by unfold kAt; rw [h1, h2]; rfl
            refine RunL.val (by exact rfl) (loc_pickF rfl rfl) ?_; refine RunL.val (by exact rfl) (loc_moveC rfl) ?_; refine RunL.val (by exact .inl ⟨_, _, rfl, rfl, rfl⟩) (loc_moveC rfl) ?_; refine RunL.val (by exact .inl ⟨_, _, rfl, rfl, rfl⟩) (loc_binInt rfl rfl rfl) ?_; refine RunL.val (by exact rfl) (loc_pickF rfl rfl) ?_; refine RunL.nil ?_; refine AW.condTa (by exact rfl) (by assumption) ?_; refine AW.exit ?_; refine AW.region (by kernel_rfl) ?_; refine RunL.val (by exact rfl) (loc_inc rfl rfl (by omega)) ?_; refine RunL.val (by exact rfl) (loc_moveC rfl) ?_; refine RunL.nil ?_
            exact ⟨4 - (i + 1), _, _, by omega, (gh_lit [(0, .one (.ptr 1000 0)), (1, .one (.int .i64 dp)), (4, .one (.ptr 4 0)), (5, .one (.str q.1)), (6, .one (.bool op)), (17, .agg kindsC), (18, .one (.int .i64 (((i + 1) : Nat) : Int)))] [(1000, .obj (Rd.c q.2)), (4, .obj [.int .i64 0, .nilsl])] [] [] ⟨(WkU.of_eq rfl trivial), (WkU.of_eq rfl trivial), (WkU.of_eq rfl trivial), (by exact WkU.of_eq rfl trivial), (WkU.of_eq rfl trivial), (by exact WkU.of_eq rfl trivial), (WkU.of_eq rfl trivial), trivial⟩ ⟨(by exact Or.inl ⟨_, rfl, WkBlk.refl _⟩), (by exact Or.inl ⟨_, rfl, WkBlk.refl _⟩), trivial⟩ trivial trivial rfl rfl ⟨⟨_, rfl⟩, trivial, ⟨_, rfl⟩, trivial, trivial, (by refine And.intro ?_ ?_; exact trivial; refine And.intro ?_ ?_; exact trivial; refine And.intro ?_ ?_; exact trivial; refine And.intro ?_ ?_; exact trivial; exact trivial), trivial, trivial⟩ ⟨(by refine And.intro ?_ ?_; exact trivial; refine And.intro ?_ ?_; exact trivial; exact trivial), (by refine And.intro ?_ ?_; exact trivial; refine And.intro ?_ ?_; exact trivial; exact trivial), trivial⟩), i + 1, by omega, by omega, trivial, rfl, rfl⟩
  | succ d ih =>
    intro hd r
    have ih := ih (by omega)
    generalize hdp : (5 - (((d + 1 : Nat)) : Int)) = dp
    have ih2 : ∀ (r : Rd), ACalls Tryz.prog 49 [.one (.ptr 1000 0), .one (.int .i64 (dp + 1))] [(1000, .obj (Rd.c (r)))] (readK d r).1.u [(1000, .obj (Rd.c ((readK d r).2)))] := fun r => by
      rw [show dp + 1 = 5 - (d : Int) by omega]; exact ih r
    have hdeep : decide (dp > 4) = false := decide_eq_false (by omega)
    rw [readK_q]
    refine acalls_of_body Tryz.func49 rfl (by kernel_rfl) (Nat.le_of_ble_eq_true rfl) (by exact ⟨⟨rfl, trivial⟩, trivial⟩) (by simp [namesL]) ?_
    refine AW.seq ?_; refine AW.region (by kernel_rfl) ?_; refine RunL.mem (by exact rfl) (loc_allocD rfl rfl) ?_; refine RunL.nil ?_; refine AW.seq ?_; refine AW.region (by kernel_rfl) ?_; refine RunL.val (by exact rfl) (loc_moveC rfl) ?_
    refine RunL.many (by exact rfl) (loc_funE (next_a (r)) rfl (by refine ⟨_, _, rfl, (by exact LeU.of_eq rfl trivial), (by exact Exists.intro _ rfl), ?_⟩; exact rfl) (by exact ⟨rfl, trivial⟩) (by exact rfl) (by simp [namesL]) (by exact ⟨⟨trivial, trivial, trivial⟩, trivial⟩)) ?_
    refine RunL.val (by exact rfl) (loc_assignC rfl) ?_; refine RunL.nil ?_; refine AW.seq ?_; refine AW.region (by kernel_rfl) ?_; refine RunL.val (by exact rfl) (loc_moveC rfl) ?_
    refine RunL.val (by exact rfl) (loc_eqStr (b := sLp) (by exact rfl) (by exact rfl)) ?_
    refine RunL.val (by exact rfl) (loc_assignC rfl) ?_; refine RunL.nil ?_
    refine AW.seq ?_
    refine AW.midB (fun t h => ∃ op q, op = sEq r.next.1 sLp ∧ q = (if sEq r.next.1 sLp then r.next.2.next else r.next) ∧ t = tOfL [(0, .one (.ptr 1000 0)), (1, .one (.int .i64 dp)), (4, .one (.ptr 4 0)), (5, .one (.str q.1)), (6, .one (.bool op))] ∧ h = ofL [(1000, .obj (Rd.c q.2)), (4, .obj [.int .i64 0, .nilsl])]) ?_ ?_
    · cases hop : sEq r.next.1 sLp with
      | false =>
        refine AW.seq ?_; refine AW.region (by kernel_rfl) ?_; refine RunL.val (by exact rfl) (loc_moveC rfl) ?_; refine RunL.nil ?_; refine AW.condF (by exact rfl) ?_; refine AW.skip ?_
        exact ⟨_, _, (gh_lit [(0, .one (.ptr 1000 0)), (1, .one (.int .i64 dp)), (4, .one (.ptr 4 0)), (5, .one (.str r.next.1)), (6, .one (.bool false))] [(1000, .obj (Rd.c r.next.2)), (4, .obj [.int .i64 0, .nilsl])] [] [] ⟨(WkU.of_eq rfl trivial), (WkU.of_eq rfl trivial), (WkU.of_eq rfl trivial), (by exact WkU.of_eq rfl trivial), (WkU.of_eq rfl trivial), trivial⟩ ⟨(by exact Or.inl ⟨_, rfl, WkBlk.refl _⟩), (by exact Or.inl ⟨_, rfl, WkBlk.refl _⟩), trivial⟩ trivial trivial rfl rfl ⟨⟨_, rfl⟩, trivial, ⟨_, rfl⟩, trivial, trivial, trivial⟩ ⟨(by refine And.intro ?_ ?_; exact trivial; refine And.intro ?_ ?_; exact trivial; exact trivial), (by refine And.intro ?_ ?_; exact trivial; refine And.intro ?_ ?_; exact trivial; exact trivial), trivial⟩), false, r.next, rfl, rfl, rfl, rfl⟩
      | true =>
        refine AW.seq ?_; refine AW.region (by kernel_rfl) ?_; refine RunL.val (by exact rfl) (loc_moveC rfl) ?_; refine RunL.nil ?_; refine AW.condT (by exact rfl) ?_; refine AW.region (by kernel_rfl) ?_; refine RunL.val (by exact rfl) (loc_moveC rfl) ?_
        refine RunL.many (by exact rfl) (loc_funE (next_a (r.next.2)) rfl (by refine ⟨_, _, rfl, (by exact LeU.of_eq rfl trivial), (by exact Exists.intro _ rfl), ?_⟩; exact rfl) (by exact ⟨rfl, trivial⟩) (by exact rfl) (by simp [namesL]) (by exact ⟨⟨trivial, trivial, trivial⟩, trivial⟩)) ?_
        refine RunL.val (by exact rfl) (loc_assignC rfl) ?_; refine RunL.nil ?_
        exact ⟨_, _, (gh_lit [(0, .one (.ptr 1000 0)), (1, .one (.int .i64 dp)), (4, .one (.ptr 4 0)), (5, .one (.str r.next.2.next.1)), (6, .one (.bool true))] [(1000, .obj (Rd.c r.next.2.next.2)), (4, .obj [.int .i64 0, .nilsl])] [] [] ⟨(WkU.of_eq rfl trivial), (WkU.of_eq rfl trivial), (WkU.of_eq rfl trivial), (by exact WkU.of_eq rfl trivial), (WkU.of_eq rfl trivial), trivial⟩ ⟨(by exact Or.inl ⟨_, rfl, WkBlk.refl _⟩), (by exact Or.inl ⟨_, rfl, WkBlk.refl _⟩), trivial⟩ trivial trivial rfl rfl ⟨⟨_, rfl⟩, trivial, ⟨_, rfl⟩, trivial, trivial, trivial⟩ ⟨(by refine And.intro ?_ ?_; exact trivial; refine And.intro ?_ ?_; exact trivial; exact trivial), (by refine And.intro ?_ ?_; exact trivial; refine And.intro ?_ ?_; exact trivial; exact trivial), trivial⟩), true, r.next.2.next, rfl, rfl, rfl, rfl⟩
    · rintro t h ⟨op, q, ho, hq, rfl, rfl⟩
      rw [← hq, ← ho]
      refine AW.seq ?_; refine AW.seq ?_; refine AW.region (by kernel_rfl) ?_; refine RunL.val (by exact rfl) (loc_loadFA rfl (by exact Cut.all (by exact rfl))) ?_; refine RunL.val (by exact rfl) (loc_moveC rfl) ?_; refine RunL.nil ?_; refine AW.block ?_
      refine AW.gh (gh_lit [(0, .one (.ptr 1000 0)), (1, .one (.int .i64 dp)), (4, .one (.ptr 4 0)), (5, .one (.str q.1)), (6, .one (.bool op)), (17, .agg kindsC), (18, .one (.int .i64 ((0 : Nat) : Int)))] [(1000, .obj (Rd.c q.2)), (4, .obj [.int .i64 0, .nilsl])] [] [] ⟨(WkU.of_eq rfl trivial), (WkU.of_eq rfl trivial), (WkU.of_eq rfl trivial), (by exact WkU.of_eq rfl trivial), (WkU.of_eq rfl trivial), (by exact WkU.of_eq rfl trivial), (WkU.of_eq rfl trivial), trivial⟩ ⟨(by exact Or.inl ⟨_, rfl, WkBlk.refl _⟩), (by exact Or.inl ⟨_, rfl, WkBlk.refl _⟩), trivial⟩ trivial trivial rfl rfl ⟨⟨_, rfl⟩, trivial, ⟨_, rfl⟩, trivial, trivial, (by refine And.intro ?_ ?_; exact trivial; refine And.intro ?_ ?_; exact trivial; refine And.intro ?_ ?_; exact trivial; refine And.intro ?_ ?_; exact trivial; exact trivial), trivial, trivial⟩ ⟨(by refine And.intro ?_ ?_; exact trivial; refine And.intro ?_ ?_; exact trivial; exact trivial), (by refine And.intro ?_ ?_; exact trivial; refine And.intro ?_ ?_; exact trivial; exact trivial), trivial⟩) ?_
      refine AW.loop (fun m t' h => ∃ i : Nat, i ≤ 4 ∧ m = 4 - i ∧ (kFrom q.1 op 4 = kFrom q.1 op (4 - i)) ∧ t' = tOfL [(0, .one (.ptr 1000 0)), (1, .one (.int .i64 dp)), (4, .one (.ptr 4 0)), (5, .one (.str q.1)), (6, .one (.bool op)), (17, .agg kindsC), (18, .one (.int .i64 ((i : Nat) : Int)))] ∧ h = ofL [(1000, .obj (Rd.c q.2)), (4, .obj [.int .i64 0, .nilsl])]) 4 ⟨0, by omega, rfl, rfl, rfl, rfl⟩ ?_
      rintro m t' h ⟨i, hi, rfl, hinv, rfl, rfl⟩
      cases hlt : decide ((i : Int) < 4) with
      | false =>
        have hi4 : i = 4 := by have := of_decide_eq_false hlt; omega
        subst hi4
        have hres : readKq (d + 1) op q = (.any, q.2.fail) := by unfold readKq; simp only; rw [hinv]; rfl
        rw [hres]
        refine AW.seq ?_; refine AW.region (by kernel_rfl) ?_; refine RunL.val (by exact rfl) (loc_binInt rfl rfl rfl) ?_; refine RunL.nil ?_; refine AW.seq ?_; refine AW.condF (by exact rfl) ?_; refine AW.exit ?_; refine AW.seq ?_; refine AW.region (by kernel_rfl) ?_; refine RunL.val (by exact rfl) (loc_moveC rfl) ?_; refine RunL.val (by exact rfl) (loc_nilCheck rfl rfl) ?_; refine RunL.val (by exact rfl) (loc_fieldAddr rfl) ?_; refine RunL.eff (by exact rfl) (loc_store (by exact rfl) (by exact rfl) (by exact rfl) (by exact rfl) (by exact rfl) (by exact Nat.le_of_ble_eq_true rfl) (by exact rfl)) ?_; refine RunL.nil ?_; refine AW.seq ?_; refine AW.region (by kernel_rfl) ?_; refine RunL.val (by exact rfl) (loc_build (by exact rfl) (by exact Cut.all (by exact rfl)) (by exact rfl)) ?_; refine RunL.eff (by exact rfl) (loc_storeW rfl rfl rfl rfl (by exact rfl) (by exact rfl)) ?_; refine RunL.nil ?_; refine AW.ret ?_
        refine rq ?_
        exact ret_ty (by exact .inr rfl) (by exact rfl) (by exact rfl) anyCells (by exact rfl) (by exact wkRow_refl _)
      | true =>
        have hi4 : i < 4 := by have := of_decide_eq_true hlt; omega
        have hg := kinds_get hi4
        refine AW.seq ?_; refine AW.region (by kernel_rfl) ?_; refine RunL.val (by exact rfl) (loc_binInt rfl rfl rfl) ?_; refine RunL.nil ?_; refine AW.seq ?_; refine AW.condTa (by exact rfl) (by assumption) ?_; refine AW.skip ?_; refine AW.seq ?_; refine AW.block ?_; refine AW.seq ?_; refine AW.region (by kernel_rfl) ?_; refine RunL.val (by exact rfl) (loc_moveC rfl) ?_
        refine RunL.val (by exact rfl) (loc_indexA (by exact rfl) (by exact rfl) hi4 hg) ?_
        refine RunL.val (by exact rfl) (loc_assignC rfl) ?_; refine RunL.val (by exact rfl) (loc_assignC rfl) ?_; refine RunL.nil ?_; refine AW.seq ?_; refine AW.seq ?_; refine AW.region (by kernel_rfl) ?_; refine RunL.val (by exact rfl) (loc_moveC rfl) ?_; refine RunL.val (by exact rfl) (loc_moveC rfl) ?_
        refine RunL.val (by exact rfl) (loc_neStr (by exact rfl) (by exact rfl)) ?_
        cases h1 : sEq (kindsL.getD i sNil) q.1 with
        | false =>
          have hk : kAt q.1 op i = false := by unfold kAt; rw [h1]; rfl
          refine RunL.val (by exact rfl) (loc_moveC rfl) ?_; refine RunL.skip (.inl ⟨_, _, rfl, rfl, rfl⟩) ?_; refine RunL.skip (.inl ⟨_, _, rfl, rfl, rfl⟩) ?_; refine RunL.skip (.inl ⟨_, _, rfl, rfl, rfl⟩) ?_; refine RunL.skip (.inl ⟨_, _, rfl, rfl, rfl⟩) ?_; refine RunL.val (by exact rfl) (loc_pickT rfl rfl) ?_; refine RunL.val (by exact rfl) (loc_moveC rfl) ?_; refine RunL.skip (.inl ⟨_, _, rfl, rfl, rfl⟩) ?_; refine RunL.skip (.inl ⟨_, _, rfl, rfl, rfl⟩) ?_; refine RunL.val (by exact rfl) (loc_pickT rfl rfl) ?_; refine RunL.nil ?_; refine AW.condT (by exact rfl) ?_; refine AW.exit ?_; refine AW.region (by kernel_rfl) ?_; refine RunL.val (by exact rfl) (loc_inc rfl rfl (by omega)) ?_; refine RunL.val (by exact rfl) (loc_moveC rfl) ?_; refine RunL.nil ?_
          exact ⟨4 - (i + 1), _, _, by omega, (gh_lit [(0, .one (.ptr 1000 0)), (1, .one (.int .i64 dp)), (4, .one (.ptr 4 0)), (5, .one (.str q.1)), (6, .one (.bool op)), (17, .agg kindsC), (18, .one (.int .i64 (((i + 1) : Nat) : Int)))] [(1000, .obj (Rd.c q.2)), (4, .obj [.int .i64 0, .nilsl])] [] [] ⟨(WkU.of_eq rfl trivial), (WkU.of_eq rfl trivial), (WkU.of_eq rfl trivial), (by exact WkU.of_eq rfl trivial), (WkU.of_eq rfl trivial), (by exact WkU.of_eq rfl trivial), (WkU.of_eq rfl trivial), trivial⟩ ⟨(by exact Or.inl ⟨_, rfl, WkBlk.refl _⟩), (by exact Or.inl ⟨_, rfl, WkBlk.refl _⟩), trivial⟩ trivial trivial rfl rfl ⟨⟨_, rfl⟩, trivial, ⟨_, rfl⟩, trivial, trivial, (by refine And.intro ?_ ?_; exact trivial; refine And.intro ?_ ?_; exact trivial; refine And.intro ?_ ?_; exact trivial; refine And.intro ?_ ?_; exact trivial; exact trivial), trivial, trivial⟩ ⟨(by refine And.intro ?_ ?_; exact trivial; refine And.intro ?_ ?_; exact trivial; exact trivial), (by refine And.intro ?_ ?_; exact trivial; refine And.intro ?_ ?_; exact trivial; exact trivial), trivial⟩), i + 1, by omega, by omega, by rw [hinv, kFrom_step hi4, hk]; rfl, rfl, rfl⟩
        | true =>
          refine RunL.val (by exact rfl) (loc_moveC rfl) ?_; refine RunL.val (by exact .inl ⟨_, _, rfl, rfl, rfl⟩) (loc_moveC rfl) ?_; refine RunL.val (by exact .inl ⟨_, _, rfl, rfl, rfl⟩) (loc_binInt rfl rfl rfl) ?_; refine RunL.val (by exact .inl ⟨_, _, rfl, rfl, rfl⟩) (loc_moveC rfl) ?_
          refine RunL.val (by exact .inl ⟨_, _, rfl, rfl, rfl⟩) (loc_neBool (by exact rfl) (by exact rfl)) ?_
          have hio : ((i : Int) == 3) = (i == 3) := by rw [Bool.eq_iff_iff]; simp; omega
          rw [hio]
          cases h2 : ((i == 3) == op) with
          | false =>
            have hk : kAt q.1 op i = false := by unfold kAt; rw [h1, h2]; rfl
            refine RunL.val (by exact rfl) (loc_pickF rfl rfl) ?_; refine RunL.val (by exact rfl) (loc_moveC rfl) ?_; refine RunL.skip (.inl ⟨_, _, rfl, rfl, rfl⟩) ?_; refine RunL.skip (.inl ⟨_, _, rfl, rfl, rfl⟩) ?_; refine RunL.val (by exact rfl) (loc_pickT rfl rfl) ?_; refine RunL.nil ?_; refine AW.condT (by exact rfl) ?_; refine AW.exit ?_; refine AW.region (by kernel_rfl) ?_; refine RunL.val (by exact rfl) (loc_inc rfl rfl (by omega)) ?_; refine RunL.val (by exact rfl) (loc_moveC rfl) ?_; refine RunL.nil ?_
            exact ⟨4 - (i + 1), _, _, by omega, (gh_lit [(0, .one (.ptr 1000 0)), (1, .one (.int .i64 dp)), (4, .one (.ptr 4 0)), (5, .one (.str q.1)), (6, .one (.bool op)), (17, .agg kindsC), (18, .one (.int .i64 (((i + 1) : Nat) : Int)))] [(1000, .obj (Rd.c q.2)), (4, .obj [.int .i64 0, .nilsl])] [] [] ⟨(WkU.of_eq rfl trivial), (WkU.of_eq rfl trivial), (WkU.of_eq rfl trivial), (by exact WkU.of_eq rfl trivial), (WkU.of_eq rfl trivial), (by exact WkU.of_eq rfl trivial), (WkU.of_eq rfl trivial), trivial⟩ ⟨(by exact Or.inl ⟨_, rfl, WkBlk.refl _⟩), (by exact Or.inl ⟨_, rfl, WkBlk.refl _⟩), trivial⟩ trivial trivial rfl rfl ⟨⟨_, rfl⟩, trivial, ⟨_, rfl⟩, trivial, trivial, (by refine And.intro ?_ ?_; exact trivial; refine And.intro ?_ ?_; exact trivial; refine And.intro ?_ ?_; exact trivial; refine And.intro ?_ ?_; exact trivial; exact trivial), trivial, trivial⟩ ⟨(by refine And.intro ?_ ?_; exact trivial; refine And.intro ?_ ?_; exact trivial; exact trivial), (by refine And.intro ?_ ?_; exact trivial; refine And.intro ?_ ?_; exact trivial; exact trivial), trivial⟩), i + 1, by omega, by omega, by rw [hinv, kFrom_step hi4, hk]; rfl, rfl, rfl⟩
          | true =>
            have hk : kAt q.1 op i = true := by unfold kAt; rw [h1, h2]; rfl
            have hres : readKq (d + 1) op q = if op then (.mk i [(readK d q.2).1, (readK d (readK d q.2).2).1], (readK d (readK d q.2).2).2.close) else (.mk i [], q.2) := by
              unfold readKq; simp only; rw [hinv, kFrom_step hi4, hk]; rfl
            rw [hres]
            cases op with
            | false =>
              refine RunL.val (by exact rfl) (loc_pickF rfl rfl) ?_; refine RunL.val (by exact rfl) (loc_moveC rfl) ?_; refine RunL.val (by exact .inl ⟨_, _, rfl, rfl, rfl⟩) (loc_moveC rfl) ?_; refine RunL.val (by exact .inl ⟨_, _, rfl, rfl, rfl⟩) (loc_binInt rfl rfl rfl) ?_; refine RunL.val (by exact rfl) (loc_pickF rfl rfl) ?_; refine RunL.nil ?_; refine AW.condFa (by exact rfl) (by assumption) ?_; refine AW.skip ?_; refine AW.seq ?_; refine AW.region (by kernel_rfl) ?_; refine RunL.val (by exact rfl) (loc_moveC rfl) ?_; refine RunL.val (by exact rfl) (loc_build (by exact rfl) (by exact Cut.all (by exact rfl)) (by exact rfl)) ?_; refine RunL.mem (by exact rfl) (loc_allocD rfl rfl) ?_; refine RunL.eff (by exact rfl) (loc_storeW rfl rfl rfl rfl (by exact rfl) (by exact rfl)) ?_; refine RunL.nil ?_; refine AW.seq ?_; refine AW.seq ?_; refine AW.region (by kernel_rfl) ?_; refine RunL.val (by exact rfl) (loc_moveC rfl) ?_; refine RunL.nil ?_; refine AW.condF (by exact rfl) ?_; refine AW.skip ?_; refine AW.seq ?_; refine AW.region (by kernel_rfl) ?_; refine RunL.val (by exact rfl) (loc_loadA rfl rfl (by exact Cut.all (by exact rfl))) ?_; refine RunL.eff (by exact rfl) (loc_storeW rfl rfl rfl rfl (by exact rfl) (by exact rfl)) ?_; refine RunL.nil ?_; refine AW.ret ?_
              refine rq ?_
              exact ret_ty (by exact .inr rfl) (by exact rfl) (by exact rfl) leafCells (by exact rfl) (by exact wkRow_refl _)
            | true =>
              refine RunL.val (by exact rfl) (loc_pickF rfl rfl) ?_; refine RunL.val (by exact rfl) (loc_moveC rfl) ?_; refine RunL.val (by exact .inl ⟨_, _, rfl, rfl, rfl⟩) (loc_moveC rfl) ?_; refine RunL.val (by exact .inl ⟨_, _, rfl, rfl, rfl⟩) (loc_binInt rfl rfl rfl) ?_; refine RunL.val (by exact rfl) (loc_pickF rfl rfl) ?_; refine RunL.nil ?_; refine AW.condFa (by exact rfl) (by assumption) ?_; refine AW.skip ?_; refine AW.seq ?_; refine AW.region (by kernel_rfl) ?_; refine RunL.val (by exact rfl) (loc_moveC rfl) ?_; refine RunL.val (by exact rfl) (loc_build (by exact rfl) (by exact Cut.all (by exact rfl)) (by exact rfl)) ?_; refine RunL.mem (by exact rfl) (loc_allocD rfl rfl) ?_; refine RunL.eff (by exact rfl) (loc_storeW rfl rfl rfl rfl (by exact rfl) (by exact rfl)) ?_; refine RunL.nil ?_; refine AW.seq ?_; refine AW.seq ?_; refine AW.region (by kernel_rfl) ?_; refine RunL.val (by exact rfl) (loc_moveC rfl) ?_; refine RunL.nil ?_; refine AW.condT (by exact rfl) ?_; refine AW.seq ?_; refine AW.region (by kernel_rfl) ?_; refine RunL.val (by exact rfl) (loc_moveC rfl) ?_; refine RunL.val (by exact rfl) (loc_moveC rfl) ?_; refine RunL.val (by exact rfl) (loc_addB rfl rfl (by omega)) ?_
              refine RunL.many (by exact rfl) (loc_funE (ih2 (q.2)) rfl (by refine ⟨_, _, rfl, (by exact LeU.of_eq rfl trivial), (by exact Exists.intro _ rfl), ?_⟩; refine ⟨_, _, rfl, (by exact LeU.of_eq rfl trivial), (by exact trivial), ?_⟩; exact rfl) (by exact ⟨rfl, trivial⟩) (by exact rfl) (by simp [namesL]) (by exact ⟨⟨trivial, trivial, trivial⟩, trivial⟩)) ?_
              refine RunL.val (by exact rfl) (loc_moveC rfl) ?_; refine RunL.val (by exact rfl) (loc_moveC rfl) ?_; refine RunL.val (by exact rfl) (loc_addB rfl rfl (by omega)) ?_
              refine RunL.many (by exact rfl) (loc_funE (ih2 ((readK d q.2).2)) rfl (by refine ⟨_, _, rfl, (by exact LeU.of_eq rfl trivial), (by exact Exists.intro _ rfl), ?_⟩; refine ⟨_, _, rfl, (by exact LeU.of_eq rfl trivial), (by exact trivial), ?_⟩; exact rfl) (by exact ⟨rfl, trivial⟩) (by exact rfl) (by simp [namesL]) (by exact ⟨⟨trivial, trivial, trivial⟩, trivial⟩)) ?_
              refine RunL.val (by exact rfl) (loc_sliceLit (by exact rfl) (by exact rfl) (by decide) (by decide) (by exact RowsOf.cons (by exact rfl) (RowsOf.cons (by exact rfl) RowsOf.nil)) (by exact AllP.cons (by exact rfl) (AllP.cons (by exact rfl) AllP.nil)) (by exact rfl)) ?_; refine RunL.val (by exact rfl) (loc_fieldAddr rfl) ?_; refine RunL.eff (by exact rfl) (loc_store (by exact rfl) (by exact rfl) (by exact rfl) (by exact rfl) (by exact rfl) (by exact Nat.le_of_ble_eq_true rfl) (by exact rfl)) ?_; refine RunL.nil ?_; refine AW.region (by kernel_rfl) ?_; refine RunL.val (by exact rfl) (loc_moveC rfl) ?_; refine RunL.val (by exact rfl) (loc_moveC rfl) ?_
              refine RunL.many (by exact rfl) (loc_funE (next_a ((readK d (readK d q.2).2).2)) rfl (by refine ⟨_, _, rfl, (by exact LeU.of_eq rfl trivial), (by exact Exists.intro _ rfl), ?_⟩; exact rfl) (by exact ⟨rfl, trivial⟩) (by exact rfl) (by simp [namesL]) (by exact ⟨⟨trivial, trivial, trivial⟩, trivial⟩)) ?_
              skip
              refine RunL.val (by exact rfl) (loc_neStr (b := sRp) (by exact rfl) (by exact rfl)) ?_
              cases hc : sEq (readK d (readK d q.2).2).2.next.1 sRp with
              | false =>
                refine RunL.val (by exact rfl) (loc_moveC rfl) ?_; refine RunL.skip (.inl ⟨_, _, rfl, rfl, rfl⟩) ?_; refine RunL.skip (.inl ⟨_, _, rfl, rfl, rfl⟩) ?_; refine RunL.skip (.inl ⟨_, _, rfl, rfl, rfl⟩) ?_; refine RunL.skip (.inl ⟨_, _, rfl, rfl, rfl⟩) ?_; refine RunL.val (by exact rfl) (loc_pickT rfl rfl) ?_; refine RunL.val (by exact rfl) (loc_nilCheck rfl rfl) ?_; refine RunL.val (by exact rfl) (loc_fieldAddr rfl) ?_; refine RunL.eff (by exact rfl) (loc_store (by exact rfl) (by exact rfl) (by exact rfl) (by exact rfl) (by exact rfl) (by exact Nat.le_of_ble_eq_true rfl) (by exact rfl)) ?_; refine RunL.nil ?_; refine AW.seq ?_; refine AW.region (by kernel_rfl) ?_; refine RunL.val (by exact rfl) (loc_loadA rfl rfl (by exact Cut.all (by exact rfl))) ?_; refine RunL.eff (by exact rfl) (loc_storeW rfl rfl rfl rfl (by exact rfl) (by exact rfl)) ?_; refine RunL.nil ?_; refine AW.ret ?_
                refine rq ?_
                exact ret_ty (by exact .inr rfl) (by exact rfl) (by exact rfl) pairCells (by exact rfl) (by unfold Rd.close; rw [hc]; exact wkRow_refl _)
              | true =>
                refine RunL.val (by exact rfl) (loc_moveC rfl) ?_; refine RunL.val (by exact .inl ⟨_, _, rfl, rfl, rfl⟩) (loc_moveC rfl) ?_; refine RunL.val (by exact .inl ⟨_, _, rfl, rfl, rfl⟩) (loc_nilCheck rfl rfl) ?_; refine RunL.val (by exact .inl ⟨_, _, rfl, rfl, rfl⟩) (loc_fieldAddr rfl) ?_; refine RunL.val (by exact .inl ⟨_, _, rfl, rfl, rfl⟩) (loc_load rfl rfl rfl) ?_; refine RunL.val (by exact rfl) (loc_pickF rfl rfl) ?_; refine RunL.val (by exact rfl) (loc_nilCheck rfl rfl) ?_; refine RunL.val (by exact rfl) (loc_fieldAddr rfl) ?_; refine RunL.eff (by exact rfl) (loc_store (by exact rfl) (by exact rfl) (by exact rfl) (by exact rfl) (by exact rfl) (by exact Nat.le_of_ble_eq_true rfl) (by exact rfl)) ?_; refine RunL.nil ?_; refine AW.seq ?_; refine AW.region (by kernel_rfl) ?_; refine RunL.val (by exact rfl) (loc_loadA rfl rfl (by exact Cut.all (by exact rfl))) ?_; refine RunL.eff (by exact rfl) (loc_storeW rfl rfl rfl rfl (by exact rfl) (by exact rfl)) ?_; refine RunL.nil ?_; refine AW.ret ?_
                refine rq ?_
                exact ret_ty (by exact .inr rfl) (by exact rfl) (by exact rfl) pairCells (by exact rfl) (by unfold Rd.close; rw [hc]; exact wkRow_refl _)
end Go.Proofs.YtnflnbdlgdjfmabGreatDoor
