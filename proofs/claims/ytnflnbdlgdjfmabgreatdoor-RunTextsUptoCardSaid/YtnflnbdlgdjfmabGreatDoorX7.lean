/-
  Merged texts of the proof. Conditions: those typed in each theorem.
-/
import Derived.Test.YtnflnbdlgdjfmabGreatDoorX6
import Derived.Shelf.Strings.Builder1
import Derived.Shelf.Strings.Builder2
import Derived.Shelf.Strings.Trim
import Derived.Shelf.Small.Utf8
import Derived.Shelf.Small.Strs
import Derived.Shelf.Strconv.Atoi
import Derived.Shelf.Strconv.Itoa0
import Derived.Shelf.Strconv.Itoa1
import Derived.Shelf.LaysM
import Derived.Shelf.Strconv.Itoa2
import Derived.Shelf.Strconv.Itoa3
import Derived.Shelf.Strconv.AtoiErrFast
import Derived.Shelf.Strconv.ParseIntEmpty
import Derived.Shelf.Strconv.AtoiFail
import Derived.Shelf.Strconv.Clone
import Derived.Shelf.Strconv.SyntaxError
import Derived.Shelf.LaysC
import Derived.Shelf.Strconv.ToError
import Derived.Shelf.Strconv.Lower
import Derived.Shelf.Strconv.ParseUint10
import Derived.Shelf.Strconv.ParseUint10Empty
import Derived.Shelf.Strconv.ParseUint10Any
import Derived.Shelf.Strconv.ParseInt10
import Derived.Shelf.Strconv.AtoiLong
import Derived.Shelf.Strconv.AtoiInnerAll
import Derived.Shelf.Strconv.RangeError
import Derived.Shelf.Strconv.ToErrorRange
import Derived.Shelf.Strconv.AtoiAll
import Derived.Shelf.Strconv.ErrVarAll
import Derived.Shelf.Strings.Search1
import Derived.Shelf.Strings.Search2
import Derived.Shelf.Strings.Search3
import Derived.Shelf.Strings.Count
import Derived.Shelf.Strings.Shaped
import Derived.Shelf.Strings.Prefix
import Derived.Shelf.Strings.Split
import Derived.Shelf.Strings.Fields
import Derived.Shelf.Strings.Replace
import Derived.Shelf.Unicode.Latin
import Derived.Shelf.Strings.Runes
import Derived.Shelf.Strings.IndexAny
import Derived.Shelf.Strings.AsciiSet
import Derived.Shelf.Strings.IndexAnyAll
import Derived.Shelf.Unicode.DecodeSlow
import Derived.Shelf.Unicode.DecodeAny
import Derived.Shelf.Unicode.Is16White
import Derived.Shelf.Unicode.IsSpaceAny
import Derived.Shelf.Unicode.DecodeLast
import Derived.Shelf.Unicode.Is16WhiteD
import Derived.Shelf.Unicode.IsSpaceAnyD
import Derived.Shelf.Strings.FieldsAny
import Derived.Shelf.Strings.FieldsFuncAny
import Derived.Shelf.Unicode.Is16Any
import Derived.Shelf.Unicode.Is32Any
import Derived.Shelf.Unicode.ExclAny
import Derived.Shelf.Strings.FieldsFuncGrows
import Derived.Test.YtnflnbdlgdjfmabGreatDoorProg
import Derived.Lib.SmallJoins
import Derived.Lib.LaidTab
set_option linter.unusedVariables false
set_option linter.unusedSimpArgs false
namespace Go.Proofs
open Go.Shelf
open Go.RowKit in
open Go.RowKit in
open Go.RowKit in
open Go.RowKit in
open Go.RowKit in
open Go.RowKit in
open Go.RowKit in
def Tryz.lays161_ren : Go.Shelf.Ren := ⟨fun | 161 => 50 | 231 => 87 | 227 => 88 | 233 => 89 | 235 => 90 | 228 => 93 | 197 => 82 | 151 => 120 | 260 => 116 | 152 => 91 | 137 => 121 | 119 => 122 | 224 => 123 | 225 => 124 | 217 => 132 | 266 => 143 | n => n, fun | 9 => 9 | 4 => 4 | 3 => 3 | 5 => 5 | 117 => 141 | 116 => 140 | 0 => 0 | 124 => 144 | 105 => 134 | 21 => 21 | 119 => 148 | 46 => 166 | 139 => 175 | 138 => 174 | n => n, fun | 3 => 6 | 4 => 7 | n => n⟩
theorem Tryz.lays161 : Go.Proofs.Lays.n161 Tryz.prog Tryz.lays161_ren := {
  mixed := by kernel_rfl
  f119 := Tryz.func122.trans (congrArg some (by kernel_rfl))
  f137 := Tryz.func121.trans (congrArg some (by kernel_rfl))
  f151 := Tryz.func120.trans (congrArg some (by kernel_rfl))
  f152 := Tryz.func91.trans (congrArg some (by kernel_rfl))
  f161 := Tryz.func50.trans (congrArg some (by kernel_rfl))
  f197 := Tryz.func82.trans (congrArg some (by kernel_rfl))
  f217 := Tryz.func132.trans (congrArg some (by kernel_rfl))
  f224 := Tryz.func123.trans (congrArg some (by kernel_rfl))
  f225 := Tryz.func124.trans (congrArg some (by kernel_rfl))
  f227 := Tryz.func88.trans (congrArg some (by kernel_rfl))
  f228 := Tryz.func93.trans (congrArg some (by kernel_rfl))
  f231 := Tryz.func87.trans (congrArg some (by kernel_rfl))
  f233 := Tryz.func89.trans (congrArg some (by kernel_rfl))
  f235 := Tryz.func90.trans (congrArg some (by kernel_rfl))
  f260 := Tryz.func116.trans (congrArg some (by kernel_rfl))
  f266 := Tryz.func143.trans (congrArg some (by kernel_rfl))
  t0 := Tryz.underlying0
  a0 := Tryz.isAgg0
  z0 := Tryz.sizeOf0
  v0 := Tryz.zeroValue0
  t3 := Tryz.underlying3
  a3 := Tryz.isAgg3
  z3 := Tryz.sizeOf3
  v3 := Tryz.zeroValue3
  t4 := Tryz.underlying4
  a4 := Tryz.isAgg4
  z4 := Tryz.sizeOf4
  v4 := Tryz.zeroValue4
  t5 := Tryz.underlying5
  a5 := Tryz.isAgg5
  z5 := Tryz.sizeOf5
  v5 := Tryz.zeroValue5
  t9 := Tryz.underlying9
  a9 := Tryz.isAgg9
  z9 := Tryz.sizeOf9
  v9 := Tryz.zeroValue9
  t21 := Tryz.underlying21
  a21 := Tryz.isAgg21
  z21 := Tryz.sizeOf21
  v21 := Tryz.zeroValue21
  t46 := Tryz.underlying166
  a46 := Tryz.isAgg166
  z46 := Tryz.sizeOf166
  v46 := Tryz.zeroValue166
  t105 := Tryz.underlying134
  a105 := Tryz.isAgg134
  z105 := Tryz.sizeOf134
  v105 := Tryz.zeroValue134
  t116 := Tryz.underlying140
  a116 := Tryz.isAgg140
  z116 := Tryz.sizeOf140
  t117 := Tryz.underlying141
  a117 := Tryz.isAgg141
  z117 := Tryz.sizeOf141
  v117 := Tryz.zeroValue141
  t119 := Tryz.underlying148
  a119 := Tryz.isAgg148
  z119 := Tryz.sizeOf148
  t124 := Tryz.underlying144
  a124 := Tryz.isAgg144
  z124 := Tryz.sizeOf144
  v124 := Tryz.zeroValue144
  t138 := Tryz.underlying174
  a138 := Tryz.isAgg174
  z138 := Tryz.sizeOf174
  v138 := Tryz.zeroValue174
  t139 := Tryz.underlying175
  a139 := Tryz.isAgg175
  z139 := Tryz.sizeOf175
  v139 := Tryz.zeroValue175
  g3 := by kernel_rfl
  g4 := by kernel_rfl }
open Go.RowKit in
def Tryz.lays160_ren : Go.Shelf.Ren := ⟨fun | 160 => 95 | 232 => 126 | 231 => 87 | 227 => 88 | 234 => 127 | 233 => 89 | 236 => 128 | 235 => 90 | 228 => 93 | 271 => 140 | 151 => 120 | 197 => 82 | 120 => 152 | 152 => 91 | 260 => 116 | 137 => 121 | 119 => 122 | 224 => 123 | 225 => 124 | 217 => 132 | 266 => 143 | n => n, fun | 9 => 9 | 4 => 4 | 3 => 3 | 5 => 5 | 117 => 141 | 116 => 140 | 0 => 0 | 124 => 144 | 21 => 21 | 105 => 134 | 46 => 166 | 119 => 148 | 139 => 175 | 138 => 174 | n => n, fun | 3 => 6 | 4 => 7 | n => n⟩
theorem Tryz.lays160 : Go.Proofs.Lays.n160 Tryz.prog Tryz.lays160_ren := {
  mixed := by kernel_rfl
  f119 := Tryz.func122.trans (congrArg some (by kernel_rfl))
  f120 := Tryz.func152.trans (congrArg some (by kernel_rfl))
  f137 := Tryz.func121.trans (congrArg some (by kernel_rfl))
  f151 := Tryz.func120.trans (congrArg some (by kernel_rfl))
  f152 := Tryz.func91.trans (congrArg some (by kernel_rfl))
  f160 := Tryz.func95.trans (congrArg some (by kernel_rfl))
  f197 := Tryz.func82.trans (congrArg some (by kernel_rfl))
  f217 := Tryz.func132.trans (congrArg some (by kernel_rfl))
  f224 := Tryz.func123.trans (congrArg some (by kernel_rfl))
  f225 := Tryz.func124.trans (congrArg some (by kernel_rfl))
  f227 := Tryz.func88.trans (congrArg some (by kernel_rfl))
  f228 := Tryz.func93.trans (congrArg some (by kernel_rfl))
  f231 := Tryz.func87.trans (congrArg some (by kernel_rfl))
  f232 := Tryz.func126.trans (congrArg some (by kernel_rfl))
  f233 := Tryz.func89.trans (congrArg some (by kernel_rfl))
  f234 := Tryz.func127.trans (congrArg some (by kernel_rfl))
  f235 := Tryz.func90.trans (congrArg some (by kernel_rfl))
  f236 := Tryz.func128.trans (congrArg some (by kernel_rfl))
  f260 := Tryz.func116.trans (congrArg some (by kernel_rfl))
  f266 := Tryz.func143.trans (congrArg some (by kernel_rfl))
  f271 := Tryz.func140.trans (congrArg some (by kernel_rfl))
  t0 := Tryz.underlying0
  a0 := Tryz.isAgg0
  z0 := Tryz.sizeOf0
  v0 := Tryz.zeroValue0
  t3 := Tryz.underlying3
  a3 := Tryz.isAgg3
  z3 := Tryz.sizeOf3
  v3 := Tryz.zeroValue3
  t4 := Tryz.underlying4
  a4 := Tryz.isAgg4
  z4 := Tryz.sizeOf4
  v4 := Tryz.zeroValue4
  t5 := Tryz.underlying5
  a5 := Tryz.isAgg5
  z5 := Tryz.sizeOf5
  v5 := Tryz.zeroValue5
  t9 := Tryz.underlying9
  a9 := Tryz.isAgg9
  z9 := Tryz.sizeOf9
  v9 := Tryz.zeroValue9
  t21 := Tryz.underlying21
  a21 := Tryz.isAgg21
  z21 := Tryz.sizeOf21
  v21 := Tryz.zeroValue21
  t46 := Tryz.underlying166
  a46 := Tryz.isAgg166
  z46 := Tryz.sizeOf166
  v46 := Tryz.zeroValue166
  t105 := Tryz.underlying134
  a105 := Tryz.isAgg134
  z105 := Tryz.sizeOf134
  v105 := Tryz.zeroValue134
  t116 := Tryz.underlying140
  a116 := Tryz.isAgg140
  z116 := Tryz.sizeOf140
  t117 := Tryz.underlying141
  a117 := Tryz.isAgg141
  z117 := Tryz.sizeOf141
  v117 := Tryz.zeroValue141
  t119 := Tryz.underlying148
  a119 := Tryz.isAgg148
  z119 := Tryz.sizeOf148
  t124 := Tryz.underlying144
  a124 := Tryz.isAgg144
  z124 := Tryz.sizeOf144
  v124 := Tryz.zeroValue144
  t138 := Tryz.underlying174
  a138 := Tryz.isAgg174
  z138 := Tryz.sizeOf174
  v138 := Tryz.zeroValue174
  t139 := Tryz.underlying175
  a139 := Tryz.isAgg175
  z139 := Tryz.sizeOf175
  v139 := Tryz.zeroValue175
  g3 := by kernel_rfl
  g4 := by kernel_rfl }
open Go.RowKit in
def Tryz.lays119_ren : Go.Shelf.Ren := ⟨fun | 119 => 122 | n => n, fun | 21 => 21 | 4 => 4 | n => n, fun | n => n⟩
theorem Tryz.lays119 : Go.Proofs.Lays.n119 Tryz.prog Tryz.lays119_ren := {
  mixed := by kernel_rfl
  f119 := Tryz.func122.trans (congrArg some (by kernel_rfl))
  t4 := Tryz.underlying4
  a4 := Tryz.isAgg4
  z4 := Tryz.sizeOf4
  v4 := Tryz.zeroValue4
  t21 := Tryz.underlying21
  a21 := Tryz.isAgg21
  z21 := Tryz.sizeOf21
  v21 := Tryz.zeroValue21 }
theorem Tryz.utf8_ValidRune (r : Int) (w : World) :
    Calls Tryz.prog 122 #[.int .i32 r] w fun e w' => e = .returned (.bool (Lib.validRune r)) ∧ w' = w := Any.utf8_ValidRune Tryz.lays119 r w
def Tryz.lays137_ren : Go.Shelf.Ren := ⟨fun | 137 => 121 | 217 => 132 | 266 => 143 | n => n, fun | 9 => 9 | 5 => 5 | 3 => 3 | n => n, fun | n => n⟩
theorem Tryz.lays137 : Go.Proofs.Lays.n137 Tryz.prog Tryz.lays137_ren := {
  mixed := by kernel_rfl
  f137 := Tryz.func121.trans (congrArg some (by kernel_rfl))
  f217 := Tryz.func132.trans (congrArg some (by kernel_rfl))
  f266 := Tryz.func143.trans (congrArg some (by kernel_rfl))
  t3 := Tryz.underlying3
  a3 := Tryz.isAgg3
  z3 := Tryz.sizeOf3
  v3 := Tryz.zeroValue3
  t5 := Tryz.underlying5
  a5 := Tryz.isAgg5
  z5 := Tryz.sizeOf5
  v5 := Tryz.zeroValue5
  t9 := Tryz.underlying9
  a9 := Tryz.isAgg9
  z9 := Tryz.sizeOf9
  v9 := Tryz.zeroValue9 }
open Go.RowKit in
theorem Tryz.strings_IndexByte (s : ByteArray) (c : Int) (w : World) :
    Calls Tryz.prog 121 #[.string s, .int .u8 c] w fun e w' => e = .returned (.int .i64 (Lib.indexByte s.data.toList c.toNat.toUInt8)) ∧ w' = w := Any.strings_IndexByte Tryz.lays137 s c w
open Go.RowKit in
open Go.RowKit in
open Go.Lib in
open Go.Lib in
open Go.Lib in
open Go.Lib in
open Go.RowKit Go.Sort Go.Lib in
open Go.RowKit Go.Sort Go.Lib in
open Go.RowKit Go.Sort Go.Lib in
open Go.RowKit Go.Sort Go.Lib in
open Go.RowKit Go.Sort Go.Lib in
def Tryz.laysM171_ren : Go.Shelf.Ren := ⟨fun | 171 => 86 | 243 => 119 | 246 => 139 | 283 => 148 | 284 => 149 | 285 => 150 | 286 => 151 | 129 => 156 | 317 => 155 | 318 => 157 | 319 => 158 | 320 => 159 | 337 => 160 | 338 => 161 | n => n, fun | 3 => 3 | 9 => 9 | 2 => 2 | 4 => 4 | 171 => 203 | 0 => 0 | 53 => 196 | 37 => 126 | 5 => 5 | 173 => 206 | 212 => 215 | 51 => 167 | 20 => 20 | 213 => 216 | 46 => 166 | 232 => 219 | 233 => 220 | n => n, fun | 17 => 10 | 18 => 11 | 19 => 12 | n => n⟩
theorem Tryz.laysM171 : Go.Proofs.LaysM.n171 Tryz.prog Tryz.laysM171_ren := {
  mixed := by kernel_rfl
  f129 := Tryz.func156.trans (congrArg some (by kernel_rfl))
  f171 := Tryz.func86.trans (congrArg some (by kernel_rfl))
  f243 := Tryz.func119.trans (congrArg some (by kernel_rfl))
  f246 := Tryz.func139.trans (congrArg some (by kernel_rfl))
  f283 := Tryz.func148.trans (congrArg some (by kernel_rfl))
  f284 := Tryz.func149.trans (congrArg some (by kernel_rfl))
  f285 := Tryz.func150.trans (congrArg some (by kernel_rfl))
  f286 := Tryz.func151.trans (congrArg some (by kernel_rfl))
  f317 := Tryz.func155.trans (congrArg some (by kernel_rfl))
  f318 := Tryz.func157.trans (congrArg some (by kernel_rfl))
  f319 := Tryz.func158.trans (congrArg some (by kernel_rfl))
  f320 := Tryz.func159.trans (congrArg some (by kernel_rfl))
  f337 := Tryz.func160.trans (congrArg some (by kernel_rfl))
  f338 := Tryz.func161.trans (congrArg some (by kernel_rfl))
  t0 := Tryz.underlying0
  a0 := Tryz.isAgg0
  z0 := Tryz.sizeOf0
  v0 := Tryz.zeroValue0
  t2 := Tryz.underlying2
  a2 := Tryz.isAgg2
  z2 := Tryz.sizeOf2
  v2 := Tryz.zeroValue2
  t3 := Tryz.underlying3
  a3 := Tryz.isAgg3
  z3 := Tryz.sizeOf3
  v3 := Tryz.zeroValue3
  t4 := Tryz.underlying4
  a4 := Tryz.isAgg4
  z4 := Tryz.sizeOf4
  v4 := Tryz.zeroValue4
  t5 := Tryz.underlying5
  a5 := Tryz.isAgg5
  z5 := Tryz.sizeOf5
  v5 := Tryz.zeroValue5
  t9 := Tryz.underlying9
  a9 := Tryz.isAgg9
  z9 := Tryz.sizeOf9
  v9 := Tryz.zeroValue9
  t20 := Tryz.underlying20
  a20 := Tryz.isAgg20
  z20 := Tryz.sizeOf20
  v20 := Tryz.zeroValue20
  t37 := Tryz.underlying126
  a37 := Tryz.isAgg126
  z37 := Tryz.sizeOf126
  v37 := Tryz.zeroValue126
  t46 := Tryz.underlying166
  a46 := Tryz.isAgg166
  z46 := Tryz.sizeOf166
  v46 := Tryz.zeroValue166
  t51 := Tryz.underlying167
  a51 := Tryz.isAgg167
  z51 := Tryz.sizeOf167
  v51 := Tryz.zeroValue167
  t53 := Tryz.underlying196
  a53 := Tryz.isAgg196
  z53 := Tryz.sizeOf196
  v53 := Tryz.zeroValue196
  t171 := Tryz.underlying203
  a171 := Tryz.isAgg203
  z171 := Tryz.sizeOf203
  v171 := Tryz.zeroValue203
  t173 := Tryz.underlying206
  a173 := Tryz.isAgg206
  z173 := Tryz.sizeOf206
  v173 := Tryz.zeroValue206
  t212 := Tryz.underlying215
  a212 := Tryz.isAgg215
  z212 := Tryz.sizeOf215
  v212 := Tryz.zeroValue215
  t213 := Tryz.underlying216
  a213 := Tryz.isAgg216
  z213 := Tryz.sizeOf216
  t232 := Tryz.underlying219
  a232 := Tryz.isAgg219
  z232 := Tryz.sizeOf219
  v232 := Tryz.zeroValue219
  t233 := Tryz.underlying220
  a233 := Tryz.isAgg220
  z233 := Tryz.sizeOf220
  v233 := Tryz.zeroValue220
  g17 := by kernel_rfl
  g18 := by kernel_rfl
  g19 := by kernel_rfl
  i0 := by kernel_rfl
  i2 := by kernel_rfl
  i3 := by kernel_rfl
  i4 := by kernel_rfl
  i5 := by kernel_rfl
  i9 := by kernel_rfl
  i20 := by kernel_rfl
  i37 := by kernel_rfl
  i46 := by kernel_rfl
  i51 := by kernel_rfl
  i53 := by kernel_rfl
  i171 := by kernel_rfl
  i173 := by kernel_rfl
  i212 := by kernel_rfl
  i232 := by kernel_rfl
  i233 := by kernel_rfl
  m17 := by kernel_rfl
  m18 := by kernel_rfl
  m19 := by kernel_rfl }
open Go.RowKit Go.Sort Go.Lib in
theorem Tryz.strconv_Itoa (n : Int) (h0 : -9223372036854775808 ≤ n) (h1 : n ≤ 9223372036854775807) (w : World) (htab : Lib.TabIs Tryz.prog w "internal/strconv.uint64pow10" .u64 Lib.pow10Tab) :
    Calls Tryz.prog 86 #[.int .i64 n] w fun e w' => e = .returned (.string ⟨(Lib.itoa n).toArray⟩) ∧ ∃ k os, w' = grow (w.drewN k) os := Any.strconv_Itoa Tryz.laysM171 n h0 h1 w htab
open Go.RowKit Go.Sort Go.Lib in
open Go.RowKit in
open Go.RowKit in
open Go.RowKit in
open Go.RowKit in
open Go.RowKit in
open Go.RowKit in
open Go.RowKit in
open Go.RowKit in
open Go.RowKit in
open Go.RowKit in
open Go.RowKit in
open Go.RowKit in
open Go.RowKit in
open Go.RowKit in
open Go.RowKit in
open Go.RowKit in
def Tryz.laysC172_ren : Go.Shelf.Ren := ⟨fun | 172 => 85 | 244 => 117 | 245 => 118 | 247 => 134 | 279 => 135 | 280 => 136 | 281 => 137 | 282 => 138 | 287 => 145 | 316 => 146 | 171 => 86 | 205 => 147 | 321 => 153 | 322 => 154 | 243 => 119 | 246 => 139 | 283 => 148 | 284 => 149 | 285 => 150 | 286 => 151 | 129 => 156 | 317 => 155 | 318 => 157 | 319 => 158 | 320 => 159 | 337 => 160 | 338 => 161 | n => n, fun | 9 => 9 | 3 => 3 | 75 => 131 | 76 => 132 | 4 => 4 | 5 => 5 | 167 => 176 | 37 => 126 | 0 => 0 | 85 => 177 | 2 => 2 | 168 => 179 | 53 => 196 | 175 => 197 | 46 => 166 | 210 => 201 | 127 => 163 | 145 => 213 | 143 => 211 | 21 => 21 | 171 => 203 | 173 => 206 | 212 => 215 | 51 => 167 | 20 => 20 | 213 => 216 | 232 => 219 | 233 => 220 | 80 => 92 | n => n, fun | 15 => 8 | 16 => 9 | 17 => 10 | 18 => 11 | 19 => 12 | n => n⟩
theorem Tryz.laysC172 : Go.Proofs.LaysC.n172 Tryz.prog Tryz.laysC172_ren := {
  mixed := by kernel_rfl
  f129 := Tryz.func156.trans (congrArg some (by kernel_rfl))
  f171 := Tryz.func86.trans (congrArg some (by kernel_rfl))
  f172 := Tryz.func85.trans (congrArg some (by kernel_rfl))
  f205 := Tryz.func147.trans (congrArg some (by kernel_rfl))
  f243 := Tryz.func119.trans (congrArg some (by kernel_rfl))
  f244 := Tryz.func117.trans (congrArg some (by kernel_rfl))
  f245 := Tryz.func118.trans (congrArg some (by kernel_rfl))
  f246 := Tryz.func139.trans (congrArg some (by kernel_rfl))
  f247 := Tryz.func134.trans (congrArg some (by kernel_rfl))
  f279 := Tryz.func135.trans (congrArg some (by kernel_rfl))
  f280 := Tryz.func136.trans (congrArg some (by kernel_rfl))
  f281 := Tryz.func137.trans (congrArg some (by kernel_rfl))
  f282 := Tryz.func138.trans (congrArg some (by kernel_rfl))
  f283 := Tryz.func148.trans (congrArg some (by kernel_rfl))
  f284 := Tryz.func149.trans (congrArg some (by kernel_rfl))
  f285 := Tryz.func150.trans (congrArg some (by kernel_rfl))
  f286 := Tryz.func151.trans (congrArg some (by kernel_rfl))
  f287 := Tryz.func145.trans (congrArg some (by kernel_rfl))
  f316 := Tryz.func146.trans (congrArg some (by kernel_rfl))
  f317 := Tryz.func155.trans (congrArg some (by kernel_rfl))
  f318 := Tryz.func157.trans (congrArg some (by kernel_rfl))
  f319 := Tryz.func158.trans (congrArg some (by kernel_rfl))
  f320 := Tryz.func159.trans (congrArg some (by kernel_rfl))
  f321 := Tryz.func153.trans (congrArg some (by kernel_rfl))
  f322 := Tryz.func154.trans (congrArg some (by kernel_rfl))
  f337 := Tryz.func160.trans (congrArg some (by kernel_rfl))
  f338 := Tryz.func161.trans (congrArg some (by kernel_rfl))
  t0 := Tryz.underlying0
  a0 := Tryz.isAgg0
  z0 := Tryz.sizeOf0
  v0 := Tryz.zeroValue0
  t2 := Tryz.underlying2
  a2 := Tryz.isAgg2
  z2 := Tryz.sizeOf2
  v2 := Tryz.zeroValue2
  t3 := Tryz.underlying3
  a3 := Tryz.isAgg3
  z3 := Tryz.sizeOf3
  v3 := Tryz.zeroValue3
  t4 := Tryz.underlying4
  a4 := Tryz.isAgg4
  z4 := Tryz.sizeOf4
  v4 := Tryz.zeroValue4
  t5 := Tryz.underlying5
  a5 := Tryz.isAgg5
  z5 := Tryz.sizeOf5
  v5 := Tryz.zeroValue5
  t9 := Tryz.underlying9
  a9 := Tryz.isAgg9
  z9 := Tryz.sizeOf9
  v9 := Tryz.zeroValue9
  t20 := Tryz.underlying20
  a20 := Tryz.isAgg20
  z20 := Tryz.sizeOf20
  v20 := Tryz.zeroValue20
  t21 := Tryz.underlying21
  a21 := Tryz.isAgg21
  z21 := Tryz.sizeOf21
  v21 := Tryz.zeroValue21
  t37 := Tryz.underlying126
  a37 := Tryz.isAgg126
  z37 := Tryz.sizeOf126
  v37 := Tryz.zeroValue126
  t46 := Tryz.underlying166
  a46 := Tryz.isAgg166
  z46 := Tryz.sizeOf166
  v46 := Tryz.zeroValue166
  t51 := Tryz.underlying167
  a51 := Tryz.isAgg167
  z51 := Tryz.sizeOf167
  v51 := Tryz.zeroValue167
  t53 := Tryz.underlying196
  a53 := Tryz.isAgg196
  z53 := Tryz.sizeOf196
  v53 := Tryz.zeroValue196
  t75 := Tryz.underlying131
  a75 := Tryz.isAgg131
  z75 := Tryz.sizeOf131
  v75 := Tryz.zeroValue131
  t76 := Tryz.underlying132
  a76 := Tryz.isAgg132
  z76 := Tryz.sizeOf132
  v76 := Tryz.zeroValue132
  t85 := Tryz.underlying177
  a85 := Tryz.isAgg177
  z85 := Tryz.sizeOf177
  v85 := Tryz.zeroValue177
  t127 := Tryz.underlying163
  a127 := Tryz.isAgg163
  z127 := Tryz.sizeOf163
  v127 := Tryz.zeroValue163
  t143 := Tryz.underlying211
  a143 := Tryz.isAgg211
  z143 := Tryz.sizeOf211
  v143 := Tryz.zeroValue211
  t145 := Tryz.underlying213
  a145 := Tryz.isAgg213
  z145 := Tryz.sizeOf213
  v145 := Tryz.zeroValue213
  t167 := Tryz.underlying176
  a167 := Tryz.isAgg176
  z167 := Tryz.sizeOf176
  v167 := Tryz.zeroValue176
  t168 := Tryz.underlying179
  a168 := Tryz.isAgg179
  z168 := Tryz.sizeOf179
  v168 := Tryz.zeroValue179
  t171 := Tryz.underlying203
  a171 := Tryz.isAgg203
  z171 := Tryz.sizeOf203
  v171 := Tryz.zeroValue203
  t173 := Tryz.underlying206
  a173 := Tryz.isAgg206
  z173 := Tryz.sizeOf206
  v173 := Tryz.zeroValue206
  t175 := Tryz.underlying197
  a175 := Tryz.isAgg197
  z175 := Tryz.sizeOf197
  v175 := Tryz.zeroValue197
  t210 := Tryz.underlying201
  a210 := Tryz.isAgg201
  z210 := Tryz.sizeOf201
  v210 := Tryz.zeroValue201
  t212 := Tryz.underlying215
  a212 := Tryz.isAgg215
  z212 := Tryz.sizeOf215
  v212 := Tryz.zeroValue215
  t213 := Tryz.underlying216
  a213 := Tryz.isAgg216
  z213 := Tryz.sizeOf216
  t232 := Tryz.underlying219
  a232 := Tryz.isAgg219
  z232 := Tryz.sizeOf219
  v232 := Tryz.zeroValue219
  t233 := Tryz.underlying220
  a233 := Tryz.isAgg220
  z233 := Tryz.sizeOf220
  v233 := Tryz.zeroValue220
  g15 := by kernel_rfl
  g16 := by kernel_rfl
  g17 := by kernel_rfl
  g18 := by kernel_rfl
  g19 := by kernel_rfl
  t80 := Tryz.underlying92
  a80 := Tryz.isAgg92
  z80 := Tryz.sizeOf92
  v80 := Tryz.zeroValue92
  i0 := by kernel_rfl
  i2 := by kernel_rfl
  i3 := by kernel_rfl
  i4 := by kernel_rfl
  i5 := by kernel_rfl
  i9 := by kernel_rfl
  i20 := by kernel_rfl
  i21 := by kernel_rfl
  i37 := by kernel_rfl
  i46 := by kernel_rfl
  i51 := by kernel_rfl
  i53 := by kernel_rfl
  i75 := by kernel_rfl
  i76 := by kernel_rfl
  i80 := by kernel_rfl
  i85 := by kernel_rfl
  i127 := by kernel_rfl
  i143 := by kernel_rfl
  i145 := by kernel_rfl
  i167 := by kernel_rfl
  i168 := by kernel_rfl
  i171 := by kernel_rfl
  i173 := by kernel_rfl
  i175 := by kernel_rfl
  i210 := by kernel_rfl
  i212 := by kernel_rfl
  i232 := by kernel_rfl
  i233 := by kernel_rfl
  m15 := by kernel_rfl
  m16 := by kernel_rfl
  m17 := by kernel_rfl
  m18 := by kernel_rfl
  m19 := by kernel_rfl
  c0 := by kernel_rfl
  c2 := by kernel_rfl
  c3 := by kernel_rfl
  c4 := by kernel_rfl
  c5 := by kernel_rfl
  c9 := by kernel_rfl
  c20 := by kernel_rfl
  c21 := by kernel_rfl
  c37 := by kernel_rfl
  c46 := by kernel_rfl
  c51 := by kernel_rfl
  c53 := by kernel_rfl
  c75 := by kernel_rfl
  c76 := by kernel_rfl
  c80 := by kernel_rfl
  c85 := by kernel_rfl
  c127 := by kernel_rfl
  c143 := by kernel_rfl
  c145 := by kernel_rfl
  c167 := by kernel_rfl
  c168 := by kernel_rfl
  c171 := by kernel_rfl
  c173 := by kernel_rfl
  c175 := by kernel_rfl
  c210 := by kernel_rfl
  c212 := by kernel_rfl
  c213 := by kernel_rfl
  c232 := by kernel_rfl
  c233 := by kernel_rfl }
open Go.RowKit in
theorem Tryz.strconv_Atoi_ok (s : ByteArray) (hmax : s.size ≤ 9223372036854775806) (v : Int) (h : Lib.atoiAll s.data.toList = .ok v) (w : World) :
    Calls Tryz.prog 85 #[.string s] w fun e w' => e = .returned (.tuple #[.int .i64 v, .nilIface]) ∧ (w' = w ∨ ∃ t, w' = Lib.bytesWorld w 5 t) := Any.strconv_Atoi_ok Tryz.laysC172 s hmax v h w
open Go.RowKit in
open Go.RowKit in
open Go.RowKit in
theorem Tryz.strconv_Atoi_syntax_var (s : ByteArray) (hlim : s.size ≤ 281474976710656) (h : Lib.atoiAll s.data.toList = Lib.atoiAll []) (tp : TypeId) (p : Value) (w : World) (hvar : w.var? Tryz.prog "strconv.ErrSyntax" = some #[.iface tp p]) :
    Calls Tryz.prog 85 #[.string s] w fun e w' => ∃ N, e = .returned (.tuple #[.int .i64 0, .iface 179 (.pointer (some ⟨N, 0, none⟩))]) ∧ w.heap.size ≤ N ∧ w'.heap[N]? = some (.cells #[.string ⟨#[65, 116, 111, 105]⟩, .string s, .iface tp p] 201 (0, 0)) ∧ Below w.heap.size w w' := Any.strconv_Atoi_syntax_var Tryz.laysC172 s hlim h tp p w hvar
open Go.RowKit in
theorem Tryz.strconv_Atoi_range_var (s : ByteArray) (hlim : s.size ≤ 281474976710656) (h : Lib.atoiAll s.data.toList = .range) (tp : TypeId) (p : Value) (w : World) (hvar : w.var? Tryz.prog "strconv.ErrRange" = some #[.iface tp p]) :
    Calls Tryz.prog 85 #[.string s] w fun e w' => ∃ N, e = .returned (.tuple #[.int .i64 (Lib.atoiSat s.data.toList), .iface 179 (.pointer (some ⟨N, 0, none⟩))]) ∧ w.heap.size ≤ N ∧ w'.heap[N]? = some (.cells #[.string ⟨#[65, 116, 111, 105]⟩, .string s, .iface tp p] 201 (0, 0)) ∧ Below w.heap.size w w' := Any.strconv_Atoi_range_var Tryz.laysC172 s hlim h tp p w hvar
open Go.RowKit Go.Lib in
open Go.RowKit Go.Lib in
open Go.RowKit Go.Lib in
open Go.RowKit Go.Lib in
open Go.RowKit Go.Lib in
open Go.RowKit Go.Lib in
open Go.RowKit Go.Lib in
open Go.RowKit Go.Lib in
open Go.RowKit Go.Lib in
open Go.RowKit Go.Lib in
open Go.RowKit Go.Lib in
open Go.RowKit Go.Lib in
open Go.RowKit Go.Lib in
open Go.RowKit Go.Lib in
def Tryz.lays99_ren : Go.Shelf.Ren := ⟨fun | 99 => 47 | 206 => 84 | n => n, fun | 9 => 9 | 4 => 4 | 3 => 3 | n => n, fun | n => n⟩
theorem Tryz.lays99 : Go.Proofs.Lays.n99 Tryz.prog Tryz.lays99_ren := {
  mixed := by kernel_rfl
  f99 := Tryz.func47.trans (congrArg some (by kernel_rfl))
  f206 := Tryz.func84.trans (congrArg some (by kernel_rfl))
  t3 := Tryz.underlying3
  a3 := Tryz.isAgg3
  z3 := Tryz.sizeOf3
  v3 := Tryz.zeroValue3
  t4 := Tryz.underlying4
  a4 := Tryz.isAgg4
  z4 := Tryz.sizeOf4
  v4 := Tryz.zeroValue4
  t9 := Tryz.underlying9
  a9 := Tryz.isAgg9
  z9 := Tryz.sizeOf9
  v9 := Tryz.zeroValue9 }
open Go.RowKit Go.Lib in
theorem Tryz.strings_HasPrefix (s p : ByteArray) (w : World) :
    Calls Tryz.prog 47 #[.string s, .string p] w fun e w' => e = .returned (.bool (Lib.hasPrefix s.data.toList p.data.toList)) ∧ w' = w := Any.strings_HasPrefix Tryz.lays99 s p w
open Go.RowKit Go.Lib in
def Tryz.lays101_ren : Go.Shelf.Ren := ⟨fun | 101 => 94 | 208 => 125 | 206 => 84 | n => n, fun | 9 => 9 | 4 => 4 | 3 => 3 | n => n, fun | n => n⟩
theorem Tryz.lays101 : Go.Proofs.Lays.n101 Tryz.prog Tryz.lays101_ren := {
  mixed := by kernel_rfl
  f101 := Tryz.func94.trans (congrArg some (by kernel_rfl))
  f206 := Tryz.func84.trans (congrArg some (by kernel_rfl))
  f208 := Tryz.func125.trans (congrArg some (by kernel_rfl))
  t3 := Tryz.underlying3
  a3 := Tryz.isAgg3
  z3 := Tryz.sizeOf3
  v3 := Tryz.zeroValue3
  t4 := Tryz.underlying4
  a4 := Tryz.isAgg4
  z4 := Tryz.sizeOf4
  v4 := Tryz.zeroValue4
  t9 := Tryz.underlying9
  a9 := Tryz.isAgg9
  z9 := Tryz.sizeOf9
  v9 := Tryz.zeroValue9 }
open Go.RowKit Go.Lib in
theorem Tryz.strings_TrimPrefix (s p : ByteArray) (w : World) :
    Calls Tryz.prog 94 #[.string s, .string p] w fun e w' => e = .returned (.string ⟨(Lib.trimPrefix s.data.toList p.data.toList).toArray⟩) ∧ w' = w := Any.strings_TrimPrefix Tryz.lays101 s p w
open Go.RowKit Go.Lib in
def Tryz.lays157_ren : Go.Shelf.Ren := ⟨fun | 157 => 53 | 229 => 29 | 199 => 97 | 261 => 129 | 311 => 141 | 312 => 142 | n => n, fun | 9 => 9 | 31 => 49 | 3 => 3 | 5 => 5 | 4 => 4 | 119 => 148 | 0 => 0 | 40 => 51 | 152 => 89 | 21 => 21 | 154 => 91 | 51 => 167 | 141 => 169 | 196 => 186 | 193 => 183 | 198 => 189 | 49 => 187 | 194 => 184 | 201 => 192 | 226 => 208 | 46 => 166 | 227 => 209 | n => n, fun | 0 => 3 | 6 => 4 | n => n⟩
theorem Tryz.lays157 : Go.Proofs.Lays.n157 Tryz.prog Tryz.lays157_ren := {
  mixed := by kernel_rfl
  f157 := Tryz.func53.trans (congrArg some (by kernel_rfl))
  f199 := Tryz.func97.trans (congrArg some (by kernel_rfl))
  f229 := Tryz.func29.trans (congrArg some (by kernel_rfl))
  f261 := Tryz.func129.trans (congrArg some (by kernel_rfl))
  f311 := Tryz.func141.trans (congrArg some (by kernel_rfl))
  f312 := Tryz.func142.trans (congrArg some (by kernel_rfl))
  t0 := Tryz.underlying0
  a0 := Tryz.isAgg0
  z0 := Tryz.sizeOf0
  v0 := Tryz.zeroValue0
  t3 := Tryz.underlying3
  a3 := Tryz.isAgg3
  z3 := Tryz.sizeOf3
  v3 := Tryz.zeroValue3
  t4 := Tryz.underlying4
  a4 := Tryz.isAgg4
  z4 := Tryz.sizeOf4
  v4 := Tryz.zeroValue4
  t5 := Tryz.underlying5
  a5 := Tryz.isAgg5
  z5 := Tryz.sizeOf5
  v5 := Tryz.zeroValue5
  t9 := Tryz.underlying9
  a9 := Tryz.isAgg9
  z9 := Tryz.sizeOf9
  v9 := Tryz.zeroValue9
  t21 := Tryz.underlying21
  a21 := Tryz.isAgg21
  z21 := Tryz.sizeOf21
  v21 := Tryz.zeroValue21
  t31 := Tryz.underlying49
  a31 := Tryz.isAgg49
  z31 := Tryz.sizeOf49
  v31 := Tryz.zeroValue49
  t40 := Tryz.underlying51
  a40 := Tryz.isAgg51
  z40 := Tryz.sizeOf51
  v40 := Tryz.zeroValue51
  t46 := Tryz.underlying166
  a46 := Tryz.isAgg166
  z46 := Tryz.sizeOf166
  v46 := Tryz.zeroValue166
  t49 := Tryz.underlying187
  a49 := Tryz.isAgg187
  z49 := Tryz.sizeOf187
  v49 := Tryz.zeroValue187
  t51 := Tryz.underlying167
  a51 := Tryz.isAgg167
  z51 := Tryz.sizeOf167
  v51 := Tryz.zeroValue167
  t119 := Tryz.underlying148
  a119 := Tryz.isAgg148
  z119 := Tryz.sizeOf148
  t141 := Tryz.underlying169
  a141 := Tryz.isAgg169
  z141 := Tryz.sizeOf169
  v141 := Tryz.zeroValue169
  t152 := Tryz.underlying89
  a152 := Tryz.isAgg89
  z152 := Tryz.sizeOf89
  v152 := Tryz.zeroValue89
  t154 := Tryz.underlying91
  a154 := Tryz.isAgg91
  z154 := Tryz.sizeOf91
  v154 := Tryz.zeroValue91
  t193 := Tryz.underlying183
  a193 := Tryz.isAgg183
  z193 := Tryz.sizeOf183
  v193 := Tryz.zeroValue183
  t194 := Tryz.underlying184
  a194 := Tryz.isAgg184
  z194 := Tryz.sizeOf184
  v194 := Tryz.zeroValue184
  t196 := Tryz.underlying186
  a196 := Tryz.isAgg186
  z196 := Tryz.sizeOf186
  v196 := Tryz.zeroValue186
  t198 := Tryz.underlying189
  a198 := Tryz.isAgg189
  z198 := Tryz.sizeOf189
  v198 := Tryz.zeroValue189
  t201 := Tryz.underlying192
  a201 := Tryz.isAgg192
  z201 := Tryz.sizeOf192
  v201 := Tryz.zeroValue192
  t226 := Tryz.underlying208
  a226 := Tryz.isAgg208
  z226 := Tryz.sizeOf208
  v226 := Tryz.zeroValue208
  t227 := Tryz.underlying209
  a227 := Tryz.isAgg209
  z227 := Tryz.sizeOf209
  v227 := Tryz.zeroValue209
  g0 := by kernel_rfl
  g6 := by kernel_rfl }
open Go.RowKit Go.Lib in
theorem Tryz.strings_Fields (s : ByteArray) (w : World) (hs : s.size < 4294967281) (hascii : ∀ (j : Nat) b, s.data.toList[j]? = some b → b.toNat < 128) (htab : Lib.TabIs Tryz.prog w "strings.asciiSpace" .u8 Lib.asciiSpaceTab) :
    Calls Tryz.prog 53 #[.string s] w fun e w' =>
      e = .returned (.slice (some ⟨w.heap.size, 0, none⟩) (Lib.fields s.data.toList).length (Lib.fields s.data.toList).length) ∧ w' = w.alloc (.cells ((Lib.fields s.data.toList).map fun l => Value.string ⟨l.toArray⟩).toArray 9) := Any.strings_Fields Tryz.lays157 (by kernel_rfl) (by kernel_rfl) s w hs hascii htab
open Go.RowKit Go.Lib in
open Go.RowKit Go.Lib in
open Go.RowKit Go.Lib in
open Go.RowKit Go.Lib in
def Tryz.lays155_ren : Go.Shelf.Ren := ⟨fun | 155 => 28 | 154 => 45 | 138 => 78 | 165 => 79 | 143 => 80 | 166 => 81 | 197 => 82 | 169 => 83 | 195 => 111 | 218 => 112 | 240 => 113 | 241 => 114 | 219 => 115 | 260 => 116 | 276 => 130 | 277 => 131 | 217 => 132 | 225 => 124 | 224 => 123 | 267 => 133 | 266 => 143 | 314 => 144 | n => n, fun | 9 => 9 | 3 => 3 | 4 => 4 | 72 => 128 | 0 => 0 | 76 => 132 | 105 => 134 | 21 => 21 | 5 => 5 | 70 => 125 | 20 => 20 | 37 => 126 | 75 => 131 | 127 => 163 | 164 => 170 | 46 => 166 | 119 => 148 | 139 => 175 | 138 => 174 | 146 => 194 | 51 => 167 | 80 => 92 | n => n, fun | 1 => 5 | 3 => 6 | 4 => 7 | n => n⟩
theorem Tryz.lays155 : Go.Proofs.Lays.n155 Tryz.prog Tryz.lays155_ren := {
  mixed := by kernel_rfl
  f138 := Tryz.func78.trans (congrArg some (by kernel_rfl))
  f143 := Tryz.func80.trans (congrArg some (by kernel_rfl))
  f154 := Tryz.func45.trans (congrArg some (by kernel_rfl))
  f155 := Tryz.func28.trans (congrArg some (by kernel_rfl))
  f165 := Tryz.func79.trans (congrArg some (by kernel_rfl))
  f166 := Tryz.func81.trans (congrArg some (by kernel_rfl))
  f169 := Tryz.func83.trans (congrArg some (by kernel_rfl))
  f195 := Tryz.func111.trans (congrArg some (by kernel_rfl))
  f197 := Tryz.func82.trans (congrArg some (by kernel_rfl))
  f217 := Tryz.func132.trans (congrArg some (by kernel_rfl))
  f218 := Tryz.func112.trans (congrArg some (by kernel_rfl))
  f219 := Tryz.func115.trans (congrArg some (by kernel_rfl))
  f224 := Tryz.func123.trans (congrArg some (by kernel_rfl))
  f225 := Tryz.func124.trans (congrArg some (by kernel_rfl))
  f240 := Tryz.func113.trans (congrArg some (by kernel_rfl))
  f241 := Tryz.func114.trans (congrArg some (by kernel_rfl))
  f260 := Tryz.func116.trans (congrArg some (by kernel_rfl))
  f266 := Tryz.func143.trans (congrArg some (by kernel_rfl))
  f267 := Tryz.func133.trans (congrArg some (by kernel_rfl))
  f276 := Tryz.func130.trans (congrArg some (by kernel_rfl))
  f277 := Tryz.func131.trans (congrArg some (by kernel_rfl))
  f314 := Tryz.func144.trans (congrArg some (by kernel_rfl))
  t0 := Tryz.underlying0
  a0 := Tryz.isAgg0
  z0 := Tryz.sizeOf0
  v0 := Tryz.zeroValue0
  t3 := Tryz.underlying3
  a3 := Tryz.isAgg3
  z3 := Tryz.sizeOf3
  v3 := Tryz.zeroValue3
  t4 := Tryz.underlying4
  a4 := Tryz.isAgg4
  z4 := Tryz.sizeOf4
  v4 := Tryz.zeroValue4
  t5 := Tryz.underlying5
  a5 := Tryz.isAgg5
  z5 := Tryz.sizeOf5
  v5 := Tryz.zeroValue5
  t9 := Tryz.underlying9
  a9 := Tryz.isAgg9
  z9 := Tryz.sizeOf9
  v9 := Tryz.zeroValue9
  t20 := Tryz.underlying20
  a20 := Tryz.isAgg20
  z20 := Tryz.sizeOf20
  v20 := Tryz.zeroValue20
  t21 := Tryz.underlying21
  a21 := Tryz.isAgg21
  z21 := Tryz.sizeOf21
  v21 := Tryz.zeroValue21
  t37 := Tryz.underlying126
  a37 := Tryz.isAgg126
  z37 := Tryz.sizeOf126
  v37 := Tryz.zeroValue126
  t46 := Tryz.underlying166
  a46 := Tryz.isAgg166
  z46 := Tryz.sizeOf166
  v46 := Tryz.zeroValue166
  t51 := Tryz.underlying167
  a51 := Tryz.isAgg167
  z51 := Tryz.sizeOf167
  v51 := Tryz.zeroValue167
  t70 := Tryz.underlying125
  a70 := Tryz.isAgg125
  z70 := Tryz.sizeOf125
  v70 := Tryz.zeroValue125
  t72 := Tryz.underlying128
  a72 := Tryz.isAgg128
  z72 := Tryz.sizeOf128
  v72 := Tryz.zeroValue128
  t75 := Tryz.underlying131
  a75 := Tryz.isAgg131
  z75 := Tryz.sizeOf131
  v75 := Tryz.zeroValue131
  t76 := Tryz.underlying132
  a76 := Tryz.isAgg132
  z76 := Tryz.sizeOf132
  v76 := Tryz.zeroValue132
  t105 := Tryz.underlying134
  a105 := Tryz.isAgg134
  z105 := Tryz.sizeOf134
  v105 := Tryz.zeroValue134
  t119 := Tryz.underlying148
  a119 := Tryz.isAgg148
  z119 := Tryz.sizeOf148
  t127 := Tryz.underlying163
  a127 := Tryz.isAgg163
  z127 := Tryz.sizeOf163
  v127 := Tryz.zeroValue163
  t138 := Tryz.underlying174
  a138 := Tryz.isAgg174
  z138 := Tryz.sizeOf174
  v138 := Tryz.zeroValue174
  t139 := Tryz.underlying175
  a139 := Tryz.isAgg175
  z139 := Tryz.sizeOf175
  v139 := Tryz.zeroValue175
  t146 := Tryz.underlying194
  a146 := Tryz.isAgg194
  z146 := Tryz.sizeOf194
  v146 := Tryz.zeroValue194
  t164 := Tryz.underlying170
  a164 := Tryz.isAgg170
  z164 := Tryz.sizeOf170
  v164 := Tryz.zeroValue170
  g1 := by kernel_rfl
  g3 := by kernel_rfl
  g4 := by kernel_rfl }
theorem Tryz.Builder_Extra_155 : Builder.Extra Tryz.prog Tryz.lays155_ren := {
  sizeBuilder := by kernel_rfl
  liesBuilder := by kernel_rfl
  t5 := Tryz.underlying5
  a5 := Tryz.isAgg5
  z5 := Tryz.sizeOf5
  v5 := Tryz.zeroValue5
  infoByte := by kernel_rfl
  cellsByte := by kernel_rfl
  sizeByte := by kernel_rfl
  neB5 := by decide }
open Go.RowKit Go.Lib in
theorem Tryz.strings_ReplaceAll (s old new : ByteArray) (m : Int) (w : World) (hs : s.size < 4294967281) (hm : w.cell? ⟨5, 0, none⟩ = some (.int .i64 m)) (h1 : 1 ≤ old.size) (hlen : s.size + Lib.countB s old * new.size ≤ 140737488355328) :
    Calls Tryz.prog 28 #[.string s, .string old, .string new] w fun e w' =>
      e = .returned (.string ⟨(Lib.replaceAll s.data.toList old.data.toList new.data.toList).toArray⟩) ∧ Below w.heap.size w w' := Any.strings_ReplaceAll Tryz.lays155 Tryz.Builder_Extra_155 s old new m w hs hm h1 hlen
open Go.RowKit Go.Lib in
def Tryz.lays152_ren : Go.Shelf.Ren := ⟨fun | 152 => 91 | 137 => 121 | 119 => 122 | 224 => 123 | 225 => 124 | 217 => 132 | 266 => 143 | n => n, fun | 9 => 9 | 21 => 21 | 3 => 3 | 4 => 4 | 5 => 5 | 0 => 0 | 46 => 166 | n => n, fun | n => n⟩
theorem Tryz.lays152 : Go.Proofs.Lays.n152 Tryz.prog Tryz.lays152_ren := {
  mixed := by kernel_rfl
  f119 := Tryz.func122.trans (congrArg some (by kernel_rfl))
  f137 := Tryz.func121.trans (congrArg some (by kernel_rfl))
  f152 := Tryz.func91.trans (congrArg some (by kernel_rfl))
  f217 := Tryz.func132.trans (congrArg some (by kernel_rfl))
  f224 := Tryz.func123.trans (congrArg some (by kernel_rfl))
  f225 := Tryz.func124.trans (congrArg some (by kernel_rfl))
  f266 := Tryz.func143.trans (congrArg some (by kernel_rfl))
  t0 := Tryz.underlying0
  a0 := Tryz.isAgg0
  z0 := Tryz.sizeOf0
  v0 := Tryz.zeroValue0
  t3 := Tryz.underlying3
  a3 := Tryz.isAgg3
  z3 := Tryz.sizeOf3
  v3 := Tryz.zeroValue3
  t4 := Tryz.underlying4
  a4 := Tryz.isAgg4
  z4 := Tryz.sizeOf4
  v4 := Tryz.zeroValue4
  t5 := Tryz.underlying5
  a5 := Tryz.isAgg5
  z5 := Tryz.sizeOf5
  v5 := Tryz.zeroValue5
  t9 := Tryz.underlying9
  a9 := Tryz.isAgg9
  z9 := Tryz.sizeOf9
  v9 := Tryz.zeroValue9
  t21 := Tryz.underlying21
  a21 := Tryz.isAgg21
  z21 := Tryz.sizeOf21
  v21 := Tryz.zeroValue21
  t46 := Tryz.underlying166
  a46 := Tryz.isAgg166
  z46 := Tryz.sizeOf166
  v46 := Tryz.zeroValue166 }
open Go.RowKit Go.Lib in
theorem Tryz.strings_IndexRune_ascii (s : ByteArray) (r : Int) (w : World) (h0 : 0 ≤ r) (h1 : r < 128) :
    Calls Tryz.prog 91 #[.string s, .int .i32 r] w fun e w' => e = .returned (.int .i64 (Lib.indexByte s.data.toList r.toNat.toUInt8)) ∧ w' = w := Any.strings_IndexRune_ascii Tryz.lays152 s r w h0 h1
open Go.RowKit Go.Lib in
def Tryz.lays226_ren : Go.Shelf.Ren := ⟨fun | 226 => 92 | n => n, fun | 3 => 3 | 4 => 4 | n => n, fun | n => n⟩
theorem Tryz.lays226 : Go.Proofs.Lays.n226 Tryz.prog Tryz.lays226_ren := {
  mixed := by kernel_rfl
  f226 := Tryz.func92.trans (congrArg some (by kernel_rfl))
  t3 := Tryz.underlying3
  a3 := Tryz.isAgg3
  z3 := Tryz.sizeOf3
  v3 := Tryz.zeroValue3
  t4 := Tryz.underlying4
  a4 := Tryz.isAgg4
  z4 := Tryz.sizeOf4
  v4 := Tryz.zeroValue4 }
open Go.RowKit Go.Lib in
theorem Tryz.strings_shouldUseASCIISet (n : Int) (w : World) :
    Calls Tryz.prog 92 #[.int .i64 n] w fun e w' => e = .returned (.bool (decide (8 < n))) ∧ w' = w := Any.strings_shouldUseASCIISet Tryz.lays226 n w
def Tryz.lays153_ren : Go.Shelf.Ren := ⟨fun | 153 => 51 | 152 => 91 | 226 => 92 | 227 => 88 | 228 => 93 | 137 => 121 | 119 => 122 | 224 => 123 | 225 => 124 | 217 => 132 | 266 => 143 | n => n, fun | 9 => 9 | 3 => 3 | 4 => 4 | 5 => 5 | 21 => 21 | 117 => 141 | 116 => 140 | 0 => 0 | 46 => 166 | 124 => 144 | n => n, fun | n => n⟩
theorem Tryz.lays153 : Go.Proofs.Lays.n153 Tryz.prog Tryz.lays153_ren := {
  mixed := by kernel_rfl
  f119 := Tryz.func122.trans (congrArg some (by kernel_rfl))
  f137 := Tryz.func121.trans (congrArg some (by kernel_rfl))
  f152 := Tryz.func91.trans (congrArg some (by kernel_rfl))
  f153 := Tryz.func51.trans (congrArg some (by kernel_rfl))
  f217 := Tryz.func132.trans (congrArg some (by kernel_rfl))
  f224 := Tryz.func123.trans (congrArg some (by kernel_rfl))
  f225 := Tryz.func124.trans (congrArg some (by kernel_rfl))
  f226 := Tryz.func92.trans (congrArg some (by kernel_rfl))
  f227 := Tryz.func88.trans (congrArg some (by kernel_rfl))
  f228 := Tryz.func93.trans (congrArg some (by kernel_rfl))
  f266 := Tryz.func143.trans (congrArg some (by kernel_rfl))
  t0 := Tryz.underlying0
  a0 := Tryz.isAgg0
  z0 := Tryz.sizeOf0
  v0 := Tryz.zeroValue0
  t3 := Tryz.underlying3
  a3 := Tryz.isAgg3
  z3 := Tryz.sizeOf3
  v3 := Tryz.zeroValue3
  t4 := Tryz.underlying4
  a4 := Tryz.isAgg4
  z4 := Tryz.sizeOf4
  v4 := Tryz.zeroValue4
  t5 := Tryz.underlying5
  a5 := Tryz.isAgg5
  z5 := Tryz.sizeOf5
  v5 := Tryz.zeroValue5
  t9 := Tryz.underlying9
  a9 := Tryz.isAgg9
  z9 := Tryz.sizeOf9
  v9 := Tryz.zeroValue9
  t21 := Tryz.underlying21
  a21 := Tryz.isAgg21
  z21 := Tryz.sizeOf21
  v21 := Tryz.zeroValue21
  t46 := Tryz.underlying166
  a46 := Tryz.isAgg166
  z46 := Tryz.sizeOf166
  v46 := Tryz.zeroValue166
  t116 := Tryz.underlying140
  a116 := Tryz.isAgg140
  z116 := Tryz.sizeOf140
  t117 := Tryz.underlying141
  a117 := Tryz.isAgg141
  z117 := Tryz.sizeOf141
  v117 := Tryz.zeroValue141
  t124 := Tryz.underlying144
  a124 := Tryz.isAgg144
  z124 := Tryz.sizeOf144
  v124 := Tryz.zeroValue144 }
open Go.RowKit Go.Lib in
open Go.RowKit Go.Lib in
open Go.RowKit Go.Lib in
open Go.RowKit Go.Lib in
open Go.RowKit Go.Lib in
open Go.RowKit Go.Lib in
theorem Tryz.strings_IndexAny_long (hv116 : ∀ w, (zeroValue 140).run Tryz.prog w = .ok (.agg (Array.replicate 256 (.bool false))) w) (s chars : ByteArray) (w : World) (h2 : 2 ≤ chars.size) (h8 : 8 < s.size) (hs : s.size < 4294967281) (hcs : chars.size < 4294967281) (hascii : ∀ (j : Nat) b, chars.data.toList[j]? = some b → b.toNat < 128) :
    Calls Tryz.prog 51 #[.string s, .string chars] w fun e w' => e = .returned (.int .i64 (Lib.indexAny s.data.toList chars.data.toList)) ∧ w' = ((w.alloc (.cells (Lib.setCells chars.data.toList) 140)).alloc (.cells (Lib.setCells chars.data.toList) 140)) := Any.strings_IndexAny_long Tryz.lays153 hv116 (by kernel_rfl) s chars w h2 h8 hs hcs hascii
open Go.RowKit Go.Lib in
open Go.RowKit Go.Lib in
open Go.RowKit Go.Lib in
open Go.RowKit Go.Lib in
open Go.RowKit Go.Lib in
open Go.RowKit Go.Lib in
open Go.RowKit Go.Lib in
open Go.RowKit Go.Lib in
open Go.RowKit Go.Lib in
open Go.RowKit Go.Lib in
open Go.RowKit Go.Lib in
open Go.RowKit Go.Lib in
open Go.RowKit Go.Lib in
def Tryz.lays229_ren : Go.Shelf.Ren := ⟨fun | 229 => 29 | n => n, fun | 9 => 9 | 40 => 51 | 31 => 49 | 152 => 89 | 3 => 3 | 0 => 0 | 4 => 4 | 21 => 21 | 154 => 91 | n => n, fun | n => n⟩
theorem Tryz.lays229 : Go.Proofs.Lays.n229 Tryz.prog Tryz.lays229_ren := {
  mixed := by kernel_rfl
  f229 := Tryz.func29.trans (congrArg some (by kernel_rfl))
  t0 := Tryz.underlying0
  a0 := Tryz.isAgg0
  z0 := Tryz.sizeOf0
  v0 := Tryz.zeroValue0
  t3 := Tryz.underlying3
  a3 := Tryz.isAgg3
  z3 := Tryz.sizeOf3
  v3 := Tryz.zeroValue3
  t4 := Tryz.underlying4
  a4 := Tryz.isAgg4
  z4 := Tryz.sizeOf4
  v4 := Tryz.zeroValue4
  t9 := Tryz.underlying9
  a9 := Tryz.isAgg9
  z9 := Tryz.sizeOf9
  v9 := Tryz.zeroValue9
  t21 := Tryz.underlying21
  a21 := Tryz.isAgg21
  z21 := Tryz.sizeOf21
  v21 := Tryz.zeroValue21
  t31 := Tryz.underlying49
  a31 := Tryz.isAgg49
  z31 := Tryz.sizeOf49
  v31 := Tryz.zeroValue49
  t40 := Tryz.underlying51
  a40 := Tryz.isAgg51
  z40 := Tryz.sizeOf51
  v40 := Tryz.zeroValue51
  t152 := Tryz.underlying89
  a152 := Tryz.isAgg89
  z152 := Tryz.sizeOf89
  v152 := Tryz.zeroValue89
  t154 := Tryz.underlying91
  a154 := Tryz.isAgg91
  z154 := Tryz.sizeOf91
  v154 := Tryz.zeroValue91 }
open Go.RowKit Go.Lib in
open Go.RowKit Go.Lib in
open Go.RowKit Go.Lib in
open Go.RowKit Go.Lib in
open Go.RowKit Go.Lib in
open Go.RowKit Go.Lib in
theorem Tryz.strings_FieldsFunc_grows (g : Nat) (lb : Array Value) (eg : ∀ args w, (callFunc g args).run Tryz.prog w = .ok (.enter g args) w) (p : Nat → Bool) (s : ByteArray) (w : World) (hs : s.size ≤ 4294967296) (hp : PredGrows Tryz.prog g lb p w) :
    Calls Tryz.prog 29 #[.string s, .func (.func g) #[] lb] w fun e w' => ∃ A, e = .returned (.slice (some ⟨A, 0, none⟩) (Lib.goFieldsP p s).length (Lib.goFieldsP p s).length) ∧ w.heap.size ≤ A ∧
      w'.ownsRow w.heap.size 9 1 (.slice (some ⟨A, 0, none⟩) (Lib.goFieldsP p s).length (Lib.goFieldsP p s).length) (Lib.goFieldsP p s).length ((Lib.goFieldsP p s).map Value.string) ∧ Below w.heap.size w w' := Any.strings_FieldsFunc_grows Tryz.lays229 g lb eg p s w hs hp (by kernel_rfl) (by kernel_rfl)
end Go.Proofs
namespace Go.Proofs.YtnflnbdlgdjfmabGreatDoor
open Go.RowKit
section
variable {F : Nat → Prop} {ρ : Nat → Lc} {w w' : World}
theorem ldL (H : HRel F ρ (ofL []) w) (hb : Below w.heap.size w w') (G : Nat → Prop) (hG : ∀ k, G k → w.heap.size ≤ k ∧ k < w'.heap.size) : Moves (namesL []) F ρ (ofL []) w (fun k => F k ∨ G k) ρ (ofL []) w' where
  sub := fun k h => .inl h
  same := fun k h => hb.block k (H.lt k h)
  stb := fun b h => absurd rfl h
  stbd := fun b h => by cases h
  heap := ⟨fun b x h => (by cases h), fun b b' g h => absurd rfl h, fun b g h => absurd rfl h, fun k h => by
      rcases h with h | h
      · exact Nat.lt_of_lt_of_le (H.lt k h) hb.size
      · exact (hG k h).2, fun b x h => (by cases h), fun g c h => lbC (fun k h => .inl h) (fun k h => hb.block k (H.lt k h)) (H.gl g c h), fun g p h => ⟨.inl (H.gx g p h).1, by rw [hb.block g (H.lt g (H.gx g p h).1)]; exact (H.gx g p h).2⟩⟩
  le := fun b x h => by cases h
  own := fun b g h => absurd rfl h
  Fnew := fun k h => by
    rcases h with h | h
    · exact .inl h
    · exact .inr (.inl (hG k h).1)
  os := hb.os
  tape := hb.tape
  output := hb.output
  size := hb.size
  kept := fun k hk _ => hb.block k hk
end
theorem lbp {P : Program} {f : FuncId} {args : List U} {r : U} (hcan : canCall P f = true)
    (h : ∀ (F : Nat → Prop) (ρ : Nat → Lc) (w : World) (vals : List Value), HRel F ρ (ofL []) w → All2 (fun u v => relU F ρ w u v ∧ okU (ofL []) u) args vals →
      Calls P f vals.toArray w fun e w' => ∃ (v : Value) (G : Nat → Prop), e = .returned v ∧ Below w.heap.size w w' ∧ (∀ k, G k → w.heap.size ≤ k ∧ k < w'.heap.size) ∧ relU (fun k => F k ∨ G k) ρ w' r v)
    (hok : okU (ofL []) r) : ACalls P f args [] r [] :=
  ⟨hcan, fun F ρ w vals H ha => (h F ρ w vals H ha).mono fun e w' ⟨v, G, he, hb, hG, hr⟩ => ⟨v, _, ρ, he, ldL H hb G hG, hr, hok⟩⟩
theorem args2 {F : Nat → Prop} {ρ : Nat → Lc} {w : World} {a b : C} {vals : List Value} (h : All2 (fun u v => relU F ρ w u v ∧ okU (ofL []) u) [.one a, .one b] vals) : ∃ x y, vals = [x, y] ∧ relC F ρ w a x ∧ relC F ρ w b y := by
  match vals, h with
  | [x, y], ⟨⟨h1, _⟩, ⟨h2, _⟩, _⟩ => exact ⟨x, y, rfl, h1, h2⟩
theorem args1 {F : Nat → Prop} {ρ : Nat → Lc} {w : World} {a : C} {vals : List Value} (h : All2 (fun u v => relU F ρ w u v ∧ okU (ofL []) u) [.one a] vals) : ∃ x, vals = [x] ∧ relC F ρ w a x := by
  match vals, h with
  | [x], ⟨⟨h1, _⟩, _⟩ => exact ⟨x, rfl, h1⟩
theorem args3 {F : Nat → Prop} {ρ : Nat → Lc} {w : World} {a b c : C} {vals : List Value} (h : All2 (fun u v => relU F ρ w u v ∧ okU (ofL []) u) [.one a, .one b, .one c] vals) : ∃ x y z, vals = [x, y, z] ∧ relC F ρ w a x ∧ relC F ρ w b y ∧ relC F ρ w c z := by
  match vals, h with
  | [x, y, z], ⟨⟨h1, _⟩, ⟨h2, _⟩, ⟨h3, _⟩, _⟩ => exact ⟨x, y, z, rfl, h1, h2, h3⟩
def noG : Nat → Prop := fun _ => False
end Go.Proofs.YtnflnbdlgdjfmabGreatDoor
namespace Go.Proofs.YtnflnbdlgdjfmabGreatDoor
open Go.RowKit
theorem hasPrefix_a (s p : ByteArray) : ACalls Tryz.prog 47 [.one (.str s), .one (.str p)] [] (.one (.bool (Lib.hasPrefix s.data.toList p.data.toList))) [] :=
  lbp (by kernel_rfl) (fun F ρ w vals H ha => by
    obtain ⟨_, _, rfl, rfl, rfl⟩ := args2 ha
    exact (Tryz.strings_HasPrefix s p w).mono fun e w' ⟨he, hw⟩ => by
      subst hw; exact ⟨_, noG, he, Below.refl _ _, fun k h => h.elim, rfl⟩) trivial
theorem below_grow (w : World) (k : Nat) (os : Array Obj) : Below w.heap.size w (Sort.grow (w.drewN k) os) :=
  ⟨rfl, rfl, rfl, by simp [Sort.grow], fun i hi => by simp [Sort.grow, Array.getElem?_append_left hi]⟩
theorem gx_var {F : Nat → Prop} {ρ : Nat → Lc} {w : World} (H : HRel F ρ (ofL []) w) {g : Nat} {name : String} {p : Array Value → Prop} (hn : Tryz.prog.globalNamed name = some g) (hg : globX g = some p) : ∃ cs, w.var? Tryz.prog name = some cs ∧ p cs ∧ ∀ i v, cs[i]? = some v → w.cell? ⟨g, i, none⟩ = some v := by
  obtain ⟨_, cs, t, fz, hp, hh⟩ := H.gx g p hg
  have hv : w.var? Tryz.prog name = some cs := by unfold World.var?; rw [hn]; simp [hh]
  refine ⟨cs, hv, hp, fun i v hi => ?_⟩
  have := World.var?_cell hn hv i; rw [this]; exact hi
theorem nPow : Tryz.prog.globalNamed "internal/strconv.uint64pow10" = some 10 := by kernel_rfl
theorem nMax : Tryz.prog.globalNamed "internal/bytealg.MaxLen" = some 5 := by kernel_rfl
theorem nSyn : Tryz.prog.globalNamed "strconv.ErrSyntax" = some 8 := by kernel_rfl
theorem nRng : Tryz.prog.globalNamed "strconv.ErrRange" = some 9 := by kernel_rfl
theorem itoa_a (n : Int) (h0 : -9223372036854775808 ≤ n) (h1 : n ≤ 9223372036854775807) : ACalls Tryz.prog 86 [.one (.int .i64 n)] [] (.one (.str ⟨(Lib.itoa n).toArray⟩)) [] :=
  lbp (by kernel_rfl) (fun F ρ w vals H ha => by
    obtain ⟨_, rfl, rfl⟩ := args1 ha
    obtain ⟨cs, hv, rfl, _⟩ := gx_var H nPow rfl
    refine (Tryz.strconv_Itoa n h0 h1 w ?_).mono fun e w' ⟨he, k, os, hw⟩ => by
      subst hw; exact ⟨_, noG, he, below_grow w k os, fun k h => h.elim, rfl⟩
    unfold Lib.TabIs
    rw [hv, show pow10V = (Lib.pow10Tab.map fun z => Value.int .u64 z).toArray by simp [pow10V, Lib.pow10Tab, List.range, List.range.loop]]) trivial
def atoiU (s : ByteArray) : U :=
  match Lib.atoiAll s.data.toList with
  | .ok v => .tup [.one (.int .i64 v), .one .nilif]
  | _ => .tup [.one .any, .one .ifc]
theorem atoi_a (s : ByteArray) (hs : s.size ≤ 281474976710656) : ACalls Tryz.prog 85 [.one (.str s)] [] (atoiU s) [] :=
  lbp (by kernel_rfl) (fun F ρ w vals H ha => by
    obtain ⟨_, rfl, rfl⟩ := args1 ha
    unfold atoiU
    cases hA : Lib.atoiAll s.data.toList with
    | ok v =>
      exact (Tryz.strconv_Atoi_ok s (by omega) v hA w).mono fun e w' ⟨he, hw⟩ => by
        refine ⟨_, noG, he, ?_, fun k h => h.elim, [_, _], rfl, rfl, rfl, zo⟩
        rcases hw with rfl | ⟨t, rfl⟩
        · exact Below.refl _ _
        · exact Joins.below_bytesWorld _ _ _ _ (Nat.le_refl _)
    | range =>
      obtain ⟨cs, hv, ⟨t, x, rfl⟩, _⟩ := gx_var H nRng rfl
      exact (Tryz.strconv_Atoi_range_var s hs hA t x w hv).mono fun e w' ⟨N, he, _, _, hb⟩ => by
        exact ⟨_, noG, he, hb, fun k h => h.elim, [_, _], rfl, rfl, ⟨_, _, rfl⟩, zo⟩
    | _ =>
      obtain ⟨cs, hv, ⟨t, x, rfl⟩, _⟩ := gx_var H nSyn rfl
      exact (Tryz.strconv_Atoi_syntax_var s hs hA t x w hv).mono fun e w' ⟨N, he, _, _, hb⟩ => by
        exact ⟨_, noG, he, hb, fun k h => h.elim, [_, _], rfl, rfl, ⟨_, _, rfl⟩, zo⟩) (by
    unfold atoiU
    split <;> exact okU_of (by exact ⟨trivial, trivial, trivial⟩))
def replaceS (s old new : ByteArray) : ByteArray := ⟨(Lib.replaceAll s.data.toList old.data.toList new.data.toList).toArray⟩
theorem lfm (s old new : ByteArray) (hs : s.size < 4294967281) (h1 : 1 ≤ old.size) (hl : s.size + Lib.countB s old * new.size ≤ 140737488355328) : ACalls Tryz.prog 28 [.one (.str s), .one (.str old), .one (.str new)] [] (.one (.str (replaceS s old new))) [] :=
  lbp (by kernel_rfl) (fun F ρ w vals H ha => by
    obtain ⟨_, _, _, rfl, rfl, rfl, rfl⟩ := args3 ha
    obtain ⟨cs, hv, ⟨m, rfl⟩, hc⟩ := gx_var H nMax rfl
    exact (Tryz.strings_ReplaceAll s old new m w hs (hc 0 _ rfl) h1 hl).mono fun e w' ⟨he, hb⟩ => by
      exact ⟨_, noG, he, hb, fun k h => h.elim, rfl⟩) zo
def strRows (ws : List ByteArray) : List (List C) := ws.map fun s => [.str s]
theorem fields_a (g : FuncId) (p : Nat → Bool) (s : ByteArray) (hs : s.size ≤ 4294967296) (hcan : canCall Tryz.prog g = true)
    (eg : ∀ (args : Array Value) (w : World), (callFunc g args).run Tryz.prog w = .ok (.enter g args) w)
    (hp : ∀ x : Nat, x ≤ 1114111 → ACalls Tryz.prog g [.one (.int .i32 x)] [] (.one (.bool (p x))) []) : ACalls Tryz.prog 29 [.one (.str s), .one (.fn g)] [] (.one (slFOf 1 (strRows (Lib.goFieldsP p s)))) [] :=
  lbp (by kernel_rfl) (fun F ρ w vals H ha => by
    obtain ⟨_, _, rfl, rfl, rfl⟩ := args2 ha
    have hpg : PredGrows Tryz.prog g #[] p w := by
      intro W x hx hb
      have HW : HRel F ρ (ofL []) W := by
        have := (ldL H hb noG (fun k h => h.elim)).heap
        refine ⟨fun b x h => (by cases h), fun b b' g h => absurd rfl h, fun b g h => absurd rfl h, fun k h => this.lt k (.inl h), fun b x h => (by cases h), fun g c hg => ?_, fun g q hg => ?_⟩
        · exact lbC (fun k h => h) (fun k h => hb.block k (H.lt k h)) (H.gl g c hg)
        · exact ⟨(H.gx g q hg).1, by rw [hb.block g (H.lt g (H.gx g q hg).1)]; exact (H.gx g q hg).2⟩
      refine ((hp x hx).2 F ρ W [.int .i32 x] HW ⟨⟨rfl, zo⟩, zo⟩).mono fun e W' ⟨v, F', ρ', he, hM, hr, _⟩ => ?_
      have hr : v = .bool (p x) := hr
      subst hr
      exact ⟨he, hM.os, hM.tape, hM.output, hM.size, fun k hk => hM.kept k hk fun b hb => absurd rfl hb⟩
    refine (Tryz.strings_FieldsFunc_grows g #[] eg p s w hs hpg).mono fun e w' ⟨A, he, hA, ⟨hlen, hrow⟩, hb⟩ => ?_
    refine ⟨_, fun k => k = A ∧ k < w'.heap.size, he, hb, fun k h => ⟨by rw [h.1];exact hA, h.2⟩, ?_⟩
    have hn : (strRows (Lib.goFieldsP p s)).length = (Lib.goFieldsP p s).length := by simp [strRows]
    rcases hrow with ⟨h0, _⟩ | ⟨g', cap, cur, hv, _, hh, hc1, hc2, hcs, hct⟩
    · cases h0
    · simp only [Value.slice.injEq, Option.some.injEq, Addr.mk.injEq] at hv
      obtain ⟨⟨rfl, _, _⟩, _, rfl⟩ := hv
      refine ⟨_, by rw [hn], by rw [hn];exact hc2, fun i hi => ⟨A, 0, rfl, .inr ⟨rfl, (Array.getElem?_eq_some_iff.1 hh).1⟩, fun j hj => ?_⟩⟩
      obtain rfl : j = 0 := by omega
      rw [hn] at hi
      have hx : cur[i]? = some (.string (Lib.goFieldsP p s)[i]) := by
        have := congrArg (fun l => l[i]?) hct
        simp only [Nat.mul_one, List.getElem?_take, hi, if_true, List.getElem?_map, List.getElem?_eq_getElem hi, Option.map_some, Array.getElem?_toList] at this
        exact this
      refine ⟨.string (Lib.goFieldsP p s)[i], ?_, ?_⟩
      · unfold World.cell?
        simp only [hh, Nat.zero_add, Nat.mul_one, Nat.add_zero]
        exact hx
      · simp [rowF, strRows, hi, relK]) trivial
end Go.Proofs.YtnflnbdlgdjfmabGreatDoor
namespace Go.Proofs.YtnflnbdlgdjfmabGreatDoor
structure Rd where
  ws : List ByteArray
  bad : Bool
def Rd.c (r : Rd) : List C := [slOf 1 (strRows r.ws), .bool r.bad]
def sNil : ByteArray := ⟨#[]⟩
def sLp : ByteArray := ⟨#[40]⟩
def sRp : ByteArray := ⟨#[41]⟩
def sYes : ByteArray := ⟨#[121, 101, 115]⟩
def sNo : ByteArray := ⟨#[110, 111]⟩
def sHash : ByteArray := ⟨#[35]⟩
def Rd.fail (r : Rd) : Rd := ⟨r.ws, true⟩
def Rd.next (r : Rd) : ByteArray × Rd := match r.ws with | [] => (sNil, ⟨[], true⟩) | w :: ws => (w, ⟨ws, r.bad⟩)
def Rd.close (r : Rd) : Rd := ⟨r.next.2.ws, !sEq r.next.1 sRp || r.next.2.bad⟩
def kAt (s : ByteArray) (op : Bool) (i : Nat) : Bool := sEq (kindsL.getD i sNil) s && ((i == 3) == op)
def kFrom (s : ByteArray) (op : Bool) : Nat → Option Nat
  | 0 => none
  | n + 1 => if kAt s op (3 - n) then some (3 - n) else kFrom s op n
def wAt (s : ByteArray) (i : Nat) : Bool := !sEq (wordsL.getD i sNil) sNil && sEq (wordsL.getD i sNil) s
def wFrom (s : ByteArray) : Nat → Option Nat
  | 0 => none
  | n + 1 => if wAt s (9 - n) then some (9 - n) else wFrom s n
def readK : Nat → Rd → Ty × Rd
  | 0, r => (.any, (if sEq r.next.1 sLp then r.next.2.next else r.next).2.fail)
  | d + 1, r =>
    let op := sEq r.next.1 sLp
    let q := if op then r.next.2.next else r.next
    match kFrom q.1 op 4 with
    | none => (.any, q.2.fail)
    | some k => if op then (.mk k [(readK d q.2).1, (readK d (readK d q.2).2).1], (readK d (readK d q.2).2).2.close) else (.mk k [], q.2)
def numOf (s : ByteArray) : Option Int :=
  match Lib.atoiAll s.data.toList with
  | .ok v => if sEq ⟨(Lib.itoa v).toArray⟩ s then some v else none
  | _ => none
def Rd.number (r : Rd) (s : ByteArray) : Int × Rd := match numOf s with | some v => (v, r) | none => (0, r.fail)
def readN (f : Rd → Tm × Rd) : Nat → Rd → List Tm × Rd
  | 0, r => ([], r)
  | n + 1, r => ((f r).1 :: (readN f n (f r).2).1, (readN f n (f r).2).2)
def readB (f : Rd → Tm × Rd) (k : Nat) (r : Rd) : Tm × Rd :=
  let t := if (k : Int) == 7 || (k : Int) == 9 then readK 4 r else (.any, r)
  let l := readN f (arity k).toNat t.2
  (.mk k 0 t.1 .any l.1, l.2.close)
def readT : Nat → Rd → Tm × Rd
  | 0, r => (Tm.zero, r.next.2.fail)
  | n + 1, r =>
    let s := r.next.1
    let q := r.next.2
    if q.bad then (Tm.zero, q.fail)
    else if sEq s sYes || sEq s sNo then (.mk 3 (if sEq s sYes then 1 else 0) .any .any [], q)
    else if Lib.hasPrefix s.data.toList sHash.data.toList then (.mk 1 (q.number (s.extract 1 s.size)).1 .any .any [], (q.number (s.extract 1 s.size)).2)
    else if !sEq s sLp then (.mk 2 (q.number s).1 .any .any [], (q.number s).2)
    else match wFrom q.next.1 10 with
      | none => (Tm.zero, q.next.2.fail)
      | some k => readB (readT n) k q.next.2
def wordsOf (s : ByteArray) : List ByteArray := Lib.goFieldsP (fun x => x == 32 || x == 10) (replaceS (replaceS s sLp ⟨#[32, 40, 32]⟩) sRp ⟨#[32, 41, 32]⟩)
def parse (s : ByteArray) : Tm × Int :=
  if 1000 < s.size then (Tm.zero, 4)
  else
    let p := readT 40 ⟨wordsOf s, false⟩
    if p.2.bad || decide (0 < p.2.ws.length) || !p.1.Good 0 then (Tm.zero, 1) else (p.1, 0)
theorem ldp (r : Rd) : r.next.2.ws.length ≤ r.ws.length ∧ (r.next.2.bad = false → r.next.2.ws.length + 1 = r.ws.length ∧ r.bad = false) := by
  unfold Rd.next
  split
  · rename_i h; exact ⟨by simp, fun h => by cases h⟩
  · rename_i w ws h; exact ⟨by simp [h], fun hb => ⟨by simp [h], hb⟩⟩
theorem close_len (r : Rd) (h : r.close.bad = false) : r.close.ws.length + 1 = r.ws.length ∧ r.bad = false := by
  unfold Rd.close at h ⊢
  simp only [Bool.or_eq_false_iff] at h
  exact (ldp r).2 h.2
theorem ld9 : ∀ (d : Nat) (r : Rd), Thin (readK d r).1 ∧ ((readK d r).2.bad = false → (readK d r).2.ws.length + 1 ≤ r.ws.length ∧ r.bad = false)
  | 0, r => by
    refine ⟨Right.any.thin, fun h => ?_⟩
    simp [readK, Rd.fail] at h
  | d + 1, r => by
    have leaf : ∀ k : Int, Thin (.mk k []) := fun k => .mk k [] (by simp) (fun t h => by cases h)
    have hq : ∀ q : ByteArray × Rd, q = (if sEq r.next.1 sLp then r.next.2.next else r.next) → q.2.bad = false → q.2.ws.length + 1 ≤ r.ws.length ∧ r.bad = false := by
      intro q hq hb
      subst hq
      split at hb
      · rename_i h
        obtain ⟨h1, h2⟩ := (ldp r.next.2).2 hb
        obtain ⟨h3, h4⟩ := (ldp r).2 h2
        rw [if_pos h]
        exact ⟨by omega, h4⟩
      · rename_i h
        obtain ⟨h3, h4⟩ := (ldp r).2 hb
        rw [if_neg h]
        exact ⟨by omega, h4⟩
    simp only [readK]
    generalize hqe : (if sEq r.next.1 sLp = true then r.next.2.next else r.next) = q
    have hq := hq q hqe.symm
    cases kFrom q.1 (sEq r.next.1 sLp) 4 with
    | none => exact ⟨Right.any.thin, fun h => by cases h⟩
    | some k =>
      simp only
      split
      · obtain ⟨t1, b1⟩ := ld9 d q.2
        obtain ⟨t2, b2⟩ := ld9 d (readK d q.2).2
        refine ⟨.mk _ _ (by simp) fun t ht => ?_, fun h => ?_⟩
        · simp at ht
          rcases ht with rfl | rfl
          · exact t1
          · exact t2
        · obtain ⟨h1, h2⟩ := close_len _ h
          obtain ⟨h3, h4⟩ := b2 h2
          obtain ⟨h5, h6⟩ := b1 h4
          obtain ⟨h7, h8⟩ := hq h6
          exact ⟨by simp only; omega, h8⟩
      · exact ⟨leaf _, hq⟩
theorem atoi_in {l : List UInt8} {v : Int} (h : Lib.atoiAll l = .ok v) : -9223372036854775808 ≤ v ∧ v ≤ 9223372036854775807 := by
  unfold Lib.atoiAll at h
  split at h
  · cases h
  · simp only at h
    split at h
    · cases h
    · cases h
    · split at h
      · cases h
      · rename_i h1
        split at h
        · cases h
        · rename_i h2
          simp only [Lib.NumEnd.ok.injEq] at h
          subst h
          split
          · rename_i h3; simp only [h3, true_and, Nat.not_lt] at h2; omega
          · rename_i h3; simp only [h3, not_false_eq_true, true_and, Nat.not_le] at h1; omega
theorem numOf_in {s : ByteArray} {v : Int} (h : numOf s = some v) : -9223372036854775808 ≤ v ∧ v ≤ 9223372036854775807 := by
  unfold numOf at h
  split at h
  · rename_i hA
    split at h
    · cases h; exact atoi_in hA
    · cases h
  · cases h
theorem number_in (r : Rd) (s : ByteArray) : (r.number s).1 ≤ 9223372036854775807 ∧ ((r.number s).2.bad = false → (r.number s).2 = r) := by
  unfold Rd.number
  split
  · rename_i h; exact ⟨(numOf_in h).2, fun _ => rfl⟩
  · exact ⟨by show (0 : Int) ≤ _; decide, fun h => by cases h⟩
def ReadOk (r : Rd) (p : Tm × Rd) : Prop := TmOk p.1 ∧ (p.2.bad = false → p.1.nodes + p.2.ws.length ≤ r.ws.length ∧ r.bad = false)
theorem lfa : TmOk Tm.zero := .mk (by decide) Right.any.thin Right.any.thin fun x h => by cases h
theorem leaf_ok {k n : Int} (hn : n ≤ 9223372036854775807) : TmOk (.mk k n .any .any []) := .mk hn Right.any.thin Right.any.thin fun x h => by cases h
theorem readN_ok {f : Rd → Tm × Rd} (hf : ∀ r, ReadOk r (f r)) : ∀ (n : Nat) (r : Rd), (∀ t ∈ (readN f n r).1, TmOk t) ∧ (readN f n r).1.length = n ∧ ((readN f n r).2.bad = false → nodesL (readN f n r).1 + (readN f n r).2.ws.length ≤ r.ws.length ∧ r.bad = false)
  | 0, r => by simp [readN, nodesL]
  | n + 1, r => by
    obtain ⟨h1, h2⟩ := hf r
    obtain ⟨h3, h4, h5⟩ := readN_ok hf n (f r).2
    simp only [readN, List.length_cons, h4, nodesL]
    refine ⟨fun t ht => ?_, zo, fun hb => ?_⟩
    · rcases List.mem_cons.1 ht with rfl | ht
      · exact h1
      · exact h3 t ht
    · obtain ⟨h6, h7⟩ := h5 hb
      obtain ⟨h8, h9⟩ := h2 h7
      exact ⟨by omega, h9⟩
theorem lfz : ∀ (n : Nat) (r : Rd), ReadOk r (readT n r)
  | 0, r => ⟨lfa, fun h => by simp [readT, Rd.fail] at h⟩
  | n + 1, r => by
    have hlen := ldp r
    have leafN : ∀ t : Tm, t.l = [] → t.nodes = 1 := fun t h => by rw [lbt, h]; rfl
    simp only [readT]
    cases hb : r.next.2.bad with
    | true => exact ⟨lfa, fun h => by simp [Rd.fail] at h⟩
    | false =>
      obtain ⟨hl, hbad⟩ := hlen.2 hb
      simp only [Bool.false_eq_true, if_false]
      split
      · exact ⟨leaf_ok (by split <;> decide), fun _ => ⟨by rw [leafN _ rfl]; simp only; omega, hbad⟩⟩
      split
      · obtain ⟨h1, h2⟩ := number_in r.next.2 (r.next.1.extract 1 r.next.1.size)
        exact ⟨leaf_ok h1, fun h => ⟨by rw [leafN _ rfl]; simp only at h ⊢; rw [h2 h]; omega, hbad⟩⟩
      split
      · obtain ⟨h1, h2⟩ := number_in r.next.2 r.next.1
        exact ⟨leaf_ok h1, fun h => ⟨by rw [leafN _ rfl]; simp only at h ⊢; rw [h2 h]; omega, hbad⟩⟩
      · have hlen2 := ldp r.next.2
        split
        · exact ⟨lfa, fun h => by simp [Rd.fail] at h⟩
        · rename_i k _
          simp only [readB]
          have ht : ∀ t : Ty × Rd, t = (if ((k : Int) == 7 || (k : Int) == 9) = true then readK 4 r.next.2.next.2 else (.any, r.next.2.next.2)) → Thin t.1 ∧ (t.2.bad = false → t.2.ws.length ≤ r.next.2.next.2.ws.length ∧ r.next.2.next.2.bad = false) := by
            intro t ht
            subst ht
            split
            · obtain ⟨h1, h2⟩ := ld9 4 r.next.2.next.2
              exact ⟨h1, fun h => ⟨by have := (h2 h).1; omega, (h2 h).2⟩⟩
            · exact ⟨Right.any.thin, fun h => ⟨Nat.le_refl _, h⟩⟩
          generalize hte : (if ((k : Int) == 7 || (k : Int) == 9) = true then readK 4 r.next.2.next.2 else (Ty.any, r.next.2.next.2)) = t
          obtain ⟨h1, h2⟩ := ht t hte.symm
          obtain ⟨h3, h4, h5⟩ := readN_ok (lfz n) (arity k).toNat t.2
          refine ⟨.mk (by simp) h1 Right.any.thin h3, fun h => ?_⟩
          obtain ⟨h6, h7⟩ := close_len _ h
          obtain ⟨h8, h9⟩ := h5 h7
          obtain ⟨h10, h11⟩ := h2 h9
          obtain ⟨h12, h13⟩ := hlen2.2 h11
          refine ⟨?_, hbad⟩
          simp only [Tm.nodes]
          omega
end Go.Proofs.YtnflnbdlgdjfmabGreatDoor
namespace Go.Proofs.YtnflnbdlgdjfmabGreatDoor
open Go.RowKit
set_option maxRecDepth 100000
attribute [local irreducible] RunL AW LocOp ACalls Gh
theorem strRows_get {ws : List ByteArray} {i : Nat} {w : ByteArray} (h : ws[i]? = some w) : (strRows ws)[i]? = some [.str w] := by simp [strRows, h]
theorem ret_rd {P : Program} {x : Tmp} {c : C} {e : Exit} {t : Nat → U} {h : Nat → Option Blk} {r : Rd} {l : List C} (he : e = .normal ∨ e = .ret) (hx : t x = .one c) (hc : closedC c = true) (hb : h 1000 = some (.obj l)) (hl : All2 (WkC h [] []) l r.c) : RetQ P #[.tmp x] (.one c) [(1000, .obj r.c)] e t h :=
  ⟨he, [.one c], ⟨hx, trivial⟩, ⟨trivial, trivial⟩, .one c, rfl, [], trivial, WkU.one, ⟨⟨_, hb, hl⟩, trivial⟩, rfl, la5 hc, ⟨⟨trivial, trivial, trivial⟩, trivial⟩⟩
theorem ldT (r : Rd) : ACalls Tryz.prog 46 [.one (.ptr 1000 0)] [(1000, .obj (Rd.c (r)))] (.one (.str r.next.1)) [(1000, .obj (Rd.c (r.next.2)))] := by
  obtain ⟨ws, bad⟩ := r
  refine zB1 Tryz.func46 ?_
  cases ws with
  | nil =>
    refine zQ ?_;refine zV lab ?_;refine zn (zq (zQ ?_));refine zV laa ?_;refine zV lag ?_;refine zV lad ?_;refine zV lae ?_;refine zV lay ?_;refine zV lac ?_;refine zn ?_;refine zcT ?_;refine zQ ?_;refine zV laa ?_;refine zV lag ?_;refine zV lad ?_;refine zE lax ?_;refine zn (zQ ?_);refine zV lab ?_;refine zn (zre ?_)
    refine rq ?_
    exact ret_rd (by exact .inr rfl) (by exact rfl) rfl (by exact rfl) (by exact laX _)
  | cons w ws =>
    have hz : (((((strRows (w :: ws)).length : Nat)) : Int) == 0) = false := by rw [beq_eq_false_iff_ne]; simp [strRows]; omega
    have hr0 : (strRows (w :: ws))[0]? = some [.str w] := strRows_get rfl
    refine zQ ?_;refine zV lab ?_;refine zn (zq (zQ ?_));refine zV laa ?_;refine zV lag ?_;refine zV lad ?_;refine zV lae ?_;refine zV lay ?_;refine zV lac ?_;refine zn ?_;refine zcF ?_;refine zsk (zQ ?_);refine zV laa ?_;refine zV lag ?_;refine zV lad ?_;refine zV lae ?_;refine zV (lap _) ?_;refine zV lai ?_;refine zV lab ?_;refine zn (zQ ?_);refine zV laa ?_;refine zV laa ?_;refine zV lag ?_;refine zV lad ?_;refine zV lae ?_
    refine zV (ldE (n := 1) (by exact rfl) (by exact rfl) rfl (by simp [strRows]) (by simp [strRows])) ?_
    refine zV lag ?_;refine zV lad ?_;refine zE lax ?_;refine zn (zQ ?_);refine zV laa ?_;refine zV lab ?_;refine zn (zre ?_)
    refine rq ?_
    exact ret_rd (by exact .inr rfl) (by exact rfl) rfl (by exact rfl) (by exact laX _)
theorem number_a (r : Rd) (s : ByteArray) (hs : s.size ≤ 281474976710656) : ACalls Tryz.prog 48 [.one (.ptr 1000 0), .one (.str s)] [(1000, .obj (Rd.c (r)))] (.one (.int .i64 (r.number s).1)) [(1000, .obj (Rd.c ((r.number s).2)))] := by
  refine zB1 Tryz.func48 ?_
  refine zQ ?_;refine zV lab ?_;refine zn (zQ ?_);refine zV laa ?_
  refine zV (lal (atoi_a s hs) rfl (by refine zC ?_;exact rfl)) ?_
  cases hA : Lib.atoiAll s.data.toList with
  | ok v =>
    obtain ⟨h0, h1⟩ := atoi_in hA
    rw [show atoiU s = .tup [.one (.int .i64 v), .one .nilif] by unfold atoiU; rw [hA]]
    refine zV laB ?_;refine zV lar ?_;refine zV lar ?_;refine zV lab ?_;refine zV lab ?_;refine zn (zq (zQ ?_));refine zV laa ?_
    refine zV (loc_neIfF (by exact rfl) rfl) ?_
    refine zV laa ?_;refine zI laa ?_
    refine zI (lal (itoa_a v h0 h1) rfl (by refine zC ?_;exact rfl)) ?_
    refine zI laa ?_
    refine zI laN ?_
    cases hq : sEq ⟨(Lib.itoa v).toArray⟩ s with
    | true =>
      have e : r.number s = (v, r) := by unfold Rd.number numOf; rw [hA]; simp [hq]
      rw [e]
      refine zV law ?_;refine zn ?_;refine zcF ?_;refine zsk (zQ ?_);refine zV laa ?_;refine zV lab ?_;refine zn (zre ?_)
      refine rq ?_
      exact ret_rd (by exact .inr rfl) (by exact rfl) rfl (by exact rfl) (by exact laX _)
    | false =>
      have e : r.number s = (0, r.fail) := by unfold Rd.number numOf; rw [hA]; simp [hq]
      rw [e]
      refine zV law ?_;refine zn ?_;refine zcT ?_;refine zQ ?_;refine zV laa ?_;refine zV lag ?_;refine zV lad ?_;refine zE lax ?_;refine zn (zQ ?_);refine zV lab ?_;refine zn (zre ?_)
      refine rq ?_
      exact ret_rd (by exact .inr rfl) (by exact rfl) rfl (by exact rfl) (by exact laX _)
  | range =>
    rw [show atoiU s = .tup [.one .any, .one .ifc] by unfold atoiU; rw [hA]]
    have e : r.number s = (0, r.fail) := by unfold Rd.number numOf; rw [hA]
    rw [e]
    refine zV laB ?_;refine zV lar ?_;refine zV lar ?_;refine zV lab ?_;refine zV lab ?_;refine zn (zq (zQ ?_));refine zV laa ?_
    refine zV (loc_neIfT (by exact rfl) rfl) ?_
    refine zV laa ?_;refine zs ?_;refine zs ?_;refine zs ?_;refine zs ?_;refine zV laA ?_;refine zn ?_;refine zcT ?_;refine zQ ?_;refine zV laa ?_;refine zV lag ?_;refine zV lad ?_;refine zE lax ?_;refine zn (zQ ?_);refine zV lab ?_;refine zn (zre ?_)
    refine rq ?_
    exact ret_rd (by exact .inr rfl) (by exact rfl) rfl (by exact rfl) (by exact laX _)
  | _ =>
    rw [show atoiU s = .tup [.one .any, .one .ifc] by unfold atoiU; rw [hA]]
    have e : r.number s = (0, r.fail) := by unfold Rd.number numOf; rw [hA]
    rw [e]
    refine zV laB ?_;refine zV lar ?_;refine zV lar ?_;refine zV lab ?_;refine zV lab ?_;refine zn (zq (zQ ?_));refine zV laa ?_
    refine zV (loc_neIfT (by exact rfl) rfl) ?_
    refine zV laa ?_;refine zs ?_;refine zs ?_;refine zs ?_;refine zs ?_;refine zV laA ?_;refine zn ?_;refine zcT ?_;refine zQ ?_;refine zV laa ?_;refine zV lag ?_;refine zV lad ?_;refine zE lax ?_;refine zn (zQ ?_);refine zV lab ?_;refine zn (zre ?_)
    refine rq ?_
    exact ret_rd (by exact .inr rfl) (by exact rfl) rfl (by exact rfl) (by exact laX _)
theorem ret_ty {P : Program} {x : Tmp} {tx : TypeId} {bx : Nat} {e : Exit} {t : Nat → U} {h : Nat → Option Blk} {r : Rd} {a : Ty} {l k : List C} [T : TAgg P tx 2] (he : e = .normal ∨ e = .ret) (hx : t x = .one (.ptr bx 0)) (hbx : h bx = some (.obj k)) (hk : All2 (WkC h [] []) k a.c) (hb : h 1000 = some (.obj l)) (hl : All2 (WkC h [] []) l r.c) : RetQ P #[.cell x tx] a.u [(1000, .obj r.c)] e t h := by
  have hlen : k.length = 2 := hk.length
  exact ⟨he, [.agg k], ⟨⟨bx, k, hx, hbx, .inl ⟨2, T, hlen, rfl⟩⟩, zo⟩, ⟨zo, zo⟩, .agg k, rfl, [], zo, hk, ⟨⟨_, hb, hl⟩, zo⟩, rfl, ⟨zo, zo, zo⟩, ⟨⟨zo, zo, zo⟩, zo⟩⟩
theorem anyCells {h : Nat → Option Blk} : All2 (WkC h [] []) [.int .i64 0, .nilsl] Ty.any.c := ⟨.le (.refl _), .le (.nil _), trivial⟩
theorem leafCells {h : Nat → Option Blk} {k : Int} : All2 (WkC h [] []) [.int .i64 k, .nilsl] (Ty.mk k []).c := ⟨.le (.refl _), .le (.nil _), trivial⟩
theorem pairCells {h : Nat → Option Blk} {k : Int} {a b : Ty} : All2 (WkC h [] []) [.int .i64 k, slFOf 2 [a.c, b.c]] (Ty.mk k [a, b]).c := by
  have e : (Ty.mk k [a, b]).c = [.int .i64 k, slOf 2 [a.c, b.c]] := by simp [Ty.c, lba]
  rw [e]
  exact ⟨.le (.refl _), .le (LeC.slF (LeRows.refl _)), zo⟩
theorem kinds_get {i : Nat} (h : i < 4) : kindsC[i]? = some (.str (kindsL.getD i sNil)) := by
  match i, h with
  | 0, _ | 1, _ | 2, _ | 3, _ => rfl
theorem lfb {s : ByteArray} {op : Bool} {i : Nat} (h : i < 4) : kFrom s op (4 - i) = if kAt s op i then some i else kFrom s op (4 - (i + 1)) := by
  obtain ⟨n, hn⟩ : ∃ n, 4 - i = n + 1 := ⟨3 - i, by omega⟩
  rw [hn, show 4 - (i + 1) = n by omega]
  simp only [kFrom]
  rw [show 3 - n = i by omega]
def readKq (d : Nat) (op : Bool) (q : ByteArray × Rd) : Ty × Rd :=
  match d with
  | 0 => (.any, q.2.fail)
  | d + 1 => match kFrom q.1 op 4 with
    | none => (.any, q.2.fail)
    | some k => if op then (.mk k [(readK d q.2).1, (readK d (readK d q.2).2).1], (readK d (readK d q.2).2).2.close) else (.mk k [], q.2)
theorem readK_q (d : Nat) (r : Rd) : readK d r = readKq d (sEq r.next.1 sLp) (if sEq r.next.1 sLp then r.next.2.next else r.next) := by cases d <;> rfl
set_option maxHeartbeats 20000000 in
theorem kind_a : ∀ (d : Nat), d ≤ 5 → ∀ (r : Rd), ACalls Tryz.prog 49 [.one (.ptr 1000 0), .one (.int .i64 (5 - (d : Int)))] [(1000, .obj (Rd.c (r)))] (readK d r).1.u [(1000, .obj (Rd.c ((readK d r).2)))] := by
  intro d
  induction d with
  | zero =>
    intro hd r
    generalize hdp : (5 - (((0 : Nat)) : Int)) = dp
    have hdeep : decide (dp > 4) = true := decide_eq_true (by omega)
    rw [readK_q]
    refine zB1 Tryz.func49 ?_
    refine zQ ?_;refine zM lah ?_;refine zn (zQ ?_);refine zV laa ?_
    refine zY (lat (ldT (r)) rfl (by refine ⟨_, _, rfl, (by exact LeU.of_eq rfl zo), (by exact Exists.intro _ rfl), ?_⟩;exact rfl) (by exact ⟨rfl, zo⟩) (by exact rfl) (by simp [namesL]) (by exact ⟨⟨zo, zo, zo⟩, zo⟩)) ?_
    refine zV lab ?_;refine zn (zQ ?_);refine zV laa ?_
    refine zV (laL (b := sLp) (by exact rfl) (by exact rfl)) ?_
    refine zV lab ?_;refine zn ?_
    refine zq ?_
    refine AW.midB (fun t h => ∃ op q, op = sEq r.next.1 sLp ∧ q = (if sEq r.next.1 sLp then r.next.2.next else r.next) ∧ t = tOfL [(0, .one (.ptr 1000 0)), (1, .one (.int .i64 dp)), (4, .one (.ptr 4 0)), (5, .one (.str q.1)), (6, .one (.bool op))] ∧ h = ofL [(1000, .obj (Rd.c q.2)), (4, .obj [.int .i64 0, .nilsl])]) ?_ ?_
    · cases hop : sEq r.next.1 sLp with
      | false =>
        refine zQ ?_;refine zV laa ?_;refine zn ?_;refine zcF ?_;refine zsk ?_
        exact ⟨_, _, (laZ [(0, .one (.ptr 1000 0)), (1, .one (.int .i64 dp)), (4, .one (.ptr 4 0)), (5, .one (.str r.next.1)), (6, .one (.bool false))] [(1000, .obj (Rd.c r.next.2)), (4, .obj [.int .i64 0, .nilsl])] [] [] ⟨(zw rfl zo), (zw rfl zo), (zw rfl zo), (by exact WkU.of_eq rfl zo), (zw rfl zo), zo⟩ ⟨(by exact zb rfl), (by exact zb rfl), zo⟩ trivial zo rfl rfl ⟨⟨_, rfl⟩, zo, ⟨_, rfl⟩, zo, zo, zo⟩ ⟨(by exact ⟨zo, zo, zo⟩), (by exact ⟨zo, zo, zo⟩), zo⟩), false, r.next, rfl, rfl, rfl, rfl⟩
      | true =>
        refine zQ ?_;refine zV laa ?_;refine zn ?_;refine zcT ?_;refine zR ?_;refine zV laa ?_
        refine zY (lat (ldT (r.next.2)) rfl (by refine ⟨_, _, rfl, (by exact LeU.of_eq rfl zo), (by exact Exists.intro _ rfl), ?_⟩;exact rfl) (by exact ⟨rfl, zo⟩) (by exact rfl) (by simp [namesL]) (by exact ⟨⟨zo, zo, zo⟩, zo⟩)) ?_
        refine zV lab ?_;refine zn ?_
        exact ⟨_, _, (laZ [(0, .one (.ptr 1000 0)), (1, .one (.int .i64 dp)), (4, .one (.ptr 4 0)), (5, .one (.str r.next.2.next.1)), (6, .one (.bool true))] [(1000, .obj (Rd.c r.next.2.next.2)), (4, .obj [.int .i64 0, .nilsl])] [] [] ⟨(zw rfl zo), (zw rfl zo), (zw rfl zo), (by exact WkU.of_eq rfl zo), (zw rfl zo), zo⟩ ⟨(by exact zb rfl), (by exact zb rfl), zo⟩ trivial zo rfl rfl ⟨⟨_, rfl⟩, zo, ⟨_, rfl⟩, zo, zo, zo⟩ ⟨(by exact ⟨zo, zo, zo⟩), (by exact ⟨zo, zo, zo⟩), zo⟩), true, r.next.2.next, rfl, rfl, rfl, rfl⟩
    · rintro t h ⟨op, q, ho, hq, rfl, rfl⟩
      rw [← hq, ← ho]
      refine zq (zQ ?_);refine zV lao ?_;refine zV laa ?_;refine zn (zbl ?_)
      refine AW.gh (laZ [(0, .one (.ptr 1000 0)), (1, .one (.int .i64 dp)), (4, .one (.ptr 4 0)), (5, .one (.str q.1)), (6, .one (.bool op)), (17, .agg kindsC), (18, .one (.int .i64 ((0 : Nat) : Int)))] [(1000, .obj (Rd.c q.2)), (4, .obj [.int .i64 0, .nilsl])] [] [] ⟨(zw rfl zo), (zw rfl zo), (zw rfl zo), (by exact WkU.of_eq rfl zo), (zw rfl zo), (by exact WkU.of_eq rfl zo), (zw rfl zo), zo⟩ ⟨(by exact zb rfl), (by exact zb rfl), zo⟩ trivial zo rfl rfl ⟨⟨_, rfl⟩, zo, ⟨_, rfl⟩, zo, zo, (by exact ⟨zo, zo, zo, zo, zo⟩), zo, zo⟩ ⟨(by exact ⟨zo, zo, zo⟩), (by exact ⟨zo, zo, zo⟩), zo⟩) ?_
      refine AW.loop (fun m t' h => ∃ i : Nat, i ≤ 4 ∧ m = 4 - i ∧ (True) ∧ t' = tOfL [(0, .one (.ptr 1000 0)), (1, .one (.int .i64 dp)), (4, .one (.ptr 4 0)), (5, .one (.str q.1)), (6, .one (.bool op)), (17, .agg kindsC), (18, .one (.int .i64 ((i : Nat) : Int)))] ∧ h = ofL [(1000, .obj (Rd.c q.2)), (4, .obj [.int .i64 0, .nilsl])]) 4 ⟨0, by omega, rfl, zo, rfl, rfl⟩ ?_
      rintro m t' h ⟨i, hi, rfl, _, rfl, rfl⟩
      cases hlt : decide ((i : Int) < 4) with
      | false =>
        have hi4 : i = 4 := by have := of_decide_eq_false hlt; omega
        subst hi4
        refine zQ ?_;refine zV lac ?_;refine zn (zq ?_);refine zcF ?_;refine zex (zQ ?_);refine zV laa ?_;refine zV lag ?_;refine zV lad ?_;refine zE lax ?_;refine zn (zQ ?_);refine zV laq ?_;refine zE laf ?_;refine zn (zre ?_)
        refine rq ?_
        exact ret_ty (by exact .inr rfl) (by exact rfl) (by exact rfl) anyCells (by exact rfl) (by exact laX _)
      | true =>
        have hi4 : i < 4 := by have := of_decide_eq_true hlt; omega
        have hg := kinds_get hi4
        refine zQ ?_;refine zV lac ?_;refine zn (zq ?_);refine zaT ?_;refine zsk (zq (zbl (zQ ?_)));refine zV laa ?_
        refine zV (ld7 (by exact rfl) (by exact rfl) hi4 hg) ?_
        refine zV lab ?_;refine zV lab ?_;refine zn (zq (zQ ?_));refine zV laa ?_;refine zV laa ?_
        refine zV laN ?_
        cases h1 : sEq (kindsL.getD i sNil) q.1 with
        | false =>
          have hk : kAt q.1 op i = false := by unfold kAt; rw [h1]; rfl
          refine zV laa ?_;refine zs ?_;refine zs ?_;refine zs ?_;refine zs ?_;refine zV laA ?_;refine zV laa ?_;refine zs ?_;refine zs ?_;refine zV laA ?_;refine zn ?_;refine zcT ?_;refine zex (zR ?_);refine zV laD ?_;refine zV laa ?_;refine zn ?_
          exact ⟨4 - (i + 1), _, _, by omega, (laZ [(0, .one (.ptr 1000 0)), (1, .one (.int .i64 dp)), (4, .one (.ptr 4 0)), (5, .one (.str q.1)), (6, .one (.bool op)), (17, .agg kindsC), (18, .one (.int .i64 (((i + 1) : Nat) : Int)))] [(1000, .obj (Rd.c q.2)), (4, .obj [.int .i64 0, .nilsl])] [] [] ⟨(zw rfl zo), (zw rfl zo), (zw rfl zo), (by exact WkU.of_eq rfl zo), (zw rfl zo), (by exact WkU.of_eq rfl zo), (zw rfl zo), zo⟩ ⟨(by exact zb rfl), (by exact zb rfl), zo⟩ trivial zo rfl rfl ⟨⟨_, rfl⟩, zo, ⟨_, rfl⟩, zo, zo, (by exact ⟨zo, zo, zo, zo, zo⟩), zo, zo⟩ ⟨(by exact ⟨zo, zo, zo⟩), (by exact ⟨zo, zo, zo⟩), zo⟩), i + 1, by omega, by omega, zo, rfl, rfl⟩
        | true =>
          refine zV laa ?_;refine zI laa ?_;refine zI lac ?_;refine zI laa ?_
          refine zI (loc_neBool (by exact rfl) (by exact rfl)) ?_
          have hio : ((i : Int) == 3) = (i == 3) := by rw [Bool.eq_iff_iff]; simp; omega
          rw [hio]
          cases h2 : ((i == 3) == op) with
          | false =>
            have hk : kAt q.1 op i = false := by unfold kAt; rw [h1, h2]; rfl
            refine zV law ?_;refine zV laa ?_;refine zs ?_;refine zs ?_;refine zV laA ?_;refine zn ?_;refine zcT ?_;refine zex (zR ?_);refine zV laD ?_;refine zV laa ?_;refine zn ?_
            exact ⟨4 - (i + 1), _, _, by omega, (laZ [(0, .one (.ptr 1000 0)), (1, .one (.int .i64 dp)), (4, .one (.ptr 4 0)), (5, .one (.str q.1)), (6, .one (.bool op)), (17, .agg kindsC), (18, .one (.int .i64 (((i + 1) : Nat) : Int)))] [(1000, .obj (Rd.c q.2)), (4, .obj [.int .i64 0, .nilsl])] [] [] ⟨(zw rfl zo), (zw rfl zo), (zw rfl zo), (by exact WkU.of_eq rfl zo), (zw rfl zo), (by exact WkU.of_eq rfl zo), (zw rfl zo), zo⟩ ⟨(by exact zb rfl), (by exact zb rfl), zo⟩ trivial zo rfl rfl ⟨⟨_, rfl⟩, zo, ⟨_, rfl⟩, zo, zo, (by exact ⟨zo, zo, zo, zo, zo⟩), zo, zo⟩ ⟨(by exact ⟨zo, zo, zo⟩), (by exact ⟨zo, zo, zo⟩), zo⟩), i + 1, by omega, by omega, zo, rfl, rfl⟩
          | true =>
            have hk : kAt q.1 op i = true := by unfold kAt; rw [h1, h2]; rfl
            refine zV law ?_;refine zV laa ?_;refine zI laa ?_;refine zI lac ?_;refine zV law ?_;refine zn ?_;refine zaT ?_;refine zex (zR ?_);refine zV laD ?_;refine zV laa ?_;refine zn ?_
            exact ⟨4 - (i + 1), _, _, by omega, (laZ [(0, .one (.ptr 1000 0)), (1, .one (.int .i64 dp)), (4, .one (.ptr 4 0)), (5, .one (.str q.1)), (6, .one (.bool op)), (17, .agg kindsC), (18, .one (.int .i64 (((i + 1) : Nat) : Int)))] [(1000, .obj (Rd.c q.2)), (4, .obj [.int .i64 0, .nilsl])] [] [] ⟨(zw rfl zo), (zw rfl zo), (zw rfl zo), (by exact WkU.of_eq rfl zo), (zw rfl zo), (by exact WkU.of_eq rfl zo), (zw rfl zo), zo⟩ ⟨(by exact zb rfl), (by exact zb rfl), zo⟩ trivial zo rfl rfl ⟨⟨_, rfl⟩, zo, ⟨_, rfl⟩, zo, zo, (by exact ⟨zo, zo, zo, zo, zo⟩), zo, zo⟩ ⟨(by exact ⟨zo, zo, zo⟩), (by exact ⟨zo, zo, zo⟩), zo⟩), i + 1, by omega, by omega, zo, rfl, rfl⟩
  | succ d ih =>
    intro hd r
    have ih := ih (by omega)
    generalize hdp : (5 - (((d + 1 : Nat)) : Int)) = dp
    have ih2 : ∀ (r : Rd), ACalls Tryz.prog 49 [.one (.ptr 1000 0), .one (.int .i64 (dp + 1))] [(1000, .obj (Rd.c (r)))] (readK d r).1.u [(1000, .obj (Rd.c ((readK d r).2)))] := fun r => by
      rw [show dp + 1 = 5 - (d : Int) by omega]; exact ih r
    have hdeep : decide (dp > 4) = false := decide_eq_false (by omega)
    rw [readK_q]
    refine zB1 Tryz.func49 ?_
    refine zQ ?_;refine zM lah ?_;refine zn (zQ ?_);refine zV laa ?_
    refine zY (lat (ldT (r)) rfl (by refine ⟨_, _, rfl, (by exact LeU.of_eq rfl zo), (by exact Exists.intro _ rfl), ?_⟩;exact rfl) (by exact ⟨rfl, zo⟩) (by exact rfl) (by simp [namesL]) (by exact ⟨⟨zo, zo, zo⟩, zo⟩)) ?_
    refine zV lab ?_;refine zn (zQ ?_);refine zV laa ?_
    refine zV (laL (b := sLp) (by exact rfl) (by exact rfl)) ?_
    refine zV lab ?_;refine zn ?_
    refine zq ?_
    refine AW.midB (fun t h => ∃ op q, op = sEq r.next.1 sLp ∧ q = (if sEq r.next.1 sLp then r.next.2.next else r.next) ∧ t = tOfL [(0, .one (.ptr 1000 0)), (1, .one (.int .i64 dp)), (4, .one (.ptr 4 0)), (5, .one (.str q.1)), (6, .one (.bool op))] ∧ h = ofL [(1000, .obj (Rd.c q.2)), (4, .obj [.int .i64 0, .nilsl])]) ?_ ?_
    · cases hop : sEq r.next.1 sLp with
      | false =>
        refine zQ ?_;refine zV laa ?_;refine zn ?_;refine zcF ?_;refine zsk ?_
        exact ⟨_, _, (laZ [(0, .one (.ptr 1000 0)), (1, .one (.int .i64 dp)), (4, .one (.ptr 4 0)), (5, .one (.str r.next.1)), (6, .one (.bool false))] [(1000, .obj (Rd.c r.next.2)), (4, .obj [.int .i64 0, .nilsl])] [] [] ⟨(zw rfl zo), (zw rfl zo), (zw rfl zo), (by exact WkU.of_eq rfl zo), (zw rfl zo), zo⟩ ⟨(by exact zb rfl), (by exact zb rfl), zo⟩ trivial zo rfl rfl ⟨⟨_, rfl⟩, zo, ⟨_, rfl⟩, zo, zo, zo⟩ ⟨(by exact ⟨zo, zo, zo⟩), (by exact ⟨zo, zo, zo⟩), zo⟩), false, r.next, rfl, rfl, rfl, rfl⟩
      | true =>
        refine zQ ?_;refine zV laa ?_;refine zn ?_;refine zcT ?_;refine zR ?_;refine zV laa ?_
        refine zY (lat (ldT (r.next.2)) rfl (by refine ⟨_, _, rfl, (by exact LeU.of_eq rfl zo), (by exact Exists.intro _ rfl), ?_⟩;exact rfl) (by exact ⟨rfl, zo⟩) (by exact rfl) (by simp [namesL]) (by exact ⟨⟨zo, zo, zo⟩, zo⟩)) ?_
        refine zV lab ?_;refine zn ?_
        exact ⟨_, _, (laZ [(0, .one (.ptr 1000 0)), (1, .one (.int .i64 dp)), (4, .one (.ptr 4 0)), (5, .one (.str r.next.2.next.1)), (6, .one (.bool true))] [(1000, .obj (Rd.c r.next.2.next.2)), (4, .obj [.int .i64 0, .nilsl])] [] [] ⟨(zw rfl zo), (zw rfl zo), (zw rfl zo), (by exact WkU.of_eq rfl zo), (zw rfl zo), zo⟩ ⟨(by exact zb rfl), (by exact zb rfl), zo⟩ trivial zo rfl rfl ⟨⟨_, rfl⟩, zo, ⟨_, rfl⟩, zo, zo, zo⟩ ⟨(by exact ⟨zo, zo, zo⟩), (by exact ⟨zo, zo, zo⟩), zo⟩), true, r.next.2.next, rfl, rfl, rfl, rfl⟩
    · rintro t h ⟨op, q, ho, hq, rfl, rfl⟩
      rw [← hq, ← ho]
      refine zq (zQ ?_);refine zV lao ?_;refine zV laa ?_;refine zn (zbl ?_)
      refine AW.gh (laZ [(0, .one (.ptr 1000 0)), (1, .one (.int .i64 dp)), (4, .one (.ptr 4 0)), (5, .one (.str q.1)), (6, .one (.bool op)), (17, .agg kindsC), (18, .one (.int .i64 ((0 : Nat) : Int)))] [(1000, .obj (Rd.c q.2)), (4, .obj [.int .i64 0, .nilsl])] [] [] ⟨(zw rfl zo), (zw rfl zo), (zw rfl zo), (by exact WkU.of_eq rfl zo), (zw rfl zo), (by exact WkU.of_eq rfl zo), (zw rfl zo), zo⟩ ⟨(by exact zb rfl), (by exact zb rfl), zo⟩ trivial zo rfl rfl ⟨⟨_, rfl⟩, zo, ⟨_, rfl⟩, zo, zo, (by exact ⟨zo, zo, zo, zo, zo⟩), zo, zo⟩ ⟨(by exact ⟨zo, zo, zo⟩), (by exact ⟨zo, zo, zo⟩), zo⟩) ?_
      refine AW.loop (fun m t' h => ∃ i : Nat, i ≤ 4 ∧ m = 4 - i ∧ (kFrom q.1 op 4 = kFrom q.1 op (4 - i)) ∧ t' = tOfL [(0, .one (.ptr 1000 0)), (1, .one (.int .i64 dp)), (4, .one (.ptr 4 0)), (5, .one (.str q.1)), (6, .one (.bool op)), (17, .agg kindsC), (18, .one (.int .i64 ((i : Nat) : Int)))] ∧ h = ofL [(1000, .obj (Rd.c q.2)), (4, .obj [.int .i64 0, .nilsl])]) 4 ⟨0, by omega, rfl, rfl, rfl, rfl⟩ ?_
      rintro m t' h ⟨i, hi, rfl, hinv, rfl, rfl⟩
      cases hlt : decide ((i : Int) < 4) with
      | false =>
        have hi4 : i = 4 := by have := of_decide_eq_false hlt; omega
        subst hi4
        have hres : readKq (d + 1) op q = (.any, q.2.fail) := by unfold readKq; simp only; rw [hinv]; rfl
        rw [hres]
        refine zQ ?_;refine zV lac ?_;refine zn (zq ?_);refine zcF ?_;refine zex (zQ ?_);refine zV laa ?_;refine zV lag ?_;refine zV lad ?_;refine zE lax ?_;refine zn (zQ ?_);refine zV laq ?_;refine zE laf ?_;refine zn (zre ?_)
        refine rq ?_
        exact ret_ty (by exact .inr rfl) (by exact rfl) (by exact rfl) anyCells (by exact rfl) (by exact laX _)
      | true =>
        have hi4 : i < 4 := by have := of_decide_eq_true hlt; omega
        have hg := kinds_get hi4
        refine zQ ?_;refine zV lac ?_;refine zn (zq ?_);refine zaT ?_;refine zsk (zq (zbl (zQ ?_)));refine zV laa ?_
        refine zV (ld7 (by exact rfl) (by exact rfl) hi4 hg) ?_
        refine zV lab ?_;refine zV lab ?_;refine zn (zq (zQ ?_));refine zV laa ?_;refine zV laa ?_
        refine zV laN ?_
        cases h1 : sEq (kindsL.getD i sNil) q.1 with
        | false =>
          have hk : kAt q.1 op i = false := by unfold kAt; rw [h1]; rfl
          refine zV laa ?_;refine zs ?_;refine zs ?_;refine zs ?_;refine zs ?_;refine zV laA ?_;refine zV laa ?_;refine zs ?_;refine zs ?_;refine zV laA ?_;refine zn ?_;refine zcT ?_;refine zex (zR ?_);refine zV laD ?_;refine zV laa ?_;refine zn ?_
          exact ⟨4 - (i + 1), _, _, by omega, (laZ [(0, .one (.ptr 1000 0)), (1, .one (.int .i64 dp)), (4, .one (.ptr 4 0)), (5, .one (.str q.1)), (6, .one (.bool op)), (17, .agg kindsC), (18, .one (.int .i64 (((i + 1) : Nat) : Int)))] [(1000, .obj (Rd.c q.2)), (4, .obj [.int .i64 0, .nilsl])] [] [] ⟨(zw rfl zo), (zw rfl zo), (zw rfl zo), (by exact WkU.of_eq rfl zo), (zw rfl zo), (by exact WkU.of_eq rfl zo), (zw rfl zo), zo⟩ ⟨(by exact zb rfl), (by exact zb rfl), zo⟩ trivial zo rfl rfl ⟨⟨_, rfl⟩, zo, ⟨_, rfl⟩, zo, zo, (by exact ⟨zo, zo, zo, zo, zo⟩), zo, zo⟩ ⟨(by exact ⟨zo, zo, zo⟩), (by exact ⟨zo, zo, zo⟩), zo⟩), i + 1, by omega, by omega, by rw [hinv, lfb hi4, hk]; rfl, rfl, rfl⟩
        | true =>
          refine zV laa ?_;refine zI laa ?_;refine zI lac ?_;refine zI laa ?_
          refine zI (loc_neBool (by exact rfl) (by exact rfl)) ?_
          have hio : ((i : Int) == 3) = (i == 3) := by rw [Bool.eq_iff_iff]; simp; omega
          rw [hio]
          cases h2 : ((i == 3) == op) with
          | false =>
            have hk : kAt q.1 op i = false := by unfold kAt; rw [h1, h2]; rfl
            refine zV law ?_;refine zV laa ?_;refine zs ?_;refine zs ?_;refine zV laA ?_;refine zn ?_;refine zcT ?_;refine zex (zR ?_);refine zV laD ?_;refine zV laa ?_;refine zn ?_
            exact ⟨4 - (i + 1), _, _, by omega, (laZ [(0, .one (.ptr 1000 0)), (1, .one (.int .i64 dp)), (4, .one (.ptr 4 0)), (5, .one (.str q.1)), (6, .one (.bool op)), (17, .agg kindsC), (18, .one (.int .i64 (((i + 1) : Nat) : Int)))] [(1000, .obj (Rd.c q.2)), (4, .obj [.int .i64 0, .nilsl])] [] [] ⟨(zw rfl zo), (zw rfl zo), (zw rfl zo), (by exact WkU.of_eq rfl zo), (zw rfl zo), (by exact WkU.of_eq rfl zo), (zw rfl zo), zo⟩ ⟨(by exact zb rfl), (by exact zb rfl), zo⟩ trivial zo rfl rfl ⟨⟨_, rfl⟩, zo, ⟨_, rfl⟩, zo, zo, (by exact ⟨zo, zo, zo, zo, zo⟩), zo, zo⟩ ⟨(by exact ⟨zo, zo, zo⟩), (by exact ⟨zo, zo, zo⟩), zo⟩), i + 1, by omega, by omega, by rw [hinv, lfb hi4, hk]; rfl, rfl, rfl⟩
          | true =>
            have hk : kAt q.1 op i = true := by unfold kAt; rw [h1, h2]; rfl
            have hres : readKq (d + 1) op q = if op then (.mk i [(readK d q.2).1, (readK d (readK d q.2).2).1], (readK d (readK d q.2).2).2.close) else (.mk i [], q.2) := by
              unfold readKq; simp only; rw [hinv, lfb hi4, hk]; rfl
            rw [hres]
            cases op with
            | false =>
              refine zV law ?_;refine zV laa ?_;refine zI laa ?_;refine zI lac ?_;refine zV law ?_;refine zn ?_;refine zaF ?_;refine zsk (zQ ?_);refine zV laa ?_;refine zV laq ?_;refine zM lah ?_;refine zE laf ?_;refine zn (zq (zQ ?_));refine zV laa ?_;refine zn ?_;refine zcF ?_;refine zsk (zQ ?_);refine zV laj ?_;refine zE laf ?_;refine zn (zre ?_)
              refine rq ?_
              exact ret_ty (by exact .inr rfl) (by exact rfl) (by exact rfl) leafCells (by exact rfl) (by exact laX _)
            | true =>
              refine zV law ?_;refine zV laa ?_;refine zI laa ?_;refine zI lac ?_;refine zV law ?_;refine zn ?_;refine zaF ?_;refine zsk (zQ ?_);refine zV laa ?_;refine zV laq ?_;refine zM lah ?_;refine zE laf ?_;refine zn (zq (zQ ?_));refine zV laa ?_;refine zn ?_;refine zcT ?_;refine zQ ?_;refine zV laa ?_;refine zV laa ?_;refine zV laI ?_
              refine zY (lat (ih2 (q.2)) rfl (by refine ⟨_, _, rfl, (by exact LeU.of_eq rfl zo), (by exact Exists.intro _ rfl), ?_⟩;refine zC ?_;exact rfl) (by exact ⟨rfl, zo⟩) (by exact rfl) (by simp [namesL]) (by exact ⟨⟨zo, zo, zo⟩, zo⟩)) ?_
              refine zV laa ?_;refine zV laa ?_;refine zV laI ?_
              refine zY (lat (ih2 ((readK d q.2).2)) rfl (by refine ⟨_, _, rfl, (by exact LeU.of_eq rfl zo), (by exact Exists.intro _ rfl), ?_⟩;refine zC ?_;exact rfl) (by exact ⟨rfl, zo⟩) (by exact rfl) (by simp [namesL]) (by exact ⟨⟨zo, zo, zo⟩, zo⟩)) ?_
              refine zV (laF (by exact rfl) (by exact rfl) (by decide) (by decide) (by exact RowsOf.cons (by exact rfl) (RowsOf.cons (by exact rfl) RowsOf.nil)) (by exact AllP.cons (by exact rfl) (AllP.cons (by exact rfl) AllP.nil))) ?_;refine zV lad ?_;refine zE lax ?_;refine zn (zR ?_);refine zV laa ?_;refine zV laa ?_
              refine zY (lat (ldT ((readK d (readK d q.2).2).2)) rfl (by refine ⟨_, _, rfl, (by exact LeU.of_eq rfl zo), (by exact Exists.intro _ rfl), ?_⟩;exact rfl) (by exact ⟨rfl, zo⟩) (by exact rfl) (by simp [namesL]) (by exact ⟨⟨zo, zo, zo⟩, zo⟩)) ?_
              skip
              refine zV (laN (b := sRp) (by exact rfl) (by exact rfl)) ?_
              cases hc : sEq (readK d (readK d q.2).2).2.next.1 sRp with
              | false =>
                refine zV laa ?_;refine zs ?_;refine zs ?_;refine zs ?_;refine zs ?_;refine zV laA ?_;refine zV lag ?_;refine zV lad ?_;refine zE lax ?_;refine zn (zQ ?_);refine zV laj ?_;refine zE laf ?_;refine zn (zre ?_)
                refine rq ?_
                exact ret_ty (by exact .inr rfl) (by exact rfl) (by exact rfl) pairCells (by exact rfl) (by unfold Rd.close; rw [hc]; exact laX _)
              | true =>
                refine zV laa ?_;refine zI laa ?_;refine zI lag ?_;refine zI lad ?_;refine zI lae ?_;refine zV law ?_;refine zV lag ?_;refine zV lad ?_;refine zE lax ?_;refine zn (zQ ?_);refine zV laj ?_;refine zE laf ?_;refine zn (zre ?_)
                refine rq ?_
                exact ret_ty (by exact .inr rfl) (by exact rfl) (by exact rfl) pairCells (by exact rfl) (by unfold Rd.close; rw [hc]; exact laX _)
namespace EvI
instance : TOne Tryz.prog 80 := ⟨by kernel_rfl⟩
instance : TOne Tryz.prog 120 := ⟨by kernel_rfl⟩
instance : TOne Tryz.prog 83 := ⟨by kernel_rfl⟩
instance : TElem Tryz.prog 120 85 4 32 := ⟨by kernel_rfl⟩
instance : TAgg Tryz.prog 85 4 := ⟨by kernel_rfl⟩
instance : TField Tryz.prog 85 0 0 := ⟨by kernel_rfl⟩
instance : TField Tryz.prog 85 1 1 := ⟨by kernel_rfl⟩
instance : TField Tryz.prog 85 2 2 := ⟨by kernel_rfl⟩
instance : TField Tryz.prog 85 3 3 := ⟨by kernel_rfl⟩
instance : TStruct Tryz.prog 85 [(0, 1), (1, 1), (2, 1), (3, 1)] := ⟨by kernel_rfl⟩
instance : TZero Tryz.prog 85 [.int .i64 0, .int .i64 0, .nilf, .int .i64 0] := ⟨[.int .i64 0, .int .i64 0, .nilFunc, .int .i64 0], by kernel_rfl, by (repeat' (first | exact trivial | exact rfl | refine ⟨?_, ?_⟩)); done⟩
instance : TAgg Tryz.prog 82 4 := ⟨by kernel_rfl⟩
instance : TField Tryz.prog 82 0 0 := ⟨by kernel_rfl⟩
instance : TField Tryz.prog 82 1 1 := ⟨by kernel_rfl⟩
instance : TStruct Tryz.prog 82 [(0, 1), (1, 3)] := ⟨by kernel_rfl⟩
instance : TZero Tryz.prog 82 [.int .i64 0, .int .i64 0, .int .i64 0, .bool false] := ⟨[.int .i64 0, .int .i64 0, .int .i64 0, .bool false], by kernel_rfl, by (repeat' (first | exact trivial | exact rfl | refine ⟨?_, ?_⟩)); done⟩
end EvI
theorem lau {g F : Nat} : C.loc 1000 g ∈ wOk g F := by simp [wOk]
theorem laR {g : Nat} {o : Out} : C.loc 1000 g ∈ wEnd g o := by simp [wEnd]
theorem gh_locB {d : List Nat} {t : Nat → U} {h : Nat → Option Blk} {b g : Nat} (j : Nat) {cells : List C} (hb : h b = some (.obj cells)) (hl : C.loc b g ∈ cells) (hj : j < cells.length) : Gh d t h t (upd h b (some (.obj (cells.set j (.loc b g))))) := by
  unfold Gh
  rintro E a w ⟨F, ρ, S⟩
  obtain ⟨q1, q2⟩ := laU S.heap hb hl
  obtain ⟨hv, g', e, cs, h1, h2, h3⟩ := S.heap.blk b _ hb
  have hle : ∀ b' x, h b' = some x → ∃ x', upd h b (some (.obj (cells.set j (.loc b g)))) b' = some x' ∧ leB x x' := fun b' x hx => by
    by_cases hbb : b' = b
    · subst hbb
      rw [hb] at hx; cases hx
      exact ⟨_, la3 _ _ _, zo⟩
    · exact ⟨x, by rw [lbl _ _ hbb]; exact hx, lb7 x⟩
  have hne : ∀ b', upd h b (some (.obj (cells.set j (.loc b g)))) b' ≠ none → h b' ≠ none := fun b' hb' => by
    by_cases hbb : b' = b
    · subst hbb; rw [hb]; simp
    · rwa [lbl _ _ hbb] at hb'
  refine ⟨F, ρ, S.rel, ⟨fun b' x hx => ?_, fun b1 b2 g' k1 k2 => S.heap.inj b1 b2 g' (hne _ k1) (hne _ k2), fun b1 g' k1 => S.heap.notF b1 g' (hne _ k1), S.heap.lt, fun b' x hx => ?_, S.heap.gl, S.heap.gx⟩, fun x => ldk hle (S.okt x), fun b1 g' k1 => S.own b1 g' (hne _ k1), S.F0, S.Fnew, S.os, S.tape, S.output, S.size, S.kept, S.stab, S.d, S.tmps, S.defers⟩
  · have hx : upd h b (some (.obj (cells.set j (.loc b g)))) b' = some x := hx
    by_cases hbb : b' = b
    · subst hbb
      rw [la3] at hx; cases hx
      refine ⟨hv, g', e, cs, h1, h2, fun i c hc => ?_⟩
      rw [List.getElem?_set] at hc
      split at hc
      · rename_i hij
        subst hij
        cases hc
        obtain ⟨u, hu, hr⟩ := h3 j cells[j] (List.getElem?_eq_getElem hj)
        exact ⟨u, hu, lfx hr, fun _ => q2⟩
      · exact h3 i c hc
    · rw [lbl _ _ hbb] at hx
      exact S.heap.blk b' x hx
  · have hx : upd h b (some (.obj (cells.set j (.loc b g)))) b' = some x := hx
    show okBlk (upd h b (some (.obj (cells.set j (.loc b g))))) x
    by_cases hbb : b' = b
    · subst hbb
      rw [la3] at hx; cases hx
      intro c hc
      have hc := List.mem_or_eq_of_mem_set hc
      rcases hc with hc | rfl
      · exact lcd hle (S.heap.ok b' _ hb c hc)
      · exact ⟨_, la3 _ _ _⟩
    · rw [lbl _ _ hbb] at hx
      exact lcE hle (S.heap.ok b' x hx)
theorem lbj {P : Program} {x : Tmp} {tx : TypeId} {bx : Nat} {k k' m m' : List C} {e : Exit} {t : Nat → U} {h : Nat → Option Blk} [T : TAgg P tx 4] (he : e = .normal ∨ e = .ret) (hx : t x = .one (.ptr bx 0)) (hbx : h bx = some (.obj k)) (hk : All2 (WkC h [] []) k k') (hl : k'.length = 4)
    (hb : h 1000 = some (.obj m)) (hm : All2 (WkC h [] []) m m') (hok : okU' (ofL [(1000, .obj m')]) (.agg k')) (hok2 : okBlk' (ofL [(1000, .obj m')]) (.obj m')) : RetQ P #[.cell x tx] (.agg k') [(1000, .obj m')] e t h :=
  ⟨he, [.agg k], ⟨⟨bx, k, hx, hbx, .inl ⟨4, T, hk.length.trans hl, rfl⟩⟩, trivial⟩, ⟨trivial, trivial⟩, .agg k, rfl, [], trivial, hk, ⟨⟨_, hb, hm⟩, trivial⟩, rfl, hok, ⟨hok2, trivial⟩⟩
theorem okW {g F : Nat} : okBlk' (ofL [(1000, .obj (wOk g F))]) (.obj (wOk g F)) := ⟨trivial, trivial, trivial, ⟨_, rfl⟩, trivial⟩
theorem okE {g : Nat} {o : Out} : okBlk' (ofL [(1000, .obj (wEnd g o))]) (.obj (wEnd g o)) := ⟨⟨_, rfl⟩, trivial, trivial, trivial, trivial⟩
theorem okT0 {h : Nat → Option Blk} : okU' h (.agg th0) := ⟨trivial, trivial, trivial, trivial, trivial⟩
theorem lf3 {g : Nat} {r : Res} : okBlk' (ofL [(1000, .obj (wAft g r))]) (.obj (wAft g r)) := by
  cases r with
  | ok v F => exact okW
  | out o => exact okE
set_option maxHeartbeats 1000000 in
theorem over_a (g F : Nat) (o : Out) : ACalls Tryz.prog 72 [.one (.ptr 1000 0), o.u] [(1000, .obj (wOk g F))] (.agg th0) [(1000, .obj (wEnd g o))] := by
  refine zB1 Tryz.func72 ?_
  unfold Out.u Out.c
  refine AW.gh (gh_locB (b := 1000) 0 (by exact rfl) (lau (F := F)) (by exact Nat.succ_pos _)) ?_
  refine zQ ?_;refine zM lan ?_;refine zM lah ?_;refine zn (zq (zQ ?_));refine zV laa ?_;refine zV lag ?_;refine zV lad ?_;refine zV lad ?_;refine zV lae ?_;refine zV lac ?_;refine zn ?_;refine zcT ?_;refine zR ?_;refine zV laa ?_;refine zV laj ?_;refine zV lag ?_;refine zV lad ?_;refine zE lax ?_;refine zn (zQ ?_);refine zV laq ?_;refine zE laf ?_;refine zn (zre ?_)
  exact lbj (.inr rfl) (by exact rfl) (by exact rfl) (laX _) rfl (by exact rfl) (laX _) okT0 okE
set_option maxHeartbeats 1000000 in
theorem lci (g F : Nat) : ACalls Tryz.prog 70 [.one (.ptr 1000 0)] [(1000, .obj (wOk g F))] (.agg th0) [(1000, .obj (wEnd g .stuck))] := by
  refine zB1 Tryz.func70 ?_
  refine zQ ?_;refine zM lah ?_;refine zn (zQ ?_);refine zV laa ?_;refine zV laq ?_
  refine zY (lat (over_a g F .stuck) rfl (by refine ⟨_, _, rfl, (by exact LeU.of_eq rfl zo), (by exact Exists.intro _ rfl), ?_⟩;refine ⟨_, _, rfl, (by exact LeU.of_eq rfl zo), (by exact ⟨zo, zo, zo, zo⟩), ?_⟩;exact rfl)) ?_
  refine zE laf ?_;refine zn (zre ?_)
  exact lbj (.inr rfl) (by exact rfl) (by exact rfl) (laX _) rfl (by exact rfl) (laX _) okT0 okE
set_option maxHeartbeats 2000000 in
theorem lf4 (g F : Nat) (v : V) (f t : Ty) (at' : Int) (back : Bool) (hs : f.same t = true) : ACalls Tryz.prog 73 [.one (.ptr 1000 0), .agg (V.th g v), Ty.u (f), Ty.u (t), .one (.int .i64 at'), .one (.bool back)] [(1000, .obj (wOk g F))] (.agg (V.th g v)) [(1000, .obj (wOk g F))] := by
  obtain ⟨c, hc, tg, e⟩ := lbk g v
  have hsa := lc3 f t
  rw [hs] at hsa
  rw [e]
  refine zB1 Tryz.func73 ?_
  refine zQ ?_;refine zM laE ?_;refine zM lan ?_;refine zM lan ?_;refine zM lan ?_;refine zM laE ?_;refine zM laE ?_;refine zM lah ?_;refine zn ?_;refine AW.gh (lbV (bw := 6) (b := 1000) (by exact rfl) (by exact rfl) lau) ?_;refine AW.gh (laZ [(6, .one (fpo [.raw g 0] 0)), (7, .one (.ptr 7 0)), (8, .one (fpo f.c 0)), (9, .one (fpo t.c 0)), (10, .one (fpo [.int .i64 at'] 0)), (11, .one (fpo [.bool back] 0)), (12, .one (.ptr 12 0))] [(1000, .obj (wOk g F)), (7, .obj ([.int .i64 v.seen.kind, .int .i64 v.seen.n, c, .int .i64 tg])), (12, .obj th0)] [6, 8, 9, 10, 11] [] ⟨(by exact WkC.obj (List.mem_cons_self ..) rfl (la0 _)), (zw rfl zo), (by exact WkC.obj (by decide) rfl (la0 _)), (by exact WkC.obj (by decide) rfl (la0 _)), (by exact WkC.obj (by decide) rfl (la0 _)), (by exact WkC.obj (by decide) rfl (la0 _)), (zw rfl zo), zo⟩ ⟨(by exact zb rfl), (by exact zb rfl), (by exact zb rfl), zo⟩ ⟨⟨_, rfl, rfl⟩, ⟨_, rfl, rfl⟩, ⟨_, rfl, rfl⟩, ⟨_, rfl, rfl⟩, ⟨_, rfl, rfl⟩, zo⟩ trivial rfl rfl ⟨zo, ⟨_, rfl⟩, zo, zo, zo, zo, ⟨_, rfl⟩, zo⟩ ⟨(by exact ⟨zo, zo, zo, ⟨_, rfl⟩, zo⟩), (by exact ⟨zo, zo, la5 (by assumption), zo, zo⟩), (by exact ⟨zo, zo, zo, zo, zo⟩), zo⟩) ?_
  refine zq (zbl (zQ ?_));refine zV (lav (b := 1000) (by exact rfl) (by exact rfl) (by exact rfl) (by exact lau)) ?_;refine zV lag ?_;refine zV lad ?_;refine zV lad ?_;refine zV lae ?_;refine zV lac ?_;refine zV laa ?_;refine zI lao ?_;refine zI lao ?_
  refine zI (lal (hsa) rfl (by refine zC2 ?_;refine zC2 ?_;exact rfl)) ?_
  refine zV law ?_;refine zV lab ?_;refine zn ?_;refine zcT ?_;refine zQ ?_;refine zV laj ?_;refine zE laf ?_;refine zn (zre ?_)
  exact lbj (.inr rfl) (by exact rfl) (by exact rfl) (laX _) rfl (by exact rfl) (laX _) (by exact ⟨zo, zo, la5 hc, zo, zo⟩) okW
set_option maxHeartbeats 2000000 in
theorem cast_fun (g F : Nat) (v : V) (f t : Ty) (at' : Int) (back : Bool) (hs : f.same t = false) (h1 : f.k = 3) (h2 : t.k = 3) : ACalls Tryz.prog 73 [.one (.ptr 1000 0), .agg (V.th g v), Ty.u (f), Ty.u (t), .one (.int .i64 at'), .one (.bool back)] [(1000, .obj (wOk g F))] (.agg (V.th g (.wrap v f t at' back))) [(1000, .obj (wOk g F))] := by
  obtain ⟨c, hc, tg, e⟩ := lbk g v
  have hsa := lc3 f t
  rw [hs] at hsa
  have k1 : (f.k == 3) = true := by simpa using h1
  have k2 : (t.k == 3) = true := by simpa using h2
  rw [show V.th g (.wrap v f t at' back) = [.int .i64 3, .int .i64 0, cloOf 106 [wHeld g, .one (fpo t.c 0), .one (fpo f.c 0), .one (fpo [.int .i64 at'] 0), .one (fpo [.bool back] 0), .one (fpo (V.th g v) 0)], .int .i64 0] by simp only [V.th], e]
  refine zB1 Tryz.func73 ?_
  refine zQ ?_;refine zM laE ?_;refine zM lan ?_;refine zM lan ?_;refine zM lan ?_;refine zM laE ?_;refine zM laE ?_;refine zM lah ?_;refine zn ?_;refine AW.gh (lbV (bw := 6) (b := 1000) (by exact rfl) (by exact rfl) lau) ?_;refine AW.gh (laZ [(6, .one (fpo [.raw g 0] 0)), (7, .one (.ptr 7 0)), (8, .one (fpo f.c 0)), (9, .one (fpo t.c 0)), (10, .one (fpo [.int .i64 at'] 0)), (11, .one (fpo [.bool back] 0)), (12, .one (.ptr 12 0))] [(1000, .obj (wOk g F)), (7, .obj ([.int .i64 v.seen.kind, .int .i64 v.seen.n, c, .int .i64 tg])), (12, .obj th0)] [6, 8, 9, 10, 11] [] ⟨(by exact WkC.obj (List.mem_cons_self ..) rfl (la0 _)), (zw rfl zo), (by exact WkC.obj (by decide) rfl (la0 _)), (by exact WkC.obj (by decide) rfl (la0 _)), (by exact WkC.obj (by decide) rfl (la0 _)), (by exact WkC.obj (by decide) rfl (la0 _)), (zw rfl zo), zo⟩ ⟨(by exact zb rfl), (by exact zb rfl), (by exact zb rfl), zo⟩ ⟨⟨_, rfl, rfl⟩, ⟨_, rfl, rfl⟩, ⟨_, rfl, rfl⟩, ⟨_, rfl, rfl⟩, ⟨_, rfl, rfl⟩, zo⟩ trivial rfl rfl ⟨zo, ⟨_, rfl⟩, zo, zo, zo, zo, ⟨_, rfl⟩, zo⟩ ⟨(by exact ⟨zo, zo, zo, ⟨_, rfl⟩, zo⟩), (by exact ⟨zo, zo, la5 (by assumption), zo, zo⟩), (by exact ⟨zo, zo, zo, zo, zo⟩), zo⟩) ?_
  refine zq (zbl (zQ ?_));refine zV (lav (b := 1000) (by exact rfl) (by exact rfl) (by exact rfl) (by exact lau)) ?_;refine zV lag ?_;refine zV lad ?_;refine zV lad ?_;refine zV lae ?_;refine zV lac ?_;refine zV laa ?_;refine zI lao ?_;refine zI lao ?_
  refine zI (lal (hsa) rfl (by refine zC2 ?_;refine zC2 ?_;exact rfl)) ?_
  refine zV law ?_;refine zV lab ?_;refine zn ?_
  refine zcF ?_
  refine zq ?_
  refine zR ?_
  refine zV lak ?_;refine zV lai ?_;refine zV lac ?_;refine zV laa ?_;refine zT lak ?_;refine zT lai ?_;refine zT lac ?_;refine zV (lam true) ?_;refine zV lab ?_;refine zn ?_
  refine AW.condTa (by exact rfl) k2 ?_
  refine AW.gh (laZ [(6, .one (fpo [.raw g 0] 0)), (7, .one (fpo [.int .i64 v.seen.kind, .int .i64 v.seen.n, c, .int .i64 tg] 0)), (8, .one (fpo f.c 0)), (9, .one (fpo t.c 0)), (10, .one (fpo [.int .i64 at'] 0)), (11, .one (fpo [.bool back] 0)), (12, .one (.ptr 12 0))] [(1000, .obj (wOk g F)), (12, .obj th0)] [7] [] ⟨(by exact WkU.of_eq rfl zo), (by exact WkC.obj (List.mem_cons_self ..) rfl (la0 _)), (by exact WkU.of_eq rfl zo), (by exact WkU.of_eq rfl zo), (by exact WkU.of_eq rfl zo), (by exact WkU.of_eq rfl zo), (zw rfl zo), zo⟩ ⟨(by exact zb rfl), (by exact zb rfl), zo⟩ ⟨⟨_, rfl, by rw [← e];exact th_closed g v⟩, zo⟩ trivial rfl rfl ⟨zo, zo, zo, zo, zo, zo, ⟨_, rfl⟩, zo⟩ ⟨(by exact ⟨zo, zo, zo, ⟨_, rfl⟩, zo⟩), (by exact ⟨zo, zo, zo, zo, zo⟩), zo⟩) ?_
  refine zq ?_
  refine zR ?_
  skip
  refine zV (lfj (us' := [wHeld g, .one (fpo t.c 0), .one (fpo f.c 0), .one (fpo [.int .i64 at'] 0), .one (fpo [.bool back] 0), .one (fpo [.int .i64 v.seen.kind, .int .i64 v.seen.n, c, .int .i64 tg] 0)]) [] (by exact rfl) (by exact ⟨.le (LeU.of_eq rfl zo), .le (LeU.of_eq rfl zo), .le (LeU.of_eq rfl zo), .le (LeU.of_eq rfl zo), .le (LeU.of_eq rfl zo), .le (LeU.of_eq rfl zo), zo⟩) (by exact rfl)) ?_
  refine zV laq ?_;refine zE laf ?_;refine zn (zre ?_)
  exact lbj (.inr rfl) (by exact rfl) (by exact rfl) (laX _) rfl (by exact rfl) (laX _) (by exact ⟨zo, zo, zo, zo, zo⟩) okW
theorem lf5 {f : Ty} (hf : Right f) : f.ground.k = f.k := by
  by_cases h : f.k = 3
  · unfold Ty.ground; rw [if_pos (by simpa using h), h]; rfl
  · rw [lbY hf h]
theorem cast_g (g F : Nat) (v : V) (f : Ty) (at' : Int) (back : Bool) (hf : Right f) : ACalls Tryz.prog 73 [.one (.ptr 1000 0), .agg (V.th g v), Ty.u (f), Ty.u (f.ground), .one (.int .i64 at'), .one (.bool back)] [(1000, .obj (wOk g F))] (.agg (V.th g (if f.same f.ground then v else .wrap v f f.ground at' back))) [(1000, .obj (wOk g F))] := by
  cases hs : f.same f.ground with
  | true => exact lf4 g F v f _ at' back hs
  | false =>
    have h3 : f.k = 3 := Decidable.byContradiction fun h3 => by rw [lbY hf h3, lbP] at hs; cases hs
    exact cast_fun g F v f _ at' back hs h3 ((lf5 hf).trans h3)
theorem th_tag {g : Nat} {v : V} {gr : Ty} {k n tg : Int} {c : C} (e : V.th g v = [.int .i64 k, .int .i64 n, c, .int .i64 tg]) : V.th g (.tag v gr) = [.int .i64 k, .int .i64 n, c, .int .i64 gr.k] := by simp only [V.th, tagC, e]; rfl
set_option maxHeartbeats 2000000 in
theorem cast_tag (g F : Nat) (v : V) (f t : Ty) (at' : Int) (back : Bool) (hf : Right f) (hs : f.same t = false) (h0 : t.k = 0) : ACalls Tryz.prog 73 [.one (.ptr 1000 0), .agg (V.th g v), Ty.u (f), Ty.u (t), .one (.int .i64 at'), .one (.bool back)] [(1000, .obj (wOk g F))] (.agg (V.th g (.tag (if f.same f.ground then v else .wrap v f f.ground at' back) f.ground))) [(1000, .obj (wOk g F))] := by
  obtain ⟨c, hc, tg, e⟩ := lbk g v
  have hsa := lc3 f t
  rw [hs] at hsa
  have hca := cast_g g F v f at' back hf
  generalize (if f.same f.ground then v else .wrap v f f.ground at' back) = v' at hca ⊢
  obtain ⟨c', hc', tg', e'⟩ := lbk g v'
  have k0 : (t.k == 0) = true := by simpa using h0
  have k2 : (t.k == 3) = false := by rw [h0]; rfl
  rw [th_tag e', lf5 hf]
  rw [e, e'] at hca
  rw [e]
  refine zB1 Tryz.func73 ?_
  refine zQ ?_;refine zM laE ?_;refine zM lan ?_;refine zM lan ?_;refine zM lan ?_;refine zM laE ?_;refine zM laE ?_;refine zM lah ?_;refine zn ?_;refine AW.gh (lbV (bw := 6) (b := 1000) (by exact rfl) (by exact rfl) lau) ?_;refine AW.gh (laZ [(6, .one (fpo [.raw g 0] 0)), (7, .one (.ptr 7 0)), (8, .one (fpo f.c 0)), (9, .one (fpo t.c 0)), (10, .one (fpo [.int .i64 at'] 0)), (11, .one (fpo [.bool back] 0)), (12, .one (.ptr 12 0))] [(1000, .obj (wOk g F)), (7, .obj ([.int .i64 v.seen.kind, .int .i64 v.seen.n, c, .int .i64 tg])), (12, .obj th0)] [6, 8, 9, 10, 11] [] ⟨(by exact WkC.obj (List.mem_cons_self ..) rfl (la0 _)), (zw rfl zo), (by exact WkC.obj (by decide) rfl (la0 _)), (by exact WkC.obj (by decide) rfl (la0 _)), (by exact WkC.obj (by decide) rfl (la0 _)), (by exact WkC.obj (by decide) rfl (la0 _)), (zw rfl zo), zo⟩ ⟨(by exact zb rfl), (by exact zb rfl), (by exact zb rfl), zo⟩ ⟨⟨_, rfl, rfl⟩, ⟨_, rfl, rfl⟩, ⟨_, rfl, rfl⟩, ⟨_, rfl, rfl⟩, ⟨_, rfl, rfl⟩, zo⟩ trivial rfl rfl ⟨zo, ⟨_, rfl⟩, zo, zo, zo, zo, ⟨_, rfl⟩, zo⟩ ⟨(by exact ⟨zo, zo, zo, ⟨_, rfl⟩, zo⟩), (by exact ⟨zo, zo, la5 (by assumption), zo, zo⟩), (by exact ⟨zo, zo, zo, zo, zo⟩), zo⟩) ?_
  refine zq (zbl (zQ ?_));refine zV (lav (b := 1000) (by exact rfl) (by exact rfl) (by exact rfl) (by exact lau)) ?_;refine zV lag ?_;refine zV lad ?_;refine zV lad ?_;refine zV lae ?_;refine zV lac ?_;refine zV laa ?_;refine zI lao ?_;refine zI lao ?_
  refine zI (lal (hsa) rfl (by refine zC2 ?_;refine zC2 ?_;exact rfl)) ?_
  refine zV law ?_;refine zV lab ?_;refine zn ?_
  refine zcF ?_
  rcases Bool.eq_false_or_eq_true (f.k == 3) with k1 | k1
  · refine zQ ?_; refine zV lak ?_; refine zV lai ?_; refine zV lac ?_; refine zV laa ?_; refine zT lak ?_; refine zT lai ?_; refine zT lac ?_; refine zV (lam true) ?_; refine zV lab ?_; refine zn ?_; refine AW.condFa (by exact rfl) k2 ?_; refine zQ ?_; refine zV lak ?_; refine zV lai ?_; refine zV lac ?_; refine zV lab ?_; refine zn ?_; refine AW.condTa (by exact rfl) k0 ?_; refine zq ?_; refine zRD ?_; refine zV (lav (b := 1000) (by exact rfl) (by exact rfl) (by exact rfl) (by exact lau)) ?_; refine zV laj ?_; refine zV lao ?_; refine zV lao ?_; refine zV (lal (ld8 f) rfl (by refine zC2 ?_; exact rfl)) ?_; refine zV lai ?_; refine zV lai ?_; refine zY (lat (hca) rfl (by refine ⟨_, _, rfl, (by exact LeU.of_eq rfl trivial), (by exact Exists.intro _ rfl), ?_⟩; refine ⟨_, _, rfl, (by exact LeU.of_eq rfl trivial), (by (exact ⟨trivial, trivial, la5 (by assumption), trivial, trivial⟩; done)), ?_⟩; refine zC2 ?_; refine zC2 ?_; refine zC ?_; refine zC ?_; exact rfl)) ?_; refine zE laf ?_; refine znD ?_; refine zQ ?_; refine zV lak ?_; refine zV lai ?_; refine zV lad ?_; refine zE lax ?_; refine zn (zQ ?_); refine zV laj ?_; refine zE laf ?_; refine zn (zre ?_); exact lbj (.inr rfl) (by exact rfl) (by exact rfl) (laX _) rfl (by exact rfl) (laX _) (by exact ⟨trivial, trivial, la5 hc', trivial, trivial⟩) okW
  · refine zQ ?_; refine zV lak ?_; refine zV lai ?_; refine zV lac ?_; refine zV laa ?_; refine zf ?_; refine zf ?_; refine zf ?_; refine zV (lam false) ?_; refine zV lab ?_; refine zn ?_; refine zcF ?_; refine zQ ?_; refine zV lak ?_; refine zV lai ?_; refine zV lac ?_; refine zV lab ?_; refine zn ?_; refine AW.condTa (by exact rfl) k0 ?_; refine zq ?_; refine zRD ?_; refine zV (lav (b := 1000) (by exact rfl) (by exact rfl) (by exact rfl) (by exact lau)) ?_; refine zV laj ?_; refine zV lao ?_; refine zV lao ?_; refine zV (lal (ld8 f) rfl (by refine zC2 ?_; exact rfl)) ?_; refine zV lai ?_; refine zV lai ?_; refine zY (lat (hca) rfl (by refine ⟨_, _, rfl, (by exact LeU.of_eq rfl trivial), (by exact Exists.intro _ rfl), ?_⟩; refine ⟨_, _, rfl, (by exact LeU.of_eq rfl trivial), (by (exact ⟨trivial, trivial, la5 (by assumption), trivial, trivial⟩; done)), ?_⟩; refine zC2 ?_; refine zC2 ?_; refine zC ?_; refine zC ?_; exact rfl)) ?_; refine zE laf ?_; refine znD ?_; refine zQ ?_; refine zV lak ?_; refine zV lai ?_; refine zV lad ?_; refine zE lax ?_; refine zn (zQ ?_); refine zV laj ?_; refine zE laf ?_; refine zn (zre ?_); exact lbj (.inr rfl) (by exact rfl) (by exact rfl) (laX _) rfl (by exact rfl) (laX _) (by exact ⟨trivial, trivial, la5 hc', trivial, trivial⟩) okW
theorem th_none {g : Nat} {u : V} {gr : Ty} (hp : Plain gr) (hu : VT u gr) : ∃ c, closedC c = true ∧ V.th g u = [.int .i64 u.seen.kind, .int .i64 u.seen.n, c, .int .i64 0] := by
  cases hu with
  | tag hg hv => rcases hp with h | h | h <;> exact absurd (congrArg Ty.k h) (by decide)
  | num => exact ⟨_, rfl, rfl⟩
  | tru => exact ⟨_, rfl, rfl⟩
  | clo _ _ _ => exact ⟨_, rfl, rfl⟩
  | wrap _ _ _ _ _ _ _ => exact ⟨_, rfl, rfl⟩
theorem plain_k {gr : Ty} (hp : Plain gr) : gr.k ≠ 0 := by rcases hp with rfl | rfl | rfl <;> decide
theorem plain_gr {gr t : Ty} (hp : Plain gr) (ht : Right t) : gr.same t.ground = (gr.k == t.k) := by
  cases ht with
  | fn _ _ => rw [lcr]; rcases hp with rfl | rfl | rfl <;> rfl
  | base h =>
    rw [lbY (.base h) (by simp; omega)]
    rcases h with rfl | rfl | rfl <;> rcases hp with rfl | rfl | rfl <;> rfl
section
variable (g F : Nat) {u : V} {gr : Ty} (f t : Ty) (at' : Int) (back : Bool)
set_option maxHeartbeats 2000000 in
theorem cast_bl {c : C} (hc : closedC c = true) (e : V.th g u = [.int .i64 u.seen.kind, .int .i64 u.seen.n, c, .int .i64 0]) (hs : f.same t = false) (k1 : (f.k == 3) = false) (kz : (f.k == 0) = true) (k0 : (t.k == 0) = false) (kg : (gr.k != 0) = true) (kt : (gr.k != t.k) = true) : ACalls Tryz.prog 73 [.one (.ptr 1000 0), .agg (V.th g (.tag u gr)), Ty.u (f), Ty.u (t), .one (.int .i64 at'), .one (.bool back)] [(1000, .obj (wOk g F))] (.agg th0) [(1000, .obj (wEnd g (.blame at' back)))] := by
  have hsa := lc3 f t
  rw [hs] at hsa
  rw [th_tag e]
  refine zB1 Tryz.func73 ?_;refine zQ ?_;refine zM laE ?_;refine zM lan ?_;refine zM lan ?_;refine zM lan ?_;refine zM laE ?_;refine zM laE ?_;refine zM lah ?_;refine zn ?_;refine AW.gh (lbV (bw := 6) (b := 1000) (by exact rfl) (by exact rfl) lau) ?_;refine AW.gh (laZ [(6, .one (fpo [.raw g 0] 0)), (7, .one (.ptr 7 0)), (8, .one (fpo f.c 0)), (9, .one (fpo t.c 0)), (10, .one (fpo [.int .i64 at'] 0)), (11, .one (fpo [.bool back] 0)), (12, .one (.ptr 12 0))] [(1000, .obj (wOk g F)), (7, .obj ([.int .i64 u.seen.kind, .int .i64 u.seen.n, c, .int .i64 gr.k])), (12, .obj th0)] [6, 8, 9, 10, 11] [] ⟨(by exact WkC.obj (List.mem_cons_self ..) rfl (la0 _)), (zw rfl zo), (by exact WkC.obj (by decide) rfl (la0 _)), (by exact WkC.obj (by decide) rfl (la0 _)), (by exact WkC.obj (by decide) rfl (la0 _)), (by exact WkC.obj (by decide) rfl (la0 _)), (zw rfl zo), zo⟩ ⟨(by exact zb rfl), (by exact zb rfl), (by exact zb rfl), zo⟩ ⟨⟨_, rfl, rfl⟩, ⟨_, rfl, rfl⟩, ⟨_, rfl, rfl⟩, ⟨_, rfl, rfl⟩, ⟨_, rfl, rfl⟩, zo⟩ trivial rfl rfl ⟨zo, ⟨_, rfl⟩, zo, zo, zo, zo, ⟨_, rfl⟩, zo⟩ ⟨(by exact ⟨zo, zo, zo, ⟨_, rfl⟩, zo⟩), (by exact ⟨zo, zo, la5 (by assumption), zo, zo⟩), (by exact ⟨zo, zo, zo, zo, zo⟩), zo⟩) ?_;refine zq (zbl (zQ ?_));refine zV (lav (b := 1000) (by exact rfl) (by exact rfl) (by exact rfl) (by exact lau)) ?_;refine zV lag ?_;refine zV lad ?_;refine zV lad ?_;refine zV lae ?_;refine zV lac ?_;refine zV laa ?_;refine zI lao ?_;refine zI lao ?_;refine zI (lal (hsa) rfl (by refine zC2 ?_;refine zC2 ?_;exact rfl)) ?_;refine zV law ?_;refine zV lab ?_;refine zn ?_;refine zcF ?_;refine zQ ?_;refine zV lak ?_;refine zV lai ?_;refine zV lac ?_;refine zV laa ?_;refine zf ?_;refine zf ?_;refine zf ?_;refine zV (lam false) ?_;refine zV lab ?_;refine zn ?_;refine zcF ?_;refine zQ ?_;refine zV lak ?_;refine zV lai ?_;refine zV lac ?_;refine zV lab ?_;refine zn ?_;refine AW.condFa (by exact rfl) k0 ?_;refine zQ ?_;refine zV lak ?_;refine zV lai ?_;refine zV lac ?_;refine zV laa ?_;refine zT lad ?_;refine zT lae ?_;refine zT lac ?_;refine zV (lam true) ?_;refine zV lab ?_;refine zn ?_;refine AW.condTa (by exact rfl) kg ?_;refine zq (zQ ?_);refine zV lad ?_;refine zV lae ?_;refine zV lak ?_;refine zV lai ?_;refine zV lac ?_;refine zn ?_
  refine AW.condTa (by exact rfl) kt ?_
  refine zq ?_
  refine zR ?_
  refine zV (lav (b := 1000) (by exact rfl) (by exact rfl) (by exact rfl) (by exact lau)) ?_;refine zV lai ?_;refine zV lai ?_;refine zV laq ?_
  refine zY (lat (over_a g F (.blame at' back)) rfl (by refine ⟨_, _, rfl, (by exact LeU.of_eq rfl zo), (by exact Exists.intro _ rfl), ?_⟩;refine ⟨_, _, rfl, (by exact LeU.of_eq rfl zo), (by exact ⟨zo, zo, zo, zo⟩), ?_⟩;exact rfl)) ?_
  refine zE laf ?_;refine zn (zre ?_)
  exact lbj (.inr rfl) (by exact rfl) (by exact rfl) (laX _) rfl (by exact rfl) (laX _) okT0 okE
set_option maxHeartbeats 2000000 in
theorem cast_un {c : C} (hc : closedC c = true) (e : V.th g u = [.int .i64 u.seen.kind, .int .i64 u.seen.n, c, .int .i64 0]) (hs : f.same t = false) (k1 : (f.k == 3) = false) (kz : (f.k == 0) = true) (k0 : (t.k == 0) = false) (kg : (gr.k != 0) = true) (kt : (gr.k != t.k) = false) {v : V} (hca : ACalls Tryz.prog 73 [.one (.ptr 1000 0), .agg (V.th g u), Ty.u (t.ground), Ty.u (t), .one (.int .i64 at'), .one (.bool back)] [(1000, .obj (wOk g F))] (.agg (V.th g v)) [(1000, .obj (wOk g F))]) : ACalls Tryz.prog 73 [.one (.ptr 1000 0), .agg (V.th g (.tag u gr)), Ty.u (f), Ty.u (t), .one (.int .i64 at'), .one (.bool back)] [(1000, .obj (wOk g F))] (.agg (V.th g v)) [(1000, .obj (wOk g F))] := by
  have hsa := lc3 f t
  rw [hs] at hsa
  rw [th_tag e]
  obtain ⟨c', hc', tg', e'⟩ := lbk g v
  rw [e, e'] at hca
  rw [e']
  refine zB1 Tryz.func73 ?_;refine zQ ?_;refine zM laE ?_;refine zM lan ?_;refine zM lan ?_;refine zM lan ?_;refine zM laE ?_;refine zM laE ?_;refine zM lah ?_;refine zn ?_;refine AW.gh (lbV (bw := 6) (b := 1000) (by exact rfl) (by exact rfl) lau) ?_;refine AW.gh (laZ [(6, .one (fpo [.raw g 0] 0)), (7, .one (.ptr 7 0)), (8, .one (fpo f.c 0)), (9, .one (fpo t.c 0)), (10, .one (fpo [.int .i64 at'] 0)), (11, .one (fpo [.bool back] 0)), (12, .one (.ptr 12 0))] [(1000, .obj (wOk g F)), (7, .obj ([.int .i64 u.seen.kind, .int .i64 u.seen.n, c, .int .i64 gr.k])), (12, .obj th0)] [6, 8, 9, 10, 11] [] ⟨(by exact WkC.obj (List.mem_cons_self ..) rfl (la0 _)), (zw rfl zo), (by exact WkC.obj (by decide) rfl (la0 _)), (by exact WkC.obj (by decide) rfl (la0 _)), (by exact WkC.obj (by decide) rfl (la0 _)), (by exact WkC.obj (by decide) rfl (la0 _)), (zw rfl zo), zo⟩ ⟨(by exact zb rfl), (by exact zb rfl), (by exact zb rfl), zo⟩ ⟨⟨_, rfl, rfl⟩, ⟨_, rfl, rfl⟩, ⟨_, rfl, rfl⟩, ⟨_, rfl, rfl⟩, ⟨_, rfl, rfl⟩, zo⟩ trivial rfl rfl ⟨zo, ⟨_, rfl⟩, zo, zo, zo, zo, ⟨_, rfl⟩, zo⟩ ⟨(by exact ⟨zo, zo, zo, ⟨_, rfl⟩, zo⟩), (by exact ⟨zo, zo, la5 (by assumption), zo, zo⟩), (by exact ⟨zo, zo, zo, zo, zo⟩), zo⟩) ?_;refine zq (zbl (zQ ?_));refine zV (lav (b := 1000) (by exact rfl) (by exact rfl) (by exact rfl) (by exact lau)) ?_;refine zV lag ?_;refine zV lad ?_;refine zV lad ?_;refine zV lae ?_;refine zV lac ?_;refine zV laa ?_;refine zI lao ?_;refine zI lao ?_;refine zI (lal (hsa) rfl (by refine zC2 ?_;refine zC2 ?_;exact rfl)) ?_;refine zV law ?_;refine zV lab ?_;refine zn ?_;refine zcF ?_;refine zQ ?_;refine zV lak ?_;refine zV lai ?_;refine zV lac ?_;refine zV laa ?_;refine zf ?_;refine zf ?_;refine zf ?_;refine zV (lam false) ?_;refine zV lab ?_;refine zn ?_;refine zcF ?_;refine zQ ?_;refine zV lak ?_;refine zV lai ?_;refine zV lac ?_;refine zV lab ?_;refine zn ?_;refine AW.condFa (by exact rfl) k0 ?_;refine zQ ?_;refine zV lak ?_;refine zV lai ?_;refine zV lac ?_;refine zV laa ?_;refine zT lad ?_;refine zT lae ?_;refine zT lac ?_;refine zV (lam true) ?_;refine zV lab ?_;refine zn ?_;refine AW.condTa (by exact rfl) kg ?_;refine zq (zQ ?_);refine zV lad ?_;refine zV lae ?_;refine zV lak ?_;refine zV lai ?_;refine zV lac ?_;refine zn ?_
  refine AW.condFa (by exact rfl) kt ?_
  refine zsk ?_
  refine zq ?_
  refine zR ?_
  refine zV lad ?_;refine zE lax ?_;refine zn ?_
  refine zq ?_
  refine zRD ?_
  refine zV (lav (b := 1000) (by exact rfl) (by exact rfl) (by exact rfl) (by exact lau)) ?_;refine zV laj ?_;refine zV lao ?_
  refine zV (lal (ld8 t) rfl (by refine zC2 ?_;exact rfl)) ?_
  refine zV lao ?_;refine zV lai ?_;refine zV lai ?_
  refine zY (lat (hca) rfl (by refine ⟨_, _, rfl, (by exact LeU.of_eq rfl zo), (by exact Exists.intro _ rfl), ?_⟩;refine ⟨_, _, rfl, (by exact LeU.of_eq rfl zo), (by (exact ⟨zo, zo, la5 (by assumption), zo, zo⟩; done)), ?_⟩;refine zC2 ?_;refine zC2 ?_;refine zC ?_;refine zC ?_;exact rfl)) ?_
  refine zE laf ?_;refine znD ?_;refine zre ?_
  exact lbj (.inr rfl) (by exact rfl) (by exact rfl) (laX _) rfl (by exact rfl) (laX _) (by exact ⟨zo, zo, la5 hc', zo, zo⟩) okW
theorem lf6 {v : V} (hv : VT v f) (hf : Right f) (ht : Right t) (hfit : f.fits t = true) : ACalls Tryz.prog 73 [.one (.ptr 1000 0), .agg (V.th g v), Ty.u (f), Ty.u (t), .one (.int .i64 at'), .one (.bool back)] [(1000, .obj (wOk g F))] (.agg (resC g (castR v f t at' back F))) [(1000, .obj (wAft g (castR v f t at' back F)))] := by
  have hvt := ldg (at' := at') (back := back) hv hf ht hfit
  unfold castR
  unfold castV at hvt ⊢
  cases hs : f.same t with
  | true => exact lf4 g F v f t at' back hs
  | false =>
  simp only [hs, Bool.false_eq_true, if_false] at hvt ⊢
  by_cases h3 : (f.k == 3 && t.k == 3) = true
  · rw [if_pos h3]
    simp only [Bool.and_eq_true, beq_iff_eq] at h3
    exact cast_fun g F v f t at' back hs h3.1 h3.2
  rw [if_neg h3] at hvt ⊢
  by_cases h0 : (t.k == 0) = true
  · rw [if_pos h0]
    exact cast_tag g F v f t at' back hf hs (by simpa using h0)
  rw [if_neg h0] at hvt ⊢
  by_cases hz : (f.k == 0) = true
  · rw [if_pos hz] at hvt ⊢
    have e : f = .any := by
      cases hf with
      | base h =>
        rename_i k
        have : k = (0 : Int) := by simpa using hz
        subst this; rfl
      | fn _ _ => simp at hz
    subst e
    obtain ⟨u, gr, rfl, hp, hu⟩ := vt_any hv
    obtain ⟨c, hc, eu⟩ := th_none (g := g) hp hu
    simp only at hvt ⊢
    rw [plain_gr hp ht] at hvt ⊢
    have kg : (gr.k != 0) = true := by have := plain_k hp; simpa using this
    cases hk : (gr.k == t.k) with
    | false => exact cast_bl g F .any t at' back hc eu hs rfl rfl (by simpa using h0) kg (by show (!(gr.k == t.k)) = true; rw [hk]; rfl)
    | true =>
      simp only [hk, if_true] at hvt ⊢
      have kt : (gr.k != t.k) = false := by show (!(gr.k == t.k)) = false; rw [hk]; rfl
      cases hgs : t.ground.same t with
      | true => exact cast_un g F .any t at' back hc eu hs rfl rfl (by simpa using h0) kg kt (lf4 g F u t.ground t at' back hgs)
      | false =>
        have h3 : t.k = 3 := Decidable.byContradiction fun h3 => by rw [lbY ht h3, lbP] at hgs; cases hgs
        simp only [h3, Bool.false_eq_true, if_false] at hvt ⊢
        exact cast_un g F .any t at' back hc eu hs rfl rfl (by simpa using h0) kg kt (cast_fun g F u t.ground t at' back hgs ((lf5 ht).trans h3) h3)
  · exfalso
    rw [if_neg hz] at hvt
    rcases hvt with ⟨_, h, _⟩ | h
    · cases h
    · simp [Out.stuck, Out.blame] at h
end
def EvA (g : Nat) (t : Tm) (env : List V) (F : Nat) (r : Res) : Prop := ACalls Tryz.prog 41 [.one (.ptr 1000 0), t.u, .one (slOf 4 (thRows g env))] [(1000, .obj (wOk g F))] (.agg (resC g r)) [(1000, .obj (wAft g r))]
theorem lcG (g : Nat) (r : Res) : ∃ k n c tg, closedC c = true ∧ resC g r = [.int .i64 k, .int .i64 n, c, .int .i64 tg] := by
  cases r with
  | ok v F => obtain ⟨c, hc, tg, e⟩ := lbk g v; exact ⟨_, _, c, tg, hc, e⟩
  | out o => exact ⟨_, _, _, _, rfl, rfl⟩
section
variable (g F : Nat) (n : Int) (T f : Ty) (l : List Tm) (env : List V)
set_option maxHeartbeats 2000000 in
theorem eva_ref {m : Nat} {v : V} (hv : env[m]? = some v) : EvA g (.mk 1 (m : Nat) T f l) env F (.ok v F) := by
  obtain ⟨c, hc, tg, e⟩ := lbk g v
  have hr1 := thRows_get (g := g) hv
  rw [e] at hr1
  have hlt : m < env.length := (List.getElem?_eq_some_iff.1 hv).1
  have h1 : decide (((m : Nat) : Int) < 0) = false := by simp
  have h2 : decide (((m : Nat) : Int) ≥ (((thRows g env).length : Nat) : Int)) = false := by rw [lcP]; simp; omega
  unfold EvA
  show ACalls _ _ _ _ (.agg (V.th g v)) [(1000, .obj (wOk g F))]
  rw [e]
  let t : Tm := .mk 1 (m : Nat) T f l
  refine zB1 Tryz.func41 ?_;refine zQ ?_;refine zM laE ?_;refine zM lan ?_;refine zM laE ?_;refine zM lah ?_;refine zn ?_;refine AW.gh (lbV (bw := 3) (b := 1000) (by exact rfl) (by exact rfl) lau) ?_;refine AW.gh (laZ [(3, .one (fpo [.raw g 0] 0)), (4, .one (fpo (t).c 0)), (5, .one (fpo [slOf 4 (thRows g env)] 0)), (6, .one (.ptr 6 0))] [(1000, .obj (wOk g F)), (6, .obj th0)] [3, 4, 5] [] ⟨(by exact WkC.obj (List.mem_cons_self ..) rfl (la0 _)), (by exact WkC.obj (by decide) rfl (la0 _)), (by exact WkC.obj (by decide) rfl (la0 _)), (zw rfl zo), zo⟩ ⟨(by exact zb rfl), (by exact zb rfl), zo⟩ ⟨⟨_, rfl, rfl⟩, ⟨_, rfl, rfl⟩, ⟨_, rfl, rfl⟩, zo⟩ trivial rfl rfl ⟨zo, zo, zo, ⟨_, rfl⟩, zo⟩ ⟨(by exact ⟨zo, zo, zo, ⟨_, rfl⟩, zo⟩), (by exact ⟨zo, zo, zo, zo, zo⟩), zo⟩) ?_
  refine zq (zQ ?_);refine zV (lav (b := 1000) (by exact rfl) (by exact rfl) (by exact rfl) (by exact lau)) ?_;refine zV lag ?_;refine zV lad ?_;refine zV lad ?_;refine zV lae ?_;refine zV lac ?_;refine zn ?_;refine zcF ?_;refine zsk (zq (zQ ?_));refine zV lak ?_;refine zV lai ?_;refine zn (zbl (zQ ?_));refine zV lac ?_;refine zV lab ?_;refine zn ?_;refine zcT ?_;refine zq (zQ ?_);refine zV lak ?_;refine zV lai ?_;refine zV lac ?_;refine zV laa ?_;refine zI lak ?_;refine zI lai ?_;refine zI lai ?_;refine zI lay ?_;refine zI lac ?_;refine zV law ?_;refine zn ?_;refine zaF ?_;refine zsk (zQ ?_);refine zV lai ?_;refine zV lak ?_;refine zV lai ?_;refine zV (lap _) ?_;refine zV lao ?_;refine zE laf ?_;refine zn (zre ?_)
  exact lbj (.inr rfl) (by exact rfl) (by exact rfl) (laX _) rfl (by exact rfl) (laX _) (by exact ⟨zo, zo, la5 hc, zo, zo⟩) okW
set_option maxHeartbeats 2000000 in
theorem eva_refS {m : Nat} (hv : env[m]? = none) : EvA g (.mk 1 (m : Nat) T f l) env F (.out .stuck) := by
  have hlt : env.length ≤ m := List.getElem?_eq_none_iff.1 hv
  have h1 : decide (((m : Nat) : Int) < 0) = false := by simp
  have h2 : decide (((m : Nat) : Int) ≥ (((thRows g env).length : Nat) : Int)) = true := by rw [lcP]; simp; omega
  unfold EvA
  show ACalls _ _ _ _ (.agg th0) [(1000, .obj (wEnd g .stuck))]
  let t : Tm := .mk 1 (m : Nat) T f l
  refine zB1 Tryz.func41 ?_;refine zQ ?_;refine zM laE ?_;refine zM lan ?_;refine zM laE ?_;refine zM lah ?_;refine zn ?_;refine AW.gh (lbV (bw := 3) (b := 1000) (by exact rfl) (by exact rfl) lau) ?_;refine AW.gh (laZ [(3, .one (fpo [.raw g 0] 0)), (4, .one (fpo (t).c 0)), (5, .one (fpo [slOf 4 (thRows g env)] 0)), (6, .one (.ptr 6 0))] [(1000, .obj (wOk g F)), (6, .obj th0)] [3, 4, 5] [] ⟨(by exact WkC.obj (List.mem_cons_self ..) rfl (la0 _)), (by exact WkC.obj (by decide) rfl (la0 _)), (by exact WkC.obj (by decide) rfl (la0 _)), (zw rfl zo), zo⟩ ⟨(by exact zb rfl), (by exact zb rfl), zo⟩ ⟨⟨_, rfl, rfl⟩, ⟨_, rfl, rfl⟩, ⟨_, rfl, rfl⟩, zo⟩ trivial rfl rfl ⟨zo, zo, zo, ⟨_, rfl⟩, zo⟩ ⟨(by exact ⟨zo, zo, zo, ⟨_, rfl⟩, zo⟩), (by exact ⟨zo, zo, zo, zo, zo⟩), zo⟩) ?_
  refine zq (zQ ?_);refine zV (lav (b := 1000) (by exact rfl) (by exact rfl) (by exact rfl) (by exact lau)) ?_;refine zV lag ?_;refine zV lad ?_;refine zV lad ?_;refine zV lae ?_;refine zV lac ?_;refine zn ?_;refine zcF ?_;refine zsk (zq (zQ ?_));refine zV lak ?_;refine zV lai ?_;refine zn (zbl (zQ ?_));refine zV lac ?_;refine zV lab ?_;refine zn ?_;refine zcT ?_;refine zq (zQ ?_);refine zV lak ?_;refine zV lai ?_;refine zV lac ?_;refine zV laa ?_;refine zI lak ?_;refine zI lai ?_;refine zI lai ?_;refine zI lay ?_;refine zI lac ?_;refine zV law ?_;refine zn ?_;refine zaT ?_;refine zQ ?_;refine zV (lav (b := 1000) (by exact rfl) (by exact rfl) (by exact rfl) (by exact lau)) ?_
  refine zY (lat (lci g F) rfl (by refine ⟨_, _, rfl, (by exact LeU.of_eq rfl zo), (by exact Exists.intro _ rfl), ?_⟩;exact rfl)) ?_
  refine zE laf ?_;refine zn (zre ?_)
  exact lbj (.inr rfl) (by exact rfl) (by exact rfl) (laX _) rfl (by exact rfl) (laX _) okT0 okE
set_option maxHeartbeats 2000000 in
theorem eva_lit : EvA g (.mk 2 n T f l) env F (.ok (.num n) F) := by
  unfold EvA
  show ACalls _ _ _ _ (.agg (V.th g (.num n))) [(1000, .obj (wOk g F))]
  rw [show V.th g (.num n) = [.int .i64 1, .int .i64 n, .nilf, .int .i64 0] from rfl]
  let t : Tm := .mk 2 n T f l
  refine zB1 Tryz.func41 ?_;refine zQ ?_;refine zM laE ?_;refine zM lan ?_;refine zM laE ?_;refine zM lah ?_;refine zn ?_;refine AW.gh (lbV (bw := 3) (b := 1000) (by exact rfl) (by exact rfl) lau) ?_;refine AW.gh (laZ [(3, .one (fpo [.raw g 0] 0)), (4, .one (fpo (t).c 0)), (5, .one (fpo [slOf 4 (thRows g env)] 0)), (6, .one (.ptr 6 0))] [(1000, .obj (wOk g F)), (6, .obj th0)] [3, 4, 5] [] ⟨(by exact WkC.obj (List.mem_cons_self ..) rfl (la0 _)), (by exact WkC.obj (by decide) rfl (la0 _)), (by exact WkC.obj (by decide) rfl (la0 _)), (zw rfl zo), zo⟩ ⟨(by exact zb rfl), (by exact zb rfl), zo⟩ ⟨⟨_, rfl, rfl⟩, ⟨_, rfl, rfl⟩, ⟨_, rfl, rfl⟩, zo⟩ trivial rfl rfl ⟨zo, zo, zo, ⟨_, rfl⟩, zo⟩ ⟨(by exact ⟨zo, zo, zo, ⟨_, rfl⟩, zo⟩), (by exact ⟨zo, zo, zo, zo, zo⟩), zo⟩) ?_
  refine zq (zQ ?_);refine zV (lav (b := 1000) (by exact rfl) (by exact rfl) (by exact rfl) (by exact lau)) ?_;refine zV lag ?_;refine zV lad ?_;refine zV lad ?_;refine zV lae ?_;refine zV lac ?_;refine zn ?_;refine zcF ?_;refine zsk (zq (zQ ?_));refine zV lak ?_;refine zV lai ?_;refine zn (zbl (zQ ?_));refine zV lac ?_;refine zV lab ?_;refine zn ?_;refine zcF ?_;refine zq (zQ ?_);refine zV lac ?_;refine zV lab ?_;refine zn ?_;refine zcT ?_;refine zsk ?_;refine zcT ?_;refine zQ ?_;refine zV lak ?_;refine zV lai ?_;refine zV lac ?_;refine zV lak ?_;refine zV lai ?_;refine zV laq ?_;refine zE laf ?_;refine zn (zre ?_)
  exact lbj (.inr rfl) (by exact rfl) (by exact rfl) (laX _) rfl (by exact rfl) (laX _) (by exact ⟨zo, zo, zo, zo, zo⟩) okW
set_option maxHeartbeats 2000000 in
theorem eva_says : EvA g (.mk 3 n T f l) env F (.ok (.tru n) F) := by
  unfold EvA
  show ACalls _ _ _ _ (.agg (V.th g (.tru n))) [(1000, .obj (wOk g F))]
  rw [show V.th g (.tru n) = [.int .i64 2, .int .i64 n, .nilf, .int .i64 0] from rfl]
  let t : Tm := .mk 3 n T f l
  refine zB1 Tryz.func41 ?_;refine zQ ?_;refine zM laE ?_;refine zM lan ?_;refine zM laE ?_;refine zM lah ?_;refine zn ?_;refine AW.gh (lbV (bw := 3) (b := 1000) (by exact rfl) (by exact rfl) lau) ?_;refine AW.gh (laZ [(3, .one (fpo [.raw g 0] 0)), (4, .one (fpo (t).c 0)), (5, .one (fpo [slOf 4 (thRows g env)] 0)), (6, .one (.ptr 6 0))] [(1000, .obj (wOk g F)), (6, .obj th0)] [3, 4, 5] [] ⟨(by exact WkC.obj (List.mem_cons_self ..) rfl (la0 _)), (by exact WkC.obj (by decide) rfl (la0 _)), (by exact WkC.obj (by decide) rfl (la0 _)), (zw rfl zo), zo⟩ ⟨(by exact zb rfl), (by exact zb rfl), zo⟩ ⟨⟨_, rfl, rfl⟩, ⟨_, rfl, rfl⟩, ⟨_, rfl, rfl⟩, zo⟩ trivial rfl rfl ⟨zo, zo, zo, ⟨_, rfl⟩, zo⟩ ⟨(by exact ⟨zo, zo, zo, ⟨_, rfl⟩, zo⟩), (by exact ⟨zo, zo, zo, zo, zo⟩), zo⟩) ?_
  refine zq (zQ ?_);refine zV (lav (b := 1000) (by exact rfl) (by exact rfl) (by exact rfl) (by exact lau)) ?_;refine zV lag ?_;refine zV lad ?_;refine zV lad ?_;refine zV lae ?_;refine zV lac ?_;refine zn ?_;refine zcF ?_;refine zsk (zq (zQ ?_));refine zV lak ?_;refine zV lai ?_;refine zn (zbl (zQ ?_));refine zV lac ?_;refine zV lab ?_;refine zn ?_;refine zcF ?_;refine zq (zQ ?_);refine zV lac ?_;refine zV lab ?_;refine zn ?_;refine zcF ?_;refine zR ?_;refine zV lac ?_;refine zV lab ?_;refine zn ?_;refine zcT ?_;refine zQ ?_;refine zV lak ?_;refine zV lai ?_;refine zV lac ?_;refine zV lak ?_;refine zV lai ?_;refine zV laq ?_;refine zE laf ?_;refine zn (zre ?_)
  exact lbj (.inr rfl) (by exact rfl) (by exact rfl) (laX _) rfl (by exact rfl) (laX _) (by exact ⟨zo, zo, zo, zo, zo⟩) okW
set_option maxHeartbeats 2000000 in
theorem eva_fn (b : Tm) : EvA g (.mk 7 n T f [b]) env F (.ok (.clo b env) F) := by
  unfold EvA
  show ACalls _ _ _ _ (.agg (V.th g (.clo b env))) [(1000, .obj (wOk g F))]
  rw [show V.th g (.clo b env) = [.int .i64 3, .int .i64 0, cloOf 71 [wHeld g, .one (fpo (bodyC b) 0), .one (fpo [slOf 4 (thRows g env)] 0)], .int .i64 0] by simp only [V.th]]
  let t : Tm := .mk 7 n T f [b]
  refine zB1 Tryz.func41 ?_;refine zQ ?_;refine zM laE ?_;refine zM lan ?_;refine zM laE ?_;refine zM lah ?_;refine zn ?_;refine AW.gh (lbV (bw := 3) (b := 1000) (by exact rfl) (by exact rfl) lau) ?_;refine AW.gh (laZ [(3, .one (fpo [.raw g 0] 0)), (4, .one (fpo (t).c 0)), (5, .one (fpo [slOf 4 (thRows g env)] 0)), (6, .one (.ptr 6 0))] [(1000, .obj (wOk g F)), (6, .obj th0)] [3, 4, 5] [] ⟨(by exact WkC.obj (List.mem_cons_self ..) rfl (la0 _)), (by exact WkC.obj (by decide) rfl (la0 _)), (by exact WkC.obj (by decide) rfl (la0 _)), (zw rfl zo), zo⟩ ⟨(by exact zb rfl), (by exact zb rfl), zo⟩ ⟨⟨_, rfl, rfl⟩, ⟨_, rfl, rfl⟩, ⟨_, rfl, rfl⟩, zo⟩ trivial rfl rfl ⟨zo, zo, zo, ⟨_, rfl⟩, zo⟩ ⟨(by exact ⟨zo, zo, zo, ⟨_, rfl⟩, zo⟩), (by exact ⟨zo, zo, zo, zo, zo⟩), zo⟩) ?_
  refine zq (zQ ?_);refine zV (lav (b := 1000) (by exact rfl) (by exact rfl) (by exact rfl) (by exact lau)) ?_;refine zV lag ?_;refine zV lad ?_;refine zV lad ?_;refine zV lae ?_;refine zV lac ?_;refine zn ?_;refine zcF ?_;refine zsk (zq (zQ ?_));refine zV lak ?_;refine zV lai ?_;refine zn (zbl (zQ ?_));refine zV lac ?_;refine zV lab ?_;refine zn ?_;refine zcF ?_;refine zq (zQ ?_);refine zV lac ?_;refine zV lab ?_;refine zn ?_;refine zcF ?_;refine zR ?_;refine zV lac ?_;refine zV lab ?_;refine zn ?_;refine zcF ?_;refine zQ ?_;refine zV lac ?_;refine zV lab ?_;refine zn ?_;refine zcT ?_;refine zQ ?_
  refine zV (lfj (us' := [wHeld g, .one (fpo (bodyC b) 0), .one (fpo [slOf 4 (thRows g env)] 0)]) [] (by exact rfl) (by exact ⟨.le (LeU.of_eq rfl zo), .le (LeU.one' rfl (LeC.fp ⟨LeC.any rfl, LeC.any rfl, LeC.any rfl, LeC.any rfl, LeC.any rfl, LeC.any rfl, LeC.refl _, zo⟩)), .le (LeU.of_eq rfl zo), zo⟩) (by exact rfl)) ?_
  refine zV laq ?_;refine zE laf ?_;refine zn (zre ?_)
  exact lbj (.inr rfl) (by exact rfl) (by exact rfl) (laX _) rfl (by exact rfl) (laX _) (by exact ⟨zo, zo, zo, zo, zo⟩) okW
set_option maxHeartbeats 2000000 in
theorem eva_as (b : Tm) {r : Res} (hb : EvA g b env F r) : EvA g (.mk 9 n T f [b]) env F r := by
  obtain ⟨k', n', c, tg, hc, e⟩ := lcG g r
  unfold EvA at hb ⊢
  have hr1 : (tmRows [b])[0]? = some b.c := by simp [tmRows, Tm.cells_c]
  rw [e] at hb ⊢
  let t : Tm := .mk 9 n T f [b]
  refine zB1 Tryz.func41 ?_;refine zQ ?_;refine zM laE ?_;refine zM lan ?_;refine zM laE ?_;refine zM lah ?_;refine zn ?_;refine AW.gh (lbV (bw := 3) (b := 1000) (by exact rfl) (by exact rfl) lau) ?_;refine AW.gh (laZ [(3, .one (fpo [.raw g 0] 0)), (4, .one (fpo (t).c 0)), (5, .one (fpo [slOf 4 (thRows g env)] 0)), (6, .one (.ptr 6 0))] [(1000, .obj (wOk g F)), (6, .obj th0)] [3, 4, 5] [] ⟨(by exact WkC.obj (List.mem_cons_self ..) rfl (la0 _)), (by exact WkC.obj (by decide) rfl (la0 _)), (by exact WkC.obj (by decide) rfl (la0 _)), (zw rfl zo), zo⟩ ⟨(by exact zb rfl), (by exact zb rfl), zo⟩ ⟨⟨_, rfl, rfl⟩, ⟨_, rfl, rfl⟩, ⟨_, rfl, rfl⟩, zo⟩ trivial rfl rfl ⟨zo, zo, zo, ⟨_, rfl⟩, zo⟩ ⟨(by exact ⟨zo, zo, zo, ⟨_, rfl⟩, zo⟩), (by exact ⟨zo, zo, zo, zo, zo⟩), zo⟩) ?_
  refine zq (zQ ?_);refine zV (lav (b := 1000) (by exact rfl) (by exact rfl) (by exact rfl) (by exact lau)) ?_;refine zV lag ?_;refine zV lad ?_;refine zV lad ?_;refine zV lae ?_;refine zV lac ?_;refine zn ?_;refine zcF ?_;refine zsk (zq (zQ ?_));refine zV lak ?_;refine zV lai ?_;refine zn (zbl (zQ ?_));refine zV lac ?_;refine zV lab ?_;refine zn ?_;refine zcF ?_;refine zq (zQ ?_);refine zV lac ?_;refine zV lab ?_;refine zn ?_;refine zcF ?_;refine zR ?_;refine zV lac ?_;refine zV lab ?_;refine zn ?_;refine zcF ?_;refine zQ ?_;refine zV lac ?_;refine zV lab ?_;refine zn ?_;refine zcF ?_;refine zQ ?_;refine zV lac ?_;refine zV lab ?_;refine zn ?_;refine zcT ?_;refine zq ?_;refine zRD ?_;refine zV (lav (b := 1000) (by exact rfl) (by exact rfl) (by exact rfl) (by exact lau)) ?_;refine zV lak ?_;refine zV lai ?_;refine zV (lap _) ?_;refine zV lao ?_;refine zV lai ?_
  refine zY (lat (hb) rfl (by refine ⟨_, _, rfl, (by exact LeU.of_eq rfl zo), (by exact Exists.intro _ rfl), ?_⟩;refine zC7 ?_;refine zC ?_;exact rfl)) ?_
  refine zE laf ?_;refine znD ?_;refine zre ?_
  exact lbj (.inr rfl) (by exact rfl) (by exact rfl) (laX _) rfl (by exact rfl) (laX _) (by exact ⟨zo, zo, la5 hc, zo, zo⟩) lf3
set_option maxHeartbeats 2000000 in
theorem eva_castO (b : Tm) {o : Out} (ho : (o.kind != 0) = true) (hb : EvA g b env F (.out o)) : EvA g (.mk 10 n T f [b]) env F (.out o) := by
  unfold EvA at hb ⊢
  have hr1 : (tmRows [b])[0]? = some b.c := by simp [tmRows, Tm.cells_c]
  replace hb : ACalls _ _ _ _ (.agg th0) [(1000, .obj (wEnd g o))] := hb
  show ACalls _ _ _ _ (.agg th0) [(1000, .obj (wEnd g o))]
  let t : Tm := .mk 10 n T f [b]
  refine zB1 Tryz.func41 ?_;refine zQ ?_;refine zM laE ?_;refine zM lan ?_;refine zM laE ?_;refine zM lah ?_;refine zn ?_;refine AW.gh (lbV (bw := 3) (b := 1000) (by exact rfl) (by exact rfl) lau) ?_;refine AW.gh (laZ [(3, .one (fpo [.raw g 0] 0)), (4, .one (fpo (t).c 0)), (5, .one (fpo [slOf 4 (thRows g env)] 0)), (6, .one (.ptr 6 0))] [(1000, .obj (wOk g F)), (6, .obj th0)] [3, 4, 5] [] ⟨(by exact WkC.obj (List.mem_cons_self ..) rfl (la0 _)), (by exact WkC.obj (by decide) rfl (la0 _)), (by exact WkC.obj (by decide) rfl (la0 _)), (zw rfl zo), zo⟩ ⟨(by exact zb rfl), (by exact zb rfl), zo⟩ ⟨⟨_, rfl, rfl⟩, ⟨_, rfl, rfl⟩, ⟨_, rfl, rfl⟩, zo⟩ trivial rfl rfl ⟨zo, zo, zo, ⟨_, rfl⟩, zo⟩ ⟨(by exact ⟨zo, zo, zo, ⟨_, rfl⟩, zo⟩), (by exact ⟨zo, zo, zo, zo, zo⟩), zo⟩) ?_
  refine zq (zQ ?_);refine zV (lav (b := 1000) (by exact rfl) (by exact rfl) (by exact rfl) (by exact lau)) ?_;refine zV lag ?_;refine zV lad ?_;refine zV lad ?_;refine zV lae ?_;refine zV lac ?_;refine zn ?_;refine zcF ?_;refine zsk (zq (zQ ?_));refine zV lak ?_;refine zV lai ?_;refine zn (zbl (zQ ?_));refine zV lac ?_;refine zV lab ?_;refine zn ?_;refine zcF ?_;refine zq (zQ ?_);refine zV lac ?_;refine zV lab ?_;refine zn ?_;refine zcF ?_;refine zR ?_;refine zV lac ?_;refine zV lab ?_;refine zn ?_;refine zcF ?_;refine zQ ?_;refine zV lac ?_;refine zV lab ?_;refine zn ?_;refine zcF ?_;refine zQ ?_;refine zV lac ?_;refine zV lab ?_;refine zn ?_;refine zcF ?_;refine zQ ?_;refine zV lac ?_;refine zV lab ?_;refine zn ?_;refine zcT ?_;refine zq ?_;refine zRD ?_;refine zV (lav (b := 1000) (by exact rfl) (by exact rfl) (by exact rfl) (by exact lau)) ?_;refine zV lak ?_;refine zV lai ?_;refine zV (lap _) ?_;refine zV lao ?_;refine zV lai ?_
  refine zY (lat (hb) rfl (by refine ⟨_, _, rfl, (by exact LeU.of_eq rfl zo), (by exact Exists.intro _ rfl), ?_⟩;refine zC7 ?_;refine zC ?_;exact rfl)) ?_
  refine zM lah ?_;refine zE laf ?_;refine znD ?_;refine zq (zQ ?_);refine zV (lav (b := 1000) (by exact rfl) (by exact rfl) (by exact rfl) (by exact laR)) ?_;refine zV lag ?_;refine zV lad ?_;refine zV lad ?_;refine zV lae ?_;refine zV lac ?_;refine zn ?_;refine zaT ?_;refine zQ ?_;refine zV laq ?_;refine zE laf ?_;refine zn (zre ?_)
  exact lbj (.inr rfl) (by exact rfl) (by exact rfl) (laX _) rfl (by exact rfl) (laX _) okT0 okE
set_option maxHeartbeats 2000000 in
theorem eva_cast (b : Tm) {v : V} {F1 : Nat} {r : Res} (hb : EvA g b env F (.ok v F1)) (hca : ACalls Tryz.prog 73 [.one (.ptr 1000 0), .agg (V.th g v), f.u, T.u, .one (.int .i64 n), .one (.bool false)] [(1000, .obj (wOk g F1))] (.agg (resC g r)) [(1000, .obj (wAft g r))]) : EvA g (.mk 10 n T f [b]) env F r := by
  obtain ⟨k', n', c, tg, hc, e⟩ := lcG g r
  obtain ⟨c', hc', tg', e'⟩ := lbk g v
  unfold EvA at hb ⊢
  have hr1 : (tmRows [b])[0]? = some b.c := by simp [tmRows, Tm.cells_c]
  replace hb : ACalls _ _ _ _ (.agg (V.th g v)) [(1000, .obj (wOk g F1))] := hb
  rw [e'] at hb hca
  rw [e] at hca ⊢
  let t : Tm := .mk 10 n T f [b]
  refine zB1 Tryz.func41 ?_;refine zQ ?_;refine zM laE ?_;refine zM lan ?_;refine zM laE ?_;refine zM lah ?_;refine zn ?_;refine AW.gh (lbV (bw := 3) (b := 1000) (by exact rfl) (by exact rfl) lau) ?_;refine AW.gh (laZ [(3, .one (fpo [.raw g 0] 0)), (4, .one (fpo (t).c 0)), (5, .one (fpo [slOf 4 (thRows g env)] 0)), (6, .one (.ptr 6 0))] [(1000, .obj (wOk g F)), (6, .obj th0)] [3, 4, 5] [] ⟨(by exact WkC.obj (List.mem_cons_self ..) rfl (la0 _)), (by exact WkC.obj (by decide) rfl (la0 _)), (by exact WkC.obj (by decide) rfl (la0 _)), (zw rfl zo), zo⟩ ⟨(by exact zb rfl), (by exact zb rfl), zo⟩ ⟨⟨_, rfl, rfl⟩, ⟨_, rfl, rfl⟩, ⟨_, rfl, rfl⟩, zo⟩ trivial rfl rfl ⟨zo, zo, zo, ⟨_, rfl⟩, zo⟩ ⟨(by exact ⟨zo, zo, zo, ⟨_, rfl⟩, zo⟩), (by exact ⟨zo, zo, zo, zo, zo⟩), zo⟩) ?_
  refine zq (zQ ?_);refine zV (lav (b := 1000) (by exact rfl) (by exact rfl) (by exact rfl) (by exact lau)) ?_;refine zV lag ?_;refine zV lad ?_;refine zV lad ?_;refine zV lae ?_;refine zV lac ?_;refine zn ?_;refine zcF ?_;refine zsk (zq (zQ ?_));refine zV lak ?_;refine zV lai ?_;refine zn (zbl (zQ ?_));refine zV lac ?_;refine zV lab ?_;refine zn ?_;refine zcF ?_;refine zq (zQ ?_);refine zV lac ?_;refine zV lab ?_;refine zn ?_;refine zcF ?_;refine zR ?_;refine zV lac ?_;refine zV lab ?_;refine zn ?_;refine zcF ?_;refine zQ ?_;refine zV lac ?_;refine zV lab ?_;refine zn ?_;refine zcF ?_;refine zQ ?_;refine zV lac ?_;refine zV lab ?_;refine zn ?_;refine zcF ?_;refine zQ ?_;refine zV lac ?_;refine zV lab ?_;refine zn ?_;refine zcT ?_;refine zq ?_;refine zRD ?_;refine zV (lav (b := 1000) (by exact rfl) (by exact rfl) (by exact rfl) (by exact lau)) ?_;refine zV lak ?_;refine zV lai ?_;refine zV (lap _) ?_;refine zV lao ?_;refine zV lai ?_
  refine zY (lat (hb) rfl (by refine ⟨_, _, rfl, (by exact LeU.of_eq rfl zo), (by exact Exists.intro _ rfl), ?_⟩;refine zC7 ?_;refine zC ?_;exact rfl)) ?_
  refine zM lah ?_;refine zE laf ?_;refine znD ?_;refine zq (zQ ?_);refine zV (lav (b := 1000) (by exact rfl) (by exact rfl) (by exact rfl) (by exact lau)) ?_;refine zV lag ?_;refine zV lad ?_;refine zV lad ?_;refine zV lae ?_;refine zV lac ?_;refine zn ?_;refine zcF ?_;refine zsk (zQ ?_);refine zV (lav (b := 1000) (by exact rfl) (by exact rfl) (by exact rfl) (by exact lau)) ?_;refine zV laj ?_;refine zV lak ?_;refine zV (lao rfl (by exact Cut.cons (by exact rfl) (Cut.cons (by exact rfl) Cut.nil))) ?_;refine zV lak ?_;refine zV (lao rfl (by exact Cut.cons (by exact rfl) (Cut.cons (by exact rfl) Cut.nil))) ?_;refine zV lak ?_;refine zV lai ?_
  refine zY (lat (hca) rfl (by refine ⟨_, _, rfl, (by exact LeU.of_eq rfl zo), (by exact Exists.intro _ rfl), ?_⟩;refine ⟨_, _, rfl, (by exact LeU.of_eq rfl zo), (by (exact ⟨zo, zo, la5 (by assumption), zo, zo⟩; done)), ?_⟩;refine zC2 ?_;refine zC2 ?_;refine zC ?_;refine zC ?_;exact rfl)) ?_
  refine zE laf ?_;refine zn (zre ?_)
  exact lbj (.inr rfl) (by exact rfl) (by exact rfl) (laX _) rfl (by exact rfl) (laX _) (by exact ⟨zo, zo, la5 hc, zo, zo⟩) lf3
end
end Go.Proofs.YtnflnbdlgdjfmabGreatDoor
