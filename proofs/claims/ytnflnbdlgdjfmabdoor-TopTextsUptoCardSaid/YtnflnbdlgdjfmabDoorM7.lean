/-
  DERIVED: THE SHELF's CONTRACTS AT THIS DUMP, IN PLAIN WORDS (tools/lay-plain.mjs out of 'TrydShelf.lean', which tools/lay-shelf.mjs wrote): THE SAME DECLARATIONS UNDER THE SAME NAMES: 'import', 'namespace', 'open', 'def', 'theorem' AND NOTHING ELSE: no command of the shelf's: FOR A HAND-IN. Each laying: the table of numbers ('.._ren') and one theorem, a field a fact of the dump's own or the kernel
  What Go's library answers, as contracts of this frame. Conditions: those typed in each theorem.
  What the reader reads, on words. Conditions: those typed in each theorem.
  The walks of next, number and kind. Conditions: those typed in each theorem.
  The walk of kind. Conditions: those typed in each theorem.
  The walk of term. Conditions: the words are not too long.
  The walks of Parse and Text. Conditions: those typed in each theorem.
  The walks of Text and alive. Conditions: those typed in each theorem.
  The walks of TopErased, TopBlame, TopSure and TopTexts: they answer true. Conditions: the term is not too large, its numbers are ints.
  Arguments that are types and terms, as they lie in memory; what a law's row asks behind the call. Conditions: those typed in each theorem.
-/
import Derived.Test.YtnflnbdlgdjfmabDoorM6
import Derived.Shelf.Strings.Builder1
import Derived.Shelf.Strings.Builder2
import Derived.Shelf.Strings.OnBuilder
import Derived.Shelf.Strings.BuilderF
import Derived.Shelf.Utf8.RuneCount
import Derived.Shelf.Strings.Builder2Cap
import Derived.Shelf.Strconv.Atoi
import Derived.Shelf.Strconv.Itoa0
import Derived.Shelf.Strconv.Itoa1
import Derived.Shelf.LaysM
import Derived.Shelf.Strconv.Itoa2
import Derived.Shelf.Strconv.Itoa3
import Derived.Shelf.Strconv.AtoiErrFast
import Derived.Shelf.Strconv.ParseIntEmpty
import Derived.Shelf.Strconv.AtoiFail
import Derived.Shelf.Strconv.Clone
import Derived.Shelf.Strconv.SyntaxError
import Derived.Shelf.LaysC
import Derived.Shelf.Strconv.ToError
import Derived.Shelf.Strconv.Lower
import Derived.Shelf.Strconv.ParseUint10
import Derived.Shelf.Strconv.ParseUint10Empty
import Derived.Shelf.Strconv.ParseUint10Any
import Derived.Shelf.Strconv.ParseInt10
import Derived.Shelf.Strconv.AtoiLong
import Derived.Shelf.Strconv.AtoiInnerAll
import Derived.Shelf.Strconv.RangeError
import Derived.Shelf.Strconv.ToErrorRange
import Derived.Shelf.Strconv.AtoiAll
import Derived.Shelf.Strconv.ErrVarAll
import Derived.Shelf.Strconv.ParseUintEmpty
import Derived.Shelf.Strconv.ParseUint10b32
import Derived.Shelf.Strconv.ParseUint10b16
import Derived.Shelf.Strings.Search1
import Derived.Shelf.Strings.Search2
import Derived.Shelf.Strings.Search3
import Derived.Shelf.Strings.Count
import Derived.Shelf.Strings.Shaped
import Derived.Shelf.Strings.Prefix
import Derived.Shelf.Strings.Split
import Derived.Shelf.Strings.Fields
import Derived.Shelf.Strings.Replace
import Derived.Shelf.Strings.SplitShaped
import Derived.Shelf.Unicode.Latin
import Derived.Shelf.Unicode.Decode
import Derived.Shelf.Strings.RuneCount
import Derived.Shelf.Unicode.DecodeSlow
import Derived.Shelf.Unicode.DecodeAny
import Derived.Shelf.Unicode.Is16White
import Derived.Shelf.Unicode.IsSpaceAny
import Derived.Shelf.Strings.FieldsFuncAny
import Derived.Shelf.Unicode.Is16Any
import Derived.Shelf.Unicode.Is32Any
import Derived.Shelf.Unicode.ExclAny
import Derived.Shelf.Strings.FieldsFuncGrows
import Derived.Test.YtnflnbdlgdjfmabDoorProg
import Derived.Lib.LaidTab
import Derived.Lib.SmallJoins
import Derived.Lib.SplitLaws
import Derived.Test.YtnflnbdlgdjfmabDoorRows
import Derived.ProofKit
import Derived.OpenShut
import Derived.Deep.Slices
namespace Go.Proofs
open Go.Shelf
open Go.RowKit in
open Go.RowKit in
open Go.RowKit in
open Go.RowKit in
open Go.RowKit in
open Go.RowKit in
open Go.RowKit in
open Go.RowKit in
open Go.RowKit in
open Go.RowKit in
open Go.RowKit in
open Go.RowKit in
open Go.RowKit in
open Go.RowKit in
open Go.RowKit in
open Go.Lib in
open Go.Lib in
open Go.Lib in
open Go.Lib in
open Go.RowKit Go.Sort Go.Lib in
open Go.RowKit Go.Sort Go.Lib in
open Go.RowKit Go.Sort Go.Lib in
open Go.RowKit Go.Sort Go.Lib in
open Go.RowKit Go.Sort Go.Lib in
def Tryd.laysM171_ren : Go.Shelf.Ren := ⟨fun | 171 => 44 | 243 => 62 | 246 => 85 | 283 => 102 | 284 => 103 | 285 => 104 | 286 => 105 | 129 => 120 | 317 => 119 | 318 => 121 | 319 => 122 | 320 => 123 | 337 => 129 | 338 => 130 | n => n, fun | 3 => 3 | 9 => 9 | 2 => 2 | 4 => 4 | 171 => 142 | 0 => 0 | 53 => 143 | 37 => 98 | 5 => 5 | 173 => 146 | 212 => 173 | 51 => 130 | 20 => 20 | 213 => 174 | 46 => 151 | 232 => 193 | 233 => 194 | n => n, fun | 17 => 8 | 18 => 11 | 19 => 12 | n => n⟩
theorem Tryd.laysM171 : Go.Proofs.LaysM.n171 Tryd.prog Tryd.laysM171_ren := {
  mixed := by kernel_rfl
  f129 := Tryd.func120.trans (congrArg some (by kernel_rfl))
  f171 := Tryd.func44.trans (congrArg some (by kernel_rfl))
  f243 := Tryd.func62.trans (congrArg some (by kernel_rfl))
  f246 := Tryd.func85.trans (congrArg some (by kernel_rfl))
  f283 := Tryd.func102.trans (congrArg some (by kernel_rfl))
  f284 := Tryd.func103.trans (congrArg some (by kernel_rfl))
  f285 := Tryd.func104.trans (congrArg some (by kernel_rfl))
  f286 := Tryd.func105.trans (congrArg some (by kernel_rfl))
  f317 := Tryd.func119.trans (congrArg some (by kernel_rfl))
  f318 := Tryd.func121.trans (congrArg some (by kernel_rfl))
  f319 := Tryd.func122.trans (congrArg some (by kernel_rfl))
  f320 := Tryd.func123.trans (congrArg some (by kernel_rfl))
  f337 := Tryd.func129.trans (congrArg some (by kernel_rfl))
  f338 := Tryd.func130.trans (congrArg some (by kernel_rfl))
  t0 := Tryd.underlying0
  a0 := Tryd.isAgg0
  z0 := Tryd.sizeOf0
  v0 := Tryd.zeroValue0
  t2 := Tryd.underlying2
  a2 := Tryd.isAgg2
  z2 := Tryd.sizeOf2
  v2 := Tryd.zeroValue2
  t3 := Tryd.underlying3
  a3 := Tryd.isAgg3
  z3 := Tryd.sizeOf3
  v3 := Tryd.zeroValue3
  t4 := Tryd.underlying4
  a4 := Tryd.isAgg4
  z4 := Tryd.sizeOf4
  v4 := Tryd.zeroValue4
  t5 := Tryd.underlying5
  a5 := Tryd.isAgg5
  z5 := Tryd.sizeOf5
  v5 := Tryd.zeroValue5
  t9 := Tryd.underlying9
  a9 := Tryd.isAgg9
  z9 := Tryd.sizeOf9
  v9 := Tryd.zeroValue9
  t20 := Tryd.underlying20
  a20 := Tryd.isAgg20
  z20 := Tryd.sizeOf20
  v20 := Tryd.zeroValue20
  t37 := Tryd.underlying98
  a37 := Tryd.isAgg98
  z37 := Tryd.sizeOf98
  v37 := Tryd.zeroValue98
  t46 := Tryd.underlying151
  a46 := Tryd.isAgg151
  z46 := Tryd.sizeOf151
  v46 := Tryd.zeroValue151
  t51 := Tryd.underlying130
  a51 := Tryd.isAgg130
  z51 := Tryd.sizeOf130
  v51 := Tryd.zeroValue130
  t53 := Tryd.underlying143
  a53 := Tryd.isAgg143
  z53 := Tryd.sizeOf143
  v53 := Tryd.zeroValue143
  t171 := Tryd.underlying142
  a171 := Tryd.isAgg142
  z171 := Tryd.sizeOf142
  v171 := Tryd.zeroValue142
  t173 := Tryd.underlying146
  a173 := Tryd.isAgg146
  z173 := Tryd.sizeOf146
  v173 := Tryd.zeroValue146
  t212 := Tryd.underlying173
  a212 := Tryd.isAgg173
  z212 := Tryd.sizeOf173
  v212 := Tryd.zeroValue173
  t213 := Tryd.underlying174
  a213 := Tryd.isAgg174
  z213 := Tryd.sizeOf174
  t232 := Tryd.underlying193
  a232 := Tryd.isAgg193
  z232 := Tryd.sizeOf193
  v232 := Tryd.zeroValue193
  t233 := Tryd.underlying194
  a233 := Tryd.isAgg194
  z233 := Tryd.sizeOf194
  v233 := Tryd.zeroValue194
  g17 := by kernel_rfl
  g18 := by kernel_rfl
  g19 := by kernel_rfl
  i0 := by kernel_rfl
  i2 := by kernel_rfl
  i3 := by kernel_rfl
  i4 := by kernel_rfl
  i5 := by kernel_rfl
  i9 := by kernel_rfl
  i20 := by kernel_rfl
  i37 := by kernel_rfl
  i46 := by kernel_rfl
  i51 := by kernel_rfl
  i53 := by kernel_rfl
  i171 := by kernel_rfl
  i173 := by kernel_rfl
  i212 := by kernel_rfl
  i232 := by kernel_rfl
  i233 := by kernel_rfl
  m17 := by kernel_rfl
  m18 := by kernel_rfl
  m19 := by kernel_rfl }
open Go.RowKit Go.Sort Go.Lib in
/-- strconv.Itoa: "Itoa is equivalent to FormatInt(int64(i), 10).": i's DECIMAL NUMERAL ('Lib.itoa': a '-' where i is negative, then the digits), FOR EVERY int. The world behind the call: the world before it, new blocks behind the heap (the library's 'var a [24]byte'), draws. (LAID: no walk: one application.) -/
theorem Tryd.strconv_Itoa (n : Int) (h0 : -9223372036854775808 ≤ n) (h1 : n ≤ 9223372036854775807) (w : World) (htab : Lib.TabIs Tryd.prog w "internal/strconv.uint64pow10" .u64 Lib.pow10Tab) :
    Calls Tryd.prog 44 #[.int .i64 n] w fun e w' => e = .returned (.string ⟨(Lib.itoa n).toArray⟩) ∧ ∃ k os, w' = grow (w.drewN k) os := Any.strconv_Itoa Tryd.laysM171 n h0 h1 w htab
open Go.RowKit Go.Sort Go.Lib in
open Go.RowKit in
open Go.RowKit in
open Go.RowKit in
open Go.RowKit in
open Go.RowKit in
open Go.RowKit in
open Go.RowKit in
open Go.RowKit in
open Go.RowKit in
open Go.RowKit in
open Go.RowKit in
open Go.RowKit in
open Go.RowKit in
open Go.RowKit in
open Go.RowKit in
open Go.RowKit in
def Tryd.laysC172_ren : Go.Shelf.Ren := ⟨fun | 172 => 70 | 244 => 92 | 245 => 93 | 247 => 112 | 279 => 113 | 280 => 114 | 281 => 115 | 282 => 116 | 287 => 126 | 316 => 127 | 171 => 44 | 205 => 128 | 321 => 131 | 322 => 132 | 243 => 62 | 246 => 85 | 283 => 102 | 284 => 103 | 285 => 104 | 286 => 105 | 129 => 120 | 317 => 119 | 318 => 121 | 319 => 122 | 320 => 123 | 337 => 129 | 338 => 130 | n => n, fun | 9 => 9 | 3 => 3 | 75 => 103 | 76 => 104 | 4 => 4 | 5 => 5 | 167 => 155 | 37 => 98 | 0 => 0 | 85 => 156 | 2 => 2 | 168 => 158 | 53 => 143 | 175 => 179 | 46 => 151 | 210 => 183 | 127 => 128 | 145 => 192 | 143 => 190 | 21 => 21 | 171 => 142 | 173 => 146 | 212 => 173 | 51 => 130 | 20 => 20 | 213 => 174 | 232 => 193 | 233 => 194 | 80 => 75 | n => n, fun | 15 => 9 | 16 => 10 | 17 => 8 | 18 => 11 | 19 => 12 | n => n⟩
theorem Tryd.laysC172 : Go.Proofs.LaysC.n172 Tryd.prog Tryd.laysC172_ren := {
  mixed := by kernel_rfl
  f129 := Tryd.func120.trans (congrArg some (by kernel_rfl))
  f171 := Tryd.func44.trans (congrArg some (by kernel_rfl))
  f172 := Tryd.func70.trans (congrArg some (by kernel_rfl))
  f205 := Tryd.func128.trans (congrArg some (by kernel_rfl))
  f243 := Tryd.func62.trans (congrArg some (by kernel_rfl))
  f244 := Tryd.func92.trans (congrArg some (by kernel_rfl))
  f245 := Tryd.func93.trans (congrArg some (by kernel_rfl))
  f246 := Tryd.func85.trans (congrArg some (by kernel_rfl))
  f247 := Tryd.func112.trans (congrArg some (by kernel_rfl))
  f279 := Tryd.func113.trans (congrArg some (by kernel_rfl))
  f280 := Tryd.func114.trans (congrArg some (by kernel_rfl))
  f281 := Tryd.func115.trans (congrArg some (by kernel_rfl))
  f282 := Tryd.func116.trans (congrArg some (by kernel_rfl))
  f283 := Tryd.func102.trans (congrArg some (by kernel_rfl))
  f284 := Tryd.func103.trans (congrArg some (by kernel_rfl))
  f285 := Tryd.func104.trans (congrArg some (by kernel_rfl))
  f286 := Tryd.func105.trans (congrArg some (by kernel_rfl))
  f287 := Tryd.func126.trans (congrArg some (by kernel_rfl))
  f316 := Tryd.func127.trans (congrArg some (by kernel_rfl))
  f317 := Tryd.func119.trans (congrArg some (by kernel_rfl))
  f318 := Tryd.func121.trans (congrArg some (by kernel_rfl))
  f319 := Tryd.func122.trans (congrArg some (by kernel_rfl))
  f320 := Tryd.func123.trans (congrArg some (by kernel_rfl))
  f321 := Tryd.func131.trans (congrArg some (by kernel_rfl))
  f322 := Tryd.func132.trans (congrArg some (by kernel_rfl))
  f337 := Tryd.func129.trans (congrArg some (by kernel_rfl))
  f338 := Tryd.func130.trans (congrArg some (by kernel_rfl))
  t0 := Tryd.underlying0
  a0 := Tryd.isAgg0
  z0 := Tryd.sizeOf0
  v0 := Tryd.zeroValue0
  t2 := Tryd.underlying2
  a2 := Tryd.isAgg2
  z2 := Tryd.sizeOf2
  v2 := Tryd.zeroValue2
  t3 := Tryd.underlying3
  a3 := Tryd.isAgg3
  z3 := Tryd.sizeOf3
  v3 := Tryd.zeroValue3
  t4 := Tryd.underlying4
  a4 := Tryd.isAgg4
  z4 := Tryd.sizeOf4
  v4 := Tryd.zeroValue4
  t5 := Tryd.underlying5
  a5 := Tryd.isAgg5
  z5 := Tryd.sizeOf5
  v5 := Tryd.zeroValue5
  t9 := Tryd.underlying9
  a9 := Tryd.isAgg9
  z9 := Tryd.sizeOf9
  v9 := Tryd.zeroValue9
  t20 := Tryd.underlying20
  a20 := Tryd.isAgg20
  z20 := Tryd.sizeOf20
  v20 := Tryd.zeroValue20
  t21 := Tryd.underlying21
  a21 := Tryd.isAgg21
  z21 := Tryd.sizeOf21
  v21 := Tryd.zeroValue21
  t37 := Tryd.underlying98
  a37 := Tryd.isAgg98
  z37 := Tryd.sizeOf98
  v37 := Tryd.zeroValue98
  t46 := Tryd.underlying151
  a46 := Tryd.isAgg151
  z46 := Tryd.sizeOf151
  v46 := Tryd.zeroValue151
  t51 := Tryd.underlying130
  a51 := Tryd.isAgg130
  z51 := Tryd.sizeOf130
  v51 := Tryd.zeroValue130
  t53 := Tryd.underlying143
  a53 := Tryd.isAgg143
  z53 := Tryd.sizeOf143
  v53 := Tryd.zeroValue143
  t75 := Tryd.underlying103
  a75 := Tryd.isAgg103
  z75 := Tryd.sizeOf103
  v75 := Tryd.zeroValue103
  t76 := Tryd.underlying104
  a76 := Tryd.isAgg104
  z76 := Tryd.sizeOf104
  v76 := Tryd.zeroValue104
  t85 := Tryd.underlying156
  a85 := Tryd.isAgg156
  z85 := Tryd.sizeOf156
  v85 := Tryd.zeroValue156
  t127 := Tryd.underlying128
  a127 := Tryd.isAgg128
  z127 := Tryd.sizeOf128
  v127 := Tryd.zeroValue128
  t143 := Tryd.underlying190
  a143 := Tryd.isAgg190
  z143 := Tryd.sizeOf190
  v143 := Tryd.zeroValue190
  t145 := Tryd.underlying192
  a145 := Tryd.isAgg192
  z145 := Tryd.sizeOf192
  v145 := Tryd.zeroValue192
  t167 := Tryd.underlying155
  a167 := Tryd.isAgg155
  z167 := Tryd.sizeOf155
  v167 := Tryd.zeroValue155
  t168 := Tryd.underlying158
  a168 := Tryd.isAgg158
  z168 := Tryd.sizeOf158
  v168 := Tryd.zeroValue158
  t171 := Tryd.underlying142
  a171 := Tryd.isAgg142
  z171 := Tryd.sizeOf142
  v171 := Tryd.zeroValue142
  t173 := Tryd.underlying146
  a173 := Tryd.isAgg146
  z173 := Tryd.sizeOf146
  v173 := Tryd.zeroValue146
  t175 := Tryd.underlying179
  a175 := Tryd.isAgg179
  z175 := Tryd.sizeOf179
  v175 := Tryd.zeroValue179
  t210 := Tryd.underlying183
  a210 := Tryd.isAgg183
  z210 := Tryd.sizeOf183
  v210 := Tryd.zeroValue183
  t212 := Tryd.underlying173
  a212 := Tryd.isAgg173
  z212 := Tryd.sizeOf173
  v212 := Tryd.zeroValue173
  t213 := Tryd.underlying174
  a213 := Tryd.isAgg174
  z213 := Tryd.sizeOf174
  t232 := Tryd.underlying193
  a232 := Tryd.isAgg193
  z232 := Tryd.sizeOf193
  v232 := Tryd.zeroValue193
  t233 := Tryd.underlying194
  a233 := Tryd.isAgg194
  z233 := Tryd.sizeOf194
  v233 := Tryd.zeroValue194
  g15 := by kernel_rfl
  g16 := by kernel_rfl
  g17 := by kernel_rfl
  g18 := by kernel_rfl
  g19 := by kernel_rfl
  t80 := Tryd.underlying75
  a80 := Tryd.isAgg75
  z80 := Tryd.sizeOf75
  v80 := Tryd.zeroValue75
  i0 := by kernel_rfl
  i2 := by kernel_rfl
  i3 := by kernel_rfl
  i4 := by kernel_rfl
  i5 := by kernel_rfl
  i9 := by kernel_rfl
  i20 := by kernel_rfl
  i21 := by kernel_rfl
  i37 := by kernel_rfl
  i46 := by kernel_rfl
  i51 := by kernel_rfl
  i53 := by kernel_rfl
  i75 := by kernel_rfl
  i76 := by kernel_rfl
  i80 := by kernel_rfl
  i85 := by kernel_rfl
  i127 := by kernel_rfl
  i143 := by kernel_rfl
  i145 := by kernel_rfl
  i167 := by kernel_rfl
  i168 := by kernel_rfl
  i171 := by kernel_rfl
  i173 := by kernel_rfl
  i175 := by kernel_rfl
  i210 := by kernel_rfl
  i212 := by kernel_rfl
  i232 := by kernel_rfl
  i233 := by kernel_rfl
  m15 := by kernel_rfl
  m16 := by kernel_rfl
  m17 := by kernel_rfl
  m18 := by kernel_rfl
  m19 := by kernel_rfl
  c0 := by kernel_rfl
  c2 := by kernel_rfl
  c3 := by kernel_rfl
  c4 := by kernel_rfl
  c5 := by kernel_rfl
  c9 := by kernel_rfl
  c20 := by kernel_rfl
  c21 := by kernel_rfl
  c37 := by kernel_rfl
  c46 := by kernel_rfl
  c51 := by kernel_rfl
  c53 := by kernel_rfl
  c75 := by kernel_rfl
  c76 := by kernel_rfl
  c80 := by kernel_rfl
  c85 := by kernel_rfl
  c127 := by kernel_rfl
  c143 := by kernel_rfl
  c145 := by kernel_rfl
  c167 := by kernel_rfl
  c168 := by kernel_rfl
  c171 := by kernel_rfl
  c173 := by kernel_rfl
  c175 := by kernel_rfl
  c210 := by kernel_rfl
  c212 := by kernel_rfl
  c213 := by kernel_rfl
  c232 := by kernel_rfl
  c233 := by kernel_rfl }
open Go.RowKit in
/-- strconv.Atoi, AT EVERY STRING THAT SPELLS AN int ('Lib.atoiAll .. = .ok v'; of whatever length: leading zeros count): v, AND NO ERROR. The world: as it was, or with the one new row that '[]byte(..)' lays. (LAID: no walk: one application.) -/
theorem Tryd.strconv_Atoi_ok (s : ByteArray) (hmax : s.size ≤ 9223372036854775806) (v : Int) (h : Lib.atoiAll s.data.toList = .ok v) (w : World) :
    Calls Tryd.prog 70 #[.string s] w fun e w' => e = .returned (.tuple #[.int .i64 v, .nilIface]) ∧ (w' = w ∨ ∃ t, w' = Lib.bytesWorld w 5 t) := Any.strconv_Atoi_ok Tryd.laysC172 s hmax v h w
open Go.RowKit in
open Go.RowKit in
open Go.RowKit in
theorem Tryd.strconv_Atoi_syntax_var (s : ByteArray) (hlim : s.size ≤ 281474976710656) (h : Lib.atoiAll s.data.toList = Lib.atoiAll []) (tp : TypeId) (p : Value) (w : World) (hvar : w.var? Tryd.prog "strconv.ErrSyntax" = some #[.iface tp p]) :
    Calls Tryd.prog 70 #[.string s] w fun e w' => ∃ N, e = .returned (.tuple #[.int .i64 0, .iface 158 (.pointer (some ⟨N, 0, none⟩))]) ∧ w.heap.size ≤ N ∧ w'.heap[N]? = some (.cells #[.string ⟨#[65, 116, 111, 105]⟩, .string s, .iface tp p] 183 (0, 0)) ∧ Below w.heap.size w w' := Any.strconv_Atoi_syntax_var Tryd.laysC172 s hlim h tp p w hvar
open Go.RowKit in
theorem Tryd.strconv_Atoi_range_var (s : ByteArray) (hlim : s.size ≤ 281474976710656) (h : Lib.atoiAll s.data.toList = .range) (tp : TypeId) (p : Value) (w : World) (hvar : w.var? Tryd.prog "strconv.ErrRange" = some #[.iface tp p]) :
    Calls Tryd.prog 70 #[.string s] w fun e w' => ∃ N, e = .returned (.tuple #[.int .i64 (Lib.atoiSat s.data.toList), .iface 158 (.pointer (some ⟨N, 0, none⟩))]) ∧ w.heap.size ≤ N ∧ w'.heap[N]? = some (.cells #[.string ⟨#[65, 116, 111, 105]⟩, .string s, .iface tp p] 183 (0, 0)) ∧ Below w.heap.size w w' := Any.strconv_Atoi_range_var Tryd.laysC172 s hlim h tp p w hvar
open Go.RowKit in
open Go.RowKit in
open Go.RowKit in
open Go.RowKit Go.Lib in
open Go.RowKit Go.Lib in
open Go.RowKit Go.Lib in
open Go.RowKit Go.Lib in
open Go.RowKit Go.Lib in
open Go.RowKit Go.Lib in
open Go.RowKit Go.Lib in
open Go.RowKit Go.Lib in
open Go.RowKit Go.Lib in
open Go.RowKit Go.Lib in
open Go.RowKit Go.Lib in
open Go.RowKit Go.Lib in
open Go.RowKit Go.Lib in
open Go.RowKit Go.Lib in
def Tryd.lays99_ren : Go.Shelf.Ren := ⟨fun | 99 => 48 | 206 => 69 | n => n, fun | 9 => 9 | 4 => 4 | 3 => 3 | n => n, fun | n => n⟩
theorem Tryd.lays99 : Go.Proofs.Lays.n99 Tryd.prog Tryd.lays99_ren := {
  mixed := by kernel_rfl
  f99 := Tryd.func48.trans (congrArg some (by kernel_rfl))
  f206 := Tryd.func69.trans (congrArg some (by kernel_rfl))
  t3 := Tryd.underlying3
  a3 := Tryd.isAgg3
  z3 := Tryd.sizeOf3
  v3 := Tryd.zeroValue3
  t4 := Tryd.underlying4
  a4 := Tryd.isAgg4
  z4 := Tryd.sizeOf4
  v4 := Tryd.zeroValue4
  t9 := Tryd.underlying9
  a9 := Tryd.isAgg9
  z9 := Tryd.sizeOf9
  v9 := Tryd.zeroValue9 }
open Go.RowKit Go.Lib in
/-- strings.HasPrefix: "HasPrefix reports whether the string s begins with prefix.": IT RETURNS 'Lib.hasPrefix s prefix'; the world is as it was. (LAID: no walk: one application.) -/
theorem Tryd.strings_HasPrefix (s p : ByteArray) (w : World) :
    Calls Tryd.prog 48 #[.string s, .string p] w fun e w' => e = .returned (.bool (Lib.hasPrefix s.data.toList p.data.toList)) ∧ w' = w := Any.strings_HasPrefix Tryd.lays99 s p w
open Go.RowKit Go.Lib in
open Go.RowKit Go.Lib in
open Go.RowKit Go.Lib in
open Go.RowKit Go.Lib in
open Go.RowKit Go.Lib in
open Go.RowKit Go.Lib in
def Tryd.lays155_ren : Go.Shelf.Ren := ⟨fun | 155 => 28 | 154 => 46 | 138 => 63 | 165 => 64 | 143 => 65 | 166 => 66 | 197 => 67 | 169 => 68 | 195 => 86 | 218 => 87 | 240 => 88 | 241 => 89 | 219 => 90 | 260 => 91 | 276 => 106 | 277 => 107 | 217 => 108 | 225 => 109 | 224 => 110 | 267 => 111 | 266 => 124 | 314 => 125 | n => n, fun | 9 => 9 | 3 => 3 | 4 => 4 | 72 => 100 | 0 => 0 | 76 => 104 | 105 => 106 | 21 => 21 | 5 => 5 | 70 => 97 | 20 => 20 | 37 => 98 | 75 => 103 | 127 => 128 | 164 => 148 | 46 => 151 | 119 => 108 | 139 => 154 | 138 => 153 | 146 => 177 | 51 => 130 | 80 => 75 | n => n, fun | 1 => 5 | 3 => 6 | 4 => 7 | n => n⟩
theorem Tryd.lays155 : Go.Proofs.Lays.n155 Tryd.prog Tryd.lays155_ren := {
  mixed := by kernel_rfl
  f138 := Tryd.func63.trans (congrArg some (by kernel_rfl))
  f143 := Tryd.func65.trans (congrArg some (by kernel_rfl))
  f154 := Tryd.func46.trans (congrArg some (by kernel_rfl))
  f155 := Tryd.func28.trans (congrArg some (by kernel_rfl))
  f165 := Tryd.func64.trans (congrArg some (by kernel_rfl))
  f166 := Tryd.func66.trans (congrArg some (by kernel_rfl))
  f169 := Tryd.func68.trans (congrArg some (by kernel_rfl))
  f195 := Tryd.func86.trans (congrArg some (by kernel_rfl))
  f197 := Tryd.func67.trans (congrArg some (by kernel_rfl))
  f217 := Tryd.func108.trans (congrArg some (by kernel_rfl))
  f218 := Tryd.func87.trans (congrArg some (by kernel_rfl))
  f219 := Tryd.func90.trans (congrArg some (by kernel_rfl))
  f224 := Tryd.func110.trans (congrArg some (by kernel_rfl))
  f225 := Tryd.func109.trans (congrArg some (by kernel_rfl))
  f240 := Tryd.func88.trans (congrArg some (by kernel_rfl))
  f241 := Tryd.func89.trans (congrArg some (by kernel_rfl))
  f260 := Tryd.func91.trans (congrArg some (by kernel_rfl))
  f266 := Tryd.func124.trans (congrArg some (by kernel_rfl))
  f267 := Tryd.func111.trans (congrArg some (by kernel_rfl))
  f276 := Tryd.func106.trans (congrArg some (by kernel_rfl))
  f277 := Tryd.func107.trans (congrArg some (by kernel_rfl))
  f314 := Tryd.func125.trans (congrArg some (by kernel_rfl))
  t0 := Tryd.underlying0
  a0 := Tryd.isAgg0
  z0 := Tryd.sizeOf0
  v0 := Tryd.zeroValue0
  t3 := Tryd.underlying3
  a3 := Tryd.isAgg3
  z3 := Tryd.sizeOf3
  v3 := Tryd.zeroValue3
  t4 := Tryd.underlying4
  a4 := Tryd.isAgg4
  z4 := Tryd.sizeOf4
  v4 := Tryd.zeroValue4
  t5 := Tryd.underlying5
  a5 := Tryd.isAgg5
  z5 := Tryd.sizeOf5
  v5 := Tryd.zeroValue5
  t9 := Tryd.underlying9
  a9 := Tryd.isAgg9
  z9 := Tryd.sizeOf9
  v9 := Tryd.zeroValue9
  t20 := Tryd.underlying20
  a20 := Tryd.isAgg20
  z20 := Tryd.sizeOf20
  v20 := Tryd.zeroValue20
  t21 := Tryd.underlying21
  a21 := Tryd.isAgg21
  z21 := Tryd.sizeOf21
  v21 := Tryd.zeroValue21
  t37 := Tryd.underlying98
  a37 := Tryd.isAgg98
  z37 := Tryd.sizeOf98
  v37 := Tryd.zeroValue98
  t46 := Tryd.underlying151
  a46 := Tryd.isAgg151
  z46 := Tryd.sizeOf151
  v46 := Tryd.zeroValue151
  t51 := Tryd.underlying130
  a51 := Tryd.isAgg130
  z51 := Tryd.sizeOf130
  v51 := Tryd.zeroValue130
  t70 := Tryd.underlying97
  a70 := Tryd.isAgg97
  z70 := Tryd.sizeOf97
  v70 := Tryd.zeroValue97
  t72 := Tryd.underlying100
  a72 := Tryd.isAgg100
  z72 := Tryd.sizeOf100
  v72 := Tryd.zeroValue100
  t75 := Tryd.underlying103
  a75 := Tryd.isAgg103
  z75 := Tryd.sizeOf103
  v75 := Tryd.zeroValue103
  t76 := Tryd.underlying104
  a76 := Tryd.isAgg104
  z76 := Tryd.sizeOf104
  v76 := Tryd.zeroValue104
  t105 := Tryd.underlying106
  a105 := Tryd.isAgg106
  z105 := Tryd.sizeOf106
  v105 := Tryd.zeroValue106
  t119 := Tryd.underlying108
  a119 := Tryd.isAgg108
  z119 := Tryd.sizeOf108
  t127 := Tryd.underlying128
  a127 := Tryd.isAgg128
  z127 := Tryd.sizeOf128
  v127 := Tryd.zeroValue128
  t138 := Tryd.underlying153
  a138 := Tryd.isAgg153
  z138 := Tryd.sizeOf153
  v138 := Tryd.zeroValue153
  t139 := Tryd.underlying154
  a139 := Tryd.isAgg154
  z139 := Tryd.sizeOf154
  v139 := Tryd.zeroValue154
  t146 := Tryd.underlying177
  a146 := Tryd.isAgg177
  z146 := Tryd.sizeOf177
  v146 := Tryd.zeroValue177
  t164 := Tryd.underlying148
  a164 := Tryd.isAgg148
  z164 := Tryd.sizeOf148
  v164 := Tryd.zeroValue148
  g1 := by kernel_rfl
  g3 := by kernel_rfl
  g4 := by kernel_rfl }
theorem Tryd.Builder_Extra_155 : Builder.Extra Tryd.prog Tryd.lays155_ren := {
  sizeBuilder := by kernel_rfl
  liesBuilder := by kernel_rfl
  t5 := Tryd.underlying5
  a5 := Tryd.isAgg5
  z5 := Tryd.sizeOf5
  v5 := Tryd.zeroValue5
  infoByte := by kernel_rfl
  cellsByte := by kernel_rfl
  sizeByte := by kernel_rfl
  neB5 := by decide }
open Go.RowKit Go.Lib in
/-- strings.ReplaceAll: "ReplaceAll returns a copy of the string s with all non-overlapping instances of old replaced by new.": AT AN old THAT IS NOT EMPTY: 'Lib.replaceAll s old new'. (LAID: no walk: one application.) -/
theorem Tryd.strings_ReplaceAll (s old new : ByteArray) (m : Int) (w : World) (hs : s.size < 4294967281) (hm : w.cell? ⟨5, 0, none⟩ = some (.int .i64 m)) (h1 : 1 ≤ old.size) (hlen : s.size + Lib.countB s old * new.size ≤ 140737488355328) :
    Calls Tryd.prog 28 #[.string s, .string old, .string new] w fun e w' =>
      e = .returned (.string ⟨(Lib.replaceAll s.data.toList old.data.toList new.data.toList).toArray⟩) ∧ Below w.heap.size w w' := Any.strings_ReplaceAll Tryd.lays155 Tryd.Builder_Extra_155 s old new m w hs hm h1 hlen
open Go.RowKit Go.Lib in
open Go.RowKit Go.Lib in
open Go.RowKit Go.Lib in
open Go.RowKit Go.Lib in
open Go.RowKit Go.Lib in
open Go.RowKit Go.Lib in
open Go.RowKit Go.Lib in
open Go.RowKit Go.Lib in
open Go.RowKit Go.Lib in
open Go.RowKit Go.Lib in
open Go.RowKit Go.Lib in
def Tryd.lays229_ren : Go.Shelf.Ren := ⟨fun | 229 => 29 | n => n, fun | 9 => 9 | 40 => 54 | 31 => 52 | 152 => 72 | 3 => 3 | 0 => 0 | 4 => 4 | 21 => 21 | 154 => 74 | n => n, fun | n => n⟩
theorem Tryd.lays229 : Go.Proofs.Lays.n229 Tryd.prog Tryd.lays229_ren := {
  mixed := by kernel_rfl
  f229 := Tryd.func29.trans (congrArg some (by kernel_rfl))
  t0 := Tryd.underlying0
  a0 := Tryd.isAgg0
  z0 := Tryd.sizeOf0
  v0 := Tryd.zeroValue0
  t3 := Tryd.underlying3
  a3 := Tryd.isAgg3
  z3 := Tryd.sizeOf3
  v3 := Tryd.zeroValue3
  t4 := Tryd.underlying4
  a4 := Tryd.isAgg4
  z4 := Tryd.sizeOf4
  v4 := Tryd.zeroValue4
  t9 := Tryd.underlying9
  a9 := Tryd.isAgg9
  z9 := Tryd.sizeOf9
  v9 := Tryd.zeroValue9
  t21 := Tryd.underlying21
  a21 := Tryd.isAgg21
  z21 := Tryd.sizeOf21
  v21 := Tryd.zeroValue21
  t31 := Tryd.underlying52
  a31 := Tryd.isAgg52
  z31 := Tryd.sizeOf52
  v31 := Tryd.zeroValue52
  t40 := Tryd.underlying54
  a40 := Tryd.isAgg54
  z40 := Tryd.sizeOf54
  v40 := Tryd.zeroValue54
  t152 := Tryd.underlying72
  a152 := Tryd.isAgg72
  z152 := Tryd.sizeOf72
  v152 := Tryd.zeroValue72
  t154 := Tryd.underlying74
  a154 := Tryd.isAgg74
  z154 := Tryd.sizeOf74
  v154 := Tryd.zeroValue74 }
open Go.RowKit Go.Lib in
open Go.RowKit Go.Lib in
open Go.RowKit Go.Lib in
open Go.RowKit Go.Lib in
open Go.RowKit Go.Lib in
open Go.RowKit Go.Lib in
theorem Tryd.strings_FieldsFunc_grows (g : Nat) (lb : Array Value) (eg : ∀ args w, (callFunc g args).run Tryd.prog w = .ok (.enter g args) w) (p : Nat → Bool) (s : ByteArray) (w : World) (hs : s.size ≤ 4294967296) (hp : PredGrows Tryd.prog g lb p w) :
    Calls Tryd.prog 29 #[.string s, .func (.func g) #[] lb] w fun e w' => ∃ A, e = .returned (.slice (some ⟨A, 0, none⟩) (Lib.goFieldsP p s).length (Lib.goFieldsP p s).length) ∧ w.heap.size ≤ A ∧
      w'.ownsRow w.heap.size 9 1 (.slice (some ⟨A, 0, none⟩) (Lib.goFieldsP p s).length (Lib.goFieldsP p s).length) (Lib.goFieldsP p s).length ((Lib.goFieldsP p s).map Value.string) ∧ Below w.heap.size w w' := Any.strings_FieldsFunc_grows Tryd.lays229 g lb eg p s w hs hp (by kernel_rfl) (by kernel_rfl)
end Go.Proofs
namespace Go.Proofs.YtnflnbdlgdjfmabDoor
open Go.RowKit
set_option linter.unusedVariables false
set_option linter.unusedSimpArgs false
section
variable {F : Nat → Prop} {ρ : Nat → Lc} {w w' : World}
theorem moves_below (H : HRel F ρ (ofL []) w) (hb : Below w.heap.size w w') (G : Nat → Prop) (hG : ∀ k, G k → w.heap.size ≤ k ∧ k < w'.heap.size) : Moves (namesL []) F ρ (ofL []) w (fun k => F k ∨ G k) ρ (ofL []) w' where
  sub := fun k h => .inl h
  same := fun k h => hb.block k (H.lt k h)
  stb := fun b h => absurd rfl h
  stbd := fun b h => by cases h
  heap := ⟨fun b x h => (by cases h), fun b b' g h => absurd rfl h, fun b g h => absurd rfl h, fun k h => by
      rcases h with h | h
      · exact Nat.lt_of_lt_of_le (H.lt k h) hb.size
      · exact (hG k h).2, fun b x h => (by cases h), fun g c h => relK_mono (fun k h => .inl h) (fun k h => hb.block k (H.lt k h)) (H.gl g c h), fun g p h => ⟨.inl (H.gx g p h).1, by rw [hb.block g (H.lt g (H.gx g p h).1)]; exact (H.gx g p h).2⟩⟩
  le := fun b x h => by cases h
  own := fun b g h => absurd rfl h
  Fnew := fun k h => by
    rcases h with h | h
    · exact .inl h
    · exact .inr (.inl (hG k h).1)
  os := hb.os
  tape := hb.tape
  output := hb.output
  size := hb.size
  kept := fun k hk _ => hb.block k hk
end
/-- A contract of what only makes memory. -/
theorem acalls_ext {P : Program} {f : FuncId} {args : List U} {r : U} (hcan : canCall P f = true)
    (h : ∀ (F : Nat → Prop) (ρ : Nat → Lc) (w : World) (vals : List Value), HRel F ρ (ofL []) w → All2 (fun u v => relU F ρ w u v ∧ okU (ofL []) u) args vals →
      Calls P f vals.toArray w fun e w' => ∃ (v : Value) (G : Nat → Prop), e = .returned v ∧ Below w.heap.size w w' ∧ (∀ k, G k → w.heap.size ≤ k ∧ k < w'.heap.size) ∧ relU (fun k => F k ∨ G k) ρ w' r v)
    (hok : okU (ofL []) r) : ACalls P f args [] r [] :=
  ⟨hcan, fun F ρ w vals H ha => (h F ρ w vals H ha).mono fun e w' ⟨v, G, he, hb, hG, hr⟩ => ⟨v, _, ρ, he, moves_below H hb G hG, hr, hok⟩⟩
theorem args2 {F : Nat → Prop} {ρ : Nat → Lc} {w : World} {a b : C} {vals : List Value} (h : All2 (fun u v => relU F ρ w u v ∧ okU (ofL []) u) [.one a, .one b] vals) : ∃ x y, vals = [x, y] ∧ relC F ρ w a x ∧ relC F ρ w b y := by
  match vals, h with
  | [x, y], ⟨⟨h1, _⟩, ⟨h2, _⟩, _⟩ => exact ⟨x, y, rfl, h1, h2⟩
theorem args1 {F : Nat → Prop} {ρ : Nat → Lc} {w : World} {a : C} {vals : List Value} (h : All2 (fun u v => relU F ρ w u v ∧ okU (ofL []) u) [.one a] vals) : ∃ x, vals = [x] ∧ relC F ρ w a x := by
  match vals, h with
  | [x], ⟨⟨h1, _⟩, _⟩ => exact ⟨x, rfl, h1⟩
theorem args3 {F : Nat → Prop} {ρ : Nat → Lc} {w : World} {a b c : C} {vals : List Value} (h : All2 (fun u v => relU F ρ w u v ∧ okU (ofL []) u) [.one a, .one b, .one c] vals) : ∃ x y z, vals = [x, y, z] ∧ relC F ρ w a x ∧ relC F ρ w b y ∧ relC F ρ w c z := by
  match vals, h with
  | [x, y, z], ⟨⟨h1, _⟩, ⟨h2, _⟩, ⟨h3, _⟩, _⟩ => exact ⟨x, y, z, rfl, h1, h2, h3⟩
def noG : Nat → Prop := fun _ => False
theorem hasPrefix_a (s p : ByteArray) : ACalls Tryd.prog 48 [.one (.str s), .one (.str p)] [] (.one (.bool (Lib.hasPrefix s.data.toList p.data.toList))) [] :=
  acalls_ext (by kernel_rfl) (fun F ρ w vals H ha => by
    obtain ⟨_, _, rfl, rfl, rfl⟩ := args2 ha
    exact (Tryd.strings_HasPrefix s p w).mono fun e w' ⟨he, hw⟩ => by
      subst hw; exact ⟨_, noG, he, Below.refl _ _, fun k h => h.elim, rfl⟩) trivial
theorem below_grow (w : World) (k : Nat) (os : Array Obj) : Below w.heap.size w (Sort.grow (w.drewN k) os) :=
  ⟨rfl, rfl, rfl, by simp [Sort.grow], fun i hi => by simp [Sort.grow, Array.getElem?_append_left hi]⟩
/-- A listed variable, out of what the frame knows. -/
theorem gx_var {F : Nat → Prop} {ρ : Nat → Lc} {w : World} (H : HRel F ρ (ofL []) w) {g : Nat} {name : String} {p : Array Value → Prop} (hn : Tryd.prog.globalNamed name = some g) (hg : globX g = some p) : ∃ cs, w.var? Tryd.prog name = some cs ∧ p cs ∧ ∀ i v, cs[i]? = some v → w.cell? ⟨g, i, none⟩ = some v := by
  obtain ⟨_, cs, t, fz, hp, hh⟩ := H.gx g p hg
  have hv : w.var? Tryd.prog name = some cs := by unfold World.var?; rw [hn]; simp [hh]
  refine ⟨cs, hv, hp, fun i v hi => ?_⟩
  have := World.var?_cell hn hv i; rw [this]; exact hi
theorem nPow : Tryd.prog.globalNamed "internal/strconv.uint64pow10" = some 8 := by kernel_rfl
theorem nMax : Tryd.prog.globalNamed "internal/bytealg.MaxLen" = some 5 := by kernel_rfl
theorem nSyn : Tryd.prog.globalNamed "strconv.ErrSyntax" = some 9 := by kernel_rfl
theorem nRng : Tryd.prog.globalNamed "strconv.ErrRange" = some 10 := by kernel_rfl
theorem itoa_a (n : Int) (h0 : -9223372036854775808 ≤ n) (h1 : n ≤ 9223372036854775807) : ACalls Tryd.prog 44 [.one (.int .i64 n)] [] (.one (.str ⟨(Lib.itoa n).toArray⟩)) [] :=
  acalls_ext (by kernel_rfl) (fun F ρ w vals H ha => by
    obtain ⟨_, rfl, rfl⟩ := args1 ha
    obtain ⟨cs, hv, rfl, _⟩ := gx_var H nPow rfl
    refine (Tryd.strconv_Itoa n h0 h1 w ?_).mono fun e w' ⟨he, k, os, hw⟩ => by
      subst hw; exact ⟨_, noG, he, below_grow w k os, fun k h => h.elim, rfl⟩
    unfold Lib.TabIs
    rw [hv, show pow10V = (Lib.pow10Tab.map fun z => Value.int .u64 z).toArray by simp [pow10V, Lib.pow10Tab, List.range, List.range.loop]]) trivial
/-- What Atoi answers. -/
def atoiU (s : ByteArray) : U :=
  match Lib.atoiAll s.data.toList with
  | .ok v => .tup [.one (.int .i64 v), .one .nilif]
  | _ => .tup [.one .any, .one .ifc]
theorem atoi_a (s : ByteArray) (hs : s.size ≤ 281474976710656) : ACalls Tryd.prog 70 [.one (.str s)] [] (atoiU s) [] :=
  acalls_ext (by kernel_rfl) (fun F ρ w vals H ha => by
    obtain ⟨_, rfl, rfl⟩ := args1 ha
    unfold atoiU
    cases hA : Lib.atoiAll s.data.toList with
    | ok v =>
      exact (Tryd.strconv_Atoi_ok s (by omega) v hA w).mono fun e w' ⟨he, hw⟩ => by
        refine ⟨_, noG, he, ?_, fun k h => h.elim, [_, _], rfl, rfl, rfl, trivial⟩
        rcases hw with rfl | ⟨t, rfl⟩
        · exact Below.refl _ _
        · exact Joins.below_bytesWorld _ _ _ _ (Nat.le_refl _)
    | range =>
      obtain ⟨cs, hv, ⟨t, x, rfl⟩, _⟩ := gx_var H nRng rfl
      exact (Tryd.strconv_Atoi_range_var s hs hA t x w hv).mono fun e w' ⟨N, he, _, _, hb⟩ => by
        exact ⟨_, noG, he, hb, fun k h => h.elim, [_, _], rfl, rfl, ⟨_, _, rfl⟩, trivial⟩
    | _ =>
      obtain ⟨cs, hv, ⟨t, x, rfl⟩, _⟩ := gx_var H nSyn rfl
      exact (Tryd.strconv_Atoi_syntax_var s hs hA t x w hv).mono fun e w' ⟨N, he, _, _, hb⟩ => by
        exact ⟨_, noG, he, hb, fun k h => h.elim, [_, _], rfl, rfl, ⟨_, _, rfl⟩, trivial⟩) (by
    unfold atoiU
    split <;> exact okU_of (by exact ⟨trivial, trivial, trivial⟩))
def replaceS (s old new : ByteArray) : ByteArray := ⟨(Lib.replaceAll s.data.toList old.data.toList new.data.toList).toArray⟩
theorem replaceAll_a (s old new : ByteArray) (hs : s.size < 4294967281) (h1 : 1 ≤ old.size) (hl : s.size + Lib.countB s old * new.size ≤ 140737488355328) : ACalls Tryd.prog 28 [.one (.str s), .one (.str old), .one (.str new)] [] (.one (.str (replaceS s old new))) [] :=
  acalls_ext (by kernel_rfl) (fun F ρ w vals H ha => by
    obtain ⟨_, _, _, rfl, rfl, rfl, rfl⟩ := args3 ha
    obtain ⟨cs, hv, ⟨m, rfl⟩, hc⟩ := gx_var H nMax rfl
    exact (Tryd.strings_ReplaceAll s old new m w hs (hc 0 _ rfl) h1 hl).mono fun e w' ⟨he, hb⟩ => by
      exact ⟨_, noG, he, hb, fun k h => h.elim, rfl⟩) trivial
/-- The words' cells. -/
def strRows (ws : List ByteArray) : List (List C) := ws.map fun s => [.str s]
theorem fields_a (g : FuncId) (p : Nat → Bool) (s : ByteArray) (hs : s.size ≤ 4294967296) (hcan : canCall Tryd.prog g = true)
    (eg : ∀ (args : Array Value) (w : World), (callFunc g args).run Tryd.prog w = .ok (.enter g args) w)
    (hp : ∀ x : Nat, x ≤ 1114111 → ACalls Tryd.prog g [.one (.int .i32 x)] [] (.one (.bool (p x))) []) : ACalls Tryd.prog 29 [.one (.str s), .one (.fn g)] [] (.one (slFOf 1 (strRows (Lib.goFieldsP p s)))) [] :=
  acalls_ext (by kernel_rfl) (fun F ρ w vals H ha => by
    obtain ⟨_, _, rfl, rfl, rfl⟩ := args2 ha
    have hpg : PredGrows Tryd.prog g #[] p w := by
      intro W x hx hb
      have HW : HRel F ρ (ofL []) W := by
        have := (moves_below H hb noG (fun k h => h.elim)).heap
        refine ⟨fun b x h => (by cases h), fun b b' g h => absurd rfl h, fun b g h => absurd rfl h, fun k h => this.lt k (.inl h), fun b x h => (by cases h), fun g c hg => ?_, fun g q hg => ?_⟩
        · exact relK_mono (fun k h => h) (fun k h => hb.block k (H.lt k h)) (H.gl g c hg)
        · exact ⟨(H.gx g q hg).1, by rw [hb.block g (H.lt g (H.gx g q hg).1)]; exact (H.gx g q hg).2⟩
      refine ((hp x hx).2 F ρ W [.int .i32 x] HW ⟨⟨rfl, trivial⟩, trivial⟩).mono fun e W' ⟨v, F', ρ', he, hM, hr, _⟩ => ?_
      have hr : v = .bool (p x) := hr
      subst hr
      exact ⟨he, hM.os, hM.tape, hM.output, hM.size, fun k hk => hM.kept k hk fun b hb => absurd rfl hb⟩
    refine (Tryd.strings_FieldsFunc_grows g #[] eg p s w hs hpg).mono fun e w' ⟨A, he, hA, ⟨hlen, hrow⟩, hb⟩ => ?_
    refine ⟨_, fun k => k = A ∧ k < w'.heap.size, he, hb, fun k h => ⟨by rw [h.1]; exact hA, h.2⟩, ?_⟩
    have hn : (strRows (Lib.goFieldsP p s)).length = (Lib.goFieldsP p s).length := by simp [strRows]
    rcases hrow with ⟨h0, _⟩ | ⟨g', cap, cur, hv, _, hh, hc1, hc2, hcs, hct⟩
    · cases h0
    · simp only [Value.slice.injEq, Option.some.injEq, Addr.mk.injEq] at hv
      obtain ⟨⟨rfl, _, _⟩, _, rfl⟩ := hv
      refine ⟨_, by rw [hn], by rw [hn]; exact hc2, fun i hi => ⟨A, 0, rfl, .inr ⟨rfl, (Array.getElem?_eq_some_iff.1 hh).1⟩, fun j hj => ?_⟩⟩
      obtain rfl : j = 0 := by omega
      rw [hn] at hi
      have hx : cur[i]? = some (.string (Lib.goFieldsP p s)[i]) := by
        have := congrArg (fun l => l[i]?) hct
        simp only [Nat.mul_one, List.getElem?_take, hi, if_true, List.getElem?_map, List.getElem?_eq_getElem hi, Option.map_some, Array.getElem?_toList] at this
        exact this
      refine ⟨.string (Lib.goFieldsP p s)[i], ?_, ?_⟩
      · unfold World.cell?
        simp only [hh, Nat.zero_add, Nat.mul_one, Nat.add_zero]
        exact hx
      · simp [rowF, strRows, hi, relK]) trivial
end Go.Proofs.YtnflnbdlgdjfmabDoor
namespace Go.Proofs.YtnflnbdlgdjfmabDoor
set_option linter.unusedVariables false
set_option linter.unusedSimpArgs false
/-- A reader: the words that are left; was something wrong? -/
structure Rd where
  ws : List ByteArray
  bad : Bool
def Rd.c (r : Rd) : List C := [slOf 1 (strRows r.ws), .bool r.bad]
def sNil : ByteArray := ⟨#[]⟩
def sLp : ByteArray := ⟨#[40]⟩
def sRp : ByteArray := ⟨#[41]⟩
def sYes : ByteArray := ⟨#[121, 101, 115]⟩
def sNo : ByteArray := ⟨#[110, 111]⟩
def sHash : ByteArray := ⟨#[35]⟩
def Rd.fail (r : Rd) : Rd := ⟨r.ws, true⟩
def Rd.next (r : Rd) : ByteArray × Rd := match r.ws with | [] => (sNil, ⟨[], true⟩) | w :: ws => (w, ⟨ws, r.bad⟩)
/-- The closing bracket. -/
def Rd.close (r : Rd) : Rd := ⟨r.next.2.ws, !sEq r.next.1 sRp || r.next.2.bad⟩
def kAt (s : ByteArray) (op : Bool) (i : Nat) : Bool := sEq (kindsL.getD i sNil) s && ((i == 3) == op)
/-- The first of the last n kinds that fits. -/
def kFrom (s : ByteArray) (op : Bool) : Nat → Option Nat
  | 0 => none
  | n + 1 => if kAt s op (3 - n) then some (3 - n) else kFrom s op n
def wAt (s : ByteArray) (i : Nat) : Bool := !sEq (wordsL.getD i sNil) sNil && sEq (wordsL.getD i sNil) s
def wFrom (s : ByteArray) : Nat → Option Nat
  | 0 => none
  | n + 1 => if wAt s (9 - n) then some (9 - n) else wFrom s n
/-- A type; so many may be within one another. -/
def readK : Nat → Rd → Ty × Rd
  | 0, r => (.any, (if sEq r.next.1 sLp then r.next.2.next else r.next).2.fail)
  | d + 1, r =>
    let op := sEq r.next.1 sLp
    let q := if op then r.next.2.next else r.next
    match kFrom q.1 op 4 with
    | none => (.any, q.2.fail)
    | some k => if op then (.mk k [(readK d q.2).1, (readK d (readK d q.2).2).1], (readK d (readK d q.2).2).2.close) else (.mk k [], q.2)
def numOf (s : ByteArray) : Option Int :=
  match Lib.atoiAll s.data.toList with
  | .ok v => if sEq ⟨(Lib.itoa v).toArray⟩ s then some v else none
  | _ => none
def Rd.number (r : Rd) (s : ByteArray) : Int × Rd := match numOf s with | some v => (v, r) | none => (0, r.fail)
/-- So many terms, one after the other. -/
def readN (f : Rd → Tm × Rd) : Nat → Rd → List Tm × Rd
  | 0, r => ([], r)
  | n + 1, r => ((f r).1 :: (readN f n (f r).2).1, (readN f n (f r).2).2)
/-- A term of a word's kind. -/
def readB (f : Rd → Tm × Rd) (k : Nat) (r : Rd) : Tm × Rd :=
  let t := if (k : Int) == 7 || (k : Int) == 9 then readK 4 r else (.any, r)
  let l := readN f (arity k).toNat t.2
  (.mk k 0 t.1 .any l.1, l.2.close)
/-- A term; so many may be within one another. -/
def readT : Nat → Rd → Tm × Rd
  | 0, r => (Tm.zero, r.next.2.fail)
  | n + 1, r =>
    let s := r.next.1
    let q := r.next.2
    if q.bad then (Tm.zero, q.fail)
    else if sEq s sYes || sEq s sNo then (.mk 3 (if sEq s sYes then 1 else 0) .any .any [], q)
    else if Lib.hasPrefix s.data.toList sHash.data.toList then (.mk 1 (q.number (s.extract 1 s.size)).1 .any .any [], (q.number (s.extract 1 s.size)).2)
    else if !sEq s sLp then (.mk 2 (q.number s).1 .any .any [], (q.number s).2)
    else match wFrom q.next.1 10 with
      | none => (Tm.zero, q.next.2.fail)
      | some k => readB (readT n) k q.next.2
/-- A text's words. -/
def wordsOf (s : ByteArray) : List ByteArray := Lib.goFieldsP (fun x => x == 32 || x == 10) (replaceS (replaceS s sLp ⟨#[32, 40, 32]⟩) sRp ⟨#[32, 41, 32]⟩)
/-- The term of a text, and what was wrong. -/
def parse (s : ByteArray) : Tm × Int :=
  if 1000 < s.size then (Tm.zero, 4)
  else
    let p := readT 40 ⟨wordsOf s, false⟩
    if p.2.bad || decide (0 < p.2.ws.length) || !p.1.Good 0 then (Tm.zero, 1) else (p.1, 0)
theorem next_len (r : Rd) : r.next.2.ws.length ≤ r.ws.length ∧ (r.next.2.bad = false → r.next.2.ws.length + 1 = r.ws.length ∧ r.bad = false) := by
  unfold Rd.next
  split
  · rename_i h; exact ⟨by simp, fun h => by cases h⟩
  · rename_i w ws h; exact ⟨by simp [h], fun hb => ⟨by simp [h], hb⟩⟩
theorem close_len (r : Rd) (h : r.close.bad = false) : r.close.ws.length + 1 = r.ws.length ∧ r.bad = false := by
  unfold Rd.close at h ⊢
  simp only [Bool.or_eq_false_iff] at h
  exact (next_len r).2 h.2
theorem readK_thin : ∀ (d : Nat) (r : Rd), Thin (readK d r).1 ∧ ((readK d r).2.bad = false → (readK d r).2.ws.length + 1 ≤ r.ws.length ∧ r.bad = false)
  | 0, r => by
    refine ⟨Right.any.thin, fun h => ?_⟩
    simp [readK, Rd.fail] at h
  | d + 1, r => by
    have leaf : ∀ k : Int, Thin (.mk k []) := fun k => .mk k [] (by simp) (fun t h => by cases h)
    have hq : ∀ q : ByteArray × Rd, q = (if sEq r.next.1 sLp then r.next.2.next else r.next) → q.2.bad = false → q.2.ws.length + 1 ≤ r.ws.length ∧ r.bad = false := by
      intro q hq hb
      subst hq
      split at hb
      · rename_i h
        obtain ⟨h1, h2⟩ := (next_len r.next.2).2 hb
        obtain ⟨h3, h4⟩ := (next_len r).2 h2
        rw [if_pos h]
        exact ⟨by omega, h4⟩
      · rename_i h
        obtain ⟨h3, h4⟩ := (next_len r).2 hb
        rw [if_neg h]
        exact ⟨by omega, h4⟩
    simp only [readK]
    generalize hqe : (if sEq r.next.1 sLp = true then r.next.2.next else r.next) = q
    have hq := hq q hqe.symm
    cases kFrom q.1 (sEq r.next.1 sLp) 4 with
    | none => exact ⟨Right.any.thin, fun h => by cases h⟩
    | some k =>
      simp only
      split
      · obtain ⟨t1, b1⟩ := readK_thin d q.2
        obtain ⟨t2, b2⟩ := readK_thin d (readK d q.2).2
        refine ⟨.mk _ _ (by simp) fun t ht => ?_, fun h => ?_⟩
        · simp at ht
          rcases ht with rfl | rfl
          · exact t1
          · exact t2
        · obtain ⟨h1, h2⟩ := close_len _ h
          obtain ⟨h3, h4⟩ := b2 h2
          obtain ⟨h5, h6⟩ := b1 h4
          obtain ⟨h7, h8⟩ := hq h6
          exact ⟨by simp only; omega, h8⟩
      · exact ⟨leaf _, hq⟩
theorem atoi_in {l : List UInt8} {v : Int} (h : Lib.atoiAll l = .ok v) : -9223372036854775808 ≤ v ∧ v ≤ 9223372036854775807 := by
  unfold Lib.atoiAll at h
  split at h
  · cases h
  · simp only at h
    split at h
    · cases h
    · cases h
    · split at h
      · cases h
      · rename_i h1
        split at h
        · cases h
        · rename_i h2
          simp only [Lib.NumEnd.ok.injEq] at h
          subst h
          split
          · rename_i h3; simp only [h3, true_and, Nat.not_lt] at h2; omega
          · rename_i h3; simp only [h3, not_false_eq_true, true_and, Nat.not_le] at h1; omega
theorem numOf_in {s : ByteArray} {v : Int} (h : numOf s = some v) : -9223372036854775808 ≤ v ∧ v ≤ 9223372036854775807 := by
  unfold numOf at h
  split at h
  · rename_i hA
    split at h
    · cases h; exact atoi_in hA
    · cases h
  · cases h
theorem number_in (r : Rd) (s : ByteArray) : (r.number s).1 ≤ 9223372036854775807 ∧ ((r.number s).2.bad = false → (r.number s).2 = r) := by
  unfold Rd.number
  split
  · rename_i h; exact ⟨(numOf_in h).2, fun _ => rfl⟩
  · exact ⟨by show (0 : Int) ≤ _; decide, fun h => by cases h⟩
/-- What has been read: of the right form; not more terms than words. -/
def ReadOk (r : Rd) (p : Tm × Rd) : Prop := TmOk p.1 ∧ (p.2.bad = false → p.1.nodes + p.2.ws.length ≤ r.ws.length ∧ r.bad = false)
theorem zero_ok : TmOk Tm.zero := .mk (by decide) Right.any.thin Right.any.thin fun x h => by cases h
theorem leaf_ok {k n : Int} (hn : n ≤ 9223372036854775807) : TmOk (.mk k n .any .any []) := .mk hn Right.any.thin Right.any.thin fun x h => by cases h
theorem readN_ok {f : Rd → Tm × Rd} (hf : ∀ r, ReadOk r (f r)) : ∀ (n : Nat) (r : Rd), (∀ t ∈ (readN f n r).1, TmOk t) ∧ (readN f n r).1.length = n ∧ ((readN f n r).2.bad = false → nodesL (readN f n r).1 + (readN f n r).2.ws.length ≤ r.ws.length ∧ r.bad = false)
  | 0, r => by simp [readN, nodesL]
  | n + 1, r => by
    obtain ⟨h1, h2⟩ := hf r
    obtain ⟨h3, h4, h5⟩ := readN_ok hf n (f r).2
    simp only [readN, List.length_cons, h4, nodesL]
    refine ⟨fun t ht => ?_, trivial, fun hb => ?_⟩
    · rcases List.mem_cons.1 ht with rfl | ht
      · exact h1
      · exact h3 t ht
    · obtain ⟨h6, h7⟩ := h5 hb
      obtain ⟨h8, h9⟩ := h2 h7
      exact ⟨by omega, h9⟩
theorem readT_ok : ∀ (n : Nat) (r : Rd), ReadOk r (readT n r)
  | 0, r => ⟨zero_ok, fun h => by simp [readT, Rd.fail] at h⟩
  | n + 1, r => by
    have hlen := next_len r
    have leafN : ∀ t : Tm, t.l = [] → t.nodes = 1 := fun t h => by rw [nodes_eta, h]; rfl
    simp only [readT]
    cases hb : r.next.2.bad with
    | true => exact ⟨zero_ok, fun h => by simp [Rd.fail] at h⟩
    | false =>
      obtain ⟨hl, hbad⟩ := hlen.2 hb
      simp only [Bool.false_eq_true, if_false]
      split
      · exact ⟨leaf_ok (by split <;> decide), fun _ => ⟨by rw [leafN _ rfl]; simp only; omega, hbad⟩⟩
      split
      · obtain ⟨h1, h2⟩ := number_in r.next.2 (r.next.1.extract 1 r.next.1.size)
        exact ⟨leaf_ok h1, fun h => ⟨by rw [leafN _ rfl]; simp only at h ⊢; rw [h2 h]; omega, hbad⟩⟩
      split
      · obtain ⟨h1, h2⟩ := number_in r.next.2 r.next.1
        exact ⟨leaf_ok h1, fun h => ⟨by rw [leafN _ rfl]; simp only at h ⊢; rw [h2 h]; omega, hbad⟩⟩
      · have hlen2 := next_len r.next.2
        split
        · exact ⟨zero_ok, fun h => by simp [Rd.fail] at h⟩
        · rename_i k _
          simp only [readB]
          have ht : ∀ t : Ty × Rd, t = (if ((k : Int) == 7 || (k : Int) == 9) = true then readK 4 r.next.2.next.2 else (.any, r.next.2.next.2)) → Thin t.1 ∧ (t.2.bad = false → t.2.ws.length ≤ r.next.2.next.2.ws.length ∧ r.next.2.next.2.bad = false) := by
            intro t ht
            subst ht
            split
            · obtain ⟨h1, h2⟩ := readK_thin 4 r.next.2.next.2
              exact ⟨h1, fun h => ⟨by have := (h2 h).1; omega, (h2 h).2⟩⟩
            · exact ⟨Right.any.thin, fun h => ⟨Nat.le_refl _, h⟩⟩
          generalize hte : (if ((k : Int) == 7 || (k : Int) == 9) = true then readK 4 r.next.2.next.2 else (Ty.any, r.next.2.next.2)) = t
          obtain ⟨h1, h2⟩ := ht t hte.symm
          obtain ⟨h3, h4, h5⟩ := readN_ok (readT_ok n) (arity k).toNat t.2
          refine ⟨.mk (by simp) h1 Right.any.thin h3, fun h => ?_⟩
          obtain ⟨h6, h7⟩ := close_len _ h
          obtain ⟨h8, h9⟩ := h5 h7
          obtain ⟨h10, h11⟩ := h2 h9
          obtain ⟨h12, h13⟩ := hlen2.2 h11
          refine ⟨?_, hbad⟩
          simp only [Tm.nodes]
          omega
end Go.Proofs.YtnflnbdlgdjfmabDoor
namespace Go.Proofs.YtnflnbdlgdjfmabDoor
open Go.RowKit
set_option linter.unusedVariables false
set_option linter.unusedSimpArgs false
set_option maxRecDepth 100000
attribute [local irreducible] RunL AW LocOp ACalls Gh
theorem strRows_get {ws : List ByteArray} {i : Nat} {w : ByteArray} (h : ws[i]? = some w) : (strRows ws)[i]? = some [.str w] := by simp [strRows, h]
/-- The end of what answers a string or a number, the reader as it is. -/
theorem ret_rd {P : Program} {x : Tmp} {c : C} {e : Exit} {t : Nat → U} {h : Nat → Option Blk} {r : Rd} {l : List C} (he : e = .normal ∨ e = .ret) (hx : t x = .one c) (hc : closedC c = true) (hb : h 1000 = some (.obj l)) (hl : All2 (WkC h [] []) l r.c) : RetQ P #[.tmp x] (.one c) [(1000, .obj r.c)] e t h :=
  ⟨he, [.one c], ⟨hx, trivial⟩, ⟨trivial, trivial⟩, .one c, rfl, [], trivial, WkU.one, ⟨⟨_, hb, hl⟩, trivial⟩, rfl, closed_okC hc, ⟨⟨trivial, trivial, trivial⟩, trivial⟩⟩
theorem next_a (r : Rd) : ACalls Tryd.prog 47 [.one (.ptr 1000 0)] [(1000, .obj (Rd.c (r)))] (.one (.str r.next.1)) [(1000, .obj (Rd.c (r.next.2)))] := by
  obtain ⟨ws, bad⟩ := r
  refine acalls_of_body Tryd.func47 rfl (by kernel_rfl) (Nat.le_of_ble_eq_true rfl) (by exact ⟨⟨rfl, trivial⟩, trivial⟩) (by simp [namesL]) ?_
  cases ws with
  | nil =>
    refine AW.seq ?_; refine AW.region (by kernel_rfl) ?_; refine RunL.val (by exact rfl) (loc_assignC rfl) ?_; refine RunL.nil ?_; refine AW.seq ?_; refine AW.seq ?_; refine AW.region (by kernel_rfl) ?_; refine RunL.val (by exact rfl) (loc_moveC rfl) ?_; refine RunL.val (by exact rfl) (loc_nilCheck rfl rfl) ?_; refine RunL.val (by exact rfl) (loc_fieldAddr rfl) ?_; refine RunL.val (by exact rfl) (loc_load rfl rfl rfl) ?_; refine RunL.val (by exact rfl) (loc_lenSl rfl) ?_; refine RunL.val (by exact rfl) (loc_binInt rfl rfl rfl) ?_; refine RunL.nil ?_; refine AW.condT (by exact rfl) ?_; refine AW.seq ?_; refine AW.region (by kernel_rfl) ?_; refine RunL.val (by exact rfl) (loc_moveC rfl) ?_; refine RunL.val (by exact rfl) (loc_nilCheck rfl rfl) ?_; refine RunL.val (by exact rfl) (loc_fieldAddr rfl) ?_; refine RunL.eff (by exact rfl) (loc_store (by exact rfl) (by exact rfl) (by exact rfl) (by exact rfl) (by exact rfl) (by exact Nat.le_of_ble_eq_true rfl) (by exact rfl)) ?_; refine RunL.nil ?_; refine AW.seq ?_; refine AW.region (by kernel_rfl) ?_; refine RunL.val (by exact rfl) (loc_assignC rfl) ?_; refine RunL.nil ?_; refine AW.ret ?_
    refine rq ?_
    exact ret_rd (by exact .inr rfl) (by exact rfl) rfl (by exact rfl) (by exact wkRow_refl _)
  | cons w ws =>
    have hz : (((((strRows (w :: ws)).length : Nat)) : Int) == 0) = false := by rw [beq_eq_false_iff_ne]; simp [strRows]; omega
    have hr0 : (strRows (w :: ws))[0]? = some [.str w] := strRows_get rfl
    refine AW.seq ?_; refine AW.region (by kernel_rfl) ?_; refine RunL.val (by exact rfl) (loc_assignC rfl) ?_; refine RunL.nil ?_; refine AW.seq ?_; refine AW.seq ?_; refine AW.region (by kernel_rfl) ?_; refine RunL.val (by exact rfl) (loc_moveC rfl) ?_; refine RunL.val (by exact rfl) (loc_nilCheck rfl rfl) ?_; refine RunL.val (by exact rfl) (loc_fieldAddr rfl) ?_; refine RunL.val (by exact rfl) (loc_load rfl rfl rfl) ?_; refine RunL.val (by exact rfl) (loc_lenSl rfl) ?_; refine RunL.val (by exact rfl) (loc_binInt rfl rfl rfl) ?_; refine RunL.nil ?_; refine AW.condF (by exact rfl) ?_; refine AW.skip ?_; refine AW.seq ?_; refine AW.region (by kernel_rfl) ?_; refine RunL.val (by exact rfl) (loc_moveC rfl) ?_; refine RunL.val (by exact rfl) (loc_nilCheck rfl rfl) ?_; refine RunL.val (by exact rfl) (loc_fieldAddr rfl) ?_; refine RunL.val (by exact rfl) (loc_load rfl rfl rfl) ?_; refine RunL.val (by exact rfl) (loc_indexSl _ rfl rfl rfl (by assumption) rfl) ?_; refine RunL.val (by exact rfl) (loc_loadF rfl (by exact rfl)) ?_; refine RunL.val (by exact rfl) (loc_assignC rfl) ?_; refine RunL.nil ?_; refine AW.seq ?_; refine AW.region (by kernel_rfl) ?_; refine RunL.val (by exact rfl) (loc_moveC rfl) ?_; refine RunL.val (by exact rfl) (loc_moveC rfl) ?_; refine RunL.val (by exact rfl) (loc_nilCheck rfl rfl) ?_; refine RunL.val (by exact rfl) (loc_fieldAddr rfl) ?_; refine RunL.val (by exact rfl) (loc_load rfl rfl rfl) ?_
    refine RunL.val (by exact rfl) (loc_sliceLo (n := 1) (by exact rfl) (by exact rfl) rfl (by simp [strRows]) (by simp [strRows])) ?_
    refine RunL.val (by exact rfl) (loc_nilCheck rfl rfl) ?_; refine RunL.val (by exact rfl) (loc_fieldAddr rfl) ?_; refine RunL.eff (by exact rfl) (loc_store (by exact rfl) (by exact rfl) (by exact rfl) (by exact rfl) (by exact rfl) (by exact Nat.le_of_ble_eq_true rfl) (by exact rfl)) ?_; refine RunL.nil ?_; refine AW.seq ?_; refine AW.region (by kernel_rfl) ?_; refine RunL.val (by exact rfl) (loc_moveC rfl) ?_; refine RunL.val (by exact rfl) (loc_assignC rfl) ?_; refine RunL.nil ?_; refine AW.ret ?_
    refine rq ?_
    exact ret_rd (by exact .inr rfl) (by exact rfl) rfl (by exact rfl) (by exact wkRow_refl _)
theorem number_a (r : Rd) (s : ByteArray) (hs : s.size ≤ 281474976710656) : ACalls Tryd.prog 49 [.one (.ptr 1000 0), .one (.str s)] [(1000, .obj (Rd.c (r)))] (.one (.int .i64 (r.number s).1)) [(1000, .obj (Rd.c ((r.number s).2)))] := by
  refine acalls_of_body Tryd.func49 rfl (by kernel_rfl) (Nat.le_of_ble_eq_true rfl) (by exact ⟨⟨rfl, trivial⟩, trivial⟩) (by simp [namesL]) ?_
  refine AW.seq ?_; refine AW.region (by kernel_rfl) ?_; refine RunL.val (by exact rfl) (loc_assignC rfl) ?_; refine RunL.nil ?_; refine AW.seq ?_; refine AW.region (by kernel_rfl) ?_; refine RunL.val (by exact rfl) (loc_moveC rfl) ?_
  refine RunL.val (by exact rfl) (loc_fun (atoi_a s hs) rfl (by refine ⟨_, _, rfl, (by exact LeU.of_eq rfl trivial), (by exact trivial), ?_⟩; exact rfl)) ?_
  cases hA : Lib.atoiAll s.data.toList with
  | ok v =>
    obtain ⟨h0, h1⟩ := atoi_in hA
    rw [show atoiU s = .tup [.one (.int .i64 v), .one .nilif] by unfold atoiU; rw [hA]]
    refine RunL.val (by exact rfl) (loc_moveT rfl) ?_; refine RunL.val (by exact rfl) (loc_extractC rfl rfl) ?_; refine RunL.val (by exact rfl) (loc_extractC rfl rfl) ?_; refine RunL.val (by exact rfl) (loc_assignC rfl) ?_; refine RunL.val (by exact rfl) (loc_assignC rfl) ?_; refine RunL.nil ?_; refine AW.seq ?_; refine AW.seq ?_; refine AW.region (by kernel_rfl) ?_; refine RunL.val (by exact rfl) (loc_moveC rfl) ?_
    refine RunL.val (by exact rfl) (loc_neIfF (by exact rfl) rfl) ?_
    refine RunL.val (by exact rfl) (loc_moveC rfl) ?_; refine RunL.val (by exact .inl ⟨_, _, rfl, rfl, rfl⟩) (loc_moveC rfl) ?_
    refine RunL.val (by exact .inl ⟨_, _, rfl, rfl, rfl⟩) (loc_fun (itoa_a v h0 h1) rfl (by refine ⟨_, _, rfl, (by exact LeU.of_eq rfl trivial), (by exact trivial), ?_⟩; exact rfl)) ?_
    refine RunL.val (by exact .inl ⟨_, _, rfl, rfl, rfl⟩) (loc_moveC rfl) ?_
    refine RunL.val (by exact .inl ⟨_, _, rfl, rfl, rfl⟩) (loc_neStr (by exact rfl) (by exact rfl)) ?_
    cases hq : sEq ⟨(Lib.itoa v).toArray⟩ s with
    | true =>
      have e : r.number s = (v, r) := by unfold Rd.number numOf; rw [hA]; simp [hq]
      rw [e]
      refine RunL.val (by exact rfl) (loc_pickF rfl rfl) ?_; refine RunL.nil ?_; refine AW.condF (by exact rfl) ?_; refine AW.skip ?_; refine AW.seq ?_; refine AW.region (by kernel_rfl) ?_; refine RunL.val (by exact rfl) (loc_moveC rfl) ?_; refine RunL.val (by exact rfl) (loc_assignC rfl) ?_; refine RunL.nil ?_; refine AW.ret ?_
      refine rq ?_
      exact ret_rd (by exact .inr rfl) (by exact rfl) rfl (by exact rfl) (by exact wkRow_refl _)
    | false =>
      have e : r.number s = (0, r.fail) := by unfold Rd.number numOf; rw [hA]; simp [hq]
      rw [e]
      refine RunL.val (by exact rfl) (loc_pickF rfl rfl) ?_; refine RunL.nil ?_; refine AW.condT (by exact rfl) ?_; refine AW.seq ?_; refine AW.region (by kernel_rfl) ?_; refine RunL.val (by exact rfl) (loc_moveC rfl) ?_; refine RunL.val (by exact rfl) (loc_nilCheck rfl rfl) ?_; refine RunL.val (by exact rfl) (loc_fieldAddr rfl) ?_; refine RunL.eff (by exact rfl) (loc_store (by exact rfl) (by exact rfl) (by exact rfl) (by exact rfl) (by exact rfl) (by exact Nat.le_of_ble_eq_true rfl) (by exact rfl)) ?_; refine RunL.nil ?_; refine AW.seq ?_; refine AW.region (by kernel_rfl) ?_; refine RunL.val (by exact rfl) (loc_assignC rfl) ?_; refine RunL.nil ?_; refine AW.ret ?_
      refine rq ?_
      exact ret_rd (by exact .inr rfl) (by exact rfl) rfl (by exact rfl) (by exact wkRow_refl _)
  | range =>
    rw [show atoiU s = .tup [.one .any, .one .ifc] by unfold atoiU; rw [hA]]
    have e : r.number s = (0, r.fail) := by unfold Rd.number numOf; rw [hA]
    rw [e]
    refine RunL.val (by exact rfl) (loc_moveT rfl) ?_; refine RunL.val (by exact rfl) (loc_extractC rfl rfl) ?_; refine RunL.val (by exact rfl) (loc_extractC rfl rfl) ?_; refine RunL.val (by exact rfl) (loc_assignC rfl) ?_; refine RunL.val (by exact rfl) (loc_assignC rfl) ?_; refine RunL.nil ?_; refine AW.seq ?_; refine AW.seq ?_; refine AW.region (by kernel_rfl) ?_; refine RunL.val (by exact rfl) (loc_moveC rfl) ?_
    refine RunL.val (by exact rfl) (loc_neIfT (by exact rfl) rfl) ?_
    refine RunL.val (by exact rfl) (loc_moveC rfl) ?_; refine RunL.skip (.inl ⟨_, _, rfl, rfl, rfl⟩) ?_; refine RunL.skip (.inl ⟨_, _, rfl, rfl, rfl⟩) ?_; refine RunL.skip (.inl ⟨_, _, rfl, rfl, rfl⟩) ?_; refine RunL.skip (.inl ⟨_, _, rfl, rfl, rfl⟩) ?_; refine RunL.val (by exact rfl) (loc_pickT rfl rfl) ?_; refine RunL.nil ?_; refine AW.condT (by exact rfl) ?_; refine AW.seq ?_; refine AW.region (by kernel_rfl) ?_; refine RunL.val (by exact rfl) (loc_moveC rfl) ?_; refine RunL.val (by exact rfl) (loc_nilCheck rfl rfl) ?_; refine RunL.val (by exact rfl) (loc_fieldAddr rfl) ?_; refine RunL.eff (by exact rfl) (loc_store (by exact rfl) (by exact rfl) (by exact rfl) (by exact rfl) (by exact rfl) (by exact Nat.le_of_ble_eq_true rfl) (by exact rfl)) ?_; refine RunL.nil ?_; refine AW.seq ?_; refine AW.region (by kernel_rfl) ?_; refine RunL.val (by exact rfl) (loc_assignC rfl) ?_; refine RunL.nil ?_; refine AW.ret ?_
    refine rq ?_
    exact ret_rd (by exact .inr rfl) (by exact rfl) rfl (by exact rfl) (by exact wkRow_refl _)
  | _ =>
    rw [show atoiU s = .tup [.one .any, .one .ifc] by unfold atoiU; rw [hA]]
    have e : r.number s = (0, r.fail) := by unfold Rd.number numOf; rw [hA]
    rw [e]
    refine RunL.val (by exact rfl) (loc_moveT rfl) ?_; refine RunL.val (by exact rfl) (loc_extractC rfl rfl) ?_; refine RunL.val (by exact rfl) (loc_extractC rfl rfl) ?_; refine RunL.val (by exact rfl) (loc_assignC rfl) ?_; refine RunL.val (by exact rfl) (loc_assignC rfl) ?_; refine RunL.nil ?_; refine AW.seq ?_; refine AW.seq ?_; refine AW.region (by kernel_rfl) ?_; refine RunL.val (by exact rfl) (loc_moveC rfl) ?_
    refine RunL.val (by exact rfl) (loc_neIfT (by exact rfl) rfl) ?_
    refine RunL.val (by exact rfl) (loc_moveC rfl) ?_; refine RunL.skip (.inl ⟨_, _, rfl, rfl, rfl⟩) ?_; refine RunL.skip (.inl ⟨_, _, rfl, rfl, rfl⟩) ?_; refine RunL.skip (.inl ⟨_, _, rfl, rfl, rfl⟩) ?_; refine RunL.skip (.inl ⟨_, _, rfl, rfl, rfl⟩) ?_; refine RunL.val (by exact rfl) (loc_pickT rfl rfl) ?_; refine RunL.nil ?_; refine AW.condT (by exact rfl) ?_; refine AW.seq ?_; refine AW.region (by kernel_rfl) ?_; refine RunL.val (by exact rfl) (loc_moveC rfl) ?_; refine RunL.val (by exact rfl) (loc_nilCheck rfl rfl) ?_; refine RunL.val (by exact rfl) (loc_fieldAddr rfl) ?_; refine RunL.eff (by exact rfl) (loc_store (by exact rfl) (by exact rfl) (by exact rfl) (by exact rfl) (by exact rfl) (by exact Nat.le_of_ble_eq_true rfl) (by exact rfl)) ?_; refine RunL.nil ?_; refine AW.seq ?_; refine AW.region (by kernel_rfl) ?_; refine RunL.val (by exact rfl) (loc_assignC rfl) ?_; refine RunL.nil ?_; refine AW.ret ?_
    refine rq ?_
    exact ret_rd (by exact .inr rfl) (by exact rfl) rfl (by exact rfl) (by exact wkRow_refl _)
end Go.Proofs.YtnflnbdlgdjfmabDoor
namespace Go.Proofs.YtnflnbdlgdjfmabDoor
open Go.RowKit
set_option linter.unusedVariables false
set_option linter.unusedSimpArgs false
set_option maxRecDepth 100000
attribute [local irreducible] RunL AW LocOp ACalls Gh
/-- One type is answered, the reader as it is. -/
theorem ret_ty {P : Program} {x : Tmp} {tx : TypeId} {bx : Nat} {e : Exit} {t : Nat → U} {h : Nat → Option Blk} {r : Rd} {a : Ty} {l k : List C} [T : TAgg P tx 2] (he : e = .normal ∨ e = .ret) (hx : t x = .one (.ptr bx 0)) (hbx : h bx = some (.obj k)) (hk : All2 (WkC h [] []) k a.c) (hb : h 1000 = some (.obj l)) (hl : All2 (WkC h [] []) l r.c) : RetQ P #[.cell x tx] a.u [(1000, .obj r.c)] e t h := by
  have hlen : k.length = 2 := hk.length
  exact ⟨he, [.agg k], ⟨⟨bx, k, hx, hbx, .inl ⟨2, T, hlen, rfl⟩⟩, trivial⟩, ⟨trivial, trivial⟩, .agg k, rfl, [], trivial, hk, ⟨⟨_, hb, hl⟩, trivial⟩, rfl, ⟨trivial, trivial, trivial⟩, ⟨⟨trivial, trivial, trivial⟩, trivial⟩⟩
theorem anyCells {h : Nat → Option Blk} : All2 (WkC h [] []) [.int .i64 0, .nilsl] Ty.any.c := ⟨.le (.refl _), .le (.nil _), trivial⟩
theorem leafCells {h : Nat → Option Blk} {k : Int} : All2 (WkC h [] []) [.int .i64 k, .nilsl] (Ty.mk k []).c := ⟨.le (.refl _), .le (.nil _), trivial⟩
theorem pairCells {h : Nat → Option Blk} {k : Int} {a b : Ty} : All2 (WkC h [] []) [.int .i64 k, slFOf 2 [a.c, b.c]] (Ty.mk k [a, b]).c := by
  have e : (Ty.mk k [a, b]).c = [.int .i64 k, slOf 2 [a.c, b.c]] := by simp [Ty.c, tyRows_map]
  rw [e]
  exact ⟨.le (.refl _), .le (LeC.slF (LeRows.refl _)), trivial⟩
theorem kinds_get {i : Nat} (h : i < 4) : kindsC[i]? = some (.str (kindsL.getD i sNil)) := by
  match i, h with
  | 0, _ | 1, _ | 2, _ | 3, _ => rfl
/-- What comes of the loop over the kinds. -/
theorem kFrom_step {s : ByteArray} {op : Bool} {i : Nat} (h : i < 4) : kFrom s op (4 - i) = if kAt s op i then some i else kFrom s op (4 - (i + 1)) := by
  obtain ⟨n, hn⟩ : ∃ n, 4 - i = n + 1 := ⟨3 - i, by omega⟩
  rw [hn, show 4 - (i + 1) = n by omega]
  simp only [kFrom]
  rw [show 3 - n = i by omega]
/-- What is read behind the words that say which. -/
def readKq (d : Nat) (op : Bool) (q : ByteArray × Rd) : Ty × Rd :=
  match d with
  | 0 => (.any, q.2.fail)
  | d + 1 => match kFrom q.1 op 4 with
    | none => (.any, q.2.fail)
    | some k => if op then (.mk k [(readK d q.2).1, (readK d (readK d q.2).2).1], (readK d (readK d q.2).2).2.close) else (.mk k [], q.2)
theorem readK_q (d : Nat) (r : Rd) : readK d r = readKq d (sEq r.next.1 sLp) (if sEq r.next.1 sLp then r.next.2.next else r.next) := by cases d <;> rfl
set_option maxHeartbeats 20000000 in
theorem kind_a : ∀ (d : Nat), d ≤ 5 → ∀ (r : Rd), ACalls Tryd.prog 50 [.one (.ptr 1000 0), .one (.int .i64 (5 - (d : Int)))] [(1000, .obj (Rd.c (r)))] (readK d r).1.u [(1000, .obj (Rd.c ((readK d r).2)))] := by
  intro d
  induction d with
  | zero =>
    intro hd r
    generalize hdp : (5 - (((0 : Nat)) : Int)) = dp
    have hdeep : decide (dp > 4) = true := decide_eq_true (by omega)
    rw [readK_q]
    refine acalls_of_body Tryd.func50 rfl (by kernel_rfl) (Nat.le_of_ble_eq_true rfl) (by exact ⟨⟨rfl, trivial⟩, trivial⟩) (by simp [namesL]) ?_
    refine AW.seq ?_; refine AW.region (by kernel_rfl) ?_; refine RunL.mem (by exact rfl) (loc_allocD rfl rfl) ?_; refine RunL.nil ?_; refine AW.seq ?_; refine AW.region (by kernel_rfl) ?_; refine RunL.val (by exact rfl) (loc_moveC rfl) ?_
    refine RunL.many (by exact rfl) (loc_funE (next_a (r)) rfl (by refine ⟨_, _, rfl, (by exact LeU.of_eq rfl trivial), (by exact Exists.intro _ rfl), ?_⟩; exact rfl) (by exact ⟨rfl, trivial⟩) (by exact rfl) (by simp [namesL]) (by exact ⟨⟨trivial, trivial, trivial⟩, trivial⟩)) ?_
    refine RunL.val (by exact rfl) (loc_assignC rfl) ?_; refine RunL.nil ?_; refine AW.seq ?_; refine AW.region (by kernel_rfl) ?_; refine RunL.val (by exact rfl) (loc_moveC rfl) ?_
    refine RunL.val (by exact rfl) (loc_eqStr (b := sLp) (by exact rfl) (by exact rfl)) ?_
    refine RunL.val (by exact rfl) (loc_assignC rfl) ?_; refine RunL.nil ?_
    refine AW.seq ?_
    refine AW.midB (fun t h => ∃ op q, op = sEq r.next.1 sLp ∧ q = (if sEq r.next.1 sLp then r.next.2.next else r.next) ∧ t = tOfL [(0, .one (.ptr 1000 0)), (1, .one (.int .i64 dp)), (4, .one (.ptr 4 0)), (5, .one (.str q.1)), (6, .one (.bool op))] ∧ h = ofL [(1000, .obj (Rd.c q.2)), (4, .obj [.int .i64 0, .nilsl])]) ?_ ?_
    · cases hop : sEq r.next.1 sLp with
      | false =>
        refine AW.seq ?_; refine AW.region (by kernel_rfl) ?_; refine RunL.val (by exact rfl) (loc_moveC rfl) ?_; refine RunL.nil ?_; refine AW.condF (by exact rfl) ?_; refine AW.skip ?_
        exact ⟨_, _, (gh_lit [(0, .one (.ptr 1000 0)), (1, .one (.int .i64 dp)), (4, .one (.ptr 4 0)), (5, .one (.str r.next.1)), (6, .one (.bool false))] [(1000, .obj (Rd.c r.next.2)), (4, .obj [.int .i64 0, .nilsl])] [] [] ⟨(WkU.of_eq rfl trivial), (WkU.of_eq rfl trivial), (WkU.of_eq rfl trivial), (by exact WkU.of_eq rfl trivial), (WkU.of_eq rfl trivial), trivial⟩ ⟨(by exact Or.inl ⟨_, rfl, WkBlk.refl _⟩), (by exact Or.inl ⟨_, rfl, WkBlk.refl _⟩), trivial⟩ trivial trivial rfl rfl ⟨⟨_, rfl⟩, trivial, ⟨_, rfl⟩, trivial, trivial, trivial⟩ ⟨(by refine And.intro ?_ ?_; exact trivial; refine And.intro ?_ ?_; exact trivial; exact trivial), (by refine And.intro ?_ ?_; exact trivial; refine And.intro ?_ ?_; exact trivial; exact trivial), trivial⟩), false, r.next, rfl, rfl, rfl, rfl⟩
      | true =>
        refine AW.seq ?_; refine AW.region (by kernel_rfl) ?_; refine RunL.val (by exact rfl) (loc_moveC rfl) ?_; refine RunL.nil ?_; refine AW.condT (by exact rfl) ?_; refine AW.region (by kernel_rfl) ?_; refine RunL.val (by exact rfl) (loc_moveC rfl) ?_
        refine RunL.many (by exact rfl) (loc_funE (next_a (r.next.2)) rfl (by refine ⟨_, _, rfl, (by exact LeU.of_eq rfl trivial), (by exact Exists.intro _ rfl), ?_⟩; exact rfl) (by exact ⟨rfl, trivial⟩) (by exact rfl) (by simp [namesL]) (by exact ⟨⟨trivial, trivial, trivial⟩, trivial⟩)) ?_
        refine RunL.val (by exact rfl) (loc_assignC rfl) ?_; refine RunL.nil ?_
        exact ⟨_, _, (gh_lit [(0, .one (.ptr 1000 0)), (1, .one (.int .i64 dp)), (4, .one (.ptr 4 0)), (5, .one (.str r.next.2.next.1)), (6, .one (.bool true))] [(1000, .obj (Rd.c r.next.2.next.2)), (4, .obj [.int .i64 0, .nilsl])] [] [] ⟨(WkU.of_eq rfl trivial), (WkU.of_eq rfl trivial), (WkU.of_eq rfl trivial), (by exact WkU.of_eq rfl trivial), (WkU.of_eq rfl trivial), trivial⟩ ⟨(by exact Or.inl ⟨_, rfl, WkBlk.refl _⟩), (by exact Or.inl ⟨_, rfl, WkBlk.refl _⟩), trivial⟩ trivial trivial rfl rfl ⟨⟨_, rfl⟩, trivial, ⟨_, rfl⟩, trivial, trivial, trivial⟩ ⟨(by refine And.intro ?_ ?_; exact trivial; refine And.intro ?_ ?_; exact trivial; exact trivial), (by refine And.intro ?_ ?_; exact trivial; refine And.intro ?_ ?_; exact trivial; exact trivial), trivial⟩), true, r.next.2.next, rfl, rfl, rfl, rfl⟩
    · rintro t h ⟨op, q, ho, hq, rfl, rfl⟩
      rw [← hq, ← ho]
      refine AW.seq ?_; refine AW.seq ?_; refine AW.region (by kernel_rfl) ?_; refine RunL.val (by exact rfl) (loc_loadFA rfl (by exact Cut.all (by exact rfl))) ?_; refine RunL.val (by exact rfl) (loc_moveC rfl) ?_; refine RunL.nil ?_; refine AW.block ?_
      refine AW.gh (gh_lit [(0, .one (.ptr 1000 0)), (1, .one (.int .i64 dp)), (4, .one (.ptr 4 0)), (5, .one (.str q.1)), (6, .one (.bool op)), (17, .agg kindsC), (18, .one (.int .i64 ((0 : Nat) : Int)))] [(1000, .obj (Rd.c q.2)), (4, .obj [.int .i64 0, .nilsl])] [] [] ⟨(WkU.of_eq rfl trivial), (WkU.of_eq rfl trivial), (WkU.of_eq rfl trivial), (by exact WkU.of_eq rfl trivial), (WkU.of_eq rfl trivial), (by exact WkU.of_eq rfl trivial), (WkU.of_eq rfl trivial), trivial⟩ ⟨(by exact Or.inl ⟨_, rfl, WkBlk.refl _⟩), (by exact Or.inl ⟨_, rfl, WkBlk.refl _⟩), trivial⟩ trivial trivial rfl rfl ⟨⟨_, rfl⟩, trivial, ⟨_, rfl⟩, trivial, trivial, (by refine And.intro ?_ ?_; exact trivial; refine And.intro ?_ ?_; exact trivial; refine And.intro ?_ ?_; exact trivial; refine And.intro ?_ ?_; exact trivial; exact trivial), trivial, trivial⟩ ⟨(by refine And.intro ?_ ?_; exact trivial; refine And.intro ?_ ?_; exact trivial; exact trivial), (by refine And.intro ?_ ?_; exact trivial; refine And.intro ?_ ?_; exact trivial; exact trivial), trivial⟩) ?_
      refine AW.loop (fun m t' h => ∃ i : Nat, i ≤ 4 ∧ m = 4 - i ∧ (True) ∧ t' = tOfL [(0, .one (.ptr 1000 0)), (1, .one (.int .i64 dp)), (4, .one (.ptr 4 0)), (5, .one (.str q.1)), (6, .one (.bool op)), (17, .agg kindsC), (18, .one (.int .i64 ((i : Nat) : Int)))] ∧ h = ofL [(1000, .obj (Rd.c q.2)), (4, .obj [.int .i64 0, .nilsl])]) 4 ⟨0, by omega, rfl, trivial, rfl, rfl⟩ ?_
      rintro m t' h ⟨i, hi, rfl, _, rfl, rfl⟩
      cases hlt : decide ((i : Int) < 4) with
      | false =>
        have hi4 : i = 4 := by have := of_decide_eq_false hlt; omega
        subst hi4
        refine AW.seq ?_; refine AW.region (by kernel_rfl) ?_; refine RunL.val (by exact rfl) (loc_binInt rfl rfl rfl) ?_; refine RunL.nil ?_; refine AW.seq ?_; refine AW.condF (by exact rfl) ?_; refine AW.exit ?_; refine AW.seq ?_; refine AW.region (by kernel_rfl) ?_; refine RunL.val (by exact rfl) (loc_moveC rfl) ?_; refine RunL.val (by exact rfl) (loc_nilCheck rfl rfl) ?_; refine RunL.val (by exact rfl) (loc_fieldAddr rfl) ?_; refine RunL.eff (by exact rfl) (loc_store (by exact rfl) (by exact rfl) (by exact rfl) (by exact rfl) (by exact rfl) (by exact Nat.le_of_ble_eq_true rfl) (by exact rfl)) ?_; refine RunL.nil ?_; refine AW.seq ?_; refine AW.region (by kernel_rfl) ?_; refine RunL.val (by exact rfl) (loc_build (by exact rfl) (by exact Cut.all (by exact rfl)) (by exact rfl)) ?_; refine RunL.eff (by exact rfl) (loc_storeW rfl rfl rfl rfl (by exact rfl) (by exact rfl)) ?_; refine RunL.nil ?_; refine AW.ret ?_
        refine rq ?_
        exact ret_ty (by exact .inr rfl) (by exact rfl) (by exact rfl) anyCells (by exact rfl) (by exact wkRow_refl _)
      | true =>
        have hi4 : i < 4 := by have := of_decide_eq_true hlt; omega
        have hg := kinds_get hi4
        refine AW.seq ?_; refine AW.region (by kernel_rfl) ?_; refine RunL.val (by exact rfl) (loc_binInt rfl rfl rfl) ?_; refine RunL.nil ?_; refine AW.seq ?_; refine AW.condTa (by exact rfl) (by assumption) ?_; refine AW.skip ?_; refine AW.seq ?_; refine AW.block ?_; refine AW.seq ?_; refine AW.region (by kernel_rfl) ?_; refine RunL.val (by exact rfl) (loc_moveC rfl) ?_
        refine RunL.val (by exact rfl) (loc_indexA (by exact rfl) (by exact rfl) hi4 hg) ?_
        refine RunL.val (by exact rfl) (loc_assignC rfl) ?_; refine RunL.val (by exact rfl) (loc_assignC rfl) ?_; refine RunL.nil ?_; refine AW.seq ?_; refine AW.seq ?_; refine AW.region (by kernel_rfl) ?_; refine RunL.val (by exact rfl) (loc_moveC rfl) ?_; refine RunL.val (by exact rfl) (loc_moveC rfl) ?_
        refine RunL.val (by exact rfl) (loc_neStr (by exact rfl) (by exact rfl)) ?_
        cases h1 : sEq (kindsL.getD i sNil) q.1 with
        | false =>
          have hk : kAt q.1 op i = false := by unfold kAt; rw [h1]; rfl
          refine RunL.val (by exact rfl) (loc_moveC rfl) ?_; refine RunL.skip (.inl ⟨_, _, rfl, rfl, rfl⟩) ?_; refine RunL.skip (.inl ⟨_, _, rfl, rfl, rfl⟩) ?_; refine RunL.skip (.inl ⟨_, _, rfl, rfl, rfl⟩) ?_; refine RunL.skip (.inl ⟨_, _, rfl, rfl, rfl⟩) ?_; refine RunL.val (by exact rfl) (loc_pickT rfl rfl) ?_; refine RunL.val (by exact rfl) (loc_moveC rfl) ?_; refine RunL.skip (.inl ⟨_, _, rfl, rfl, rfl⟩) ?_; refine RunL.skip (.inl ⟨_, _, rfl, rfl, rfl⟩) ?_; refine RunL.val (by exact rfl) (loc_pickT rfl rfl) ?_; refine RunL.nil ?_; refine AW.condT (by exact rfl) ?_; refine AW.exit ?_; refine AW.region (by kernel_rfl) ?_; refine RunL.val (by exact rfl) (loc_inc rfl rfl (by omega)) ?_; refine RunL.val (by exact rfl) (loc_moveC rfl) ?_; refine RunL.nil ?_
          exact ⟨4 - (i + 1), _, _, by omega, (gh_lit [(0, .one (.ptr 1000 0)), (1, .one (.int .i64 dp)), (4, .one (.ptr 4 0)), (5, .one (.str q.1)), (6, .one (.bool op)), (17, .agg kindsC), (18, .one (.int .i64 (((i + 1) : Nat) : Int)))] [(1000, .obj (Rd.c q.2)), (4, .obj [.int .i64 0, .nilsl])] [] [] ⟨(WkU.of_eq rfl trivial), (WkU.of_eq rfl trivial), (WkU.of_eq rfl trivial), (by exact WkU.of_eq rfl trivial), (WkU.of_eq rfl trivial), (by exact WkU.of_eq rfl trivial), (WkU.of_eq rfl trivial), trivial⟩ ⟨(by exact Or.inl ⟨_, rfl, WkBlk.refl _⟩), (by exact Or.inl ⟨_, rfl, WkBlk.refl _⟩), trivial⟩ trivial trivial rfl rfl ⟨⟨_, rfl⟩, trivial, ⟨_, rfl⟩, trivial, trivial, (by refine And.intro ?_ ?_; exact trivial; refine And.intro ?_ ?_; exact trivial; refine And.intro ?_ ?_; exact trivial; refine And.intro ?_ ?_; exact trivial; exact trivial), trivial, trivial⟩ ⟨(by refine And.intro ?_ ?_; exact trivial; refine And.intro ?_ ?_; exact trivial; exact trivial), (by refine And.intro ?_ ?_; exact trivial; refine And.intro ?_ ?_; exact trivial; exact trivial), trivial⟩), i + 1, by omega, by omega, trivial, rfl, rfl⟩
        | true =>
          refine RunL.val (by exact rfl) (loc_moveC rfl) ?_; refine RunL.val (by exact .inl ⟨_, _, rfl, rfl, rfl⟩) (loc_moveC rfl) ?_; refine RunL.val (by exact .inl ⟨_, _, rfl, rfl, rfl⟩) (loc_binInt rfl rfl rfl) ?_; refine RunL.val (by exact .inl ⟨_, _, rfl, rfl, rfl⟩) (loc_moveC rfl) ?_
          refine RunL.val (by exact .inl ⟨_, _, rfl, rfl, rfl⟩) (loc_neBool (by exact rfl) (by exact rfl)) ?_
          have hio : ((i : Int) == 3) = (i == 3) := by rw [Bool.eq_iff_iff]; simp; omega
          rw [hio]
          cases h2 : ((i == 3) == op) with
          | false =>
            have hk : kAt q.1 op i = false := by unfold kAt; rw [h1, h2]; rfl
            refine RunL.val (by exact rfl) (loc_pickF rfl rfl) ?_; refine RunL.val (by exact rfl) (loc_moveC rfl) ?_; refine RunL.skip (.inl ⟨_, _, rfl, rfl, rfl⟩) ?_; refine RunL.skip (.inl ⟨_, _, rfl, rfl, rfl⟩) ?_; refine RunL.val (by exact rfl) (loc_pickT rfl rfl) ?_; refine RunL.nil ?_; refine AW.condT (by exact rfl) ?_; refine AW.exit ?_; refine AW.region (by kernel_rfl) ?_; refine RunL.val (by exact rfl) (loc_inc rfl rfl (by omega)) ?_; refine RunL.val (by exact rfl) (loc_moveC rfl) ?_; refine RunL.nil ?_
            exact ⟨4 - (i + 1), _, _, by omega, (gh_lit [(0, .one (.ptr 1000 0)), (1, .one (.int .i64 dp)), (4, .one (.ptr 4 0)), (5, .one (.str q.1)), (6, .one (.bool op)), (17, .agg kindsC), (18, .one (.int .i64 (((i + 1) : Nat) : Int)))] [(1000, .obj (Rd.c q.2)), (4, .obj [.int .i64 0, .nilsl])] [] [] ⟨(WkU.of_eq rfl trivial), (WkU.of_eq rfl trivial), (WkU.of_eq rfl trivial), (by exact WkU.of_eq rfl trivial), (WkU.of_eq rfl trivial), (by exact WkU.of_eq rfl trivial), (WkU.of_eq rfl trivial), trivial⟩ ⟨(by exact Or.inl ⟨_, rfl, WkBlk.refl _⟩), (by exact Or.inl ⟨_, rfl, WkBlk.refl _⟩), trivial⟩ trivial trivial rfl rfl ⟨⟨_, rfl⟩, trivial, ⟨_, rfl⟩, trivial, trivial, (by refine And.intro ?_ ?_; exact trivial; refine And.intro ?_ ?_; exact trivial; refine And.intro ?_ ?_; exact trivial; refine And.intro ?_ ?_; exact trivial; exact trivial), trivial, trivial⟩ ⟨(by refine And.intro ?_ ?_; exact trivial; refine And.intro ?_ ?_; exact trivial; exact trivial), (by refine And.intro ?_ ?_; exact trivial; refine And.intro ?_ ?_; exact trivial; exact trivial), trivial⟩), i + 1, by omega, by omega, trivial, rfl, rfl⟩
          | true =>
            have hk : kAt q.1 op i = true := by unfold kAt; rw [h1, h2]; rfl
            refine RunL.val (by exact rfl) (loc_pickF rfl rfl) ?_; refine RunL.val (by exact rfl) (loc_moveC rfl) ?_; refine RunL.val (by exact .inl ⟨_, _, rfl, rfl, rfl⟩) (loc_moveC rfl) ?_; refine RunL.val (by exact .inl ⟨_, _, rfl, rfl, rfl⟩) (loc_binInt rfl rfl rfl) ?_; refine RunL.val (by exact rfl) (loc_pickF rfl rfl) ?_; refine RunL.nil ?_; refine AW.condTa (by exact rfl) (by assumption) ?_; refine AW.exit ?_; refine AW.region (by kernel_rfl) ?_; refine RunL.val (by exact rfl) (loc_inc rfl rfl (by omega)) ?_; refine RunL.val (by exact rfl) (loc_moveC rfl) ?_; refine RunL.nil ?_
            exact ⟨4 - (i + 1), _, _, by omega, (gh_lit [(0, .one (.ptr 1000 0)), (1, .one (.int .i64 dp)), (4, .one (.ptr 4 0)), (5, .one (.str q.1)), (6, .one (.bool op)), (17, .agg kindsC), (18, .one (.int .i64 (((i + 1) : Nat) : Int)))] [(1000, .obj (Rd.c q.2)), (4, .obj [.int .i64 0, .nilsl])] [] [] ⟨(WkU.of_eq rfl trivial), (WkU.of_eq rfl trivial), (WkU.of_eq rfl trivial), (by exact WkU.of_eq rfl trivial), (WkU.of_eq rfl trivial), (by exact WkU.of_eq rfl trivial), (WkU.of_eq rfl trivial), trivial⟩ ⟨(by exact Or.inl ⟨_, rfl, WkBlk.refl _⟩), (by exact Or.inl ⟨_, rfl, WkBlk.refl _⟩), trivial⟩ trivial trivial rfl rfl ⟨⟨_, rfl⟩, trivial, ⟨_, rfl⟩, trivial, trivial, (by refine And.intro ?_ ?_; exact trivial; refine And.intro ?_ ?_; exact trivial; refine And.intro ?_ ?_; exact trivial; refine And.intro ?_ ?_; exact trivial; exact trivial), trivial, trivial⟩ ⟨(by refine And.intro ?_ ?_; exact trivial; refine And.intro ?_ ?_; exact trivial; exact trivial), (by refine And.intro ?_ ?_; exact trivial; refine And.intro ?_ ?_; exact trivial; exact trivial), trivial⟩), i + 1, by omega, by omega, trivial, rfl, rfl⟩
  | succ d ih =>
    intro hd r
    have ih := ih (by omega)
    generalize hdp : (5 - (((d + 1 : Nat)) : Int)) = dp
    have ih2 : ∀ (r : Rd), ACalls Tryd.prog 50 [.one (.ptr 1000 0), .one (.int .i64 (dp + 1))] [(1000, .obj (Rd.c (r)))] (readK d r).1.u [(1000, .obj (Rd.c ((readK d r).2)))] := fun r => by
      rw [show dp + 1 = 5 - (d : Int) by omega]; exact ih r
    have hdeep : decide (dp > 4) = false := decide_eq_false (by omega)
    rw [readK_q]
    refine acalls_of_body Tryd.func50 rfl (by kernel_rfl) (Nat.le_of_ble_eq_true rfl) (by exact ⟨⟨rfl, trivial⟩, trivial⟩) (by simp [namesL]) ?_
    refine AW.seq ?_; refine AW.region (by kernel_rfl) ?_; refine RunL.mem (by exact rfl) (loc_allocD rfl rfl) ?_; refine RunL.nil ?_; refine AW.seq ?_; refine AW.region (by kernel_rfl) ?_; refine RunL.val (by exact rfl) (loc_moveC rfl) ?_
    refine RunL.many (by exact rfl) (loc_funE (next_a (r)) rfl (by refine ⟨_, _, rfl, (by exact LeU.of_eq rfl trivial), (by exact Exists.intro _ rfl), ?_⟩; exact rfl) (by exact ⟨rfl, trivial⟩) (by exact rfl) (by simp [namesL]) (by exact ⟨⟨trivial, trivial, trivial⟩, trivial⟩)) ?_
    refine RunL.val (by exact rfl) (loc_assignC rfl) ?_; refine RunL.nil ?_; refine AW.seq ?_; refine AW.region (by kernel_rfl) ?_; refine RunL.val (by exact rfl) (loc_moveC rfl) ?_
    refine RunL.val (by exact rfl) (loc_eqStr (b := sLp) (by exact rfl) (by exact rfl)) ?_
    refine RunL.val (by exact rfl) (loc_assignC rfl) ?_; refine RunL.nil ?_
    refine AW.seq ?_
    refine AW.midB (fun t h => ∃ op q, op = sEq r.next.1 sLp ∧ q = (if sEq r.next.1 sLp then r.next.2.next else r.next) ∧ t = tOfL [(0, .one (.ptr 1000 0)), (1, .one (.int .i64 dp)), (4, .one (.ptr 4 0)), (5, .one (.str q.1)), (6, .one (.bool op))] ∧ h = ofL [(1000, .obj (Rd.c q.2)), (4, .obj [.int .i64 0, .nilsl])]) ?_ ?_
    · cases hop : sEq r.next.1 sLp with
      | false =>
        refine AW.seq ?_; refine AW.region (by kernel_rfl) ?_; refine RunL.val (by exact rfl) (loc_moveC rfl) ?_; refine RunL.nil ?_; refine AW.condF (by exact rfl) ?_; refine AW.skip ?_
        exact ⟨_, _, (gh_lit [(0, .one (.ptr 1000 0)), (1, .one (.int .i64 dp)), (4, .one (.ptr 4 0)), (5, .one (.str r.next.1)), (6, .one (.bool false))] [(1000, .obj (Rd.c r.next.2)), (4, .obj [.int .i64 0, .nilsl])] [] [] ⟨(WkU.of_eq rfl trivial), (WkU.of_eq rfl trivial), (WkU.of_eq rfl trivial), (by exact WkU.of_eq rfl trivial), (WkU.of_eq rfl trivial), trivial⟩ ⟨(by exact Or.inl ⟨_, rfl, WkBlk.refl _⟩), (by exact Or.inl ⟨_, rfl, WkBlk.refl _⟩), trivial⟩ trivial trivial rfl rfl ⟨⟨_, rfl⟩, trivial, ⟨_, rfl⟩, trivial, trivial, trivial⟩ ⟨(by refine And.intro ?_ ?_; exact trivial; refine And.intro ?_ ?_; exact trivial; exact trivial), (by refine And.intro ?_ ?_; exact trivial; refine And.intro ?_ ?_; exact trivial; exact trivial), trivial⟩), false, r.next, rfl, rfl, rfl, rfl⟩
      | true =>
        refine AW.seq ?_; refine AW.region (by kernel_rfl) ?_; refine RunL.val (by exact rfl) (loc_moveC rfl) ?_; refine RunL.nil ?_; refine AW.condT (by exact rfl) ?_; refine AW.region (by kernel_rfl) ?_; refine RunL.val (by exact rfl) (loc_moveC rfl) ?_
        refine RunL.many (by exact rfl) (loc_funE (next_a (r.next.2)) rfl (by refine ⟨_, _, rfl, (by exact LeU.of_eq rfl trivial), (by exact Exists.intro _ rfl), ?_⟩; exact rfl) (by exact ⟨rfl, trivial⟩) (by exact rfl) (by simp [namesL]) (by exact ⟨⟨trivial, trivial, trivial⟩, trivial⟩)) ?_
        refine RunL.val (by exact rfl) (loc_assignC rfl) ?_; refine RunL.nil ?_
        exact ⟨_, _, (gh_lit [(0, .one (.ptr 1000 0)), (1, .one (.int .i64 dp)), (4, .one (.ptr 4 0)), (5, .one (.str r.next.2.next.1)), (6, .one (.bool true))] [(1000, .obj (Rd.c r.next.2.next.2)), (4, .obj [.int .i64 0, .nilsl])] [] [] ⟨(WkU.of_eq rfl trivial), (WkU.of_eq rfl trivial), (WkU.of_eq rfl trivial), (by exact WkU.of_eq rfl trivial), (WkU.of_eq rfl trivial), trivial⟩ ⟨(by exact Or.inl ⟨_, rfl, WkBlk.refl _⟩), (by exact Or.inl ⟨_, rfl, WkBlk.refl _⟩), trivial⟩ trivial trivial rfl rfl ⟨⟨_, rfl⟩, trivial, ⟨_, rfl⟩, trivial, trivial, trivial⟩ ⟨(by refine And.intro ?_ ?_; exact trivial; refine And.intro ?_ ?_; exact trivial; exact trivial), (by refine And.intro ?_ ?_; exact trivial; refine And.intro ?_ ?_; exact trivial; exact trivial), trivial⟩), true, r.next.2.next, rfl, rfl, rfl, rfl⟩
    · rintro t h ⟨op, q, ho, hq, rfl, rfl⟩
      rw [← hq, ← ho]
      refine AW.seq ?_; refine AW.seq ?_; refine AW.region (by kernel_rfl) ?_; refine RunL.val (by exact rfl) (loc_loadFA rfl (by exact Cut.all (by exact rfl))) ?_; refine RunL.val (by exact rfl) (loc_moveC rfl) ?_; refine RunL.nil ?_; refine AW.block ?_
      refine AW.gh (gh_lit [(0, .one (.ptr 1000 0)), (1, .one (.int .i64 dp)), (4, .one (.ptr 4 0)), (5, .one (.str q.1)), (6, .one (.bool op)), (17, .agg kindsC), (18, .one (.int .i64 ((0 : Nat) : Int)))] [(1000, .obj (Rd.c q.2)), (4, .obj [.int .i64 0, .nilsl])] [] [] ⟨(WkU.of_eq rfl trivial), (WkU.of_eq rfl trivial), (WkU.of_eq rfl trivial), (by exact WkU.of_eq rfl trivial), (WkU.of_eq rfl trivial), (by exact WkU.of_eq rfl trivial), (WkU.of_eq rfl trivial), trivial⟩ ⟨(by exact Or.inl ⟨_, rfl, WkBlk.refl _⟩), (by exact Or.inl ⟨_, rfl, WkBlk.refl _⟩), trivial⟩ trivial trivial rfl rfl ⟨⟨_, rfl⟩, trivial, ⟨_, rfl⟩, trivial, trivial, (by refine And.intro ?_ ?_; exact trivial; refine And.intro ?_ ?_; exact trivial; refine And.intro ?_ ?_; exact trivial; refine And.intro ?_ ?_; exact trivial; exact trivial), trivial, trivial⟩ ⟨(by refine And.intro ?_ ?_; exact trivial; refine And.intro ?_ ?_; exact trivial; exact trivial), (by refine And.intro ?_ ?_; exact trivial; refine And.intro ?_ ?_; exact trivial; exact trivial), trivial⟩) ?_
      refine AW.loop (fun m t' h => ∃ i : Nat, i ≤ 4 ∧ m = 4 - i ∧ (kFrom q.1 op 4 = kFrom q.1 op (4 - i)) ∧ t' = tOfL [(0, .one (.ptr 1000 0)), (1, .one (.int .i64 dp)), (4, .one (.ptr 4 0)), (5, .one (.str q.1)), (6, .one (.bool op)), (17, .agg kindsC), (18, .one (.int .i64 ((i : Nat) : Int)))] ∧ h = ofL [(1000, .obj (Rd.c q.2)), (4, .obj [.int .i64 0, .nilsl])]) 4 ⟨0, by omega, rfl, rfl, rfl, rfl⟩ ?_
      rintro m t' h ⟨i, hi, rfl, hinv, rfl, rfl⟩
      cases hlt : decide ((i : Int) < 4) with
      | false =>
        have hi4 : i = 4 := by have := of_decide_eq_false hlt; omega
        subst hi4
        have hres : readKq (d + 1) op q = (.any, q.2.fail) := by unfold readKq; simp only; rw [hinv]; rfl
        rw [hres]
        refine AW.seq ?_; refine AW.region (by kernel_rfl) ?_; refine RunL.val (by exact rfl) (loc_binInt rfl rfl rfl) ?_; refine RunL.nil ?_; refine AW.seq ?_; refine AW.condF (by exact rfl) ?_; refine AW.exit ?_; refine AW.seq ?_; refine AW.region (by kernel_rfl) ?_; refine RunL.val (by exact rfl) (loc_moveC rfl) ?_; refine RunL.val (by exact rfl) (loc_nilCheck rfl rfl) ?_; refine RunL.val (by exact rfl) (loc_fieldAddr rfl) ?_; refine RunL.eff (by exact rfl) (loc_store (by exact rfl) (by exact rfl) (by exact rfl) (by exact rfl) (by exact rfl) (by exact Nat.le_of_ble_eq_true rfl) (by exact rfl)) ?_; refine RunL.nil ?_; refine AW.seq ?_; refine AW.region (by kernel_rfl) ?_; refine RunL.val (by exact rfl) (loc_build (by exact rfl) (by exact Cut.all (by exact rfl)) (by exact rfl)) ?_; refine RunL.eff (by exact rfl) (loc_storeW rfl rfl rfl rfl (by exact rfl) (by exact rfl)) ?_; refine RunL.nil ?_; refine AW.ret ?_
        refine rq ?_
        exact ret_ty (by exact .inr rfl) (by exact rfl) (by exact rfl) anyCells (by exact rfl) (by exact wkRow_refl _)
      | true =>
        have hi4 : i < 4 := by have := of_decide_eq_true hlt; omega
        have hg := kinds_get hi4
        refine AW.seq ?_; refine AW.region (by kernel_rfl) ?_; refine RunL.val (by exact rfl) (loc_binInt rfl rfl rfl) ?_; refine RunL.nil ?_; refine AW.seq ?_; refine AW.condTa (by exact rfl) (by assumption) ?_; refine AW.skip ?_; refine AW.seq ?_; refine AW.block ?_; refine AW.seq ?_; refine AW.region (by kernel_rfl) ?_; refine RunL.val (by exact rfl) (loc_moveC rfl) ?_
        refine RunL.val (by exact rfl) (loc_indexA (by exact rfl) (by exact rfl) hi4 hg) ?_
        refine RunL.val (by exact rfl) (loc_assignC rfl) ?_; refine RunL.val (by exact rfl) (loc_assignC rfl) ?_; refine RunL.nil ?_; refine AW.seq ?_; refine AW.seq ?_; refine AW.region (by kernel_rfl) ?_; refine RunL.val (by exact rfl) (loc_moveC rfl) ?_; refine RunL.val (by exact rfl) (loc_moveC rfl) ?_
        refine RunL.val (by exact rfl) (loc_neStr (by exact rfl) (by exact rfl)) ?_
        cases h1 : sEq (kindsL.getD i sNil) q.1 with
        | false =>
          have hk : kAt q.1 op i = false := by unfold kAt; rw [h1]; rfl
          refine RunL.val (by exact rfl) (loc_moveC rfl) ?_; refine RunL.skip (.inl ⟨_, _, rfl, rfl, rfl⟩) ?_; refine RunL.skip (.inl ⟨_, _, rfl, rfl, rfl⟩) ?_; refine RunL.skip (.inl ⟨_, _, rfl, rfl, rfl⟩) ?_; refine RunL.skip (.inl ⟨_, _, rfl, rfl, rfl⟩) ?_; refine RunL.val (by exact rfl) (loc_pickT rfl rfl) ?_; refine RunL.val (by exact rfl) (loc_moveC rfl) ?_; refine RunL.skip (.inl ⟨_, _, rfl, rfl, rfl⟩) ?_; refine RunL.skip (.inl ⟨_, _, rfl, rfl, rfl⟩) ?_; refine RunL.val (by exact rfl) (loc_pickT rfl rfl) ?_; refine RunL.nil ?_; refine AW.condT (by exact rfl) ?_; refine AW.exit ?_; refine AW.region (by kernel_rfl) ?_; refine RunL.val (by exact rfl) (loc_inc rfl rfl (by omega)) ?_; refine RunL.val (by exact rfl) (loc_moveC rfl) ?_; refine RunL.nil ?_
          exact ⟨4 - (i + 1), _, _, by omega, (gh_lit [(0, .one (.ptr 1000 0)), (1, .one (.int .i64 dp)), (4, .one (.ptr 4 0)), (5, .one (.str q.1)), (6, .one (.bool op)), (17, .agg kindsC), (18, .one (.int .i64 (((i + 1) : Nat) : Int)))] [(1000, .obj (Rd.c q.2)), (4, .obj [.int .i64 0, .nilsl])] [] [] ⟨(WkU.of_eq rfl trivial), (WkU.of_eq rfl trivial), (WkU.of_eq rfl trivial), (by exact WkU.of_eq rfl trivial), (WkU.of_eq rfl trivial), (by exact WkU.of_eq rfl trivial), (WkU.of_eq rfl trivial), trivial⟩ ⟨(by exact Or.inl ⟨_, rfl, WkBlk.refl _⟩), (by exact Or.inl ⟨_, rfl, WkBlk.refl _⟩), trivial⟩ trivial trivial rfl rfl ⟨⟨_, rfl⟩, trivial, ⟨_, rfl⟩, trivial, trivial, (by refine And.intro ?_ ?_; exact trivial; refine And.intro ?_ ?_; exact trivial; refine And.intro ?_ ?_; exact trivial; refine And.intro ?_ ?_; exact trivial; exact trivial), trivial, trivial⟩ ⟨(by refine And.intro ?_ ?_; exact trivial; refine And.intro ?_ ?_; exact trivial; exact trivial), (by refine And.intro ?_ ?_; exact trivial; refine And.intro ?_ ?_; exact trivial; exact trivial), trivial⟩), i + 1, by omega, by omega, by rw [hinv, kFrom_step hi4, hk]; rfl, rfl, rfl⟩
        | true =>
          refine RunL.val (by exact rfl) (loc_moveC rfl) ?_; refine RunL.val (by exact .inl ⟨_, _, rfl, rfl, rfl⟩) (loc_moveC rfl) ?_; refine RunL.val (by exact .inl ⟨_, _, rfl, rfl, rfl⟩) (loc_binInt rfl rfl rfl) ?_; refine RunL.val (by exact .inl ⟨_, _, rfl, rfl, rfl⟩) (loc_moveC rfl) ?_
          refine RunL.val (by exact .inl ⟨_, _, rfl, rfl, rfl⟩) (loc_neBool (by exact rfl) (by exact rfl)) ?_
          have hio : ((i : Int) == 3) = (i == 3) := by rw [Bool.eq_iff_iff]; simp; omega
          rw [hio]
          cases h2 : ((i == 3) == op) with
          | false =>
            have hk : kAt q.1 op i = false := by unfold kAt; rw [h1, h2]; rfl
            refine RunL.val (by exact rfl) (loc_pickF rfl rfl) ?_; refine RunL.val (by exact rfl) (loc_moveC rfl) ?_; refine RunL.skip (.inl ⟨_, _, rfl, rfl, rfl⟩) ?_; refine RunL.skip (.inl ⟨_, _, rfl, rfl, rfl⟩) ?_; refine RunL.val (by exact rfl) (loc_pickT rfl rfl) ?_; refine RunL.nil ?_; refine AW.condT (by exact rfl) ?_; refine AW.exit ?_; refine AW.region (by kernel_rfl) ?_; refine RunL.val (by exact rfl) (loc_inc rfl rfl (by omega)) ?_; refine RunL.val (by exact rfl) (loc_moveC rfl) ?_; refine RunL.nil ?_
            exact ⟨4 - (i + 1), _, _, by omega, (gh_lit [(0, .one (.ptr 1000 0)), (1, .one (.int .i64 dp)), (4, .one (.ptr 4 0)), (5, .one (.str q.1)), (6, .one (.bool op)), (17, .agg kindsC), (18, .one (.int .i64 (((i + 1) : Nat) : Int)))] [(1000, .obj (Rd.c q.2)), (4, .obj [.int .i64 0, .nilsl])] [] [] ⟨(WkU.of_eq rfl trivial), (WkU.of_eq rfl trivial), (WkU.of_eq rfl trivial), (by exact WkU.of_eq rfl trivial), (WkU.of_eq rfl trivial), (by exact WkU.of_eq rfl trivial), (WkU.of_eq rfl trivial), trivial⟩ ⟨(by exact Or.inl ⟨_, rfl, WkBlk.refl _⟩), (by exact Or.inl ⟨_, rfl, WkBlk.refl _⟩), trivial⟩ trivial trivial rfl rfl ⟨⟨_, rfl⟩, trivial, ⟨_, rfl⟩, trivial, trivial, (by refine And.intro ?_ ?_; exact trivial; refine And.intro ?_ ?_; exact trivial; refine And.intro ?_ ?_; exact trivial; refine And.intro ?_ ?_; exact trivial; exact trivial), trivial, trivial⟩ ⟨(by refine And.intro ?_ ?_; exact trivial; refine And.intro ?_ ?_; exact trivial; exact trivial), (by refine And.intro ?_ ?_; exact trivial; refine And.intro ?_ ?_; exact trivial; exact trivial), trivial⟩), i + 1, by omega, by omega, by rw [hinv, kFrom_step hi4, hk]; rfl, rfl, rfl⟩
          | true =>
            have hk : kAt q.1 op i = true := by unfold kAt; rw [h1, h2]; rfl
            have hres : readKq (d + 1) op q = if op then (.mk i [(readK d q.2).1, (readK d (readK d q.2).2).1], (readK d (readK d q.2).2).2.close) else (.mk i [], q.2) := by
              unfold readKq; simp only; rw [hinv, kFrom_step hi4, hk]; rfl
            rw [hres]
            cases op with
            | false =>
              refine RunL.val (by exact rfl) (loc_pickF rfl rfl) ?_; refine RunL.val (by exact rfl) (loc_moveC rfl) ?_; refine RunL.val (by exact .inl ⟨_, _, rfl, rfl, rfl⟩) (loc_moveC rfl) ?_; refine RunL.val (by exact .inl ⟨_, _, rfl, rfl, rfl⟩) (loc_binInt rfl rfl rfl) ?_; refine RunL.val (by exact rfl) (loc_pickF rfl rfl) ?_; refine RunL.nil ?_; refine AW.condFa (by exact rfl) (by assumption) ?_; refine AW.skip ?_; refine AW.seq ?_; refine AW.region (by kernel_rfl) ?_; refine RunL.val (by exact rfl) (loc_moveC rfl) ?_; refine RunL.val (by exact rfl) (loc_build (by exact rfl) (by exact Cut.all (by exact rfl)) (by exact rfl)) ?_; refine RunL.mem (by exact rfl) (loc_allocD rfl rfl) ?_; refine RunL.eff (by exact rfl) (loc_storeW rfl rfl rfl rfl (by exact rfl) (by exact rfl)) ?_; refine RunL.nil ?_; refine AW.seq ?_; refine AW.seq ?_; refine AW.region (by kernel_rfl) ?_; refine RunL.val (by exact rfl) (loc_moveC rfl) ?_; refine RunL.nil ?_; refine AW.condF (by exact rfl) ?_; refine AW.skip ?_; refine AW.seq ?_; refine AW.region (by kernel_rfl) ?_; refine RunL.val (by exact rfl) (loc_loadA rfl rfl (by exact Cut.all (by exact rfl))) ?_; refine RunL.eff (by exact rfl) (loc_storeW rfl rfl rfl rfl (by exact rfl) (by exact rfl)) ?_; refine RunL.nil ?_; refine AW.ret ?_
              refine rq ?_
              exact ret_ty (by exact .inr rfl) (by exact rfl) (by exact rfl) leafCells (by exact rfl) (by exact wkRow_refl _)
            | true =>
              refine RunL.val (by exact rfl) (loc_pickF rfl rfl) ?_; refine RunL.val (by exact rfl) (loc_moveC rfl) ?_; refine RunL.val (by exact .inl ⟨_, _, rfl, rfl, rfl⟩) (loc_moveC rfl) ?_; refine RunL.val (by exact .inl ⟨_, _, rfl, rfl, rfl⟩) (loc_binInt rfl rfl rfl) ?_; refine RunL.val (by exact rfl) (loc_pickF rfl rfl) ?_; refine RunL.nil ?_; refine AW.condFa (by exact rfl) (by assumption) ?_; refine AW.skip ?_; refine AW.seq ?_; refine AW.region (by kernel_rfl) ?_; refine RunL.val (by exact rfl) (loc_moveC rfl) ?_; refine RunL.val (by exact rfl) (loc_build (by exact rfl) (by exact Cut.all (by exact rfl)) (by exact rfl)) ?_; refine RunL.mem (by exact rfl) (loc_allocD rfl rfl) ?_; refine RunL.eff (by exact rfl) (loc_storeW rfl rfl rfl rfl (by exact rfl) (by exact rfl)) ?_; refine RunL.nil ?_; refine AW.seq ?_; refine AW.seq ?_; refine AW.region (by kernel_rfl) ?_; refine RunL.val (by exact rfl) (loc_moveC rfl) ?_; refine RunL.nil ?_; refine AW.condT (by exact rfl) ?_; refine AW.seq ?_; refine AW.region (by kernel_rfl) ?_; refine RunL.val (by exact rfl) (loc_moveC rfl) ?_; refine RunL.val (by exact rfl) (loc_moveC rfl) ?_; refine RunL.val (by exact rfl) (loc_addB rfl rfl (by omega)) ?_
              refine RunL.many (by exact rfl) (loc_funE (ih2 (q.2)) rfl (by refine ⟨_, _, rfl, (by exact LeU.of_eq rfl trivial), (by exact Exists.intro _ rfl), ?_⟩; refine ⟨_, _, rfl, (by exact LeU.of_eq rfl trivial), (by exact trivial), ?_⟩; exact rfl) (by exact ⟨rfl, trivial⟩) (by exact rfl) (by simp [namesL]) (by exact ⟨⟨trivial, trivial, trivial⟩, trivial⟩)) ?_
              refine RunL.val (by exact rfl) (loc_moveC rfl) ?_; refine RunL.val (by exact rfl) (loc_moveC rfl) ?_; refine RunL.val (by exact rfl) (loc_addB rfl rfl (by omega)) ?_
              refine RunL.many (by exact rfl) (loc_funE (ih2 ((readK d q.2).2)) rfl (by refine ⟨_, _, rfl, (by exact LeU.of_eq rfl trivial), (by exact Exists.intro _ rfl), ?_⟩; refine ⟨_, _, rfl, (by exact LeU.of_eq rfl trivial), (by exact trivial), ?_⟩; exact rfl) (by exact ⟨rfl, trivial⟩) (by exact rfl) (by simp [namesL]) (by exact ⟨⟨trivial, trivial, trivial⟩, trivial⟩)) ?_
              refine RunL.val (by exact rfl) (loc_sliceLit (by exact rfl) (by exact rfl) (by decide) (by decide) (by exact RowsOf.cons (by exact rfl) (RowsOf.cons (by exact rfl) RowsOf.nil)) (by exact AllP.cons (by exact rfl) (AllP.cons (by exact rfl) AllP.nil)) (by exact rfl)) ?_; refine RunL.val (by exact rfl) (loc_fieldAddr rfl) ?_; refine RunL.eff (by exact rfl) (loc_store (by exact rfl) (by exact rfl) (by exact rfl) (by exact rfl) (by exact rfl) (by exact Nat.le_of_ble_eq_true rfl) (by exact rfl)) ?_; refine RunL.nil ?_; refine AW.region (by kernel_rfl) ?_; refine RunL.val (by exact rfl) (loc_moveC rfl) ?_; refine RunL.val (by exact rfl) (loc_moveC rfl) ?_
              refine RunL.many (by exact rfl) (loc_funE (next_a ((readK d (readK d q.2).2).2)) rfl (by refine ⟨_, _, rfl, (by exact LeU.of_eq rfl trivial), (by exact Exists.intro _ rfl), ?_⟩; exact rfl) (by exact ⟨rfl, trivial⟩) (by exact rfl) (by simp [namesL]) (by exact ⟨⟨trivial, trivial, trivial⟩, trivial⟩)) ?_
              skip
              refine RunL.val (by exact rfl) (loc_neStr (b := sRp) (by exact rfl) (by exact rfl)) ?_
              cases hc : sEq (readK d (readK d q.2).2).2.next.1 sRp with
              | false =>
                refine RunL.val (by exact rfl) (loc_moveC rfl) ?_; refine RunL.skip (.inl ⟨_, _, rfl, rfl, rfl⟩) ?_; refine RunL.skip (.inl ⟨_, _, rfl, rfl, rfl⟩) ?_; refine RunL.skip (.inl ⟨_, _, rfl, rfl, rfl⟩) ?_; refine RunL.skip (.inl ⟨_, _, rfl, rfl, rfl⟩) ?_; refine RunL.val (by exact rfl) (loc_pickT rfl rfl) ?_; refine RunL.val (by exact rfl) (loc_nilCheck rfl rfl) ?_; refine RunL.val (by exact rfl) (loc_fieldAddr rfl) ?_; refine RunL.eff (by exact rfl) (loc_store (by exact rfl) (by exact rfl) (by exact rfl) (by exact rfl) (by exact rfl) (by exact Nat.le_of_ble_eq_true rfl) (by exact rfl)) ?_; refine RunL.nil ?_; refine AW.seq ?_; refine AW.region (by kernel_rfl) ?_; refine RunL.val (by exact rfl) (loc_loadA rfl rfl (by exact Cut.all (by exact rfl))) ?_; refine RunL.eff (by exact rfl) (loc_storeW rfl rfl rfl rfl (by exact rfl) (by exact rfl)) ?_; refine RunL.nil ?_; refine AW.ret ?_
                refine rq ?_
                exact ret_ty (by exact .inr rfl) (by exact rfl) (by exact rfl) pairCells (by exact rfl) (by unfold Rd.close; rw [hc]; exact wkRow_refl _)
              | true =>
                refine RunL.val (by exact rfl) (loc_moveC rfl) ?_; refine RunL.val (by exact .inl ⟨_, _, rfl, rfl, rfl⟩) (loc_moveC rfl) ?_; refine RunL.val (by exact .inl ⟨_, _, rfl, rfl, rfl⟩) (loc_nilCheck rfl rfl) ?_; refine RunL.val (by exact .inl ⟨_, _, rfl, rfl, rfl⟩) (loc_fieldAddr rfl) ?_; refine RunL.val (by exact .inl ⟨_, _, rfl, rfl, rfl⟩) (loc_load rfl rfl rfl) ?_; refine RunL.val (by exact rfl) (loc_pickF rfl rfl) ?_; refine RunL.val (by exact rfl) (loc_nilCheck rfl rfl) ?_; refine RunL.val (by exact rfl) (loc_fieldAddr rfl) ?_; refine RunL.eff (by exact rfl) (loc_store (by exact rfl) (by exact rfl) (by exact rfl) (by exact rfl) (by exact rfl) (by exact Nat.le_of_ble_eq_true rfl) (by exact rfl)) ?_; refine RunL.nil ?_; refine AW.seq ?_; refine AW.region (by kernel_rfl) ?_; refine RunL.val (by exact rfl) (loc_loadA rfl rfl (by exact Cut.all (by exact rfl))) ?_; refine RunL.eff (by exact rfl) (loc_storeW rfl rfl rfl rfl (by exact rfl) (by exact rfl)) ?_; refine RunL.nil ?_; refine AW.ret ?_
                refine rq ?_
                exact ret_ty (by exact .inr rfl) (by exact rfl) (by exact rfl) pairCells (by exact rfl) (by unfold Rd.close; rw [hc]; exact wkRow_refl _)
end Go.Proofs.YtnflnbdlgdjfmabDoor
namespace Go.Proofs.YtnflnbdlgdjfmabDoor
open Go.RowKit
set_option linter.unusedVariables false
set_option linter.unusedSimpArgs false
set_option maxRecDepth 100000
attribute [local irreducible] RunL AW LocOp ACalls Gh
/-- No word is too long. -/
def RdOk (r : Rd) : Prop := ∀ w ∈ r.ws, w.size ≤ 4294967296
theorem next_okR {r : Rd} (h : RdOk r) : RdOk r.next.2 ∧ r.next.1.size ≤ 4294967296 := by
  unfold Rd.next
  split
  · exact ⟨fun w hw => (by cases hw), by show (0 : Nat) ≤ _; decide⟩
  · rename_i w ws e
    exact ⟨fun x hx => h x (by rw [e]; exact List.mem_cons_of_mem _ hx), h w (by rw [e]; exact List.mem_cons_self ..)⟩
theorem close_okR {r : Rd} (h : RdOk r) : RdOk r.close := (next_okR h).1
theorem readK_okR : ∀ (d : Nat) (r : Rd), RdOk r → RdOk (readK d r).2
  | 0, r, h => by
    simp only [readK]
    split
    · exact (next_okR (next_okR h).1).1
    · exact (next_okR h).1
  | d + 1, r, h => by
    have hq : RdOk (if sEq r.next.1 sLp = true then r.next.2.next else r.next).2 := by
      split
      · exact (next_okR (next_okR h).1).1
      · exact (next_okR h).1
    simp only [readK]
    generalize (if sEq r.next.1 sLp = true then r.next.2.next else r.next) = q at hq
    cases kFrom q.1 (sEq r.next.1 sLp) 4 with
    | none => exact hq
    | some k =>
      simp only
      split
      · exact close_okR (readK_okR d _ (readK_okR d _ hq))
      · exact hq
theorem number_okR {r : Rd} {s : ByteArray} (h : RdOk r) : RdOk (r.number s).2 := by
  unfold Rd.number; split <;> exact h
theorem readN_okR {f : Rd → Tm × Rd} (hf : ∀ r, RdOk r → RdOk (f r).2) : ∀ (n : Nat) (r : Rd), RdOk r → RdOk (readN f n r).2
  | 0, r, h => h
  | n + 1, r, h => readN_okR hf n _ (hf r h)
theorem readT_okR : ∀ (n : Nat) (r : Rd), RdOk r → RdOk (readT n r).2
  | 0, r, h => (next_okR h).1
  | n + 1, r, h => by
    have h1 := (next_okR h).1
    simp only [readT]
    split
    · exact h1
    split
    · exact h1
    split
    · exact number_okR h1
    split
    · exact number_okR h1
    split
    · exact (next_okR h1).1
    · simp only [readB]
      refine close_okR (readN_okR (readT_okR n) _ _ ?_)
      split
      · exact readK_okR 4 _ (next_okR h1).1
      · exact (next_okR h1).1
theorem readN_snoc (f : Rd → Tm × Rd) : ∀ (n : Nat) (r : Rd), readN f (n + 1) r = ((readN f n r).1 ++ [(f (readN f n r).2).1], (f (readN f n r).2).2)
  | 0, r => rfl
  | n + 1, r => by
    show ((f r).1 :: (readN f (n + 1) (f r).2).1, (readN f (n + 1) (f r).2).2) = _
    rw [readN_snoc f n (f r).2]; rfl
theorem words_get {i : Nat} (h : i < 10) : wordsC[i]? = some (.str (wordsL.getD i sNil)) := by
  match i, h with
  | 0, _ | 1, _ | 2, _ | 3, _ | 4, _ | 5, _ | 6, _ | 7, _ | 8, _ | 9, _ => rfl
theorem arity_get {i : Nat} (h : i < 10) : arityC[((i : Nat) : Int).toNat * 1]? = some (.int .i64 (arity i)) := by
  match i, h with
  | 0, _ | 1, _ | 2, _ | 3, _ | 4, _ | 5, _ | 6, _ | 7, _ | 8, _ | 9, _ => rfl
theorem arity_le {i : Nat} (h : i < 10) : ∃ a : Nat, arity i = a ∧ a ≤ 3 := by
  match i, h with
  | 0, _ | 1, _ | 2, _ | 3, _ | 4, _ | 5, _ | 6, _ | 7, _ | 8, _ | 9, _ => exact ⟨_, rfl, by decide⟩
theorem wFrom_step {s : ByteArray} {i : Nat} (h : i < 10) : wFrom s (10 - i) = if wAt s i then some i else wFrom s (10 - (i + 1)) := by
  obtain ⟨n, hn⟩ : ∃ n, 10 - i = n + 1 := ⟨9 - i, by omega⟩
  rw [hn, show 10 - (i + 1) = n by omega]
  simp only [wFrom]
  rw [show 9 - n = i by omega]
theorem hash_size {s : ByteArray} (h : Lib.hasPrefix s.data.toList sHash.data.toList = true) : 1 ≤ s.size := by
  unfold Lib.hasPrefix at h
  have := List.IsPrefix.length_le (List.isPrefixOf_iff_prefix.1 h)
  rw [Array.length_toList] at this
  exact this
/-- One term is answered, the reader as it is. -/
theorem ret_tm {P : Program} {x : Tmp} {tx : TypeId} {bx : Nat} {e : Exit} {t : Nat → U} {h : Nat → Option Blk} {r : Rd} {a : Tm} {l k : List C} {fz : List Nat} [T : TAgg P tx 7] (he : e = .normal ∨ e = .ret) (hx : t x = .one (.ptr bx 0)) (hbx : h bx = some (.obj k)) (hfz : AllP (ClosedAt h) fz) (hd : disj fz [1000] = true) (hk : All2 (WkC h fz []) k a.c) (hb : h 1000 = some (.obj l)) (hl : All2 (WkC h fz []) l r.c) : RetQ P #[.cell x tx] a.u [(1000, .obj r.c)] e t h := by
  have hlen : k.length = 7 := hk.length
  exact ⟨he, [.agg k], ⟨⟨bx, k, hx, hbx, .inl ⟨7, T, hlen, rfl⟩⟩, trivial⟩, ⟨trivial, trivial⟩, .agg k, rfl, fz, hfz, hk, ⟨⟨_, hb, hl⟩, trivial⟩, hd, ⟨trivial, trivial, trivial, trivial, trivial, trivial, trivial, trivial⟩, ⟨⟨trivial, trivial, trivial⟩, trivial⟩⟩
theorem tleaf {h : Nat → Option Blk} {k n : Int} : All2 (WkC h [] []) [.int .i64 k, .int .i64 n, .int .i64 0, .nilsl, .int .i64 0, .nilsl, .nilsl] (Tm.mk k n .any .any []).c := ⟨.le (.refl _), .le (.refl _), .le (.refl _), .le (.nil _), .le (.refl _), .le (.nil _), .le (.nil _), trivial⟩
set_option maxHeartbeats 40000000 in
theorem term_a : ∀ (n : Nat), n ≤ 40 → ∀ (r : Rd), RdOk r → ACalls Tryd.prog 31 [.one (.ptr 1000 0), .one (.int .i64 (n : Int))] [(1000, .obj (Rd.c (r)))] (readT n r).1.u [(1000, .obj (Rd.c ((readT n r).2)))] := by
  intro n
  induction n with
  | zero =>
    intro hn r hr
    refine acalls_of_body Tryd.func31 rfl (by kernel_rfl) (Nat.le_of_ble_eq_true rfl) (by exact ⟨⟨rfl, trivial⟩, trivial⟩) (by simp [namesL]) ?_
    refine AW.seq ?_; refine AW.region (by kernel_rfl) ?_; refine RunL.mem (by exact rfl) (loc_allocD rfl rfl) ?_; refine RunL.nil ?_; refine AW.seq ?_; refine AW.region (by kernel_rfl) ?_; refine RunL.val (by exact rfl) (loc_moveC rfl) ?_
    refine RunL.many (by exact rfl) (loc_funE (next_a (r)) rfl (by refine ⟨_, _, rfl, (by exact LeU.of_eq rfl trivial), (by exact Exists.intro _ rfl), ?_⟩; exact rfl) (by exact ⟨rfl, trivial⟩) (by exact rfl) (by simp [namesL]) (by exact ⟨⟨trivial, trivial, trivial⟩, trivial⟩)) ?_
    cases hb : r.next.2.bad with
    | true =>
      refine RunL.val (by exact rfl) (loc_assignC rfl) ?_; refine RunL.nil ?_; refine AW.seq ?_; refine AW.block ?_; refine AW.seq ?_; refine AW.region (by kernel_rfl) ?_; refine RunL.val (by exact rfl) (loc_moveC rfl) ?_; refine RunL.val (by exact rfl) (loc_nilCheck rfl rfl) ?_; refine RunL.val (by exact rfl) (loc_fieldAddr rfl) ?_; refine RunL.val (by exact rfl) (loc_load rfl rfl rfl) ?_; refine RunL.val (by exact rfl) (loc_moveC rfl) ?_; refine RunL.skip (.inl ⟨_, _, rfl, rfl, guard_eq true (by assumption) rfl⟩) ?_; refine RunL.skip (.inl ⟨_, _, rfl, rfl, guard_eq true (by assumption) rfl⟩) ?_; refine RunL.val (by exact rfl) (loc_pickI true (by assumption) rfl rfl) ?_; refine RunL.val (by exact rfl) (loc_assignC rfl) ?_; refine RunL.nil ?_; refine AW.condT (by exact rfl) ?_; refine AW.seq ?_; refine AW.region (by kernel_rfl) ?_; refine RunL.val (by exact rfl) (loc_moveC rfl) ?_; refine RunL.val (by exact rfl) (loc_nilCheck rfl rfl) ?_; refine RunL.val (by exact rfl) (loc_fieldAddr rfl) ?_; refine RunL.eff (by exact rfl) (loc_store (by exact rfl) (by exact rfl) (by exact rfl) (by exact rfl) (by exact rfl) (by exact Nat.le_of_ble_eq_true rfl) (by exact rfl)) ?_; refine RunL.nil ?_; refine AW.seq ?_; refine AW.region (by kernel_rfl) ?_; refine RunL.val (by exact rfl) (loc_build (by exact rfl) (by exact Cut.all (by exact rfl)) (by exact rfl)) ?_; refine RunL.eff (by exact rfl) (loc_storeW rfl rfl rfl rfl (by exact rfl) (by exact rfl)) ?_; refine RunL.nil ?_; refine AW.ret ?_
      refine rq ?_
      exact ret_tm (by exact .inr rfl) (by exact rfl) (by exact rfl) (fz := []) trivial rfl tleaf (by exact rfl) (by exact wkRow_refl _)
    | false =>
      refine RunL.val (by exact rfl) (loc_assignC rfl) ?_; refine RunL.nil ?_; refine AW.seq ?_; refine AW.block ?_; refine AW.seq ?_; refine AW.region (by kernel_rfl) ?_; refine RunL.val (by exact rfl) (loc_moveC rfl) ?_; refine RunL.val (by exact rfl) (loc_nilCheck rfl rfl) ?_; refine RunL.val (by exact rfl) (loc_fieldAddr rfl) ?_; refine RunL.val (by exact rfl) (loc_load rfl rfl rfl) ?_; refine RunL.val (by exact rfl) (loc_moveC rfl) ?_; refine RunL.val (by exact .inl ⟨_, _, rfl, rfl, guard_eq false (by assumption) rfl⟩) (loc_moveC rfl) ?_; refine RunL.val (by exact .inl ⟨_, _, rfl, rfl, guard_eq false (by assumption) rfl⟩) (loc_binInt rfl rfl rfl) ?_; refine RunL.val (by exact rfl) (loc_pickI false (by assumption) rfl rfl) ?_; refine RunL.val (by exact rfl) (loc_assignC rfl) ?_; refine RunL.nil ?_; refine AW.condT (by exact rfl) ?_; refine AW.seq ?_; refine AW.region (by kernel_rfl) ?_; refine RunL.val (by exact rfl) (loc_moveC rfl) ?_; refine RunL.val (by exact rfl) (loc_nilCheck rfl rfl) ?_; refine RunL.val (by exact rfl) (loc_fieldAddr rfl) ?_; refine RunL.eff (by exact rfl) (loc_store (by exact rfl) (by exact rfl) (by exact rfl) (by exact rfl) (by exact rfl) (by exact Nat.le_of_ble_eq_true rfl) (by exact rfl)) ?_; refine RunL.nil ?_; refine AW.seq ?_; refine AW.region (by kernel_rfl) ?_; refine RunL.val (by exact rfl) (loc_build (by exact rfl) (by exact Cut.all (by exact rfl)) (by exact rfl)) ?_; refine RunL.eff (by exact rfl) (loc_storeW rfl rfl rfl rfl (by exact rfl) (by exact rfl)) ?_; refine RunL.nil ?_; refine AW.ret ?_
      refine rq ?_
      exact ret_tm (by exact .inr rfl) (by exact rfl) (by exact rfl) (fz := []) trivial rfl tleaf (by exact rfl) (by exact wkRow_refl _)
  | succ n ih =>
    intro hn r hr
    have ih := ih (by omega)
    have ih2 : ∀ (r : Rd), RdOk r → ACalls Tryd.prog 31 [.one (.ptr 1000 0), .one (.int .i64 (((n + 1 : Nat) : Int) - 1))] [(1000, .obj (Rd.c (r)))] (readT n r).1.u [(1000, .obj (Rd.c ((readT n r).2)))] := fun r hr => by
      rw [show (((n + 1 : Nat) : Int) - 1) = (n : Int) by omega]; exact ih r hr
    have hz : ((((n + 1 : Nat)) : Int) == 0) = false := by rw [beq_eq_false_iff_ne]; omega
    obtain ⟨hr1, hs1⟩ := next_okR hr
    obtain ⟨hr2, hs2⟩ := next_okR hr1
    refine acalls_of_body Tryd.func31 rfl (by kernel_rfl) (Nat.le_of_ble_eq_true rfl) (by exact ⟨⟨rfl, trivial⟩, trivial⟩) (by simp [namesL]) ?_
    refine AW.seq ?_; refine AW.region (by kernel_rfl) ?_; refine RunL.mem (by exact rfl) (loc_allocD rfl rfl) ?_; refine RunL.nil ?_; refine AW.seq ?_; refine AW.region (by kernel_rfl) ?_; refine RunL.val (by exact rfl) (loc_moveC rfl) ?_
    refine RunL.many (by exact rfl) (loc_funE (next_a (r)) rfl (by refine ⟨_, _, rfl, (by exact LeU.of_eq rfl trivial), (by exact Exists.intro _ rfl), ?_⟩; exact rfl) (by exact ⟨rfl, trivial⟩) (by exact rfl) (by simp [namesL]) (by exact ⟨⟨trivial, trivial, trivial⟩, trivial⟩)) ?_
    cases hb : r.next.2.bad with
    | true =>
      rw [show readT (n + 1) r = (Tm.zero, r.next.2.fail) by simp only [readT]; rw [hb]; rfl]
      refine RunL.val (by exact rfl) (loc_assignC rfl) ?_; refine RunL.nil ?_; refine AW.seq ?_; refine AW.block ?_; refine AW.seq ?_; refine AW.region (by kernel_rfl) ?_; refine RunL.val (by exact rfl) (loc_moveC rfl) ?_; refine RunL.val (by exact rfl) (loc_nilCheck rfl rfl) ?_; refine RunL.val (by exact rfl) (loc_fieldAddr rfl) ?_; refine RunL.val (by exact rfl) (loc_load rfl rfl rfl) ?_; refine RunL.val (by exact rfl) (loc_moveC rfl) ?_; refine RunL.skip (.inl ⟨_, _, rfl, rfl, guard_eq true (by assumption) rfl⟩) ?_; refine RunL.skip (.inl ⟨_, _, rfl, rfl, guard_eq true (by assumption) rfl⟩) ?_; refine RunL.val (by exact rfl) (loc_pickI true (by assumption) rfl rfl) ?_; refine RunL.val (by exact rfl) (loc_assignC rfl) ?_; refine RunL.nil ?_; refine AW.condT (by exact rfl) ?_; refine AW.seq ?_; refine AW.region (by kernel_rfl) ?_; refine RunL.val (by exact rfl) (loc_moveC rfl) ?_; refine RunL.val (by exact rfl) (loc_nilCheck rfl rfl) ?_; refine RunL.val (by exact rfl) (loc_fieldAddr rfl) ?_; refine RunL.eff (by exact rfl) (loc_store (by exact rfl) (by exact rfl) (by exact rfl) (by exact rfl) (by exact rfl) (by exact Nat.le_of_ble_eq_true rfl) (by exact rfl)) ?_; refine RunL.nil ?_; refine AW.seq ?_; refine AW.region (by kernel_rfl) ?_; refine RunL.val (by exact rfl) (loc_build (by exact rfl) (by exact Cut.all (by exact rfl)) (by exact rfl)) ?_; refine RunL.eff (by exact rfl) (loc_storeW rfl rfl rfl rfl (by exact rfl) (by exact rfl)) ?_; refine RunL.nil ?_; refine AW.ret ?_
      refine rq ?_
      exact ret_tm (by exact .inr rfl) (by exact rfl) (by exact rfl) (fz := []) trivial rfl tleaf (by exact rfl) (by exact wkRow_refl _)
    | false =>
    refine RunL.val (by exact rfl) (loc_assignC rfl) ?_; refine RunL.nil ?_; refine AW.seq ?_; refine AW.block ?_; refine AW.seq ?_; refine AW.region (by kernel_rfl) ?_; refine RunL.val (by exact rfl) (loc_moveC rfl) ?_; refine RunL.val (by exact rfl) (loc_nilCheck rfl rfl) ?_; refine RunL.val (by exact rfl) (loc_fieldAddr rfl) ?_; refine RunL.val (by exact rfl) (loc_load rfl rfl rfl) ?_; refine RunL.val (by exact rfl) (loc_moveC rfl) ?_; refine RunL.val (by exact .inl ⟨_, _, rfl, rfl, guard_eq false (by assumption) rfl⟩) (loc_moveC rfl) ?_; refine RunL.val (by exact .inl ⟨_, _, rfl, rfl, guard_eq false (by assumption) rfl⟩) (loc_binInt rfl rfl rfl) ?_; refine RunL.val (by exact rfl) (loc_pickI false (by assumption) rfl rfl) ?_; refine RunL.val (by exact rfl) (loc_assignC rfl) ?_; refine RunL.nil ?_; refine AW.condF (by exact rfl) ?_; refine AW.seq ?_; refine AW.region (by kernel_rfl) ?_; refine RunL.val (by exact rfl) (loc_moveC rfl) ?_
    refine RunL.val (by exact rfl) (loc_eqStr (b := sYes) (by exact rfl) (by exact rfl)) ?_
    cases hy : sEq r.next.1 sYes with
    | true =>
      rw [show readT (n + 1) r = (.mk 3 1 .any .any [], r.next.2) by simp only [readT]; rw [hb, hy]; rfl]
      refine RunL.val (by exact rfl) (loc_moveC rfl) ?_; refine RunL.skip (.inl ⟨_, _, rfl, rfl, rfl⟩) ?_; refine RunL.skip (.inl ⟨_, _, rfl, rfl, rfl⟩) ?_; refine RunL.val (by exact rfl) (loc_pickT rfl rfl) ?_; refine RunL.val (by exact rfl) (loc_assignC rfl) ?_; refine RunL.nil ?_; refine AW.condT (by exact rfl) ?_; refine AW.seq ?_; refine AW.region (by kernel_rfl) ?_; refine RunL.val (by exact rfl) (loc_build (by exact rfl) (by exact Cut.all (by exact rfl)) (by exact rfl)) ?_; refine RunL.mem (by exact rfl) (loc_allocD rfl rfl) ?_; refine RunL.eff (by exact rfl) (loc_storeW rfl rfl rfl rfl (by exact rfl) (by exact rfl)) ?_; refine RunL.nil ?_; refine AW.seq ?_; refine AW.seq ?_; refine AW.region (by kernel_rfl) ?_; refine RunL.val (by exact rfl) (loc_moveC rfl) ?_
      refine RunL.val (by exact rfl) (loc_eqStr (b := sYes) (by exact rfl) (by exact rfl)) ?_
      rw [hy]
      refine RunL.nil ?_; refine AW.condT (by exact rfl) ?_; refine AW.region (by kernel_rfl) ?_; refine RunL.val (by exact rfl) (loc_fieldAddr rfl) ?_; refine RunL.eff (by exact rfl) (loc_store (by exact rfl) (by exact rfl) (by exact rfl) (by exact rfl) (by exact rfl) (by exact Nat.le_of_ble_eq_true rfl) (by exact rfl)) ?_; refine RunL.nil ?_; refine AW.seq ?_; refine AW.region (by kernel_rfl) ?_; refine RunL.val (by exact rfl) (loc_loadA rfl rfl (by exact Cut.all (by exact rfl))) ?_; refine RunL.eff (by exact rfl) (loc_storeW rfl rfl rfl rfl (by exact rfl) (by exact rfl)) ?_; refine RunL.nil ?_; refine AW.ret ?_
      refine rq ?_
      exact ret_tm (by exact .inr rfl) (by exact rfl) (by exact rfl) (fz := []) trivial rfl tleaf (by exact rfl) (by exact wkRow_refl _)
    | false =>
    refine RunL.val (by exact rfl) (loc_moveC rfl) ?_; refine RunL.val (by exact .inl ⟨_, _, rfl, rfl, rfl⟩) (loc_moveC rfl) ?_
    refine RunL.val (by exact .inl ⟨_, _, rfl, rfl, rfl⟩) (loc_eqStr (b := sNo) (by exact rfl) (by exact rfl)) ?_
    cases hno : sEq r.next.1 sNo with
    | true =>
      rw [show readT (n + 1) r = (.mk 3 0 .any .any [], r.next.2) by simp only [readT]; rw [hb, hy, hno]; rfl]
      refine RunL.val (by exact rfl) (loc_pickF rfl rfl) ?_; refine RunL.val (by exact rfl) (loc_assignC rfl) ?_; refine RunL.nil ?_; refine AW.condT (by exact rfl) ?_; refine AW.seq ?_; refine AW.region (by kernel_rfl) ?_; refine RunL.val (by exact rfl) (loc_build (by exact rfl) (by exact Cut.all (by exact rfl)) (by exact rfl)) ?_; refine RunL.mem (by exact rfl) (loc_allocD rfl rfl) ?_; refine RunL.eff (by exact rfl) (loc_storeW rfl rfl rfl rfl (by exact rfl) (by exact rfl)) ?_; refine RunL.nil ?_; refine AW.seq ?_; refine AW.seq ?_; refine AW.region (by kernel_rfl) ?_; refine RunL.val (by exact rfl) (loc_moveC rfl) ?_
      refine RunL.val (by exact rfl) (loc_eqStr (b := sYes) (by exact rfl) (by exact rfl)) ?_
      rw [hy]
      refine RunL.nil ?_; refine AW.condF (by exact rfl) ?_; refine AW.skip ?_; refine AW.seq ?_; refine AW.region (by kernel_rfl) ?_; refine RunL.val (by exact rfl) (loc_loadA rfl rfl (by exact Cut.all (by exact rfl))) ?_; refine RunL.eff (by exact rfl) (loc_storeW rfl rfl rfl rfl (by exact rfl) (by exact rfl)) ?_; refine RunL.nil ?_; refine AW.ret ?_
      refine rq ?_
      exact ret_tm (by exact .inr rfl) (by exact rfl) (by exact rfl) (fz := []) trivial rfl tleaf (by exact rfl) (by exact wkRow_refl _)
    | false =>
    refine RunL.val (by exact rfl) (loc_pickF rfl rfl) ?_; refine RunL.val (by exact rfl) (loc_assignC rfl) ?_; refine RunL.nil ?_; refine AW.condF (by exact rfl) ?_; refine AW.seq ?_; refine AW.region (by kernel_rfl) ?_; refine RunL.val (by exact rfl) (loc_moveC rfl) ?_
    refine RunL.val (by exact rfl) (loc_fun (hasPrefix_a r.next.1 sHash) rfl (by refine ⟨_, _, rfl, (by exact LeU.of_eq rfl trivial), (by exact trivial), ?_⟩; refine ⟨_, _, rfl, (by exact LeU.of_eq rfl trivial), (by exact trivial), ?_⟩; exact rfl)) ?_
    cases hh : Lib.hasPrefix r.next.1.data.toList sHash.data.toList with
    | true =>
      have hsz := hash_size hh
      rw [show readT (n + 1) r = (.mk 1 (r.next.2.number (r.next.1.extract 1 r.next.1.size)).1 .any .any [], (r.next.2.number (r.next.1.extract 1 r.next.1.size)).2) by simp only [readT]; rw [hb, hy, hno, hh]; rfl]
      refine RunL.val (by exact rfl) (loc_assignC rfl) ?_; refine RunL.nil ?_; refine AW.condT (by exact rfl) ?_; refine AW.seq ?_; refine AW.region (by kernel_rfl) ?_; refine RunL.val (by exact rfl) (loc_moveC rfl) ?_; refine RunL.val (by exact rfl) (loc_moveC rfl) ?_
      refine RunL.val (by exact rfl) (loc_sliceStr1 (by exact rfl) hsz) ?_
      refine RunL.many (by exact rfl) (loc_funE (number_a (r.next.2) (r.next.1.extract 1 r.next.1.size) (by rw [ByteArray.size_extract]; omega)) rfl (by refine ⟨_, _, rfl, (by exact LeU.of_eq rfl trivial), (by exact Exists.intro _ rfl), ?_⟩; refine ⟨_, _, rfl, (by exact LeU.of_eq rfl trivial), (by exact trivial), ?_⟩; exact rfl) (by exact ⟨rfl, trivial⟩) (by exact rfl) (by simp [namesL]) (by exact ⟨⟨trivial, trivial, trivial⟩, trivial⟩)) ?_
      refine RunL.val (by exact rfl) (loc_build (by exact rfl) (by exact Cut.all (by exact rfl)) (by exact rfl)) ?_; refine RunL.eff (by exact rfl) (loc_storeW rfl rfl rfl rfl (by exact rfl) (by exact rfl)) ?_; refine RunL.nil ?_; refine AW.ret ?_
      refine rq ?_
      exact ret_tm (by exact .inr rfl) (by exact rfl) (by exact rfl) (fz := []) trivial rfl tleaf (by exact rfl) (by exact wkRow_refl _)
    | false =>
    refine RunL.val (by exact rfl) (loc_assignC rfl) ?_; refine RunL.nil ?_; refine AW.condF (by exact rfl) ?_; refine AW.seq ?_; refine AW.region (by kernel_rfl) ?_; refine RunL.val (by exact rfl) (loc_moveC rfl) ?_
    refine RunL.val (by exact rfl) (loc_neStr (b := sLp) (by exact rfl) (by exact rfl)) ?_
    cases hp : sEq r.next.1 sLp with
    | false =>
      rw [show readT (n + 1) r = (.mk 2 (r.next.2.number r.next.1).1 .any .any [], (r.next.2.number r.next.1).2) by simp only [readT]; rw [hb, hy, hno, hh, hp]; rfl]
      refine RunL.val (by exact rfl) (loc_assignC rfl) ?_; refine RunL.nil ?_; refine AW.condT (by exact rfl) ?_; refine AW.seq ?_; refine AW.region (by kernel_rfl) ?_; refine RunL.val (by exact rfl) (loc_moveC rfl) ?_; refine RunL.val (by exact rfl) (loc_moveC rfl) ?_
      refine RunL.many (by exact rfl) (loc_funE (number_a (r.next.2) (r.next.1) (by omega)) rfl (by refine ⟨_, _, rfl, (by exact LeU.of_eq rfl trivial), (by exact Exists.intro _ rfl), ?_⟩; refine ⟨_, _, rfl, (by exact LeU.of_eq rfl trivial), (by exact trivial), ?_⟩; exact rfl) (by exact ⟨rfl, trivial⟩) (by exact rfl) (by simp [namesL]) (by exact ⟨⟨trivial, trivial, trivial⟩, trivial⟩)) ?_
      refine RunL.val (by exact rfl) (loc_build (by exact rfl) (by exact Cut.all (by exact rfl)) (by exact rfl)) ?_; refine RunL.eff (by exact rfl) (loc_storeW rfl rfl rfl rfl (by exact rfl) (by exact rfl)) ?_; refine RunL.nil ?_; refine AW.ret ?_
      refine rq ?_
      exact ret_tm (by exact .inr rfl) (by exact rfl) (by exact rfl) (fz := []) trivial rfl tleaf (by exact rfl) (by exact wkRow_refl _)
    | true =>
    have hrd : readT (n + 1) r = match wFrom r.next.2.next.1 10 with | none => (Tm.zero, r.next.2.next.2.fail) | some k => readB (readT n) k r.next.2.next.2 := by
      simp only [readT]; rw [hb, hy, hno, hh, hp]; rfl
    rw [hrd]
    refine RunL.val (by exact rfl) (loc_assignC rfl) ?_; refine RunL.nil ?_; refine AW.condF (by exact rfl) ?_; refine AW.skip ?_; refine AW.seq ?_; refine AW.region (by kernel_rfl) ?_; refine RunL.val (by exact rfl) (loc_moveC rfl) ?_
    refine RunL.many (by exact rfl) (loc_funE (next_a (r.next.2)) rfl (by refine ⟨_, _, rfl, (by exact LeU.of_eq rfl trivial), (by exact Exists.intro _ rfl), ?_⟩; exact rfl) (by exact ⟨rfl, trivial⟩) (by exact rfl) (by simp [namesL]) (by exact ⟨⟨trivial, trivial, trivial⟩, trivial⟩)) ?_
    refine RunL.val (by exact rfl) (loc_assignC rfl) ?_; refine RunL.nil ?_; refine AW.seq ?_; refine AW.seq ?_; refine AW.region (by kernel_rfl) ?_; refine RunL.val (by exact rfl) (loc_loadFA rfl (by exact Cut.all (by exact rfl))) ?_; refine RunL.val (by exact rfl) (loc_moveC rfl) ?_; refine RunL.nil ?_; refine AW.block ?_
    refine AW.gh (gh_lit [(0, .one (.ptr 1000 0)), (1, .one (.int .i64 ((n + 1 : Nat) : Int))), (4, .one (.ptr 4 0)), (5, .one (.str r.next.2.next.1)), (54, .agg wordsC), (55, .one (.int .i64 ((0 : Nat) : Int)))] [(1000, .obj (Rd.c r.next.2.next.2)), (4, .obj [.int .i64 0, .int .i64 0, .int .i64 0, .nilsl, .int .i64 0, .nilsl, .nilsl])] [] [] ⟨(WkU.of_eq rfl trivial), (WkU.of_eq rfl trivial), (WkU.of_eq rfl trivial), (by exact WkU.of_eq rfl trivial), (by exact WkU.of_eq rfl trivial), (WkU.of_eq rfl trivial), trivial⟩ ⟨(by exact Or.inl ⟨_, rfl, WkBlk.refl _⟩), (by exact Or.inl ⟨_, rfl, WkBlk.refl _⟩), trivial⟩ trivial trivial rfl rfl ⟨⟨_, rfl⟩, trivial, ⟨_, rfl⟩, trivial, (by refine And.intro ?_ ?_; exact trivial; refine And.intro ?_ ?_; exact trivial; refine And.intro ?_ ?_; exact trivial; refine And.intro ?_ ?_; exact trivial; refine And.intro ?_ ?_; exact trivial; refine And.intro ?_ ?_; exact trivial; refine And.intro ?_ ?_; exact trivial; refine And.intro ?_ ?_; exact trivial; refine And.intro ?_ ?_; exact trivial; refine And.intro ?_ ?_; exact trivial; exact trivial), trivial, trivial⟩ ⟨(by refine And.intro ?_ ?_; exact trivial; refine And.intro ?_ ?_; exact trivial; exact trivial), (by refine And.intro ?_ ?_; exact trivial; refine And.intro ?_ ?_; exact trivial; refine And.intro ?_ ?_; exact trivial; refine And.intro ?_ ?_; exact trivial; refine And.intro ?_ ?_; exact trivial; refine And.intro ?_ ?_; exact trivial; refine And.intro ?_ ?_; exact trivial; exact trivial), trivial⟩) ?_
    refine AW.loop (fun m t' h => ∃ i : Nat, i ≤ 10 ∧ m = 10 - i ∧ wFrom r.next.2.next.1 10 = wFrom r.next.2.next.1 (10 - i) ∧ t' = tOfL [(0, .one (.ptr 1000 0)), (1, .one (.int .i64 ((n + 1 : Nat) : Int))), (4, .one (.ptr 4 0)), (5, .one (.str r.next.2.next.1)), (54, .agg wordsC), (55, .one (.int .i64 ((i : Nat) : Int)))] ∧ h = ofL [(1000, .obj (Rd.c r.next.2.next.2)), (4, .obj [.int .i64 0, .int .i64 0, .int .i64 0, .nilsl, .int .i64 0, .nilsl, .nilsl])]) 10 ⟨0, by omega, rfl, rfl, rfl, rfl⟩ ?_
    rintro m t' h ⟨i, hi, rfl, hinv, rfl, rfl⟩
    cases hlt : decide ((i : Int) < 10) with
    | false =>
      have hi4 : i = 10 := by have := of_decide_eq_false hlt; omega
      subst hi4
      rw [show wFrom r.next.2.next.1 10 = none by rw [hinv]; rfl]
      refine AW.seq ?_; refine AW.region (by kernel_rfl) ?_; refine RunL.val (by exact rfl) (loc_binInt rfl rfl rfl) ?_; refine RunL.nil ?_; refine AW.seq ?_; refine AW.condF (by exact rfl) ?_; refine AW.exit ?_; refine AW.seq ?_; refine AW.region (by kernel_rfl) ?_; refine RunL.val (by exact rfl) (loc_moveC rfl) ?_; refine RunL.val (by exact rfl) (loc_nilCheck rfl rfl) ?_; refine RunL.val (by exact rfl) (loc_fieldAddr rfl) ?_; refine RunL.eff (by exact rfl) (loc_store (by exact rfl) (by exact rfl) (by exact rfl) (by exact rfl) (by exact rfl) (by exact Nat.le_of_ble_eq_true rfl) (by exact rfl)) ?_; refine RunL.nil ?_; refine AW.seq ?_; refine AW.region (by kernel_rfl) ?_; refine RunL.val (by exact rfl) (loc_build (by exact rfl) (by exact Cut.all (by exact rfl)) (by exact rfl)) ?_; refine RunL.eff (by exact rfl) (loc_storeW rfl rfl rfl rfl (by exact rfl) (by exact rfl)) ?_; refine RunL.nil ?_; refine AW.ret ?_
      refine rq ?_
      exact ret_tm (by exact .inr rfl) (by exact rfl) (by exact rfl) (fz := []) trivial rfl tleaf (by exact rfl) (by exact wkRow_refl _)
    | true =>
    have hi4 : i < 10 := by have := of_decide_eq_true hlt; omega
    have hg := words_get hi4
    refine AW.seq ?_; refine AW.region (by kernel_rfl) ?_; refine RunL.val (by exact rfl) (loc_binInt rfl rfl rfl) ?_; refine RunL.nil ?_; refine AW.seq ?_; refine AW.condTa (by exact rfl) (by assumption) ?_; refine AW.skip ?_; refine AW.seq ?_; refine AW.block ?_; refine AW.seq ?_; refine AW.region (by kernel_rfl) ?_; refine RunL.val (by exact rfl) (loc_moveC rfl) ?_
    refine RunL.val (by exact rfl) (loc_indexA (by exact rfl) (by exact rfl) hi4 hg) ?_
    refine RunL.val (by exact rfl) (loc_assignC rfl) ?_; refine RunL.val (by exact rfl) (loc_assignC rfl) ?_; refine RunL.nil ?_; refine AW.seq ?_; refine AW.seq ?_; refine AW.region (by kernel_rfl) ?_; refine RunL.val (by exact rfl) (loc_moveC rfl) ?_
    refine RunL.val (by exact rfl) (loc_eqStr (b := sNil) (by exact rfl) (by exact rfl)) ?_
    cases h1 : sEq (wordsL.getD i sNil) sNil with
    | true =>
      have hk : wAt r.next.2.next.1 i = false := by unfold wAt; rw [h1]; rfl
      refine RunL.val (by exact rfl) (loc_moveC rfl) ?_; refine RunL.skip (.inl ⟨_, _, rfl, rfl, rfl⟩) ?_; refine RunL.skip (.inl ⟨_, _, rfl, rfl, rfl⟩) ?_; refine RunL.skip (.inl ⟨_, _, rfl, rfl, rfl⟩) ?_; refine RunL.val (by exact rfl) (loc_pickT rfl rfl) ?_; refine RunL.nil ?_; refine AW.condT (by exact rfl) ?_; refine AW.exit ?_; refine AW.region (by kernel_rfl) ?_; refine RunL.val (by exact rfl) (loc_inc rfl rfl (by omega)) ?_; refine RunL.val (by exact rfl) (loc_moveC rfl) ?_; refine RunL.nil ?_
      exact ⟨10 - (i + 1), _, _, by omega, (gh_lit [(0, .one (.ptr 1000 0)), (1, .one (.int .i64 ((n + 1 : Nat) : Int))), (4, .one (.ptr 4 0)), (5, .one (.str r.next.2.next.1)), (54, .agg wordsC), (55, .one (.int .i64 (((i + 1) : Nat) : Int)))] [(1000, .obj (Rd.c r.next.2.next.2)), (4, .obj [.int .i64 0, .int .i64 0, .int .i64 0, .nilsl, .int .i64 0, .nilsl, .nilsl])] [] [] ⟨(WkU.of_eq rfl trivial), (WkU.of_eq rfl trivial), (WkU.of_eq rfl trivial), (by exact WkU.of_eq rfl trivial), (by exact WkU.of_eq rfl trivial), (WkU.of_eq rfl trivial), trivial⟩ ⟨(by exact Or.inl ⟨_, rfl, WkBlk.refl _⟩), (by exact Or.inl ⟨_, rfl, WkBlk.refl _⟩), trivial⟩ trivial trivial rfl rfl ⟨⟨_, rfl⟩, trivial, ⟨_, rfl⟩, trivial, (by refine And.intro ?_ ?_; exact trivial; refine And.intro ?_ ?_; exact trivial; refine And.intro ?_ ?_; exact trivial; refine And.intro ?_ ?_; exact trivial; refine And.intro ?_ ?_; exact trivial; refine And.intro ?_ ?_; exact trivial; refine And.intro ?_ ?_; exact trivial; refine And.intro ?_ ?_; exact trivial; refine And.intro ?_ ?_; exact trivial; refine And.intro ?_ ?_; exact trivial; exact trivial), trivial, trivial⟩ ⟨(by refine And.intro ?_ ?_; exact trivial; refine And.intro ?_ ?_; exact trivial; exact trivial), (by refine And.intro ?_ ?_; exact trivial; refine And.intro ?_ ?_; exact trivial; refine And.intro ?_ ?_; exact trivial; refine And.intro ?_ ?_; exact trivial; refine And.intro ?_ ?_; exact trivial; refine And.intro ?_ ?_; exact trivial; refine And.intro ?_ ?_; exact trivial; exact trivial), trivial⟩), i + 1, by omega, by omega, by rw [hinv, wFrom_step hi4, hk]; rfl, rfl, rfl⟩
    | false =>
    refine RunL.val (by exact rfl) (loc_moveC rfl) ?_; refine RunL.val (by exact .inl ⟨_, _, rfl, rfl, rfl⟩) (loc_moveC rfl) ?_; refine RunL.val (by exact .inl ⟨_, _, rfl, rfl, rfl⟩) (loc_moveC rfl) ?_
    refine RunL.val (by exact .inl ⟨_, _, rfl, rfl, rfl⟩) (loc_neStr (by exact rfl) (by exact rfl)) ?_
    cases h2 : sEq (wordsL.getD i sNil) r.next.2.next.1 with
    | false =>
      have hk : wAt r.next.2.next.1 i = false := by unfold wAt; rw [h1, h2]; rfl
      refine RunL.val (by exact rfl) (loc_pickF rfl rfl) ?_; refine RunL.nil ?_; refine AW.condT (by exact rfl) ?_; refine AW.exit ?_; refine AW.region (by kernel_rfl) ?_; refine RunL.val (by exact rfl) (loc_inc rfl rfl (by omega)) ?_; refine RunL.val (by exact rfl) (loc_moveC rfl) ?_; refine RunL.nil ?_
      exact ⟨10 - (i + 1), _, _, by omega, (gh_lit [(0, .one (.ptr 1000 0)), (1, .one (.int .i64 ((n + 1 : Nat) : Int))), (4, .one (.ptr 4 0)), (5, .one (.str r.next.2.next.1)), (54, .agg wordsC), (55, .one (.int .i64 (((i + 1) : Nat) : Int)))] [(1000, .obj (Rd.c r.next.2.next.2)), (4, .obj [.int .i64 0, .int .i64 0, .int .i64 0, .nilsl, .int .i64 0, .nilsl, .nilsl])] [] [] ⟨(WkU.of_eq rfl trivial), (WkU.of_eq rfl trivial), (WkU.of_eq rfl trivial), (by exact WkU.of_eq rfl trivial), (by exact WkU.of_eq rfl trivial), (WkU.of_eq rfl trivial), trivial⟩ ⟨(by exact Or.inl ⟨_, rfl, WkBlk.refl _⟩), (by exact Or.inl ⟨_, rfl, WkBlk.refl _⟩), trivial⟩ trivial trivial rfl rfl ⟨⟨_, rfl⟩, trivial, ⟨_, rfl⟩, trivial, (by refine And.intro ?_ ?_; exact trivial; refine And.intro ?_ ?_; exact trivial; refine And.intro ?_ ?_; exact trivial; refine And.intro ?_ ?_; exact trivial; refine And.intro ?_ ?_; exact trivial; refine And.intro ?_ ?_; exact trivial; refine And.intro ?_ ?_; exact trivial; refine And.intro ?_ ?_; exact trivial; refine And.intro ?_ ?_; exact trivial; refine And.intro ?_ ?_; exact trivial; exact trivial), trivial, trivial⟩ ⟨(by refine And.intro ?_ ?_; exact trivial; refine And.intro ?_ ?_; exact trivial; exact trivial), (by refine And.intro ?_ ?_; exact trivial; refine And.intro ?_ ?_; exact trivial; refine And.intro ?_ ?_; exact trivial; refine And.intro ?_ ?_; exact trivial; refine And.intro ?_ ?_; exact trivial; refine And.intro ?_ ?_; exact trivial; refine And.intro ?_ ?_; exact trivial; exact trivial), trivial⟩), i + 1, by omega, by omega, by rw [hinv, wFrom_step hi4, hk]; rfl, rfl, rfl⟩
    | true =>
    have hk : wAt r.next.2.next.1 i = true := by unfold wAt; rw [h1, h2]; rfl
    rw [show wFrom r.next.2.next.1 10 = some i by rw [hinv, wFrom_step hi4, hk]; rfl]
    simp only
    have hk1 : ACalls Tryd.prog 50 [.one (.ptr 1000 0), .one (.int .i64 1)] [(1000, .obj (Rd.c (r.next.2.next.2)))] (readK 4 r.next.2.next.2).1.u [(1000, .obj (Rd.c ((readK 4 r.next.2.next.2).2)))] := kind_a 4 (by decide) r.next.2.next.2
    refine RunL.val (by exact rfl) (loc_pickF rfl rfl) ?_; refine RunL.nil ?_; refine AW.condF (by exact rfl) ?_; refine AW.skip ?_; refine AW.seq ?_; refine AW.region (by kernel_rfl) ?_; refine RunL.val (by exact rfl) (loc_moveC rfl) ?_; refine RunL.val (by exact rfl) (loc_build (by exact rfl) (by exact Cut.all (by exact rfl)) (by exact rfl)) ?_
    refine RunL.mem (by exact rfl) (loc_allocD rfl rfl) ?_
    refine RunL.eff (by exact rfl) (loc_storeW rfl rfl rfl rfl (by exact rfl) (by exact rfl)) ?_; refine RunL.nil ?_
    refine AW.seq ?_
    refine AW.midB (fun t h => ∃ ty rd, (ty, rd) = (if ((i : Nat) : Int) == 7 || ((i : Nat) : Int) == 9 then readK 4 r.next.2.next.2 else (.any, r.next.2.next.2)) ∧ t = tOfL [(0, .one (.ptr 1000 0)), (1, .one (.int .i64 ((n + 1 : Nat) : Int))), (4, .one (.ptr 4 0)), (7, .one (.int .i64 ((i : Nat) : Int))), (9, .one (.ptr 9 0))] ∧ h = ofL [(1000, .obj (Rd.c rd)), (4, .obj [.int .i64 0, .int .i64 0, .int .i64 0, .nilsl, .int .i64 0, .nilsl, .nilsl]), (9, .obj [.int .i64 ((i : Nat) : Int), .int .i64 0, .int .i64 (Ty.k (ty)), slOf 2 (tyRows (Ty.l (ty))), .int .i64 0, .nilsl, .nilsl])]) ?_ ?_
    · cases h7 : (((i : Nat) : Int) == 7) with
      | true =>
        refine AW.seq ?_; refine AW.region (by kernel_rfl) ?_; refine RunL.val (by exact rfl) (loc_moveC rfl) ?_; refine RunL.val (by exact rfl) (loc_binInt rfl rfl rfl) ?_; refine RunL.val (by exact rfl) (loc_moveC rfl) ?_; refine RunL.skip (.inl ⟨_, _, rfl, rfl, guard_eq true (by assumption) rfl⟩) ?_; refine RunL.skip (.inl ⟨_, _, rfl, rfl, guard_eq true (by assumption) rfl⟩) ?_; refine RunL.val (by exact rfl) (loc_pickI true (by assumption) rfl rfl) ?_; refine RunL.nil ?_; refine AW.condT (by exact rfl) ?_; refine AW.region (by kernel_rfl) ?_; refine RunL.val (by exact rfl) (loc_moveC rfl) ?_
        refine RunL.many (by exact rfl) (loc_funE (hk1) rfl (by refine ⟨_, _, rfl, (by exact LeU.of_eq rfl trivial), (by exact Exists.intro _ rfl), ?_⟩; refine ⟨_, _, rfl, (by exact LeU.of_eq rfl trivial), (by exact trivial), ?_⟩; exact rfl) (by exact ⟨rfl, trivial⟩) (by exact rfl) (by simp [namesL]) (by exact ⟨⟨trivial, trivial, trivial⟩, trivial⟩)) ?_
        refine RunL.val (by exact rfl) (loc_fieldAddr rfl) ?_; refine RunL.eff (by exact rfl) (loc_store (by exact rfl) (by exact rfl) (by exact rfl) (by exact rfl) (by exact rfl) (by exact Nat.le_of_ble_eq_true rfl) (by exact rfl)) ?_; refine RunL.nil ?_
        exact ⟨_, _, (gh_lit [(0, .one (.ptr 1000 0)), (1, .one (.int .i64 ((n + 1 : Nat) : Int))), (4, .one (.ptr 4 0)), (7, .one (.int .i64 ((i : Nat) : Int))), (9, .one (.ptr 9 0))] [(1000, .obj (Rd.c (readK 4 r.next.2.next.2).2)), (4, .obj [.int .i64 0, .int .i64 0, .int .i64 0, .nilsl, .int .i64 0, .nilsl, .nilsl]), (9, .obj [.int .i64 ((i : Nat) : Int), .int .i64 0, .int .i64 (Ty.k ((readK 4 r.next.2.next.2).1)), slOf 2 (tyRows (Ty.l ((readK 4 r.next.2.next.2).1))), .int .i64 0, .nilsl, .nilsl])] [] [] ⟨(WkU.of_eq rfl trivial), (WkU.of_eq rfl trivial), (WkU.of_eq rfl trivial), (WkU.of_eq rfl trivial), (WkU.of_eq rfl trivial), trivial⟩ ⟨(by exact Or.inl ⟨_, rfl, WkBlk.refl _⟩), (by exact Or.inl ⟨_, rfl, WkBlk.refl _⟩), (by exact Or.inl ⟨_, rfl, WkBlk.refl _⟩), trivial⟩ trivial trivial rfl rfl ⟨⟨_, rfl⟩, trivial, ⟨_, rfl⟩, trivial, ⟨_, rfl⟩, trivial⟩ ⟨(by refine And.intro ?_ ?_; exact trivial; refine And.intro ?_ ?_; exact trivial; exact trivial), (by refine And.intro ?_ ?_; exact trivial; refine And.intro ?_ ?_; exact trivial; refine And.intro ?_ ?_; exact trivial; refine And.intro ?_ ?_; exact trivial; refine And.intro ?_ ?_; exact trivial; refine And.intro ?_ ?_; exact trivial; refine And.intro ?_ ?_; exact trivial; exact trivial), (by refine And.intro ?_ ?_; exact trivial; refine And.intro ?_ ?_; exact trivial; refine And.intro ?_ ?_; exact trivial; refine And.intro ?_ ?_; exact trivial; refine And.intro ?_ ?_; exact trivial; refine And.intro ?_ ?_; exact trivial; refine And.intro ?_ ?_; exact trivial; exact trivial), trivial⟩), (readK 4 r.next.2.next.2).1, (readK 4 r.next.2.next.2).2, rfl, rfl, rfl⟩
      | false =>
      cases h9 : (((i : Nat) : Int) == 9) with
      | true =>
        refine AW.seq ?_; refine AW.region (by kernel_rfl) ?_; refine RunL.val (by exact rfl) (loc_moveC rfl) ?_; refine RunL.val (by exact rfl) (loc_binInt rfl rfl rfl) ?_; refine RunL.val (by exact rfl) (loc_moveC rfl) ?_; refine RunL.val (by exact .inl ⟨_, _, rfl, rfl, guard_eq false (by assumption) rfl⟩) (loc_moveC rfl) ?_; refine RunL.val (by exact .inl ⟨_, _, rfl, rfl, guard_eq false (by assumption) rfl⟩) (loc_binInt rfl rfl rfl) ?_; refine RunL.val (by exact rfl) (loc_pickI false (by assumption) rfl rfl) ?_; refine RunL.nil ?_; refine AW.condTa (by exact rfl) (by assumption) ?_; refine AW.region (by kernel_rfl) ?_; refine RunL.val (by exact rfl) (loc_moveC rfl) ?_
        refine RunL.many (by exact rfl) (loc_funE (hk1) rfl (by refine ⟨_, _, rfl, (by exact LeU.of_eq rfl trivial), (by exact Exists.intro _ rfl), ?_⟩; refine ⟨_, _, rfl, (by exact LeU.of_eq rfl trivial), (by exact trivial), ?_⟩; exact rfl) (by exact ⟨rfl, trivial⟩) (by exact rfl) (by simp [namesL]) (by exact ⟨⟨trivial, trivial, trivial⟩, trivial⟩)) ?_
        refine RunL.val (by exact rfl) (loc_fieldAddr rfl) ?_; refine RunL.eff (by exact rfl) (loc_store (by exact rfl) (by exact rfl) (by exact rfl) (by exact rfl) (by exact rfl) (by exact Nat.le_of_ble_eq_true rfl) (by exact rfl)) ?_; refine RunL.nil ?_
        exact ⟨_, _, (gh_lit [(0, .one (.ptr 1000 0)), (1, .one (.int .i64 ((n + 1 : Nat) : Int))), (4, .one (.ptr 4 0)), (7, .one (.int .i64 ((i : Nat) : Int))), (9, .one (.ptr 9 0))] [(1000, .obj (Rd.c (readK 4 r.next.2.next.2).2)), (4, .obj [.int .i64 0, .int .i64 0, .int .i64 0, .nilsl, .int .i64 0, .nilsl, .nilsl]), (9, .obj [.int .i64 ((i : Nat) : Int), .int .i64 0, .int .i64 (Ty.k ((readK 4 r.next.2.next.2).1)), slOf 2 (tyRows (Ty.l ((readK 4 r.next.2.next.2).1))), .int .i64 0, .nilsl, .nilsl])] [] [] ⟨(WkU.of_eq rfl trivial), (WkU.of_eq rfl trivial), (WkU.of_eq rfl trivial), (WkU.of_eq rfl trivial), (WkU.of_eq rfl trivial), trivial⟩ ⟨(by exact Or.inl ⟨_, rfl, WkBlk.refl _⟩), (by exact Or.inl ⟨_, rfl, WkBlk.refl _⟩), (by exact Or.inl ⟨_, rfl, WkBlk.refl _⟩), trivial⟩ trivial trivial rfl rfl ⟨⟨_, rfl⟩, trivial, ⟨_, rfl⟩, trivial, ⟨_, rfl⟩, trivial⟩ ⟨(by refine And.intro ?_ ?_; exact trivial; refine And.intro ?_ ?_; exact trivial; exact trivial), (by refine And.intro ?_ ?_; exact trivial; refine And.intro ?_ ?_; exact trivial; refine And.intro ?_ ?_; exact trivial; refine And.intro ?_ ?_; exact trivial; refine And.intro ?_ ?_; exact trivial; refine And.intro ?_ ?_; exact trivial; refine And.intro ?_ ?_; exact trivial; exact trivial), (by refine And.intro ?_ ?_; exact trivial; refine And.intro ?_ ?_; exact trivial; refine And.intro ?_ ?_; exact trivial; refine And.intro ?_ ?_; exact trivial; refine And.intro ?_ ?_; exact trivial; refine And.intro ?_ ?_; exact trivial; refine And.intro ?_ ?_; exact trivial; exact trivial), trivial⟩), (readK 4 r.next.2.next.2).1, (readK 4 r.next.2.next.2).2, rfl, rfl, rfl⟩
      | false =>
        refine AW.seq ?_; refine AW.region (by kernel_rfl) ?_; refine RunL.val (by exact rfl) (loc_moveC rfl) ?_; refine RunL.val (by exact rfl) (loc_binInt rfl rfl rfl) ?_; refine RunL.val (by exact rfl) (loc_moveC rfl) ?_; refine RunL.val (by exact .inl ⟨_, _, rfl, rfl, guard_eq false (by assumption) rfl⟩) (loc_moveC rfl) ?_; refine RunL.val (by exact .inl ⟨_, _, rfl, rfl, guard_eq false (by assumption) rfl⟩) (loc_binInt rfl rfl rfl) ?_; refine RunL.val (by exact rfl) (loc_pickI false (by assumption) rfl rfl) ?_; refine RunL.nil ?_; refine AW.condFa (by exact rfl) (by assumption) ?_; refine AW.skip ?_
        exact ⟨_, _, (gh_lit [(0, .one (.ptr 1000 0)), (1, .one (.int .i64 ((n + 1 : Nat) : Int))), (4, .one (.ptr 4 0)), (7, .one (.int .i64 ((i : Nat) : Int))), (9, .one (.ptr 9 0))] [(1000, .obj (Rd.c r.next.2.next.2)), (4, .obj [.int .i64 0, .int .i64 0, .int .i64 0, .nilsl, .int .i64 0, .nilsl, .nilsl]), (9, .obj [.int .i64 ((i : Nat) : Int), .int .i64 0, .int .i64 (Ty.k (.any)), slOf 2 (tyRows (Ty.l (.any))), .int .i64 0, .nilsl, .nilsl])] [] [] ⟨(WkU.of_eq rfl trivial), (WkU.of_eq rfl trivial), (WkU.of_eq rfl trivial), (WkU.of_eq rfl trivial), (WkU.of_eq rfl trivial), trivial⟩ ⟨(by exact Or.inl ⟨_, rfl, WkBlk.refl _⟩), (by exact Or.inl ⟨_, rfl, WkBlk.refl _⟩), (by (refine Or.inl ⟨_, rfl, ?_⟩; show All2 _ _ _; refine And.intro ?_ ?_; exact WkC.le (LeC.refl _); refine And.intro ?_ ?_; exact WkC.le (LeC.refl _); refine And.intro ?_ ?_; exact WkC.le (LeC.refl _); refine And.intro ?_ ?_; exact WkC.le (LeC.nil _); refine And.intro ?_ ?_; exact WkC.le (LeC.refl _); refine And.intro ?_ ?_; exact WkC.le (LeC.refl _); refine And.intro ?_ ?_; exact WkC.le (LeC.refl _); exact trivial)), trivial⟩ trivial trivial rfl rfl ⟨⟨_, rfl⟩, trivial, ⟨_, rfl⟩, trivial, ⟨_, rfl⟩, trivial⟩ ⟨(by refine And.intro ?_ ?_; exact trivial; refine And.intro ?_ ?_; exact trivial; exact trivial), (by refine And.intro ?_ ?_; exact trivial; refine And.intro ?_ ?_; exact trivial; refine And.intro ?_ ?_; exact trivial; refine And.intro ?_ ?_; exact trivial; refine And.intro ?_ ?_; exact trivial; refine And.intro ?_ ?_; exact trivial; refine And.intro ?_ ?_; exact trivial; exact trivial), (by refine And.intro ?_ ?_; exact trivial; refine And.intro ?_ ?_; exact trivial; refine And.intro ?_ ?_; exact trivial; refine And.intro ?_ ?_; exact trivial; refine And.intro ?_ ?_; exact trivial; refine And.intro ?_ ?_; exact trivial; refine And.intro ?_ ?_; exact trivial; exact trivial), trivial⟩), .any, r.next.2.next.2, rfl, rfl, rfl⟩
    · rintro t h ⟨ty, rd, htr, rfl, rfl⟩
      have hrb : readB (readT n) i r.next.2.next.2 = (.mk i 0 ty .any (readN (readT n) (arity i).toNat rd).1, (readN (readT n) (arity i).toNat rd).2.close) := by
        unfold readB; rw [← htr]
      have hrd : RdOk rd := by
        have : RdOk (ty, rd).2 := by
          rw [htr]
          split
          · exact readK_okR 4 _ hr2
          · exact hr2
        exact this
      obtain ⟨ar, har, ha3⟩ := arity_le hi4
      have har2 : (arity i).toNat = ar := by omega
      rw [hrb, har2]
      have hag := arity_get hi4
      rw [har] at hag
      refine AW.seq ?_; refine AW.seq ?_; refine AW.region (by kernel_rfl) ?_; refine RunL.val (by exact rfl) (loc_moveC rfl) ?_; refine RunL.val (by exact rfl) (loc_indexArrI rfl rfl (by omega) (by omega)) ?_; refine RunL.val (by exact rfl) (loc_loadF rfl (by assumption)) ?_; refine RunL.val (by exact rfl) (loc_moveC rfl) ?_; refine RunL.nil ?_; refine AW.block ?_
      refine AW.gh (gh_lit [(0, .one (.ptr 1000 0)), (1, .one (.int .i64 ((n + 1 : Nat) : Int))), (4, .one (.ptr 4 0)), (9, .one (.ptr 9 0)), (79, .one (.int .i64 ((ar : Nat) : Int))), (80, .one (.int .i64 ((0 : Nat) : Int)))] [(1000, .obj (Rd.c (readN (readT n) (0) rd).2)), (4, .obj [.int .i64 0, .int .i64 0, .int .i64 0, .nilsl, .int .i64 0, .nilsl, .nilsl]), (9, .obj [.int .i64 ((i : Nat) : Int), .int .i64 0, .int .i64 (Ty.k (ty)), slOf 2 (tyRows (Ty.l (ty))), .int .i64 0, .nilsl, .own 89 (0) (0)]), (89, .row 27 7 (0) (tmRows (readN (readT n) (0) rd).1))] [] [89] ⟨(WkU.of_eq rfl trivial), (WkU.of_eq rfl trivial), (WkU.of_eq rfl trivial), (WkU.of_eq rfl trivial), (WkU.of_eq rfl trivial), (WkU.of_eq rfl trivial), trivial⟩ ⟨(by exact Or.inl ⟨_, rfl, WkBlk.refl _⟩), (by exact Or.inl ⟨_, rfl, WkBlk.refl _⟩), (by (refine Or.inl ⟨_, rfl, ?_⟩; show All2 _ _ _; refine And.intro ?_ ?_; exact WkC.le (LeC.refl _); refine And.intro ?_ ?_; exact WkC.le (LeC.refl _); refine And.intro ?_ ?_; exact WkC.le (LeC.refl _); refine And.intro ?_ ?_; exact WkC.le (LeC.refl _); refine And.intro ?_ ?_; exact WkC.le (LeC.refl _); refine And.intro ?_ ?_; exact WkC.le (LeC.refl _); refine And.intro ?_ ?_; exact WkC.nil (List.mem_cons_self ..); exact trivial)), (by exact Or.inr ⟨rfl, List.mem_cons_self .., _, _, by decide, rfl⟩), trivial⟩ trivial ⟨rfl, trivial⟩ rfl rfl ⟨⟨_, rfl⟩, trivial, ⟨_, rfl⟩, ⟨_, rfl⟩, trivial, trivial, trivial⟩ ⟨(by refine And.intro ?_ ?_; exact trivial; refine And.intro ?_ ?_; exact trivial; exact trivial), (by refine And.intro ?_ ?_; exact trivial; refine And.intro ?_ ?_; exact trivial; refine And.intro ?_ ?_; exact trivial; refine And.intro ?_ ?_; exact trivial; refine And.intro ?_ ?_; exact trivial; refine And.intro ?_ ?_; exact trivial; refine And.intro ?_ ?_; exact trivial; exact trivial), (by refine And.intro ?_ ?_; exact trivial; refine And.intro ?_ ?_; exact trivial; refine And.intro ?_ ?_; exact trivial; refine And.intro ?_ ?_; exact trivial; refine And.intro ?_ ?_; exact trivial; refine And.intro ?_ ?_; exact trivial; refine And.intro ?_ ?_; exact ⟨_, _, _, _, rfl, Nat.le_refl _⟩; exact trivial), (okRows_closed (by exact rfl)), trivial⟩) ?_
      refine AW.loop (fun m t h => ∃ j : Nat, j ≤ ar ∧ m = ar - j ∧ t = tOfL [(0, .one (.ptr 1000 0)), (1, .one (.int .i64 ((n + 1 : Nat) : Int))), (4, .one (.ptr 4 0)), (9, .one (.ptr 9 0)), (79, .one (.int .i64 ((ar : Nat) : Int))), (80, .one (.int .i64 ((j : Nat) : Int)))] ∧ h = ofL [(1000, .obj (Rd.c (readN (readT n) (j) rd).2)), (4, .obj [.int .i64 0, .int .i64 0, .int .i64 0, .nilsl, .int .i64 0, .nilsl, .nilsl]), (9, .obj [.int .i64 ((i : Nat) : Int), .int .i64 0, .int .i64 (Ty.k (ty)), slOf 2 (tyRows (Ty.l (ty))), .int .i64 0, .nilsl, .own 89 (j) (j)]), (89, .row 27 7 (j) (tmRows (readN (readT n) (j) rd).1))]) ar ⟨0, Nat.zero_le _, rfl, rfl, rfl⟩ ?_
      rintro m t h ⟨j, hj, rfl, rfl, rfl⟩
      have htk : (tmRows (readN (readT n) j rd).1).length = j := by rw [tmRows_length, (readN_ok (readT_ok n) j rd).2.1]
      cases hlt2 : decide ((j : Int) < ((ar : Nat) : Int)) with
      | false =>
        have hja : j = ar := by have := of_decide_eq_false hlt2; omega
        subst hja
        refine AW.seq ?_; refine AW.region (by kernel_rfl) ?_; refine RunL.val (by exact rfl) (loc_binInt rfl rfl rfl) ?_; refine RunL.nil ?_; refine AW.seq ?_; refine AW.condFa (by exact rfl) (by assumption) ?_; refine AW.exit ?_; refine AW.seq ?_; refine AW.region (by kernel_rfl) ?_; refine RunL.val (by exact rfl) (loc_moveC rfl) ?_; refine RunL.val (by exact rfl) (loc_moveC rfl) ?_
        refine RunL.many (by exact rfl) (loc_funE (next_a ((readN (readT n) j rd).2)) rfl (by refine ⟨_, _, rfl, (by exact LeU.of_eq rfl trivial), (by exact Exists.intro _ rfl), ?_⟩; exact rfl) (by exact ⟨rfl, trivial⟩) (by exact rfl) (by simp [namesL]) (by exact ⟨⟨trivial, trivial, trivial⟩, trivial⟩)) ?_
        skip
        refine RunL.val (by exact rfl) (loc_neStr (b := sRp) (by exact rfl) (by exact rfl)) ?_
        cases hc : sEq (readN (readT n) j rd).2.next.1 sRp with
        | false =>
          refine RunL.val (by exact rfl) (loc_moveC rfl) ?_; refine RunL.skip (.inl ⟨_, _, rfl, rfl, rfl⟩) ?_; refine RunL.skip (.inl ⟨_, _, rfl, rfl, rfl⟩) ?_; refine RunL.skip (.inl ⟨_, _, rfl, rfl, rfl⟩) ?_; refine RunL.skip (.inl ⟨_, _, rfl, rfl, rfl⟩) ?_; refine RunL.val (by exact rfl) (loc_pickT rfl rfl) ?_; refine RunL.val (by exact rfl) (loc_nilCheck rfl rfl) ?_; refine RunL.val (by exact rfl) (loc_fieldAddr rfl) ?_; refine RunL.eff (by exact rfl) (loc_store (by exact rfl) (by exact rfl) (by exact rfl) (by exact rfl) (by exact rfl) (by exact Nat.le_of_ble_eq_true rfl) (by exact rfl)) ?_; refine RunL.nil ?_; refine AW.seq ?_; refine AW.region (by kernel_rfl) ?_; refine RunL.val (by exact rfl) (loc_loadA rfl rfl (by exact Cut.all (by exact rfl))) ?_; refine RunL.eff (by exact rfl) (loc_storeW rfl rfl rfl rfl (by exact rfl) (by exact rfl)) ?_; refine RunL.nil ?_; refine AW.ret ?_
          refine rq ?_
          exact ret_tm (fz := [89]) (by exact .inr rfl) (by exact rfl) (by exact rfl) (by exact ⟨⟨_, rfl, closed_tmRows _⟩, trivial⟩) rfl (by exact ⟨.le (.refl _), .le (.refl _), .le (.refl _), .le (.refl _), .le (.refl _), .le (.nil _), .row (List.mem_cons_self ..) rfl htk (LeRows.refl _), trivial⟩) (by exact rfl) (by unfold Rd.close; rw [hc]; exact wkRow_refl _)
        | true =>
          refine RunL.val (by exact rfl) (loc_moveC rfl) ?_; refine RunL.val (by exact .inl ⟨_, _, rfl, rfl, rfl⟩) (loc_moveC rfl) ?_; refine RunL.val (by exact .inl ⟨_, _, rfl, rfl, rfl⟩) (loc_nilCheck rfl rfl) ?_; refine RunL.val (by exact .inl ⟨_, _, rfl, rfl, rfl⟩) (loc_fieldAddr rfl) ?_; refine RunL.val (by exact .inl ⟨_, _, rfl, rfl, rfl⟩) (loc_load rfl rfl rfl) ?_; refine RunL.val (by exact rfl) (loc_pickF rfl rfl) ?_; refine RunL.val (by exact rfl) (loc_nilCheck rfl rfl) ?_; refine RunL.val (by exact rfl) (loc_fieldAddr rfl) ?_; refine RunL.eff (by exact rfl) (loc_store (by exact rfl) (by exact rfl) (by exact rfl) (by exact rfl) (by exact rfl) (by exact Nat.le_of_ble_eq_true rfl) (by exact rfl)) ?_; refine RunL.nil ?_; refine AW.seq ?_; refine AW.region (by kernel_rfl) ?_; refine RunL.val (by exact rfl) (loc_loadA rfl rfl (by exact Cut.all (by exact rfl))) ?_; refine RunL.eff (by exact rfl) (loc_storeW rfl rfl rfl rfl (by exact rfl) (by exact rfl)) ?_; refine RunL.nil ?_; refine AW.ret ?_
          refine rq ?_
          exact ret_tm (fz := [89]) (by exact .inr rfl) (by exact rfl) (by exact rfl) (by exact ⟨⟨_, rfl, closed_tmRows _⟩, trivial⟩) rfl (by exact ⟨.le (.refl _), .le (.refl _), .le (.refl _), .le (.refl _), .le (.refl _), .le (.nil _), .row (List.mem_cons_self ..) rfl htk (LeRows.refl _), trivial⟩) (by exact rfl) (by unfold Rd.close; rw [hc]; exact wkRow_refl _)
      | true =>
        have hja : j < ar := by have := of_decide_eq_true hlt2; omega
        have hsn := readN_snoc (readT n) j rd
        refine AW.seq ?_; refine AW.region (by kernel_rfl) ?_; refine RunL.val (by exact rfl) (loc_binInt rfl rfl rfl) ?_; refine RunL.nil ?_; refine AW.seq ?_; refine AW.condTa (by exact rfl) (by assumption) ?_; refine AW.skip ?_; refine AW.seq ?_; refine AW.block ?_; refine AW.regionD (by kernel_rfl) (by kernel_rfl) (by kernel_rfl) ?_; refine RunL.val (by exact rfl) (loc_fieldAddr rfl) ?_; refine RunL.val (by exact rfl) (loc_load rfl rfl rfl) ?_; refine RunL.val (by exact rfl) (loc_moveC rfl) ?_; refine RunL.val (by exact rfl) (loc_moveC rfl) ?_; refine RunL.val (by exact rfl) (loc_subB rfl rfl (by omega)) ?_
        refine RunL.many (by exact rfl) (loc_funE (ih2 (readN (readT n) j rd).2 (readN_okR (readT_okR n) j rd hrd)) rfl (by refine ⟨_, _, rfl, (by exact LeU.of_eq rfl trivial), (by exact Exists.intro _ rfl), ?_⟩; refine ⟨_, _, rfl, (by exact LeU.of_eq rfl trivial), (by exact trivial), ?_⟩; exact rfl) (by exact ⟨rfl, trivial⟩) (by exact rfl) (by simp [namesL]) (by exact ⟨⟨trivial, trivial, trivial⟩, trivial⟩)) ?_
        refine RunL.val (by exact rfl) (loc_sliceLit (by exact rfl) (by exact rfl) (by decide) (by decide) (by exact RowsOf.cons (by exact rfl) RowsOf.nil) (by exact AllP.cons (by exact rfl) AllP.nil) (by exact rfl)) ?_
        refine RunL.mem (by exact rfl) (loc_appendAll (by exact rfl) (by exact rfl) (by exact rfl) (by exact .inl rfl) (by exact htk) (by exact ⟨rfl, trivial⟩) (by simp only [List.length_cons, List.length_nil]; omega) (by decide)) ?_
        have hrows : tmRows (readN (readT n) j rd).1 ++ [(readT n (readN (readT n) j rd).2).1.c] = tmRows (readN (readT n) (j + 1) rd).1 := by
          rw [hsn, tmRows_append]; simp [tmRows, Tm.cells_c]
        have he : (readT n (readN (readT n) j rd).2).2 = (readN (readT n) (j + 1) rd).2 := by rw [hsn]
        rw [hrows, he]
        refine RunL.val (by exact rfl) (loc_fieldAddr rfl) ?_; refine RunL.eff (by exact rfl) (loc_store (by exact rfl) (by exact rfl) (by exact rfl) (by exact rfl) (by exact rfl) (by exact Nat.le_of_ble_eq_true rfl) (by exact rfl)) ?_; refine RunL.nilD (by kernel_rfl) ?_; refine AW.region (by kernel_rfl) ?_; refine RunL.val (by exact rfl) (loc_inc rfl rfl (by omega)) ?_; refine RunL.val (by exact rfl) (loc_moveC rfl) ?_; refine RunL.nil ?_
        exact ⟨ar - (j + 1), _, _, by omega, (gh_lit [(0, .one (.ptr 1000 0)), (1, .one (.int .i64 ((n + 1 : Nat) : Int))), (4, .one (.ptr 4 0)), (9, .one (.ptr 9 0)), (79, .one (.int .i64 ((ar : Nat) : Int))), (80, .one (.int .i64 (((j + 1) : Nat) : Int)))] [(1000, .obj (Rd.c (readN (readT n) ((j + 1)) rd).2)), (4, .obj [.int .i64 0, .int .i64 0, .int .i64 0, .nilsl, .int .i64 0, .nilsl, .nilsl]), (9, .obj [.int .i64 ((i : Nat) : Int), .int .i64 0, .int .i64 (Ty.k (ty)), slOf 2 (tyRows (Ty.l (ty))), .int .i64 0, .nilsl, .own 89 ((j + 1)) ((j + 1))]), (89, .row 27 7 ((j + 1)) (tmRows (readN (readT n) ((j + 1)) rd).1))] [] [] ⟨(WkU.of_eq rfl trivial), (WkU.of_eq rfl trivial), (WkU.of_eq rfl trivial), (WkU.of_eq rfl trivial), (WkU.of_eq rfl trivial), (WkU.of_eq rfl trivial), trivial⟩ ⟨(by exact Or.inl ⟨_, rfl, WkBlk.refl _⟩), (by exact Or.inl ⟨_, rfl, WkBlk.refl _⟩), (by exact Or.inl ⟨_, rfl, WkBlk.refl _⟩), (by exact Or.inl ⟨_, rfl, WkBlk.refl _⟩), trivial⟩ trivial trivial rfl rfl ⟨⟨_, rfl⟩, trivial, ⟨_, rfl⟩, ⟨_, rfl⟩, trivial, trivial, trivial⟩ ⟨(by refine And.intro ?_ ?_; exact trivial; refine And.intro ?_ ?_; exact trivial; exact trivial), (by refine And.intro ?_ ?_; exact trivial; refine And.intro ?_ ?_; exact trivial; refine And.intro ?_ ?_; exact trivial; refine And.intro ?_ ?_; exact trivial; refine And.intro ?_ ?_; exact trivial; refine And.intro ?_ ?_; exact trivial; refine And.intro ?_ ?_; exact trivial; exact trivial), (by refine And.intro ?_ ?_; exact trivial; refine And.intro ?_ ?_; exact trivial; refine And.intro ?_ ?_; exact trivial; refine And.intro ?_ ?_; exact trivial; refine And.intro ?_ ?_; exact trivial; refine And.intro ?_ ?_; exact trivial; refine And.intro ?_ ?_; exact ⟨_, _, _, _, rfl, Nat.le_refl _⟩; exact trivial), (okRows_closed (by exact closed_tmRows _)), trivial⟩), j + 1, by omega, rfl, rfl, rfl⟩
end Go.Proofs.YtnflnbdlgdjfmabDoor
namespace Go.Proofs.YtnflnbdlgdjfmabDoor
open Go.RowKit
set_option linter.unusedVariables false
set_option linter.unusedSimpArgs false
set_option maxRecDepth 100000
attribute [local irreducible] RunL AW LocOp ACalls Gh
theorem replaceK_len (old new : List UInt8) : ∀ (k : Nat) (s : List UInt8), (Lib.replaceK old new k s).length ≤ s.length + k * new.length
  | 0, s => by simp [Lib.replaceK]
  | k + 1, s => by
    simp only [Lib.replaceK]
    split
    · exact Nat.le_add_right _ _
    · have := replaceK_len old new k (s.drop ((Lib.index s old).toNat + old.length))
      simp only [List.length_append, List.length_take, List.length_drop] at this ⊢
      rw [Nat.succ_mul]
      omega
theorem replaceS_size (s old new : ByteArray) (h1 : 1 ≤ old.size) : (replaceS s old new).size ≤ s.size + s.size * new.size := by
  have hc : Lib.count s.data.toList old.data.toList ≤ s.size := Lib.countB_le old h1 s.size s (Nat.le_refl _)
  have hl : s.data.toList.length = s.size := Array.length_toList
  have hn : new.data.toList.length = new.size := Array.length_toList
  show (Lib.replaceAll s.data.toList old.data.toList new.data.toList).toArray.size ≤ _
  rw [List.size_toArray]
  unfold Lib.replaceAll Lib.replace
  split
  · omega
  · refine Nat.le_trans (replaceK_len _ _ _ _) ?_
    have h2 : Lib.replaceNum s.data.toList old.data.toList (-1) = Lib.count s.data.toList old.data.toList := by unfold Lib.replaceNum; rw [if_pos (.inl (by decide))]
    rw [h2, hl, hn]
    exact Nat.add_le_add_left (Nat.mul_le_mul_right _ hc) _
theorem spans_len (p : Nat → Bool) (s : ByteArray) : ∀ (f pos : Nat) (st : Option Nat) (acc : List (Nat × Nat)), (Lib.spansFromP p s f pos st acc).1.length ≤ acc.length + f
  | 0, _, _, acc => by simp [Lib.spansFromP]
  | f + 1, pos, st, acc => by
    simp only [Lib.spansFromP]
    split
    · split
      · split
        · rename_i a
          have := spans_len p s f (pos + (Utf8.decode s pos).2) none (acc ++ [(a, pos)]); simp at this; omega
        · have := spans_len p s f (pos + (Utf8.decode s pos).2) none acc; omega
      · split
        · rename_i a
          have := spans_len p s f (pos + (Utf8.decode s pos).2) (some a) acc; omega
        · have := spans_len p s f (pos + (Utf8.decode s pos).2) (some pos) acc; omega
    · simp
theorem fields_len (p : Nat → Bool) (s : ByteArray) : (Lib.goFieldsP p s).length ≤ s.size + 1 ∧ ∀ w ∈ Lib.goFieldsP p s, w.size ≤ s.size := by
  constructor
  · unfold Lib.goFieldsP Lib.spansOfP Lib.closeSpans
    have := spans_len p s s.size 0 none []
    rw [List.length_map]
    split
    · simp at this ⊢; omega
    · simp at this; omega
  · intro w hw
    unfold Lib.goFieldsP at hw
    obtain ⟨x, _, rfl⟩ := List.mem_map.1 hw
    rw [ByteArray.size_extract]; omega
def isGap (x : Nat) : Bool := x == 32 || x == 10
theorem gap_a (x : Nat) : ACalls Tryd.prog 30 [.one (.int .i32 x)] [] (.one (.bool (isGap x))) [] := by
  have e1 : ((x : Int) == 32) = (x == 32) := by rw [Bool.eq_iff_iff]; simp; omega
  have e2 : ((x : Int) == 10) = (x == 10) := by rw [Bool.eq_iff_iff]; simp; omega
  refine acalls_of_body Tryd.func30 rfl (by kernel_rfl) (Nat.le_of_ble_eq_true rfl) trivial (by simp [namesL]) ?_
  unfold isGap
  cases h1 : (x == 32) with
  | true =>
    have h1' : ((x : Int) == 32) = true := e1.trans h1
    refine AW.seq ?_; refine AW.region (by kernel_rfl) ?_; refine RunL.val (by exact rfl) (loc_assignC rfl) ?_; refine RunL.nil ?_; refine AW.seq ?_; refine AW.region (by kernel_rfl) ?_; refine RunL.val (by exact rfl) (loc_moveC rfl) ?_; refine RunL.val (by exact rfl) (loc_binInt rfl rfl rfl) ?_; refine RunL.val (by exact rfl) (loc_moveC rfl) ?_; refine RunL.skip (.inl ⟨_, _, rfl, rfl, guard_eq true (by assumption) rfl⟩) ?_; refine RunL.skip (.inl ⟨_, _, rfl, rfl, guard_eq true (by assumption) rfl⟩) ?_; refine RunL.val (by exact rfl) (loc_pickI true (by assumption) rfl rfl) ?_; refine RunL.val (by exact rfl) (loc_assignC rfl) ?_; refine RunL.nil ?_; refine AW.ret ?_
    refine rq ?_
    exact ret_same (by exact .inr rfl) (by exact rfl) trivial
  | false =>
    have h1' : ((x : Int) == 32) = false := e1.trans h1
    cases h2 : (x == 10) with
    | true =>
      have h2' : ((x : Int) == 10) = true := e2.trans h2
      refine AW.seq ?_; refine AW.region (by kernel_rfl) ?_; refine RunL.val (by exact rfl) (loc_assignC rfl) ?_; refine RunL.nil ?_; refine AW.seq ?_; refine AW.region (by kernel_rfl) ?_; refine RunL.val (by exact rfl) (loc_moveC rfl) ?_; refine RunL.val (by exact rfl) (loc_binInt rfl rfl rfl) ?_; refine RunL.val (by exact rfl) (loc_moveC rfl) ?_; refine RunL.val (by exact .inl ⟨_, _, rfl, rfl, guard_eq false (by assumption) rfl⟩) (loc_moveC rfl) ?_; refine RunL.val (by exact .inl ⟨_, _, rfl, rfl, guard_eq false (by assumption) rfl⟩) (loc_binInt rfl rfl rfl) ?_; refine RunL.val (by exact rfl) (loc_pickI false (by assumption) rfl rfl) ?_; refine RunL.val (by exact rfl) (loc_assignC rfl) ?_; refine RunL.nil ?_; refine AW.ret ?_
      rw [h2']
      refine rq ?_
      exact ret_same (by exact .inr rfl) (by exact rfl) trivial
    | false =>
      have h2' : ((x : Int) == 10) = false := e2.trans h2
      refine AW.seq ?_; refine AW.region (by kernel_rfl) ?_; refine RunL.val (by exact rfl) (loc_assignC rfl) ?_; refine RunL.nil ?_; refine AW.seq ?_; refine AW.region (by kernel_rfl) ?_; refine RunL.val (by exact rfl) (loc_moveC rfl) ?_; refine RunL.val (by exact rfl) (loc_binInt rfl rfl rfl) ?_; refine RunL.val (by exact rfl) (loc_moveC rfl) ?_; refine RunL.val (by exact .inl ⟨_, _, rfl, rfl, guard_eq false (by assumption) rfl⟩) (loc_moveC rfl) ?_; refine RunL.val (by exact .inl ⟨_, _, rfl, rfl, guard_eq false (by assumption) rfl⟩) (loc_binInt rfl rfl rfl) ?_; refine RunL.val (by exact rfl) (loc_pickI false (by assumption) rfl rfl) ?_; refine RunL.val (by exact rfl) (loc_assignC rfl) ?_; refine RunL.nil ?_; refine AW.ret ?_
      rw [h2']
      refine rq ?_
      exact ret_same (by exact .inr rfl) (by exact rfl) trivial
theorem gap_enter (args : Array Value) (w : World) : (callFunc 30 args).run Tryd.prog w = .ok (.enter 30 args) w := by
  have hb : ∃ c, Tryd.f30.body = some c := ⟨_, rfl⟩
  obtain ⟨c, hb⟩ := hb
  have h1 : Tryd.f30.name ≠ "runtime.NumGoroutine" := by
    have : (Tryd.f30.name == "runtime.NumGoroutine") = false := by kernel_rfl
    simpa using this
  simp [callFunc, Tryd.func30, h1, hb]
/-- A text's words: not many, not long. -/
theorem words_ok {s : ByteArray} (h : ¬ 1000 < s.size) : RdOk ⟨wordsOf s, false⟩ ∧ (wordsOf s).length ≤ 20000 := by
  have h1 := replaceS_size s sLp ⟨#[32, 40, 32]⟩ (by decide)
  have h2 := replaceS_size (replaceS s sLp ⟨#[32, 40, 32]⟩) sRp ⟨#[32, 41, 32]⟩ (by decide)
  have e1 : (⟨#[32, 40, 32]⟩ : ByteArray).size = 3 := rfl
  have e2 : (⟨#[32, 41, 32]⟩ : ByteArray).size = 3 := rfl
  rw [e1] at h1
  rw [e2] at h2
  obtain ⟨h3, h4⟩ := fields_len isGap (replaceS (replaceS s sLp ⟨#[32, 40, 32]⟩) sRp ⟨#[32, 41, 32]⟩)
  refine ⟨fun w hw => ?_, ?_⟩
  · have := h4 w hw; omega
  · show (Lib.goFieldsP isGap _).length ≤ _; omega
theorem parse_ok (s : ByteArray) : TmOk (parse s).1 ∧ ((parse s).1.nodes : Int) ≤ 1048576 := by
  unfold parse
  split
  · exact ⟨zero_ok, by decide⟩
  · rename_i h
    simp only
    split
    · exact ⟨zero_ok, by decide⟩
    · rename_i hc
      obtain ⟨h1, h2⟩ := readT_ok 40 ⟨wordsOf s, false⟩
      obtain ⟨_, hw⟩ := words_ok h
      refine ⟨h1, ?_⟩
      simp only [Bool.or_eq_true, not_or, Bool.not_eq_true] at hc
      have := (h2 hc.1.1).1
      simp only at this ⊢
      omega
/-- What Parse answers. -/
def parseU (s : ByteArray) : U := .tup [(parse s).1.u, .one (.int .i64 (parse s).2)]
theorem ret_pe {P : Program} {x z : Tmp} {tx : TypeId} {bx : Nat} {k : List C} {a : Tm} {n : Int} {e : Exit} {t : Nat → U} {h : Nat → Option Blk} [T : TAgg P tx 7] (he : e = .normal ∨ e = .ret) (hx : t x = .one (.ptr bx 0)) (hbx : h bx = some (.obj k)) (hk : All2 (WkC h [] []) k a.c) (hz : t z = .one (.int .i64 n)) : RetQ P #[.cell x tx, .tmp z] (.tup [a.u, .one (.int .i64 n)]) [] e t h :=
  ret_ct (O' := []) he hx hbx hk.length hz [] trivial hk (.le (.refl _)) trivial rfl ⟨⟨trivial, trivial, trivial, trivial, trivial, trivial, trivial, trivial⟩, trivial, trivial⟩ trivial rfl
set_option maxHeartbeats 8000000 in
theorem parse_a (s : ByteArray) : ACalls Tryd.prog 10 [.one (.str s)] [] (parseU s) [] := by
  refine acalls_of_body Tryd.func10 rfl (by kernel_rfl) (Nat.le_of_ble_eq_true rfl) trivial (by simp [namesL]) ?_
  unfold parseU
  cases hlen : decide ((s.size : Int) > 1000) with
  | true =>
    have h1 : 1000 < s.size := by have := of_decide_eq_true hlen; omega
    rw [show parse s = (Tm.zero, 4) by unfold parse; rw [if_pos h1]]
    refine AW.seq ?_; refine AW.region (by kernel_rfl) ?_; refine RunL.mem (by exact rfl) (loc_allocD rfl rfl) ?_; refine RunL.val (by exact rfl) (loc_assignC rfl) ?_; refine RunL.nil ?_; refine AW.seq ?_; refine AW.seq ?_; refine AW.region (by kernel_rfl) ?_; refine RunL.val (by exact rfl) (loc_moveC rfl) ?_; refine RunL.val (by exact rfl) (loc_lenStr rfl) ?_; refine RunL.val (by exact rfl) (loc_binInt rfl rfl rfl) ?_; refine RunL.nil ?_; refine AW.condTa (by exact rfl) (by assumption) ?_; refine AW.seq ?_; refine AW.region (by kernel_rfl) ?_; refine RunL.val (by exact rfl) (loc_build (by exact rfl) (by exact Cut.all (by exact rfl)) (by exact rfl)) ?_; refine RunL.eff (by exact rfl) (loc_storeW rfl rfl rfl rfl (by exact rfl) (by exact rfl)) ?_; refine RunL.val (by exact rfl) (loc_assignC rfl) ?_; refine RunL.nil ?_; refine AW.ret ?_
    refine rq ?_
    exact ret_pe (by exact .inr rfl) (by exact rfl) (by exact rfl) tleaf (by exact rfl)
  | false =>
    have h1 : ¬ 1000 < s.size := by have := of_decide_eq_false hlen; omega
    have z1 := replaceS_size s sLp ⟨#[32, 40, 32]⟩ (by decide)
    have z2 := replaceS_size (replaceS s sLp ⟨#[32, 40, 32]⟩) sRp ⟨#[32, 41, 32]⟩ (by decide)
    have e1 : (⟨#[32, 40, 32]⟩ : ByteArray).size = 3 := rfl
    have e2 : (⟨#[32, 41, 32]⟩ : ByteArray).size = 3 := rfl
    rw [e1] at z1
    rw [e2] at z2
    have c1 : Lib.countB s sLp ≤ s.size := Lib.countB_le sLp (by decide) s.size s (Nat.le_refl _)
    have c2 : Lib.countB (replaceS s sLp ⟨#[32, 40, 32]⟩) sRp ≤ (replaceS s sLp ⟨#[32, 40, 32]⟩).size := Lib.countB_le sRp (by decide) _ _ (Nat.le_refl _)
    obtain ⟨hrd, hwl⟩ := words_ok h1
    have hro := readT_ok 40 ⟨wordsOf s, false⟩
    generalize hp : readT 40 ⟨wordsOf s, false⟩ = p at hro
    have hparse : parse s = if p.2.bad || decide (0 < p.2.ws.length) || !p.1.Good 0 then (Tm.zero, 1) else (p.1, 0) := by unfold parse; rw [if_neg h1, hp]
    have hterm := term_a 40 (Nat.le_refl _) ⟨wordsOf s, false⟩ hrd
    rw [hp] at hterm
    refine AW.seq ?_; refine AW.region (by kernel_rfl) ?_; refine RunL.mem (by exact rfl) (loc_allocD rfl rfl) ?_; refine RunL.val (by exact rfl) (loc_assignC rfl) ?_; refine RunL.nil ?_; refine AW.seq ?_; refine AW.seq ?_; refine AW.region (by kernel_rfl) ?_; refine RunL.val (by exact rfl) (loc_moveC rfl) ?_; refine RunL.val (by exact rfl) (loc_lenStr rfl) ?_; refine RunL.val (by exact rfl) (loc_binInt rfl rfl rfl) ?_; refine RunL.nil ?_; refine AW.condFa (by exact rfl) (by assumption) ?_; refine AW.skip ?_; refine AW.seq ?_; refine AW.region (by kernel_rfl) ?_; refine RunL.val (by exact rfl) (loc_moveC rfl) ?_
    refine RunL.val (by exact rfl) (loc_fun (replaceAll_a s sLp ⟨#[32, 40, 32]⟩ (by omega) (by decide) (by rw [e1]; omega)) rfl (by refine ⟨_, _, rfl, (by exact LeU.of_eq rfl trivial), (by exact trivial), ?_⟩; refine ⟨_, _, rfl, (by exact LeU.of_eq rfl trivial), (by exact trivial), ?_⟩; refine ⟨_, _, rfl, (by exact LeU.of_eq rfl trivial), (by exact trivial), ?_⟩; exact rfl)) ?_
    skip
    refine RunL.val (by exact rfl) (loc_fun (replaceAll_a (replaceS s sLp ⟨#[32, 40, 32]⟩) sRp ⟨#[32, 41, 32]⟩ (by omega) (by decide) (by rw [e2]; omega)) rfl (by refine ⟨_, _, rfl, (by exact LeU.of_eq rfl trivial), (by exact trivial), ?_⟩; refine ⟨_, _, rfl, (by exact LeU.of_eq rfl trivial), (by exact trivial), ?_⟩; refine ⟨_, _, rfl, (by exact LeU.of_eq rfl trivial), (by exact trivial), ?_⟩; exact rfl)) ?_
    refine RunL.val (by exact rfl) (loc_assignC rfl) ?_; refine RunL.nil ?_; refine AW.seq ?_; refine AW.region (by kernel_rfl) ?_; refine RunL.val (by exact rfl) (loc_moveC rfl) ?_
    refine RunL.val (by exact rfl) (loc_fun (fields_a 30 isGap (replaceS (replaceS s sLp ⟨#[32, 40, 32]⟩) sRp ⟨#[32, 41, 32]⟩) (by omega) (by kernel_rfl) gap_enter (fun x _ => gap_a x)) rfl (by refine ⟨_, _, rfl, (by exact LeU.of_eq rfl trivial), (by exact trivial), ?_⟩; refine ⟨_, _, rfl, (by exact LeU.of_eq rfl trivial), (by exact trivial), ?_⟩; exact rfl)) ?_
    refine RunL.val (by exact rfl) (loc_build (by exact rfl) (by exact Cut.all (by exact rfl)) (by exact rfl)) ?_
    refine RunL.mem (by exact rfl) (loc_box 1000 (by exact rfl) (by exact rfl) (by exact rfl) (by exact rfl)) ?_
    refine RunL.val (by exact rfl) (loc_assignC rfl) ?_; refine RunL.nil ?_
    refine AW.gh (gh_lit [(2, .one (.ptr 2 0)), (3, .one (.int .i64 0)), (4, .one (.ptr 1000 0))] [(1000, .obj (Rd.c ⟨wordsOf s, false⟩)), (2, .obj [.int .i64 0, .int .i64 0, .int .i64 0, .nilsl, .int .i64 0, .nilsl, .nilsl])] [] [] ⟨(WkU.of_eq rfl trivial), (WkU.of_eq rfl trivial), (WkU.of_eq rfl trivial), trivial⟩ ⟨(by (refine Or.inl ⟨_, rfl, ?_⟩; show All2 _ _ _; refine And.intro ?_ ?_; exact WkC.le (LeC.slF (LeRows.refl _)); refine And.intro ?_ ?_; exact WkC.le (LeC.refl _); exact trivial)), (by exact Or.inl ⟨_, rfl, WkBlk.refl _⟩), trivial⟩ trivial trivial rfl rfl ⟨⟨_, rfl⟩, trivial, ⟨_, rfl⟩, trivial⟩ ⟨(by refine And.intro ?_ ?_; exact trivial; refine And.intro ?_ ?_; exact trivial; exact trivial), (by refine And.intro ?_ ?_; exact trivial; refine And.intro ?_ ?_; exact trivial; refine And.intro ?_ ?_; exact trivial; refine And.intro ?_ ?_; exact trivial; refine And.intro ?_ ?_; exact trivial; refine And.intro ?_ ?_; exact trivial; refine And.intro ?_ ?_; exact trivial; exact trivial), trivial⟩) ?_
    refine AW.seq ?_; refine AW.region (by kernel_rfl) ?_; refine RunL.val (by exact rfl) (loc_moveC rfl) ?_
    refine RunL.many (by exact rfl) (loc_funE hterm rfl (by refine ⟨_, _, rfl, (by exact LeU.of_eq rfl trivial), (by exact Exists.intro _ rfl), ?_⟩; refine ⟨_, _, rfl, (by exact LeU.of_eq rfl trivial), (by exact trivial), ?_⟩; exact rfl) (by exact ⟨rfl, trivial⟩) (by exact rfl) (by simp [namesL]) (by exact ⟨⟨trivial, trivial, trivial⟩, trivial⟩)) ?_
    rw [hparse]
    cases hb : p.2.bad with
    | true =>
      rw [if_pos (by rfl)]
      refine RunL.mem (by exact rfl) (loc_allocD rfl rfl) ?_; refine RunL.eff (by exact rfl) (loc_storeW rfl rfl rfl rfl (by exact rfl) (by exact rfl)) ?_; refine RunL.nil ?_; refine AW.seq ?_; refine AW.seq ?_; refine AW.region (by kernel_rfl) ?_; refine RunL.val (by exact rfl) (loc_moveC rfl) ?_; refine RunL.val (by exact rfl) (loc_nilCheck rfl rfl) ?_; refine RunL.val (by exact rfl) (loc_fieldAddr rfl) ?_; refine RunL.val (by exact rfl) (loc_load rfl rfl rfl) ?_; refine RunL.val (by exact rfl) (loc_moveC rfl) ?_; refine RunL.skip (.inl ⟨_, _, rfl, rfl, guard_eq true (by assumption) rfl⟩) ?_; refine RunL.skip (.inl ⟨_, _, rfl, rfl, guard_eq true (by assumption) rfl⟩) ?_; refine RunL.skip (.inl ⟨_, _, rfl, rfl, guard_eq true (by assumption) rfl⟩) ?_; refine RunL.skip (.inl ⟨_, _, rfl, rfl, guard_eq true (by assumption) rfl⟩) ?_; refine RunL.skip (.inl ⟨_, _, rfl, rfl, guard_eq true (by assumption) rfl⟩) ?_; refine RunL.skip (.inl ⟨_, _, rfl, rfl, guard_eq true (by assumption) rfl⟩) ?_; refine RunL.val (by exact rfl) (loc_pickI true (by assumption) rfl rfl) ?_; refine RunL.val (by exact rfl) (loc_moveC rfl) ?_; refine RunL.skip (.inl ⟨_, _, rfl, rfl, rfl⟩) ?_; refine RunL.skip (.inl ⟨_, _, rfl, rfl, rfl⟩) ?_; refine RunL.skip (.inl ⟨_, _, rfl, rfl, rfl⟩) ?_; refine RunL.val (by exact rfl) (loc_pickT rfl rfl) ?_; refine RunL.nil ?_; refine AW.condT (by exact rfl) ?_; refine AW.seq ?_; refine AW.region (by kernel_rfl) ?_; refine RunL.val (by exact rfl) (loc_build (by exact rfl) (by exact Cut.all (by exact rfl)) (by exact rfl)) ?_; refine RunL.eff (by exact rfl) (loc_storeW rfl rfl rfl rfl (by exact rfl) (by exact rfl)) ?_; refine RunL.val (by exact rfl) (loc_assignC rfl) ?_; refine RunL.nil ?_; refine AW.ret ?_
      refine rq ?_
      exact ret_pe (by exact .inr rfl) (by exact rfl) (by exact rfl) tleaf (by exact rfl)
    | false =>
    cases hw : decide (0 < p.2.ws.length) with
    | true =>
      have hw' : decide ((((strRows p.2.ws).length : Nat) : Int) > 0) = true := by have := of_decide_eq_true hw; exact decide_eq_true (by simp only [strRows, List.length_map]; omega)
      rw [if_pos (by rfl)]
      refine RunL.mem (by exact rfl) (loc_allocD rfl rfl) ?_; refine RunL.eff (by exact rfl) (loc_storeW rfl rfl rfl rfl (by exact rfl) (by exact rfl)) ?_; refine RunL.nil ?_; refine AW.seq ?_; refine AW.seq ?_; refine AW.region (by kernel_rfl) ?_; refine RunL.val (by exact rfl) (loc_moveC rfl) ?_; refine RunL.val (by exact rfl) (loc_nilCheck rfl rfl) ?_; refine RunL.val (by exact rfl) (loc_fieldAddr rfl) ?_; refine RunL.val (by exact rfl) (loc_load rfl rfl rfl) ?_; refine RunL.val (by exact rfl) (loc_moveC rfl) ?_; refine RunL.val (by exact .inl ⟨_, _, rfl, rfl, guard_eq false (by assumption) rfl⟩) (loc_moveC rfl) ?_; refine RunL.val (by exact .inl ⟨_, _, rfl, rfl, guard_eq false (by assumption) rfl⟩) (loc_nilCheck rfl rfl) ?_; refine RunL.val (by exact .inl ⟨_, _, rfl, rfl, guard_eq false (by assumption) rfl⟩) (loc_fieldAddr rfl) ?_; refine RunL.val (by exact .inl ⟨_, _, rfl, rfl, guard_eq false (by assumption) rfl⟩) (loc_load rfl rfl rfl) ?_; refine RunL.val (by exact .inl ⟨_, _, rfl, rfl, guard_eq false (by assumption) rfl⟩) (loc_lenSl rfl) ?_; refine RunL.val (by exact .inl ⟨_, _, rfl, rfl, guard_eq false (by assumption) rfl⟩) (loc_binInt rfl rfl rfl) ?_; refine RunL.val (by exact rfl) (loc_pickI false (by assumption) rfl rfl) ?_; refine RunL.val (by exact rfl) (loc_moveC rfl) ?_; refine RunL.skip (.inl ⟨_, _, rfl, rfl, guard_eq true (by assumption) rfl⟩) ?_; refine RunL.skip (.inl ⟨_, _, rfl, rfl, guard_eq true (by assumption) rfl⟩) ?_; refine RunL.skip (.inl ⟨_, _, rfl, rfl, guard_eq true (by assumption) rfl⟩) ?_; refine RunL.val (by exact rfl) (loc_pickI true (by assumption) rfl rfl) ?_; refine RunL.nil ?_; refine AW.condT (by exact rfl) ?_; refine AW.seq ?_; refine AW.region (by kernel_rfl) ?_; refine RunL.val (by exact rfl) (loc_build (by exact rfl) (by exact Cut.all (by exact rfl)) (by exact rfl)) ?_; refine RunL.eff (by exact rfl) (loc_storeW rfl rfl rfl rfl (by exact rfl) (by exact rfl)) ?_; refine RunL.val (by exact rfl) (loc_assignC rfl) ?_; refine RunL.nil ?_; refine AW.ret ?_
      refine rq ?_
      exact ret_pe (by exact .inr rfl) (by exact rfl) (by exact rfl) tleaf (by exact rfl)
    | false =>
      have hw' : decide ((((strRows p.2.ws).length : Nat) : Int) > 0) = false := by have := of_decide_eq_false hw; exact decide_eq_false (by simp only [strRows, List.length_map]; omega)
      have hn : p.1.nodes ≤ 1048576 := by have := (hro.2 hb).1; simp only at this; omega
      refine RunL.mem (by exact rfl) (loc_allocD rfl rfl) ?_; refine RunL.eff (by exact rfl) (loc_storeW rfl rfl rfl rfl (by exact rfl) (by exact rfl)) ?_; refine RunL.nil ?_; refine AW.seq ?_; refine AW.seq ?_; refine AW.region (by kernel_rfl) ?_; refine RunL.val (by exact rfl) (loc_moveC rfl) ?_; refine RunL.val (by exact rfl) (loc_nilCheck rfl rfl) ?_; refine RunL.val (by exact rfl) (loc_fieldAddr rfl) ?_; refine RunL.val (by exact rfl) (loc_load rfl rfl rfl) ?_; refine RunL.val (by exact rfl) (loc_moveC rfl) ?_; refine RunL.val (by exact .inl ⟨_, _, rfl, rfl, guard_eq false (by assumption) rfl⟩) (loc_moveC rfl) ?_; refine RunL.val (by exact .inl ⟨_, _, rfl, rfl, guard_eq false (by assumption) rfl⟩) (loc_nilCheck rfl rfl) ?_; refine RunL.val (by exact .inl ⟨_, _, rfl, rfl, guard_eq false (by assumption) rfl⟩) (loc_fieldAddr rfl) ?_; refine RunL.val (by exact .inl ⟨_, _, rfl, rfl, guard_eq false (by assumption) rfl⟩) (loc_load rfl rfl rfl) ?_; refine RunL.val (by exact .inl ⟨_, _, rfl, rfl, guard_eq false (by assumption) rfl⟩) (loc_lenSl rfl) ?_; refine RunL.val (by exact .inl ⟨_, _, rfl, rfl, guard_eq false (by assumption) rfl⟩) (loc_binInt rfl rfl rfl) ?_; refine RunL.val (by exact rfl) (loc_pickI false (by assumption) rfl rfl) ?_; refine RunL.val (by exact rfl) (loc_moveC rfl) ?_; refine RunL.val (by exact .inl ⟨_, _, rfl, rfl, guard_eq false (by assumption) rfl⟩) (loc_loadA rfl rfl (by exact Cut.all (by exact rfl))) ?_
      refine RunL.val (by exact .inl ⟨_, _, rfl, rfl, guard_eq false (by assumption) rfl⟩) (loc_fun (tGood_a p.1 0 hro.1 hn) rfl (by refine ⟨_, _, rfl, (by exact LeU.of_eq rfl trivial), (by (refine And.intro ?_ ?_; exact trivial; refine And.intro ?_ ?_; exact trivial; refine And.intro ?_ ?_; exact trivial; refine And.intro ?_ ?_; exact trivial; refine And.intro ?_ ?_; exact trivial; refine And.intro ?_ ?_; exact trivial; refine And.intro ?_ ?_; exact trivial; exact trivial; done)), ?_⟩; refine ⟨_, _, rfl, (by exact LeU.of_eq rfl trivial), (by exact trivial), ?_⟩; exact rfl)) ?_
      cases hg : p.1.Good 0 with
      | true =>
        rw [if_neg (by decide)]
        refine RunL.val (by exact .inl ⟨_, _, rfl, rfl, guard_eq false (by assumption) rfl⟩) (loc_not rfl) ?_; refine RunL.val (by exact rfl) (loc_pickI false (by assumption) rfl rfl) ?_; refine RunL.nil ?_; refine AW.condF (by exact rfl) ?_; refine AW.skip ?_; refine AW.seq ?_; refine AW.region (by kernel_rfl) ?_; refine RunL.val (by exact rfl) (loc_loadA rfl rfl (by exact Cut.all (by exact rfl))) ?_; refine RunL.eff (by exact rfl) (loc_storeW rfl rfl rfl rfl (by exact rfl) (by exact rfl)) ?_; refine RunL.val (by exact rfl) (loc_assignC rfl) ?_; refine RunL.nil ?_; refine AW.ret ?_
        refine rq ?_
        exact ret_pe (by exact .inr rfl) (by exact rfl) (by exact rfl) (by exact wkRow_refl _) (by exact rfl)
      | false =>
        rw [if_pos (by rfl)]
        refine RunL.val (by exact .inl ⟨_, _, rfl, rfl, guard_eq false (by assumption) rfl⟩) (loc_not rfl) ?_; refine RunL.val (by exact rfl) (loc_pickI false (by assumption) rfl rfl) ?_; refine RunL.nil ?_; refine AW.condT (by exact rfl) ?_; refine AW.seq ?_; refine AW.region (by kernel_rfl) ?_; refine RunL.val (by exact rfl) (loc_build (by exact rfl) (by exact Cut.all (by exact rfl)) (by exact rfl)) ?_; refine RunL.eff (by exact rfl) (loc_storeW rfl rfl rfl rfl (by exact rfl) (by exact rfl)) ?_; refine RunL.val (by exact rfl) (loc_assignC rfl) ?_; refine RunL.nil ?_; refine AW.ret ?_
        refine rq ?_
        exact ret_pe (by exact .inr rfl) (by exact rfl) (by exact rfl) tleaf (by exact rfl)
end Go.Proofs.YtnflnbdlgdjfmabDoor
namespace Go.Proofs.YtnflnbdlgdjfmabDoor
open Go.RowKit
set_option linter.unusedVariables false
set_option linter.unusedSimpArgs false
set_option maxRecDepth 100000
attribute [local irreducible] RunL AW LocOp ACalls Gh
def aliveS : ByteArray := ⟨#[40, 99, 97, 108, 108, 32, 40, 102, 117, 110, 32, 97, 110, 121, 32, 40, 97, 100, 100, 32, 35, 48, 32, 49, 41, 41, 32, 40, 97, 115, 32, 97, 110, 121, 32, 54, 41, 41]⟩
def aliveT : Tm := .mk 8 0 .any .any [.mk 7 0 .any .any [.mk 4 0 .any .any [.mk 1 0 .any .any [], .mk 2 1 .any .any []]], .mk 9 0 .any .any [.mk 2 6 .any .any []]]
theorem alive_parse : parse aliveS = (aliveT, 0) := by kernel_rfl
def aliveB : Tm := .mk 4 0 .any .any [.mk 10 3 .num .any [.mk 1 0 .any .any []], .mk 2 1 .any .any []]
def aliveX : Tm := .mk 8 0 .any .any [.mk 7 0 .any .any [aliveB], .mk 9 0 .any .any [.mk 10 6 .any .num [.mk 2 6 .any .any []]]]
theorem alive_walk : walkT aliveT [] 0 = some (aliveX, .num) := by kernel_rfl
theorem alive_good : aliveT.Good 0 = true := by kernel_rfl
theorem alive_ev : Ev (.tm aliveX []) 5 (.ok (.num 7) 4) := by
  have h1 : Ev (.tm (.mk 7 0 .any .any [aliveB]) []) 5 (.ok (.clo aliveB []) 5) := .fn
  have h2 : Ev (.tm (.mk 9 0 .any .any [.mk 10 6 .any .num [.mk 2 6 .any .any []]]) []) 5 (.ok (.tag (.num 6) .num) 5) := .as (.cast (v := .num 6) .lit)
  have h3 : Ev (.tm (.mk 10 3 .num .any [.mk 1 0 .any .any []]) [.tag (.num 6) .num]) 4 (.ok (.num 6) 4) := .cast (v := .tag (.num 6) .num) (.ref rfl)
  exact .call h1 h2 (.clo (.twoV (.inl rfl) h3 .lit rfl))
theorem alive_run : RunIs aliveT 5 ⟨1, 7, false⟩ 0 := .inr (.inr ⟨aliveX, .num, alive_good, alive_walk, .inr ⟨5, rfl, by decide, _, alive_ev, rfl, rfl⟩⟩)
/-- What comes of a text. -/
def TextIs (s : ByteArray) (F : Int) (o : Out) (e : Int) : Prop := ((parse s).2 ≠ 0 ∧ o = .zero ∧ e = (parse s).2) ∨ ((parse s).2 = 0 ∧ RunIs (parse s).1 F o e)
theorem text_ex (s : ByteArray) (F : Int) : ∃ o e, TextIs s F o e := by
  by_cases h : (parse s).2 = 0
  · obtain ⟨o, e, hr⟩ := run_ex (parse s).1 F
    exact ⟨o, e, .inr ⟨h, hr⟩⟩
  · exact ⟨_, _, .inl ⟨h, rfl, rfl⟩⟩
theorem ret_oe {P : Program} {x z : Tmp} {tx : TypeId} {bx : Nat} {k : List C} {o : Out} {n : Int} {e : Exit} {t : Nat → U} {h : Nat → Option Blk} [T : TAgg P tx 3] (he : e = .normal ∨ e = .ret) (hx : t x = .one (.ptr bx 0)) (hbx : h bx = some (.obj k)) (hk : k = o.c) (hz : t z = .one (.int .i64 n)) : RetQ P #[.cell x tx, .tmp z] (.tup [o.u, .one (.int .i64 n)]) [] e t h := by
  subst hk
  exact ret_ct (O' := []) he hx hbx rfl hz [] trivial (wkRow_refl _) (.le (.refl _)) trivial rfl ⟨⟨trivial, trivial, trivial, trivial⟩, trivial, trivial⟩ trivial rfl
theorem text_a (s : ByteArray) (F : Int) (o : Out) (e : Int) (h : TextIs s F o e) : ACalls Tryd.prog 21 [.one (.str s), .one (.int .i64 F)] [] (.tup [o.u, .one (.int .i64 e)]) [] := by
  obtain ⟨hok, hn⟩ := parse_ok s
  have hp := parse_a s
  unfold parseU at hp
  unfold TextIs at h
  generalize parse s = q at hp h hok hn
  obtain ⟨a, pe⟩ := q
  simp only at hp h hok hn
  refine acalls_of_body Tryd.func21 rfl (by kernel_rfl) (Nat.le_of_ble_eq_true rfl) trivial (by simp [namesL]) ?_
  refine AW.seq ?_; refine AW.region (by kernel_rfl) ?_; refine RunL.mem (by exact rfl) (loc_allocD rfl rfl) ?_; refine RunL.val (by exact rfl) (loc_assignC rfl) ?_; refine RunL.nil ?_; refine AW.seq ?_; refine AW.region (by kernel_rfl) ?_; refine RunL.val (by exact rfl) (loc_moveC rfl) ?_
  refine RunL.val (by exact rfl) (loc_fun hp rfl (by refine ⟨_, _, rfl, (by exact LeU.of_eq rfl trivial), (by exact trivial), ?_⟩; exact rfl)) ?_
  rcases h with ⟨h0, rfl, rfl⟩ | ⟨rfl, hr⟩
  · have h0' : (e != 0) = true := by simpa using h0
    refine RunL.val (by exact rfl) (loc_moveT rfl) ?_; refine RunL.val (by exact rfl) (loc_extractA rfl rfl) ?_; refine RunL.val (by exact rfl) (loc_extractC rfl rfl) ?_; refine RunL.mem (by exact rfl) (loc_allocD rfl rfl) ?_; refine RunL.eff (by exact rfl) (loc_storeW rfl rfl rfl rfl (by exact rfl) (by exact rfl)) ?_; refine RunL.val (by exact rfl) (loc_assignC rfl) ?_; refine RunL.nil ?_; refine AW.seq ?_; refine AW.seq ?_; refine AW.region (by kernel_rfl) ?_; refine RunL.val (by exact rfl) (loc_moveC rfl) ?_; refine RunL.val (by exact rfl) (loc_binInt rfl rfl rfl) ?_; refine RunL.nil ?_; refine AW.condTa (by exact rfl) (by assumption) ?_; refine AW.seq ?_; refine AW.region (by kernel_rfl) ?_; refine RunL.val (by exact rfl) (loc_build (by exact rfl) (by exact Cut.all (by exact rfl)) (by exact rfl)) ?_; refine RunL.val (by exact rfl) (loc_moveC rfl) ?_; refine RunL.eff (by exact rfl) (loc_storeW rfl rfl rfl rfl (by exact rfl) (by exact rfl)) ?_; refine RunL.val (by exact rfl) (loc_assignC rfl) ?_; refine RunL.nil ?_; refine AW.ret ?_
    refine rq ?_
    exact ret_oe (by exact .inr rfl) (by exact rfl) (by exact rfl) rfl (by exact rfl)
  · refine RunL.val (by exact rfl) (loc_moveT rfl) ?_; refine RunL.val (by exact rfl) (loc_extractA rfl rfl) ?_; refine RunL.val (by exact rfl) (loc_extractC rfl rfl) ?_; refine RunL.mem (by exact rfl) (loc_allocD rfl rfl) ?_; refine RunL.eff (by exact rfl) (loc_storeW rfl rfl rfl rfl (by exact rfl) (by exact rfl)) ?_; refine RunL.val (by exact rfl) (loc_assignC rfl) ?_; refine RunL.nil ?_; refine AW.seq ?_; refine AW.seq ?_; refine AW.region (by kernel_rfl) ?_; refine RunL.val (by exact rfl) (loc_moveC rfl) ?_; refine RunL.val (by exact rfl) (loc_binInt rfl rfl rfl) ?_; refine RunL.nil ?_; refine AW.condF (by exact rfl) ?_; refine AW.skip ?_; refine AW.seq ?_; refine AW.region (by kernel_rfl) ?_; refine RunL.val (by exact rfl) (loc_loadA rfl rfl (by exact Cut.all (by exact rfl))) ?_; refine RunL.val (by exact rfl) (loc_moveC rfl) ?_
    refine RunL.val (by exact rfl) (loc_fun (run_a a hok (by omega) F o e hr) rfl (by refine ⟨_, _, rfl, (by exact LeU.of_eq rfl trivial), (by (refine And.intro ?_ ?_; exact trivial; refine And.intro ?_ ?_; exact trivial; refine And.intro ?_ ?_; exact trivial; refine And.intro ?_ ?_; exact trivial; refine And.intro ?_ ?_; exact trivial; refine And.intro ?_ ?_; exact trivial; refine And.intro ?_ ?_; exact trivial; exact trivial; done)), ?_⟩; refine ⟨_, _, rfl, (by exact LeU.of_eq rfl trivial), (by exact trivial), ?_⟩; exact rfl)) ?_
    refine RunL.val (by exact rfl) (loc_extractA rfl rfl) ?_; refine RunL.val (by exact rfl) (loc_extractC rfl rfl) ?_; refine RunL.eff (by exact rfl) (loc_storeW rfl rfl rfl rfl (by exact rfl) (by exact rfl)) ?_; refine RunL.val (by exact rfl) (loc_assignC rfl) ?_; refine RunL.nil ?_; refine AW.ret ?_
    refine rq ?_
    exact ret_oe (by exact .inr rfl) (by exact rfl) (by exact rfl) rfl (by exact rfl)
theorem alive_text : ACalls Tryd.prog 21 [.one (.str aliveS), .one (.int .i64 5)] [] (.tup [Out.u ⟨1, 7, false⟩, .one (.int .i64 0)]) [] :=
  text_a aliveS 5 ⟨1, 7, false⟩ 0 (.inr (by rw [alive_parse]; exact ⟨rfl, alive_run⟩))
theorem alive_a : ACalls Tryd.prog 22 [] [] (.one (.bool true)) [] := by
  refine acalls_of_body Tryd.func22 rfl (by kernel_rfl) (Nat.le_of_ble_eq_true rfl) trivial (by simp [namesL]) ?_
  refine AW.seq ?_; refine AW.region (by kernel_rfl) ?_; refine RunL.val (by exact rfl) (loc_assignC rfl) ?_; refine RunL.nil ?_; refine AW.seq ?_; refine AW.region (by kernel_rfl) ?_
  refine RunL.val (by exact rfl) (loc_fun alive_text rfl (by refine ⟨_, _, rfl, (by exact LeU.of_eq rfl trivial), (by exact trivial), ?_⟩; refine ⟨_, _, rfl, (by exact LeU.of_eq rfl trivial), (by exact trivial), ?_⟩; exact rfl)) ?_
  refine RunL.val (by exact rfl) (loc_moveT rfl) ?_; refine RunL.val (by exact rfl) (loc_extractA rfl rfl) ?_; refine RunL.val (by exact rfl) (loc_extractC rfl rfl) ?_; refine RunL.mem (by exact rfl) (loc_allocD rfl rfl) ?_; refine RunL.eff (by exact rfl) (loc_storeW rfl rfl rfl rfl (by exact rfl) (by exact rfl)) ?_; refine RunL.val (by exact rfl) (loc_assignC rfl) ?_; refine RunL.nil ?_; refine AW.seq ?_; refine AW.region (by kernel_rfl) ?_; refine RunL.val (by exact rfl) (loc_moveC rfl) ?_; refine RunL.val (by exact rfl) (loc_binInt rfl rfl rfl) ?_; refine RunL.val (by exact rfl) (loc_moveC rfl) ?_; refine RunL.val (by exact .inl ⟨_, _, rfl, rfl, rfl⟩) (loc_loadA rfl rfl (by exact Cut.all (by exact rfl))) ?_; refine RunL.val (by exact .inl ⟨_, _, rfl, rfl, rfl⟩) (loc_build (by exact rfl) (by exact Cut.all (by exact rfl)) (by exact rfl)) ?_
  refine RunL.val (by exact .inl ⟨_, _, rfl, rfl, rfl⟩) (loc_eqOut (o := ⟨1, 7, false⟩) (p := ⟨1, 7, false⟩) (by exact rfl) (by exact rfl)) ?_
  refine RunL.val (by exact rfl) (loc_pickT rfl rfl) ?_; refine RunL.val (by exact rfl) (loc_assignC rfl) ?_; refine RunL.nil ?_; refine AW.ret ?_
  refine rq ?_
  exact ret_same (by exact .inr rfl) (by exact rfl) trivial
end Go.Proofs.YtnflnbdlgdjfmabDoor
namespace Go.Proofs.YtnflnbdlgdjfmabDoor
open Go.RowKit
set_option linter.unusedVariables false
set_option linter.unusedSimpArgs false
set_option maxRecDepth 100000
attribute [local irreducible] RunL AW LocOp ACalls Gh
/-- What Run tells: an error; or what comes of a term that has a type. -/
theorem runIs_cases {a : Tm} {F : Int} {o : Out} {e : Int} (h : RunIs a F o e) : ((e != 0) = true ∧ o = .zero) ∨ ∃ x k, ∃ f : Nat, ∃ r, a.Good 0 = true ∧ walkT a [] 0 = some (x, k) ∧ F = f ∧ f ≤ 100 ∧ Ev (.tm x []) f r ∧ o = r.told ∧ e = 0 := by
  rcases h with ⟨_, rfl, rfl⟩ | ⟨_, _, rfl, rfl⟩ | ⟨x, k, hg, hw, hb⟩
  · exact .inl ⟨rfl, rfl⟩
  · exact .inl ⟨rfl, rfl⟩
  · rcases hb with ⟨_, rfl, rfl⟩ | ⟨f, hF, hf, r, hr, ho, he⟩
    · exact .inl ⟨rfl, rfl⟩
    · exact .inr ⟨x, k, f, r, hg, hw, hF, hf, hr, ho, he⟩
/-- What Check answers where a term has a type. -/
theorem checkU_some {a x : Tm} {k : Ty} (hg : a.Good 0 = true) (hw : walkT a [] 0 = some (x, k)) : checkU a = walkU (some (x, k)) := by unfold checkU; rw [hg, hw]; rfl
set_option maxHeartbeats 4000000 in
theorem bare_a (a : Tm) (hok : TmOk a) (hsz : a.nodes ≤ 1048576) (F : Int) (o : Out) (e : Int) (h : BareIs a F o e) : ACalls Tryd.prog 24 [a.u, .one (.int .i64 F)] [] (.tup [o.u, .one (.int .i64 e)]) [] := by
  have hgd := tGood_a a 0 hok hsz
  refine acalls_of_body Tryd.func24 rfl (by kernel_rfl) (Nat.le_of_ble_eq_true rfl) trivial (by simp [namesL]) ?_
  refine AW.seq ?_; refine AW.region (by kernel_rfl) ?_; refine RunL.mem (by exact rfl) (loc_boxD rfl rfl rfl) ?_; refine RunL.mem (by exact rfl) (loc_allocD rfl rfl) ?_; refine RunL.val (by exact rfl) (loc_assignC rfl) ?_; refine RunL.nil ?_; refine AW.seq ?_; refine AW.seq ?_; refine AW.region (by kernel_rfl) ?_; refine RunL.val (by exact rfl) (loc_loadA rfl rfl (by exact Cut.all (by exact rfl))) ?_
  refine RunL.val (by exact rfl) (loc_fun hgd rfl (by refine ⟨_, _, rfl, (by exact LeU.of_eq rfl trivial), (by (refine And.intro ?_ ?_; exact trivial; refine And.intro ?_ ?_; exact trivial; refine And.intro ?_ ?_; exact trivial; refine And.intro ?_ ?_; exact trivial; refine And.intro ?_ ?_; exact trivial; refine And.intro ?_ ?_; exact trivial; refine And.intro ?_ ?_; exact trivial; exact trivial; done)), ?_⟩; refine ⟨_, _, rfl, (by exact LeU.of_eq rfl trivial), (by exact trivial), ?_⟩; exact rfl)) ?_
  rcases h with ⟨hg, rfl, rfl⟩ | ⟨hg, hb⟩
  · rw [hg]
    refine RunL.val (by exact rfl) (loc_not rfl) ?_; refine RunL.nil ?_; refine AW.condT (by exact rfl) ?_; refine AW.seq ?_; refine AW.region (by kernel_rfl) ?_; refine RunL.val (by exact rfl) (loc_build (by exact rfl) (by exact Cut.all (by exact rfl)) (by exact rfl)) ?_; refine RunL.eff (by exact rfl) (loc_storeW rfl rfl rfl rfl (by exact rfl) (by exact rfl)) ?_; refine RunL.val (by exact rfl) (loc_assignC rfl) ?_; refine RunL.nil ?_; refine AW.ret ?_
    refine rq ?_
    exact ret_oe (by exact .inr rfl) (by exact rfl) (by exact rfl) rfl (by exact rfl)
  · rw [hg]
    refine RunL.val (by exact rfl) (loc_not rfl) ?_; refine RunL.nil ?_; refine AW.condF (by exact rfl) ?_; refine AW.skip ?_; refine AW.seq ?_; refine AW.region (by kernel_rfl) ?_; refine RunL.val (by exact rfl) (loc_loadA rfl rfl (by exact Cut.all (by exact rfl))) ?_
    refine RunL.val (by exact rfl) (loc_fun (erase_a a hsz) rfl (by refine ⟨_, _, rfl, (by exact LeU.of_eq rfl trivial), (by (refine And.intro ?_ ?_; exact trivial; refine And.intro ?_ ?_; exact trivial; refine And.intro ?_ ?_; exact trivial; refine And.intro ?_ ?_; exact trivial; refine And.intro ?_ ?_; exact trivial; refine And.intro ?_ ?_; exact trivial; refine And.intro ?_ ?_; exact trivial; exact trivial; done)), ?_⟩; exact rfl)) ?_
    refine RunL.val (by exact rfl) (loc_moveC rfl) ?_
    refine RunL.val (by exact rfl) (loc_fun (begin_a (eraseT a) (erase_low hok hg) F o e hb) rfl (by refine ⟨_, _, rfl, (by exact LeU.of_eq rfl trivial), (by (refine And.intro ?_ ?_; exact trivial; refine And.intro ?_ ?_; exact trivial; refine And.intro ?_ ?_; exact trivial; refine And.intro ?_ ?_; exact trivial; refine And.intro ?_ ?_; exact trivial; refine And.intro ?_ ?_; exact trivial; refine And.intro ?_ ?_; exact trivial; exact trivial; done)), ?_⟩; refine ⟨_, _, rfl, (by exact LeU.of_eq rfl trivial), (by exact trivial), ?_⟩; exact rfl)) ?_
    refine RunL.val (by exact rfl) (loc_extractA rfl rfl) ?_; refine RunL.val (by exact rfl) (loc_extractC rfl rfl) ?_; refine RunL.eff (by exact rfl) (loc_storeW rfl rfl rfl rfl (by exact rfl) (by exact rfl)) ?_; refine RunL.val (by exact rfl) (loc_assignC rfl) ?_; refine RunL.nil ?_; refine AW.ret ?_
    refine rq ?_
    exact ret_oe (by exact .inr rfl) (by exact rfl) (by exact rfl) rfl (by exact rfl)
set_option maxHeartbeats 4000000 in
theorem topErased_a (a : Tm) (F : Int) (hok : TmOk a) (hsz : a.nodes ≤ 1048576) : ACalls Tryd.prog 6 [a.u, .one (.int .i64 F)] [] (.one (.bool true)) [] := by
  obtain ⟨o, e, hrun⟩ := run_ex a F
  refine acalls_of_body Tryd.func6 rfl (by kernel_rfl) (Nat.le_of_ble_eq_true rfl) trivial (by simp [namesL]) ?_
  refine AW.seq ?_; refine AW.region (by kernel_rfl) ?_; refine RunL.mem (by exact rfl) (loc_boxD rfl rfl rfl) ?_; refine RunL.val (by exact rfl) (loc_assignC rfl) ?_; refine RunL.nil ?_; refine AW.seq ?_; refine AW.region (by kernel_rfl) ?_; refine RunL.val (by exact rfl) (loc_loadA rfl rfl (by exact Cut.all (by exact rfl))) ?_; refine RunL.val (by exact rfl) (loc_moveC rfl) ?_
  refine RunL.val (by exact rfl) (loc_fun (run_a a hok hsz F o e hrun) rfl (by refine ⟨_, _, rfl, (by exact LeU.of_eq rfl trivial), (by (refine And.intro ?_ ?_; exact trivial; refine And.intro ?_ ?_; exact trivial; refine And.intro ?_ ?_; exact trivial; refine And.intro ?_ ?_; exact trivial; refine And.intro ?_ ?_; exact trivial; refine And.intro ?_ ?_; exact trivial; refine And.intro ?_ ?_; exact trivial; exact trivial; done)), ?_⟩; refine ⟨_, _, rfl, (by exact LeU.of_eq rfl trivial), (by exact trivial), ?_⟩; exact rfl)) ?_
  rcases runIs_cases hrun with ⟨he, rfl⟩ | ⟨x, k, f, r, hg, hw, rfl, hf, hr, rfl, rfl⟩
  · obtain ⟨o2, e2, hbare⟩ := bare_ex a F
    refine RunL.val (by exact rfl) (loc_moveT rfl) ?_; refine RunL.val (by exact rfl) (loc_extractA rfl rfl) ?_; refine RunL.val (by exact rfl) (loc_extractC rfl rfl) ?_; refine RunL.mem (by exact rfl) (loc_allocD rfl rfl) ?_; refine RunL.eff (by exact rfl) (loc_storeW rfl rfl rfl rfl (by exact rfl) (by exact rfl)) ?_; refine RunL.val (by exact rfl) (loc_assignC rfl) ?_; refine RunL.nil ?_; refine AW.seq ?_; refine AW.region (by kernel_rfl) ?_; refine RunL.val (by exact rfl) (loc_loadA rfl rfl (by exact Cut.all (by exact rfl))) ?_; refine RunL.val (by exact rfl) (loc_moveC rfl) ?_
    refine RunL.val (by exact rfl) (loc_fun (bare_a a hok hsz F o2 e2 hbare) rfl (by refine ⟨_, _, rfl, (by exact LeU.of_eq rfl trivial), (by (refine And.intro ?_ ?_; exact trivial; refine And.intro ?_ ?_; exact trivial; refine And.intro ?_ ?_; exact trivial; refine And.intro ?_ ?_; exact trivial; refine And.intro ?_ ?_; exact trivial; refine And.intro ?_ ?_; exact trivial; refine And.intro ?_ ?_; exact trivial; exact trivial; done)), ?_⟩; refine ⟨_, _, rfl, (by exact LeU.of_eq rfl trivial), (by exact trivial), ?_⟩; exact rfl)) ?_
    refine RunL.val (by exact rfl) (loc_moveT rfl) ?_; refine RunL.val (by exact rfl) (loc_extractA rfl rfl) ?_; refine RunL.val (by exact rfl) (loc_extractC rfl rfl) ?_; refine RunL.mem (by exact rfl) (loc_allocD rfl rfl) ?_; refine RunL.eff (by exact rfl) (loc_storeW rfl rfl rfl rfl (by exact rfl) (by exact rfl)) ?_; refine RunL.val (by exact rfl) (loc_assignC rfl) ?_; refine RunL.nil ?_; refine AW.seq ?_; refine AW.region (by kernel_rfl) ?_; refine RunL.val (by exact rfl) (loc_moveC rfl) ?_; refine RunL.val (by exact rfl) (loc_binInt rfl rfl rfl) ?_; refine RunL.val (by exact rfl) (loc_moveC rfl) ?_; refine RunL.skip (.inl ⟨_, _, rfl, rfl, guard_eq true (by assumption) rfl⟩) ?_; refine RunL.skip (.inl ⟨_, _, rfl, rfl, guard_eq true (by assumption) rfl⟩) ?_; refine RunL.skip (.inl ⟨_, _, rfl, rfl, guard_eq true (by assumption) rfl⟩) ?_; refine RunL.skip (.inr ⟨rfl, _, rfl, rfl⟩) ?_; refine RunL.skip (.inr ⟨rfl, _, rfl, rfl⟩) ?_; refine RunL.skip (.inr ⟨rfl, _, rfl, rfl⟩) ?_; refine RunL.skip (.inr ⟨rfl, _, rfl, rfl⟩) ?_; refine RunL.skip (.inr ⟨rfl, _, rfl, rfl⟩) ?_; refine RunL.skip (.inr ⟨rfl, _, rfl, rfl⟩) ?_; refine RunL.skip (.inr ⟨rfl, _, rfl, rfl⟩) ?_; refine RunL.skip (.inr ⟨rfl, _, rfl, rfl⟩) ?_; refine RunL.skip (.inl ⟨_, _, rfl, rfl, guard_eq true (by assumption) rfl⟩) ?_; refine RunL.val (by exact rfl) (loc_pickI true (by assumption) rfl rfl) ?_; refine RunL.val (by exact rfl) (loc_moveC rfl) ?_
    refine RunL.val (by exact .inl ⟨_, _, rfl, rfl, rfl⟩) (loc_fun alive_a rfl (by exact rfl)) ?_
    refine RunL.val (by exact rfl) (loc_pickT rfl rfl) ?_; refine RunL.val (by exact rfl) (loc_assignC rfl) ?_; refine RunL.nil ?_; refine AW.ret ?_
    refine rq ?_
    exact ret_same (by exact .inr rfl) (by exact rfl) trivial
  · cases h4 : (r.told.kind == 4) with
    | true =>
      obtain ⟨o2, hbare⟩ := bare_ok hg hf
      refine RunL.val (by exact rfl) (loc_moveT rfl) ?_; refine RunL.val (by exact rfl) (loc_extractA rfl rfl) ?_; refine RunL.val (by exact rfl) (loc_extractC rfl rfl) ?_; refine RunL.mem (by exact rfl) (loc_allocD rfl rfl) ?_; refine RunL.eff (by exact rfl) (loc_storeW rfl rfl rfl rfl (by exact rfl) (by exact rfl)) ?_; refine RunL.val (by exact rfl) (loc_assignC rfl) ?_; refine RunL.nil ?_; refine AW.seq ?_; refine AW.region (by kernel_rfl) ?_; refine RunL.val (by exact rfl) (loc_loadA rfl rfl (by exact Cut.all (by exact rfl))) ?_; refine RunL.val (by exact rfl) (loc_moveC rfl) ?_
      refine RunL.val (by exact rfl) (loc_fun (bare_a a hok hsz f o2 0 hbare) rfl (by refine ⟨_, _, rfl, (by exact LeU.of_eq rfl trivial), (by (refine And.intro ?_ ?_; exact trivial; refine And.intro ?_ ?_; exact trivial; refine And.intro ?_ ?_; exact trivial; refine And.intro ?_ ?_; exact trivial; refine And.intro ?_ ?_; exact trivial; refine And.intro ?_ ?_; exact trivial; refine And.intro ?_ ?_; exact trivial; exact trivial; done)), ?_⟩; refine ⟨_, _, rfl, (by exact LeU.of_eq rfl trivial), (by exact trivial), ?_⟩; exact rfl)) ?_
      refine RunL.val (by exact rfl) (loc_moveT rfl) ?_; refine RunL.val (by exact rfl) (loc_extractA rfl rfl) ?_; refine RunL.val (by exact rfl) (loc_extractC rfl rfl) ?_; refine RunL.mem (by exact rfl) (loc_allocD rfl rfl) ?_; refine RunL.eff (by exact rfl) (loc_storeW rfl rfl rfl rfl (by exact rfl) (by exact rfl)) ?_; refine RunL.val (by exact rfl) (loc_assignC rfl) ?_; refine RunL.nil ?_; refine AW.seq ?_; refine AW.region (by kernel_rfl) ?_; refine RunL.val (by exact rfl) (loc_moveC rfl) ?_; refine RunL.val (by exact rfl) (loc_binInt rfl rfl rfl) ?_; refine RunL.val (by exact rfl) (loc_moveC rfl) ?_; refine RunL.val (by exact .inl ⟨_, _, rfl, rfl, rfl⟩) (loc_moveC rfl) ?_; refine RunL.val (by exact .inl ⟨_, _, rfl, rfl, rfl⟩) (loc_binInt rfl rfl rfl) ?_; refine RunL.val (by exact .inl ⟨_, _, rfl, rfl, rfl⟩) (loc_moveC rfl) ?_; refine RunL.val (by exact .inl ⟨_, _, rfl, rfl, rfl⟩) (loc_fieldAddr rfl) ?_; refine RunL.val (by exact .inl ⟨_, _, rfl, rfl, rfl⟩) (loc_load rfl rfl rfl) ?_; refine RunL.val (by exact .inl ⟨_, _, rfl, rfl, rfl⟩) (loc_binInt rfl rfl rfl) ?_; refine RunL.val (by exact .inl ⟨_, _, rfl, rfl, rfl⟩) (loc_moveC rfl) ?_; refine RunL.skip (.inl ⟨_, _, rfl, rfl, guard_eq true (by assumption) rfl⟩) ?_; refine RunL.skip (.inl ⟨_, _, rfl, rfl, guard_eq true (by assumption) rfl⟩) ?_; refine RunL.skip (.inl ⟨_, _, rfl, rfl, guard_eq true (by assumption) rfl⟩) ?_; refine RunL.val (by exact .inl ⟨_, _, rfl, rfl, rfl⟩) (loc_pickI true (by assumption) rfl rfl) ?_; refine RunL.val (by exact .inl ⟨_, _, rfl, rfl, rfl⟩) (loc_pickT rfl rfl) ?_; refine RunL.val (by exact rfl) (loc_pickF rfl rfl) ?_; refine RunL.val (by exact rfl) (loc_moveC rfl) ?_
      refine RunL.val (by exact .inl ⟨_, _, rfl, rfl, rfl⟩) (loc_fun alive_a rfl (by exact rfl)) ?_
      refine RunL.val (by exact rfl) (loc_pickT rfl rfl) ?_; refine RunL.val (by exact rfl) (loc_assignC rfl) ?_; refine RunL.nil ?_; refine AW.ret ?_
      refine rq ?_
      exact ret_same (by exact .inr rfl) (by exact rfl) trivial
    | false =>
      have hbare := bare_same hok hg hw hf hr (by simpa using h4)
      refine RunL.val (by exact rfl) (loc_moveT rfl) ?_; refine RunL.val (by exact rfl) (loc_extractA rfl rfl) ?_; refine RunL.val (by exact rfl) (loc_extractC rfl rfl) ?_; refine RunL.mem (by exact rfl) (loc_allocD rfl rfl) ?_; refine RunL.eff (by exact rfl) (loc_storeW rfl rfl rfl rfl (by exact rfl) (by exact rfl)) ?_; refine RunL.val (by exact rfl) (loc_assignC rfl) ?_; refine RunL.nil ?_; refine AW.seq ?_; refine AW.region (by kernel_rfl) ?_; refine RunL.val (by exact rfl) (loc_loadA rfl rfl (by exact Cut.all (by exact rfl))) ?_; refine RunL.val (by exact rfl) (loc_moveC rfl) ?_
      refine RunL.val (by exact rfl) (loc_fun (bare_a a hok hsz f r.told 0 hbare) rfl (by refine ⟨_, _, rfl, (by exact LeU.of_eq rfl trivial), (by (refine And.intro ?_ ?_; exact trivial; refine And.intro ?_ ?_; exact trivial; refine And.intro ?_ ?_; exact trivial; refine And.intro ?_ ?_; exact trivial; refine And.intro ?_ ?_; exact trivial; refine And.intro ?_ ?_; exact trivial; refine And.intro ?_ ?_; exact trivial; exact trivial; done)), ?_⟩; refine ⟨_, _, rfl, (by exact LeU.of_eq rfl trivial), (by exact trivial), ?_⟩; exact rfl)) ?_
      refine RunL.val (by exact rfl) (loc_moveT rfl) ?_; refine RunL.val (by exact rfl) (loc_extractA rfl rfl) ?_; refine RunL.val (by exact rfl) (loc_extractC rfl rfl) ?_; refine RunL.mem (by exact rfl) (loc_allocD rfl rfl) ?_; refine RunL.eff (by exact rfl) (loc_storeW rfl rfl rfl rfl (by exact rfl) (by exact rfl)) ?_; refine RunL.val (by exact rfl) (loc_assignC rfl) ?_; refine RunL.nil ?_; refine AW.seq ?_; refine AW.region (by kernel_rfl) ?_; refine RunL.val (by exact rfl) (loc_moveC rfl) ?_; refine RunL.val (by exact rfl) (loc_binInt rfl rfl rfl) ?_; refine RunL.val (by exact rfl) (loc_moveC rfl) ?_; refine RunL.val (by exact .inl ⟨_, _, rfl, rfl, rfl⟩) (loc_moveC rfl) ?_; refine RunL.val (by exact .inl ⟨_, _, rfl, rfl, rfl⟩) (loc_binInt rfl rfl rfl) ?_; refine RunL.val (by exact .inl ⟨_, _, rfl, rfl, rfl⟩) (loc_moveC rfl) ?_; refine RunL.val (by exact .inl ⟨_, _, rfl, rfl, rfl⟩) (loc_fieldAddr rfl) ?_; refine RunL.val (by exact .inl ⟨_, _, rfl, rfl, rfl⟩) (loc_load rfl rfl rfl) ?_; refine RunL.val (by exact .inl ⟨_, _, rfl, rfl, rfl⟩) (loc_binInt rfl rfl rfl) ?_; refine RunL.val (by exact .inl ⟨_, _, rfl, rfl, rfl⟩) (loc_moveC rfl) ?_; refine RunL.val (by exact .inl ⟨_, _, rfl, rfl, guard_eq false (by assumption) rfl⟩) (loc_loadA rfl rfl (by exact Cut.all (by exact rfl))) ?_; refine RunL.val (by exact .inl ⟨_, _, rfl, rfl, guard_eq false (by assumption) rfl⟩) (loc_loadA rfl rfl (by exact Cut.all (by exact rfl))) ?_
      refine RunL.val (by exact .inl ⟨_, _, rfl, rfl, guard_eq false (by assumption) rfl⟩) (loc_eqOut (o := r.told) (p := r.told) (by exact rfl) (by exact rfl)) ?_
      rw [outEq_refl]
      refine RunL.val (by exact .inl ⟨_, _, rfl, rfl, rfl⟩) (loc_pickI false (by assumption) rfl rfl) ?_; refine RunL.val (by exact .inl ⟨_, _, rfl, rfl, rfl⟩) (loc_pickT rfl rfl) ?_; refine RunL.val (by exact rfl) (loc_pickF rfl rfl) ?_; refine RunL.val (by exact rfl) (loc_moveC rfl) ?_
      refine RunL.val (by exact .inl ⟨_, _, rfl, rfl, rfl⟩) (loc_fun alive_a rfl (by exact rfl)) ?_
      refine RunL.val (by exact rfl) (loc_pickT rfl rfl) ?_; refine RunL.val (by exact rfl) (loc_assignC rfl) ?_; refine RunL.nil ?_; refine AW.ret ?_
      refine rq ?_
      exact ret_same (by exact .inr rfl) (by exact rfl) trivial
set_option maxHeartbeats 2000000 in
theorem tsure_a : ∀ a : Tm, ACalls Tryd.prog 26 [a.u] [] (.one (.bool (sureT a))) [] := by
  intro a
  induction a using Tm.ind' with
  | h a ih =>
  refine acalls_of_body Tryd.func26 rfl (by kernel_rfl) (Nat.le_of_ble_eq_true rfl) trivial (by simp [namesL]) ?_
  have rest : sureT a = ((!(a.k == 7 || a.k == 9) || a.t.sure) && sureTL (a.l.drop 0)) := sureT_eta a
  refine AW.seq ?_
  refine AW.region (by kernel_rfl) ?_
  refine RunL.mem (by exact rfl) (loc_boxD rfl rfl rfl) ?_; refine RunL.val (by exact rfl) (loc_assignC rfl) ?_; refine RunL.nil ?_
  refine AW.seq ?_
  refine AW.seq ?_
  refine AW.midB (fun t h => t = tOfL [(1, .one (.ptr 1 0)), (18, .one (.bool (!(!(a.k == 7 || a.k == 9) || a.t.sure))))] ∧ h = ofL [(1, .obj a.c)]) ?_ ?_
  · cases h7 : (a.k == 7) with
    | true =>
      refine AW.region (by kernel_rfl) ?_; refine RunL.val (by exact rfl) (loc_fieldAddr rfl) ?_; refine RunL.val (by exact rfl) (loc_load rfl rfl rfl) ?_; refine RunL.val (by exact rfl) (loc_binInt rfl rfl rfl) ?_; refine RunL.val (by exact rfl) (loc_moveC rfl) ?_; refine RunL.skip (.inl ⟨_, _, rfl, rfl, guard_eq true (by assumption) rfl⟩) ?_; refine RunL.skip (.inl ⟨_, _, rfl, rfl, guard_eq true (by assumption) rfl⟩) ?_; refine RunL.skip (.inl ⟨_, _, rfl, rfl, guard_eq true (by assumption) rfl⟩) ?_; refine RunL.val (by exact rfl) (loc_pickI true (by assumption) rfl rfl) ?_; refine RunL.val (by exact rfl) (loc_moveC rfl) ?_; refine RunL.val (by exact .inl ⟨_, _, rfl, rfl, rfl⟩) (loc_fieldAddr rfl) ?_; refine RunL.val (by exact .inl ⟨_, _, rfl, rfl, rfl⟩) (loc_loadA rfl rfl (by exact Cut.cons (by exact rfl) (Cut.cons (by exact rfl) Cut.nil))) ?_
      refine RunL.val (by exact .inl ⟨_, _, rfl, rfl, rfl⟩) (loc_fun (sure_a a.t) rfl (by refine ⟨_, _, rfl, (by exact LeU.of_eq rfl trivial), (by (refine And.intro ?_ ?_; exact trivial; refine And.intro ?_ ?_; exact trivial; exact trivial; done)), ?_⟩; exact rfl)) ?_
      refine RunL.val (by exact .inl ⟨_, _, rfl, rfl, rfl⟩) (loc_not rfl) ?_; refine RunL.val (by exact rfl) (loc_pickT rfl rfl) ?_; refine RunL.nil ?_
      exact ⟨_, _, (gh_lit [(1, .one (.ptr 1 0)), (18, .one (.bool (!a.t.sure)))] [(1, .obj a.c)] [] [] ⟨(WkU.of_eq rfl trivial), (WkU.of_eq rfl trivial), trivial⟩ ⟨(by exact Or.inl ⟨_, rfl, WkBlk.refl _⟩), trivial⟩ trivial trivial rfl rfl ⟨⟨_, rfl⟩, trivial, trivial⟩ ⟨(by refine And.intro ?_ ?_; exact trivial; refine And.intro ?_ ?_; exact trivial; refine And.intro ?_ ?_; exact trivial; refine And.intro ?_ ?_; exact trivial; refine And.intro ?_ ?_; exact trivial; refine And.intro ?_ ?_; exact trivial; refine And.intro ?_ ?_; exact trivial; exact trivial), trivial⟩), by simp, rfl⟩
    | false =>
    cases h9 : (a.k == 9) with
    | true =>
      refine AW.region (by kernel_rfl) ?_; refine RunL.val (by exact rfl) (loc_fieldAddr rfl) ?_; refine RunL.val (by exact rfl) (loc_load rfl rfl rfl) ?_; refine RunL.val (by exact rfl) (loc_binInt rfl rfl rfl) ?_; refine RunL.val (by exact rfl) (loc_moveC rfl) ?_; refine RunL.val (by exact .inl ⟨_, _, rfl, rfl, guard_eq false (by assumption) rfl⟩) (loc_fieldAddr rfl) ?_; refine RunL.val (by exact .inl ⟨_, _, rfl, rfl, guard_eq false (by assumption) rfl⟩) (loc_load rfl rfl rfl) ?_; refine RunL.val (by exact .inl ⟨_, _, rfl, rfl, guard_eq false (by assumption) rfl⟩) (loc_binInt rfl rfl rfl) ?_; refine RunL.val (by exact rfl) (loc_pickI false (by assumption) rfl rfl) ?_; refine RunL.val (by exact rfl) (loc_moveC rfl) ?_; refine RunL.val (by exact .inl ⟨_, _, rfl, rfl, guard_eq true (by assumption) rfl⟩) (loc_fieldAddr rfl) ?_; refine RunL.val (by exact .inl ⟨_, _, rfl, rfl, guard_eq true (by assumption) rfl⟩) (loc_loadA rfl rfl (by exact Cut.cons (by exact rfl) (Cut.cons (by exact rfl) Cut.nil))) ?_
      refine RunL.val (by exact .inl ⟨_, _, rfl, rfl, guard_eq true (by assumption) rfl⟩) (loc_fun (sure_a a.t) rfl (by refine ⟨_, _, rfl, (by exact LeU.of_eq rfl trivial), (by (refine And.intro ?_ ?_; exact trivial; refine And.intro ?_ ?_; exact trivial; exact trivial; done)), ?_⟩; exact rfl)) ?_
      refine RunL.val (by exact .inl ⟨_, _, rfl, rfl, guard_eq true (by assumption) rfl⟩) (loc_not rfl) ?_; refine RunL.val (by exact rfl) (loc_pickI true (by assumption) rfl rfl) ?_; refine RunL.nil ?_
      exact ⟨_, _, (gh_lit [(1, .one (.ptr 1 0)), (18, .one (.bool (!a.t.sure)))] [(1, .obj a.c)] [] [] ⟨(WkU.of_eq rfl trivial), (WkU.of_eq rfl trivial), trivial⟩ ⟨(by exact Or.inl ⟨_, rfl, WkBlk.refl _⟩), trivial⟩ trivial trivial rfl rfl ⟨⟨_, rfl⟩, trivial, trivial⟩ ⟨(by refine And.intro ?_ ?_; exact trivial; refine And.intro ?_ ?_; exact trivial; refine And.intro ?_ ?_; exact trivial; refine And.intro ?_ ?_; exact trivial; refine And.intro ?_ ?_; exact trivial; refine And.intro ?_ ?_; exact trivial; refine And.intro ?_ ?_; exact trivial; exact trivial), trivial⟩), by simp, rfl⟩
    | false =>
      refine AW.region (by kernel_rfl) ?_; refine RunL.val (by exact rfl) (loc_fieldAddr rfl) ?_; refine RunL.val (by exact rfl) (loc_load rfl rfl rfl) ?_; refine RunL.val (by exact rfl) (loc_binInt rfl rfl rfl) ?_; refine RunL.val (by exact rfl) (loc_moveC rfl) ?_; refine RunL.val (by exact .inl ⟨_, _, rfl, rfl, guard_eq false (by assumption) rfl⟩) (loc_fieldAddr rfl) ?_; refine RunL.val (by exact .inl ⟨_, _, rfl, rfl, guard_eq false (by assumption) rfl⟩) (loc_load rfl rfl rfl) ?_; refine RunL.val (by exact .inl ⟨_, _, rfl, rfl, guard_eq false (by assumption) rfl⟩) (loc_binInt rfl rfl rfl) ?_; refine RunL.val (by exact rfl) (loc_pickI false (by assumption) rfl rfl) ?_; refine RunL.val (by exact rfl) (loc_moveC rfl) ?_; refine RunL.skip (.inl ⟨_, _, rfl, rfl, guard_eq false (by assumption) rfl⟩) ?_; refine RunL.skip (.inl ⟨_, _, rfl, rfl, guard_eq false (by assumption) rfl⟩) ?_; refine RunL.skip (.inl ⟨_, _, rfl, rfl, guard_eq false (by assumption) rfl⟩) ?_; refine RunL.skip (.inl ⟨_, _, rfl, rfl, guard_eq false (by assumption) rfl⟩) ?_; refine RunL.val (by exact rfl) (loc_pickI false (by assumption) rfl rfl) ?_; refine RunL.nil ?_
      exact ⟨_, _, (gh_lit [(1, .one (.ptr 1 0)), (18, .one (.bool false))] [(1, .obj a.c)] [] [] ⟨(WkU.of_eq rfl trivial), (WkU.of_eq rfl trivial), trivial⟩ ⟨(by exact Or.inl ⟨_, rfl, WkBlk.refl _⟩), trivial⟩ trivial trivial rfl rfl ⟨⟨_, rfl⟩, trivial, trivial⟩ ⟨(by refine And.intro ?_ ?_; exact trivial; refine And.intro ?_ ?_; exact trivial; refine And.intro ?_ ?_; exact trivial; refine And.intro ?_ ?_; exact trivial; refine And.intro ?_ ?_; exact trivial; refine And.intro ?_ ?_; exact trivial; refine And.intro ?_ ?_; exact trivial; exact trivial), trivial⟩), by simp, rfl⟩
  · rintro t h ⟨rfl, rfl⟩
    cases hc : (!(a.k == 7 || a.k == 9) || a.t.sure) with
    | false =>
      refine AW.condT (by exact rfl) ?_; refine AW.seq ?_; refine AW.region (by kernel_rfl) ?_; refine RunL.val (by exact rfl) (loc_assignC rfl) ?_; refine RunL.nil ?_; refine AW.ret ?_
      rw [rest, hc]
      exact ret_same (.inr rfl) rfl trivial
    | true =>
      rw [hc, Bool.true_and] at rest
      refine AW.condF (by exact rfl) ?_; refine AW.skip ?_; refine AW.seq ?_; refine AW.seq ?_; refine AW.region (by kernel_rfl) ?_; refine RunL.val (by exact rfl) (loc_fieldAddr rfl) ?_; refine RunL.val (by exact rfl) (loc_load rfl rfl rfl) ?_; refine RunL.val (by exact rfl) (loc_lenSl rfl) ?_; refine RunL.val (by exact rfl) (loc_moveC rfl) ?_; refine RunL.nil ?_; refine AW.block ?_
      refine AW.gh (gh_lit [(20, .one (slOf 7 (tmRows a.l))), (21, .one (.int .i64 ((tmRows a.l).length : Nat))), (22, .one (.int .i64 ((0 : Nat) : Int)))] [] [] [] ⟨(by exact WkU.of_eq rfl trivial), (WkU.of_eq rfl trivial), (WkU.of_eq rfl trivial), trivial⟩ trivial trivial trivial rfl rfl ⟨trivial, trivial, trivial, trivial⟩ trivial) ?_
      refine AW.lenSl 20 rfl fun hmax => ?_
      refine AW.loop (fun m t h => ∃ i : Nat, i ≤ a.l.length ∧ m = a.l.length - i ∧ sureT a = sureTL (a.l.drop i) ∧ t = tOfL [(20, .one (slOf 7 (tmRows a.l))), (21, .one (.int .i64 ((tmRows a.l).length : Nat))), (22, .one (.int .i64 ((i : Nat) : Int)))] ∧ h = ofL []) a.l.length ⟨0, Nat.zero_le _, rfl, rest, rfl, rfl⟩ ?_
      rintro m t h ⟨i, hi, rfl, hinv, rfl, rfl⟩
      have hL := tmRows_length a.l
      cases hlt : decide ((i : Int) < ((tmRows a.l).length : Nat)) with
      | false =>
        have hil : i = a.l.length := by simp at hlt; omega
        refine AW.seq ?_; refine AW.region (by kernel_rfl) ?_; refine RunL.val (by exact rfl) (loc_binInt rfl rfl rfl) ?_; refine RunL.nil ?_; refine AW.seq ?_; refine AW.condFa (by exact rfl) (by assumption) ?_; refine AW.exit ?_; refine AW.seq ?_; refine AW.region (by kernel_rfl) ?_; refine RunL.val (by exact rfl) (loc_assignC rfl) ?_; refine RunL.nil ?_; refine AW.ret ?_
        rw [hinv, hil, List.drop_length]
        exact ret_same (.inr rfl) rfl trivial
      | true =>
        have hil : i < a.l.length := by simp at hlt; omega
        have hr1 := tmRows_get hil
        have hs := sureTL_drop hil
        refine AW.seq ?_; refine AW.region (by kernel_rfl) ?_; refine RunL.val (by exact rfl) (loc_binInt rfl rfl rfl) ?_; refine RunL.nil ?_; refine AW.seq ?_; refine AW.condTa (by exact rfl) (by assumption) ?_; refine AW.skip ?_; refine AW.seq ?_; refine AW.block ?_; refine AW.seq ?_; refine AW.region (by kernel_rfl) ?_; refine RunL.val (by exact rfl) (loc_indexSl _ rfl rfl rfl (by assumption) rfl) ?_; refine RunL.val (by exact rfl) (loc_loadFA rfl (by exact Cut.all (by exact rfl))) ?_; refine RunL.mem (by exact rfl) (loc_allocD rfl rfl) ?_; refine RunL.eff (by exact rfl) (loc_storeW rfl rfl rfl rfl (by exact rfl) (by exact rfl)) ?_; refine RunL.nil ?_; refine AW.seq ?_; refine AW.region (by kernel_rfl) ?_; refine RunL.val (by exact rfl) (loc_loadA rfl rfl (by exact Cut.all (by exact rfl))) ?_
        refine RunL.val (by exact rfl) (loc_fun (ih a.l[i] (List.getElem_mem _)) rfl (by refine ⟨_, _, rfl, (by exact LeU.of_eq rfl trivial), (by (refine And.intro ?_ ?_; exact trivial; refine And.intro ?_ ?_; exact trivial; refine And.intro ?_ ?_; exact trivial; refine And.intro ?_ ?_; exact trivial; refine And.intro ?_ ?_; exact trivial; refine And.intro ?_ ?_; exact trivial; refine And.intro ?_ ?_; exact trivial; exact trivial; done)), ?_⟩; exact rfl)) ?_
        cases hq : sureT a.l[i] with
        | false =>
          rw [hq, Bool.false_and] at hs
          refine RunL.val (by exact rfl) (loc_not rfl) ?_; refine RunL.nil ?_; refine AW.condT (by exact rfl) ?_; refine AW.seq ?_; refine AW.region (by kernel_rfl) ?_; refine RunL.val (by exact rfl) (loc_assignC rfl) ?_; refine RunL.nil ?_; refine AW.ret ?_
          rw [hinv, hs]
          exact ret_same (.inr rfl) rfl trivial
        | true =>
          rw [hq, Bool.true_and] at hs
          refine RunL.val (by exact rfl) (loc_not rfl) ?_; refine RunL.nil ?_; refine AW.condF (by exact rfl) ?_; refine AW.skip ?_; refine AW.region (by kernel_rfl) ?_; refine RunL.val (by exact rfl) (loc_inc rfl rfl (by omega)) ?_; refine RunL.val (by exact rfl) (loc_moveC rfl) ?_; refine RunL.nil ?_
          exact ⟨a.l.length - (i + 1), _, _, by omega, (gh_lit [(20, .one (slOf 7 (tmRows a.l))), (21, .one (.int .i64 ((tmRows a.l).length : Nat))), (22, .one (.int .i64 ((i + 1 : Nat) : Int)))] [] [] [] ⟨(by exact WkU.of_eq rfl trivial), (WkU.of_eq rfl trivial), (WkU.of_eq rfl trivial), trivial⟩ trivial trivial trivial rfl rfl ⟨trivial, trivial, trivial, trivial⟩ trivial), i + 1, by omega, rfl, by rw [hinv, hs], rfl, rfl⟩
set_option maxHeartbeats 4000000 in
theorem topSure_a (a : Tm) (F : Int) (hok : TmOk a) (hsz : a.nodes ≤ 1048576) : ACalls Tryd.prog 8 [a.u, .one (.int .i64 F)] [] (.one (.bool true)) [] := by
  obtain ⟨o, e, hrun⟩ := run_ex a F
  refine acalls_of_body Tryd.func8 rfl (by kernel_rfl) (Nat.le_of_ble_eq_true rfl) trivial (by simp [namesL]) ?_
  refine AW.seq ?_; refine AW.region (by kernel_rfl) ?_; refine RunL.mem (by exact rfl) (loc_boxD rfl rfl rfl) ?_; refine RunL.val (by exact rfl) (loc_assignC rfl) ?_; refine RunL.nil ?_; refine AW.seq ?_; refine AW.region (by kernel_rfl) ?_; refine RunL.val (by exact rfl) (loc_loadA rfl rfl (by exact Cut.all (by exact rfl))) ?_; refine RunL.val (by exact rfl) (loc_moveC rfl) ?_
  refine RunL.val (by exact rfl) (loc_fun (run_a a hok hsz F o e hrun) rfl (by refine ⟨_, _, rfl, (by exact LeU.of_eq rfl trivial), (by (refine And.intro ?_ ?_; exact trivial; refine And.intro ?_ ?_; exact trivial; refine And.intro ?_ ?_; exact trivial; refine And.intro ?_ ?_; exact trivial; refine And.intro ?_ ?_; exact trivial; refine And.intro ?_ ?_; exact trivial; refine And.intro ?_ ?_; exact trivial; exact trivial; done)), ?_⟩; refine ⟨_, _, rfl, (by exact LeU.of_eq rfl trivial), (by exact trivial), ?_⟩; exact rfl)) ?_
  rcases runIs_cases hrun with ⟨he, rfl⟩ | ⟨x, k, f, r, hg, hw, rfl, hf, hr, rfl, rfl⟩
  · obtain ⟨o2, e2, hbare⟩ := bare_ex a F
    refine RunL.val (by exact rfl) (loc_moveT rfl) ?_; refine RunL.val (by exact rfl) (loc_extractA rfl rfl) ?_; refine RunL.val (by exact rfl) (loc_extractC rfl rfl) ?_; refine RunL.mem (by exact rfl) (loc_allocD rfl rfl) ?_; refine RunL.eff (by exact rfl) (loc_storeW rfl rfl rfl rfl (by exact rfl) (by exact rfl)) ?_; refine RunL.val (by exact rfl) (loc_assignC rfl) ?_; refine RunL.nil ?_; refine AW.seq ?_; refine AW.region (by kernel_rfl) ?_; refine RunL.val (by exact rfl) (loc_loadA rfl rfl (by exact Cut.all (by exact rfl))) ?_; refine RunL.val (by exact rfl) (loc_moveC rfl) ?_
    refine RunL.val (by exact rfl) (loc_fun (bare_a a hok hsz F o2 e2 hbare) rfl (by refine ⟨_, _, rfl, (by exact LeU.of_eq rfl trivial), (by (refine And.intro ?_ ?_; exact trivial; refine And.intro ?_ ?_; exact trivial; refine And.intro ?_ ?_; exact trivial; refine And.intro ?_ ?_; exact trivial; refine And.intro ?_ ?_; exact trivial; refine And.intro ?_ ?_; exact trivial; refine And.intro ?_ ?_; exact trivial; exact trivial; done)), ?_⟩; refine ⟨_, _, rfl, (by exact LeU.of_eq rfl trivial), (by exact trivial), ?_⟩; exact rfl)) ?_
    refine RunL.val (by exact rfl) (loc_moveT rfl) ?_; refine RunL.val (by exact rfl) (loc_extractA rfl rfl) ?_; refine RunL.val (by exact rfl) (loc_extractC rfl rfl) ?_; refine RunL.mem (by exact rfl) (loc_allocD rfl rfl) ?_; refine RunL.eff (by exact rfl) (loc_storeW rfl rfl rfl rfl (by exact rfl) (by exact rfl)) ?_; refine RunL.val (by exact rfl) (loc_assignC rfl) ?_; refine RunL.nil ?_; refine AW.seq ?_; refine AW.region (by kernel_rfl) ?_; refine RunL.val (by exact rfl) (loc_moveC rfl) ?_; refine RunL.val (by exact rfl) (loc_binInt rfl rfl rfl) ?_; refine RunL.val (by exact rfl) (loc_moveC rfl) ?_; refine RunL.skip (.inl ⟨_, _, rfl, rfl, guard_eq true (by assumption) rfl⟩) ?_; refine RunL.skip (.inl ⟨_, _, rfl, rfl, guard_eq true (by assumption) rfl⟩) ?_; refine RunL.skip (.inl ⟨_, _, rfl, rfl, guard_eq true (by assumption) rfl⟩) ?_; refine RunL.val (by exact rfl) (loc_pickI true (by assumption) rfl rfl) ?_; refine RunL.val (by exact rfl) (loc_moveC rfl) ?_; refine RunL.skip (.inl ⟨_, _, rfl, rfl, rfl⟩) ?_; refine RunL.skip (.inl ⟨_, _, rfl, rfl, rfl⟩) ?_; refine RunL.skip (.inl ⟨_, _, rfl, rfl, rfl⟩) ?_; refine RunL.skip (.inr ⟨rfl, _, rfl, rfl⟩) ?_; refine RunL.skip (.inr ⟨rfl, _, rfl, rfl⟩) ?_; refine RunL.skip (.inr ⟨rfl, _, rfl, rfl⟩) ?_; refine RunL.skip (.inl ⟨_, _, rfl, rfl, rfl⟩) ?_; refine RunL.skip (.inl ⟨_, _, rfl, rfl, rfl⟩) ?_; refine RunL.skip (.inr ⟨rfl, _, rfl, rfl⟩) ?_; refine RunL.skip (.inr ⟨rfl, _, rfl, rfl⟩) ?_; refine RunL.skip (.inr ⟨rfl, _, rfl, rfl⟩) ?_; refine RunL.skip (.inl ⟨_, _, rfl, rfl, rfl⟩) ?_; refine RunL.val (by exact rfl) (loc_pickT rfl rfl) ?_; refine RunL.val (by exact rfl) (loc_moveC rfl) ?_
    refine RunL.val (by exact .inl ⟨_, _, rfl, rfl, rfl⟩) (loc_fun alive_a rfl (by exact rfl)) ?_
    refine RunL.val (by exact rfl) (loc_pickT rfl rfl) ?_; refine RunL.val (by exact rfl) (loc_assignC rfl) ?_; refine RunL.nil ?_; refine AW.ret ?_
    refine rq ?_
    exact ret_same (by exact .inr rfl) (by exact rfl) trivial
  · have hsu := tsure_a a
    cases hs : sureT a with
    | false =>
      rw [hs] at hsu
      obtain ⟨o2, e2, hbare⟩ := bare_ex a f
      refine RunL.val (by exact rfl) (loc_moveT rfl) ?_; refine RunL.val (by exact rfl) (loc_extractA rfl rfl) ?_; refine RunL.val (by exact rfl) (loc_extractC rfl rfl) ?_; refine RunL.mem (by exact rfl) (loc_allocD rfl rfl) ?_; refine RunL.eff (by exact rfl) (loc_storeW rfl rfl rfl rfl (by exact rfl) (by exact rfl)) ?_; refine RunL.val (by exact rfl) (loc_assignC rfl) ?_; refine RunL.nil ?_; refine AW.seq ?_; refine AW.region (by kernel_rfl) ?_; refine RunL.val (by exact rfl) (loc_loadA rfl rfl (by exact Cut.all (by exact rfl))) ?_; refine RunL.val (by exact rfl) (loc_moveC rfl) ?_
      refine RunL.val (by exact rfl) (loc_fun (bare_a a hok hsz f o2 e2 hbare) rfl (by refine ⟨_, _, rfl, (by exact LeU.of_eq rfl trivial), (by (refine And.intro ?_ ?_; exact trivial; refine And.intro ?_ ?_; exact trivial; refine And.intro ?_ ?_; exact trivial; refine And.intro ?_ ?_; exact trivial; refine And.intro ?_ ?_; exact trivial; refine And.intro ?_ ?_; exact trivial; refine And.intro ?_ ?_; exact trivial; exact trivial; done)), ?_⟩; refine ⟨_, _, rfl, (by exact LeU.of_eq rfl trivial), (by exact trivial), ?_⟩; exact rfl)) ?_
      refine RunL.val (by exact rfl) (loc_moveT rfl) ?_; refine RunL.val (by exact rfl) (loc_extractA rfl rfl) ?_; refine RunL.val (by exact rfl) (loc_extractC rfl rfl) ?_; refine RunL.mem (by exact rfl) (loc_allocD rfl rfl) ?_; refine RunL.eff (by exact rfl) (loc_storeW rfl rfl rfl rfl (by exact rfl) (by exact rfl)) ?_; refine RunL.val (by exact rfl) (loc_assignC rfl) ?_; refine RunL.nil ?_; refine AW.seq ?_; refine AW.region (by kernel_rfl) ?_; refine RunL.val (by exact rfl) (loc_moveC rfl) ?_; refine RunL.val (by exact rfl) (loc_binInt rfl rfl rfl) ?_; refine RunL.val (by exact rfl) (loc_moveC rfl) ?_; refine RunL.val (by exact .inl ⟨_, _, rfl, rfl, rfl⟩) (loc_loadA rfl rfl (by exact Cut.all (by exact rfl))) ?_
      refine RunL.val (by exact .inl ⟨_, _, rfl, rfl, rfl⟩) (loc_fun hsu rfl (by refine ⟨_, _, rfl, (by exact LeU.of_eq rfl trivial), (by (refine And.intro ?_ ?_; exact trivial; refine And.intro ?_ ?_; exact trivial; refine And.intro ?_ ?_; exact trivial; refine And.intro ?_ ?_; exact trivial; refine And.intro ?_ ?_; exact trivial; refine And.intro ?_ ?_; exact trivial; refine And.intro ?_ ?_; exact trivial; exact trivial; done)), ?_⟩; exact rfl)) ?_
      refine RunL.val (by exact .inl ⟨_, _, rfl, rfl, rfl⟩) (loc_not rfl) ?_; refine RunL.val (by exact rfl) (loc_pickF rfl rfl) ?_; refine RunL.val (by exact rfl) (loc_moveC rfl) ?_; refine RunL.skip (.inl ⟨_, _, rfl, rfl, rfl⟩) ?_; refine RunL.skip (.inl ⟨_, _, rfl, rfl, rfl⟩) ?_; refine RunL.skip (.inl ⟨_, _, rfl, rfl, rfl⟩) ?_; refine RunL.skip (.inr ⟨rfl, _, rfl, rfl⟩) ?_; refine RunL.skip (.inr ⟨rfl, _, rfl, rfl⟩) ?_; refine RunL.skip (.inr ⟨rfl, _, rfl, rfl⟩) ?_; refine RunL.skip (.inl ⟨_, _, rfl, rfl, rfl⟩) ?_; refine RunL.skip (.inl ⟨_, _, rfl, rfl, rfl⟩) ?_; refine RunL.skip (.inr ⟨rfl, _, rfl, rfl⟩) ?_; refine RunL.skip (.inr ⟨rfl, _, rfl, rfl⟩) ?_; refine RunL.skip (.inr ⟨rfl, _, rfl, rfl⟩) ?_; refine RunL.skip (.inl ⟨_, _, rfl, rfl, rfl⟩) ?_; refine RunL.val (by exact rfl) (loc_pickT rfl rfl) ?_; refine RunL.val (by exact rfl) (loc_moveC rfl) ?_
      refine RunL.val (by exact .inl ⟨_, _, rfl, rfl, rfl⟩) (loc_fun alive_a rfl (by exact rfl)) ?_
      refine RunL.val (by exact rfl) (loc_pickT rfl rfl) ?_; refine RunL.val (by exact rfl) (loc_assignC rfl) ?_; refine RunL.nil ?_; refine AW.ret ?_
      refine rq ?_
      exact ret_same (by exact .inr rfl) (by exact rfl) trivial
    | true =>
      rw [hs] at hsu
      obtain ⟨rfl, _, _⟩ := walk_sure a [] 0 x k (good_of_Good hg) (fun t h => by cases h) hs hw
      have h4 := sure_unblamed hg (walk_low hok hg hw).2.1 hr
      have h4' : (r.told.kind != 4) = true := by simpa using h4
      have hbare := bare_same hok hg hw hf hr h4
      refine RunL.val (by exact rfl) (loc_moveT rfl) ?_; refine RunL.val (by exact rfl) (loc_extractA rfl rfl) ?_; refine RunL.val (by exact rfl) (loc_extractC rfl rfl) ?_; refine RunL.mem (by exact rfl) (loc_allocD rfl rfl) ?_; refine RunL.eff (by exact rfl) (loc_storeW rfl rfl rfl rfl (by exact rfl) (by exact rfl)) ?_; refine RunL.val (by exact rfl) (loc_assignC rfl) ?_; refine RunL.nil ?_; refine AW.seq ?_; refine AW.region (by kernel_rfl) ?_; refine RunL.val (by exact rfl) (loc_loadA rfl rfl (by exact Cut.all (by exact rfl))) ?_; refine RunL.val (by exact rfl) (loc_moveC rfl) ?_
      refine RunL.val (by exact rfl) (loc_fun (bare_a x hok hsz f r.told 0 hbare) rfl (by refine ⟨_, _, rfl, (by exact LeU.of_eq rfl trivial), (by (refine And.intro ?_ ?_; exact trivial; refine And.intro ?_ ?_; exact trivial; refine And.intro ?_ ?_; exact trivial; refine And.intro ?_ ?_; exact trivial; refine And.intro ?_ ?_; exact trivial; refine And.intro ?_ ?_; exact trivial; refine And.intro ?_ ?_; exact trivial; exact trivial; done)), ?_⟩; refine ⟨_, _, rfl, (by exact LeU.of_eq rfl trivial), (by exact trivial), ?_⟩; exact rfl)) ?_
      refine RunL.val (by exact rfl) (loc_moveT rfl) ?_; refine RunL.val (by exact rfl) (loc_extractA rfl rfl) ?_; refine RunL.val (by exact rfl) (loc_extractC rfl rfl) ?_; refine RunL.mem (by exact rfl) (loc_allocD rfl rfl) ?_; refine RunL.eff (by exact rfl) (loc_storeW rfl rfl rfl rfl (by exact rfl) (by exact rfl)) ?_; refine RunL.val (by exact rfl) (loc_assignC rfl) ?_; refine RunL.nil ?_; refine AW.seq ?_; refine AW.region (by kernel_rfl) ?_; refine RunL.val (by exact rfl) (loc_moveC rfl) ?_; refine RunL.val (by exact rfl) (loc_binInt rfl rfl rfl) ?_; refine RunL.val (by exact rfl) (loc_moveC rfl) ?_; refine RunL.val (by exact .inl ⟨_, _, rfl, rfl, rfl⟩) (loc_loadA rfl rfl (by exact Cut.all (by exact rfl))) ?_
      refine RunL.val (by exact .inl ⟨_, _, rfl, rfl, rfl⟩) (loc_fun hsu rfl (by refine ⟨_, _, rfl, (by exact LeU.of_eq rfl trivial), (by (refine And.intro ?_ ?_; exact trivial; refine And.intro ?_ ?_; exact trivial; refine And.intro ?_ ?_; exact trivial; refine And.intro ?_ ?_; exact trivial; refine And.intro ?_ ?_; exact trivial; refine And.intro ?_ ?_; exact trivial; refine And.intro ?_ ?_; exact trivial; exact trivial; done)), ?_⟩; exact rfl)) ?_
      refine RunL.val (by exact .inl ⟨_, _, rfl, rfl, rfl⟩) (loc_not rfl) ?_; refine RunL.val (by exact rfl) (loc_pickF rfl rfl) ?_; refine RunL.val (by exact rfl) (loc_moveC rfl) ?_; refine RunL.val (by exact .inl ⟨_, _, rfl, rfl, rfl⟩) (loc_moveC rfl) ?_; refine RunL.val (by exact .inl ⟨_, _, rfl, rfl, rfl⟩) (loc_binInt rfl rfl rfl) ?_; refine RunL.val (by exact .inl ⟨_, _, rfl, rfl, rfl⟩) (loc_moveC rfl) ?_; refine RunL.val (by exact .inl ⟨_, _, rfl, rfl, rfl⟩) (loc_loadA rfl rfl (by exact Cut.all (by exact rfl))) ?_; refine RunL.val (by exact .inl ⟨_, _, rfl, rfl, rfl⟩) (loc_loadA rfl rfl (by exact Cut.all (by exact rfl))) ?_
      refine RunL.val (by exact .inl ⟨_, _, rfl, rfl, rfl⟩) (loc_eqOut (o := r.told) (p := r.told) (by exact rfl) (by exact rfl)) ?_
      rw [outEq_refl]
      refine RunL.val (by exact .inl ⟨_, _, rfl, rfl, rfl⟩) (loc_pickT rfl rfl) ?_; refine RunL.val (by exact .inl ⟨_, _, rfl, rfl, rfl⟩) (loc_moveC rfl) ?_; refine RunL.val (by exact .inl ⟨_, _, rfl, rfl, rfl⟩) (loc_fieldAddr rfl) ?_; refine RunL.val (by exact .inl ⟨_, _, rfl, rfl, rfl⟩) (loc_load rfl rfl rfl) ?_; refine RunL.val (by exact .inl ⟨_, _, rfl, rfl, rfl⟩) (loc_binInt rfl rfl rfl) ?_; refine RunL.val (by exact .inl ⟨_, _, rfl, rfl, rfl⟩) (loc_pickT rfl rfl) ?_; refine RunL.val (by exact rfl) (loc_pickF rfl rfl) ?_; refine RunL.val (by exact rfl) (loc_moveC rfl) ?_
      refine RunL.val (by exact .inl ⟨_, _, rfl, rfl, guard_eq true (by assumption) rfl⟩) (loc_fun alive_a rfl (by exact rfl)) ?_
      refine RunL.val (by exact rfl) (loc_pickI true (by assumption) rfl rfl) ?_; refine RunL.val (by exact rfl) (loc_assignC rfl) ?_; refine RunL.nil ?_; refine AW.ret ?_
      refine rq ?_
      exact ret_same (by exact .inr rfl) (by exact rfl) trivial
theorem ret_ttt {P : Program} {x y z : Tmp} {c d f : C} {e : Exit} {t : Nat → U} {h : Nat → Option Blk} (he : e = .normal ∨ e = .ret) (hx : t x = .one c) (hy : t y = .one d) (hz : t z = .one f) (hok : okU' (ofL []) (.tup [.one c, .one d, .one f])) : RetQ P #[.tmp x, .tmp y, .tmp z] (.tup [.one c, .one d, .one f]) [] e t h :=
  ⟨he, [.one c, .one d, .one f], ⟨hx, hy, hz, trivial⟩, ⟨trivial, trivial, trivial, trivial⟩, .tup [.one c, .one d, .one f], rfl, [], trivial, ⟨.le (.refl _), .le (.refl _), .le (.refl _), trivial⟩, trivial, rfl, hok, trivial⟩
/-- What site answers. -/
def siteU : Option Site → U
  | some s => .tup [.one (.bool (s.f.finer s.t)), .one (.bool (s.t.finer s.f)), .one (.bool true)]
  | none => .tup [.one (.bool false), .one (.bool false), .one (.bool false)]
set_option maxHeartbeats 4000000 in
theorem site_a (a x : Tm) (k : Ty) (n : Int) (hok : TmOk a) (hsz : a.nodes ≤ 1048576) (hg : a.Good 0 = true) (hw : walkT a [] 0 = some (x, k)) : ACalls Tryd.prog 25 [a.u, .one (.int .i64 n)] [] (siteU (findS (sitesT x) n)) [] := by
  have hxn := (walk_small hg hw).2
  have hch := check_a a hok hsz
  rw [checkU_some hg hw] at hch
  refine acalls_of_body Tryd.func25 rfl (by kernel_rfl) (Nat.le_of_ble_eq_true rfl) trivial (by simp [namesL]) ?_
  refine AW.seq ?_; refine AW.region (by kernel_rfl) ?_; refine RunL.mem (by exact rfl) (loc_boxD rfl rfl rfl) ?_; refine RunL.val (by exact rfl) (loc_assignC rfl) ?_; refine RunL.val (by exact rfl) (loc_assignC rfl) ?_; refine RunL.val (by exact rfl) (loc_assignC rfl) ?_; refine RunL.nil ?_; refine AW.seq ?_; refine AW.region (by kernel_rfl) ?_; refine RunL.val (by exact rfl) (loc_loadA rfl rfl (by exact Cut.all (by exact rfl))) ?_
  refine RunL.val (by exact rfl) (loc_fun hch rfl (by refine ⟨_, _, rfl, (by exact LeU.of_eq rfl trivial), (by (refine And.intro ?_ ?_; exact trivial; refine And.intro ?_ ?_; exact trivial; refine And.intro ?_ ?_; exact trivial; refine And.intro ?_ ?_; exact trivial; refine And.intro ?_ ?_; exact trivial; refine And.intro ?_ ?_; exact trivial; refine And.intro ?_ ?_; exact trivial; exact trivial; done)), ?_⟩; exact rfl)) ?_
  refine RunL.val (by exact rfl) (loc_moveT rfl) ?_; refine RunL.val (by exact rfl) (loc_extractA rfl rfl) ?_; refine RunL.val (by exact rfl) (loc_extractA rfl rfl) ?_; refine RunL.val (by exact rfl) (loc_extractC rfl rfl) ?_; refine RunL.mem (by exact rfl) (loc_allocD rfl rfl) ?_; refine RunL.mem (by exact rfl) (loc_allocD rfl rfl) ?_; refine RunL.eff (by exact rfl) (loc_storeW rfl rfl rfl rfl (by exact rfl) (by exact rfl)) ?_; refine RunL.eff (by exact rfl) (loc_storeW rfl rfl rfl rfl (by exact rfl) (by exact rfl)) ?_; refine RunL.val (by exact rfl) (loc_assignC rfl) ?_; refine RunL.nil ?_; refine AW.seq ?_; refine AW.seq ?_; refine AW.region (by kernel_rfl) ?_; refine RunL.val (by exact rfl) (loc_loadA rfl rfl (by exact Cut.all (by exact rfl))) ?_
  refine RunL.val (by exact rfl) (loc_fun (sites_a x (by omega)) rfl (by refine ⟨_, _, rfl, (by exact LeU.of_eq rfl trivial), (by (refine And.intro ?_ ?_; exact trivial; refine And.intro ?_ ?_; exact trivial; refine And.intro ?_ ?_; exact trivial; refine And.intro ?_ ?_; exact trivial; refine And.intro ?_ ?_; exact trivial; refine And.intro ?_ ?_; exact trivial; refine And.intro ?_ ?_; exact trivial; exact trivial; done)), ?_⟩; exact rfl)) ?_
  refine RunL.val (by exact rfl) (loc_lenSl rfl) ?_; refine RunL.val (by exact rfl) (loc_moveC rfl) ?_; refine RunL.nil ?_; refine AW.block ?_
  refine AW.gh (gh_lit [(1, .one (.int .i64 n)), (4, .one (.bool false)), (5, .one (.bool false)), (6, .one (.bool false)), (19, .one (slOf 5 (siteRows (sitesT x)))), (20, .one (.int .i64 ((siteRows (sitesT x)).length : Nat))), (21, .one (.int .i64 ((0 : Nat) : Int)))] [] [] [] ⟨(WkU.of_eq rfl trivial), (WkU.of_eq rfl trivial), (WkU.of_eq rfl trivial), (WkU.of_eq rfl trivial), (by exact WkU.of_eq rfl trivial), (WkU.of_eq rfl trivial), (WkU.of_eq rfl trivial), trivial⟩ trivial trivial trivial rfl rfl ⟨trivial, trivial, trivial, trivial, trivial, trivial, trivial, trivial⟩ trivial) ?_
  refine AW.lenSl 19 rfl fun hmax => ?_
  refine AW.loop (fun m t h => ∃ i : Nat, i ≤ (sitesT x).length ∧ m = (sitesT x).length - i ∧ findS (sitesT x) n = findS ((sitesT x).drop i) n ∧ t = tOfL [(1, .one (.int .i64 n)), (4, .one (.bool false)), (5, .one (.bool false)), (6, .one (.bool false)), (19, .one (slOf 5 (siteRows (sitesT x)))), (20, .one (.int .i64 ((siteRows (sitesT x)).length : Nat))), (21, .one (.int .i64 ((i : Nat) : Int)))] ∧ h = ofL []) (sitesT x).length ⟨0, Nat.zero_le _, rfl, rfl, rfl, rfl⟩ ?_
  rintro m t h ⟨i, hi, rfl, hinv, rfl, rfl⟩
  have hL : (siteRows (sitesT x)).length = (sitesT x).length := List.length_map ..
  cases hlt : decide ((i : Int) < ((siteRows (sitesT x)).length : Nat)) with
  | false =>
    have hil : i = (sitesT x).length := by simp at hlt; omega
    refine AW.seq ?_; refine AW.region (by kernel_rfl) ?_; refine RunL.val (by exact rfl) (loc_binInt rfl rfl rfl) ?_; refine RunL.nil ?_; refine AW.seq ?_; refine AW.condFa (by exact rfl) (by assumption) ?_; refine AW.exit ?_; refine AW.seq ?_; refine AW.region (by kernel_rfl) ?_; refine RunL.val (by exact rfl) (loc_assignC rfl) ?_; refine RunL.val (by exact rfl) (loc_assignC rfl) ?_; refine RunL.val (by exact rfl) (loc_assignC rfl) ?_; refine RunL.nil ?_; refine AW.ret ?_
    rw [hinv, hil, List.drop_length]
    refine rq ?_
    exact ret_ttt (by exact .inr rfl) (by exact rfl) (by exact rfl) (by exact rfl) (by exact ⟨trivial, trivial, trivial, trivial⟩)
  | true =>
    have hil : i < (sitesT x).length := by simp at hlt; omega
    have hr1 : (siteRows (sitesT x))[i]? = some (sitesT x)[i].c := by simp [siteRows, hil]
    have hd := findS_drop hil n
    cases hn : ((sitesT x)[i].n == n) with
    | false =>
      rw [hn] at hd
      refine AW.seq ?_; refine AW.region (by kernel_rfl) ?_; refine RunL.val (by exact rfl) (loc_binInt rfl rfl rfl) ?_; refine RunL.nil ?_; refine AW.seq ?_; refine AW.condTa (by exact rfl) (by assumption) ?_; refine AW.skip ?_; refine AW.seq ?_; refine AW.block ?_; refine AW.seq ?_; refine AW.region (by kernel_rfl) ?_; refine RunL.val (by exact rfl) (loc_indexSl _ rfl rfl rfl (by assumption) rfl) ?_; refine RunL.val (by exact rfl) (loc_loadFA rfl (by exact Cut.all (by exact rfl))) ?_; refine RunL.mem (by exact rfl) (loc_allocD rfl rfl) ?_; refine RunL.eff (by exact rfl) (loc_storeW rfl rfl rfl rfl (by exact rfl) (by exact rfl)) ?_; refine RunL.nil ?_; refine AW.seq ?_; refine AW.region (by kernel_rfl) ?_; refine RunL.val (by exact rfl) (loc_fieldAddr rfl) ?_; refine RunL.val (by exact rfl) (loc_load rfl rfl rfl) ?_; refine RunL.val (by exact rfl) (loc_moveC rfl) ?_; refine RunL.val (by exact rfl) (loc_binInt rfl rfl rfl) ?_; refine RunL.nil ?_; refine AW.condFa (by exact rfl) (by assumption) ?_; refine AW.skip ?_; refine AW.region (by kernel_rfl) ?_; refine RunL.val (by exact rfl) (loc_inc rfl rfl (by omega)) ?_; refine RunL.val (by exact rfl) (loc_moveC rfl) ?_; refine RunL.nil ?_
      exact ⟨(sitesT x).length - (i + 1), _, _, by omega, (gh_lit [(1, .one (.int .i64 n)), (4, .one (.bool false)), (5, .one (.bool false)), (6, .one (.bool false)), (19, .one (slOf 5 (siteRows (sitesT x)))), (20, .one (.int .i64 ((siteRows (sitesT x)).length : Nat))), (21, .one (.int .i64 (((i + 1) : Nat) : Int)))] [] [] [] ⟨(WkU.of_eq rfl trivial), (WkU.of_eq rfl trivial), (WkU.of_eq rfl trivial), (WkU.of_eq rfl trivial), (by exact WkU.of_eq rfl trivial), (WkU.of_eq rfl trivial), (WkU.of_eq rfl trivial), trivial⟩ trivial trivial trivial rfl rfl ⟨trivial, trivial, trivial, trivial, trivial, trivial, trivial, trivial⟩ trivial), i + 1, by omega, rfl, by rw [hinv, hd]; rfl, rfl, rfl⟩
    | true =>
      rw [hn] at hd
      refine AW.seq ?_; refine AW.region (by kernel_rfl) ?_; refine RunL.val (by exact rfl) (loc_binInt rfl rfl rfl) ?_; refine RunL.nil ?_; refine AW.seq ?_; refine AW.condTa (by exact rfl) (by assumption) ?_; refine AW.skip ?_; refine AW.seq ?_; refine AW.block ?_; refine AW.seq ?_; refine AW.region (by kernel_rfl) ?_; refine RunL.val (by exact rfl) (loc_indexSl _ rfl rfl rfl (by assumption) rfl) ?_; refine RunL.val (by exact rfl) (loc_loadFA rfl (by exact Cut.all (by exact rfl))) ?_; refine RunL.mem (by exact rfl) (loc_allocD rfl rfl) ?_; refine RunL.eff (by exact rfl) (loc_storeW rfl rfl rfl rfl (by exact rfl) (by exact rfl)) ?_; refine RunL.nil ?_; refine AW.seq ?_; refine AW.region (by kernel_rfl) ?_; refine RunL.val (by exact rfl) (loc_fieldAddr rfl) ?_; refine RunL.val (by exact rfl) (loc_load rfl rfl rfl) ?_; refine RunL.val (by exact rfl) (loc_moveC rfl) ?_; refine RunL.val (by exact rfl) (loc_binInt rfl rfl rfl) ?_; refine RunL.nil ?_; refine AW.condTa (by exact rfl) (by assumption) ?_; refine AW.seq ?_; refine AW.regionD (by kernel_rfl) (by kernel_rfl) (by kernel_rfl) ?_; refine RunL.val (by exact rfl) (loc_fieldAddr rfl) ?_; refine RunL.val (by exact rfl) (loc_loadA rfl rfl (by exact Cut.cons (by exact rfl) (Cut.cons (by exact rfl) Cut.nil))) ?_; refine RunL.val (by exact rfl) (loc_fieldAddr rfl) ?_; refine RunL.val (by exact rfl) (loc_loadA rfl rfl (by exact Cut.cons (by exact rfl) (Cut.cons (by exact rfl) Cut.nil))) ?_
      refine RunL.val (by exact rfl) (loc_fun (finer_a (sitesT x)[i].f (sitesT x)[i].t) rfl (by refine ⟨_, _, rfl, (by exact LeU.of_eq rfl trivial), (by (refine And.intro ?_ ?_; exact trivial; refine And.intro ?_ ?_; exact trivial; exact trivial; done)), ?_⟩; refine ⟨_, _, rfl, (by exact LeU.of_eq rfl trivial), (by (refine And.intro ?_ ?_; exact trivial; refine And.intro ?_ ?_; exact trivial; exact trivial; done)), ?_⟩; exact rfl)) ?_
      refine RunL.val (by exact rfl) (loc_fieldAddr rfl) ?_; refine RunL.val (by exact rfl) (loc_loadA rfl rfl (by exact Cut.cons (by exact rfl) (Cut.cons (by exact rfl) Cut.nil))) ?_; refine RunL.val (by exact rfl) (loc_fieldAddr rfl) ?_; refine RunL.val (by exact rfl) (loc_loadA rfl rfl (by exact Cut.cons (by exact rfl) (Cut.cons (by exact rfl) Cut.nil))) ?_
      refine RunL.val (by exact rfl) (loc_fun (finer_a (sitesT x)[i].t (sitesT x)[i].f) rfl (by refine ⟨_, _, rfl, (by exact LeU.of_eq rfl trivial), (by (refine And.intro ?_ ?_; exact trivial; refine And.intro ?_ ?_; exact trivial; exact trivial; done)), ?_⟩; refine ⟨_, _, rfl, (by exact LeU.of_eq rfl trivial), (by (refine And.intro ?_ ?_; exact trivial; refine And.intro ?_ ?_; exact trivial; exact trivial; done)), ?_⟩; exact rfl)) ?_
      refine RunL.val (by exact rfl) (loc_assignC rfl) ?_; refine RunL.val (by exact rfl) (loc_assignC rfl) ?_; refine RunL.val (by exact rfl) (loc_assignC rfl) ?_; refine RunL.nilD (by kernel_rfl) ?_; refine AW.ret ?_
      rw [hinv, hd]
      refine rq ?_
      exact ret_ttt (by exact .inr rfl) (by exact rfl) (by exact rfl) (by exact rfl) (by exact ⟨trivial, trivial, trivial, trivial⟩)
set_option maxHeartbeats 4000000 in
theorem topBlame_a (a : Tm) (F : Int) (hok : TmOk a) (hsz : a.nodes ≤ 1048576) : ACalls Tryd.prog 7 [a.u, .one (.int .i64 F)] [] (.one (.bool true)) [] := by
  obtain ⟨o, e, hrun⟩ := run_ex a F
  refine acalls_of_body Tryd.func7 rfl (by kernel_rfl) (Nat.le_of_ble_eq_true rfl) trivial (by simp [namesL]) ?_
  refine AW.seq ?_; refine AW.region (by kernel_rfl) ?_; refine RunL.mem (by exact rfl) (loc_boxD rfl rfl rfl) ?_; refine RunL.val (by exact rfl) (loc_assignC rfl) ?_; refine RunL.nil ?_; refine AW.seq ?_; refine AW.region (by kernel_rfl) ?_; refine RunL.val (by exact rfl) (loc_loadA rfl rfl (by exact Cut.all (by exact rfl))) ?_; refine RunL.val (by exact rfl) (loc_moveC rfl) ?_
  refine RunL.val (by exact rfl) (loc_fun (run_a a hok hsz F o e hrun) rfl (by refine ⟨_, _, rfl, (by exact LeU.of_eq rfl trivial), (by (refine And.intro ?_ ?_; exact trivial; refine And.intro ?_ ?_; exact trivial; refine And.intro ?_ ?_; exact trivial; refine And.intro ?_ ?_; exact trivial; refine And.intro ?_ ?_; exact trivial; refine And.intro ?_ ?_; exact trivial; refine And.intro ?_ ?_; exact trivial; exact trivial; done)), ?_⟩; refine ⟨_, _, rfl, (by exact LeU.of_eq rfl trivial), (by exact trivial), ?_⟩; exact rfl)) ?_
  rcases runIs_cases hrun with ⟨he, rfl⟩ | ⟨x, k, f, r, hg, hw, rfl, hf, hr, rfl, rfl⟩
  · refine RunL.val (by exact rfl) (loc_moveT rfl) ?_; refine RunL.val (by exact rfl) (loc_extractA rfl rfl) ?_; refine RunL.val (by exact rfl) (loc_extractC rfl rfl) ?_; refine RunL.mem (by exact rfl) (loc_allocD rfl rfl) ?_; refine RunL.eff (by exact rfl) (loc_storeW rfl rfl rfl rfl (by exact rfl) (by exact rfl)) ?_; refine RunL.val (by exact rfl) (loc_assignC rfl) ?_; refine RunL.nil ?_; refine AW.seq ?_; refine AW.seq ?_; refine AW.region (by kernel_rfl) ?_; refine RunL.val (by exact rfl) (loc_moveC rfl) ?_; refine RunL.val (by exact rfl) (loc_binInt rfl rfl rfl) ?_; refine RunL.val (by exact rfl) (loc_moveC rfl) ?_; refine RunL.skip (.inl ⟨_, _, rfl, rfl, guard_eq true (by assumption) rfl⟩) ?_; refine RunL.skip (.inl ⟨_, _, rfl, rfl, guard_eq true (by assumption) rfl⟩) ?_; refine RunL.skip (.inl ⟨_, _, rfl, rfl, guard_eq true (by assumption) rfl⟩) ?_; refine RunL.val (by exact rfl) (loc_pickI true (by assumption) rfl rfl) ?_; refine RunL.nil ?_; refine AW.condT (by exact rfl) ?_; refine AW.seq ?_; refine AW.region (by kernel_rfl) ?_
    refine RunL.val (by exact rfl) (loc_fun alive_a rfl (by exact rfl)) ?_
    refine RunL.val (by exact rfl) (loc_assignC rfl) ?_; refine RunL.nil ?_; refine AW.ret ?_
    refine rq ?_
    exact ret_same (by exact .inr rfl) (by exact rfl) trivial
  · cases h4 : (r.told.kind != 4) with
    | true =>
      refine RunL.val (by exact rfl) (loc_moveT rfl) ?_; refine RunL.val (by exact rfl) (loc_extractA rfl rfl) ?_; refine RunL.val (by exact rfl) (loc_extractC rfl rfl) ?_; refine RunL.mem (by exact rfl) (loc_allocD rfl rfl) ?_; refine RunL.eff (by exact rfl) (loc_storeW rfl rfl rfl rfl (by exact rfl) (by exact rfl)) ?_; refine RunL.val (by exact rfl) (loc_assignC rfl) ?_; refine RunL.nil ?_; refine AW.seq ?_; refine AW.seq ?_; refine AW.region (by kernel_rfl) ?_; refine RunL.val (by exact rfl) (loc_moveC rfl) ?_; refine RunL.val (by exact rfl) (loc_binInt rfl rfl rfl) ?_; refine RunL.val (by exact rfl) (loc_moveC rfl) ?_; refine RunL.val (by exact .inl ⟨_, _, rfl, rfl, rfl⟩) (loc_fieldAddr rfl) ?_; refine RunL.val (by exact .inl ⟨_, _, rfl, rfl, rfl⟩) (loc_load rfl rfl rfl) ?_; refine RunL.val (by exact .inl ⟨_, _, rfl, rfl, rfl⟩) (loc_binInt rfl rfl rfl) ?_; refine RunL.val (by exact rfl) (loc_pickF rfl rfl) ?_; refine RunL.nil ?_; refine AW.condTa (by exact rfl) (by assumption) ?_; refine AW.seq ?_; refine AW.region (by kernel_rfl) ?_
      refine RunL.val (by exact rfl) (loc_fun alive_a rfl (by exact rfl)) ?_
      refine RunL.val (by exact rfl) (loc_assignC rfl) ?_; refine RunL.nil ?_; refine AW.ret ?_
      refine rq ?_
      exact ret_same (by exact .inr rfl) (by exact rfl) trivial
    | false =>
      have hb : r.told = .blame r.told.n r.told.back := by
        have : r.told.kind = 4 := by simpa using h4
        revert this
        generalize r.told = o
        obtain ⟨k, n, b⟩ := o
        rintro rfl
        rfl
      obtain ⟨s, hs, hn, hsafe⟩ := blamed_site (τ := k) (walk_low hok hg hw).2.1.wf hr hb
      have hsi := site_a a x k r.told.n hok hsz hg hw
      rw [findS_some (walk_sites a [] 0 0 (good_of_Good hg) 0 x k hw).1.nd hs hn] at hsi
      cases hbk : r.told.back with
      | false =>
        rw [hbk, if_pos rfl] at hsafe
        have hbk' : (!r.told.back) = true := by rw [hbk]; rfl
        simp only [siteU, hsafe] at hsi
        refine RunL.val (by exact rfl) (loc_moveT rfl) ?_; refine RunL.val (by exact rfl) (loc_extractA rfl rfl) ?_; refine RunL.val (by exact rfl) (loc_extractC rfl rfl) ?_; refine RunL.mem (by exact rfl) (loc_allocD rfl rfl) ?_; refine RunL.eff (by exact rfl) (loc_storeW rfl rfl rfl rfl (by exact rfl) (by exact rfl)) ?_; refine RunL.val (by exact rfl) (loc_assignC rfl) ?_; refine RunL.nil ?_; refine AW.seq ?_; refine AW.seq ?_; refine AW.region (by kernel_rfl) ?_; refine RunL.val (by exact rfl) (loc_moveC rfl) ?_; refine RunL.val (by exact rfl) (loc_binInt rfl rfl rfl) ?_; refine RunL.val (by exact rfl) (loc_moveC rfl) ?_; refine RunL.val (by exact .inl ⟨_, _, rfl, rfl, rfl⟩) (loc_fieldAddr rfl) ?_; refine RunL.val (by exact .inl ⟨_, _, rfl, rfl, rfl⟩) (loc_load rfl rfl rfl) ?_; refine RunL.val (by exact .inl ⟨_, _, rfl, rfl, rfl⟩) (loc_binInt rfl rfl rfl) ?_; refine RunL.val (by exact rfl) (loc_pickF rfl rfl) ?_; refine RunL.nil ?_; refine AW.condFa (by exact rfl) (by assumption) ?_; refine AW.skip ?_; refine AW.seq ?_; refine AW.region (by kernel_rfl) ?_; refine RunL.val (by exact rfl) (loc_loadA rfl rfl (by exact Cut.all (by exact rfl))) ?_; refine RunL.val (by exact rfl) (loc_fieldAddr rfl) ?_; refine RunL.val (by exact rfl) (loc_load rfl rfl rfl) ?_
        refine RunL.val (by exact rfl) (loc_fun hsi rfl (by refine ⟨_, _, rfl, (by exact LeU.of_eq rfl trivial), (by (refine And.intro ?_ ?_; exact trivial; refine And.intro ?_ ?_; exact trivial; refine And.intro ?_ ?_; exact trivial; refine And.intro ?_ ?_; exact trivial; refine And.intro ?_ ?_; exact trivial; refine And.intro ?_ ?_; exact trivial; refine And.intro ?_ ?_; exact trivial; exact trivial; done)), ?_⟩; refine ⟨_, _, rfl, (by exact LeU.of_eq rfl trivial), (by exact trivial), ?_⟩; exact rfl)) ?_
        refine RunL.val (by exact rfl) (loc_moveT rfl) ?_; refine RunL.val (by exact rfl) (loc_extractC rfl rfl) ?_; refine RunL.val (by exact rfl) (loc_extractC rfl rfl) ?_; refine RunL.val (by exact rfl) (loc_extractC rfl rfl) ?_; refine RunL.val (by exact rfl) (loc_assignC rfl) ?_; refine RunL.val (by exact rfl) (loc_assignC rfl) ?_; refine RunL.val (by exact rfl) (loc_assignC rfl) ?_; refine RunL.nil ?_; refine AW.seq ?_; refine AW.region (by kernel_rfl) ?_; refine RunL.val (by exact rfl) (loc_moveC rfl) ?_; refine RunL.val (by exact rfl) (loc_moveC rfl) ?_; refine RunL.val (by exact .inl ⟨_, _, rfl, rfl, rfl⟩) (loc_fieldAddr rfl) ?_; refine RunL.val (by exact .inl ⟨_, _, rfl, rfl, rfl⟩) (loc_load rfl rfl rfl) ?_; refine RunL.val (by exact .inl ⟨_, _, rfl, rfl, rfl⟩) (loc_moveC rfl) ?_; refine RunL.val (by exact .inl ⟨_, _, rfl, rfl, guard_eq false (by assumption) rfl⟩) (loc_moveC rfl) ?_; refine RunL.val (by exact .inl ⟨_, _, rfl, rfl, guard_eq false (by assumption) rfl⟩) (loc_not rfl) ?_; refine RunL.val (by exact .inl ⟨_, _, rfl, rfl, rfl⟩) (loc_pickI false (by assumption) rfl rfl) ?_; refine RunL.val (by exact rfl) (loc_pickT rfl rfl) ?_; refine RunL.val (by exact rfl) (loc_moveC rfl) ?_; refine RunL.val (by exact .inl ⟨_, _, rfl, rfl, rfl⟩) (loc_fieldAddr rfl) ?_; refine RunL.val (by exact .inl ⟨_, _, rfl, rfl, rfl⟩) (loc_load rfl rfl rfl) ?_; refine RunL.val (by exact .inl ⟨_, _, rfl, rfl, rfl⟩) (loc_not rfl) ?_; refine RunL.val (by exact .inl ⟨_, _, rfl, rfl, rfl⟩) (loc_moveC rfl) ?_; refine RunL.skip (.inl ⟨_, _, rfl, rfl, guard_eq true (by assumption) rfl⟩) ?_; refine RunL.skip (.inl ⟨_, _, rfl, rfl, guard_eq true (by assumption) rfl⟩) ?_; refine RunL.val (by exact .inl ⟨_, _, rfl, rfl, rfl⟩) (loc_pickI true (by assumption) rfl rfl) ?_; refine RunL.val (by exact rfl) (loc_pickT rfl rfl) ?_; refine RunL.val (by exact rfl) (loc_moveC rfl) ?_
        refine RunL.val (by exact .inl ⟨_, _, rfl, rfl, rfl⟩) (loc_fun alive_a rfl (by exact rfl)) ?_
        refine RunL.val (by exact rfl) (loc_pickT rfl rfl) ?_; refine RunL.val (by exact rfl) (loc_assignC rfl) ?_; refine RunL.nil ?_; refine AW.ret ?_
        refine rq ?_
        exact ret_same (by exact .inr rfl) (by exact rfl) trivial
      | true =>
        rw [hbk, if_neg (by decide)] at hsafe
        have hbk' : (!r.told.back) = false := by rw [hbk]; rfl
        simp only [siteU, hsafe] at hsi
        refine RunL.val (by exact rfl) (loc_moveT rfl) ?_; refine RunL.val (by exact rfl) (loc_extractA rfl rfl) ?_; refine RunL.val (by exact rfl) (loc_extractC rfl rfl) ?_; refine RunL.mem (by exact rfl) (loc_allocD rfl rfl) ?_; refine RunL.eff (by exact rfl) (loc_storeW rfl rfl rfl rfl (by exact rfl) (by exact rfl)) ?_; refine RunL.val (by exact rfl) (loc_assignC rfl) ?_; refine RunL.nil ?_; refine AW.seq ?_; refine AW.seq ?_; refine AW.region (by kernel_rfl) ?_; refine RunL.val (by exact rfl) (loc_moveC rfl) ?_; refine RunL.val (by exact rfl) (loc_binInt rfl rfl rfl) ?_; refine RunL.val (by exact rfl) (loc_moveC rfl) ?_; refine RunL.val (by exact .inl ⟨_, _, rfl, rfl, rfl⟩) (loc_fieldAddr rfl) ?_; refine RunL.val (by exact .inl ⟨_, _, rfl, rfl, rfl⟩) (loc_load rfl rfl rfl) ?_; refine RunL.val (by exact .inl ⟨_, _, rfl, rfl, rfl⟩) (loc_binInt rfl rfl rfl) ?_; refine RunL.val (by exact rfl) (loc_pickF rfl rfl) ?_; refine RunL.nil ?_; refine AW.condFa (by exact rfl) (by assumption) ?_; refine AW.skip ?_; refine AW.seq ?_; refine AW.region (by kernel_rfl) ?_; refine RunL.val (by exact rfl) (loc_loadA rfl rfl (by exact Cut.all (by exact rfl))) ?_; refine RunL.val (by exact rfl) (loc_fieldAddr rfl) ?_; refine RunL.val (by exact rfl) (loc_load rfl rfl rfl) ?_
        refine RunL.val (by exact rfl) (loc_fun hsi rfl (by refine ⟨_, _, rfl, (by exact LeU.of_eq rfl trivial), (by (refine And.intro ?_ ?_; exact trivial; refine And.intro ?_ ?_; exact trivial; refine And.intro ?_ ?_; exact trivial; refine And.intro ?_ ?_; exact trivial; refine And.intro ?_ ?_; exact trivial; refine And.intro ?_ ?_; exact trivial; refine And.intro ?_ ?_; exact trivial; exact trivial; done)), ?_⟩; refine ⟨_, _, rfl, (by exact LeU.of_eq rfl trivial), (by exact trivial), ?_⟩; exact rfl)) ?_
        refine RunL.val (by exact rfl) (loc_moveT rfl) ?_; refine RunL.val (by exact rfl) (loc_extractC rfl rfl) ?_; refine RunL.val (by exact rfl) (loc_extractC rfl rfl) ?_; refine RunL.val (by exact rfl) (loc_extractC rfl rfl) ?_; refine RunL.val (by exact rfl) (loc_assignC rfl) ?_; refine RunL.val (by exact rfl) (loc_assignC rfl) ?_; refine RunL.val (by exact rfl) (loc_assignC rfl) ?_; refine RunL.nil ?_; refine AW.seq ?_; refine AW.region (by kernel_rfl) ?_; refine RunL.val (by exact rfl) (loc_moveC rfl) ?_; refine RunL.val (by exact rfl) (loc_moveC rfl) ?_; refine RunL.val (by exact .inl ⟨_, _, rfl, rfl, rfl⟩) (loc_fieldAddr rfl) ?_; refine RunL.val (by exact .inl ⟨_, _, rfl, rfl, rfl⟩) (loc_load rfl rfl rfl) ?_; refine RunL.val (by exact .inl ⟨_, _, rfl, rfl, rfl⟩) (loc_moveC rfl) ?_; refine RunL.skip (.inl ⟨_, _, rfl, rfl, guard_eq true (by assumption) rfl⟩) ?_; refine RunL.skip (.inl ⟨_, _, rfl, rfl, guard_eq true (by assumption) rfl⟩) ?_; refine RunL.val (by exact .inl ⟨_, _, rfl, rfl, rfl⟩) (loc_pickI true (by assumption) rfl rfl) ?_; refine RunL.val (by exact rfl) (loc_pickT rfl rfl) ?_; refine RunL.val (by exact rfl) (loc_moveC rfl) ?_; refine RunL.val (by exact .inl ⟨_, _, rfl, rfl, rfl⟩) (loc_fieldAddr rfl) ?_; refine RunL.val (by exact .inl ⟨_, _, rfl, rfl, rfl⟩) (loc_load rfl rfl rfl) ?_; refine RunL.val (by exact .inl ⟨_, _, rfl, rfl, rfl⟩) (loc_not rfl) ?_; refine RunL.val (by exact .inl ⟨_, _, rfl, rfl, rfl⟩) (loc_moveC rfl) ?_; refine RunL.val (by exact .inl ⟨_, _, rfl, rfl, guard_eq false (by assumption) rfl⟩) (loc_moveC rfl) ?_; refine RunL.val (by exact .inl ⟨_, _, rfl, rfl, guard_eq false (by assumption) rfl⟩) (loc_not rfl) ?_; refine RunL.val (by exact .inl ⟨_, _, rfl, rfl, rfl⟩) (loc_pickI false (by assumption) rfl rfl) ?_; refine RunL.val (by exact rfl) (loc_pickT rfl rfl) ?_; refine RunL.val (by exact rfl) (loc_moveC rfl) ?_
        refine RunL.val (by exact .inl ⟨_, _, rfl, rfl, rfl⟩) (loc_fun alive_a rfl (by exact rfl)) ?_
        refine RunL.val (by exact rfl) (loc_pickT rfl rfl) ?_; refine RunL.val (by exact rfl) (loc_assignC rfl) ?_; refine RunL.nil ?_; refine AW.ret ?_
        refine rq ?_
        exact ret_same (by exact .inr rfl) (by exact rfl) trivial
set_option maxHeartbeats 4000000 in
theorem topTexts_a (s : ByteArray) (F : Int) : ACalls Tryd.prog 5 [.one (.str s), .one (.int .i64 F)] [] (.one (.bool true)) [] := by
  obtain ⟨o, e, ht⟩ := text_ex s F
  obtain ⟨hok, hn⟩ := parse_ok s
  have htx := text_a s F o e ht
  have hp := parse_a s
  unfold parseU at hp
  unfold TextIs at ht
  generalize parse s = q at hp ht hok hn
  obtain ⟨a, pe⟩ := q
  simp only at hp ht hok hn
  refine acalls_of_body Tryd.func5 rfl (by kernel_rfl) (Nat.le_of_ble_eq_true rfl) trivial (by simp [namesL]) ?_
  refine AW.seq ?_; refine AW.region (by kernel_rfl) ?_; refine RunL.val (by exact rfl) (loc_assignC rfl) ?_; refine RunL.nil ?_; refine AW.seq ?_; refine AW.region (by kernel_rfl) ?_; refine RunL.val (by exact rfl) (loc_moveC rfl) ?_; refine RunL.val (by exact rfl) (loc_moveC rfl) ?_
  refine RunL.val (by exact rfl) (loc_fun htx rfl (by refine ⟨_, _, rfl, (by exact LeU.of_eq rfl trivial), (by exact trivial), ?_⟩; refine ⟨_, _, rfl, (by exact LeU.of_eq rfl trivial), (by exact trivial), ?_⟩; exact rfl)) ?_
  refine RunL.val (by exact rfl) (loc_moveT rfl) ?_; refine RunL.val (by exact rfl) (loc_extractA rfl rfl) ?_; refine RunL.val (by exact rfl) (loc_extractC rfl rfl) ?_; refine RunL.mem (by exact rfl) (loc_allocD rfl rfl) ?_; refine RunL.eff (by exact rfl) (loc_storeW rfl rfl rfl rfl (by exact rfl) (by exact rfl)) ?_; refine RunL.val (by exact rfl) (loc_assignC rfl) ?_; refine RunL.nil ?_; refine AW.seq ?_; refine AW.region (by kernel_rfl) ?_; refine RunL.val (by exact rfl) (loc_moveC rfl) ?_
  refine RunL.val (by exact rfl) (loc_fun hp rfl (by refine ⟨_, _, rfl, (by exact LeU.of_eq rfl trivial), (by exact trivial), ?_⟩; exact rfl)) ?_
  rcases ht with ⟨h0, rfl, rfl⟩ | ⟨rfl, hr⟩
  · have h0' : (e != 0) = true := by simpa using h0
    have h0'' : (e == e) = true := by simp
    refine RunL.val (by exact rfl) (loc_moveT rfl) ?_; refine RunL.val (by exact rfl) (loc_extractA rfl rfl) ?_; refine RunL.val (by exact rfl) (loc_extractC rfl rfl) ?_; refine RunL.mem (by exact rfl) (loc_allocD rfl rfl) ?_; refine RunL.eff (by exact rfl) (loc_storeW rfl rfl rfl rfl (by exact rfl) (by exact rfl)) ?_; refine RunL.val (by exact rfl) (loc_assignC rfl) ?_; refine RunL.nil ?_; refine AW.seq ?_; refine AW.seq ?_; refine AW.region (by kernel_rfl) ?_; refine RunL.val (by exact rfl) (loc_moveC rfl) ?_; refine RunL.val (by exact rfl) (loc_binInt rfl rfl rfl) ?_; refine RunL.nil ?_; refine AW.condTa (by exact rfl) (by assumption) ?_; refine AW.seq ?_; refine AW.region (by kernel_rfl) ?_; refine RunL.val (by exact rfl) (loc_moveC rfl) ?_; refine RunL.val (by exact rfl) (loc_moveC rfl) ?_; refine RunL.val (by exact rfl) (loc_binInt rfl rfl rfl) ?_; refine RunL.val (by exact rfl) (loc_moveC rfl) ?_; refine RunL.val (by exact .inl ⟨_, _, rfl, rfl, guard_eq true (by assumption) rfl⟩) (loc_loadA rfl rfl (by exact Cut.all (by exact rfl))) ?_; refine RunL.val (by exact .inl ⟨_, _, rfl, rfl, guard_eq true (by assumption) rfl⟩) (loc_build (by exact rfl) (by exact Cut.all (by exact rfl)) (by exact rfl)) ?_
    refine RunL.val (by exact .inl ⟨_, _, rfl, rfl, guard_eq true (by assumption) rfl⟩) (loc_eqOut (o := .zero) (p := .zero) (by exact rfl) (by exact rfl)) ?_
    refine RunL.val (by exact rfl) (loc_pickI true (by assumption) rfl rfl) ?_; refine RunL.val (by exact rfl) (loc_moveC rfl) ?_
    refine RunL.val (by exact .inl ⟨_, _, rfl, rfl, rfl⟩) (loc_fun alive_a rfl (by exact rfl)) ?_
    refine RunL.val (by exact rfl) (loc_pickT rfl rfl) ?_; refine RunL.val (by exact rfl) (loc_assignC rfl) ?_; refine RunL.nil ?_; refine AW.ret ?_
    refine rq ?_
    exact ret_same (by exact .inr rfl) (by exact rfl) trivial
  · have h0'' : (e == e) = true := by simp
    refine RunL.val (by exact rfl) (loc_moveT rfl) ?_; refine RunL.val (by exact rfl) (loc_extractA rfl rfl) ?_; refine RunL.val (by exact rfl) (loc_extractC rfl rfl) ?_; refine RunL.mem (by exact rfl) (loc_allocD rfl rfl) ?_; refine RunL.eff (by exact rfl) (loc_storeW rfl rfl rfl rfl (by exact rfl) (by exact rfl)) ?_; refine RunL.val (by exact rfl) (loc_assignC rfl) ?_; refine RunL.nil ?_; refine AW.seq ?_; refine AW.seq ?_; refine AW.region (by kernel_rfl) ?_; refine RunL.val (by exact rfl) (loc_moveC rfl) ?_; refine RunL.val (by exact rfl) (loc_binInt rfl rfl rfl) ?_; refine RunL.nil ?_; refine AW.condF (by exact rfl) ?_; refine AW.skip ?_; refine AW.seq ?_; refine AW.region (by kernel_rfl) ?_; refine RunL.val (by exact rfl) (loc_loadA rfl rfl (by exact Cut.all (by exact rfl))) ?_; refine RunL.val (by exact rfl) (loc_moveC rfl) ?_
    refine RunL.val (by exact rfl) (loc_fun (run_a a hok (by omega) F o e hr) rfl (by refine ⟨_, _, rfl, (by exact LeU.of_eq rfl trivial), (by (refine And.intro ?_ ?_; exact trivial; refine And.intro ?_ ?_; exact trivial; refine And.intro ?_ ?_; exact trivial; refine And.intro ?_ ?_; exact trivial; refine And.intro ?_ ?_; exact trivial; refine And.intro ?_ ?_; exact trivial; refine And.intro ?_ ?_; exact trivial; exact trivial; done)), ?_⟩; refine ⟨_, _, rfl, (by exact LeU.of_eq rfl trivial), (by exact trivial), ?_⟩; exact rfl)) ?_
    refine RunL.val (by exact rfl) (loc_moveT rfl) ?_; refine RunL.val (by exact rfl) (loc_extractA rfl rfl) ?_; refine RunL.val (by exact rfl) (loc_extractC rfl rfl) ?_; refine RunL.mem (by exact rfl) (loc_allocD rfl rfl) ?_; refine RunL.eff (by exact rfl) (loc_storeW rfl rfl rfl rfl (by exact rfl) (by exact rfl)) ?_; refine RunL.val (by exact rfl) (loc_assignC rfl) ?_; refine RunL.nil ?_; refine AW.seq ?_; refine AW.region (by kernel_rfl) ?_; refine RunL.val (by exact rfl) (loc_loadA rfl rfl (by exact Cut.all (by exact rfl))) ?_; refine RunL.val (by exact rfl) (loc_loadA rfl rfl (by exact Cut.all (by exact rfl))) ?_
    refine RunL.val (by exact rfl) (loc_eqOut (o := o) (p := o) (by exact rfl) (by exact rfl)) ?_
    rw [outEq_refl]
    refine RunL.val (by exact rfl) (loc_moveC rfl) ?_; refine RunL.val (by exact .inl ⟨_, _, rfl, rfl, rfl⟩) (loc_moveC rfl) ?_; refine RunL.val (by exact .inl ⟨_, _, rfl, rfl, rfl⟩) (loc_moveC rfl) ?_; refine RunL.val (by exact .inl ⟨_, _, rfl, rfl, rfl⟩) (loc_binInt rfl rfl rfl) ?_; refine RunL.val (by exact rfl) (loc_pickT rfl rfl) ?_; refine RunL.val (by exact rfl) (loc_moveC rfl) ?_
    refine RunL.val (by exact .inl ⟨_, _, rfl, rfl, guard_eq true (by assumption) rfl⟩) (loc_fun alive_a rfl (by exact rfl)) ?_
    refine RunL.val (by exact rfl) (loc_pickI true (by assumption) rfl rfl) ?_; refine RunL.val (by exact rfl) (loc_assignC rfl) ?_; refine RunL.nil ?_; refine AW.ret ?_
    refine rq ?_
    exact ret_same (by exact .inr rfl) (by exact rfl) trivial
end Go.Proofs.YtnflnbdlgdjfmabDoor
namespace Go.Proofs.YtnflnbdlgdjfmabDoor
open Go.ChangeShapes Go.WideShapes Go.ChangeAt Go.RowKit Go.Joins Go.Deep
set_option linter.unusedVariables false
set_option linter.unusedSimpArgs false
/-- What lies in memory when the call begins. -/
def Old (w : World) : Nat → Prop := fun k => k < w.heap.size
theorem bulk_mem {H : Type} {d : DataW H} {l : List (DataW H)} (h : d ∈ l) : Rows.uptoBulk d ≤ Rows.uptoBulkAll l := by
  induction l with
  | nil => cases h
  | cons x r ih =>
    simp only [Rows.uptoBulkAll]
    cases List.mem_cons.1 h with
    | inl e => subst e; omega
    | inr e => have := ih e; omega
theorem bulk_pos {H : Type} (d : DataW H) : 1 ≤ Rows.uptoBulk d := by
  cases d with
  | lit l => cases l <;> simp [Rows.uptoBulk]
  | _ => simp [Rows.uptoBulk]
theorem bulk_lenAll {H : Type} (l : List (DataW H)) : l.length ≤ Rows.uptoBulkAll l := by
  induction l with
  | nil => simp [Rows.uptoBulkAll]
  | cons x r ih => have := bulk_pos x; simp only [List.length_cons, Rows.uptoBulkAll]; omega
section
variable {H : Type} {enc : TypeId × Value → H} {w : World} {sp : Nat → Bool} {held : Bool} {F : Nat → Prop}
/-- A slice whose elements are read. -/
theorem open_rows {α : Type} [Inhabited α] {P : Program} {t e k fuel : Nat} {cs : List Value} {x : DataW H × List MemPlace} (c : α → List C) (sz : α → Nat) (G : α → Prop) (ht : P.underlying t = some (.slice e)) (hk : P.cellsOf e = k) (hk0 : 0 < k) (hc : ∀ y, (c y).length = k)
    (h : DataW.trod enc P w 0 sp held fuel t cs = some x) (hb : Rows.uptoBulk x.1 ≤ 1048576)
    (elem : ∀ (n : Nat) (cs' : List Value) (d' : DataW H) (ps' : List MemPlace), Rows.uptoBulk d' < Rows.uptoBulk x.1 → DataW.trod enc P w 0 sp held n e cs' = some (d', ps') → ∃ y : α, All2 (relK (Old w) w) (c y) cs' ∧ G y ∧ sz y ≤ Rows.uptoBulk d') :
    ∃ (l : List α) (v : Value), cs = [v] ∧ relK (Old w) w (slOf k (l.map c)) v ∧ (∀ y ∈ l, G y) ∧ (l.map sz).sum + 1 ≤ Rows.uptoBulk x.1 ∧ l.length < Rows.uptoBulk x.1 := by
  rcases open_slice ht h with ⟨rfl, rfl⟩ | ⟨a, len, cap, m, n, D, Pl, rfl, _, hle, hcap, hm, rfl, hel⟩
  · exact ⟨[], _, rfl, ⟨none, 0, rfl, Nat.zero_le _, Nat.zero_le _, fun i hi => absurd hi (Nat.not_lt_zero _)⟩, fun y hy => (by cases hy), by simp [Rows.uptoBulk], by simp [Rows.uptoBulk]⟩
  · have hlm : len ≤ m := by rw [hm]; split <;> omega
    have hbk : Rows.uptoBulk (DataW.slice ((List.range len).map D) ((List.range (m - len)).map fun j => D (len + j))) = Rows.uptoBulkAll ((List.range len).map D) + Rows.uptoBulkAll ((List.range (m - len)).map fun j => D (len + j)) + 1 := by simp [Rows.uptoBulk]
    simp only at hb elem ⊢
    rw [hbk] at hb
    have part : ∀ i, ∃ y : α, i < len → (∀ j, j < k → ∃ u, w.cell? (a.add (i * k + j)) = some u ∧ relK (Old w) w (rowF (c y) j) u) ∧ G y ∧ sz y ≤ Rows.uptoBulk (D i) := by
      intro i
      by_cases hi : i < len
      · obtain ⟨cs', hcs, hd⟩ := hel i (by omega)
        rw [hk] at hcs
        have hDi : Rows.uptoBulk (D i) ≤ Rows.uptoBulkAll ((List.range len).map D) := bulk_mem (List.mem_map.2 ⟨i, List.mem_range.2 hi, rfl⟩)
        obtain ⟨y, h1, h2, h3⟩ := elem n cs' (D i) (Pl i) (by rw [hbk]; omega) hd
        obtain ⟨_, hlen, hat⟩ := World.cells?_some hcs
        refine ⟨y, fun _ => ⟨fun j hj => ?_, h2, h3⟩⟩
        have hjc : j < (c y).length := by rw [hc]; exact hj
        obtain ⟨u, hu, hr⟩ := h1.get j _ (List.getElem?_eq_getElem hjc)
        refine ⟨u, ?_, ?_⟩
        · have := hat j hj
          rw [hu] at this
          rw [← this, Go.Deep.add_add]
        · rw [show rowF (c y) j = (c y)[j] by simp [rowF, hjc]]; exact hr
      · exact ⟨default, fun h => absurd h hi⟩
    obtain ⟨T, hT⟩ := Classical.axiomOfChoice part
    have hlen2 : len ≤ 1048576 := by
      have := bulk_lenAll ((List.range len).map D)
      simp at this; omega
    refine ⟨(List.range len).map T, _, rfl, ⟨some a, cap, by simp, by simpa using hle, by simp [maxLen]; omega, fun i hi => ?_⟩, fun y hy => ?_, ?_, ?_⟩
    · have hi : i < len := by simpa using hi
      obtain ⟨h1, _, _⟩ := hT i hi
      obtain ⟨u0, hu0, _⟩ := h1 0 hk0
      have hsp : a.spot = none := by
        obtain ⟨h2, _, _⟩ := hT 0 (by omega)
        obtain ⟨u1, hu1, _⟩ := h2 0 hk0
        rw [show (0 * k + 0) = 0 by omega, show a.add 0 = a from rfl] at hu1
        unfold World.cell? at hu1
        split at hu1
        · split at hu1
          · cases hu1
          · rename_i hne; simpa using hne
        · cases hu1
      obtain ⟨ab, ao, asp⟩ := a
      simp only at hsp
      subst hsp
      have hadd : ∀ n, (⟨ab, ao, none⟩ : Addr).add n = ⟨ab, ao + n, none⟩ := fun n => by
        unfold Addr.add
        split
        · rename_i h0; rw [h0]; rfl
        · rfl
      refine ⟨ab, ao, rfl, ?_, fun j hj => ?_⟩
      · rw [hadd] at hu0
        exact World.block_lt_of_cell? _ _ hu0
      · obtain ⟨u, hu, hr⟩ := h1 j hj
        rw [hadd] at hu
        refine ⟨u, by rw [Nat.add_assoc]; exact hu, ?_⟩
        simpa [hi] using hr
    · obtain ⟨i, hi, rfl⟩ := List.mem_map.1 hy
      exact (hT i (List.mem_range.1 hi)).2.1
    · rw [hbk]
      have hsum : ∀ (l : List Nat), (∀ i ∈ l, i < len) → ((l.map T).map sz).sum ≤ Rows.uptoBulkAll (l.map D) := by
        intro l
        induction l with
        | nil => intro _; simp
        | cons i l ihl =>
          intro hl
          have h1 := (hT i (hl i (List.mem_cons_self ..))).2.2
          have h2 := ihl fun j hj => hl j (List.mem_cons_of_mem _ hj)
          simp only [List.map_cons, List.sum_cons, Rows.uptoBulkAll]
          omega
      have := hsum (List.range len) fun i hi => List.mem_range.1 hi
      omega
    · have := bulk_lenAll ((List.range len).map D)
      simp at this ⊢
      rw [hbk]; omega
end
theorem len5 {α : Type} {l : List α} (h : l.length = 5) : ∃ a b c d e, l = [a, b, c, d, e] := by
  match l, h with
  | [a, b, c, d, e], _ => exact ⟨a, b, c, d, e, rfl⟩
theorem len7 {α : Type} {l : List α} (h : l.length = 7) : ∃ a b c d e f g, l = [a, b, c, d, e, f, g] := by
  match l, h with
  | [a, b, c, d, e, f, g], _ => exact ⟨a, b, c, d, e, f, g, rfl⟩
instance : Inhabited Ty := ⟨.any⟩
instance : Inhabited Tm := ⟨.mk 0 0 .any .any []⟩
mutual
def Ty.size : Ty → Nat
  | .mk _ l => 1 + sizeL l
def sizeL : List Ty → Nat
  | [] => 0
  | t :: l => Ty.size t + sizeL l
end
theorem sizeL_sum : ∀ l : List Ty, sizeL l = (l.map Ty.size).sum
  | [] => rfl
  | a :: l => by simp [sizeL, sizeL_sum l]
theorem nodesL_sum : ∀ l : List Tm, nodesL l = (l.map Tm.nodes).sum
  | [] => rfl
  | a :: l => by simp [nodesL, nodesL_sum l]
theorem struct_Type : ∃ f0 f1 : Field, Tryd.prog.underlying 24 = some (.struct #[f0, f1]) ∧ f0.type = 3 ∧ f0.offset = 0 ∧ f1.type = 22 ∧ f1.offset = 1 := ⟨_, _, Tryd.underlying24, rfl, rfl, rfl, rfl⟩
theorem cells_int : Tryd.prog.cellsOf 3 = 1 := by kernel_rfl
theorem cells_types : Tryd.prog.cellsOf 22 = 1 := by kernel_rfl
theorem cells_Type : Tryd.prog.cellsOf 24 = 2 := by kernel_rfl
theorem struct_Term : ∃ f0 f1 f2 f3 f4 : Field, Tryd.prog.underlying 27 = some (.struct #[f0, f1, f2, f3, f4]) ∧ (f0.type = 3 ∧ f0.offset = 0) ∧ (f1.type = 3 ∧ f1.offset = 1) ∧ (f2.type = 24 ∧ f2.offset = 2) ∧ (f3.type = 24 ∧ f3.offset = 4) ∧ (f4.type = 25 ∧ f4.offset = 6) := ⟨_, _, _, _, _, Tryd.underlying27, ⟨rfl, rfl⟩, ⟨rfl, rfl⟩, ⟨rfl, rfl⟩, ⟨rfl, rfl⟩, ⟨rfl, rfl⟩⟩
theorem cells_terms : Tryd.prog.cellsOf 25 = 1 := by kernel_rfl
theorem cells_Term : Tryd.prog.cellsOf 27 = 7 := by kernel_rfl
section
variable {H : Type} {enc : TypeId × Value → H} {w : World} {sp : Nat → Bool} {held : Bool}
/-- What reads as a type is one. -/
theorem trod_Ty : ∀ (N fuel : Nat) (cs : List Value) (d : DataW H) (ps : List MemPlace), Rows.uptoBulk d ≤ N → N ≤ 1048576 → DataW.trod enc Tryd.prog w 0 sp held fuel 24 cs = some (d, ps) →
    ∃ t : Ty, All2 (relK (Old w) w) t.c cs ∧ Thin t ∧ t.size ≤ Rows.uptoBulk d := by
  intro N
  induction N with
  | zero => intro fuel cs d ps hN; have := bulk_pos d; omega
  | succ N ih =>
    intro fuel cs d ps hN hmax h
    obtain ⟨f0, f1, hu, t0, o0, t1, o1⟩ := struct_Type
    obtain ⟨y0, y1, n, hx, hlen, h0, h1⟩ := trod_struct2 hu h
    simp only [Prod.mk.injEq] at hx
    obtain ⟨rfl, rfl⟩ := hx
    rw [cells_Type] at hlen
    obtain ⟨c0, c1, rfl⟩ := len2 hlen
    rw [t0, o0, cells_int] at h0
    rw [t1, o1, cells_types] at h1
    simp only [List.drop_zero, List.take_succ_cons, List.take_zero, List.drop_succ_cons] at h0 h1
    obtain ⟨k, hk, hy0, _⟩ := DataW.trod_int Tryd.underlying3 h0
    obtain rfl : c0 = .int .i64 k := by simpa using hk
    have hb : Rows.uptoBulk (DataW.agg [y0.1, y1.1]) = Rows.uptoBulk y1.1 + 2 := by rw [hy0]; simp [Rows.uptoBulk, Rows.uptoBulkAll]; omega
    rw [hb] at hN
    obtain ⟨l, v, hv, hr, hG, hs, hl⟩ := open_rows (α := Ty) Ty.c Ty.size Thin Tryd.underlying22 cells_Type (by decide) (fun y => rfl) h1 (by omega) (fun n cs' d' ps' hd h => by
      obtain ⟨t, h1, h2, h3⟩ := ih n cs' d' ps' (by omega) (by omega) h
      exact ⟨t, h1, h2, h3⟩)
    obtain rfl : c1 = v := by simpa using hv
    refine ⟨.mk k l, ⟨rfl, ?_, trivial⟩, .mk k l (by omega) hG, ?_⟩
    · show relK (Old w) w (slOf 2 (tyRows l)) c1
      rw [tyRows_map]; exact hr
    · simp only [Ty.size, sizeL_sum]; omega
/-- What reads as a term is one. -/
theorem trod_Tm : ∀ (N fuel : Nat) (cs : List Value) (d : DataW H) (ps : List MemPlace), Rows.uptoBulk d ≤ N → N ≤ 1048576 → DataW.trod enc Tryd.prog w 0 sp held fuel 27 cs = some (d, ps) →
    ∃ t : Tm, All2 (relK (Old w) w) t.c cs ∧ TmOk t ∧ t.nodes ≤ Rows.uptoBulk d := by
  intro N
  induction N with
  | zero => intro fuel cs d ps hN; have := bulk_pos d; omega
  | succ N ih =>
    intro fuel cs d ps hN hmax h
    obtain ⟨f0, f1, f2, f3, f4, hu, ⟨t0, o0⟩, ⟨t1, o1⟩, ⟨t2, o2⟩, ⟨t3, o3⟩, ⟨t4, o4⟩⟩ := struct_Term
    obtain ⟨xs, n, rfl, hx, hlen, hxs, hf⟩ := DataW.trod_struct hu h
    simp only [Prod.mk.injEq] at hx
    obtain ⟨rfl, rfl⟩ := hx
    rw [cells_Term] at hlen
    obtain ⟨c0, c1, c2, c3, c4, c5, c6, rfl⟩ := len7 hlen
    obtain ⟨y0, y1, y2, y3, y4, rfl⟩ := len5 hxs
    have g0 := hf 0 f0 rfl
    have g1 := hf 1 f1 rfl
    have g2 := hf 2 f2 rfl
    have g3 := hf 3 f3 rfl
    have g4 := hf 4 f4 rfl
    rw [t0, o0, cells_int] at g0
    rw [t1, o1, cells_int] at g1
    rw [t2, o2, cells_Type] at g2
    rw [t3, o3, cells_Type] at g3
    rw [t4, o4, cells_terms] at g4
    simp only [List.drop_zero, List.take_succ_cons, List.take_zero, List.drop_succ_cons, List.getElem?_cons_zero, List.getElem?_cons_succ] at g0 g1 g2 g3 g4
    obtain ⟨k, hk, hy0, _⟩ := DataW.trod_int Tryd.underlying3 g0
    obtain rfl : c0 = .int .i64 k := by simpa using hk
    obtain ⟨m, hm, hy1, hwf⟩ := DataW.trod_int Tryd.underlying3 g1
    obtain rfl : c1 = .int .i64 m := by simpa using hm
    have hmm : m ≤ 9223372036854775807 := by
      simp only [Lit.wf, Bool.and_eq_true, decide_eq_true_eq] at hwf
      have h9 : IntKind.i64.max = 9223372036854775807 := by decide
      rw [← h9]; exact hwf.2
    have hb : Rows.uptoBulk (DataW.agg ([y0, y1, y2, y3, y4].map (·.1))) = Rows.uptoBulk y2.1 + Rows.uptoBulk y3.1 + Rows.uptoBulk y4.1 + 3 := by rw [hy0, hy1]; simp [Rows.uptoBulk, Rows.uptoBulkAll]; omega
    rw [hb] at hN
    obtain ⟨T, hT, hTt, hTs⟩ := trod_Ty 1048576 n _ y2.1 y2.2 (by omega) (Nat.le_refl _) g2
    obtain ⟨Fm, hFm, hFt, hFs⟩ := trod_Ty 1048576 n _ y3.1 y3.2 (by omega) (Nat.le_refl _) g3
    obtain ⟨l, v, hv, hr, hG, hs, hl⟩ := open_rows (α := Tm) Tm.c Tm.nodes TmOk Tryd.underlying25 cells_Term (by decide) (fun y => rfl) g4 (by omega) (fun n cs' d' ps' hd h => by
      obtain ⟨t, h1, h2, h3⟩ := ih n cs' d' ps' (by omega) (by omega) h
      exact ⟨t, h1, h2, h3⟩)
    obtain rfl : c6 = v := by simpa using hv
    obtain ⟨hT0, hT1, _⟩ := hT
    obtain ⟨hF0, hF1, _⟩ := hFm
    refine ⟨.mk k m T Fm l, ⟨rfl, rfl, hT0, hT1, hF0, hF1, ?_, trivial⟩, .mk hmm hTt hFt hG, ?_⟩
    · show relK (Old w) w (slOf 7 (tmRows l)) c6
      rw [tmRows_map]; exact hr
    · rw [hb]; simp only [Tm.nodes, nodesL_sum]; omega
end
end Go.Proofs.YtnflnbdlgdjfmabDoor
