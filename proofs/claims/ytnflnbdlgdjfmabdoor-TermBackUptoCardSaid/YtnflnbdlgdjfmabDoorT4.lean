/-
  DERIVED: THE SHELF's CONTRACTS AT THIS DUMP, IN PLAIN WORDS (tools/lay-plain.mjs out of 'TrydShelf.lean', which tools/lay-shelf.mjs wrote): THE SAME DECLARATIONS UNDER THE SAME NAMES: 'import', 'namespace', 'open', 'def', 'theorem' AND NOTHING ELSE: no command of the shelf's: FOR A HAND-IN. Each laying: the table of numbers ('.._ren') and one theorem, a field a fact of the dump's own or the kernel
  Contracts of what only makes memory, in this frame. Conditions: those typed in each theorem.
  What Go's library answers, as contracts of this frame. Conditions: those typed in each theorem.
  What the reader reads, on words. Conditions: those typed in each theorem.
  The text of a term; read again it is the term. Conditions: those typed in each theorem.
  The walks of next, number and kind. Conditions: those typed in each theorem.
  The walk of kind. Conditions: those typed in each theorem.
  The walk of term. Conditions: the words are not too long.
  The walks of typed, show, Print. Conditions: those typed in each theorem.
  The walks of Parse and Text. Conditions: those typed in each theorem.
  The walks of terms and TermBack. Conditions: those typed in each theorem.
-/
import Derived.Test.YtnflnbdlgdjfmabDoorT3
import Derived.Shelf.Strings.Builder1
import Derived.Shelf.Strings.Builder2
import Derived.Shelf.Utf8.RuneCount
import Derived.Shelf.Strconv.Atoi
import Derived.Shelf.Strconv.Itoa0
import Derived.Shelf.Strconv.Itoa1
import Derived.Shelf.LaysM
import Derived.Shelf.Strconv.Itoa2
import Derived.Shelf.Strconv.Itoa3
import Derived.Shelf.Strconv.AtoiErrFast
import Derived.Shelf.Strconv.ParseIntEmpty
import Derived.Shelf.Strconv.AtoiFail
import Derived.Shelf.Strconv.Clone
import Derived.Shelf.Strconv.SyntaxError
import Derived.Shelf.LaysC
import Derived.Shelf.Strconv.ToError
import Derived.Shelf.Strconv.Lower
import Derived.Shelf.Strconv.ParseUint10
import Derived.Shelf.Strconv.ParseUint10Empty
import Derived.Shelf.Strconv.ParseUint10Any
import Derived.Shelf.Strconv.ParseInt10
import Derived.Shelf.Strconv.AtoiLong
import Derived.Shelf.Strconv.AtoiInnerAll
import Derived.Shelf.Strconv.RangeError
import Derived.Shelf.Strconv.ToErrorRange
import Derived.Shelf.Strconv.AtoiAll
import Derived.Shelf.Strconv.ErrVarAll
import Derived.Shelf.Strings.Search1
import Derived.Shelf.Strings.Search2
import Derived.Shelf.Strings.Search3
import Derived.Shelf.Strings.Count
import Derived.Shelf.Strings.Shaped
import Derived.Shelf.Strings.Prefix
import Derived.Shelf.Strings.Split
import Derived.Shelf.Strings.Fields
import Derived.Shelf.Strings.Replace
import Derived.Shelf.Strings.SplitShaped
import Derived.Shelf.Unicode.Latin
import Derived.Shelf.Unicode.Decode
import Derived.Shelf.Strings.RuneCount
import Derived.Shelf.Unicode.DecodeSlow
import Derived.Shelf.Unicode.DecodeAny
import Derived.Shelf.Unicode.Is16White
import Derived.Shelf.Unicode.IsSpaceAny
import Derived.Shelf.Strings.FieldsFuncAny
import Derived.Shelf.Unicode.Is16Any
import Derived.Shelf.Unicode.Is32Any
import Derived.Shelf.Unicode.ExclAny
import Derived.Shelf.Strings.FieldsFuncGrows
import Derived.Test.YtnflnbdlgdjfmabDoorProg
import Derived.Lib.SmallJoins
import Derived.Lib.LaidTab
import Derived.Lib.SplitLaws
namespace Go.Proofs
open Go.Shelf
open Go.RowKit in
open Go.RowKit in
open Go.RowKit in
open Go.RowKit in
open Go.RowKit in
open Go.RowKit in
open Go.RowKit in
open Go.RowKit in
open Go.Lib in
open Go.Lib in
open Go.Lib in
open Go.Lib in
open Go.RowKit Go.Sort Go.Lib in
open Go.RowKit Go.Sort Go.Lib in
open Go.RowKit Go.Sort Go.Lib in
open Go.RowKit Go.Sort Go.Lib in
open Go.RowKit Go.Sort Go.Lib in
def Tryd.laysM171_ren : Go.Shelf.Ren := ⟨fun | 171 => 44 | 243 => 62 | 246 => 85 | 283 => 102 | 284 => 103 | 285 => 104 | 286 => 105 | 129 => 120 | 317 => 119 | 318 => 121 | 319 => 122 | 320 => 123 | 337 => 129 | 338 => 130 | n => n, fun | 3 => 3 | 9 => 9 | 2 => 2 | 4 => 4 | 171 => 142 | 0 => 0 | 53 => 143 | 37 => 98 | 5 => 5 | 173 => 146 | 212 => 173 | 51 => 130 | 20 => 20 | 213 => 174 | 46 => 151 | 232 => 193 | 233 => 194 | n => n, fun | 17 => 8 | 18 => 11 | 19 => 12 | n => n⟩
theorem Tryd.laysM171 : Go.Proofs.LaysM.n171 Tryd.prog Tryd.laysM171_ren := {
  mixed := by kernel_rfl
  f129 := Tryd.func120.trans (congrArg some (by kernel_rfl))
  f171 := Tryd.func44.trans (congrArg some (by kernel_rfl))
  f243 := Tryd.func62.trans (congrArg some (by kernel_rfl))
  f246 := Tryd.func85.trans (congrArg some (by kernel_rfl))
  f283 := Tryd.func102.trans (congrArg some (by kernel_rfl))
  f284 := Tryd.func103.trans (congrArg some (by kernel_rfl))
  f285 := Tryd.func104.trans (congrArg some (by kernel_rfl))
  f286 := Tryd.func105.trans (congrArg some (by kernel_rfl))
  f317 := Tryd.func119.trans (congrArg some (by kernel_rfl))
  f318 := Tryd.func121.trans (congrArg some (by kernel_rfl))
  f319 := Tryd.func122.trans (congrArg some (by kernel_rfl))
  f320 := Tryd.func123.trans (congrArg some (by kernel_rfl))
  f337 := Tryd.func129.trans (congrArg some (by kernel_rfl))
  f338 := Tryd.func130.trans (congrArg some (by kernel_rfl))
  t0 := Tryd.underlying0
  a0 := Tryd.isAgg0
  z0 := Tryd.sizeOf0
  v0 := Tryd.zeroValue0
  t2 := Tryd.underlying2
  a2 := Tryd.isAgg2
  z2 := Tryd.sizeOf2
  v2 := Tryd.zeroValue2
  t3 := Tryd.underlying3
  a3 := Tryd.isAgg3
  z3 := Tryd.sizeOf3
  v3 := Tryd.zeroValue3
  t4 := Tryd.underlying4
  a4 := Tryd.isAgg4
  z4 := Tryd.sizeOf4
  v4 := Tryd.zeroValue4
  t5 := Tryd.underlying5
  a5 := Tryd.isAgg5
  z5 := Tryd.sizeOf5
  v5 := Tryd.zeroValue5
  t9 := Tryd.underlying9
  a9 := Tryd.isAgg9
  z9 := Tryd.sizeOf9
  v9 := Tryd.zeroValue9
  t20 := Tryd.underlying20
  a20 := Tryd.isAgg20
  z20 := Tryd.sizeOf20
  v20 := Tryd.zeroValue20
  t37 := Tryd.underlying98
  a37 := Tryd.isAgg98
  z37 := Tryd.sizeOf98
  v37 := Tryd.zeroValue98
  t46 := Tryd.underlying151
  a46 := Tryd.isAgg151
  z46 := Tryd.sizeOf151
  v46 := Tryd.zeroValue151
  t51 := Tryd.underlying130
  a51 := Tryd.isAgg130
  z51 := Tryd.sizeOf130
  v51 := Tryd.zeroValue130
  t53 := Tryd.underlying143
  a53 := Tryd.isAgg143
  z53 := Tryd.sizeOf143
  v53 := Tryd.zeroValue143
  t171 := Tryd.underlying142
  a171 := Tryd.isAgg142
  z171 := Tryd.sizeOf142
  v171 := Tryd.zeroValue142
  t173 := Tryd.underlying146
  a173 := Tryd.isAgg146
  z173 := Tryd.sizeOf146
  v173 := Tryd.zeroValue146
  t212 := Tryd.underlying173
  a212 := Tryd.isAgg173
  z212 := Tryd.sizeOf173
  v212 := Tryd.zeroValue173
  t213 := Tryd.underlying174
  a213 := Tryd.isAgg174
  z213 := Tryd.sizeOf174
  t232 := Tryd.underlying193
  a232 := Tryd.isAgg193
  z232 := Tryd.sizeOf193
  v232 := Tryd.zeroValue193
  t233 := Tryd.underlying194
  a233 := Tryd.isAgg194
  z233 := Tryd.sizeOf194
  v233 := Tryd.zeroValue194
  g17 := by kernel_rfl
  g18 := by kernel_rfl
  g19 := by kernel_rfl
  i0 := by kernel_rfl
  i2 := by kernel_rfl
  i3 := by kernel_rfl
  i4 := by kernel_rfl
  i5 := by kernel_rfl
  i9 := by kernel_rfl
  i20 := by kernel_rfl
  i37 := by kernel_rfl
  i46 := by kernel_rfl
  i51 := by kernel_rfl
  i53 := by kernel_rfl
  i171 := by kernel_rfl
  i173 := by kernel_rfl
  i212 := by kernel_rfl
  i232 := by kernel_rfl
  i233 := by kernel_rfl
  m17 := by kernel_rfl
  m18 := by kernel_rfl
  m19 := by kernel_rfl }
open Go.RowKit Go.Sort Go.Lib in
/-- strconv.Itoa: "Itoa is equivalent to FormatInt(int64(i), 10).": i's DECIMAL NUMERAL ('Lib.itoa': a '-' where i is negative, then the digits), FOR EVERY int. The world behind the call: the world before it, new blocks behind the heap (the library's 'var a [24]byte'), draws. (LAID: no walk: one application.) -/
theorem Tryd.strconv_Itoa (n : Int) (h0 : -9223372036854775808 ≤ n) (h1 : n ≤ 9223372036854775807) (w : World) (htab : Lib.TabIs Tryd.prog w "internal/strconv.uint64pow10" .u64 Lib.pow10Tab) :
    Calls Tryd.prog 44 #[.int .i64 n] w fun e w' => e = .returned (.string ⟨(Lib.itoa n).toArray⟩) ∧ ∃ k os, w' = grow (w.drewN k) os := Any.strconv_Itoa Tryd.laysM171 n h0 h1 w htab
open Go.RowKit Go.Sort Go.Lib in
open Go.RowKit in
open Go.RowKit in
open Go.RowKit in
open Go.RowKit in
open Go.RowKit in
open Go.RowKit in
open Go.RowKit in
open Go.RowKit in
open Go.RowKit in
open Go.RowKit in
open Go.RowKit in
open Go.RowKit in
open Go.RowKit in
open Go.RowKit in
open Go.RowKit in
open Go.RowKit in
def Tryd.laysC172_ren : Go.Shelf.Ren := ⟨fun | 172 => 70 | 244 => 92 | 245 => 93 | 247 => 112 | 279 => 113 | 280 => 114 | 281 => 115 | 282 => 116 | 287 => 126 | 316 => 127 | 171 => 44 | 205 => 128 | 321 => 131 | 322 => 132 | 243 => 62 | 246 => 85 | 283 => 102 | 284 => 103 | 285 => 104 | 286 => 105 | 129 => 120 | 317 => 119 | 318 => 121 | 319 => 122 | 320 => 123 | 337 => 129 | 338 => 130 | n => n, fun | 9 => 9 | 3 => 3 | 75 => 103 | 76 => 104 | 4 => 4 | 5 => 5 | 167 => 155 | 37 => 98 | 0 => 0 | 85 => 156 | 2 => 2 | 168 => 158 | 53 => 143 | 175 => 179 | 46 => 151 | 210 => 183 | 127 => 128 | 145 => 192 | 143 => 190 | 21 => 21 | 171 => 142 | 173 => 146 | 212 => 173 | 51 => 130 | 20 => 20 | 213 => 174 | 232 => 193 | 233 => 194 | 80 => 75 | n => n, fun | 15 => 9 | 16 => 10 | 17 => 8 | 18 => 11 | 19 => 12 | n => n⟩
theorem Tryd.laysC172 : Go.Proofs.LaysC.n172 Tryd.prog Tryd.laysC172_ren := {
  mixed := by kernel_rfl
  f129 := Tryd.func120.trans (congrArg some (by kernel_rfl))
  f171 := Tryd.func44.trans (congrArg some (by kernel_rfl))
  f172 := Tryd.func70.trans (congrArg some (by kernel_rfl))
  f205 := Tryd.func128.trans (congrArg some (by kernel_rfl))
  f243 := Tryd.func62.trans (congrArg some (by kernel_rfl))
  f244 := Tryd.func92.trans (congrArg some (by kernel_rfl))
  f245 := Tryd.func93.trans (congrArg some (by kernel_rfl))
  f246 := Tryd.func85.trans (congrArg some (by kernel_rfl))
  f247 := Tryd.func112.trans (congrArg some (by kernel_rfl))
  f279 := Tryd.func113.trans (congrArg some (by kernel_rfl))
  f280 := Tryd.func114.trans (congrArg some (by kernel_rfl))
  f281 := Tryd.func115.trans (congrArg some (by kernel_rfl))
  f282 := Tryd.func116.trans (congrArg some (by kernel_rfl))
  f283 := Tryd.func102.trans (congrArg some (by kernel_rfl))
  f284 := Tryd.func103.trans (congrArg some (by kernel_rfl))
  f285 := Tryd.func104.trans (congrArg some (by kernel_rfl))
  f286 := Tryd.func105.trans (congrArg some (by kernel_rfl))
  f287 := Tryd.func126.trans (congrArg some (by kernel_rfl))
  f316 := Tryd.func127.trans (congrArg some (by kernel_rfl))
  f317 := Tryd.func119.trans (congrArg some (by kernel_rfl))
  f318 := Tryd.func121.trans (congrArg some (by kernel_rfl))
  f319 := Tryd.func122.trans (congrArg some (by kernel_rfl))
  f320 := Tryd.func123.trans (congrArg some (by kernel_rfl))
  f321 := Tryd.func131.trans (congrArg some (by kernel_rfl))
  f322 := Tryd.func132.trans (congrArg some (by kernel_rfl))
  f337 := Tryd.func129.trans (congrArg some (by kernel_rfl))
  f338 := Tryd.func130.trans (congrArg some (by kernel_rfl))
  t0 := Tryd.underlying0
  a0 := Tryd.isAgg0
  z0 := Tryd.sizeOf0
  v0 := Tryd.zeroValue0
  t2 := Tryd.underlying2
  a2 := Tryd.isAgg2
  z2 := Tryd.sizeOf2
  v2 := Tryd.zeroValue2
  t3 := Tryd.underlying3
  a3 := Tryd.isAgg3
  z3 := Tryd.sizeOf3
  v3 := Tryd.zeroValue3
  t4 := Tryd.underlying4
  a4 := Tryd.isAgg4
  z4 := Tryd.sizeOf4
  v4 := Tryd.zeroValue4
  t5 := Tryd.underlying5
  a5 := Tryd.isAgg5
  z5 := Tryd.sizeOf5
  v5 := Tryd.zeroValue5
  t9 := Tryd.underlying9
  a9 := Tryd.isAgg9
  z9 := Tryd.sizeOf9
  v9 := Tryd.zeroValue9
  t20 := Tryd.underlying20
  a20 := Tryd.isAgg20
  z20 := Tryd.sizeOf20
  v20 := Tryd.zeroValue20
  t21 := Tryd.underlying21
  a21 := Tryd.isAgg21
  z21 := Tryd.sizeOf21
  v21 := Tryd.zeroValue21
  t37 := Tryd.underlying98
  a37 := Tryd.isAgg98
  z37 := Tryd.sizeOf98
  v37 := Tryd.zeroValue98
  t46 := Tryd.underlying151
  a46 := Tryd.isAgg151
  z46 := Tryd.sizeOf151
  v46 := Tryd.zeroValue151
  t51 := Tryd.underlying130
  a51 := Tryd.isAgg130
  z51 := Tryd.sizeOf130
  v51 := Tryd.zeroValue130
  t53 := Tryd.underlying143
  a53 := Tryd.isAgg143
  z53 := Tryd.sizeOf143
  v53 := Tryd.zeroValue143
  t75 := Tryd.underlying103
  a75 := Tryd.isAgg103
  z75 := Tryd.sizeOf103
  v75 := Tryd.zeroValue103
  t76 := Tryd.underlying104
  a76 := Tryd.isAgg104
  z76 := Tryd.sizeOf104
  v76 := Tryd.zeroValue104
  t85 := Tryd.underlying156
  a85 := Tryd.isAgg156
  z85 := Tryd.sizeOf156
  v85 := Tryd.zeroValue156
  t127 := Tryd.underlying128
  a127 := Tryd.isAgg128
  z127 := Tryd.sizeOf128
  v127 := Tryd.zeroValue128
  t143 := Tryd.underlying190
  a143 := Tryd.isAgg190
  z143 := Tryd.sizeOf190
  v143 := Tryd.zeroValue190
  t145 := Tryd.underlying192
  a145 := Tryd.isAgg192
  z145 := Tryd.sizeOf192
  v145 := Tryd.zeroValue192
  t167 := Tryd.underlying155
  a167 := Tryd.isAgg155
  z167 := Tryd.sizeOf155
  v167 := Tryd.zeroValue155
  t168 := Tryd.underlying158
  a168 := Tryd.isAgg158
  z168 := Tryd.sizeOf158
  v168 := Tryd.zeroValue158
  t171 := Tryd.underlying142
  a171 := Tryd.isAgg142
  z171 := Tryd.sizeOf142
  v171 := Tryd.zeroValue142
  t173 := Tryd.underlying146
  a173 := Tryd.isAgg146
  z173 := Tryd.sizeOf146
  v173 := Tryd.zeroValue146
  t175 := Tryd.underlying179
  a175 := Tryd.isAgg179
  z175 := Tryd.sizeOf179
  v175 := Tryd.zeroValue179
  t210 := Tryd.underlying183
  a210 := Tryd.isAgg183
  z210 := Tryd.sizeOf183
  v210 := Tryd.zeroValue183
  t212 := Tryd.underlying173
  a212 := Tryd.isAgg173
  z212 := Tryd.sizeOf173
  v212 := Tryd.zeroValue173
  t213 := Tryd.underlying174
  a213 := Tryd.isAgg174
  z213 := Tryd.sizeOf174
  t232 := Tryd.underlying193
  a232 := Tryd.isAgg193
  z232 := Tryd.sizeOf193
  v232 := Tryd.zeroValue193
  t233 := Tryd.underlying194
  a233 := Tryd.isAgg194
  z233 := Tryd.sizeOf194
  v233 := Tryd.zeroValue194
  g15 := by kernel_rfl
  g16 := by kernel_rfl
  g17 := by kernel_rfl
  g18 := by kernel_rfl
  g19 := by kernel_rfl
  t80 := Tryd.underlying75
  a80 := Tryd.isAgg75
  z80 := Tryd.sizeOf75
  v80 := Tryd.zeroValue75
  i0 := by kernel_rfl
  i2 := by kernel_rfl
  i3 := by kernel_rfl
  i4 := by kernel_rfl
  i5 := by kernel_rfl
  i9 := by kernel_rfl
  i20 := by kernel_rfl
  i21 := by kernel_rfl
  i37 := by kernel_rfl
  i46 := by kernel_rfl
  i51 := by kernel_rfl
  i53 := by kernel_rfl
  i75 := by kernel_rfl
  i76 := by kernel_rfl
  i80 := by kernel_rfl
  i85 := by kernel_rfl
  i127 := by kernel_rfl
  i143 := by kernel_rfl
  i145 := by kernel_rfl
  i167 := by kernel_rfl
  i168 := by kernel_rfl
  i171 := by kernel_rfl
  i173 := by kernel_rfl
  i175 := by kernel_rfl
  i210 := by kernel_rfl
  i212 := by kernel_rfl
  i232 := by kernel_rfl
  i233 := by kernel_rfl
  m15 := by kernel_rfl
  m16 := by kernel_rfl
  m17 := by kernel_rfl
  m18 := by kernel_rfl
  m19 := by kernel_rfl
  c0 := by kernel_rfl
  c2 := by kernel_rfl
  c3 := by kernel_rfl
  c4 := by kernel_rfl
  c5 := by kernel_rfl
  c9 := by kernel_rfl
  c20 := by kernel_rfl
  c21 := by kernel_rfl
  c37 := by kernel_rfl
  c46 := by kernel_rfl
  c51 := by kernel_rfl
  c53 := by kernel_rfl
  c75 := by kernel_rfl
  c76 := by kernel_rfl
  c80 := by kernel_rfl
  c85 := by kernel_rfl
  c127 := by kernel_rfl
  c143 := by kernel_rfl
  c145 := by kernel_rfl
  c167 := by kernel_rfl
  c168 := by kernel_rfl
  c171 := by kernel_rfl
  c173 := by kernel_rfl
  c175 := by kernel_rfl
  c210 := by kernel_rfl
  c212 := by kernel_rfl
  c213 := by kernel_rfl
  c232 := by kernel_rfl
  c233 := by kernel_rfl }
open Go.RowKit in
/-- strconv.Atoi, AT EVERY STRING THAT SPELLS AN int ('Lib.atoiAll .. = .ok v'; of whatever length: leading zeros count): v, AND NO ERROR. The world: as it was, or with the one new row that '[]byte(..)' lays. (LAID: no walk: one application.) -/
theorem Tryd.strconv_Atoi_ok (s : ByteArray) (hmax : s.size ≤ 9223372036854775806) (v : Int) (h : Lib.atoiAll s.data.toList = .ok v) (w : World) :
    Calls Tryd.prog 70 #[.string s] w fun e w' => e = .returned (.tuple #[.int .i64 v, .nilIface]) ∧ (w' = w ∨ ∃ t, w' = Lib.bytesWorld w 5 t) := Any.strconv_Atoi_ok Tryd.laysC172 s hmax v h w
open Go.RowKit in
open Go.RowKit in
open Go.RowKit in
theorem Tryd.strconv_Atoi_syntax_var (s : ByteArray) (hlim : s.size ≤ 281474976710656) (h : Lib.atoiAll s.data.toList = Lib.atoiAll []) (tp : TypeId) (p : Value) (w : World) (hvar : w.var? Tryd.prog "strconv.ErrSyntax" = some #[.iface tp p]) :
    Calls Tryd.prog 70 #[.string s] w fun e w' => ∃ N, e = .returned (.tuple #[.int .i64 0, .iface 158 (.pointer (some ⟨N, 0, none⟩))]) ∧ w.heap.size ≤ N ∧ w'.heap[N]? = some (.cells #[.string ⟨#[65, 116, 111, 105]⟩, .string s, .iface tp p] 183 (0, 0)) ∧ Below w.heap.size w w' := Any.strconv_Atoi_syntax_var Tryd.laysC172 s hlim h tp p w hvar
open Go.RowKit in
theorem Tryd.strconv_Atoi_range_var (s : ByteArray) (hlim : s.size ≤ 281474976710656) (h : Lib.atoiAll s.data.toList = .range) (tp : TypeId) (p : Value) (w : World) (hvar : w.var? Tryd.prog "strconv.ErrRange" = some #[.iface tp p]) :
    Calls Tryd.prog 70 #[.string s] w fun e w' => ∃ N, e = .returned (.tuple #[.int .i64 (Lib.atoiSat s.data.toList), .iface 158 (.pointer (some ⟨N, 0, none⟩))]) ∧ w.heap.size ≤ N ∧ w'.heap[N]? = some (.cells #[.string ⟨#[65, 116, 111, 105]⟩, .string s, .iface tp p] 183 (0, 0)) ∧ Below w.heap.size w w' := Any.strconv_Atoi_range_var Tryd.laysC172 s hlim h tp p w hvar
open Go.RowKit Go.Lib in
open Go.RowKit Go.Lib in
open Go.RowKit Go.Lib in
open Go.RowKit Go.Lib in
open Go.RowKit Go.Lib in
open Go.RowKit Go.Lib in
open Go.RowKit Go.Lib in
open Go.RowKit Go.Lib in
open Go.RowKit Go.Lib in
open Go.RowKit Go.Lib in
open Go.RowKit Go.Lib in
open Go.RowKit Go.Lib in
open Go.RowKit Go.Lib in
open Go.RowKit Go.Lib in
def Tryd.lays99_ren : Go.Shelf.Ren := ⟨fun | 99 => 48 | 206 => 69 | n => n, fun | 9 => 9 | 4 => 4 | 3 => 3 | n => n, fun | n => n⟩
theorem Tryd.lays99 : Go.Proofs.Lays.n99 Tryd.prog Tryd.lays99_ren := {
  mixed := by kernel_rfl
  f99 := Tryd.func48.trans (congrArg some (by kernel_rfl))
  f206 := Tryd.func69.trans (congrArg some (by kernel_rfl))
  t3 := Tryd.underlying3
  a3 := Tryd.isAgg3
  z3 := Tryd.sizeOf3
  v3 := Tryd.zeroValue3
  t4 := Tryd.underlying4
  a4 := Tryd.isAgg4
  z4 := Tryd.sizeOf4
  v4 := Tryd.zeroValue4
  t9 := Tryd.underlying9
  a9 := Tryd.isAgg9
  z9 := Tryd.sizeOf9
  v9 := Tryd.zeroValue9 }
open Go.RowKit Go.Lib in
/-- strings.HasPrefix: "HasPrefix reports whether the string s begins with prefix.": IT RETURNS 'Lib.hasPrefix s prefix'; the world is as it was. (LAID: no walk: one application.) -/
theorem Tryd.strings_HasPrefix (s p : ByteArray) (w : World) :
    Calls Tryd.prog 48 #[.string s, .string p] w fun e w' => e = .returned (.bool (Lib.hasPrefix s.data.toList p.data.toList)) ∧ w' = w := Any.strings_HasPrefix Tryd.lays99 s p w
open Go.RowKit Go.Lib in
open Go.RowKit Go.Lib in
open Go.RowKit Go.Lib in
open Go.RowKit Go.Lib in
open Go.RowKit Go.Lib in
open Go.RowKit Go.Lib in
def Tryd.lays155_ren : Go.Shelf.Ren := ⟨fun | 155 => 28 | 154 => 46 | 138 => 63 | 165 => 64 | 143 => 65 | 166 => 66 | 197 => 67 | 169 => 68 | 195 => 86 | 218 => 87 | 240 => 88 | 241 => 89 | 219 => 90 | 260 => 91 | 276 => 106 | 277 => 107 | 217 => 108 | 225 => 109 | 224 => 110 | 267 => 111 | 266 => 124 | 314 => 125 | n => n, fun | 9 => 9 | 3 => 3 | 4 => 4 | 72 => 100 | 0 => 0 | 76 => 104 | 105 => 106 | 21 => 21 | 5 => 5 | 70 => 97 | 20 => 20 | 37 => 98 | 75 => 103 | 127 => 128 | 164 => 148 | 46 => 151 | 119 => 108 | 139 => 154 | 138 => 153 | 146 => 177 | 51 => 130 | 80 => 75 | n => n, fun | 1 => 5 | 3 => 6 | 4 => 7 | n => n⟩
theorem Tryd.lays155 : Go.Proofs.Lays.n155 Tryd.prog Tryd.lays155_ren := {
  mixed := by kernel_rfl
  f138 := Tryd.func63.trans (congrArg some (by kernel_rfl))
  f143 := Tryd.func65.trans (congrArg some (by kernel_rfl))
  f154 := Tryd.func46.trans (congrArg some (by kernel_rfl))
  f155 := Tryd.func28.trans (congrArg some (by kernel_rfl))
  f165 := Tryd.func64.trans (congrArg some (by kernel_rfl))
  f166 := Tryd.func66.trans (congrArg some (by kernel_rfl))
  f169 := Tryd.func68.trans (congrArg some (by kernel_rfl))
  f195 := Tryd.func86.trans (congrArg some (by kernel_rfl))
  f197 := Tryd.func67.trans (congrArg some (by kernel_rfl))
  f217 := Tryd.func108.trans (congrArg some (by kernel_rfl))
  f218 := Tryd.func87.trans (congrArg some (by kernel_rfl))
  f219 := Tryd.func90.trans (congrArg some (by kernel_rfl))
  f224 := Tryd.func110.trans (congrArg some (by kernel_rfl))
  f225 := Tryd.func109.trans (congrArg some (by kernel_rfl))
  f240 := Tryd.func88.trans (congrArg some (by kernel_rfl))
  f241 := Tryd.func89.trans (congrArg some (by kernel_rfl))
  f260 := Tryd.func91.trans (congrArg some (by kernel_rfl))
  f266 := Tryd.func124.trans (congrArg some (by kernel_rfl))
  f267 := Tryd.func111.trans (congrArg some (by kernel_rfl))
  f276 := Tryd.func106.trans (congrArg some (by kernel_rfl))
  f277 := Tryd.func107.trans (congrArg some (by kernel_rfl))
  f314 := Tryd.func125.trans (congrArg some (by kernel_rfl))
  t0 := Tryd.underlying0
  a0 := Tryd.isAgg0
  z0 := Tryd.sizeOf0
  v0 := Tryd.zeroValue0
  t3 := Tryd.underlying3
  a3 := Tryd.isAgg3
  z3 := Tryd.sizeOf3
  v3 := Tryd.zeroValue3
  t4 := Tryd.underlying4
  a4 := Tryd.isAgg4
  z4 := Tryd.sizeOf4
  v4 := Tryd.zeroValue4
  t5 := Tryd.underlying5
  a5 := Tryd.isAgg5
  z5 := Tryd.sizeOf5
  v5 := Tryd.zeroValue5
  t9 := Tryd.underlying9
  a9 := Tryd.isAgg9
  z9 := Tryd.sizeOf9
  v9 := Tryd.zeroValue9
  t20 := Tryd.underlying20
  a20 := Tryd.isAgg20
  z20 := Tryd.sizeOf20
  v20 := Tryd.zeroValue20
  t21 := Tryd.underlying21
  a21 := Tryd.isAgg21
  z21 := Tryd.sizeOf21
  v21 := Tryd.zeroValue21
  t37 := Tryd.underlying98
  a37 := Tryd.isAgg98
  z37 := Tryd.sizeOf98
  v37 := Tryd.zeroValue98
  t46 := Tryd.underlying151
  a46 := Tryd.isAgg151
  z46 := Tryd.sizeOf151
  v46 := Tryd.zeroValue151
  t51 := Tryd.underlying130
  a51 := Tryd.isAgg130
  z51 := Tryd.sizeOf130
  v51 := Tryd.zeroValue130
  t70 := Tryd.underlying97
  a70 := Tryd.isAgg97
  z70 := Tryd.sizeOf97
  v70 := Tryd.zeroValue97
  t72 := Tryd.underlying100
  a72 := Tryd.isAgg100
  z72 := Tryd.sizeOf100
  v72 := Tryd.zeroValue100
  t75 := Tryd.underlying103
  a75 := Tryd.isAgg103
  z75 := Tryd.sizeOf103
  v75 := Tryd.zeroValue103
  t76 := Tryd.underlying104
  a76 := Tryd.isAgg104
  z76 := Tryd.sizeOf104
  v76 := Tryd.zeroValue104
  t105 := Tryd.underlying106
  a105 := Tryd.isAgg106
  z105 := Tryd.sizeOf106
  v105 := Tryd.zeroValue106
  t119 := Tryd.underlying108
  a119 := Tryd.isAgg108
  z119 := Tryd.sizeOf108
  t127 := Tryd.underlying128
  a127 := Tryd.isAgg128
  z127 := Tryd.sizeOf128
  v127 := Tryd.zeroValue128
  t138 := Tryd.underlying153
  a138 := Tryd.isAgg153
  z138 := Tryd.sizeOf153
  v138 := Tryd.zeroValue153
  t139 := Tryd.underlying154
  a139 := Tryd.isAgg154
  z139 := Tryd.sizeOf154
  v139 := Tryd.zeroValue154
  t146 := Tryd.underlying177
  a146 := Tryd.isAgg177
  z146 := Tryd.sizeOf177
  v146 := Tryd.zeroValue177
  t164 := Tryd.underlying148
  a164 := Tryd.isAgg148
  z164 := Tryd.sizeOf148
  v164 := Tryd.zeroValue148
  g1 := by kernel_rfl
  g3 := by kernel_rfl
  g4 := by kernel_rfl }
theorem Tryd.Builder_Extra_155 : Builder.Extra Tryd.prog Tryd.lays155_ren := {
  sizeBuilder := by kernel_rfl
  liesBuilder := by kernel_rfl
  t5 := Tryd.underlying5
  a5 := Tryd.isAgg5
  z5 := Tryd.sizeOf5
  v5 := Tryd.zeroValue5
  infoByte := by kernel_rfl
  cellsByte := by kernel_rfl
  sizeByte := by kernel_rfl
  neB5 := by decide }
open Go.RowKit Go.Lib in
/-- strings.ReplaceAll: "ReplaceAll returns a copy of the string s with all non-overlapping instances of old replaced by new.": AT AN old THAT IS NOT EMPTY: 'Lib.replaceAll s old new'. (LAID: no walk: one application.) -/
theorem Tryd.strings_ReplaceAll (s old new : ByteArray) (m : Int) (w : World) (hs : s.size < 4294967281) (hm : w.cell? ⟨5, 0, none⟩ = some (.int .i64 m)) (h1 : 1 ≤ old.size) (hlen : s.size + Lib.countB s old * new.size ≤ 140737488355328) :
    Calls Tryd.prog 28 #[.string s, .string old, .string new] w fun e w' =>
      e = .returned (.string ⟨(Lib.replaceAll s.data.toList old.data.toList new.data.toList).toArray⟩) ∧ Below w.heap.size w w' := Any.strings_ReplaceAll Tryd.lays155 Tryd.Builder_Extra_155 s old new m w hs hm h1 hlen
open Go.RowKit Go.Lib in
open Go.RowKit Go.Lib in
open Go.RowKit Go.Lib in
open Go.RowKit Go.Lib in
open Go.RowKit Go.Lib in
open Go.RowKit Go.Lib in
open Go.RowKit Go.Lib in
open Go.RowKit Go.Lib in
open Go.RowKit Go.Lib in
open Go.RowKit Go.Lib in
open Go.RowKit Go.Lib in
def Tryd.lays229_ren : Go.Shelf.Ren := ⟨fun | 229 => 29 | n => n, fun | 9 => 9 | 40 => 54 | 31 => 52 | 152 => 72 | 3 => 3 | 0 => 0 | 4 => 4 | 21 => 21 | 154 => 74 | n => n, fun | n => n⟩
theorem Tryd.lays229 : Go.Proofs.Lays.n229 Tryd.prog Tryd.lays229_ren := {
  mixed := by kernel_rfl
  f229 := Tryd.func29.trans (congrArg some (by kernel_rfl))
  t0 := Tryd.underlying0
  a0 := Tryd.isAgg0
  z0 := Tryd.sizeOf0
  v0 := Tryd.zeroValue0
  t3 := Tryd.underlying3
  a3 := Tryd.isAgg3
  z3 := Tryd.sizeOf3
  v3 := Tryd.zeroValue3
  t4 := Tryd.underlying4
  a4 := Tryd.isAgg4
  z4 := Tryd.sizeOf4
  v4 := Tryd.zeroValue4
  t9 := Tryd.underlying9
  a9 := Tryd.isAgg9
  z9 := Tryd.sizeOf9
  v9 := Tryd.zeroValue9
  t21 := Tryd.underlying21
  a21 := Tryd.isAgg21
  z21 := Tryd.sizeOf21
  v21 := Tryd.zeroValue21
  t31 := Tryd.underlying52
  a31 := Tryd.isAgg52
  z31 := Tryd.sizeOf52
  v31 := Tryd.zeroValue52
  t40 := Tryd.underlying54
  a40 := Tryd.isAgg54
  z40 := Tryd.sizeOf54
  v40 := Tryd.zeroValue54
  t152 := Tryd.underlying72
  a152 := Tryd.isAgg72
  z152 := Tryd.sizeOf72
  v152 := Tryd.zeroValue72
  t154 := Tryd.underlying74
  a154 := Tryd.isAgg74
  z154 := Tryd.sizeOf74
  v154 := Tryd.zeroValue74 }
open Go.RowKit Go.Lib in
open Go.RowKit Go.Lib in
open Go.RowKit Go.Lib in
open Go.RowKit Go.Lib in
open Go.RowKit Go.Lib in
open Go.RowKit Go.Lib in
theorem Tryd.strings_FieldsFunc_grows (g : Nat) (lb : Array Value) (eg : ∀ args w, (callFunc g args).run Tryd.prog w = .ok (.enter g args) w) (p : Nat → Bool) (s : ByteArray) (w : World) (hs : s.size ≤ 4294967296) (hp : PredGrows Tryd.prog g lb p w) :
    Calls Tryd.prog 29 #[.string s, .func (.func g) #[] lb] w fun e w' => ∃ A, e = .returned (.slice (some ⟨A, 0, none⟩) (Lib.goFieldsP p s).length (Lib.goFieldsP p s).length) ∧ w.heap.size ≤ A ∧
      w'.ownsRow w.heap.size 9 1 (.slice (some ⟨A, 0, none⟩) (Lib.goFieldsP p s).length (Lib.goFieldsP p s).length) (Lib.goFieldsP p s).length ((Lib.goFieldsP p s).map Value.string) ∧ Below w.heap.size w w' := Any.strings_FieldsFunc_grows Tryd.lays229 g lb eg p s w hs hp (by kernel_rfl) (by kernel_rfl)
end Go.Proofs
namespace Go.Proofs.YtnflnbdlgdjfmabDoor
open Go.RowKit
set_option linter.unusedVariables false
set_option linter.unusedSimpArgs false
section
variable {F : Nat → Prop} {ρ : Nat → Lc} {w w' : World}
theorem moves_below (H : HRel F ρ (ofL []) w) (hb : Below w.heap.size w w') (G : Nat → Prop) (hG : ∀ k, G k → w.heap.size ≤ k ∧ k < w'.heap.size) : Moves (namesL []) F ρ (ofL []) w (fun k => F k ∨ G k) ρ (ofL []) w' where
  sub := fun k h => .inl h
  same := fun k h => hb.block k (H.lt k h)
  stb := fun b h => absurd rfl h
  stbd := fun b h => by cases h
  heap := ⟨fun b x h => (by cases h), fun b b' g h => absurd rfl h, fun b g h => absurd rfl h, fun k h => by
      rcases h with h | h
      · exact Nat.lt_of_lt_of_le (H.lt k h) hb.size
      · exact (hG k h).2, fun b x h => (by cases h), fun g c h => relK_mono (fun k h => .inl h) (fun k h => hb.block k (H.lt k h)) (H.gl g c h), fun g p h => ⟨.inl (H.gx g p h).1, by rw [hb.block g (H.lt g (H.gx g p h).1)]; exact (H.gx g p h).2⟩⟩
  le := fun b x h => by cases h
  own := fun b g h => absurd rfl h
  Fnew := fun k h => by
    rcases h with h | h
    · exact .inl h
    · exact .inr (.inl (hG k h).1)
  os := hb.os
  tape := hb.tape
  output := hb.output
  size := hb.size
  kept := fun k hk _ => hb.block k hk
end
/-- A contract of what only makes memory. -/
theorem acalls_ext {P : Program} {f : FuncId} {args : List U} {r : U} (hcan : canCall P f = true)
    (h : ∀ (F : Nat → Prop) (ρ : Nat → Lc) (w : World) (vals : List Value), HRel F ρ (ofL []) w → All2 (fun u v => relU F ρ w u v ∧ okU (ofL []) u) args vals →
      Calls P f vals.toArray w fun e w' => ∃ (v : Value) (G : Nat → Prop), e = .returned v ∧ Below w.heap.size w w' ∧ (∀ k, G k → w.heap.size ≤ k ∧ k < w'.heap.size) ∧ relU (fun k => F k ∨ G k) ρ w' r v)
    (hok : okU (ofL []) r) : ACalls P f args [] r [] :=
  ⟨hcan, fun F ρ w vals H ha => (h F ρ w vals H ha).mono fun e w' ⟨v, G, he, hb, hG, hr⟩ => ⟨v, _, ρ, he, moves_below H hb G hG, hr, hok⟩⟩
theorem args2 {F : Nat → Prop} {ρ : Nat → Lc} {w : World} {a b : C} {vals : List Value} (h : All2 (fun u v => relU F ρ w u v ∧ okU (ofL []) u) [.one a, .one b] vals) : ∃ x y, vals = [x, y] ∧ relC F ρ w a x ∧ relC F ρ w b y := by
  match vals, h with
  | [x, y], ⟨⟨h1, _⟩, ⟨h2, _⟩, _⟩ => exact ⟨x, y, rfl, h1, h2⟩
theorem args1 {F : Nat → Prop} {ρ : Nat → Lc} {w : World} {a : C} {vals : List Value} (h : All2 (fun u v => relU F ρ w u v ∧ okU (ofL []) u) [.one a] vals) : ∃ x, vals = [x] ∧ relC F ρ w a x := by
  match vals, h with
  | [x], ⟨⟨h1, _⟩, _⟩ => exact ⟨x, rfl, h1⟩
theorem args3 {F : Nat → Prop} {ρ : Nat → Lc} {w : World} {a b c : C} {vals : List Value} (h : All2 (fun u v => relU F ρ w u v ∧ okU (ofL []) u) [.one a, .one b, .one c] vals) : ∃ x y z, vals = [x, y, z] ∧ relC F ρ w a x ∧ relC F ρ w b y ∧ relC F ρ w c z := by
  match vals, h with
  | [x, y, z], ⟨⟨h1, _⟩, ⟨h2, _⟩, ⟨h3, _⟩, _⟩ => exact ⟨x, y, z, rfl, h1, h2, h3⟩
def noG : Nat → Prop := fun _ => False
end Go.Proofs.YtnflnbdlgdjfmabDoor
namespace Go.Proofs.YtnflnbdlgdjfmabDoor
open Go.RowKit
set_option linter.unusedVariables false
set_option linter.unusedSimpArgs false
theorem hasPrefix_a (s p : ByteArray) : ACalls Tryd.prog 48 [.one (.str s), .one (.str p)] [] (.one (.bool (Lib.hasPrefix s.data.toList p.data.toList))) [] :=
  acalls_ext (by kernel_rfl) (fun F ρ w vals H ha => by
    obtain ⟨_, _, rfl, rfl, rfl⟩ := args2 ha
    exact (Tryd.strings_HasPrefix s p w).mono fun e w' ⟨he, hw⟩ => by
      subst hw; exact ⟨_, noG, he, Below.refl _ _, fun k h => h.elim, rfl⟩) trivial
theorem below_grow (w : World) (k : Nat) (os : Array Obj) : Below w.heap.size w (Sort.grow (w.drewN k) os) :=
  ⟨rfl, rfl, rfl, by simp [Sort.grow], fun i hi => by simp [Sort.grow, Array.getElem?_append_left hi]⟩
/-- A listed variable, out of what the frame knows. -/
theorem gx_var {F : Nat → Prop} {ρ : Nat → Lc} {w : World} (H : HRel F ρ (ofL []) w) {g : Nat} {name : String} {p : Array Value → Prop} (hn : Tryd.prog.globalNamed name = some g) (hg : globX g = some p) : ∃ cs, w.var? Tryd.prog name = some cs ∧ p cs ∧ ∀ i v, cs[i]? = some v → w.cell? ⟨g, i, none⟩ = some v := by
  obtain ⟨_, cs, t, fz, hp, hh⟩ := H.gx g p hg
  have hv : w.var? Tryd.prog name = some cs := by unfold World.var?; rw [hn]; simp [hh]
  refine ⟨cs, hv, hp, fun i v hi => ?_⟩
  have := World.var?_cell hn hv i; rw [this]; exact hi
theorem nPow : Tryd.prog.globalNamed "internal/strconv.uint64pow10" = some 8 := by kernel_rfl
theorem nMax : Tryd.prog.globalNamed "internal/bytealg.MaxLen" = some 5 := by kernel_rfl
theorem nSyn : Tryd.prog.globalNamed "strconv.ErrSyntax" = some 9 := by kernel_rfl
theorem nRng : Tryd.prog.globalNamed "strconv.ErrRange" = some 10 := by kernel_rfl
theorem itoa_a (n : Int) (h0 : -9223372036854775808 ≤ n) (h1 : n ≤ 9223372036854775807) : ACalls Tryd.prog 44 [.one (.int .i64 n)] [] (.one (.str ⟨(Lib.itoa n).toArray⟩)) [] :=
  acalls_ext (by kernel_rfl) (fun F ρ w vals H ha => by
    obtain ⟨_, rfl, rfl⟩ := args1 ha
    obtain ⟨cs, hv, rfl, _⟩ := gx_var H nPow rfl
    refine (Tryd.strconv_Itoa n h0 h1 w ?_).mono fun e w' ⟨he, k, os, hw⟩ => by
      subst hw; exact ⟨_, noG, he, below_grow w k os, fun k h => h.elim, rfl⟩
    unfold Lib.TabIs
    rw [hv, show pow10V = (Lib.pow10Tab.map fun z => Value.int .u64 z).toArray by simp [pow10V, Lib.pow10Tab, List.range, List.range.loop]]) trivial
/-- What Atoi answers. -/
def atoiU (s : ByteArray) : U :=
  match Lib.atoiAll s.data.toList with
  | .ok v => .tup [.one (.int .i64 v), .one .nilif]
  | _ => .tup [.one .any, .one .ifc]
theorem atoi_a (s : ByteArray) (hs : s.size ≤ 281474976710656) : ACalls Tryd.prog 70 [.one (.str s)] [] (atoiU s) [] :=
  acalls_ext (by kernel_rfl) (fun F ρ w vals H ha => by
    obtain ⟨_, rfl, rfl⟩ := args1 ha
    unfold atoiU
    cases hA : Lib.atoiAll s.data.toList with
    | ok v =>
      exact (Tryd.strconv_Atoi_ok s (by omega) v hA w).mono fun e w' ⟨he, hw⟩ => by
        refine ⟨_, noG, he, ?_, fun k h => h.elim, [_, _], rfl, rfl, rfl, trivial⟩
        rcases hw with rfl | ⟨t, rfl⟩
        · exact Below.refl _ _
        · exact Joins.below_bytesWorld _ _ _ _ (Nat.le_refl _)
    | range =>
      obtain ⟨cs, hv, ⟨t, x, rfl⟩, _⟩ := gx_var H nRng rfl
      exact (Tryd.strconv_Atoi_range_var s hs hA t x w hv).mono fun e w' ⟨N, he, _, _, hb⟩ => by
        exact ⟨_, noG, he, hb, fun k h => h.elim, [_, _], rfl, rfl, ⟨_, _, rfl⟩, trivial⟩
    | _ =>
      obtain ⟨cs, hv, ⟨t, x, rfl⟩, _⟩ := gx_var H nSyn rfl
      exact (Tryd.strconv_Atoi_syntax_var s hs hA t x w hv).mono fun e w' ⟨N, he, _, _, hb⟩ => by
        exact ⟨_, noG, he, hb, fun k h => h.elim, [_, _], rfl, rfl, ⟨_, _, rfl⟩, trivial⟩) (by
    unfold atoiU
    split <;> exact okU_of (by exact ⟨trivial, trivial, trivial⟩))
def replaceS (s old new : ByteArray) : ByteArray := ⟨(Lib.replaceAll s.data.toList old.data.toList new.data.toList).toArray⟩
theorem replaceAll_a (s old new : ByteArray) (hs : s.size < 4294967281) (h1 : 1 ≤ old.size) (hl : s.size + Lib.countB s old * new.size ≤ 140737488355328) : ACalls Tryd.prog 28 [.one (.str s), .one (.str old), .one (.str new)] [] (.one (.str (replaceS s old new))) [] :=
  acalls_ext (by kernel_rfl) (fun F ρ w vals H ha => by
    obtain ⟨_, _, _, rfl, rfl, rfl, rfl⟩ := args3 ha
    obtain ⟨cs, hv, ⟨m, rfl⟩, hc⟩ := gx_var H nMax rfl
    exact (Tryd.strings_ReplaceAll s old new m w hs (hc 0 _ rfl) h1 hl).mono fun e w' ⟨he, hb⟩ => by
      exact ⟨_, noG, he, hb, fun k h => h.elim, rfl⟩) trivial
/-- The words' cells. -/
def strRows (ws : List ByteArray) : List (List C) := ws.map fun s => [.str s]
theorem fields_a (g : FuncId) (p : Nat → Bool) (s : ByteArray) (hs : s.size ≤ 4294967296) (hcan : canCall Tryd.prog g = true)
    (eg : ∀ (args : Array Value) (w : World), (callFunc g args).run Tryd.prog w = .ok (.enter g args) w)
    (hp : ∀ x : Nat, x ≤ 1114111 → ACalls Tryd.prog g [.one (.int .i32 x)] [] (.one (.bool (p x))) []) : ACalls Tryd.prog 29 [.one (.str s), .one (.fn g)] [] (.one (slFOf 1 (strRows (Lib.goFieldsP p s)))) [] :=
  acalls_ext (by kernel_rfl) (fun F ρ w vals H ha => by
    obtain ⟨_, _, rfl, rfl, rfl⟩ := args2 ha
    have hpg : PredGrows Tryd.prog g #[] p w := by
      intro W x hx hb
      have HW : HRel F ρ (ofL []) W := by
        have := (moves_below H hb noG (fun k h => h.elim)).heap
        refine ⟨fun b x h => (by cases h), fun b b' g h => absurd rfl h, fun b g h => absurd rfl h, fun k h => this.lt k (.inl h), fun b x h => (by cases h), fun g c hg => ?_, fun g q hg => ?_⟩
        · exact relK_mono (fun k h => h) (fun k h => hb.block k (H.lt k h)) (H.gl g c hg)
        · exact ⟨(H.gx g q hg).1, by rw [hb.block g (H.lt g (H.gx g q hg).1)]; exact (H.gx g q hg).2⟩
      refine ((hp x hx).2 F ρ W [.int .i32 x] HW ⟨⟨rfl, trivial⟩, trivial⟩).mono fun e W' ⟨v, F', ρ', he, hM, hr, _⟩ => ?_
      have hr : v = .bool (p x) := hr
      subst hr
      exact ⟨he, hM.os, hM.tape, hM.output, hM.size, fun k hk => hM.kept k hk fun b hb => absurd rfl hb⟩
    refine (Tryd.strings_FieldsFunc_grows g #[] eg p s w hs hpg).mono fun e w' ⟨A, he, hA, ⟨hlen, hrow⟩, hb⟩ => ?_
    refine ⟨_, fun k => k = A ∧ k < w'.heap.size, he, hb, fun k h => ⟨by rw [h.1]; exact hA, h.2⟩, ?_⟩
    have hn : (strRows (Lib.goFieldsP p s)).length = (Lib.goFieldsP p s).length := by simp [strRows]
    rcases hrow with ⟨h0, _⟩ | ⟨g', cap, cur, hv, _, hh, hc1, hc2, hcs, hct⟩
    · cases h0
    · simp only [Value.slice.injEq, Option.some.injEq, Addr.mk.injEq] at hv
      obtain ⟨⟨rfl, _, _⟩, _, rfl⟩ := hv
      refine ⟨_, by rw [hn], by rw [hn]; exact hc2, fun i hi => ⟨A, 0, rfl, .inr ⟨rfl, (Array.getElem?_eq_some_iff.1 hh).1⟩, fun j hj => ?_⟩⟩
      obtain rfl : j = 0 := by omega
      rw [hn] at hi
      have hx : cur[i]? = some (.string (Lib.goFieldsP p s)[i]) := by
        have := congrArg (fun l => l[i]?) hct
        simp only [Nat.mul_one, List.getElem?_take, hi, if_true, List.getElem?_map, List.getElem?_eq_getElem hi, Option.map_some, Array.getElem?_toList] at this
        exact this
      refine ⟨.string (Lib.goFieldsP p s)[i], ?_, ?_⟩
      · unfold World.cell?
        simp only [hh, Nat.zero_add, Nat.mul_one, Nat.add_zero]
        exact hx
      · simp [rowF, strRows, hi, relK]) trivial
end Go.Proofs.YtnflnbdlgdjfmabDoor
namespace Go.Proofs.YtnflnbdlgdjfmabDoor
set_option linter.unusedVariables false
set_option linter.unusedSimpArgs false
/-- A reader: the words that are left; was something wrong? -/
structure Rd where
  ws : List ByteArray
  bad : Bool
def Rd.c (r : Rd) : List C := [slOf 1 (strRows r.ws), .bool r.bad]
def sNil : ByteArray := ⟨#[]⟩
def sLp : ByteArray := ⟨#[40]⟩
def sRp : ByteArray := ⟨#[41]⟩
def sYes : ByteArray := ⟨#[121, 101, 115]⟩
def sNo : ByteArray := ⟨#[110, 111]⟩
def sHash : ByteArray := ⟨#[35]⟩
def Rd.fail (r : Rd) : Rd := ⟨r.ws, true⟩
def Rd.next (r : Rd) : ByteArray × Rd := match r.ws with | [] => (sNil, ⟨[], true⟩) | w :: ws => (w, ⟨ws, r.bad⟩)
/-- The closing bracket. -/
def Rd.close (r : Rd) : Rd := ⟨r.next.2.ws, !sEq r.next.1 sRp || r.next.2.bad⟩
def kAt (s : ByteArray) (op : Bool) (i : Nat) : Bool := sEq (kindsL.getD i sNil) s && ((i == 3) == op)
/-- The first of the last n kinds that fits. -/
def kFrom (s : ByteArray) (op : Bool) : Nat → Option Nat
  | 0 => none
  | n + 1 => if kAt s op (3 - n) then some (3 - n) else kFrom s op n
def wAt (s : ByteArray) (i : Nat) : Bool := !sEq (wordsL.getD i sNil) sNil && sEq (wordsL.getD i sNil) s
def wFrom (s : ByteArray) : Nat → Option Nat
  | 0 => none
  | n + 1 => if wAt s (9 - n) then some (9 - n) else wFrom s n
/-- A type; so many may be within one another. -/
def readK : Nat → Rd → Ty × Rd
  | 0, r => (.any, (if sEq r.next.1 sLp then r.next.2.next else r.next).2.fail)
  | d + 1, r =>
    let op := sEq r.next.1 sLp
    let q := if op then r.next.2.next else r.next
    match kFrom q.1 op 4 with
    | none => (.any, q.2.fail)
    | some k => if op then (.mk k [(readK d q.2).1, (readK d (readK d q.2).2).1], (readK d (readK d q.2).2).2.close) else (.mk k [], q.2)
def numOf (s : ByteArray) : Option Int :=
  match Lib.atoiAll s.data.toList with
  | .ok v => if sEq ⟨(Lib.itoa v).toArray⟩ s then some v else none
  | _ => none
def Rd.number (r : Rd) (s : ByteArray) : Int × Rd := match numOf s with | some v => (v, r) | none => (0, r.fail)
/-- So many terms, one after the other. -/
def readN (f : Rd → Tm × Rd) : Nat → Rd → List Tm × Rd
  | 0, r => ([], r)
  | n + 1, r => ((f r).1 :: (readN f n (f r).2).1, (readN f n (f r).2).2)
/-- A term of a word's kind. -/
def readB (f : Rd → Tm × Rd) (k : Nat) (r : Rd) : Tm × Rd :=
  let t := if (k : Int) == 7 || (k : Int) == 9 then readK 4 r else (.any, r)
  let l := readN f (arity k).toNat t.2
  (.mk k 0 t.1 .any l.1, l.2.close)
/-- A term; so many may be within one another. -/
def readT : Nat → Rd → Tm × Rd
  | 0, r => (Tm.zero, r.next.2.fail)
  | n + 1, r =>
    let s := r.next.1
    let q := r.next.2
    if q.bad then (Tm.zero, q.fail)
    else if sEq s sYes || sEq s sNo then (.mk 3 (if sEq s sYes then 1 else 0) .any .any [], q)
    else if Lib.hasPrefix s.data.toList sHash.data.toList then (.mk 1 (q.number (s.extract 1 s.size)).1 .any .any [], (q.number (s.extract 1 s.size)).2)
    else if !sEq s sLp then (.mk 2 (q.number s).1 .any .any [], (q.number s).2)
    else match wFrom q.next.1 10 with
      | none => (Tm.zero, q.next.2.fail)
      | some k => readB (readT n) k q.next.2
/-- A text's words. -/
def wordsOf (s : ByteArray) : List ByteArray := Lib.goFieldsP (fun x => x == 32 || x == 10) (replaceS (replaceS s sLp ⟨#[32, 40, 32]⟩) sRp ⟨#[32, 41, 32]⟩)
/-- The term of a text, and what was wrong. -/
def parse (s : ByteArray) : Tm × Int :=
  if 1000 < s.size then (Tm.zero, 4)
  else
    let p := readT 40 ⟨wordsOf s, false⟩
    if p.2.bad || decide (0 < p.2.ws.length) || !p.1.Good 0 then (Tm.zero, 1) else (p.1, 0)
theorem next_len (r : Rd) : r.next.2.ws.length ≤ r.ws.length ∧ (r.next.2.bad = false → r.next.2.ws.length + 1 = r.ws.length ∧ r.bad = false) := by
  unfold Rd.next
  split
  · rename_i h; exact ⟨by simp, fun h => by cases h⟩
  · rename_i w ws h; exact ⟨by simp [h], fun hb => ⟨by simp [h], hb⟩⟩
theorem close_len (r : Rd) (h : r.close.bad = false) : r.close.ws.length + 1 = r.ws.length ∧ r.bad = false := by
  unfold Rd.close at h ⊢
  simp only [Bool.or_eq_false_iff] at h
  exact (next_len r).2 h.2
theorem readK_thin : ∀ (d : Nat) (r : Rd), Thin (readK d r).1 ∧ ((readK d r).2.bad = false → (readK d r).2.ws.length + 1 ≤ r.ws.length ∧ r.bad = false)
  | 0, r => by
    refine ⟨Right.any.thin, fun h => ?_⟩
    simp [readK, Rd.fail] at h
  | d + 1, r => by
    have leaf : ∀ k : Int, Thin (.mk k []) := fun k => .mk k [] (by simp) (fun t h => by cases h)
    have hq : ∀ q : ByteArray × Rd, q = (if sEq r.next.1 sLp then r.next.2.next else r.next) → q.2.bad = false → q.2.ws.length + 1 ≤ r.ws.length ∧ r.bad = false := by
      intro q hq hb
      subst hq
      split at hb
      · rename_i h
        obtain ⟨h1, h2⟩ := (next_len r.next.2).2 hb
        obtain ⟨h3, h4⟩ := (next_len r).2 h2
        rw [if_pos h]
        exact ⟨by omega, h4⟩
      · rename_i h
        obtain ⟨h3, h4⟩ := (next_len r).2 hb
        rw [if_neg h]
        exact ⟨by omega, h4⟩
    simp only [readK]
    generalize hqe : (if sEq r.next.1 sLp = true then r.next.2.next else r.next) = q
    have hq := hq q hqe.symm
    cases kFrom q.1 (sEq r.next.1 sLp) 4 with
    | none => exact ⟨Right.any.thin, fun h => by cases h⟩
    | some k =>
      simp only
      split
      · obtain ⟨t1, b1⟩ := readK_thin d q.2
        obtain ⟨t2, b2⟩ := readK_thin d (readK d q.2).2
        refine ⟨.mk _ _ (by simp) fun t ht => ?_, fun h => ?_⟩
        · simp at ht
          rcases ht with rfl | rfl
          · exact t1
          · exact t2
        · obtain ⟨h1, h2⟩ := close_len _ h
          obtain ⟨h3, h4⟩ := b2 h2
          obtain ⟨h5, h6⟩ := b1 h4
          obtain ⟨h7, h8⟩ := hq h6
          exact ⟨by simp only; omega, h8⟩
      · exact ⟨leaf _, hq⟩
theorem atoi_in {l : List UInt8} {v : Int} (h : Lib.atoiAll l = .ok v) : -9223372036854775808 ≤ v ∧ v ≤ 9223372036854775807 := by
  unfold Lib.atoiAll at h
  split at h
  · cases h
  · simp only at h
    split at h
    · cases h
    · cases h
    · split at h
      · cases h
      · rename_i h1
        split at h
        · cases h
        · rename_i h2
          simp only [Lib.NumEnd.ok.injEq] at h
          subst h
          split
          · rename_i h3; simp only [h3, true_and, Nat.not_lt] at h2; omega
          · rename_i h3; simp only [h3, not_false_eq_true, true_and, Nat.not_le] at h1; omega
theorem numOf_in {s : ByteArray} {v : Int} (h : numOf s = some v) : -9223372036854775808 ≤ v ∧ v ≤ 9223372036854775807 := by
  unfold numOf at h
  split at h
  · rename_i hA
    split at h
    · cases h; exact atoi_in hA
    · cases h
  · cases h
theorem number_in (r : Rd) (s : ByteArray) : (r.number s).1 ≤ 9223372036854775807 ∧ ((r.number s).2.bad = false → (r.number s).2 = r) := by
  unfold Rd.number
  split
  · rename_i h; exact ⟨(numOf_in h).2, fun _ => rfl⟩
  · exact ⟨by show (0 : Int) ≤ _; decide, fun h => by cases h⟩
/-- What has been read: of the right form; not more terms than words. -/
def ReadOk (r : Rd) (p : Tm × Rd) : Prop := TmOk p.1 ∧ (p.2.bad = false → p.1.nodes + p.2.ws.length ≤ r.ws.length ∧ r.bad = false)
theorem zero_ok : TmOk Tm.zero := .mk (by decide) Right.any.thin Right.any.thin fun x h => by cases h
theorem leaf_ok {k n : Int} (hn : n ≤ 9223372036854775807) : TmOk (.mk k n .any .any []) := .mk hn Right.any.thin Right.any.thin fun x h => by cases h
theorem readN_ok {f : Rd → Tm × Rd} (hf : ∀ r, ReadOk r (f r)) : ∀ (n : Nat) (r : Rd), (∀ t ∈ (readN f n r).1, TmOk t) ∧ (readN f n r).1.length = n ∧ ((readN f n r).2.bad = false → nodesL (readN f n r).1 + (readN f n r).2.ws.length ≤ r.ws.length ∧ r.bad = false)
  | 0, r => by simp [readN, nodesL]
  | n + 1, r => by
    obtain ⟨h1, h2⟩ := hf r
    obtain ⟨h3, h4, h5⟩ := readN_ok hf n (f r).2
    simp only [readN, List.length_cons, h4, nodesL]
    refine ⟨fun t ht => ?_, trivial, fun hb => ?_⟩
    · rcases List.mem_cons.1 ht with rfl | ht
      · exact h1
      · exact h3 t ht
    · obtain ⟨h6, h7⟩ := h5 hb
      obtain ⟨h8, h9⟩ := h2 h7
      exact ⟨by omega, h9⟩
theorem readT_ok : ∀ (n : Nat) (r : Rd), ReadOk r (readT n r)
  | 0, r => ⟨zero_ok, fun h => by simp [readT, Rd.fail] at h⟩
  | n + 1, r => by
    have hlen := next_len r
    have leafN : ∀ t : Tm, t.l = [] → t.nodes = 1 := fun t h => by rw [nodes_eta, h]; rfl
    simp only [readT]
    cases hb : r.next.2.bad with
    | true => exact ⟨zero_ok, fun h => by simp [Rd.fail] at h⟩
    | false =>
      obtain ⟨hl, hbad⟩ := hlen.2 hb
      simp only [Bool.false_eq_true, if_false]
      split
      · exact ⟨leaf_ok (by split <;> decide), fun _ => ⟨by rw [leafN _ rfl]; simp only; omega, hbad⟩⟩
      split
      · obtain ⟨h1, h2⟩ := number_in r.next.2 (r.next.1.extract 1 r.next.1.size)
        exact ⟨leaf_ok h1, fun h => ⟨by rw [leafN _ rfl]; simp only at h ⊢; rw [h2 h]; omega, hbad⟩⟩
      split
      · obtain ⟨h1, h2⟩ := number_in r.next.2 r.next.1
        exact ⟨leaf_ok h1, fun h => ⟨by rw [leafN _ rfl]; simp only at h ⊢; rw [h2 h]; omega, hbad⟩⟩
      · have hlen2 := next_len r.next.2
        split
        · exact ⟨zero_ok, fun h => by simp [Rd.fail] at h⟩
        · rename_i k _
          simp only [readB]
          have ht : ∀ t : Ty × Rd, t = (if ((k : Int) == 7 || (k : Int) == 9) = true then readK 4 r.next.2.next.2 else (.any, r.next.2.next.2)) → Thin t.1 ∧ (t.2.bad = false → t.2.ws.length ≤ r.next.2.next.2.ws.length ∧ r.next.2.next.2.bad = false) := by
            intro t ht
            subst ht
            split
            · obtain ⟨h1, h2⟩ := readK_thin 4 r.next.2.next.2
              exact ⟨h1, fun h => ⟨by have := (h2 h).1; omega, (h2 h).2⟩⟩
            · exact ⟨Right.any.thin, fun h => ⟨Nat.le_refl _, h⟩⟩
          generalize hte : (if ((k : Int) == 7 || (k : Int) == 9) = true then readK 4 r.next.2.next.2 else (Ty.any, r.next.2.next.2)) = t
          obtain ⟨h1, h2⟩ := ht t hte.symm
          obtain ⟨h3, h4, h5⟩ := readN_ok (readT_ok n) (arity k).toNat t.2
          refine ⟨.mk (by simp) h1 Right.any.thin h3, fun h => ?_⟩
          obtain ⟨h6, h7⟩ := close_len _ h
          obtain ⟨h8, h9⟩ := h5 h7
          obtain ⟨h10, h11⟩ := h2 h9
          obtain ⟨h12, h13⟩ := hlen2.2 h11
          refine ⟨?_, hbad⟩
          simp only [Tm.nodes]
          omega
end Go.Proofs.YtnflnbdlgdjfmabDoor
namespace Go.Proofs.YtnflnbdlgdjfmabDoor
set_option linter.unusedVariables false
set_option linter.unusedSimpArgs false
def kTxt (k : Int) : List UInt8 := (kindsL.getD k.toNat sNil).data.toList
def wTxt (k : Int) : List UInt8 := (wordsL.getD k.toNat sNil).data.toList
mutual
/-- The text of a type. -/
def tyTxt : Ty → List UInt8
  | .mk k l => if k == 3 then 40 :: (kTxt k ++ tyTxtL l) ++ [41] else kTxt k ++ tyTxtL l
def tyTxtL : List Ty → List UInt8
  | [] => []
  | a :: l => 32 :: tyTxt a ++ tyTxtL l
end
theorem tyTxt_eta (a : Ty) : tyTxt a = if a.k == 3 then 40 :: (kTxt a.k ++ tyTxtL a.l) ++ [41] else kTxt a.k ++ tyTxtL a.l := by cases a; simp only [tyTxt, Ty.k_mk, Ty.l_mk]; rfl
mutual
/-- The text of a term. -/
def tmTxt : Tm → List UInt8
  | .mk k n t _ l =>
    if k == 1 then 35 :: Lib.itoa n
    else if k == 2 then Lib.itoa n
    else if k == 3 then (if n == 1 then sYes.data.toList else sNo.data.toList)
    else 40 :: (wTxt k ++ ((if k == 7 || k == 9 then 32 :: tyTxt t else []) ++ tmTxtL l)) ++ [41]
def tmTxtL : List Tm → List UInt8
  | [] => []
  | a :: l => 32 :: tmTxt a ++ tmTxtL l
end
theorem tmTxt_eta (a : Tm) : tmTxt a = if a.k == 1 then 35 :: Lib.itoa a.n
    else if a.k == 2 then Lib.itoa a.n
    else if a.k == 3 then (if a.n == 1 then sYes.data.toList else sNo.data.toList)
    else 40 :: (wTxt a.k ++ ((if a.k == 7 || a.k == 9 then 32 :: tyTxt a.t else []) ++ tmTxtL a.l)) ++ [41] := by cases a; simp only [tmTxt, Tm.k, Tm.n, Tm.t, Tm.l]; rfl
mutual
def tyTok : Ty → List (List UInt8)
  | .mk k l => if k == 3 then [40] :: kTxt k :: tyTokL l ++ [[41]] else [kTxt k]
def tyTokL : List Ty → List (List UInt8)
  | [] => []
  | a :: l => tyTok a ++ tyTokL l
end
mutual
def tmTok : Tm → List (List UInt8)
  | .mk k n t _ l =>
    if k == 1 then [35 :: Lib.itoa n]
    else if k == 2 then [Lib.itoa n]
    else if k == 3 then [if n == 1 then sYes.data.toList else sNo.data.toList]
    else [40] :: wTxt k :: ((if k == 7 || k == 9 then tyTok t else []) ++ tmTokL l) ++ [[41]]
def tmTokL : List Tm → List (List UInt8)
  | [] => []
  | a :: l => tmTok a ++ tmTokL l
end
def plainB (b : UInt8) : Bool := !isSpB b && b != 40 && b != 41
theorem toks_run {xs : List UInt8} (h : ∀ b ∈ xs, plainB b = true) (cur l : List UInt8) : toks cur (xs ++ l) = toks (cur ++ xs) l := by
  induction xs generalizing cur with
  | nil => simp
  | cons x xs ih =>
    have hx := h x (by simp)
    simp only [plainB, Bool.and_eq_true, Bool.not_eq_true', bne_iff_ne] at hx
    simp only [List.cons_append, toks, hx.1.1, Bool.false_eq_true, if_false]
    rw [if_neg (by simp [hx.1.2, hx.2]), ih (fun b hb => h b (by simp [hb])), List.append_assoc]
    rfl
/-- What stands behind a word. -/
def SepB (l : List UInt8) : Prop := l = [] ∨ ∃ c r, l = c :: r ∧ plainB c = false
theorem toks_sep {l : List UInt8} (h : SepB l) (w : List UInt8) : toks w l = flushW w ++ toks [] l := by
  rcases h with rfl | ⟨c, r, rfl, h⟩
  · simp [toks, flushW]
  · simp only [toks]
    by_cases h1 : isSpB c = true
    · simp [h1, flushW]
    · have h2 : (c == 40 || c == 41) = true := by
        simp only [plainB] at h
        simp only [Bool.not_eq_true] at h1
        rw [h1] at h
        by_cases h3 : c = 40
        · simp [h3]
        · by_cases h4 : c = 41
          · simp [h4]
          · simp [h3, h4] at h
      simp [h1, h2, flushW]
theorem toks_word {w l : List UInt8} (h : ∀ b ∈ w, plainB b = true) (hne : w ≠ []) (hs : SepB l) : toks [] (w ++ l) = w :: toks [] l := by
  rw [toks_run h, List.nil_append, toks_sep hs]; simp [flushW, hne]
theorem toks_sp (l : List UInt8) : toks [] (32 :: l) = toks [] l := by simp [toks, isSpB, flushW]
theorem toks_open (l : List UInt8) : toks [] (40 :: l) = [40] :: toks [] l := by simp [toks, isSpB, flushW]
theorem toks_close (l : List UInt8) : toks [] (41 :: l) = [41] :: toks [] l := by simp [toks, isSpB, flushW]
theorem sep_sp (l : List UInt8) : SepB (32 :: l) := .inr ⟨32, l, rfl, by decide⟩
theorem sep_close (l : List UInt8) : SepB (41 :: l) := .inr ⟨41, l, rfl, by decide⟩
theorem kTxt_ok {k : Int} (h : k = 0 ∨ k = 1 ∨ k = 2 ∨ k = 3) : (∀ b ∈ kTxt k, plainB b = true) ∧ kTxt k ≠ [] := by
  rcases h with rfl | rfl | rfl | rfl <;> exact ⟨by decide, by decide⟩
theorem wTxt_ok {k : Int} (h : k = 4 ∨ k = 5 ∨ k = 6 ∨ k = 7 ∨ k = 8 ∨ k = 9) : (∀ b ∈ wTxt k, plainB b = true) ∧ wTxt k ≠ [] := by
  rcases h with rfl | rfl | rfl | rfl | rfl | rfl <;> exact ⟨by decide, by decide⟩
theorem ty_toks {a : Ty} (h : Right a) : ∀ l : List UInt8, SepB l → toks [] (tyTxt a ++ l) = tyTok a ++ toks [] l := by
  induction h with
  | @base k hk =>
    intro l hs
    have h3 : (k == 3) = false := by rw [beq_eq_false_iff_ne]; omega
    obtain ⟨h1, h2⟩ := kTxt_ok (k := k) (by omega)
    simp only [tyTxt, tyTxtL, tyTok, h3, List.append_nil, Bool.false_eq_true, if_false]
    rw [toks_word h1 h2 hs]; rfl
  | @fn a b ha hb iha ihb =>
    intro l hs
    obtain ⟨h1, h2⟩ := kTxt_ok (k := 3) (by simp)
    simp only [tyTxt, tyTxtL, tyTok, tyTokL, beq_self_eq_true, if_true, List.append_nil, List.cons_append, List.append_assoc, List.nil_append]
    rw [toks_open, toks_word h1 h2 (sep_sp _), toks_sp, iha _ (sep_sp _), toks_sp, ihb _ (sep_close _), toks_close]
theorem dig_ok (d : Nat) (h : d < 10) : plainB (UInt8.ofNat (48 + d)) = true ∧ 48 ≤ (UInt8.ofNat (48 + d)).toNat ∧ (UInt8.ofNat (48 + d)).toNat ≤ 57 ∧ (UInt8.ofNat (48 + d)).toNat - 48 = d := by
  have : d = 0 ∨ d = 1 ∨ d = 2 ∨ d = 3 ∨ d = 4 ∨ d = 5 ∨ d = 6 ∨ d = 7 ∨ d = 8 ∨ d = 9 := by omega
  rcases this with rfl | rfl | rfl | rfl | rfl | rfl | rfl | rfl | rfl | rfl <;> decide
theorem dec_ok (u : Nat) : (∀ b ∈ Lib.decDigits u, plainB b = true ∧ 48 ≤ b.toNat ∧ b.toNat ≤ 57) ∧ Lib.decDigits u ≠ [] := by
  induction u using Nat.strongRecOn with
  | _ u ih =>
    by_cases h : u < 10
    · rw [Lib.decDigits, dif_pos h]
      refine ⟨fun b hb => ?_, by simp⟩
      rw [List.mem_singleton.1 hb]
      obtain ⟨h1, h2, h3, _⟩ := dig_ok u h
      exact ⟨h1, h2, h3⟩
    · rw [Lib.decDigits, dif_neg h]
      refine ⟨fun b hb => ?_, by simp⟩
      rcases List.mem_append.1 hb with hb | hb
      · exact (ih (u / 10) (by omega)).1 b hb
      · rw [List.mem_singleton.1 hb]
        obtain ⟨h1, h2, h3, _⟩ := dig_ok (u % 10) (by omega)
        exact ⟨h1, h2, h3⟩
theorem parse_dec (u : Nat) (hu : u < 1000000000000) (r : List UInt8) : Lib.parseUint10 0 (Lib.decDigits u ++ r) = Lib.parseUint10 u r := by
  induction u using Nat.strongRecOn generalizing r with
  | _ u ih =>
    by_cases h : u < 10
    · rw [Lib.decDigits, dif_pos h]
      obtain ⟨_, h2, h3, h4⟩ := dig_ok u h
      simp only [List.singleton_append, Lib.parseUint10]
      rw [if_pos ⟨h2, h3⟩, if_neg (by omega), if_neg (by omega), h4]
      simp
    · rw [Lib.decDigits, dif_neg h, List.append_assoc, ih (u / 10) (by omega) (by omega)]
      obtain ⟨_, h2, h3, h4⟩ := dig_ok (u % 10) (by omega)
      simp only [List.singleton_append, Lib.parseUint10]
      rw [if_pos ⟨h2, h3⟩, if_neg (by omega), if_neg (by omega), h4]
      congr 1
      omega
theorem itoa_ok (n : Int) : (∀ b ∈ Lib.itoa n, plainB b = true ∧ (b = 45 ∨ 48 ≤ b.toNat ∧ b.toNat ≤ 57)) ∧ Lib.itoa n ≠ [] := by
  unfold Lib.itoa
  split
  · refine ⟨fun b hb => ?_, by simp⟩
    rcases List.mem_cons.1 hb with rfl | hb
    · exact ⟨by decide, .inl rfl⟩
    · exact ⟨((dec_ok _).1 b hb).1, .inr ((dec_ok _).1 b hb).2⟩
  · exact ⟨fun b hb => ⟨((dec_ok _).1 b hb).1, .inr ((dec_ok _).1 b hb).2⟩, (dec_ok _).2⟩
theorem atoi_itoa (n : Int) (h : -1000000000 ≤ n ∧ n ≤ 1000000000) : Lib.atoiAll (Lib.itoa n) = .ok n := by
  have hp : ∀ u : Nat, u < 1000000000000 → Lib.parseMag (Lib.decDigits u) = .ok u := fun u hu => by
    unfold Lib.parseMag
    rw [if_neg (dec_ok u).2]
    have := parse_dec u hu []
    rw [List.append_nil] at this
    rw [this]; rfl
  unfold Lib.itoa
  split
  · rename_i hn
    unfold Lib.atoiAll
    simp only [show (45 : UInt8).toNat = 45 from rfl, or_true, if_true]
    rw [hp _ (by omega)]
    simp only [not_true_eq_false, false_and, if_false, true_and, if_true]
    rw [if_neg (by omega)]
    congr 1; omega
  · rename_i hn
    have hd := hp n.toNat (by omega)
    have hb := (dec_ok n.toNat).1
    have hne := (dec_ok n.toNat).2
    generalize Lib.decDigits n.toNat = l at *
    cases l with
    | nil => exact absurd rfl hne
    | cons c r =>
      have hc := hb c (by simp)
      unfold Lib.atoiAll
      dsimp only
      rw [if_neg (by omega), hd]
      dsimp only
      have h45 : ¬ c.toNat = 45 := by omega
      simp only [h45, not_false_eq_true, true_and, false_and, if_false]
      rw [if_neg (by omega)]
      congr 1; omega
def mkB (l : List UInt8) : ByteArray := ⟨l.toArray⟩
theorem mkB_l (l : List UInt8) : (mkB l).data.toList = l := by simp [mkB]
theorem mkB_of (s : ByteArray) : mkB s.data.toList = s := by cases s; simp [mkB]
theorem sEq_mk (a b : List UInt8) : sEq (mkB a) (mkB b) = (a == b) := by simp [sEq, mkB_l]
theorem sEq_mkl (a : List UInt8) (b : ByteArray) : sEq (mkB a) b = (a == b.data.toList) := by simp [sEq, mkB_l]
theorem numOf_itoa (n : Int) (h : -1000000000 ≤ n ∧ n ≤ 1000000000) : numOf (mkB (Lib.itoa n)) = some n := by
  unfold numOf
  rw [mkB_l, atoi_itoa n h]
  simp only
  rw [show (⟨(Lib.itoa n).toArray⟩ : ByteArray) = mkB (Lib.itoa n) from rfl, sEq_mk]
  simp
theorem tm_toks : ∀ (a : Tm) (ar ow : Int), a.good ar ow = true → ∀ l : List UInt8, SepB l → toks [] (tmTxt a ++ l) = tmTok a ++ toks [] l := by
  intro a
  induction a using Tm.ind' with
  | h a ih =>
  intro ar ow hg l hs
  obtain ⟨k, n, t, f, x⟩ := a
  rcases good_cases hg with ⟨e, el, _⟩ | ⟨e, el, _⟩ | ⟨e, el, en, _⟩ | ⟨e, _, _, x, y, el, h1, h2⟩ | ⟨e, _, _, x, y, z, el, h1, h2, h3⟩ | ⟨e, _, ht, x, el, h1⟩ | ⟨e, _, ht, x, el, h1⟩ <;> simp only [Tm.k, Tm.n, Tm.t, Tm.l] at e el
  · subst e; subst el
    simp only [tmTxt, tmTok, beq_self_eq_true, if_true]
    rw [toks_word (fun b hb => ?_) (by simp) hs]; rfl
    rcases List.mem_cons.1 hb with rfl | hb
    · decide
    · exact ((itoa_ok n).1 b hb).1
  · subst e; subst el
    simp only [tmTxt, tmTok, show ((2 : Int) == 1) = false from rfl, beq_self_eq_true, if_true, Bool.false_eq_true, if_false]
    rw [toks_word (fun b hb => ((itoa_ok n).1 b hb).1) (itoa_ok n).2 hs]; rfl
  · subst e; subst el
    simp only [tmTxt, tmTok, show ((3 : Int) == 1) = false from rfl, show ((3 : Int) == 2) = false from rfl, beq_self_eq_true, if_true, Bool.false_eq_true, if_false]
    split
    · rw [toks_word (by decide) (by decide) hs]; rfl
    · rw [toks_word (by decide) (by decide) hs]; rfl
  · subst el
    have hw := wTxt_ok (k := k) (by omega)
    have e1 : (k == 1) = false := by rw [beq_eq_false_iff_ne]; omega
    have e2 : (k == 2) = false := by rw [beq_eq_false_iff_ne]; omega
    have e3 : (k == 3) = false := by rw [beq_eq_false_iff_ne]; omega
    have e7 : (k == 7) = false := by rw [beq_eq_false_iff_ne]; omega
    have e9 : (k == 9) = false := by rw [beq_eq_false_iff_ne]; omega
    simp only [tmTxt, tmTok, tmTxtL, tmTokL, e1, e2, e3, e7, e9, Bool.or_self, Bool.false_eq_true, if_false, List.nil_append, List.append_nil, List.cons_append, List.append_assoc]
    rw [toks_open, toks_word hw.1 hw.2 (sep_sp _), toks_sp, ih x (by simp) _ _ h1 _ (sep_sp _), toks_sp, ih y (by simp) _ _ h2 _ (sep_close _), toks_close]
  · subst el; subst e
    have hw := wTxt_ok (k := 6) (by simp)
    simp only [tmTxt, tmTok, tmTxtL, tmTokL, show ((6 : Int) == 1) = false from rfl, show ((6 : Int) == 2) = false from rfl, show ((6 : Int) == 3) = false from rfl, show ((6 : Int) == 7) = false from rfl, show ((6 : Int) == 9) = false from rfl, Bool.or_self, Bool.false_eq_true, if_false, List.nil_append, List.append_nil, List.cons_append, List.append_assoc]
    rw [toks_open, toks_word hw.1 hw.2 (sep_sp _), toks_sp, ih x (by simp) _ _ h1 _ (sep_sp _), toks_sp, ih y (by simp) _ _ h2 _ (sep_sp _), toks_sp, ih z (by simp) _ _ h3 _ (sep_close _), toks_close]
  · subst el; subst e
    have hw := wTxt_ok (k := 7) (by simp)
    simp only [tmTxt, tmTok, tmTxtL, tmTokL, show ((7 : Int) == 1) = false from rfl, show ((7 : Int) == 2) = false from rfl, show ((7 : Int) == 3) = false from rfl, beq_self_eq_true, Bool.true_or, if_true, Bool.false_eq_true, if_false, List.nil_append, List.append_nil, List.cons_append, List.append_assoc]
    rw [toks_open, toks_word hw.1 hw.2 (sep_sp _), toks_sp, ty_toks (a := t) (good_right ht) _ (sep_sp _), toks_sp, ih x (by simp) _ _ h1 _ (sep_close _), toks_close]
  · subst el; subst e
    have hw := wTxt_ok (k := 9) (by simp)
    simp only [tmTxt, tmTok, tmTxtL, tmTokL, show ((9 : Int) == 1) = false from rfl, show ((9 : Int) == 2) = false from rfl, show ((9 : Int) == 3) = false from rfl, beq_self_eq_true, Bool.or_true, if_true, Bool.false_eq_true, if_false, List.nil_append, List.append_nil, List.cons_append, List.append_assoc]
    rw [toks_open, toks_word hw.1 hw.2 (sep_sp _), toks_sp, ty_toks (a := t) (good_right ht) _ (sep_sp _), toks_sp, ih x (by simp) _ _ h1 _ (sep_close _), toks_close]
theorem next_cons (w : ByteArray) (ws : List ByteArray) (b : Bool) : (Rd.mk (w :: ws) b).next = (w, ⟨ws, b⟩) := rfl
theorem close_ok (ws : List ByteArray) (b : Bool) : (Rd.mk (mkB [41] :: ws) b).close = ⟨ws, b⟩ := by
  simp only [Rd.close, next_cons]
  rw [show sEq (mkB [41]) sRp = true from rfl]
  simp
theorem kFrom_base {k : Int} (h : k = 0 ∨ k = 1 ∨ k = 2) : kFrom (mkB (kTxt k)) false 4 = some k.toNat ∧ sEq (mkB (kTxt k)) sLp = false := by
  rcases h with rfl | rfl | rfl <;> exact ⟨by decide, by decide⟩
theorem kFrom_fn : kFrom (mkB (kTxt 3)) true 4 = some 3 := by decide
theorem ty_back : ∀ (d : Nat) (a : Ty), a.good d = true → ∀ ws b, readK d ⟨(tyTok a).map mkB ++ ws, b⟩ = (a, ⟨ws, b⟩)
  | 0, a, h, _, _ => by simp [Ty.good] at h
  | d + 1, .mk k l, h, ws, b => by
    have hr := good_right h
    cases hr with
    | base hk =>
      have h3 : (k == 3) = false := by rw [beq_eq_false_iff_ne]; omega
      obtain ⟨h1, h2⟩ := kFrom_base hk
      simp only [tyTok, h3, Bool.false_eq_true, if_false, List.map_cons, List.map_nil, List.singleton_append, readK, next_cons, h2, h1]
      congr 2
      omega
    | @fn x y hx hy =>
      simp only [Ty.good, bne_self_eq_false, Bool.false_eq_true, if_false, Bool.and_eq_true] at h
      have ih1 := ty_back d x h.2.1
      have ih2 := ty_back d y h.2.2
      simp only [tyTok, tyTokL, beq_self_eq_true, if_true, List.append_nil, List.map_cons, List.map_append, List.map_nil, List.cons_append, List.append_assoc, List.nil_append, readK, next_cons]
      rw [show sEq (mkB [40]) sLp = true from rfl]
      simp only [if_true, next_cons, kFrom_fn, ih1, ih2, close_ok]
      rfl
theorem wFrom_ok {k : Int} (h : k = 4 ∨ k = 5 ∨ k = 6 ∨ k = 7 ∨ k = 8 ∨ k = 9) : wFrom (mkB (wTxt k)) 10 = some k.toNat := by
  rcases h with rfl | rfl | rfl | rfl | rfl | rfl <;> decide
theorem good_f {a : Tm} {ar ow : Int} (h : a.good ar ow = true) : a.f = .any := by
  rw [goodT_eta, Bool.and_eq_true] at h
  have h := h.1
  simp only [Tm.fit, Bool.and_eq_true] at h
  exact same_eq h.1.1.2
/-- A number's word is no other word. -/
theorem num_word {l : List UInt8} {n : Int} (hl : l = Lib.itoa n) : sEq (mkB l) sYes = false ∧ sEq (mkB l) sNo = false ∧ Lib.hasPrefix (mkB l).data.toList sHash.data.toList = false ∧ sEq (mkB l) sLp = false := by
  obtain ⟨h1, h2⟩ := itoa_ok n
  rw [← hl] at h1 h2
  cases l with
  | nil => exact absurd rfl h2
  | cons c r =>
    have hc := (h1 c (by simp)).2
    have hne : c ≠ 121 ∧ c ≠ 110 ∧ c ≠ 35 ∧ c ≠ 40 := by
      refine ⟨?_, ?_, ?_, ?_⟩ <;> (rintro rfl; revert hc; decide)
    refine ⟨?_, ?_, ?_, ?_⟩
    · rw [sEq_mkl]; simp [sYes, hne.1]
    · rw [sEq_mkl]; simp [sNo, hne.2.1]
    · rw [mkB_l]
      unfold Lib.hasPrefix
      simp [sHash, List.isPrefixOf]
      exact fun h => hne.2.2.1 h.symm
    · rw [sEq_mkl]; simp [sLp, hne.2.2.2]
theorem tm_back : ∀ (m : Nat) (a : Tm) (ar ow : Int), a.good ar ow = true → a.nodes ≤ m → ar + ow + a.nodes ≤ 1000000 → ∀ ws, readT m ⟨(tmTok a).map mkB ++ ws, false⟩ = (a, ⟨ws, false⟩)
  | 0, a, _, _, _, h, _, _ => by have := nodes_pos a; omega
  | m + 1, a, ar, ow, hg, hm, hb, ws => by
    have hf := good_f hg
    have hne := nodes_eta a
    obtain ⟨k, n, t, f, x⟩ := a
    simp only [Tm.f] at hf
    subst hf
    rcases good_cases hg with ⟨e, el, n0, n1, et⟩ | ⟨e, el, en, et⟩ | ⟨e, el, en, et⟩ | ⟨e, en, et, x, y, el, h1, h2⟩ | ⟨e, en, et, x, y, z, el, h1, h2, h3⟩ | ⟨e, en, ht, x, el, h1⟩ | ⟨e, en, ht, x, el, h1⟩ <;> simp only [Tm.k, Tm.n, Tm.t, Tm.l] at *
    · subst e; subst el; subst et
      simp only [tmTok, beq_self_eq_true, if_true, List.map_cons, List.map_nil, List.singleton_append, readT, next_cons]
      rw [sEq_mkl, sEq_mkl, mkB_l]
      have hx1 : ((35 : UInt8) :: Lib.itoa n == sYes.data.toList) = false := by simp [sYes]
      have hx2 : ((35 : UInt8) :: Lib.itoa n == sNo.data.toList) = false := by simp [sNo]
      have hx3 : Lib.hasPrefix ((35 : UInt8) :: Lib.itoa n) sHash.data.toList = true := by unfold Lib.hasPrefix; simp [sHash, List.isPrefixOf]
      have hx4 : (mkB (35 :: Lib.itoa n)).extract 1 (mkB (35 :: Lib.itoa n)).size = mkB (Lib.itoa n) := by
        rw [Lib.extract_eq, mkB_l]
        unfold mkB
        congr 2
        show ((Lib.itoa n).take _) = _
        apply List.take_of_length_le
        show (Lib.itoa n).length ≤ (ByteArray.mk (35 :: Lib.itoa n).toArray).size - 1
        simp [ByteArray.size]
      simp only [hx1, hx2, hx3, hx4, Bool.or_self, Bool.false_eq_true, if_false, if_true]
      unfold Rd.number
      rw [numOf_itoa n (by simp only [nodesL] at hne; omega)]
    · subst e; subst el; subst et
      obtain ⟨w1, w2, w3, w4⟩ := num_word (l := Lib.itoa n) rfl
      have hnb := inB_iff.1 en
      simp only [tmTok, show ((2 : Int) == 1) = false from rfl, beq_self_eq_true, if_true, Bool.false_eq_true, if_false, List.map_cons, List.map_nil, List.singleton_append, readT, next_cons, w1, w2, w3, w4, Bool.or_self, Bool.not_false]
      unfold Rd.number
      rw [numOf_itoa n (by omega)]
    · subst e; subst el; subst et
      simp only [tmTok, show ((3 : Int) == 1) = false from rfl, show ((3 : Int) == 2) = false from rfl, beq_self_eq_true, if_true, Bool.false_eq_true, if_false, List.map_cons, List.map_nil, List.singleton_append, readT, next_cons]
      rcases en with rfl | rfl
      · rw [show mkB (if ((0 : Int) == 1) = true then sYes.data.toList else sNo.data.toList) = sNo from rfl, show sEq sNo sYes = false from rfl, show sEq sNo sNo = true from rfl]
        rfl
      · rw [show mkB (if ((1 : Int) == 1) = true then sYes.data.toList else sNo.data.toList) = sYes from rfl, show sEq sYes sYes = true from rfl]
        rfl
    · subst el; subst et; subst en
      have ih1 := fun ws => tm_back m x _ _ h1 (by simp only [nodesL] at hne; omega) (by simp only [nodesL] at hne; omega) ws
      have ih2 := fun ws => tm_back m y _ _ h2 (by simp only [nodesL] at hne; omega) (by simp only [nodesL] at hne; omega) ws
      have e1 : (k == 1) = false := by rw [beq_eq_false_iff_ne]; omega
      have e2 : (k == 2) = false := by rw [beq_eq_false_iff_ne]; omega
      have e3 : (k == 3) = false := by rw [beq_eq_false_iff_ne]; omega
      have e7 : (k == 7) = false := by rw [beq_eq_false_iff_ne]; omega
      have e9 : (k == 9) = false := by rw [beq_eq_false_iff_ne]; omega
      have hw := wFrom_ok (k := k) (by omega)
      have hkk : ((k.toNat : Nat) : Int) = k := by omega
      have har : (arity k).toNat = 2 := by rcases e with rfl | rfl | rfl <;> rfl
      simp only [tmTok, tmTokL, e1, e2, e3, e7, e9, Bool.or_self, Bool.false_eq_true, if_false, List.nil_append, List.append_nil, List.map_cons, List.map_append, List.map_nil, List.cons_append, List.append_assoc, readT, next_cons]
      rw [show sEq (mkB [40]) sYes = false from rfl, show sEq (mkB [40]) sNo = false from rfl, show Lib.hasPrefix (mkB [40]).data.toList sHash.data.toList = false from rfl, show sEq (mkB [40]) sLp = true from rfl]
      simp only [Bool.or_self, Bool.false_eq_true, if_false, Bool.not_true, hw, readB, hkk, e7, e9, har, readN, ih1, ih2, close_ok]
    · subst el; subst et; subst en; subst e
      have ih1 := fun ws => tm_back m x _ _ h1 (by simp only [nodesL] at hne; omega) (by simp only [nodesL] at hne; omega) ws
      have ih2 := fun ws => tm_back m y _ _ h2 (by simp only [nodesL] at hne; omega) (by simp only [nodesL] at hne; omega) ws
      have ih3 := fun ws => tm_back m z _ _ h3 (by simp only [nodesL] at hne; omega) (by simp only [nodesL] at hne; omega) ws
      have hw := wFrom_ok (k := 6) (by omega)
      simp only [tmTok, tmTokL, show ((6 : Int) == 1) = false from rfl, show ((6 : Int) == 2) = false from rfl, show ((6 : Int) == 3) = false from rfl, show ((6 : Int) == 7) = false from rfl, show ((6 : Int) == 9) = false from rfl, Bool.or_self, Bool.false_eq_true, if_false, List.nil_append, List.append_nil, List.map_cons, List.map_append, List.map_nil, List.cons_append, List.append_assoc, readT, next_cons]
      rw [show sEq (mkB [40]) sYes = false from rfl, show sEq (mkB [40]) sNo = false from rfl, show Lib.hasPrefix (mkB [40]).data.toList sHash.data.toList = false from rfl, show sEq (mkB [40]) sLp = true from rfl]
      simp only [Bool.or_self, Bool.false_eq_true, if_false, Bool.not_true, hw, readB, show (((6 : Int).toNat : Nat) : Int) = 6 from rfl, show ((6 : Int) == 7) = false from rfl, show ((6 : Int) == 9) = false from rfl, show (arity 6).toNat = 3 from rfl, readN, ih1, ih2, ih3, close_ok]
    · subst el; subst en; subst e
      have ih1 := fun ws => tm_back m x _ _ h1 (by simp only [nodesL] at hne; omega) (by simp only [nodesL] at hne; omega) ws
      have iht := ty_back 4 t ht
      have hw := wFrom_ok (k := 7) (by omega)
      simp only [tmTok, tmTokL, show ((7 : Int) == 1) = false from rfl, show ((7 : Int) == 2) = false from rfl, show ((7 : Int) == 3) = false from rfl, beq_self_eq_true, Bool.true_or, if_true, Bool.false_eq_true, if_false, List.nil_append, List.append_nil, List.map_cons, List.map_append, List.map_nil, List.cons_append, List.append_assoc, readT, next_cons]
      rw [show sEq (mkB [40]) sYes = false from rfl, show sEq (mkB [40]) sNo = false from rfl, show Lib.hasPrefix (mkB [40]).data.toList sHash.data.toList = false from rfl, show sEq (mkB [40]) sLp = true from rfl]
      simp only [Bool.or_self, Bool.false_eq_true, if_false, Bool.not_true, hw, readB, show (((7 : Int).toNat : Nat) : Int) = 7 from rfl, beq_self_eq_true, Bool.true_or, if_true, show (arity 7).toNat = 1 from rfl, readN, iht, ih1, close_ok]
    · subst el; subst en; subst e
      have ih1 := fun ws => tm_back m x _ _ h1 (by simp only [nodesL] at hne; omega) (by simp only [nodesL] at hne; omega) ws
      have iht := ty_back 4 t ht
      have hw := wFrom_ok (k := 9) (by omega)
      simp only [tmTok, tmTokL, show ((9 : Int) == 1) = false from rfl, show ((9 : Int) == 2) = false from rfl, show ((9 : Int) == 3) = false from rfl, beq_self_eq_true, Bool.or_true, if_true, Bool.false_eq_true, if_false, List.nil_append, List.append_nil, List.map_cons, List.map_append, List.map_nil, List.cons_append, List.append_assoc, readT, next_cons]
      rw [show sEq (mkB [40]) sYes = false from rfl, show sEq (mkB [40]) sNo = false from rfl, show Lib.hasPrefix (mkB [40]).data.toList sHash.data.toList = false from rfl, show sEq (mkB [40]) sLp = true from rfl]
      simp only [Bool.or_self, Bool.false_eq_true, if_false, Bool.not_true, hw, readB, show (((9 : Int).toNat : Nat) : Int) = 9 from rfl, beq_self_eq_true, Bool.or_true, if_true, show (arity 9).toNat = 1 from rfl, readN, iht, ih1, close_ok]
theorem words_toks (s : ByteArray) : wordsOf s = (toks [] s.data.toList).map mkB := by
  have h1 := fieldsP_eq (fun x => x == 32 || x == 10) (fun _ => rfl) (replaceS (replaceS s sLp ⟨#[32, 40, 32]⟩) sRp ⟨#[32, 41, 32]⟩)
  have h2 : (replaceS (replaceS s sLp ⟨#[32, 40, 32]⟩) sRp ⟨#[32, 41, 32]⟩).data.toList = s.data.toList.flatMap padB := by
    unfold replaceS
    simp only [sLp, sRp]
    exact replace_both _
  rw [h2, spl_pad] at h1
  rw [← h1, List.map_map]
  unfold wordsOf
  rw [show (mkB ∘ fun (x : ByteArray) => x.data.toList) = id from funext mkB_of, List.map_id]
/-- The text of a term, and whether it has one. -/
def print (a : Tm) : ByteArray × Int := if a.Good 0 then (if 1000 < (tmTxt a).length then (sNil, 4) else (mkB (tmTxt a), 0)) else (sNil, 1)
theorem print_back (a : Tm) (h : (print a).2 = 0) : parse (print a).1 = (a, 0) := by
  unfold print at *
  cases hg : a.Good 0 with
  | false => rw [hg] at h; simp at h
  | true =>
    rw [hg] at h
    simp only [if_true] at h ⊢
    split at h
    · simp at h
    · rename_i hl
      rw [if_neg hl]
      have hg' := hg
      unfold Tm.Good at hg'
      simp only [Bool.and_eq_true, decide_eq_true_eq] at hg'
      have hsz : (mkB (tmTxt a)).size = (tmTxt a).length := by simp [mkB, ByteArray.size]
      have ht := tm_toks a 0 0 hg'.2 [] (.inl rfl)
      rw [List.append_nil, show toks [] [] = [] from rfl, List.append_nil] at ht
      have hb := tm_back 40 a 0 0 hg'.2 (by omega) (by omega) []
      rw [List.append_nil] at hb
      unfold parse
      rw [hsz, if_neg hl, words_toks, mkB_l, ht, hb]
      simp [hg]
end Go.Proofs.YtnflnbdlgdjfmabDoor
namespace Go.Proofs.YtnflnbdlgdjfmabDoor
open Go.RowKit
set_option linter.unusedVariables false
set_option linter.unusedSimpArgs false
set_option maxRecDepth 100000
attribute [local irreducible] RunL AW LocOp ACalls Gh
theorem strRows_get {ws : List ByteArray} {i : Nat} {w : ByteArray} (h : ws[i]? = some w) : (strRows ws)[i]? = some [.str w] := by simp [strRows, h]
/-- The end of what answers a string or a number, the reader as it is. -/
theorem ret_rd {P : Program} {x : Tmp} {c : C} {e : Exit} {t : Nat → U} {h : Nat → Option Blk} {r : Rd} {l : List C} (he : e = .normal ∨ e = .ret) (hx : t x = .one c) (hc : closedC c = true) (hb : h 1000 = some (.obj l)) (hl : All2 (WkC h [] []) l r.c) : RetQ P #[.tmp x] (.one c) [(1000, .obj r.c)] e t h :=
  ⟨he, [.one c], ⟨hx, trivial⟩, ⟨trivial, trivial⟩, .one c, rfl, [], trivial, WkU.one, ⟨⟨_, hb, hl⟩, trivial⟩, rfl, closed_okC hc, ⟨⟨trivial, trivial, trivial⟩, trivial⟩⟩
theorem next_a (r : Rd) : ACalls Tryd.prog 47 [.one (.ptr 1000 0)] [(1000, .obj (Rd.c (r)))] (.one (.str r.next.1)) [(1000, .obj (Rd.c (r.next.2)))] := by
  obtain ⟨ws, bad⟩ := r
  refine acalls_of_body Tryd.func47 rfl (by kernel_rfl) (Nat.le_of_ble_eq_true rfl) (by exact ⟨⟨rfl, trivial⟩, trivial⟩) (by simp [namesL]) ?_
  cases ws with
  | nil =>
    refine AW.seq ?_; refine AW.region (by kernel_rfl) ?_; refine RunL.val (by exact rfl) (loc_assignC rfl) ?_; refine RunL.nil ?_; refine AW.seq ?_; refine AW.seq ?_; refine AW.region (by kernel_rfl) ?_; refine RunL.val (by exact rfl) (loc_moveC rfl) ?_; refine RunL.val (by exact rfl) (loc_nilCheck rfl rfl) ?_; refine RunL.val (by exact rfl) (loc_fieldAddr rfl) ?_; refine RunL.val (by exact rfl) (loc_load rfl rfl rfl) ?_; refine RunL.val (by exact rfl) (loc_lenSl rfl) ?_; refine RunL.val (by exact rfl) (loc_binInt rfl rfl rfl) ?_; refine RunL.nil ?_; refine AW.condT (by exact rfl) ?_; refine AW.seq ?_; refine AW.region (by kernel_rfl) ?_; refine RunL.val (by exact rfl) (loc_moveC rfl) ?_; refine RunL.val (by exact rfl) (loc_nilCheck rfl rfl) ?_; refine RunL.val (by exact rfl) (loc_fieldAddr rfl) ?_; refine RunL.eff (by exact rfl) (loc_store (by exact rfl) (by exact rfl) (by exact rfl) (by exact rfl) (by exact rfl) (by exact Nat.le_of_ble_eq_true rfl) (by exact rfl)) ?_; refine RunL.nil ?_; refine AW.seq ?_; refine AW.region (by kernel_rfl) ?_; refine RunL.val (by exact rfl) (loc_assignC rfl) ?_; refine RunL.nil ?_; refine AW.ret ?_
    refine rq ?_
    exact ret_rd (by exact .inr rfl) (by exact rfl) rfl (by exact rfl) (by exact wkRow_refl _)
  | cons w ws =>
    have hz : (((((strRows (w :: ws)).length : Nat)) : Int) == 0) = false := by rw [beq_eq_false_iff_ne]; simp [strRows]; omega
    have hr0 : (strRows (w :: ws))[0]? = some [.str w] := strRows_get rfl
    refine AW.seq ?_; refine AW.region (by kernel_rfl) ?_; refine RunL.val (by exact rfl) (loc_assignC rfl) ?_; refine RunL.nil ?_; refine AW.seq ?_; refine AW.seq ?_; refine AW.region (by kernel_rfl) ?_; refine RunL.val (by exact rfl) (loc_moveC rfl) ?_; refine RunL.val (by exact rfl) (loc_nilCheck rfl rfl) ?_; refine RunL.val (by exact rfl) (loc_fieldAddr rfl) ?_; refine RunL.val (by exact rfl) (loc_load rfl rfl rfl) ?_; refine RunL.val (by exact rfl) (loc_lenSl rfl) ?_; refine RunL.val (by exact rfl) (loc_binInt rfl rfl rfl) ?_; refine RunL.nil ?_; refine AW.condF (by exact rfl) ?_; refine AW.skip ?_; refine AW.seq ?_; refine AW.region (by kernel_rfl) ?_; refine RunL.val (by exact rfl) (loc_moveC rfl) ?_; refine RunL.val (by exact rfl) (loc_nilCheck rfl rfl) ?_; refine RunL.val (by exact rfl) (loc_fieldAddr rfl) ?_; refine RunL.val (by exact rfl) (loc_load rfl rfl rfl) ?_; refine RunL.val (by exact rfl) (loc_indexSl _ rfl rfl rfl (by assumption) rfl) ?_; refine RunL.val (by exact rfl) (loc_loadF rfl (by exact rfl)) ?_; refine RunL.val (by exact rfl) (loc_assignC rfl) ?_; refine RunL.nil ?_; refine AW.seq ?_; refine AW.region (by kernel_rfl) ?_; refine RunL.val (by exact rfl) (loc_moveC rfl) ?_; refine RunL.val (by exact rfl) (loc_moveC rfl) ?_; refine RunL.val (by exact rfl) (loc_nilCheck rfl rfl) ?_; refine RunL.val (by exact rfl) (loc_fieldAddr rfl) ?_; refine RunL.val (by exact rfl) (loc_load rfl rfl rfl) ?_
    refine RunL.val (by exact rfl) (loc_sliceLo (n := 1) (by exact rfl) (by exact rfl) rfl (by simp [strRows]) (by simp [strRows])) ?_
    refine RunL.val (by exact rfl) (loc_nilCheck rfl rfl) ?_; refine RunL.val (by exact rfl) (loc_fieldAddr rfl) ?_; refine RunL.eff (by exact rfl) (loc_store (by exact rfl) (by exact rfl) (by exact rfl) (by exact rfl) (by exact rfl) (by exact Nat.le_of_ble_eq_true rfl) (by exact rfl)) ?_; refine RunL.nil ?_; refine AW.seq ?_; refine AW.region (by kernel_rfl) ?_; refine RunL.val (by exact rfl) (loc_moveC rfl) ?_; refine RunL.val (by exact rfl) (loc_assignC rfl) ?_; refine RunL.nil ?_; refine AW.ret ?_
    refine rq ?_
    exact ret_rd (by exact .inr rfl) (by exact rfl) rfl (by exact rfl) (by exact wkRow_refl _)
theorem number_a (r : Rd) (s : ByteArray) (hs : s.size ≤ 281474976710656) : ACalls Tryd.prog 49 [.one (.ptr 1000 0), .one (.str s)] [(1000, .obj (Rd.c (r)))] (.one (.int .i64 (r.number s).1)) [(1000, .obj (Rd.c ((r.number s).2)))] := by
  refine acalls_of_body Tryd.func49 rfl (by kernel_rfl) (Nat.le_of_ble_eq_true rfl) (by exact ⟨⟨rfl, trivial⟩, trivial⟩) (by simp [namesL]) ?_
  refine AW.seq ?_; refine AW.region (by kernel_rfl) ?_; refine RunL.val (by exact rfl) (loc_assignC rfl) ?_; refine RunL.nil ?_; refine AW.seq ?_; refine AW.region (by kernel_rfl) ?_; refine RunL.val (by exact rfl) (loc_moveC rfl) ?_
  refine RunL.val (by exact rfl) (loc_fun (atoi_a s hs) rfl (by refine ⟨_, _, rfl, (by exact LeU.of_eq rfl trivial), (by exact trivial), ?_⟩; exact rfl)) ?_
  cases hA : Lib.atoiAll s.data.toList with
  | ok v =>
    obtain ⟨h0, h1⟩ := atoi_in hA
    rw [show atoiU s = .tup [.one (.int .i64 v), .one .nilif] by unfold atoiU; rw [hA]]
    refine RunL.val (by exact rfl) (loc_moveT rfl) ?_; refine RunL.val (by exact rfl) (loc_extractC rfl rfl) ?_; refine RunL.val (by exact rfl) (loc_extractC rfl rfl) ?_; refine RunL.val (by exact rfl) (loc_assignC rfl) ?_; refine RunL.val (by exact rfl) (loc_assignC rfl) ?_; refine RunL.nil ?_; refine AW.seq ?_; refine AW.seq ?_; refine AW.region (by kernel_rfl) ?_; refine RunL.val (by exact rfl) (loc_moveC rfl) ?_
    refine RunL.val (by exact rfl) (loc_neIfF (by exact rfl) rfl) ?_
    refine RunL.val (by exact rfl) (loc_moveC rfl) ?_; refine RunL.val (by exact .inl ⟨_, _, rfl, rfl, rfl⟩) (loc_moveC rfl) ?_
    refine RunL.val (by exact .inl ⟨_, _, rfl, rfl, rfl⟩) (loc_fun (itoa_a v h0 h1) rfl (by refine ⟨_, _, rfl, (by exact LeU.of_eq rfl trivial), (by exact trivial), ?_⟩; exact rfl)) ?_
    refine RunL.val (by exact .inl ⟨_, _, rfl, rfl, rfl⟩) (loc_moveC rfl) ?_
    refine RunL.val (by exact .inl ⟨_, _, rfl, rfl, rfl⟩) (loc_neStr (by exact rfl) (by exact rfl)) ?_
    cases hq : sEq ⟨(Lib.itoa v).toArray⟩ s with
    | true =>
      have e : r.number s = (v, r) := by unfold Rd.number numOf; rw [hA]; simp [hq]
      rw [e]
      refine RunL.val (by exact rfl) (loc_pickF rfl rfl) ?_; refine RunL.nil ?_; refine AW.condF (by exact rfl) ?_; refine AW.skip ?_; refine AW.seq ?_; refine AW.region (by kernel_rfl) ?_; refine RunL.val (by exact rfl) (loc_moveC rfl) ?_; refine RunL.val (by exact rfl) (loc_assignC rfl) ?_; refine RunL.nil ?_; refine AW.ret ?_
      refine rq ?_
      exact ret_rd (by exact .inr rfl) (by exact rfl) rfl (by exact rfl) (by exact wkRow_refl _)
    | false =>
      have e : r.number s = (0, r.fail) := by unfold Rd.number numOf; rw [hA]; simp [hq]
      rw [e]
      refine RunL.val (by exact rfl) (loc_pickF rfl rfl) ?_; refine RunL.nil ?_; refine AW.condT (by exact rfl) ?_; refine AW.seq ?_; refine AW.region (by kernel_rfl) ?_; refine RunL.val (by exact rfl) (loc_moveC rfl) ?_; refine RunL.val (by exact rfl) (loc_nilCheck rfl rfl) ?_; refine RunL.val (by exact rfl) (loc_fieldAddr rfl) ?_; refine RunL.eff (by exact rfl) (loc_store (by exact rfl) (by exact rfl) (by exact rfl) (by exact rfl) (by exact rfl) (by exact Nat.le_of_ble_eq_true rfl) (by exact rfl)) ?_; refine RunL.nil ?_; refine AW.seq ?_; refine AW.region (by kernel_rfl) ?_; refine RunL.val (by exact rfl) (loc_assignC rfl) ?_; refine RunL.nil ?_; refine AW.ret ?_
      refine rq ?_
      exact ret_rd (by exact .inr rfl) (by exact rfl) rfl (by exact rfl) (by exact wkRow_refl _)
  | range =>
    rw [show atoiU s = .tup [.one .any, .one .ifc] by unfold atoiU; rw [hA]]
    have e : r.number s = (0, r.fail) := by unfold Rd.number numOf; rw [hA]
    rw [e]
    refine RunL.val (by exact rfl) (loc_moveT rfl) ?_; refine RunL.val (by exact rfl) (loc_extractC rfl rfl) ?_; refine RunL.val (by exact rfl) (loc_extractC rfl rfl) ?_; refine RunL.val (by exact rfl) (loc_assignC rfl) ?_; refine RunL.val (by exact rfl) (loc_assignC rfl) ?_; refine RunL.nil ?_; refine AW.seq ?_; refine AW.seq ?_; refine AW.region (by kernel_rfl) ?_; refine RunL.val (by exact rfl) (loc_moveC rfl) ?_
    refine RunL.val (by exact rfl) (loc_neIfT (by exact rfl) rfl) ?_
    refine RunL.val (by exact rfl) (loc_moveC rfl) ?_; refine RunL.skip (.inl ⟨_, _, rfl, rfl, rfl⟩) ?_; refine RunL.skip (.inl ⟨_, _, rfl, rfl, rfl⟩) ?_; refine RunL.skip (.inl ⟨_, _, rfl, rfl, rfl⟩) ?_; refine RunL.skip (.inl ⟨_, _, rfl, rfl, rfl⟩) ?_; refine RunL.val (by exact rfl) (loc_pickT rfl rfl) ?_; refine RunL.nil ?_; refine AW.condT (by exact rfl) ?_; refine AW.seq ?_; refine AW.region (by kernel_rfl) ?_; refine RunL.val (by exact rfl) (loc_moveC rfl) ?_; refine RunL.val (by exact rfl) (loc_nilCheck rfl rfl) ?_; refine RunL.val (by exact rfl) (loc_fieldAddr rfl) ?_; refine RunL.eff (by exact rfl) (loc_store (by exact rfl) (by exact rfl) (by exact rfl) (by exact rfl) (by exact rfl) (by exact Nat.le_of_ble_eq_true rfl) (by exact rfl)) ?_; refine RunL.nil ?_; refine AW.seq ?_; refine AW.region (by kernel_rfl) ?_; refine RunL.val (by exact rfl) (loc_assignC rfl) ?_; refine RunL.nil ?_; refine AW.ret ?_
    refine rq ?_
    exact ret_rd (by exact .inr rfl) (by exact rfl) rfl (by exact rfl) (by exact wkRow_refl _)
  | _ =>
    rw [show atoiU s = .tup [.one .any, .one .ifc] by unfold atoiU; rw [hA]]
    have e : r.number s = (0, r.fail) := by unfold Rd.number numOf; rw [hA]
    rw [e]
    refine RunL.val (by exact rfl) (loc_moveT rfl) ?_; refine RunL.val (by exact rfl) (loc_extractC rfl rfl) ?_; refine RunL.val (by exact rfl) (loc_extractC rfl rfl) ?_; refine RunL.val (by exact rfl) (loc_assignC rfl) ?_; refine RunL.val (by exact rfl) (loc_assignC rfl) ?_; refine RunL.nil ?_; refine AW.seq ?_; refine AW.seq ?_; refine AW.region (by kernel_rfl) ?_; refine RunL.val (by exact rfl) (loc_moveC rfl) ?_
    refine RunL.val (by exact rfl) (loc_neIfT (by exact rfl) rfl) ?_
    refine RunL.val (by exact rfl) (loc_moveC rfl) ?_; refine RunL.skip (.inl ⟨_, _, rfl, rfl, rfl⟩) ?_; refine RunL.skip (.inl ⟨_, _, rfl, rfl, rfl⟩) ?_; refine RunL.skip (.inl ⟨_, _, rfl, rfl, rfl⟩) ?_; refine RunL.skip (.inl ⟨_, _, rfl, rfl, rfl⟩) ?_; refine RunL.val (by exact rfl) (loc_pickT rfl rfl) ?_; refine RunL.nil ?_; refine AW.condT (by exact rfl) ?_; refine AW.seq ?_; refine AW.region (by kernel_rfl) ?_; refine RunL.val (by exact rfl) (loc_moveC rfl) ?_; refine RunL.val (by exact rfl) (loc_nilCheck rfl rfl) ?_; refine RunL.val (by exact rfl) (loc_fieldAddr rfl) ?_; refine RunL.eff (by exact rfl) (loc_store (by exact rfl) (by exact rfl) (by exact rfl) (by exact rfl) (by exact rfl) (by exact Nat.le_of_ble_eq_true rfl) (by exact rfl)) ?_; refine RunL.nil ?_; refine AW.seq ?_; refine AW.region (by kernel_rfl) ?_; refine RunL.val (by exact rfl) (loc_assignC rfl) ?_; refine RunL.nil ?_; refine AW.ret ?_
    refine rq ?_
    exact ret_rd (by exact .inr rfl) (by exact rfl) rfl (by exact rfl) (by exact wkRow_refl _)
end Go.Proofs.YtnflnbdlgdjfmabDoor
namespace Go.Proofs.YtnflnbdlgdjfmabDoor
open Go.RowKit
set_option linter.unusedVariables false
set_option linter.unusedSimpArgs false
set_option maxRecDepth 100000
attribute [local irreducible] RunL AW LocOp ACalls Gh
/-- One type is answered, the reader as it is. -/
theorem ret_ty {P : Program} {x : Tmp} {tx : TypeId} {bx : Nat} {e : Exit} {t : Nat → U} {h : Nat → Option Blk} {r : Rd} {a : Ty} {l k : List C} [T : TAgg P tx 2] (he : e = .normal ∨ e = .ret) (hx : t x = .one (.ptr bx 0)) (hbx : h bx = some (.obj k)) (hk : All2 (WkC h [] []) k a.c) (hb : h 1000 = some (.obj l)) (hl : All2 (WkC h [] []) l r.c) : RetQ P #[.cell x tx] a.u [(1000, .obj r.c)] e t h := by
  have hlen : k.length = 2 := hk.length
  exact ⟨he, [.agg k], ⟨⟨bx, k, hx, hbx, .inl ⟨2, T, hlen, rfl⟩⟩, trivial⟩, ⟨trivial, trivial⟩, .agg k, rfl, [], trivial, hk, ⟨⟨_, hb, hl⟩, trivial⟩, rfl, ⟨trivial, trivial, trivial⟩, ⟨⟨trivial, trivial, trivial⟩, trivial⟩⟩
theorem anyCells {h : Nat → Option Blk} : All2 (WkC h [] []) [.int .i64 0, .nilsl] Ty.any.c := ⟨.le (.refl _), .le (.nil _), trivial⟩
theorem leafCells {h : Nat → Option Blk} {k : Int} : All2 (WkC h [] []) [.int .i64 k, .nilsl] (Ty.mk k []).c := ⟨.le (.refl _), .le (.nil _), trivial⟩
theorem pairCells {h : Nat → Option Blk} {k : Int} {a b : Ty} : All2 (WkC h [] []) [.int .i64 k, slFOf 2 [a.c, b.c]] (Ty.mk k [a, b]).c := by
  have e : (Ty.mk k [a, b]).c = [.int .i64 k, slOf 2 [a.c, b.c]] := by simp [Ty.c, tyRows_map]
  rw [e]
  exact ⟨.le (.refl _), .le (LeC.slF (LeRows.refl _)), trivial⟩
theorem kinds_get {i : Nat} (h : i < 4) : kindsC[i]? = some (.str (kindsL.getD i sNil)) := by
  match i, h with
  | 0, _ | 1, _ | 2, _ | 3, _ => rfl
/-- What comes of the loop over the kinds. -/
theorem kFrom_step {s : ByteArray} {op : Bool} {i : Nat} (h : i < 4) : kFrom s op (4 - i) = if kAt s op i then some i else kFrom s op (4 - (i + 1)) := by
  obtain ⟨n, hn⟩ : ∃ n, 4 - i = n + 1 := ⟨3 - i, by omega⟩
  rw [hn, show 4 - (i + 1) = n by omega]
  simp only [kFrom]
  rw [show 3 - n = i by omega]
/-- What is read behind the words that say which. -/
def readKq (d : Nat) (op : Bool) (q : ByteArray × Rd) : Ty × Rd :=
  match d with
  | 0 => (.any, q.2.fail)
  | d + 1 => match kFrom q.1 op 4 with
    | none => (.any, q.2.fail)
    | some k => if op then (.mk k [(readK d q.2).1, (readK d (readK d q.2).2).1], (readK d (readK d q.2).2).2.close) else (.mk k [], q.2)
theorem readK_q (d : Nat) (r : Rd) : readK d r = readKq d (sEq r.next.1 sLp) (if sEq r.next.1 sLp then r.next.2.next else r.next) := by cases d <;> rfl
set_option maxHeartbeats 20000000 in
theorem kind_a : ∀ (d : Nat), d ≤ 5 → ∀ (r : Rd), ACalls Tryd.prog 50 [.one (.ptr 1000 0), .one (.int .i64 (5 - (d : Int)))] [(1000, .obj (Rd.c (r)))] (readK d r).1.u [(1000, .obj (Rd.c ((readK d r).2)))] := by
  intro d
  induction d with
  | zero =>
    intro hd r
    generalize hdp : (5 - (((0 : Nat)) : Int)) = dp
    have hdeep : decide (dp > 4) = true := decide_eq_true (by omega)
    rw [readK_q]
    refine acalls_of_body Tryd.func50 rfl (by kernel_rfl) (Nat.le_of_ble_eq_true rfl) (by exact ⟨⟨rfl, trivial⟩, trivial⟩) (by simp [namesL]) ?_
    refine AW.seq ?_; refine AW.region (by kernel_rfl) ?_; refine RunL.mem (by exact rfl) (loc_allocD rfl rfl) ?_; refine RunL.nil ?_; refine AW.seq ?_; refine AW.region (by kernel_rfl) ?_; refine RunL.val (by exact rfl) (loc_moveC rfl) ?_
    refine RunL.many (by exact rfl) (loc_funE (next_a (r)) rfl (by refine ⟨_, _, rfl, (by exact LeU.of_eq rfl trivial), (by exact Exists.intro _ rfl), ?_⟩; exact rfl) (by exact ⟨rfl, trivial⟩) (by exact rfl) (by simp [namesL]) (by exact ⟨⟨trivial, trivial, trivial⟩, trivial⟩)) ?_
    refine RunL.val (by exact rfl) (loc_assignC rfl) ?_; refine RunL.nil ?_; refine AW.seq ?_; refine AW.region (by kernel_rfl) ?_; refine RunL.val (by exact rfl) (loc_moveC rfl) ?_
    refine RunL.val (by exact rfl) (loc_eqStr (b := sLp) (by exact rfl) (by exact rfl)) ?_
    refine RunL.val (by exact rfl) (loc_assignC rfl) ?_; refine RunL.nil ?_
    refine AW.seq ?_
    refine AW.midB (fun t h => ∃ op q, op = sEq r.next.1 sLp ∧ q = (if sEq r.next.1 sLp then r.next.2.next else r.next) ∧ t = tOfL [(0, .one (.ptr 1000 0)), (1, .one (.int .i64 dp)), (4, .one (.ptr 4 0)), (5, .one (.str q.1)), (6, .one (.bool op))] ∧ h = ofL [(1000, .obj (Rd.c q.2)), (4, .obj [.int .i64 0, .nilsl])]) ?_ ?_
    · cases hop : sEq r.next.1 sLp with
      | false =>
        refine AW.seq ?_; refine AW.region (by kernel_rfl) ?_; refine RunL.val (by exact rfl) (loc_moveC rfl) ?_; refine RunL.nil ?_; refine AW.condF (by exact rfl) ?_; refine AW.skip ?_
        exact ⟨_, _, (gh_lit [(0, .one (.ptr 1000 0)), (1, .one (.int .i64 dp)), (4, .one (.ptr 4 0)), (5, .one (.str r.next.1)), (6, .one (.bool false))] [(1000, .obj (Rd.c r.next.2)), (4, .obj [.int .i64 0, .nilsl])] [] [] ⟨(WkU.of_eq rfl trivial), (WkU.of_eq rfl trivial), (WkU.of_eq rfl trivial), (by exact WkU.of_eq rfl trivial), (WkU.of_eq rfl trivial), trivial⟩ ⟨(by exact Or.inl ⟨_, rfl, WkBlk.refl _⟩), (by exact Or.inl ⟨_, rfl, WkBlk.refl _⟩), trivial⟩ trivial trivial rfl rfl ⟨⟨_, rfl⟩, trivial, ⟨_, rfl⟩, trivial, trivial, trivial⟩ ⟨(by refine And.intro ?_ ?_; exact trivial; refine And.intro ?_ ?_; exact trivial; exact trivial), (by refine And.intro ?_ ?_; exact trivial; refine And.intro ?_ ?_; exact trivial; exact trivial), trivial⟩), false, r.next, rfl, rfl, rfl, rfl⟩
      | true =>
        refine AW.seq ?_; refine AW.region (by kernel_rfl) ?_; refine RunL.val (by exact rfl) (loc_moveC rfl) ?_; refine RunL.nil ?_; refine AW.condT (by exact rfl) ?_; refine AW.region (by kernel_rfl) ?_; refine RunL.val (by exact rfl) (loc_moveC rfl) ?_
        refine RunL.many (by exact rfl) (loc_funE (next_a (r.next.2)) rfl (by refine ⟨_, _, rfl, (by exact LeU.of_eq rfl trivial), (by exact Exists.intro _ rfl), ?_⟩; exact rfl) (by exact ⟨rfl, trivial⟩) (by exact rfl) (by simp [namesL]) (by exact ⟨⟨trivial, trivial, trivial⟩, trivial⟩)) ?_
        refine RunL.val (by exact rfl) (loc_assignC rfl) ?_; refine RunL.nil ?_
        exact ⟨_, _, (gh_lit [(0, .one (.ptr 1000 0)), (1, .one (.int .i64 dp)), (4, .one (.ptr 4 0)), (5, .one (.str r.next.2.next.1)), (6, .one (.bool true))] [(1000, .obj (Rd.c r.next.2.next.2)), (4, .obj [.int .i64 0, .nilsl])] [] [] ⟨(WkU.of_eq rfl trivial), (WkU.of_eq rfl trivial), (WkU.of_eq rfl trivial), (by exact WkU.of_eq rfl trivial), (WkU.of_eq rfl trivial), trivial⟩ ⟨(by exact Or.inl ⟨_, rfl, WkBlk.refl _⟩), (by exact Or.inl ⟨_, rfl, WkBlk.refl _⟩), trivial⟩ trivial trivial rfl rfl ⟨⟨_, rfl⟩, trivial, ⟨_, rfl⟩, trivial, trivial, trivial⟩ ⟨(by refine And.intro ?_ ?_; exact trivial; refine And.intro ?_ ?_; exact trivial; exact trivial), (by refine And.intro ?_ ?_; exact trivial; refine And.intro ?_ ?_; exact trivial; exact trivial), trivial⟩), true, r.next.2.next, rfl, rfl, rfl, rfl⟩
    · rintro t h ⟨op, q, ho, hq, rfl, rfl⟩
      rw [← hq, ← ho]
      refine AW.seq ?_; refine AW.seq ?_; refine AW.region (by kernel_rfl) ?_; refine RunL.val (by exact rfl) (loc_loadFA rfl (by exact Cut.all (by exact rfl))) ?_; refine RunL.val (by exact rfl) (loc_moveC rfl) ?_; refine RunL.nil ?_; refine AW.block ?_
      refine AW.gh (gh_lit [(0, .one (.ptr 1000 0)), (1, .one (.int .i64 dp)), (4, .one (.ptr 4 0)), (5, .one (.str q.1)), (6, .one (.bool op)), (17, .agg kindsC), (18, .one (.int .i64 ((0 : Nat) : Int)))] [(1000, .obj (Rd.c q.2)), (4, .obj [.int .i64 0, .nilsl])] [] [] ⟨(WkU.of_eq rfl trivial), (WkU.of_eq rfl trivial), (WkU.of_eq rfl trivial), (by exact WkU.of_eq rfl trivial), (WkU.of_eq rfl trivial), (by exact WkU.of_eq rfl trivial), (WkU.of_eq rfl trivial), trivial⟩ ⟨(by exact Or.inl ⟨_, rfl, WkBlk.refl _⟩), (by exact Or.inl ⟨_, rfl, WkBlk.refl _⟩), trivial⟩ trivial trivial rfl rfl ⟨⟨_, rfl⟩, trivial, ⟨_, rfl⟩, trivial, trivial, (by refine And.intro ?_ ?_; exact trivial; refine And.intro ?_ ?_; exact trivial; refine And.intro ?_ ?_; exact trivial; refine And.intro ?_ ?_; exact trivial; exact trivial), trivial, trivial⟩ ⟨(by refine And.intro ?_ ?_; exact trivial; refine And.intro ?_ ?_; exact trivial; exact trivial), (by refine And.intro ?_ ?_; exact trivial; refine And.intro ?_ ?_; exact trivial; exact trivial), trivial⟩) ?_
      refine AW.loop (fun m t' h => ∃ i : Nat, i ≤ 4 ∧ m = 4 - i ∧ (True) ∧ t' = tOfL [(0, .one (.ptr 1000 0)), (1, .one (.int .i64 dp)), (4, .one (.ptr 4 0)), (5, .one (.str q.1)), (6, .one (.bool op)), (17, .agg kindsC), (18, .one (.int .i64 ((i : Nat) : Int)))] ∧ h = ofL [(1000, .obj (Rd.c q.2)), (4, .obj [.int .i64 0, .nilsl])]) 4 ⟨0, by omega, rfl, trivial, rfl, rfl⟩ ?_
      rintro m t' h ⟨i, hi, rfl, _, rfl, rfl⟩
      cases hlt : decide ((i : Int) < 4) with
      | false =>
        have hi4 : i = 4 := by have := of_decide_eq_false hlt; omega
        subst hi4
        refine AW.seq ?_; refine AW.region (by kernel_rfl) ?_; refine RunL.val (by exact rfl) (loc_binInt rfl rfl rfl) ?_; refine RunL.nil ?_; refine AW.seq ?_; refine AW.condF (by exact rfl) ?_; refine AW.exit ?_; refine AW.seq ?_; refine AW.region (by kernel_rfl) ?_; refine RunL.val (by exact rfl) (loc_moveC rfl) ?_; refine RunL.val (by exact rfl) (loc_nilCheck rfl rfl) ?_; refine RunL.val (by exact rfl) (loc_fieldAddr rfl) ?_; refine RunL.eff (by exact rfl) (loc_store (by exact rfl) (by exact rfl) (by exact rfl) (by exact rfl) (by exact rfl) (by exact Nat.le_of_ble_eq_true rfl) (by exact rfl)) ?_; refine RunL.nil ?_; refine AW.seq ?_; refine AW.region (by kernel_rfl) ?_; refine RunL.val (by exact rfl) (loc_build (by exact rfl) (by exact Cut.all (by exact rfl)) (by exact rfl)) ?_; refine RunL.eff (by exact rfl) (loc_storeW rfl rfl rfl rfl (by exact rfl) (by exact rfl)) ?_; refine RunL.nil ?_; refine AW.ret ?_
        refine rq ?_
        exact ret_ty (by exact .inr rfl) (by exact rfl) (by exact rfl) anyCells (by exact rfl) (by exact wkRow_refl _)
      | true =>
        have hi4 : i < 4 := by have := of_decide_eq_true hlt; omega
        have hg := kinds_get hi4
        refine AW.seq ?_; refine AW.region (by kernel_rfl) ?_; refine RunL.val (by exact rfl) (loc_binInt rfl rfl rfl) ?_; refine RunL.nil ?_; refine AW.seq ?_; refine AW.condTa (by exact rfl) (by assumption) ?_; refine AW.skip ?_; refine AW.seq ?_; refine AW.block ?_; refine AW.seq ?_; refine AW.region (by kernel_rfl) ?_; refine RunL.val (by exact rfl) (loc_moveC rfl) ?_
        refine RunL.val (by exact rfl) (loc_indexA (by exact rfl) (by exact rfl) hi4 hg) ?_
        refine RunL.val (by exact rfl) (loc_assignC rfl) ?_; refine RunL.val (by exact rfl) (loc_assignC rfl) ?_; refine RunL.nil ?_; refine AW.seq ?_; refine AW.seq ?_; refine AW.region (by kernel_rfl) ?_; refine RunL.val (by exact rfl) (loc_moveC rfl) ?_; refine RunL.val (by exact rfl) (loc_moveC rfl) ?_
        refine RunL.val (by exact rfl) (loc_neStr (by exact rfl) (by exact rfl)) ?_
        cases h1 : sEq (kindsL.getD i sNil) q.1 with
        | false =>
          have hk : kAt q.1 op i = false := by unfold kAt; rw [h1]; rfl
          refine RunL.val (by exact rfl) (loc_moveC rfl) ?_; refine RunL.skip (.inl ⟨_, _, rfl, rfl, rfl⟩) ?_; refine RunL.skip (.inl ⟨_, _, rfl, rfl, rfl⟩) ?_; refine RunL.skip (.inl ⟨_, _, rfl, rfl, rfl⟩) ?_; refine RunL.skip (.inl ⟨_, _, rfl, rfl, rfl⟩) ?_; refine RunL.val (by exact rfl) (loc_pickT rfl rfl) ?_; refine RunL.val (by exact rfl) (loc_moveC rfl) ?_; refine RunL.skip (.inl ⟨_, _, rfl, rfl, rfl⟩) ?_; refine RunL.skip (.inl ⟨_, _, rfl, rfl, rfl⟩) ?_; refine RunL.val (by exact rfl) (loc_pickT rfl rfl) ?_; refine RunL.nil ?_; refine AW.condT (by exact rfl) ?_; refine AW.exit ?_; refine AW.region (by kernel_rfl) ?_; refine RunL.val (by exact rfl) (loc_inc rfl rfl (by omega)) ?_; refine RunL.val (by exact rfl) (loc_moveC rfl) ?_; refine RunL.nil ?_
          exact ⟨4 - (i + 1), _, _, by omega, (gh_lit [(0, .one (.ptr 1000 0)), (1, .one (.int .i64 dp)), (4, .one (.ptr 4 0)), (5, .one (.str q.1)), (6, .one (.bool op)), (17, .agg kindsC), (18, .one (.int .i64 (((i + 1) : Nat) : Int)))] [(1000, .obj (Rd.c q.2)), (4, .obj [.int .i64 0, .nilsl])] [] [] ⟨(WkU.of_eq rfl trivial), (WkU.of_eq rfl trivial), (WkU.of_eq rfl trivial), (by exact WkU.of_eq rfl trivial), (WkU.of_eq rfl trivial), (by exact WkU.of_eq rfl trivial), (WkU.of_eq rfl trivial), trivial⟩ ⟨(by exact Or.inl ⟨_, rfl, WkBlk.refl _⟩), (by exact Or.inl ⟨_, rfl, WkBlk.refl _⟩), trivial⟩ trivial trivial rfl rfl ⟨⟨_, rfl⟩, trivial, ⟨_, rfl⟩, trivial, trivial, (by refine And.intro ?_ ?_; exact trivial; refine And.intro ?_ ?_; exact trivial; refine And.intro ?_ ?_; exact trivial; refine And.intro ?_ ?_; exact trivial; exact trivial), trivial, trivial⟩ ⟨(by refine And.intro ?_ ?_; exact trivial; refine And.intro ?_ ?_; exact trivial; exact trivial), (by refine And.intro ?_ ?_; exact trivial; refine And.intro ?_ ?_; exact trivial; exact trivial), trivial⟩), i + 1, by omega, by omega, trivial, rfl, rfl⟩
        | true =>
          refine RunL.val (by exact rfl) (loc_moveC rfl) ?_; refine RunL.val (by exact .inl ⟨_, _, rfl, rfl, rfl⟩) (loc_moveC rfl) ?_; refine RunL.val (by exact .inl ⟨_, _, rfl, rfl, rfl⟩) (loc_binInt rfl rfl rfl) ?_; refine RunL.val (by exact .inl ⟨_, _, rfl, rfl, rfl⟩) (loc_moveC rfl) ?_
          refine RunL.val (by exact .inl ⟨_, _, rfl, rfl, rfl⟩) (loc_neBool (by exact rfl) (by exact rfl)) ?_
          have hio : ((i : Int) == 3) = (i == 3) := by rw [Bool.eq_iff_iff]; simp; omega
          rw [hio]
          cases h2 : ((i == 3) == op) with
          | false =>
            have hk : kAt q.1 op i = false := by unfold kAt; rw [h1, h2]; rfl
            refine RunL.val (by exact rfl) (loc_pickF rfl rfl) ?_; refine RunL.val (by exact rfl) (loc_moveC rfl) ?_; refine RunL.skip (.inl ⟨_, _, rfl, rfl, rfl⟩) ?_; refine RunL.skip (.inl ⟨_, _, rfl, rfl, rfl⟩) ?_; refine RunL.val (by exact rfl) (loc_pickT rfl rfl) ?_; refine RunL.nil ?_; refine AW.condT (by exact rfl) ?_; refine AW.exit ?_; refine AW.region (by kernel_rfl) ?_; refine RunL.val (by exact rfl) (loc_inc rfl rfl (by omega)) ?_; refine RunL.val (by exact rfl) (loc_moveC rfl) ?_; refine RunL.nil ?_
            exact ⟨4 - (i + 1), _, _, by omega, (gh_lit [(0, .one (.ptr 1000 0)), (1, .one (.int .i64 dp)), (4, .one (.ptr 4 0)), (5, .one (.str q.1)), (6, .one (.bool op)), (17, .agg kindsC), (18, .one (.int .i64 (((i + 1) : Nat) : Int)))] [(1000, .obj (Rd.c q.2)), (4, .obj [.int .i64 0, .nilsl])] [] [] ⟨(WkU.of_eq rfl trivial), (WkU.of_eq rfl trivial), (WkU.of_eq rfl trivial), (by exact WkU.of_eq rfl trivial), (WkU.of_eq rfl trivial), (by exact WkU.of_eq rfl trivial), (WkU.of_eq rfl trivial), trivial⟩ ⟨(by exact Or.inl ⟨_, rfl, WkBlk.refl _⟩), (by exact Or.inl ⟨_, rfl, WkBlk.refl _⟩), trivial⟩ trivial trivial rfl rfl ⟨⟨_, rfl⟩, trivial, ⟨_, rfl⟩, trivial, trivial, (by refine And.intro ?_ ?_; exact trivial; refine And.intro ?_ ?_; exact trivial; refine And.intro ?_ ?_; exact trivial; refine And.intro ?_ ?_; exact trivial; exact trivial), trivial, trivial⟩ ⟨(by refine And.intro ?_ ?_; exact trivial; refine And.intro ?_ ?_; exact trivial; exact trivial), (by refine And.intro ?_ ?_; exact trivial; refine And.intro ?_ ?_; exact trivial; exact trivial), trivial⟩), i + 1, by omega, by omega, trivial, rfl, rfl⟩
          | true =>
            have hk : kAt q.1 op i = true := by unfold kAt; rw [h1, h2]; rfl
            refine RunL.val (by exact rfl) (loc_pickF rfl rfl) ?_; refine RunL.val (by exact rfl) (loc_moveC rfl) ?_; refine RunL.val (by exact .inl ⟨_, _, rfl, rfl, rfl⟩) (loc_moveC rfl) ?_; refine RunL.val (by exact .inl ⟨_, _, rfl, rfl, rfl⟩) (loc_binInt rfl rfl rfl) ?_; refine RunL.val (by exact rfl) (loc_pickF rfl rfl) ?_; refine RunL.nil ?_; refine AW.condTa (by exact rfl) (by assumption) ?_; refine AW.exit ?_; refine AW.region (by kernel_rfl) ?_; refine RunL.val (by exact rfl) (loc_inc rfl rfl (by omega)) ?_; refine RunL.val (by exact rfl) (loc_moveC rfl) ?_; refine RunL.nil ?_
            exact ⟨4 - (i + 1), _, _, by omega, (gh_lit [(0, .one (.ptr 1000 0)), (1, .one (.int .i64 dp)), (4, .one (.ptr 4 0)), (5, .one (.str q.1)), (6, .one (.bool op)), (17, .agg kindsC), (18, .one (.int .i64 (((i + 1) : Nat) : Int)))] [(1000, .obj (Rd.c q.2)), (4, .obj [.int .i64 0, .nilsl])] [] [] ⟨(WkU.of_eq rfl trivial), (WkU.of_eq rfl trivial), (WkU.of_eq rfl trivial), (by exact WkU.of_eq rfl trivial), (WkU.of_eq rfl trivial), (by exact WkU.of_eq rfl trivial), (WkU.of_eq rfl trivial), trivial⟩ ⟨(by exact Or.inl ⟨_, rfl, WkBlk.refl _⟩), (by exact Or.inl ⟨_, rfl, WkBlk.refl _⟩), trivial⟩ trivial trivial rfl rfl ⟨⟨_, rfl⟩, trivial, ⟨_, rfl⟩, trivial, trivial, (by refine And.intro ?_ ?_; exact trivial; refine And.intro ?_ ?_; exact trivial; refine And.intro ?_ ?_; exact trivial; refine And.intro ?_ ?_; exact trivial; exact trivial), trivial, trivial⟩ ⟨(by refine And.intro ?_ ?_; exact trivial; refine And.intro ?_ ?_; exact trivial; exact trivial), (by refine And.intro ?_ ?_; exact trivial; refine And.intro ?_ ?_; exact trivial; exact trivial), trivial⟩), i + 1, by omega, by omega, trivial, rfl, rfl⟩
  | succ d ih =>
    intro hd r
    have ih := ih (by omega)
    generalize hdp : (5 - (((d + 1 : Nat)) : Int)) = dp
    have ih2 : ∀ (r : Rd), ACalls Tryd.prog 50 [.one (.ptr 1000 0), .one (.int .i64 (dp + 1))] [(1000, .obj (Rd.c (r)))] (readK d r).1.u [(1000, .obj (Rd.c ((readK d r).2)))] := fun r => by
      rw [show dp + 1 = 5 - (d : Int) by omega]; exact ih r
    have hdeep : decide (dp > 4) = false := decide_eq_false (by omega)
    rw [readK_q]
    refine acalls_of_body Tryd.func50 rfl (by kernel_rfl) (Nat.le_of_ble_eq_true rfl) (by exact ⟨⟨rfl, trivial⟩, trivial⟩) (by simp [namesL]) ?_
    refine AW.seq ?_; refine AW.region (by kernel_rfl) ?_; refine RunL.mem (by exact rfl) (loc_allocD rfl rfl) ?_; refine RunL.nil ?_; refine AW.seq ?_; refine AW.region (by kernel_rfl) ?_; refine RunL.val (by exact rfl) (loc_moveC rfl) ?_
    refine RunL.many (by exact rfl) (loc_funE (next_a (r)) rfl (by refine ⟨_, _, rfl, (by exact LeU.of_eq rfl trivial), (by exact Exists.intro _ rfl), ?_⟩; exact rfl) (by exact ⟨rfl, trivial⟩) (by exact rfl) (by simp [namesL]) (by exact ⟨⟨trivial, trivial, trivial⟩, trivial⟩)) ?_
    refine RunL.val (by exact rfl) (loc_assignC rfl) ?_; refine RunL.nil ?_; refine AW.seq ?_; refine AW.region (by kernel_rfl) ?_; refine RunL.val (by exact rfl) (loc_moveC rfl) ?_
    refine RunL.val (by exact rfl) (loc_eqStr (b := sLp) (by exact rfl) (by exact rfl)) ?_
    refine RunL.val (by exact rfl) (loc_assignC rfl) ?_; refine RunL.nil ?_
    refine AW.seq ?_
    refine AW.midB (fun t h => ∃ op q, op = sEq r.next.1 sLp ∧ q = (if sEq r.next.1 sLp then r.next.2.next else r.next) ∧ t = tOfL [(0, .one (.ptr 1000 0)), (1, .one (.int .i64 dp)), (4, .one (.ptr 4 0)), (5, .one (.str q.1)), (6, .one (.bool op))] ∧ h = ofL [(1000, .obj (Rd.c q.2)), (4, .obj [.int .i64 0, .nilsl])]) ?_ ?_
    · cases hop : sEq r.next.1 sLp with
      | false =>
        refine AW.seq ?_; refine AW.region (by kernel_rfl) ?_; refine RunL.val (by exact rfl) (loc_moveC rfl) ?_; refine RunL.nil ?_; refine AW.condF (by exact rfl) ?_; refine AW.skip ?_
        exact ⟨_, _, (gh_lit [(0, .one (.ptr 1000 0)), (1, .one (.int .i64 dp)), (4, .one (.ptr 4 0)), (5, .one (.str r.next.1)), (6, .one (.bool false))] [(1000, .obj (Rd.c r.next.2)), (4, .obj [.int .i64 0, .nilsl])] [] [] ⟨(WkU.of_eq rfl trivial), (WkU.of_eq rfl trivial), (WkU.of_eq rfl trivial), (by exact WkU.of_eq rfl trivial), (WkU.of_eq rfl trivial), trivial⟩ ⟨(by exact Or.inl ⟨_, rfl, WkBlk.refl _⟩), (by exact Or.inl ⟨_, rfl, WkBlk.refl _⟩), trivial⟩ trivial trivial rfl rfl ⟨⟨_, rfl⟩, trivial, ⟨_, rfl⟩, trivial, trivial, trivial⟩ ⟨(by refine And.intro ?_ ?_; exact trivial; refine And.intro ?_ ?_; exact trivial; exact trivial), (by refine And.intro ?_ ?_; exact trivial; refine And.intro ?_ ?_; exact trivial; exact trivial), trivial⟩), false, r.next, rfl, rfl, rfl, rfl⟩
      | true =>
        refine AW.seq ?_; refine AW.region (by kernel_rfl) ?_; refine RunL.val (by exact rfl) (loc_moveC rfl) ?_; refine RunL.nil ?_; refine AW.condT (by exact rfl) ?_; refine AW.region (by kernel_rfl) ?_; refine RunL.val (by exact rfl) (loc_moveC rfl) ?_
        refine RunL.many (by exact rfl) (loc_funE (next_a (r.next.2)) rfl (by refine ⟨_, _, rfl, (by exact LeU.of_eq rfl trivial), (by exact Exists.intro _ rfl), ?_⟩; exact rfl) (by exact ⟨rfl, trivial⟩) (by exact rfl) (by simp [namesL]) (by exact ⟨⟨trivial, trivial, trivial⟩, trivial⟩)) ?_
        refine RunL.val (by exact rfl) (loc_assignC rfl) ?_; refine RunL.nil ?_
        exact ⟨_, _, (gh_lit [(0, .one (.ptr 1000 0)), (1, .one (.int .i64 dp)), (4, .one (.ptr 4 0)), (5, .one (.str r.next.2.next.1)), (6, .one (.bool true))] [(1000, .obj (Rd.c r.next.2.next.2)), (4, .obj [.int .i64 0, .nilsl])] [] [] ⟨(WkU.of_eq rfl trivial), (WkU.of_eq rfl trivial), (WkU.of_eq rfl trivial), (by exact WkU.of_eq rfl trivial), (WkU.of_eq rfl trivial), trivial⟩ ⟨(by exact Or.inl ⟨_, rfl, WkBlk.refl _⟩), (by exact Or.inl ⟨_, rfl, WkBlk.refl _⟩), trivial⟩ trivial trivial rfl rfl ⟨⟨_, rfl⟩, trivial, ⟨_, rfl⟩, trivial, trivial, trivial⟩ ⟨(by refine And.intro ?_ ?_; exact trivial; refine And.intro ?_ ?_; exact trivial; exact trivial), (by refine And.intro ?_ ?_; exact trivial; refine And.intro ?_ ?_; exact trivial; exact trivial), trivial⟩), true, r.next.2.next, rfl, rfl, rfl, rfl⟩
    · rintro t h ⟨op, q, ho, hq, rfl, rfl⟩
      rw [← hq, ← ho]
      refine AW.seq ?_; refine AW.seq ?_; refine AW.region (by kernel_rfl) ?_; refine RunL.val (by exact rfl) (loc_loadFA rfl (by exact Cut.all (by exact rfl))) ?_; refine RunL.val (by exact rfl) (loc_moveC rfl) ?_; refine RunL.nil ?_; refine AW.block ?_
      refine AW.gh (gh_lit [(0, .one (.ptr 1000 0)), (1, .one (.int .i64 dp)), (4, .one (.ptr 4 0)), (5, .one (.str q.1)), (6, .one (.bool op)), (17, .agg kindsC), (18, .one (.int .i64 ((0 : Nat) : Int)))] [(1000, .obj (Rd.c q.2)), (4, .obj [.int .i64 0, .nilsl])] [] [] ⟨(WkU.of_eq rfl trivial), (WkU.of_eq rfl trivial), (WkU.of_eq rfl trivial), (by exact WkU.of_eq rfl trivial), (WkU.of_eq rfl trivial), (by exact WkU.of_eq rfl trivial), (WkU.of_eq rfl trivial), trivial⟩ ⟨(by exact Or.inl ⟨_, rfl, WkBlk.refl _⟩), (by exact Or.inl ⟨_, rfl, WkBlk.refl _⟩), trivial⟩ trivial trivial rfl rfl ⟨⟨_, rfl⟩, trivial, ⟨_, rfl⟩, trivial, trivial, (by refine And.intro ?_ ?_; exact trivial; refine And.intro ?_ ?_; exact trivial; refine And.intro ?_ ?_; exact trivial; refine And.intro ?_ ?_; exact trivial; exact trivial), trivial, trivial⟩ ⟨(by refine And.intro ?_ ?_; exact trivial; refine And.intro ?_ ?_; exact trivial; exact trivial), (by refine And.intro ?_ ?_; exact trivial; refine And.intro ?_ ?_; exact trivial; exact trivial), trivial⟩) ?_
      refine AW.loop (fun m t' h => ∃ i : Nat, i ≤ 4 ∧ m = 4 - i ∧ (kFrom q.1 op 4 = kFrom q.1 op (4 - i)) ∧ t' = tOfL [(0, .one (.ptr 1000 0)), (1, .one (.int .i64 dp)), (4, .one (.ptr 4 0)), (5, .one (.str q.1)), (6, .one (.bool op)), (17, .agg kindsC), (18, .one (.int .i64 ((i : Nat) : Int)))] ∧ h = ofL [(1000, .obj (Rd.c q.2)), (4, .obj [.int .i64 0, .nilsl])]) 4 ⟨0, by omega, rfl, rfl, rfl, rfl⟩ ?_
      rintro m t' h ⟨i, hi, rfl, hinv, rfl, rfl⟩
      cases hlt : decide ((i : Int) < 4) with
      | false =>
        have hi4 : i = 4 := by have := of_decide_eq_false hlt; omega
        subst hi4
        have hres : readKq (d + 1) op q = (.any, q.2.fail) := by unfold readKq; simp only; rw [hinv]; rfl
        rw [hres]
        refine AW.seq ?_; refine AW.region (by kernel_rfl) ?_; refine RunL.val (by exact rfl) (loc_binInt rfl rfl rfl) ?_; refine RunL.nil ?_; refine AW.seq ?_; refine AW.condF (by exact rfl) ?_; refine AW.exit ?_; refine AW.seq ?_; refine AW.region (by kernel_rfl) ?_; refine RunL.val (by exact rfl) (loc_moveC rfl) ?_; refine RunL.val (by exact rfl) (loc_nilCheck rfl rfl) ?_; refine RunL.val (by exact rfl) (loc_fieldAddr rfl) ?_; refine RunL.eff (by exact rfl) (loc_store (by exact rfl) (by exact rfl) (by exact rfl) (by exact rfl) (by exact rfl) (by exact Nat.le_of_ble_eq_true rfl) (by exact rfl)) ?_; refine RunL.nil ?_; refine AW.seq ?_; refine AW.region (by kernel_rfl) ?_; refine RunL.val (by exact rfl) (loc_build (by exact rfl) (by exact Cut.all (by exact rfl)) (by exact rfl)) ?_; refine RunL.eff (by exact rfl) (loc_storeW rfl rfl rfl rfl (by exact rfl) (by exact rfl)) ?_; refine RunL.nil ?_; refine AW.ret ?_
        refine rq ?_
        exact ret_ty (by exact .inr rfl) (by exact rfl) (by exact rfl) anyCells (by exact rfl) (by exact wkRow_refl _)
      | true =>
        have hi4 : i < 4 := by have := of_decide_eq_true hlt; omega
        have hg := kinds_get hi4
        refine AW.seq ?_; refine AW.region (by kernel_rfl) ?_; refine RunL.val (by exact rfl) (loc_binInt rfl rfl rfl) ?_; refine RunL.nil ?_; refine AW.seq ?_; refine AW.condTa (by exact rfl) (by assumption) ?_; refine AW.skip ?_; refine AW.seq ?_; refine AW.block ?_; refine AW.seq ?_; refine AW.region (by kernel_rfl) ?_; refine RunL.val (by exact rfl) (loc_moveC rfl) ?_
        refine RunL.val (by exact rfl) (loc_indexA (by exact rfl) (by exact rfl) hi4 hg) ?_
        refine RunL.val (by exact rfl) (loc_assignC rfl) ?_; refine RunL.val (by exact rfl) (loc_assignC rfl) ?_; refine RunL.nil ?_; refine AW.seq ?_; refine AW.seq ?_; refine AW.region (by kernel_rfl) ?_; refine RunL.val (by exact rfl) (loc_moveC rfl) ?_; refine RunL.val (by exact rfl) (loc_moveC rfl) ?_
        refine RunL.val (by exact rfl) (loc_neStr (by exact rfl) (by exact rfl)) ?_
        cases h1 : sEq (kindsL.getD i sNil) q.1 with
        | false =>
          have hk : kAt q.1 op i = false := by unfold kAt; rw [h1]; rfl
          refine RunL.val (by exact rfl) (loc_moveC rfl) ?_; refine RunL.skip (.inl ⟨_, _, rfl, rfl, rfl⟩) ?_; refine RunL.skip (.inl ⟨_, _, rfl, rfl, rfl⟩) ?_; refine RunL.skip (.inl ⟨_, _, rfl, rfl, rfl⟩) ?_; refine RunL.skip (.inl ⟨_, _, rfl, rfl, rfl⟩) ?_; refine RunL.val (by exact rfl) (loc_pickT rfl rfl) ?_; refine RunL.val (by exact rfl) (loc_moveC rfl) ?_; refine RunL.skip (.inl ⟨_, _, rfl, rfl, rfl⟩) ?_; refine RunL.skip (.inl ⟨_, _, rfl, rfl, rfl⟩) ?_; refine RunL.val (by exact rfl) (loc_pickT rfl rfl) ?_; refine RunL.nil ?_; refine AW.condT (by exact rfl) ?_; refine AW.exit ?_; refine AW.region (by kernel_rfl) ?_; refine RunL.val (by exact rfl) (loc_inc rfl rfl (by omega)) ?_; refine RunL.val (by exact rfl) (loc_moveC rfl) ?_; refine RunL.nil ?_
          exact ⟨4 - (i + 1), _, _, by omega, (gh_lit [(0, .one (.ptr 1000 0)), (1, .one (.int .i64 dp)), (4, .one (.ptr 4 0)), (5, .one (.str q.1)), (6, .one (.bool op)), (17, .agg kindsC), (18, .one (.int .i64 (((i + 1) : Nat) : Int)))] [(1000, .obj (Rd.c q.2)), (4, .obj [.int .i64 0, .nilsl])] [] [] ⟨(WkU.of_eq rfl trivial), (WkU.of_eq rfl trivial), (WkU.of_eq rfl trivial), (by exact WkU.of_eq rfl trivial), (WkU.of_eq rfl trivial), (by exact WkU.of_eq rfl trivial), (WkU.of_eq rfl trivial), trivial⟩ ⟨(by exact Or.inl ⟨_, rfl, WkBlk.refl _⟩), (by exact Or.inl ⟨_, rfl, WkBlk.refl _⟩), trivial⟩ trivial trivial rfl rfl ⟨⟨_, rfl⟩, trivial, ⟨_, rfl⟩, trivial, trivial, (by refine And.intro ?_ ?_; exact trivial; refine And.intro ?_ ?_; exact trivial; refine And.intro ?_ ?_; exact trivial; refine And.intro ?_ ?_; exact trivial; exact trivial), trivial, trivial⟩ ⟨(by refine And.intro ?_ ?_; exact trivial; refine And.intro ?_ ?_; exact trivial; exact trivial), (by refine And.intro ?_ ?_; exact trivial; refine And.intro ?_ ?_; exact trivial; exact trivial), trivial⟩), i + 1, by omega, by omega, by rw [hinv, kFrom_step hi4, hk]; rfl, rfl, rfl⟩
        | true =>
          refine RunL.val (by exact rfl) (loc_moveC rfl) ?_; refine RunL.val (by exact .inl ⟨_, _, rfl, rfl, rfl⟩) (loc_moveC rfl) ?_; refine RunL.val (by exact .inl ⟨_, _, rfl, rfl, rfl⟩) (loc_binInt rfl rfl rfl) ?_; refine RunL.val (by exact .inl ⟨_, _, rfl, rfl, rfl⟩) (loc_moveC rfl) ?_
          refine RunL.val (by exact .inl ⟨_, _, rfl, rfl, rfl⟩) (loc_neBool (by exact rfl) (by exact rfl)) ?_
          have hio : ((i : Int) == 3) = (i == 3) := by rw [Bool.eq_iff_iff]; simp; omega
          rw [hio]
          cases h2 : ((i == 3) == op) with
          | false =>
            have hk : kAt q.1 op i = false := by unfold kAt; rw [h1, h2]; rfl
            refine RunL.val (by exact rfl) (loc_pickF rfl rfl) ?_; refine RunL.val (by exact rfl) (loc_moveC rfl) ?_; refine RunL.skip (.inl ⟨_, _, rfl, rfl, rfl⟩) ?_; refine RunL.skip (.inl ⟨_, _, rfl, rfl, rfl⟩) ?_; refine RunL.val (by exact rfl) (loc_pickT rfl rfl) ?_; refine RunL.nil ?_; refine AW.condT (by exact rfl) ?_; refine AW.exit ?_; refine AW.region (by kernel_rfl) ?_; refine RunL.val (by exact rfl) (loc_inc rfl rfl (by omega)) ?_; refine RunL.val (by exact rfl) (loc_moveC rfl) ?_; refine RunL.nil ?_
            exact ⟨4 - (i + 1), _, _, by omega, (gh_lit [(0, .one (.ptr 1000 0)), (1, .one (.int .i64 dp)), (4, .one (.ptr 4 0)), (5, .one (.str q.1)), (6, .one (.bool op)), (17, .agg kindsC), (18, .one (.int .i64 (((i + 1) : Nat) : Int)))] [(1000, .obj (Rd.c q.2)), (4, .obj [.int .i64 0, .nilsl])] [] [] ⟨(WkU.of_eq rfl trivial), (WkU.of_eq rfl trivial), (WkU.of_eq rfl trivial), (by exact WkU.of_eq rfl trivial), (WkU.of_eq rfl trivial), (by exact WkU.of_eq rfl trivial), (WkU.of_eq rfl trivial), trivial⟩ ⟨(by exact Or.inl ⟨_, rfl, WkBlk.refl _⟩), (by exact Or.inl ⟨_, rfl, WkBlk.refl _⟩), trivial⟩ trivial trivial rfl rfl ⟨⟨_, rfl⟩, trivial, ⟨_, rfl⟩, trivial, trivial, (by refine And.intro ?_ ?_; exact trivial; refine And.intro ?_ ?_; exact trivial; refine And.intro ?_ ?_; exact trivial; refine And.intro ?_ ?_; exact trivial; exact trivial), trivial, trivial⟩ ⟨(by refine And.intro ?_ ?_; exact trivial; refine And.intro ?_ ?_; exact trivial; exact trivial), (by refine And.intro ?_ ?_; exact trivial; refine And.intro ?_ ?_; exact trivial; exact trivial), trivial⟩), i + 1, by omega, by omega, by rw [hinv, kFrom_step hi4, hk]; rfl, rfl, rfl⟩
          | true =>
            have hk : kAt q.1 op i = true := by unfold kAt; rw [h1, h2]; rfl
            have hres : readKq (d + 1) op q = if op then (.mk i [(readK d q.2).1, (readK d (readK d q.2).2).1], (readK d (readK d q.2).2).2.close) else (.mk i [], q.2) := by
              unfold readKq; simp only; rw [hinv, kFrom_step hi4, hk]; rfl
            rw [hres]
            cases op with
            | false =>
              refine RunL.val (by exact rfl) (loc_pickF rfl rfl) ?_; refine RunL.val (by exact rfl) (loc_moveC rfl) ?_; refine RunL.val (by exact .inl ⟨_, _, rfl, rfl, rfl⟩) (loc_moveC rfl) ?_; refine RunL.val (by exact .inl ⟨_, _, rfl, rfl, rfl⟩) (loc_binInt rfl rfl rfl) ?_; refine RunL.val (by exact rfl) (loc_pickF rfl rfl) ?_; refine RunL.nil ?_; refine AW.condFa (by exact rfl) (by assumption) ?_; refine AW.skip ?_; refine AW.seq ?_; refine AW.region (by kernel_rfl) ?_; refine RunL.val (by exact rfl) (loc_moveC rfl) ?_; refine RunL.val (by exact rfl) (loc_build (by exact rfl) (by exact Cut.all (by exact rfl)) (by exact rfl)) ?_; refine RunL.mem (by exact rfl) (loc_allocD rfl rfl) ?_; refine RunL.eff (by exact rfl) (loc_storeW rfl rfl rfl rfl (by exact rfl) (by exact rfl)) ?_; refine RunL.nil ?_; refine AW.seq ?_; refine AW.seq ?_; refine AW.region (by kernel_rfl) ?_; refine RunL.val (by exact rfl) (loc_moveC rfl) ?_; refine RunL.nil ?_; refine AW.condF (by exact rfl) ?_; refine AW.skip ?_; refine AW.seq ?_; refine AW.region (by kernel_rfl) ?_; refine RunL.val (by exact rfl) (loc_loadA rfl rfl (by exact Cut.all (by exact rfl))) ?_; refine RunL.eff (by exact rfl) (loc_storeW rfl rfl rfl rfl (by exact rfl) (by exact rfl)) ?_; refine RunL.nil ?_; refine AW.ret ?_
              refine rq ?_
              exact ret_ty (by exact .inr rfl) (by exact rfl) (by exact rfl) leafCells (by exact rfl) (by exact wkRow_refl _)
            | true =>
              refine RunL.val (by exact rfl) (loc_pickF rfl rfl) ?_; refine RunL.val (by exact rfl) (loc_moveC rfl) ?_; refine RunL.val (by exact .inl ⟨_, _, rfl, rfl, rfl⟩) (loc_moveC rfl) ?_; refine RunL.val (by exact .inl ⟨_, _, rfl, rfl, rfl⟩) (loc_binInt rfl rfl rfl) ?_; refine RunL.val (by exact rfl) (loc_pickF rfl rfl) ?_; refine RunL.nil ?_; refine AW.condFa (by exact rfl) (by assumption) ?_; refine AW.skip ?_; refine AW.seq ?_; refine AW.region (by kernel_rfl) ?_; refine RunL.val (by exact rfl) (loc_moveC rfl) ?_; refine RunL.val (by exact rfl) (loc_build (by exact rfl) (by exact Cut.all (by exact rfl)) (by exact rfl)) ?_; refine RunL.mem (by exact rfl) (loc_allocD rfl rfl) ?_; refine RunL.eff (by exact rfl) (loc_storeW rfl rfl rfl rfl (by exact rfl) (by exact rfl)) ?_; refine RunL.nil ?_; refine AW.seq ?_; refine AW.seq ?_; refine AW.region (by kernel_rfl) ?_; refine RunL.val (by exact rfl) (loc_moveC rfl) ?_; refine RunL.nil ?_; refine AW.condT (by exact rfl) ?_; refine AW.seq ?_; refine AW.region (by kernel_rfl) ?_; refine RunL.val (by exact rfl) (loc_moveC rfl) ?_; refine RunL.val (by exact rfl) (loc_moveC rfl) ?_; refine RunL.val (by exact rfl) (loc_addB rfl rfl (by omega)) ?_
              refine RunL.many (by exact rfl) (loc_funE (ih2 (q.2)) rfl (by refine ⟨_, _, rfl, (by exact LeU.of_eq rfl trivial), (by exact Exists.intro _ rfl), ?_⟩; refine ⟨_, _, rfl, (by exact LeU.of_eq rfl trivial), (by exact trivial), ?_⟩; exact rfl) (by exact ⟨rfl, trivial⟩) (by exact rfl) (by simp [namesL]) (by exact ⟨⟨trivial, trivial, trivial⟩, trivial⟩)) ?_
              refine RunL.val (by exact rfl) (loc_moveC rfl) ?_; refine RunL.val (by exact rfl) (loc_moveC rfl) ?_; refine RunL.val (by exact rfl) (loc_addB rfl rfl (by omega)) ?_
              refine RunL.many (by exact rfl) (loc_funE (ih2 ((readK d q.2).2)) rfl (by refine ⟨_, _, rfl, (by exact LeU.of_eq rfl trivial), (by exact Exists.intro _ rfl), ?_⟩; refine ⟨_, _, rfl, (by exact LeU.of_eq rfl trivial), (by exact trivial), ?_⟩; exact rfl) (by exact ⟨rfl, trivial⟩) (by exact rfl) (by simp [namesL]) (by exact ⟨⟨trivial, trivial, trivial⟩, trivial⟩)) ?_
              refine RunL.val (by exact rfl) (loc_sliceLit (by exact rfl) (by exact rfl) (by decide) (by decide) (by exact RowsOf.cons (by exact rfl) (RowsOf.cons (by exact rfl) RowsOf.nil)) (by exact AllP.cons (by exact rfl) (AllP.cons (by exact rfl) AllP.nil)) (by exact rfl)) ?_; refine RunL.val (by exact rfl) (loc_fieldAddr rfl) ?_; refine RunL.eff (by exact rfl) (loc_store (by exact rfl) (by exact rfl) (by exact rfl) (by exact rfl) (by exact rfl) (by exact Nat.le_of_ble_eq_true rfl) (by exact rfl)) ?_; refine RunL.nil ?_; refine AW.region (by kernel_rfl) ?_; refine RunL.val (by exact rfl) (loc_moveC rfl) ?_; refine RunL.val (by exact rfl) (loc_moveC rfl) ?_
              refine RunL.many (by exact rfl) (loc_funE (next_a ((readK d (readK d q.2).2).2)) rfl (by refine ⟨_, _, rfl, (by exact LeU.of_eq rfl trivial), (by exact Exists.intro _ rfl), ?_⟩; exact rfl) (by exact ⟨rfl, trivial⟩) (by exact rfl) (by simp [namesL]) (by exact ⟨⟨trivial, trivial, trivial⟩, trivial⟩)) ?_
              skip
              refine RunL.val (by exact rfl) (loc_neStr (b := sRp) (by exact rfl) (by exact rfl)) ?_
              cases hc : sEq (readK d (readK d q.2).2).2.next.1 sRp with
              | false =>
                refine RunL.val (by exact rfl) (loc_moveC rfl) ?_; refine RunL.skip (.inl ⟨_, _, rfl, rfl, rfl⟩) ?_; refine RunL.skip (.inl ⟨_, _, rfl, rfl, rfl⟩) ?_; refine RunL.skip (.inl ⟨_, _, rfl, rfl, rfl⟩) ?_; refine RunL.skip (.inl ⟨_, _, rfl, rfl, rfl⟩) ?_; refine RunL.val (by exact rfl) (loc_pickT rfl rfl) ?_; refine RunL.val (by exact rfl) (loc_nilCheck rfl rfl) ?_; refine RunL.val (by exact rfl) (loc_fieldAddr rfl) ?_; refine RunL.eff (by exact rfl) (loc_store (by exact rfl) (by exact rfl) (by exact rfl) (by exact rfl) (by exact rfl) (by exact Nat.le_of_ble_eq_true rfl) (by exact rfl)) ?_; refine RunL.nil ?_; refine AW.seq ?_; refine AW.region (by kernel_rfl) ?_; refine RunL.val (by exact rfl) (loc_loadA rfl rfl (by exact Cut.all (by exact rfl))) ?_; refine RunL.eff (by exact rfl) (loc_storeW rfl rfl rfl rfl (by exact rfl) (by exact rfl)) ?_; refine RunL.nil ?_; refine AW.ret ?_
                refine rq ?_
                exact ret_ty (by exact .inr rfl) (by exact rfl) (by exact rfl) pairCells (by exact rfl) (by unfold Rd.close; rw [hc]; exact wkRow_refl _)
              | true =>
                refine RunL.val (by exact rfl) (loc_moveC rfl) ?_; refine RunL.val (by exact .inl ⟨_, _, rfl, rfl, rfl⟩) (loc_moveC rfl) ?_; refine RunL.val (by exact .inl ⟨_, _, rfl, rfl, rfl⟩) (loc_nilCheck rfl rfl) ?_; refine RunL.val (by exact .inl ⟨_, _, rfl, rfl, rfl⟩) (loc_fieldAddr rfl) ?_; refine RunL.val (by exact .inl ⟨_, _, rfl, rfl, rfl⟩) (loc_load rfl rfl rfl) ?_; refine RunL.val (by exact rfl) (loc_pickF rfl rfl) ?_; refine RunL.val (by exact rfl) (loc_nilCheck rfl rfl) ?_; refine RunL.val (by exact rfl) (loc_fieldAddr rfl) ?_; refine RunL.eff (by exact rfl) (loc_store (by exact rfl) (by exact rfl) (by exact rfl) (by exact rfl) (by exact rfl) (by exact Nat.le_of_ble_eq_true rfl) (by exact rfl)) ?_; refine RunL.nil ?_; refine AW.seq ?_; refine AW.region (by kernel_rfl) ?_; refine RunL.val (by exact rfl) (loc_loadA rfl rfl (by exact Cut.all (by exact rfl))) ?_; refine RunL.eff (by exact rfl) (loc_storeW rfl rfl rfl rfl (by exact rfl) (by exact rfl)) ?_; refine RunL.nil ?_; refine AW.ret ?_
                refine rq ?_
                exact ret_ty (by exact .inr rfl) (by exact rfl) (by exact rfl) pairCells (by exact rfl) (by unfold Rd.close; rw [hc]; exact wkRow_refl _)
end Go.Proofs.YtnflnbdlgdjfmabDoor
namespace Go.Proofs.YtnflnbdlgdjfmabDoor
open Go.RowKit
set_option linter.unusedVariables false
set_option linter.unusedSimpArgs false
set_option maxRecDepth 100000
attribute [local irreducible] RunL AW LocOp ACalls Gh
/-- No word is too long. -/
def RdOk (r : Rd) : Prop := ∀ w ∈ r.ws, w.size ≤ 4294967296
theorem next_okR {r : Rd} (h : RdOk r) : RdOk r.next.2 ∧ r.next.1.size ≤ 4294967296 := by
  unfold Rd.next
  split
  · exact ⟨fun w hw => (by cases hw), by show (0 : Nat) ≤ _; decide⟩
  · rename_i w ws e
    exact ⟨fun x hx => h x (by rw [e]; exact List.mem_cons_of_mem _ hx), h w (by rw [e]; exact List.mem_cons_self ..)⟩
theorem close_okR {r : Rd} (h : RdOk r) : RdOk r.close := (next_okR h).1
theorem readK_okR : ∀ (d : Nat) (r : Rd), RdOk r → RdOk (readK d r).2
  | 0, r, h => by
    simp only [readK]
    split
    · exact (next_okR (next_okR h).1).1
    · exact (next_okR h).1
  | d + 1, r, h => by
    have hq : RdOk (if sEq r.next.1 sLp = true then r.next.2.next else r.next).2 := by
      split
      · exact (next_okR (next_okR h).1).1
      · exact (next_okR h).1
    simp only [readK]
    generalize (if sEq r.next.1 sLp = true then r.next.2.next else r.next) = q at hq
    cases kFrom q.1 (sEq r.next.1 sLp) 4 with
    | none => exact hq
    | some k =>
      simp only
      split
      · exact close_okR (readK_okR d _ (readK_okR d _ hq))
      · exact hq
theorem number_okR {r : Rd} {s : ByteArray} (h : RdOk r) : RdOk (r.number s).2 := by
  unfold Rd.number; split <;> exact h
theorem readN_okR {f : Rd → Tm × Rd} (hf : ∀ r, RdOk r → RdOk (f r).2) : ∀ (n : Nat) (r : Rd), RdOk r → RdOk (readN f n r).2
  | 0, r, h => h
  | n + 1, r, h => readN_okR hf n _ (hf r h)
theorem readT_okR : ∀ (n : Nat) (r : Rd), RdOk r → RdOk (readT n r).2
  | 0, r, h => (next_okR h).1
  | n + 1, r, h => by
    have h1 := (next_okR h).1
    simp only [readT]
    split
    · exact h1
    split
    · exact h1
    split
    · exact number_okR h1
    split
    · exact number_okR h1
    split
    · exact (next_okR h1).1
    · simp only [readB]
      refine close_okR (readN_okR (readT_okR n) _ _ ?_)
      split
      · exact readK_okR 4 _ (next_okR h1).1
      · exact (next_okR h1).1
theorem readN_snoc (f : Rd → Tm × Rd) : ∀ (n : Nat) (r : Rd), readN f (n + 1) r = ((readN f n r).1 ++ [(f (readN f n r).2).1], (f (readN f n r).2).2)
  | 0, r => rfl
  | n + 1, r => by
    show ((f r).1 :: (readN f (n + 1) (f r).2).1, (readN f (n + 1) (f r).2).2) = _
    rw [readN_snoc f n (f r).2]; rfl
theorem words_get {i : Nat} (h : i < 10) : wordsC[i]? = some (.str (wordsL.getD i sNil)) := by
  match i, h with
  | 0, _ | 1, _ | 2, _ | 3, _ | 4, _ | 5, _ | 6, _ | 7, _ | 8, _ | 9, _ => rfl
theorem arity_get {i : Nat} (h : i < 10) : arityC[((i : Nat) : Int).toNat * 1]? = some (.int .i64 (arity i)) := by
  match i, h with
  | 0, _ | 1, _ | 2, _ | 3, _ | 4, _ | 5, _ | 6, _ | 7, _ | 8, _ | 9, _ => rfl
theorem arity_le {i : Nat} (h : i < 10) : ∃ a : Nat, arity i = a ∧ a ≤ 3 := by
  match i, h with
  | 0, _ | 1, _ | 2, _ | 3, _ | 4, _ | 5, _ | 6, _ | 7, _ | 8, _ | 9, _ => exact ⟨_, rfl, by decide⟩
theorem wFrom_step {s : ByteArray} {i : Nat} (h : i < 10) : wFrom s (10 - i) = if wAt s i then some i else wFrom s (10 - (i + 1)) := by
  obtain ⟨n, hn⟩ : ∃ n, 10 - i = n + 1 := ⟨9 - i, by omega⟩
  rw [hn, show 10 - (i + 1) = n by omega]
  simp only [wFrom]
  rw [show 9 - n = i by omega]
theorem hash_size {s : ByteArray} (h : Lib.hasPrefix s.data.toList sHash.data.toList = true) : 1 ≤ s.size := by
  unfold Lib.hasPrefix at h
  have := List.IsPrefix.length_le (List.isPrefixOf_iff_prefix.1 h)
  rw [Array.length_toList] at this
  exact this
/-- One term is answered, the reader as it is. -/
theorem ret_tm {P : Program} {x : Tmp} {tx : TypeId} {bx : Nat} {e : Exit} {t : Nat → U} {h : Nat → Option Blk} {r : Rd} {a : Tm} {l k : List C} {fz : List Nat} [T : TAgg P tx 7] (he : e = .normal ∨ e = .ret) (hx : t x = .one (.ptr bx 0)) (hbx : h bx = some (.obj k)) (hfz : AllP (ClosedAt h) fz) (hd : disj fz [1000] = true) (hk : All2 (WkC h fz []) k a.c) (hb : h 1000 = some (.obj l)) (hl : All2 (WkC h fz []) l r.c) : RetQ P #[.cell x tx] a.u [(1000, .obj r.c)] e t h := by
  have hlen : k.length = 7 := hk.length
  exact ⟨he, [.agg k], ⟨⟨bx, k, hx, hbx, .inl ⟨7, T, hlen, rfl⟩⟩, trivial⟩, ⟨trivial, trivial⟩, .agg k, rfl, fz, hfz, hk, ⟨⟨_, hb, hl⟩, trivial⟩, hd, ⟨trivial, trivial, trivial, trivial, trivial, trivial, trivial, trivial⟩, ⟨⟨trivial, trivial, trivial⟩, trivial⟩⟩
theorem tleaf {h : Nat → Option Blk} {k n : Int} : All2 (WkC h [] []) [.int .i64 k, .int .i64 n, .int .i64 0, .nilsl, .int .i64 0, .nilsl, .nilsl] (Tm.mk k n .any .any []).c := ⟨.le (.refl _), .le (.refl _), .le (.refl _), .le (.nil _), .le (.refl _), .le (.nil _), .le (.nil _), trivial⟩
set_option maxHeartbeats 40000000 in
theorem term_a : ∀ (n : Nat), n ≤ 40 → ∀ (r : Rd), RdOk r → ACalls Tryd.prog 31 [.one (.ptr 1000 0), .one (.int .i64 (n : Int))] [(1000, .obj (Rd.c (r)))] (readT n r).1.u [(1000, .obj (Rd.c ((readT n r).2)))] := by
  intro n
  induction n with
  | zero =>
    intro hn r hr
    refine acalls_of_body Tryd.func31 rfl (by kernel_rfl) (Nat.le_of_ble_eq_true rfl) (by exact ⟨⟨rfl, trivial⟩, trivial⟩) (by simp [namesL]) ?_
    refine AW.seq ?_; refine AW.region (by kernel_rfl) ?_; refine RunL.mem (by exact rfl) (loc_allocD rfl rfl) ?_; refine RunL.nil ?_; refine AW.seq ?_; refine AW.region (by kernel_rfl) ?_; refine RunL.val (by exact rfl) (loc_moveC rfl) ?_
    refine RunL.many (by exact rfl) (loc_funE (next_a (r)) rfl (by refine ⟨_, _, rfl, (by exact LeU.of_eq rfl trivial), (by exact Exists.intro _ rfl), ?_⟩; exact rfl) (by exact ⟨rfl, trivial⟩) (by exact rfl) (by simp [namesL]) (by exact ⟨⟨trivial, trivial, trivial⟩, trivial⟩)) ?_
    cases hb : r.next.2.bad with
    | true =>
      refine RunL.val (by exact rfl) (loc_assignC rfl) ?_; refine RunL.nil ?_; refine AW.seq ?_; refine AW.block ?_; refine AW.seq ?_; refine AW.region (by kernel_rfl) ?_; refine RunL.val (by exact rfl) (loc_moveC rfl) ?_; refine RunL.val (by exact rfl) (loc_nilCheck rfl rfl) ?_; refine RunL.val (by exact rfl) (loc_fieldAddr rfl) ?_; refine RunL.val (by exact rfl) (loc_load rfl rfl rfl) ?_; refine RunL.val (by exact rfl) (loc_moveC rfl) ?_; refine RunL.skip (.inl ⟨_, _, rfl, rfl, guard_eq true (by assumption) rfl⟩) ?_; refine RunL.skip (.inl ⟨_, _, rfl, rfl, guard_eq true (by assumption) rfl⟩) ?_; refine RunL.val (by exact rfl) (loc_pickI true (by assumption) rfl rfl) ?_; refine RunL.val (by exact rfl) (loc_assignC rfl) ?_; refine RunL.nil ?_; refine AW.condT (by exact rfl) ?_; refine AW.seq ?_; refine AW.region (by kernel_rfl) ?_; refine RunL.val (by exact rfl) (loc_moveC rfl) ?_; refine RunL.val (by exact rfl) (loc_nilCheck rfl rfl) ?_; refine RunL.val (by exact rfl) (loc_fieldAddr rfl) ?_; refine RunL.eff (by exact rfl) (loc_store (by exact rfl) (by exact rfl) (by exact rfl) (by exact rfl) (by exact rfl) (by exact Nat.le_of_ble_eq_true rfl) (by exact rfl)) ?_; refine RunL.nil ?_; refine AW.seq ?_; refine AW.region (by kernel_rfl) ?_; refine RunL.val (by exact rfl) (loc_build (by exact rfl) (by exact Cut.all (by exact rfl)) (by exact rfl)) ?_; refine RunL.eff (by exact rfl) (loc_storeW rfl rfl rfl rfl (by exact rfl) (by exact rfl)) ?_; refine RunL.nil ?_; refine AW.ret ?_
      refine rq ?_
      exact ret_tm (by exact .inr rfl) (by exact rfl) (by exact rfl) (fz := []) trivial rfl tleaf (by exact rfl) (by exact wkRow_refl _)
    | false =>
      refine RunL.val (by exact rfl) (loc_assignC rfl) ?_; refine RunL.nil ?_; refine AW.seq ?_; refine AW.block ?_; refine AW.seq ?_; refine AW.region (by kernel_rfl) ?_; refine RunL.val (by exact rfl) (loc_moveC rfl) ?_; refine RunL.val (by exact rfl) (loc_nilCheck rfl rfl) ?_; refine RunL.val (by exact rfl) (loc_fieldAddr rfl) ?_; refine RunL.val (by exact rfl) (loc_load rfl rfl rfl) ?_; refine RunL.val (by exact rfl) (loc_moveC rfl) ?_; refine RunL.val (by exact .inl ⟨_, _, rfl, rfl, guard_eq false (by assumption) rfl⟩) (loc_moveC rfl) ?_; refine RunL.val (by exact .inl ⟨_, _, rfl, rfl, guard_eq false (by assumption) rfl⟩) (loc_binInt rfl rfl rfl) ?_; refine RunL.val (by exact rfl) (loc_pickI false (by assumption) rfl rfl) ?_; refine RunL.val (by exact rfl) (loc_assignC rfl) ?_; refine RunL.nil ?_; refine AW.condT (by exact rfl) ?_; refine AW.seq ?_; refine AW.region (by kernel_rfl) ?_; refine RunL.val (by exact rfl) (loc_moveC rfl) ?_; refine RunL.val (by exact rfl) (loc_nilCheck rfl rfl) ?_; refine RunL.val (by exact rfl) (loc_fieldAddr rfl) ?_; refine RunL.eff (by exact rfl) (loc_store (by exact rfl) (by exact rfl) (by exact rfl) (by exact rfl) (by exact rfl) (by exact Nat.le_of_ble_eq_true rfl) (by exact rfl)) ?_; refine RunL.nil ?_; refine AW.seq ?_; refine AW.region (by kernel_rfl) ?_; refine RunL.val (by exact rfl) (loc_build (by exact rfl) (by exact Cut.all (by exact rfl)) (by exact rfl)) ?_; refine RunL.eff (by exact rfl) (loc_storeW rfl rfl rfl rfl (by exact rfl) (by exact rfl)) ?_; refine RunL.nil ?_; refine AW.ret ?_
      refine rq ?_
      exact ret_tm (by exact .inr rfl) (by exact rfl) (by exact rfl) (fz := []) trivial rfl tleaf (by exact rfl) (by exact wkRow_refl _)
  | succ n ih =>
    intro hn r hr
    have ih := ih (by omega)
    have ih2 : ∀ (r : Rd), RdOk r → ACalls Tryd.prog 31 [.one (.ptr 1000 0), .one (.int .i64 (((n + 1 : Nat) : Int) - 1))] [(1000, .obj (Rd.c (r)))] (readT n r).1.u [(1000, .obj (Rd.c ((readT n r).2)))] := fun r hr => by
      rw [show (((n + 1 : Nat) : Int) - 1) = (n : Int) by omega]; exact ih r hr
    have hz : ((((n + 1 : Nat)) : Int) == 0) = false := by rw [beq_eq_false_iff_ne]; omega
    obtain ⟨hr1, hs1⟩ := next_okR hr
    obtain ⟨hr2, hs2⟩ := next_okR hr1
    refine acalls_of_body Tryd.func31 rfl (by kernel_rfl) (Nat.le_of_ble_eq_true rfl) (by exact ⟨⟨rfl, trivial⟩, trivial⟩) (by simp [namesL]) ?_
    refine AW.seq ?_; refine AW.region (by kernel_rfl) ?_; refine RunL.mem (by exact rfl) (loc_allocD rfl rfl) ?_; refine RunL.nil ?_; refine AW.seq ?_; refine AW.region (by kernel_rfl) ?_; refine RunL.val (by exact rfl) (loc_moveC rfl) ?_
    refine RunL.many (by exact rfl) (loc_funE (next_a (r)) rfl (by refine ⟨_, _, rfl, (by exact LeU.of_eq rfl trivial), (by exact Exists.intro _ rfl), ?_⟩; exact rfl) (by exact ⟨rfl, trivial⟩) (by exact rfl) (by simp [namesL]) (by exact ⟨⟨trivial, trivial, trivial⟩, trivial⟩)) ?_
    cases hb : r.next.2.bad with
    | true =>
      rw [show readT (n + 1) r = (Tm.zero, r.next.2.fail) by simp only [readT]; rw [hb]; rfl]
      refine RunL.val (by exact rfl) (loc_assignC rfl) ?_; refine RunL.nil ?_; refine AW.seq ?_; refine AW.block ?_; refine AW.seq ?_; refine AW.region (by kernel_rfl) ?_; refine RunL.val (by exact rfl) (loc_moveC rfl) ?_; refine RunL.val (by exact rfl) (loc_nilCheck rfl rfl) ?_; refine RunL.val (by exact rfl) (loc_fieldAddr rfl) ?_; refine RunL.val (by exact rfl) (loc_load rfl rfl rfl) ?_; refine RunL.val (by exact rfl) (loc_moveC rfl) ?_; refine RunL.skip (.inl ⟨_, _, rfl, rfl, guard_eq true (by assumption) rfl⟩) ?_; refine RunL.skip (.inl ⟨_, _, rfl, rfl, guard_eq true (by assumption) rfl⟩) ?_; refine RunL.val (by exact rfl) (loc_pickI true (by assumption) rfl rfl) ?_; refine RunL.val (by exact rfl) (loc_assignC rfl) ?_; refine RunL.nil ?_; refine AW.condT (by exact rfl) ?_; refine AW.seq ?_; refine AW.region (by kernel_rfl) ?_; refine RunL.val (by exact rfl) (loc_moveC rfl) ?_; refine RunL.val (by exact rfl) (loc_nilCheck rfl rfl) ?_; refine RunL.val (by exact rfl) (loc_fieldAddr rfl) ?_; refine RunL.eff (by exact rfl) (loc_store (by exact rfl) (by exact rfl) (by exact rfl) (by exact rfl) (by exact rfl) (by exact Nat.le_of_ble_eq_true rfl) (by exact rfl)) ?_; refine RunL.nil ?_; refine AW.seq ?_; refine AW.region (by kernel_rfl) ?_; refine RunL.val (by exact rfl) (loc_build (by exact rfl) (by exact Cut.all (by exact rfl)) (by exact rfl)) ?_; refine RunL.eff (by exact rfl) (loc_storeW rfl rfl rfl rfl (by exact rfl) (by exact rfl)) ?_; refine RunL.nil ?_; refine AW.ret ?_
      refine rq ?_
      exact ret_tm (by exact .inr rfl) (by exact rfl) (by exact rfl) (fz := []) trivial rfl tleaf (by exact rfl) (by exact wkRow_refl _)
    | false =>
    refine RunL.val (by exact rfl) (loc_assignC rfl) ?_; refine RunL.nil ?_; refine AW.seq ?_; refine AW.block ?_; refine AW.seq ?_; refine AW.region (by kernel_rfl) ?_; refine RunL.val (by exact rfl) (loc_moveC rfl) ?_; refine RunL.val (by exact rfl) (loc_nilCheck rfl rfl) ?_; refine RunL.val (by exact rfl) (loc_fieldAddr rfl) ?_; refine RunL.val (by exact rfl) (loc_load rfl rfl rfl) ?_; refine RunL.val (by exact rfl) (loc_moveC rfl) ?_; refine RunL.val (by exact .inl ⟨_, _, rfl, rfl, guard_eq false (by assumption) rfl⟩) (loc_moveC rfl) ?_; refine RunL.val (by exact .inl ⟨_, _, rfl, rfl, guard_eq false (by assumption) rfl⟩) (loc_binInt rfl rfl rfl) ?_; refine RunL.val (by exact rfl) (loc_pickI false (by assumption) rfl rfl) ?_; refine RunL.val (by exact rfl) (loc_assignC rfl) ?_; refine RunL.nil ?_; refine AW.condF (by exact rfl) ?_; refine AW.seq ?_; refine AW.region (by kernel_rfl) ?_; refine RunL.val (by exact rfl) (loc_moveC rfl) ?_
    refine RunL.val (by exact rfl) (loc_eqStr (b := sYes) (by exact rfl) (by exact rfl)) ?_
    cases hy : sEq r.next.1 sYes with
    | true =>
      rw [show readT (n + 1) r = (.mk 3 1 .any .any [], r.next.2) by simp only [readT]; rw [hb, hy]; rfl]
      refine RunL.val (by exact rfl) (loc_moveC rfl) ?_; refine RunL.skip (.inl ⟨_, _, rfl, rfl, rfl⟩) ?_; refine RunL.skip (.inl ⟨_, _, rfl, rfl, rfl⟩) ?_; refine RunL.val (by exact rfl) (loc_pickT rfl rfl) ?_; refine RunL.val (by exact rfl) (loc_assignC rfl) ?_; refine RunL.nil ?_; refine AW.condT (by exact rfl) ?_; refine AW.seq ?_; refine AW.region (by kernel_rfl) ?_; refine RunL.val (by exact rfl) (loc_build (by exact rfl) (by exact Cut.all (by exact rfl)) (by exact rfl)) ?_; refine RunL.mem (by exact rfl) (loc_allocD rfl rfl) ?_; refine RunL.eff (by exact rfl) (loc_storeW rfl rfl rfl rfl (by exact rfl) (by exact rfl)) ?_; refine RunL.nil ?_; refine AW.seq ?_; refine AW.seq ?_; refine AW.region (by kernel_rfl) ?_; refine RunL.val (by exact rfl) (loc_moveC rfl) ?_
      refine RunL.val (by exact rfl) (loc_eqStr (b := sYes) (by exact rfl) (by exact rfl)) ?_
      rw [hy]
      refine RunL.nil ?_; refine AW.condT (by exact rfl) ?_; refine AW.region (by kernel_rfl) ?_; refine RunL.val (by exact rfl) (loc_fieldAddr rfl) ?_; refine RunL.eff (by exact rfl) (loc_store (by exact rfl) (by exact rfl) (by exact rfl) (by exact rfl) (by exact rfl) (by exact Nat.le_of_ble_eq_true rfl) (by exact rfl)) ?_; refine RunL.nil ?_; refine AW.seq ?_; refine AW.region (by kernel_rfl) ?_; refine RunL.val (by exact rfl) (loc_loadA rfl rfl (by exact Cut.all (by exact rfl))) ?_; refine RunL.eff (by exact rfl) (loc_storeW rfl rfl rfl rfl (by exact rfl) (by exact rfl)) ?_; refine RunL.nil ?_; refine AW.ret ?_
      refine rq ?_
      exact ret_tm (by exact .inr rfl) (by exact rfl) (by exact rfl) (fz := []) trivial rfl tleaf (by exact rfl) (by exact wkRow_refl _)
    | false =>
    refine RunL.val (by exact rfl) (loc_moveC rfl) ?_; refine RunL.val (by exact .inl ⟨_, _, rfl, rfl, rfl⟩) (loc_moveC rfl) ?_
    refine RunL.val (by exact .inl ⟨_, _, rfl, rfl, rfl⟩) (loc_eqStr (b := sNo) (by exact rfl) (by exact rfl)) ?_
    cases hno : sEq r.next.1 sNo with
    | true =>
      rw [show readT (n + 1) r = (.mk 3 0 .any .any [], r.next.2) by simp only [readT]; rw [hb, hy, hno]; rfl]
      refine RunL.val (by exact rfl) (loc_pickF rfl rfl) ?_; refine RunL.val (by exact rfl) (loc_assignC rfl) ?_; refine RunL.nil ?_; refine AW.condT (by exact rfl) ?_; refine AW.seq ?_; refine AW.region (by kernel_rfl) ?_; refine RunL.val (by exact rfl) (loc_build (by exact rfl) (by exact Cut.all (by exact rfl)) (by exact rfl)) ?_; refine RunL.mem (by exact rfl) (loc_allocD rfl rfl) ?_; refine RunL.eff (by exact rfl) (loc_storeW rfl rfl rfl rfl (by exact rfl) (by exact rfl)) ?_; refine RunL.nil ?_; refine AW.seq ?_; refine AW.seq ?_; refine AW.region (by kernel_rfl) ?_; refine RunL.val (by exact rfl) (loc_moveC rfl) ?_
      refine RunL.val (by exact rfl) (loc_eqStr (b := sYes) (by exact rfl) (by exact rfl)) ?_
      rw [hy]
      refine RunL.nil ?_; refine AW.condF (by exact rfl) ?_; refine AW.skip ?_; refine AW.seq ?_; refine AW.region (by kernel_rfl) ?_; refine RunL.val (by exact rfl) (loc_loadA rfl rfl (by exact Cut.all (by exact rfl))) ?_; refine RunL.eff (by exact rfl) (loc_storeW rfl rfl rfl rfl (by exact rfl) (by exact rfl)) ?_; refine RunL.nil ?_; refine AW.ret ?_
      refine rq ?_
      exact ret_tm (by exact .inr rfl) (by exact rfl) (by exact rfl) (fz := []) trivial rfl tleaf (by exact rfl) (by exact wkRow_refl _)
    | false =>
    refine RunL.val (by exact rfl) (loc_pickF rfl rfl) ?_; refine RunL.val (by exact rfl) (loc_assignC rfl) ?_; refine RunL.nil ?_; refine AW.condF (by exact rfl) ?_; refine AW.seq ?_; refine AW.region (by kernel_rfl) ?_; refine RunL.val (by exact rfl) (loc_moveC rfl) ?_
    refine RunL.val (by exact rfl) (loc_fun (hasPrefix_a r.next.1 sHash) rfl (by refine ⟨_, _, rfl, (by exact LeU.of_eq rfl trivial), (by exact trivial), ?_⟩; refine ⟨_, _, rfl, (by exact LeU.of_eq rfl trivial), (by exact trivial), ?_⟩; exact rfl)) ?_
    cases hh : Lib.hasPrefix r.next.1.data.toList sHash.data.toList with
    | true =>
      have hsz := hash_size hh
      rw [show readT (n + 1) r = (.mk 1 (r.next.2.number (r.next.1.extract 1 r.next.1.size)).1 .any .any [], (r.next.2.number (r.next.1.extract 1 r.next.1.size)).2) by simp only [readT]; rw [hb, hy, hno, hh]; rfl]
      refine RunL.val (by exact rfl) (loc_assignC rfl) ?_; refine RunL.nil ?_; refine AW.condT (by exact rfl) ?_; refine AW.seq ?_; refine AW.region (by kernel_rfl) ?_; refine RunL.val (by exact rfl) (loc_moveC rfl) ?_; refine RunL.val (by exact rfl) (loc_moveC rfl) ?_
      refine RunL.val (by exact rfl) (loc_sliceStr1 (by exact rfl) hsz) ?_
      refine RunL.many (by exact rfl) (loc_funE (number_a (r.next.2) (r.next.1.extract 1 r.next.1.size) (by rw [ByteArray.size_extract]; omega)) rfl (by refine ⟨_, _, rfl, (by exact LeU.of_eq rfl trivial), (by exact Exists.intro _ rfl), ?_⟩; refine ⟨_, _, rfl, (by exact LeU.of_eq rfl trivial), (by exact trivial), ?_⟩; exact rfl) (by exact ⟨rfl, trivial⟩) (by exact rfl) (by simp [namesL]) (by exact ⟨⟨trivial, trivial, trivial⟩, trivial⟩)) ?_
      refine RunL.val (by exact rfl) (loc_build (by exact rfl) (by exact Cut.all (by exact rfl)) (by exact rfl)) ?_; refine RunL.eff (by exact rfl) (loc_storeW rfl rfl rfl rfl (by exact rfl) (by exact rfl)) ?_; refine RunL.nil ?_; refine AW.ret ?_
      refine rq ?_
      exact ret_tm (by exact .inr rfl) (by exact rfl) (by exact rfl) (fz := []) trivial rfl tleaf (by exact rfl) (by exact wkRow_refl _)
    | false =>
    refine RunL.val (by exact rfl) (loc_assignC rfl) ?_; refine RunL.nil ?_; refine AW.condF (by exact rfl) ?_; refine AW.seq ?_; refine AW.region (by kernel_rfl) ?_; refine RunL.val (by exact rfl) (loc_moveC rfl) ?_
    refine RunL.val (by exact rfl) (loc_neStr (b := sLp) (by exact rfl) (by exact rfl)) ?_
    cases hp : sEq r.next.1 sLp with
    | false =>
      rw [show readT (n + 1) r = (.mk 2 (r.next.2.number r.next.1).1 .any .any [], (r.next.2.number r.next.1).2) by simp only [readT]; rw [hb, hy, hno, hh, hp]; rfl]
      refine RunL.val (by exact rfl) (loc_assignC rfl) ?_; refine RunL.nil ?_; refine AW.condT (by exact rfl) ?_; refine AW.seq ?_; refine AW.region (by kernel_rfl) ?_; refine RunL.val (by exact rfl) (loc_moveC rfl) ?_; refine RunL.val (by exact rfl) (loc_moveC rfl) ?_
      refine RunL.many (by exact rfl) (loc_funE (number_a (r.next.2) (r.next.1) (by omega)) rfl (by refine ⟨_, _, rfl, (by exact LeU.of_eq rfl trivial), (by exact Exists.intro _ rfl), ?_⟩; refine ⟨_, _, rfl, (by exact LeU.of_eq rfl trivial), (by exact trivial), ?_⟩; exact rfl) (by exact ⟨rfl, trivial⟩) (by exact rfl) (by simp [namesL]) (by exact ⟨⟨trivial, trivial, trivial⟩, trivial⟩)) ?_
      refine RunL.val (by exact rfl) (loc_build (by exact rfl) (by exact Cut.all (by exact rfl)) (by exact rfl)) ?_; refine RunL.eff (by exact rfl) (loc_storeW rfl rfl rfl rfl (by exact rfl) (by exact rfl)) ?_; refine RunL.nil ?_; refine AW.ret ?_
      refine rq ?_
      exact ret_tm (by exact .inr rfl) (by exact rfl) (by exact rfl) (fz := []) trivial rfl tleaf (by exact rfl) (by exact wkRow_refl _)
    | true =>
    have hrd : readT (n + 1) r = match wFrom r.next.2.next.1 10 with | none => (Tm.zero, r.next.2.next.2.fail) | some k => readB (readT n) k r.next.2.next.2 := by
      simp only [readT]; rw [hb, hy, hno, hh, hp]; rfl
    rw [hrd]
    refine RunL.val (by exact rfl) (loc_assignC rfl) ?_; refine RunL.nil ?_; refine AW.condF (by exact rfl) ?_; refine AW.skip ?_; refine AW.seq ?_; refine AW.region (by kernel_rfl) ?_; refine RunL.val (by exact rfl) (loc_moveC rfl) ?_
    refine RunL.many (by exact rfl) (loc_funE (next_a (r.next.2)) rfl (by refine ⟨_, _, rfl, (by exact LeU.of_eq rfl trivial), (by exact Exists.intro _ rfl), ?_⟩; exact rfl) (by exact ⟨rfl, trivial⟩) (by exact rfl) (by simp [namesL]) (by exact ⟨⟨trivial, trivial, trivial⟩, trivial⟩)) ?_
    refine RunL.val (by exact rfl) (loc_assignC rfl) ?_; refine RunL.nil ?_; refine AW.seq ?_; refine AW.seq ?_; refine AW.region (by kernel_rfl) ?_; refine RunL.val (by exact rfl) (loc_loadFA rfl (by exact Cut.all (by exact rfl))) ?_; refine RunL.val (by exact rfl) (loc_moveC rfl) ?_; refine RunL.nil ?_; refine AW.block ?_
    refine AW.gh (gh_lit [(0, .one (.ptr 1000 0)), (1, .one (.int .i64 ((n + 1 : Nat) : Int))), (4, .one (.ptr 4 0)), (5, .one (.str r.next.2.next.1)), (54, .agg wordsC), (55, .one (.int .i64 ((0 : Nat) : Int)))] [(1000, .obj (Rd.c r.next.2.next.2)), (4, .obj [.int .i64 0, .int .i64 0, .int .i64 0, .nilsl, .int .i64 0, .nilsl, .nilsl])] [] [] ⟨(WkU.of_eq rfl trivial), (WkU.of_eq rfl trivial), (WkU.of_eq rfl trivial), (by exact WkU.of_eq rfl trivial), (by exact WkU.of_eq rfl trivial), (WkU.of_eq rfl trivial), trivial⟩ ⟨(by exact Or.inl ⟨_, rfl, WkBlk.refl _⟩), (by exact Or.inl ⟨_, rfl, WkBlk.refl _⟩), trivial⟩ trivial trivial rfl rfl ⟨⟨_, rfl⟩, trivial, ⟨_, rfl⟩, trivial, (by refine And.intro ?_ ?_; exact trivial; refine And.intro ?_ ?_; exact trivial; refine And.intro ?_ ?_; exact trivial; refine And.intro ?_ ?_; exact trivial; refine And.intro ?_ ?_; exact trivial; refine And.intro ?_ ?_; exact trivial; refine And.intro ?_ ?_; exact trivial; refine And.intro ?_ ?_; exact trivial; refine And.intro ?_ ?_; exact trivial; refine And.intro ?_ ?_; exact trivial; exact trivial), trivial, trivial⟩ ⟨(by refine And.intro ?_ ?_; exact trivial; refine And.intro ?_ ?_; exact trivial; exact trivial), (by refine And.intro ?_ ?_; exact trivial; refine And.intro ?_ ?_; exact trivial; refine And.intro ?_ ?_; exact trivial; refine And.intro ?_ ?_; exact trivial; refine And.intro ?_ ?_; exact trivial; refine And.intro ?_ ?_; exact trivial; refine And.intro ?_ ?_; exact trivial; exact trivial), trivial⟩) ?_
    refine AW.loop (fun m t' h => ∃ i : Nat, i ≤ 10 ∧ m = 10 - i ∧ wFrom r.next.2.next.1 10 = wFrom r.next.2.next.1 (10 - i) ∧ t' = tOfL [(0, .one (.ptr 1000 0)), (1, .one (.int .i64 ((n + 1 : Nat) : Int))), (4, .one (.ptr 4 0)), (5, .one (.str r.next.2.next.1)), (54, .agg wordsC), (55, .one (.int .i64 ((i : Nat) : Int)))] ∧ h = ofL [(1000, .obj (Rd.c r.next.2.next.2)), (4, .obj [.int .i64 0, .int .i64 0, .int .i64 0, .nilsl, .int .i64 0, .nilsl, .nilsl])]) 10 ⟨0, by omega, rfl, rfl, rfl, rfl⟩ ?_
    rintro m t' h ⟨i, hi, rfl, hinv, rfl, rfl⟩
    cases hlt : decide ((i : Int) < 10) with
    | false =>
      have hi4 : i = 10 := by have := of_decide_eq_false hlt; omega
      subst hi4
      rw [show wFrom r.next.2.next.1 10 = none by rw [hinv]; rfl]
      refine AW.seq ?_; refine AW.region (by kernel_rfl) ?_; refine RunL.val (by exact rfl) (loc_binInt rfl rfl rfl) ?_; refine RunL.nil ?_; refine AW.seq ?_; refine AW.condF (by exact rfl) ?_; refine AW.exit ?_; refine AW.seq ?_; refine AW.region (by kernel_rfl) ?_; refine RunL.val (by exact rfl) (loc_moveC rfl) ?_; refine RunL.val (by exact rfl) (loc_nilCheck rfl rfl) ?_; refine RunL.val (by exact rfl) (loc_fieldAddr rfl) ?_; refine RunL.eff (by exact rfl) (loc_store (by exact rfl) (by exact rfl) (by exact rfl) (by exact rfl) (by exact rfl) (by exact Nat.le_of_ble_eq_true rfl) (by exact rfl)) ?_; refine RunL.nil ?_; refine AW.seq ?_; refine AW.region (by kernel_rfl) ?_; refine RunL.val (by exact rfl) (loc_build (by exact rfl) (by exact Cut.all (by exact rfl)) (by exact rfl)) ?_; refine RunL.eff (by exact rfl) (loc_storeW rfl rfl rfl rfl (by exact rfl) (by exact rfl)) ?_; refine RunL.nil ?_; refine AW.ret ?_
      refine rq ?_
      exact ret_tm (by exact .inr rfl) (by exact rfl) (by exact rfl) (fz := []) trivial rfl tleaf (by exact rfl) (by exact wkRow_refl _)
    | true =>
    have hi4 : i < 10 := by have := of_decide_eq_true hlt; omega
    have hg := words_get hi4
    refine AW.seq ?_; refine AW.region (by kernel_rfl) ?_; refine RunL.val (by exact rfl) (loc_binInt rfl rfl rfl) ?_; refine RunL.nil ?_; refine AW.seq ?_; refine AW.condTa (by exact rfl) (by assumption) ?_; refine AW.skip ?_; refine AW.seq ?_; refine AW.block ?_; refine AW.seq ?_; refine AW.region (by kernel_rfl) ?_; refine RunL.val (by exact rfl) (loc_moveC rfl) ?_
    refine RunL.val (by exact rfl) (loc_indexA (by exact rfl) (by exact rfl) hi4 hg) ?_
    refine RunL.val (by exact rfl) (loc_assignC rfl) ?_; refine RunL.val (by exact rfl) (loc_assignC rfl) ?_; refine RunL.nil ?_; refine AW.seq ?_; refine AW.seq ?_; refine AW.region (by kernel_rfl) ?_; refine RunL.val (by exact rfl) (loc_moveC rfl) ?_
    refine RunL.val (by exact rfl) (loc_eqStr (b := sNil) (by exact rfl) (by exact rfl)) ?_
    cases h1 : sEq (wordsL.getD i sNil) sNil with
    | true =>
      have hk : wAt r.next.2.next.1 i = false := by unfold wAt; rw [h1]; rfl
      refine RunL.val (by exact rfl) (loc_moveC rfl) ?_; refine RunL.skip (.inl ⟨_, _, rfl, rfl, rfl⟩) ?_; refine RunL.skip (.inl ⟨_, _, rfl, rfl, rfl⟩) ?_; refine RunL.skip (.inl ⟨_, _, rfl, rfl, rfl⟩) ?_; refine RunL.val (by exact rfl) (loc_pickT rfl rfl) ?_; refine RunL.nil ?_; refine AW.condT (by exact rfl) ?_; refine AW.exit ?_; refine AW.region (by kernel_rfl) ?_; refine RunL.val (by exact rfl) (loc_inc rfl rfl (by omega)) ?_; refine RunL.val (by exact rfl) (loc_moveC rfl) ?_; refine RunL.nil ?_
      exact ⟨10 - (i + 1), _, _, by omega, (gh_lit [(0, .one (.ptr 1000 0)), (1, .one (.int .i64 ((n + 1 : Nat) : Int))), (4, .one (.ptr 4 0)), (5, .one (.str r.next.2.next.1)), (54, .agg wordsC), (55, .one (.int .i64 (((i + 1) : Nat) : Int)))] [(1000, .obj (Rd.c r.next.2.next.2)), (4, .obj [.int .i64 0, .int .i64 0, .int .i64 0, .nilsl, .int .i64 0, .nilsl, .nilsl])] [] [] ⟨(WkU.of_eq rfl trivial), (WkU.of_eq rfl trivial), (WkU.of_eq rfl trivial), (by exact WkU.of_eq rfl trivial), (by exact WkU.of_eq rfl trivial), (WkU.of_eq rfl trivial), trivial⟩ ⟨(by exact Or.inl ⟨_, rfl, WkBlk.refl _⟩), (by exact Or.inl ⟨_, rfl, WkBlk.refl _⟩), trivial⟩ trivial trivial rfl rfl ⟨⟨_, rfl⟩, trivial, ⟨_, rfl⟩, trivial, (by refine And.intro ?_ ?_; exact trivial; refine And.intro ?_ ?_; exact trivial; refine And.intro ?_ ?_; exact trivial; refine And.intro ?_ ?_; exact trivial; refine And.intro ?_ ?_; exact trivial; refine And.intro ?_ ?_; exact trivial; refine And.intro ?_ ?_; exact trivial; refine And.intro ?_ ?_; exact trivial; refine And.intro ?_ ?_; exact trivial; refine And.intro ?_ ?_; exact trivial; exact trivial), trivial, trivial⟩ ⟨(by refine And.intro ?_ ?_; exact trivial; refine And.intro ?_ ?_; exact trivial; exact trivial), (by refine And.intro ?_ ?_; exact trivial; refine And.intro ?_ ?_; exact trivial; refine And.intro ?_ ?_; exact trivial; refine And.intro ?_ ?_; exact trivial; refine And.intro ?_ ?_; exact trivial; refine And.intro ?_ ?_; exact trivial; refine And.intro ?_ ?_; exact trivial; exact trivial), trivial⟩), i + 1, by omega, by omega, by rw [hinv, wFrom_step hi4, hk]; rfl, rfl, rfl⟩
    | false =>
    refine RunL.val (by exact rfl) (loc_moveC rfl) ?_; refine RunL.val (by exact .inl ⟨_, _, rfl, rfl, rfl⟩) (loc_moveC rfl) ?_; refine RunL.val (by exact .inl ⟨_, _, rfl, rfl, rfl⟩) (loc_moveC rfl) ?_
    refine RunL.val (by exact .inl ⟨_, _, rfl, rfl, rfl⟩) (loc_neStr (by exact rfl) (by exact rfl)) ?_
    cases h2 : sEq (wordsL.getD i sNil) r.next.2.next.1 with
    | false =>
      have hk : wAt r.next.2.next.1 i = false := by unfold wAt; rw [h1, h2]; rfl
      refine RunL.val (by exact rfl) (loc_pickF rfl rfl) ?_; refine RunL.nil ?_; refine AW.condT (by exact rfl) ?_; refine AW.exit ?_; refine AW.region (by kernel_rfl) ?_; refine RunL.val (by exact rfl) (loc_inc rfl rfl (by omega)) ?_; refine RunL.val (by exact rfl) (loc_moveC rfl) ?_; refine RunL.nil ?_
      exact ⟨10 - (i + 1), _, _, by omega, (gh_lit [(0, .one (.ptr 1000 0)), (1, .one (.int .i64 ((n + 1 : Nat) : Int))), (4, .one (.ptr 4 0)), (5, .one (.str r.next.2.next.1)), (54, .agg wordsC), (55, .one (.int .i64 (((i + 1) : Nat) : Int)))] [(1000, .obj (Rd.c r.next.2.next.2)), (4, .obj [.int .i64 0, .int .i64 0, .int .i64 0, .nilsl, .int .i64 0, .nilsl, .nilsl])] [] [] ⟨(WkU.of_eq rfl trivial), (WkU.of_eq rfl trivial), (WkU.of_eq rfl trivial), (by exact WkU.of_eq rfl trivial), (by exact WkU.of_eq rfl trivial), (WkU.of_eq rfl trivial), trivial⟩ ⟨(by exact Or.inl ⟨_, rfl, WkBlk.refl _⟩), (by exact Or.inl ⟨_, rfl, WkBlk.refl _⟩), trivial⟩ trivial trivial rfl rfl ⟨⟨_, rfl⟩, trivial, ⟨_, rfl⟩, trivial, (by refine And.intro ?_ ?_; exact trivial; refine And.intro ?_ ?_; exact trivial; refine And.intro ?_ ?_; exact trivial; refine And.intro ?_ ?_; exact trivial; refine And.intro ?_ ?_; exact trivial; refine And.intro ?_ ?_; exact trivial; refine And.intro ?_ ?_; exact trivial; refine And.intro ?_ ?_; exact trivial; refine And.intro ?_ ?_; exact trivial; refine And.intro ?_ ?_; exact trivial; exact trivial), trivial, trivial⟩ ⟨(by refine And.intro ?_ ?_; exact trivial; refine And.intro ?_ ?_; exact trivial; exact trivial), (by refine And.intro ?_ ?_; exact trivial; refine And.intro ?_ ?_; exact trivial; refine And.intro ?_ ?_; exact trivial; refine And.intro ?_ ?_; exact trivial; refine And.intro ?_ ?_; exact trivial; refine And.intro ?_ ?_; exact trivial; refine And.intro ?_ ?_; exact trivial; exact trivial), trivial⟩), i + 1, by omega, by omega, by rw [hinv, wFrom_step hi4, hk]; rfl, rfl, rfl⟩
    | true =>
    have hk : wAt r.next.2.next.1 i = true := by unfold wAt; rw [h1, h2]; rfl
    rw [show wFrom r.next.2.next.1 10 = some i by rw [hinv, wFrom_step hi4, hk]; rfl]
    simp only
    have hk1 : ACalls Tryd.prog 50 [.one (.ptr 1000 0), .one (.int .i64 1)] [(1000, .obj (Rd.c (r.next.2.next.2)))] (readK 4 r.next.2.next.2).1.u [(1000, .obj (Rd.c ((readK 4 r.next.2.next.2).2)))] := kind_a 4 (by decide) r.next.2.next.2
    refine RunL.val (by exact rfl) (loc_pickF rfl rfl) ?_; refine RunL.nil ?_; refine AW.condF (by exact rfl) ?_; refine AW.skip ?_; refine AW.seq ?_; refine AW.region (by kernel_rfl) ?_; refine RunL.val (by exact rfl) (loc_moveC rfl) ?_; refine RunL.val (by exact rfl) (loc_build (by exact rfl) (by exact Cut.all (by exact rfl)) (by exact rfl)) ?_
    refine RunL.mem (by exact rfl) (loc_allocD rfl rfl) ?_
    refine RunL.eff (by exact rfl) (loc_storeW rfl rfl rfl rfl (by exact rfl) (by exact rfl)) ?_; refine RunL.nil ?_
    refine AW.seq ?_
    refine AW.midB (fun t h => ∃ ty rd, (ty, rd) = (if ((i : Nat) : Int) == 7 || ((i : Nat) : Int) == 9 then readK 4 r.next.2.next.2 else (.any, r.next.2.next.2)) ∧ t = tOfL [(0, .one (.ptr 1000 0)), (1, .one (.int .i64 ((n + 1 : Nat) : Int))), (4, .one (.ptr 4 0)), (7, .one (.int .i64 ((i : Nat) : Int))), (9, .one (.ptr 9 0))] ∧ h = ofL [(1000, .obj (Rd.c rd)), (4, .obj [.int .i64 0, .int .i64 0, .int .i64 0, .nilsl, .int .i64 0, .nilsl, .nilsl]), (9, .obj [.int .i64 ((i : Nat) : Int), .int .i64 0, .int .i64 (Ty.k (ty)), slOf 2 (tyRows (Ty.l (ty))), .int .i64 0, .nilsl, .nilsl])]) ?_ ?_
    · cases h7 : (((i : Nat) : Int) == 7) with
      | true =>
        refine AW.seq ?_; refine AW.region (by kernel_rfl) ?_; refine RunL.val (by exact rfl) (loc_moveC rfl) ?_; refine RunL.val (by exact rfl) (loc_binInt rfl rfl rfl) ?_; refine RunL.val (by exact rfl) (loc_moveC rfl) ?_; refine RunL.skip (.inl ⟨_, _, rfl, rfl, guard_eq true (by assumption) rfl⟩) ?_; refine RunL.skip (.inl ⟨_, _, rfl, rfl, guard_eq true (by assumption) rfl⟩) ?_; refine RunL.val (by exact rfl) (loc_pickI true (by assumption) rfl rfl) ?_; refine RunL.nil ?_; refine AW.condT (by exact rfl) ?_; refine AW.region (by kernel_rfl) ?_; refine RunL.val (by exact rfl) (loc_moveC rfl) ?_
        refine RunL.many (by exact rfl) (loc_funE (hk1) rfl (by refine ⟨_, _, rfl, (by exact LeU.of_eq rfl trivial), (by exact Exists.intro _ rfl), ?_⟩; refine ⟨_, _, rfl, (by exact LeU.of_eq rfl trivial), (by exact trivial), ?_⟩; exact rfl) (by exact ⟨rfl, trivial⟩) (by exact rfl) (by simp [namesL]) (by exact ⟨⟨trivial, trivial, trivial⟩, trivial⟩)) ?_
        refine RunL.val (by exact rfl) (loc_fieldAddr rfl) ?_; refine RunL.eff (by exact rfl) (loc_store (by exact rfl) (by exact rfl) (by exact rfl) (by exact rfl) (by exact rfl) (by exact Nat.le_of_ble_eq_true rfl) (by exact rfl)) ?_; refine RunL.nil ?_
        exact ⟨_, _, (gh_lit [(0, .one (.ptr 1000 0)), (1, .one (.int .i64 ((n + 1 : Nat) : Int))), (4, .one (.ptr 4 0)), (7, .one (.int .i64 ((i : Nat) : Int))), (9, .one (.ptr 9 0))] [(1000, .obj (Rd.c (readK 4 r.next.2.next.2).2)), (4, .obj [.int .i64 0, .int .i64 0, .int .i64 0, .nilsl, .int .i64 0, .nilsl, .nilsl]), (9, .obj [.int .i64 ((i : Nat) : Int), .int .i64 0, .int .i64 (Ty.k ((readK 4 r.next.2.next.2).1)), slOf 2 (tyRows (Ty.l ((readK 4 r.next.2.next.2).1))), .int .i64 0, .nilsl, .nilsl])] [] [] ⟨(WkU.of_eq rfl trivial), (WkU.of_eq rfl trivial), (WkU.of_eq rfl trivial), (WkU.of_eq rfl trivial), (WkU.of_eq rfl trivial), trivial⟩ ⟨(by exact Or.inl ⟨_, rfl, WkBlk.refl _⟩), (by exact Or.inl ⟨_, rfl, WkBlk.refl _⟩), (by exact Or.inl ⟨_, rfl, WkBlk.refl _⟩), trivial⟩ trivial trivial rfl rfl ⟨⟨_, rfl⟩, trivial, ⟨_, rfl⟩, trivial, ⟨_, rfl⟩, trivial⟩ ⟨(by refine And.intro ?_ ?_; exact trivial; refine And.intro ?_ ?_; exact trivial; exact trivial), (by refine And.intro ?_ ?_; exact trivial; refine And.intro ?_ ?_; exact trivial; refine And.intro ?_ ?_; exact trivial; refine And.intro ?_ ?_; exact trivial; refine And.intro ?_ ?_; exact trivial; refine And.intro ?_ ?_; exact trivial; refine And.intro ?_ ?_; exact trivial; exact trivial), (by refine And.intro ?_ ?_; exact trivial; refine And.intro ?_ ?_; exact trivial; refine And.intro ?_ ?_; exact trivial; refine And.intro ?_ ?_; exact trivial; refine And.intro ?_ ?_; exact trivial; refine And.intro ?_ ?_; exact trivial; refine And.intro ?_ ?_; exact trivial; exact trivial), trivial⟩), (readK 4 r.next.2.next.2).1, (readK 4 r.next.2.next.2).2, rfl, rfl, rfl⟩
      | false =>
      cases h9 : (((i : Nat) : Int) == 9) with
      | true =>
        refine AW.seq ?_; refine AW.region (by kernel_rfl) ?_; refine RunL.val (by exact rfl) (loc_moveC rfl) ?_; refine RunL.val (by exact rfl) (loc_binInt rfl rfl rfl) ?_; refine RunL.val (by exact rfl) (loc_moveC rfl) ?_; refine RunL.val (by exact .inl ⟨_, _, rfl, rfl, guard_eq false (by assumption) rfl⟩) (loc_moveC rfl) ?_; refine RunL.val (by exact .inl ⟨_, _, rfl, rfl, guard_eq false (by assumption) rfl⟩) (loc_binInt rfl rfl rfl) ?_; refine RunL.val (by exact rfl) (loc_pickI false (by assumption) rfl rfl) ?_; refine RunL.nil ?_; refine AW.condTa (by exact rfl) (by assumption) ?_; refine AW.region (by kernel_rfl) ?_; refine RunL.val (by exact rfl) (loc_moveC rfl) ?_
        refine RunL.many (by exact rfl) (loc_funE (hk1) rfl (by refine ⟨_, _, rfl, (by exact LeU.of_eq rfl trivial), (by exact Exists.intro _ rfl), ?_⟩; refine ⟨_, _, rfl, (by exact LeU.of_eq rfl trivial), (by exact trivial), ?_⟩; exact rfl) (by exact ⟨rfl, trivial⟩) (by exact rfl) (by simp [namesL]) (by exact ⟨⟨trivial, trivial, trivial⟩, trivial⟩)) ?_
        refine RunL.val (by exact rfl) (loc_fieldAddr rfl) ?_; refine RunL.eff (by exact rfl) (loc_store (by exact rfl) (by exact rfl) (by exact rfl) (by exact rfl) (by exact rfl) (by exact Nat.le_of_ble_eq_true rfl) (by exact rfl)) ?_; refine RunL.nil ?_
        exact ⟨_, _, (gh_lit [(0, .one (.ptr 1000 0)), (1, .one (.int .i64 ((n + 1 : Nat) : Int))), (4, .one (.ptr 4 0)), (7, .one (.int .i64 ((i : Nat) : Int))), (9, .one (.ptr 9 0))] [(1000, .obj (Rd.c (readK 4 r.next.2.next.2).2)), (4, .obj [.int .i64 0, .int .i64 0, .int .i64 0, .nilsl, .int .i64 0, .nilsl, .nilsl]), (9, .obj [.int .i64 ((i : Nat) : Int), .int .i64 0, .int .i64 (Ty.k ((readK 4 r.next.2.next.2).1)), slOf 2 (tyRows (Ty.l ((readK 4 r.next.2.next.2).1))), .int .i64 0, .nilsl, .nilsl])] [] [] ⟨(WkU.of_eq rfl trivial), (WkU.of_eq rfl trivial), (WkU.of_eq rfl trivial), (WkU.of_eq rfl trivial), (WkU.of_eq rfl trivial), trivial⟩ ⟨(by exact Or.inl ⟨_, rfl, WkBlk.refl _⟩), (by exact Or.inl ⟨_, rfl, WkBlk.refl _⟩), (by exact Or.inl ⟨_, rfl, WkBlk.refl _⟩), trivial⟩ trivial trivial rfl rfl ⟨⟨_, rfl⟩, trivial, ⟨_, rfl⟩, trivial, ⟨_, rfl⟩, trivial⟩ ⟨(by refine And.intro ?_ ?_; exact trivial; refine And.intro ?_ ?_; exact trivial; exact trivial), (by refine And.intro ?_ ?_; exact trivial; refine And.intro ?_ ?_; exact trivial; refine And.intro ?_ ?_; exact trivial; refine And.intro ?_ ?_; exact trivial; refine And.intro ?_ ?_; exact trivial; refine And.intro ?_ ?_; exact trivial; refine And.intro ?_ ?_; exact trivial; exact trivial), (by refine And.intro ?_ ?_; exact trivial; refine And.intro ?_ ?_; exact trivial; refine And.intro ?_ ?_; exact trivial; refine And.intro ?_ ?_; exact trivial; refine And.intro ?_ ?_; exact trivial; refine And.intro ?_ ?_; exact trivial; refine And.intro ?_ ?_; exact trivial; exact trivial), trivial⟩), (readK 4 r.next.2.next.2).1, (readK 4 r.next.2.next.2).2, rfl, rfl, rfl⟩
      | false =>
        refine AW.seq ?_; refine AW.region (by kernel_rfl) ?_; refine RunL.val (by exact rfl) (loc_moveC rfl) ?_; refine RunL.val (by exact rfl) (loc_binInt rfl rfl rfl) ?_; refine RunL.val (by exact rfl) (loc_moveC rfl) ?_; refine RunL.val (by exact .inl ⟨_, _, rfl, rfl, guard_eq false (by assumption) rfl⟩) (loc_moveC rfl) ?_; refine RunL.val (by exact .inl ⟨_, _, rfl, rfl, guard_eq false (by assumption) rfl⟩) (loc_binInt rfl rfl rfl) ?_; refine RunL.val (by exact rfl) (loc_pickI false (by assumption) rfl rfl) ?_; refine RunL.nil ?_; refine AW.condFa (by exact rfl) (by assumption) ?_; refine AW.skip ?_
        exact ⟨_, _, (gh_lit [(0, .one (.ptr 1000 0)), (1, .one (.int .i64 ((n + 1 : Nat) : Int))), (4, .one (.ptr 4 0)), (7, .one (.int .i64 ((i : Nat) : Int))), (9, .one (.ptr 9 0))] [(1000, .obj (Rd.c r.next.2.next.2)), (4, .obj [.int .i64 0, .int .i64 0, .int .i64 0, .nilsl, .int .i64 0, .nilsl, .nilsl]), (9, .obj [.int .i64 ((i : Nat) : Int), .int .i64 0, .int .i64 (Ty.k (.any)), slOf 2 (tyRows (Ty.l (.any))), .int .i64 0, .nilsl, .nilsl])] [] [] ⟨(WkU.of_eq rfl trivial), (WkU.of_eq rfl trivial), (WkU.of_eq rfl trivial), (WkU.of_eq rfl trivial), (WkU.of_eq rfl trivial), trivial⟩ ⟨(by exact Or.inl ⟨_, rfl, WkBlk.refl _⟩), (by exact Or.inl ⟨_, rfl, WkBlk.refl _⟩), (by (refine Or.inl ⟨_, rfl, ?_⟩; show All2 _ _ _; refine And.intro ?_ ?_; exact WkC.le (LeC.refl _); refine And.intro ?_ ?_; exact WkC.le (LeC.refl _); refine And.intro ?_ ?_; exact WkC.le (LeC.refl _); refine And.intro ?_ ?_; exact WkC.le (LeC.nil _); refine And.intro ?_ ?_; exact WkC.le (LeC.refl _); refine And.intro ?_ ?_; exact WkC.le (LeC.refl _); refine And.intro ?_ ?_; exact WkC.le (LeC.refl _); exact trivial)), trivial⟩ trivial trivial rfl rfl ⟨⟨_, rfl⟩, trivial, ⟨_, rfl⟩, trivial, ⟨_, rfl⟩, trivial⟩ ⟨(by refine And.intro ?_ ?_; exact trivial; refine And.intro ?_ ?_; exact trivial; exact trivial), (by refine And.intro ?_ ?_; exact trivial; refine And.intro ?_ ?_; exact trivial; refine And.intro ?_ ?_; exact trivial; refine And.intro ?_ ?_; exact trivial; refine And.intro ?_ ?_; exact trivial; refine And.intro ?_ ?_; exact trivial; refine And.intro ?_ ?_; exact trivial; exact trivial), (by refine And.intro ?_ ?_; exact trivial; refine And.intro ?_ ?_; exact trivial; refine And.intro ?_ ?_; exact trivial; refine And.intro ?_ ?_; exact trivial; refine And.intro ?_ ?_; exact trivial; refine And.intro ?_ ?_; exact trivial; refine And.intro ?_ ?_; exact trivial; exact trivial), trivial⟩), .any, r.next.2.next.2, rfl, rfl, rfl⟩
    · rintro t h ⟨ty, rd, htr, rfl, rfl⟩
      have hrb : readB (readT n) i r.next.2.next.2 = (.mk i 0 ty .any (readN (readT n) (arity i).toNat rd).1, (readN (readT n) (arity i).toNat rd).2.close) := by
        unfold readB; rw [← htr]
      have hrd : RdOk rd := by
        have : RdOk (ty, rd).2 := by
          rw [htr]
          split
          · exact readK_okR 4 _ hr2
          · exact hr2
        exact this
      obtain ⟨ar, har, ha3⟩ := arity_le hi4
      have har2 : (arity i).toNat = ar := by omega
      rw [hrb, har2]
      have hag := arity_get hi4
      rw [har] at hag
      refine AW.seq ?_; refine AW.seq ?_; refine AW.region (by kernel_rfl) ?_; refine RunL.val (by exact rfl) (loc_moveC rfl) ?_; refine RunL.val (by exact rfl) (loc_indexArrI rfl rfl (by omega) (by omega)) ?_; refine RunL.val (by exact rfl) (loc_loadF rfl (by assumption)) ?_; refine RunL.val (by exact rfl) (loc_moveC rfl) ?_; refine RunL.nil ?_; refine AW.block ?_
      refine AW.gh (gh_lit [(0, .one (.ptr 1000 0)), (1, .one (.int .i64 ((n + 1 : Nat) : Int))), (4, .one (.ptr 4 0)), (9, .one (.ptr 9 0)), (79, .one (.int .i64 ((ar : Nat) : Int))), (80, .one (.int .i64 ((0 : Nat) : Int)))] [(1000, .obj (Rd.c (readN (readT n) (0) rd).2)), (4, .obj [.int .i64 0, .int .i64 0, .int .i64 0, .nilsl, .int .i64 0, .nilsl, .nilsl]), (9, .obj [.int .i64 ((i : Nat) : Int), .int .i64 0, .int .i64 (Ty.k (ty)), slOf 2 (tyRows (Ty.l (ty))), .int .i64 0, .nilsl, .own 89 (0) (0)]), (89, .row 27 7 (0) (tmRows (readN (readT n) (0) rd).1))] [] [89] ⟨(WkU.of_eq rfl trivial), (WkU.of_eq rfl trivial), (WkU.of_eq rfl trivial), (WkU.of_eq rfl trivial), (WkU.of_eq rfl trivial), (WkU.of_eq rfl trivial), trivial⟩ ⟨(by exact Or.inl ⟨_, rfl, WkBlk.refl _⟩), (by exact Or.inl ⟨_, rfl, WkBlk.refl _⟩), (by (refine Or.inl ⟨_, rfl, ?_⟩; show All2 _ _ _; refine And.intro ?_ ?_; exact WkC.le (LeC.refl _); refine And.intro ?_ ?_; exact WkC.le (LeC.refl _); refine And.intro ?_ ?_; exact WkC.le (LeC.refl _); refine And.intro ?_ ?_; exact WkC.le (LeC.refl _); refine And.intro ?_ ?_; exact WkC.le (LeC.refl _); refine And.intro ?_ ?_; exact WkC.le (LeC.refl _); refine And.intro ?_ ?_; exact WkC.nil (List.mem_cons_self ..); exact trivial)), (by exact Or.inr ⟨rfl, List.mem_cons_self .., _, _, by decide, rfl⟩), trivial⟩ trivial ⟨rfl, trivial⟩ rfl rfl ⟨⟨_, rfl⟩, trivial, ⟨_, rfl⟩, ⟨_, rfl⟩, trivial, trivial, trivial⟩ ⟨(by refine And.intro ?_ ?_; exact trivial; refine And.intro ?_ ?_; exact trivial; exact trivial), (by refine And.intro ?_ ?_; exact trivial; refine And.intro ?_ ?_; exact trivial; refine And.intro ?_ ?_; exact trivial; refine And.intro ?_ ?_; exact trivial; refine And.intro ?_ ?_; exact trivial; refine And.intro ?_ ?_; exact trivial; refine And.intro ?_ ?_; exact trivial; exact trivial), (by refine And.intro ?_ ?_; exact trivial; refine And.intro ?_ ?_; exact trivial; refine And.intro ?_ ?_; exact trivial; refine And.intro ?_ ?_; exact trivial; refine And.intro ?_ ?_; exact trivial; refine And.intro ?_ ?_; exact trivial; refine And.intro ?_ ?_; exact ⟨_, _, _, _, rfl, Nat.le_refl _⟩; exact trivial), (okRows_closed (by exact rfl)), trivial⟩) ?_
      refine AW.loop (fun m t h => ∃ j : Nat, j ≤ ar ∧ m = ar - j ∧ t = tOfL [(0, .one (.ptr 1000 0)), (1, .one (.int .i64 ((n + 1 : Nat) : Int))), (4, .one (.ptr 4 0)), (9, .one (.ptr 9 0)), (79, .one (.int .i64 ((ar : Nat) : Int))), (80, .one (.int .i64 ((j : Nat) : Int)))] ∧ h = ofL [(1000, .obj (Rd.c (readN (readT n) (j) rd).2)), (4, .obj [.int .i64 0, .int .i64 0, .int .i64 0, .nilsl, .int .i64 0, .nilsl, .nilsl]), (9, .obj [.int .i64 ((i : Nat) : Int), .int .i64 0, .int .i64 (Ty.k (ty)), slOf 2 (tyRows (Ty.l (ty))), .int .i64 0, .nilsl, .own 89 (j) (j)]), (89, .row 27 7 (j) (tmRows (readN (readT n) (j) rd).1))]) ar ⟨0, Nat.zero_le _, rfl, rfl, rfl⟩ ?_
      rintro m t h ⟨j, hj, rfl, rfl, rfl⟩
      have htk : (tmRows (readN (readT n) j rd).1).length = j := by rw [tmRows_length, (readN_ok (readT_ok n) j rd).2.1]
      cases hlt2 : decide ((j : Int) < ((ar : Nat) : Int)) with
      | false =>
        have hja : j = ar := by have := of_decide_eq_false hlt2; omega
        subst hja
        refine AW.seq ?_; refine AW.region (by kernel_rfl) ?_; refine RunL.val (by exact rfl) (loc_binInt rfl rfl rfl) ?_; refine RunL.nil ?_; refine AW.seq ?_; refine AW.condFa (by exact rfl) (by assumption) ?_; refine AW.exit ?_; refine AW.seq ?_; refine AW.region (by kernel_rfl) ?_; refine RunL.val (by exact rfl) (loc_moveC rfl) ?_; refine RunL.val (by exact rfl) (loc_moveC rfl) ?_
        refine RunL.many (by exact rfl) (loc_funE (next_a ((readN (readT n) j rd).2)) rfl (by refine ⟨_, _, rfl, (by exact LeU.of_eq rfl trivial), (by exact Exists.intro _ rfl), ?_⟩; exact rfl) (by exact ⟨rfl, trivial⟩) (by exact rfl) (by simp [namesL]) (by exact ⟨⟨trivial, trivial, trivial⟩, trivial⟩)) ?_
        skip
        refine RunL.val (by exact rfl) (loc_neStr (b := sRp) (by exact rfl) (by exact rfl)) ?_
        cases hc : sEq (readN (readT n) j rd).2.next.1 sRp with
        | false =>
          refine RunL.val (by exact rfl) (loc_moveC rfl) ?_; refine RunL.skip (.inl ⟨_, _, rfl, rfl, rfl⟩) ?_; refine RunL.skip (.inl ⟨_, _, rfl, rfl, rfl⟩) ?_; refine RunL.skip (.inl ⟨_, _, rfl, rfl, rfl⟩) ?_; refine RunL.skip (.inl ⟨_, _, rfl, rfl, rfl⟩) ?_; refine RunL.val (by exact rfl) (loc_pickT rfl rfl) ?_; refine RunL.val (by exact rfl) (loc_nilCheck rfl rfl) ?_; refine RunL.val (by exact rfl) (loc_fieldAddr rfl) ?_; refine RunL.eff (by exact rfl) (loc_store (by exact rfl) (by exact rfl) (by exact rfl) (by exact rfl) (by exact rfl) (by exact Nat.le_of_ble_eq_true rfl) (by exact rfl)) ?_; refine RunL.nil ?_; refine AW.seq ?_; refine AW.region (by kernel_rfl) ?_; refine RunL.val (by exact rfl) (loc_loadA rfl rfl (by exact Cut.all (by exact rfl))) ?_; refine RunL.eff (by exact rfl) (loc_storeW rfl rfl rfl rfl (by exact rfl) (by exact rfl)) ?_; refine RunL.nil ?_; refine AW.ret ?_
          refine rq ?_
          exact ret_tm (fz := [89]) (by exact .inr rfl) (by exact rfl) (by exact rfl) (by exact ⟨⟨_, rfl, closed_tmRows _⟩, trivial⟩) rfl (by exact ⟨.le (.refl _), .le (.refl _), .le (.refl _), .le (.refl _), .le (.refl _), .le (.nil _), .row (List.mem_cons_self ..) rfl htk (LeRows.refl _), trivial⟩) (by exact rfl) (by unfold Rd.close; rw [hc]; exact wkRow_refl _)
        | true =>
          refine RunL.val (by exact rfl) (loc_moveC rfl) ?_; refine RunL.val (by exact .inl ⟨_, _, rfl, rfl, rfl⟩) (loc_moveC rfl) ?_; refine RunL.val (by exact .inl ⟨_, _, rfl, rfl, rfl⟩) (loc_nilCheck rfl rfl) ?_; refine RunL.val (by exact .inl ⟨_, _, rfl, rfl, rfl⟩) (loc_fieldAddr rfl) ?_; refine RunL.val (by exact .inl ⟨_, _, rfl, rfl, rfl⟩) (loc_load rfl rfl rfl) ?_; refine RunL.val (by exact rfl) (loc_pickF rfl rfl) ?_; refine RunL.val (by exact rfl) (loc_nilCheck rfl rfl) ?_; refine RunL.val (by exact rfl) (loc_fieldAddr rfl) ?_; refine RunL.eff (by exact rfl) (loc_store (by exact rfl) (by exact rfl) (by exact rfl) (by exact rfl) (by exact rfl) (by exact Nat.le_of_ble_eq_true rfl) (by exact rfl)) ?_; refine RunL.nil ?_; refine AW.seq ?_; refine AW.region (by kernel_rfl) ?_; refine RunL.val (by exact rfl) (loc_loadA rfl rfl (by exact Cut.all (by exact rfl))) ?_; refine RunL.eff (by exact rfl) (loc_storeW rfl rfl rfl rfl (by exact rfl) (by exact rfl)) ?_; refine RunL.nil ?_; refine AW.ret ?_
          refine rq ?_
          exact ret_tm (fz := [89]) (by exact .inr rfl) (by exact rfl) (by exact rfl) (by exact ⟨⟨_, rfl, closed_tmRows _⟩, trivial⟩) rfl (by exact ⟨.le (.refl _), .le (.refl _), .le (.refl _), .le (.refl _), .le (.refl _), .le (.nil _), .row (List.mem_cons_self ..) rfl htk (LeRows.refl _), trivial⟩) (by exact rfl) (by unfold Rd.close; rw [hc]; exact wkRow_refl _)
      | true =>
        have hja : j < ar := by have := of_decide_eq_true hlt2; omega
        have hsn := readN_snoc (readT n) j rd
        refine AW.seq ?_; refine AW.region (by kernel_rfl) ?_; refine RunL.val (by exact rfl) (loc_binInt rfl rfl rfl) ?_; refine RunL.nil ?_; refine AW.seq ?_; refine AW.condTa (by exact rfl) (by assumption) ?_; refine AW.skip ?_; refine AW.seq ?_; refine AW.block ?_; refine AW.regionD (by kernel_rfl) (by kernel_rfl) (by kernel_rfl) ?_; refine RunL.val (by exact rfl) (loc_fieldAddr rfl) ?_; refine RunL.val (by exact rfl) (loc_load rfl rfl rfl) ?_; refine RunL.val (by exact rfl) (loc_moveC rfl) ?_; refine RunL.val (by exact rfl) (loc_moveC rfl) ?_; refine RunL.val (by exact rfl) (loc_subB rfl rfl (by omega)) ?_
        refine RunL.many (by exact rfl) (loc_funE (ih2 (readN (readT n) j rd).2 (readN_okR (readT_okR n) j rd hrd)) rfl (by refine ⟨_, _, rfl, (by exact LeU.of_eq rfl trivial), (by exact Exists.intro _ rfl), ?_⟩; refine ⟨_, _, rfl, (by exact LeU.of_eq rfl trivial), (by exact trivial), ?_⟩; exact rfl) (by exact ⟨rfl, trivial⟩) (by exact rfl) (by simp [namesL]) (by exact ⟨⟨trivial, trivial, trivial⟩, trivial⟩)) ?_
        refine RunL.val (by exact rfl) (loc_sliceLit (by exact rfl) (by exact rfl) (by decide) (by decide) (by exact RowsOf.cons (by exact rfl) RowsOf.nil) (by exact AllP.cons (by exact rfl) AllP.nil) (by exact rfl)) ?_
        refine RunL.mem (by exact rfl) (loc_appendAll (by exact rfl) (by exact rfl) (by exact rfl) (by exact .inl rfl) (by exact htk) (by exact ⟨rfl, trivial⟩) (by simp only [List.length_cons, List.length_nil]; omega) (by decide)) ?_
        have hrows : tmRows (readN (readT n) j rd).1 ++ [(readT n (readN (readT n) j rd).2).1.c] = tmRows (readN (readT n) (j + 1) rd).1 := by
          rw [hsn, tmRows_append]; simp [tmRows, Tm.cells_c]
        have he : (readT n (readN (readT n) j rd).2).2 = (readN (readT n) (j + 1) rd).2 := by rw [hsn]
        rw [hrows, he]
        refine RunL.val (by exact rfl) (loc_fieldAddr rfl) ?_; refine RunL.eff (by exact rfl) (loc_store (by exact rfl) (by exact rfl) (by exact rfl) (by exact rfl) (by exact rfl) (by exact Nat.le_of_ble_eq_true rfl) (by exact rfl)) ?_; refine RunL.nilD (by kernel_rfl) ?_; refine AW.region (by kernel_rfl) ?_; refine RunL.val (by exact rfl) (loc_inc rfl rfl (by omega)) ?_; refine RunL.val (by exact rfl) (loc_moveC rfl) ?_; refine RunL.nil ?_
        exact ⟨ar - (j + 1), _, _, by omega, (gh_lit [(0, .one (.ptr 1000 0)), (1, .one (.int .i64 ((n + 1 : Nat) : Int))), (4, .one (.ptr 4 0)), (9, .one (.ptr 9 0)), (79, .one (.int .i64 ((ar : Nat) : Int))), (80, .one (.int .i64 (((j + 1) : Nat) : Int)))] [(1000, .obj (Rd.c (readN (readT n) ((j + 1)) rd).2)), (4, .obj [.int .i64 0, .int .i64 0, .int .i64 0, .nilsl, .int .i64 0, .nilsl, .nilsl]), (9, .obj [.int .i64 ((i : Nat) : Int), .int .i64 0, .int .i64 (Ty.k (ty)), slOf 2 (tyRows (Ty.l (ty))), .int .i64 0, .nilsl, .own 89 ((j + 1)) ((j + 1))]), (89, .row 27 7 ((j + 1)) (tmRows (readN (readT n) ((j + 1)) rd).1))] [] [] ⟨(WkU.of_eq rfl trivial), (WkU.of_eq rfl trivial), (WkU.of_eq rfl trivial), (WkU.of_eq rfl trivial), (WkU.of_eq rfl trivial), (WkU.of_eq rfl trivial), trivial⟩ ⟨(by exact Or.inl ⟨_, rfl, WkBlk.refl _⟩), (by exact Or.inl ⟨_, rfl, WkBlk.refl _⟩), (by exact Or.inl ⟨_, rfl, WkBlk.refl _⟩), (by exact Or.inl ⟨_, rfl, WkBlk.refl _⟩), trivial⟩ trivial trivial rfl rfl ⟨⟨_, rfl⟩, trivial, ⟨_, rfl⟩, ⟨_, rfl⟩, trivial, trivial, trivial⟩ ⟨(by refine And.intro ?_ ?_; exact trivial; refine And.intro ?_ ?_; exact trivial; exact trivial), (by refine And.intro ?_ ?_; exact trivial; refine And.intro ?_ ?_; exact trivial; refine And.intro ?_ ?_; exact trivial; refine And.intro ?_ ?_; exact trivial; refine And.intro ?_ ?_; exact trivial; refine And.intro ?_ ?_; exact trivial; refine And.intro ?_ ?_; exact trivial; exact trivial), (by refine And.intro ?_ ?_; exact trivial; refine And.intro ?_ ?_; exact trivial; refine And.intro ?_ ?_; exact trivial; refine And.intro ?_ ?_; exact trivial; refine And.intro ?_ ?_; exact trivial; refine And.intro ?_ ?_; exact trivial; refine And.intro ?_ ?_; exact ⟨_, _, _, _, rfl, Nat.le_refl _⟩; exact trivial), (okRows_closed (by exact closed_tmRows _)), trivial⟩), j + 1, by omega, rfl, rfl, rfl⟩
end Go.Proofs.YtnflnbdlgdjfmabDoor
namespace Go.Proofs.YtnflnbdlgdjfmabDoor
open Go.RowKit
set_option linter.unusedVariables false
set_option linter.unusedSimpArgs false
set_option maxRecDepth 100000
attribute [local irreducible] RunL AW LocOp ACalls Gh
instance : TArr Tryd.prog 69 10 1 := ⟨by kernel_rfl⟩
instance : TArr Tryd.prog 95 4 1 := ⟨by kernel_rfl⟩
theorem mkB_size (l : List UInt8) : (mkB l).size = l.length := by simp [mkB, ByteArray.size]
theorem mkB_app (a b : List UInt8) : mkB a ++ mkB b = mkB (a ++ b) := by
  apply ByteArray.ext
  simp [mkB]
theorem kTxt_len {k : Int} (h : k = 0 ∨ k = 1 ∨ k = 2 ∨ k = 3) : (kTxt k).length ≤ 5 := by rcases h with rfl | rfl | rfl | rfl <;> decide
theorem wTxt_len {k : Int} (h : k = 4 ∨ k = 5 ∨ k = 6 ∨ k = 7 ∨ k = 8 ∨ k = 9) : (wTxt k).length ≤ 4 := by rcases h with rfl | rfl | rfl | rfl | rfl | rfl <;> decide
theorem tyTxt_len : ∀ (d : Nat) (a : Ty), a.good d = true → (tyTxt a).length + 10 ≤ 20 * 2 ^ d
  | 0, a, h => by simp [Ty.good] at h
  | d + 1, .mk k l, h => by
    have hp : 1 ≤ 2 ^ d := Nat.one_le_two_pow
    have h1 := good_right h
    cases h1 with
    | base hk =>
      have h3 : (k == 3) = false := by rw [beq_eq_false_iff_ne]; omega
      have := kTxt_len (k := k) (by omega)
      simp only [tyTxt, tyTxtL, h3, List.append_nil, Bool.false_eq_true, if_false, Nat.pow_succ]
      omega
    | @fn x y hx hy =>
      simp only [Ty.good, bne_self_eq_false, Bool.false_eq_true, if_false, Bool.and_eq_true] at h
      have i1 := tyTxt_len d x h.2.1
      have i2 := tyTxt_len d y h.2.2
      have := kTxt_len (k := 3) (by simp)
      simp only [tyTxt, tyTxtL, beq_self_eq_true, if_true, List.length_cons, List.length_append, List.length_nil, Nat.pow_succ]
      omega
theorem tyTxtL_take {l : List Ty} {i : Nat} (h : i < l.length) : tyTxtL (l.take (i + 1)) = tyTxtL (l.take i) ++ (32 :: tyTxt l[i]) := by
  have hap : ∀ a b : List Ty, tyTxtL (a ++ b) = tyTxtL a ++ tyTxtL b := by
    intro a b
    induction a with
    | nil => simp [tyTxtL]
    | cons x a ih => simp [tyTxtL, ih]
  rw [List.take_add_one, List.getElem?_eq_getElem h, Option.toList_some, hap]
  simp [tyTxtL]
theorem tmTxtL_take {l : List Tm} {i : Nat} (h : i < l.length) : tmTxtL (l.take (i + 1)) = tmTxtL (l.take i) ++ (32 :: tmTxt l[i]) := by
  have hap : ∀ a b : List Tm, tmTxtL (a ++ b) = tmTxtL a ++ tmTxtL b := by
    intro a b
    induction a with
    | nil => simp [tmTxtL]
    | cons x a ih => simp [tmTxtL, ih]
  rw [List.take_add_one, List.getElem?_eq_getElem h, Option.toList_some, hap]
  simp [tmTxtL]
theorem tyTxtL_le {d : Nat} {l : List Ty} (h : ∀ x ∈ l, x.good d = true) (hd : d ≤ 4) : ∀ {i : Nat}, i ≤ l.length → (tyTxtL (l.take i)).length ≤ i * 400
  | 0, _ => by simp [tyTxtL]
  | i + 1, hi => by
    have hil : i < l.length := by omega
    have h1 := tyTxtL_le h hd (i := i) (by omega)
    have h2 := tyTxt_len d l[i] (h _ (List.getElem_mem hil))
    have hpow : 2 ^ d ≤ 2 ^ 4 := Nat.pow_le_pow_right (by decide) hd
    rw [tyTxtL_take hil, List.length_append, List.length_cons]
    omega
theorem kinds_txt {k : Int} (h0 : 0 ≤ k) (h3 : k ≤ 3) : kindsC[k.toNat * 1]? = some (.str (mkB (kTxt k))) := by
  have : k = 0 ∨ k = 1 ∨ k = 2 ∨ k = 3 := by omega
  rcases this with rfl | rfl | rfl | rfl <;> rfl
theorem words_txt {k : Int} (h0 : 4 ≤ k) (h3 : k ≤ 9) : wordsC[k.toNat * 1]? = some (.str (mkB (wTxt k))) := by
  have : k = 4 ∨ k = 5 ∨ k = 6 ∨ k = 7 ∨ k = 8 ∨ k = 9 := by omega
  rcases this with rfl | rfl | rfl | rfl | rfl | rfl <;> rfl
theorem tmTxtL_le (l : List Tm) (i : Nat) : (tmTxtL (l.take i)).length ≤ (tmTxtL l).length := by
  have hap : ∀ a b : List Tm, tmTxtL (a ++ b) = tmTxtL a ++ tmTxtL b := by
    intro a b
    induction a with
    | nil => simp [tmTxtL]
    | cons x a ih => simp [tmTxtL, ih]
  have := congrArg List.length (hap (l.take i) (l.drop i))
  rw [List.take_append_drop, List.length_append] at this
  omega
theorem dec_len (u : Nat) : (Lib.decDigits u).length ≤ u + 1 := by
  induction u using Nat.strongRecOn with
  | _ u ih =>
    rw [Lib.decDigits]
    split
    · simp
    · have := ih (u / 10) (by omega)
      simp only [List.length_append, List.length_cons, List.length_nil]
      omega
theorem itoa_len {n : Int} (h : -1000000 ≤ n ∧ n ≤ 1000000) : (Lib.itoa n).length ≤ 1000002 := by
  unfold Lib.itoa
  split
  · have := dec_len n.natAbs; simp only [List.length_cons]; omega
  · have := dec_len n.toNat; omega
theorem tmTxt_len : ∀ (a : Tm) (ar ow : Int), a.good ar ow = true → ar + ow + a.nodes ≤ 1000000 → (tmTxt a).length ≤ a.nodes * 2000000 := by
  intro a
  induction a using Tm.ind' with
  | h a ih =>
  intro ar ow hg hb
  have hne := nodes_eta a
  rw [tmTxt_eta, hne]
  rcases good_cases hg with ⟨e, el, n0, n1, _⟩ | ⟨e, el, en, _⟩ | ⟨e, el, en, _⟩ | ⟨e, _, _, x, y, el, h1, h2⟩ | ⟨e, _, _, x, y, z, el, h1, h2, h3⟩ | ⟨e, _, ht, x, el, h1⟩ | ⟨e, _, ht, x, el, h1⟩
  · have := itoa_len (n := a.n) (by omega)
    rw [if_pos (by simpa using e)]; simp only [List.length_cons]; omega
  · have := itoa_len (n := a.n) (inB_iff.1 en)
    rw [if_neg (by simp [e]), if_pos (by simpa using e)]; omega
  · rw [if_neg (by simp [e]), if_neg (by simp [e]), if_pos (by simpa using e)]
    have h1 : sYes.data.toList.length = 3 := rfl
    have h2 : sNo.data.toList.length = 2 := rfl
    split <;> omega
  · have := wTxt_len (k := a.k) (by omega)
    have i1 := ih x (by rw [el]; simp) _ _ h1 (by rw [el] at hne; simp only [nodesL] at hne; omega)
    have i2 := ih y (by rw [el]; simp) _ _ h2 (by rw [el] at hne; simp only [nodesL] at hne; omega)
    rw [if_neg (by simp; omega), if_neg (by simp; omega), if_neg (by simp; omega), if_neg (by simp; omega), el]
    simp only [tmTxtL, nodesL, List.length_cons, List.length_append, List.length_nil, List.nil_append]
    omega
  · have := wTxt_len (k := a.k) (by omega)
    have i1 := ih x (by rw [el]; simp) _ _ h1 (by rw [el] at hne; simp only [nodesL] at hne; omega)
    have i2 := ih y (by rw [el]; simp) _ _ h2 (by rw [el] at hne; simp only [nodesL] at hne; omega)
    have i3 := ih z (by rw [el]; simp) _ _ h3 (by rw [el] at hne; simp only [nodesL] at hne; omega)
    rw [if_neg (by simp; omega), if_neg (by simp; omega), if_neg (by simp; omega), if_neg (by simp; omega), el]
    simp only [tmTxtL, nodesL, List.length_cons, List.length_append, List.length_nil, List.nil_append]
    omega
  · have := wTxt_len (k := a.k) (by omega)
    have hty := tyTxt_len 4 a.t ht
    have i1 := ih x (by rw [el]; simp) _ _ h1 (by rw [el] at hne; simp only [nodesL] at hne; omega)
    rw [if_neg (by simp; omega), if_neg (by simp; omega), if_neg (by simp; omega), if_pos (by simp; omega), el]
    simp only [tmTxtL, nodesL, List.length_cons, List.length_append, List.length_nil, List.nil_append]
    omega
  · have := wTxt_len (k := a.k) (by omega)
    have hty := tyTxt_len 4 a.t ht
    have i1 := ih x (by rw [el]; simp) _ _ h1 (by rw [el] at hne; simp only [nodesL] at hne; omega)
    rw [if_neg (by simp; omega), if_neg (by simp; omega), if_neg (by simp; omega), if_pos (by simp; omega), el]
    simp only [tmTxtL, nodesL, List.length_cons, List.length_append, List.length_nil, List.nil_append]
    omega
set_option maxHeartbeats 4000000 in
theorem typed_a : ∀ (d : Nat), d ≤ 5 → ∀ (a : Ty), a.good d = true → ACalls Tryd.prog 45 [a.u] [] (.one (.str (mkB (tyTxt a)))) [] := by
  intro d
  induction d with
  | zero => intro _ a h; simp [Ty.good] at h
  | succ d ih =>
  intro hd a hg
  have hr := good_right hg
  have hk : 0 ≤ a.k ∧ a.k ≤ 3 := by cases hr with | base h => simp; omega | fn _ _ => simp
  have hpow : 2 ^ d ≤ 2 ^ 4 := Nat.pow_le_pow_right (by decide) (by omega)
  have hparts : ∀ x ∈ a.l, x.good d = true := by
    cases hr with
    | base h => intro x hx; cases hx
    | @fn x y hx hy =>
      simp only [Ty.good, bne_self_eq_false, Bool.false_eq_true, if_false, Bool.and_eq_true] at hg
      intro z hz
      simp at hz
      rcases hz with rfl | rfl
      · exact hg.2.1
      · exact hg.2.2
  have hlen : a.l.length ≤ 2 := hr.len
  have hL := tyRows_length a.l
  have k0 : decide (a.k < 0) = false := by simp; omega
  have k3 : decide (a.k > 3) = false := by simp; omega
  have hkk := kinds_txt hk.1 hk.2
  refine acalls_of_body Tryd.func45 rfl (by kernel_rfl) (Nat.le_of_ble_eq_true rfl) trivial (by simp [namesL]) ?_
  refine AW.seq ?_; refine AW.region (by kernel_rfl) ?_; refine RunL.mem (by exact rfl) (loc_boxD rfl rfl rfl) ?_; refine RunL.val (by exact rfl) (loc_assignC rfl) ?_; refine RunL.nil ?_; refine AW.seq ?_; refine AW.seq ?_; refine AW.region (by kernel_rfl) ?_; refine RunL.val (by exact rfl) (loc_fieldAddr rfl) ?_; refine RunL.val (by exact rfl) (loc_load rfl rfl rfl) ?_; refine RunL.val (by exact rfl) (loc_binInt rfl rfl rfl) ?_; refine RunL.val (by exact rfl) (loc_moveC rfl) ?_; refine RunL.val (by exact .inl ⟨_, _, rfl, rfl, guard_eq false (by assumption) rfl⟩) (loc_fieldAddr rfl) ?_; refine RunL.val (by exact .inl ⟨_, _, rfl, rfl, guard_eq false (by assumption) rfl⟩) (loc_load rfl rfl rfl) ?_; refine RunL.val (by exact .inl ⟨_, _, rfl, rfl, guard_eq false (by assumption) rfl⟩) (loc_binInt rfl rfl rfl) ?_; refine RunL.val (by exact rfl) (loc_pickI false (by assumption) rfl rfl) ?_; refine RunL.nil ?_; refine AW.condFa (by exact rfl) (by assumption) ?_; refine AW.skip ?_; refine AW.seq ?_; refine AW.region (by kernel_rfl) ?_; refine RunL.val (by exact rfl) (loc_fieldAddr rfl) ?_; refine RunL.val (by exact rfl) (loc_load rfl rfl rfl) ?_; refine RunL.val (by exact rfl) (loc_indexArrI rfl rfl (by omega) (by omega)) ?_; refine RunL.val (by exact rfl) (loc_loadF rfl (by assumption)) ?_; refine RunL.val (by exact rfl) (loc_assignC rfl) ?_; refine RunL.nil ?_; refine AW.seq ?_; refine AW.seq ?_; refine AW.region (by kernel_rfl) ?_; refine RunL.val (by exact rfl) (loc_fieldAddr rfl) ?_; refine RunL.val (by exact rfl) (loc_load rfl rfl rfl) ?_; refine RunL.val (by exact rfl) (loc_lenSl rfl) ?_; refine RunL.val (by exact rfl) (loc_moveC rfl) ?_; refine RunL.nil ?_; refine AW.block ?_
  refine AW.gh (gh_lit [(1, .one (.ptr 1 0)), (3, .one (.str (mkB (kTxt a.k)))), (19, .one (slOf 2 (tyRows a.l))), (20, .one (.int .i64 ((tyRows a.l).length : Nat))), (21, .one (.int .i64 ((0 : Nat) : Int)))] [(1, .obj a.c)] [] [] ⟨(WkU.of_eq rfl trivial), (by exact WkU.of_eq rfl trivial), (by exact WkU.of_eq rfl trivial), (WkU.of_eq rfl trivial), (WkU.of_eq rfl trivial), trivial⟩ ⟨(by exact Or.inl ⟨_, rfl, WkBlk.refl _⟩), trivial⟩ trivial trivial rfl rfl ⟨⟨_, rfl⟩, trivial, trivial, trivial, trivial, trivial⟩ ⟨(by refine And.intro ?_ ?_; exact trivial; refine And.intro ?_ ?_; exact trivial; exact trivial), trivial⟩) ?_
  refine AW.lenSl 19 rfl fun hmax => ?_
  refine AW.loop (fun m t h => ∃ i : Nat, i ≤ a.l.length ∧ m = a.l.length - i ∧ t = tOfL [(1, .one (.ptr 1 0)), (3, .one (.str (mkB (kTxt a.k ++ tyTxtL (a.l.take (i)))))), (19, .one (slOf 2 (tyRows a.l))), (20, .one (.int .i64 ((tyRows a.l).length : Nat))), (21, .one (.int .i64 ((i : Nat) : Int)))] ∧ h = ofL [(1, .obj a.c)]) a.l.length ⟨0, Nat.zero_le _, rfl, by simp [tyTxtL], rfl⟩ ?_
  rintro m t h ⟨i, hi, rfl, rfl, rfl⟩
  have hk5 := kTxt_len (k := a.k) (by omega)
  have hsz : (tyTxtL (a.l.take i)).length ≤ i * 400 := tyTxtL_le hparts (by omega) hi
  cases hlt : decide ((i : Int) < ((tyRows a.l).length : Nat)) with
  | false =>
    have hil : i = a.l.length := by simp at hlt; omega
    rw [show a.l.take i = a.l by rw [hil, List.take_length]]
    rw [show a.l.take i = a.l by rw [hil, List.take_length]] at hsz
    cases k3' : (a.k == 3) with
    | true =>
      refine AW.seq ?_; refine AW.region (by kernel_rfl) ?_; refine RunL.val (by exact rfl) (loc_binInt rfl rfl rfl) ?_; refine RunL.nil ?_; refine AW.seq ?_; refine AW.condFa (by exact rfl) (by assumption) ?_; refine AW.exit ?_; refine AW.seq ?_; refine AW.seq ?_; refine AW.region (by kernel_rfl) ?_; refine RunL.val (by exact rfl) (loc_fieldAddr rfl) ?_; refine RunL.val (by exact rfl) (loc_load rfl rfl rfl) ?_; refine RunL.val (by exact rfl) (loc_binInt rfl rfl rfl) ?_; refine RunL.nil ?_; refine AW.condTa (by exact rfl) (by assumption) ?_; refine AW.seq ?_; refine AW.region (by kernel_rfl) ?_; refine RunL.val (by exact rfl) (loc_moveC rfl) ?_
      refine RunL.val (by exact rfl) (loc_addStr (a := mkB [40]) (by exact rfl) (by exact rfl) (by simp only [mkB_size, List.length_cons, List.length_nil, List.length_append]; omega) (mkB_app _ _)) ?_
      refine RunL.val (by exact rfl) (loc_addStr (b := mkB [41]) (by exact rfl) (by exact rfl) (by simp only [mkB_size, List.length_cons, List.length_nil, List.length_append]; omega) (mkB_app _ _)) ?_
      refine RunL.val (by exact rfl) (loc_assignC rfl) ?_; refine RunL.nil ?_; refine AW.ret ?_
      rw [show tyTxt a = [40] ++ (kTxt a.k ++ tyTxtL a.l) ++ [41] by rw [tyTxt_eta, k3']; rfl]
      exact ret_same (.inr rfl) rfl trivial
    | false =>
      refine AW.seq ?_; refine AW.region (by kernel_rfl) ?_; refine RunL.val (by exact rfl) (loc_binInt rfl rfl rfl) ?_; refine RunL.nil ?_; refine AW.seq ?_; refine AW.condFa (by exact rfl) (by assumption) ?_; refine AW.exit ?_; refine AW.seq ?_; refine AW.seq ?_; refine AW.region (by kernel_rfl) ?_; refine RunL.val (by exact rfl) (loc_fieldAddr rfl) ?_; refine RunL.val (by exact rfl) (loc_load rfl rfl rfl) ?_; refine RunL.val (by exact rfl) (loc_binInt rfl rfl rfl) ?_; refine RunL.nil ?_; refine AW.condFa (by exact rfl) (by assumption) ?_; refine AW.skip ?_; refine AW.seq ?_; refine AW.region (by kernel_rfl) ?_; refine RunL.val (by exact rfl) (loc_moveC rfl) ?_; refine RunL.val (by exact rfl) (loc_assignC rfl) ?_; refine RunL.nil ?_; refine AW.ret ?_
      rw [show tyTxt a = kTxt a.k ++ tyTxtL a.l by rw [tyTxt_eta, k3']; rfl]
      exact ret_same (.inr rfl) rfl trivial
  | true =>
    have hil : i < a.l.length := by simp at hlt; omega
    have hr1 := tyRows_get hil
    have hmem : a.l[i] ∈ a.l := List.getElem_mem hil
    have hc := ih (by omega) a.l[i] (hparts _ hmem)
    have hl1 := tyTxt_len d a.l[i] (hparts _ hmem)
    refine AW.seq ?_; refine AW.region (by kernel_rfl) ?_; refine RunL.val (by exact rfl) (loc_binInt rfl rfl rfl) ?_; refine RunL.nil ?_; refine AW.seq ?_; refine AW.condTa (by exact rfl) (by assumption) ?_; refine AW.skip ?_; refine AW.seq ?_; refine AW.block ?_; refine AW.seq ?_; refine AW.region (by kernel_rfl) ?_; refine RunL.val (by exact rfl) (loc_indexSl _ rfl rfl rfl (by assumption) rfl) ?_; refine RunL.val (by exact rfl) (loc_loadFA rfl (by exact Cut.all (by exact rfl))) ?_; refine RunL.mem (by exact rfl) (loc_allocD rfl rfl) ?_; refine RunL.eff (by exact rfl) (loc_storeW rfl rfl rfl rfl (by exact rfl) (by exact rfl)) ?_; refine RunL.nil ?_; refine AW.region (by kernel_rfl) ?_; refine RunL.val (by exact rfl) (loc_moveC rfl) ?_; refine RunL.val (by exact rfl) (loc_loadA rfl rfl (by exact Cut.all (by exact rfl))) ?_
    refine RunL.val (by exact rfl) (loc_fun hc rfl (by refine ⟨_, _, rfl, (by exact LeU.of_eq rfl trivial), (by (refine And.intro ?_ ?_; exact trivial; refine And.intro ?_ ?_; exact trivial; exact trivial; done)), ?_⟩; exact rfl)) ?_
    refine RunL.val (by exact rfl) (loc_addStr (a := mkB [32]) (by exact rfl) (by exact rfl) (by simp only [mkB_size, List.length_cons, List.length_nil, List.length_append]; omega) (mkB_app _ _)) ?_
    refine RunL.val (by exact rfl) (loc_addStr (by exact rfl) (by exact rfl) (by simp only [mkB_size, List.length_cons, List.length_nil, List.length_append]; omega) (mkB_app _ _)) ?_
    rw [show kTxt a.k ++ tyTxtL (a.l.take i) ++ ([32] ++ tyTxt a.l[i]) = kTxt a.k ++ tyTxtL (a.l.take (i + 1)) by rw [tyTxtL_take hil, List.append_assoc]; rfl]
    refine RunL.val (by exact rfl) (loc_assignC rfl) ?_; refine RunL.nil ?_; refine AW.region (by kernel_rfl) ?_; refine RunL.val (by exact rfl) (loc_inc rfl rfl (by omega)) ?_; refine RunL.val (by exact rfl) (loc_moveC rfl) ?_; refine RunL.nil ?_
    exact ⟨a.l.length - (i + 1), _, _, by omega, (gh_lit [(1, .one (.ptr 1 0)), (3, .one (.str (mkB (kTxt a.k ++ tyTxtL (a.l.take (i + 1)))))), (19, .one (slOf 2 (tyRows a.l))), (20, .one (.int .i64 ((tyRows a.l).length : Nat))), (21, .one (.int .i64 (((i + 1) : Nat) : Int)))] [(1, .obj a.c)] [] [] ⟨(WkU.of_eq rfl trivial), (by exact WkU.of_eq rfl trivial), (by exact WkU.of_eq rfl trivial), (WkU.of_eq rfl trivial), (WkU.of_eq rfl trivial), trivial⟩ ⟨(by exact Or.inl ⟨_, rfl, WkBlk.refl _⟩), trivial⟩ trivial trivial rfl rfl ⟨⟨_, rfl⟩, trivial, trivial, trivial, trivial, trivial⟩ ⟨(by refine And.intro ?_ ?_; exact trivial; refine And.intro ?_ ?_; exact trivial; exact trivial), trivial⟩), i + 1, by omega, rfl, rfl, rfl⟩
/-- What stands ahead of the parts. -/
def headTxt (a : Tm) : List UInt8 := 40 :: (wTxt a.k ++ (if a.k == 7 || a.k == 9 then 32 :: tyTxt a.t else []))
theorem tmTxt_head {a : Tm} (h1 : (a.k == 1) = false) (h2 : (a.k == 2) = false) (h3 : (a.k == 3) = false) : tmTxt a = headTxt a ++ tmTxtL a.l ++ [41] := by
  rw [tmTxt_eta, h1, h2, h3]; simp [headTxt]
set_option maxHeartbeats 8000000 in
theorem show_a : ∀ (a : Tm) (ar ow : Int), a.good ar ow = true → 0 ≤ ar + ow → ar + ow + a.nodes ≤ 1000000 → ACalls Tryd.prog 27 [a.u] [] (.one (.str (mkB (tmTxt a)))) [] := by
  intro a
  induction a using Tm.ind' with
  | h a ih =>
  intro ar ow hg hb0 hb
  have hne := nodes_eta a
  have hL := tmRows_length a.l
  have hnn := nodesL_len a.l
  refine acalls_of_body Tryd.func27 rfl (by kernel_rfl) (Nat.le_of_ble_eq_true rfl) trivial (by simp [namesL]) ?_
  cases k1 : (a.k == 1) with
  | true =>
    have e : a.k = 1 := by simpa using k1
    have hn : -1000000 ≤ a.n ∧ a.n ≤ 1000000 := by
      rcases good_cases hg with ⟨_, _, n0, n1, _⟩ | ⟨e', _⟩ | ⟨e', _⟩ | ⟨e', _⟩ | ⟨e', _⟩ | ⟨e', _⟩ | ⟨e', _⟩ <;> omega
    have hl := itoa_len hn
    refine AW.seq ?_; refine AW.region (by kernel_rfl) ?_; refine RunL.mem (by exact rfl) (loc_boxD rfl rfl rfl) ?_; refine RunL.val (by exact rfl) (loc_assignC rfl) ?_; refine RunL.nil ?_; refine AW.seq ?_; refine AW.seq ?_; refine AW.region (by kernel_rfl) ?_; refine RunL.val (by exact rfl) (loc_fieldAddr rfl) ?_; refine RunL.val (by exact rfl) (loc_load rfl rfl rfl) ?_; refine RunL.nil ?_; refine AW.block ?_; refine AW.seq ?_; refine AW.region (by kernel_rfl) ?_; refine RunL.val (by exact rfl) (loc_binInt rfl rfl rfl) ?_; refine RunL.val (by exact rfl) (loc_assignC rfl) ?_; refine RunL.nil ?_; refine AW.condTa (by exact rfl) (by assumption) ?_; refine AW.seq ?_; refine AW.region (by kernel_rfl) ?_; refine RunL.val (by exact rfl) (loc_fieldAddr rfl) ?_; refine RunL.val (by exact rfl) (loc_load rfl rfl rfl) ?_
    refine RunL.val (by exact rfl) (loc_fun (itoa_a a.n (by omega) (by omega)) rfl (by refine ⟨_, _, rfl, (by exact LeU.of_eq rfl trivial), (by exact trivial), ?_⟩; exact rfl)) ?_
    refine RunL.val (by exact rfl) (loc_addStr (a := mkB [35]) (b := mkB (Lib.itoa a.n)) (by exact rfl) (by exact rfl) (by simp only [mkB_size, List.length_cons, List.length_nil, List.length_append]; omega) (mkB_app _ _)) ?_
    refine RunL.val (by exact rfl) (loc_assignC rfl) ?_; refine RunL.nil ?_; refine AW.ret ?_
    rw [show tmTxt a = [35] ++ Lib.itoa a.n by rw [tmTxt_eta, k1]; rfl]
    exact ret_same (.inr rfl) rfl trivial
  | false =>
  cases k2 : (a.k == 2) with
  | true =>
    have e : a.k = 2 := by simpa using k2
    have hn : -1000000 ≤ a.n ∧ a.n ≤ 1000000 := by
      rcases good_cases hg with ⟨e', _⟩ | ⟨_, _, en, _⟩ | ⟨e', _⟩ | ⟨e', _⟩ | ⟨e', _⟩ | ⟨e', _⟩ | ⟨e', _⟩ <;> first | exact inB_iff.1 en | omega
    refine AW.seq ?_; refine AW.region (by kernel_rfl) ?_; refine RunL.mem (by exact rfl) (loc_boxD rfl rfl rfl) ?_; refine RunL.val (by exact rfl) (loc_assignC rfl) ?_; refine RunL.nil ?_; refine AW.seq ?_; refine AW.seq ?_; refine AW.region (by kernel_rfl) ?_; refine RunL.val (by exact rfl) (loc_fieldAddr rfl) ?_; refine RunL.val (by exact rfl) (loc_load rfl rfl rfl) ?_; refine RunL.nil ?_; refine AW.block ?_; refine AW.seq ?_; refine AW.region (by kernel_rfl) ?_; refine RunL.val (by exact rfl) (loc_binInt rfl rfl rfl) ?_; refine RunL.val (by exact rfl) (loc_assignC rfl) ?_; refine RunL.nil ?_; refine AW.condFa (by exact rfl) (by assumption) ?_; refine AW.seq ?_; refine AW.region (by kernel_rfl) ?_; refine RunL.val (by exact rfl) (loc_binInt rfl rfl rfl) ?_; refine RunL.val (by exact rfl) (loc_assignC rfl) ?_; refine RunL.nil ?_; refine AW.condTa (by exact rfl) (by assumption) ?_; refine AW.seq ?_; refine AW.region (by kernel_rfl) ?_; refine RunL.val (by exact rfl) (loc_fieldAddr rfl) ?_; refine RunL.val (by exact rfl) (loc_load rfl rfl rfl) ?_
    refine RunL.val (by exact rfl) (loc_fun (itoa_a a.n (by omega) (by omega)) rfl (by refine ⟨_, _, rfl, (by exact LeU.of_eq rfl trivial), (by exact trivial), ?_⟩; exact rfl)) ?_
    refine RunL.val (by exact rfl) (loc_assignC rfl) ?_; refine RunL.nil ?_; refine AW.ret ?_
    rw [show tmTxt a = Lib.itoa a.n by rw [tmTxt_eta, k1, k2]; rfl]
    exact ret_same (.inr rfl) rfl trivial
  | false =>
  cases k3 : (a.k == 3) with
  | true =>
    have e : a.k = 3 := by simpa using k3
    have hn : a.n = 0 ∨ a.n = 1 := by
      rcases good_cases hg with ⟨e', _⟩ | ⟨e', _⟩ | ⟨_, _, en, _⟩ | ⟨e', _⟩ | ⟨e', _⟩ | ⟨e', _⟩ | ⟨e', _⟩ <;> first | exact en | omega
    rcases hn with hn | hn
    · refine AW.seq ?_; refine AW.region (by kernel_rfl) ?_; refine RunL.mem (by exact rfl) (loc_boxD rfl rfl rfl) ?_; refine RunL.val (by exact rfl) (loc_assignC rfl) ?_; refine RunL.nil ?_; refine AW.seq ?_; refine AW.seq ?_; refine AW.region (by kernel_rfl) ?_; refine RunL.val (by exact rfl) (loc_fieldAddr rfl) ?_; refine RunL.val (by exact rfl) (loc_load rfl rfl rfl) ?_; refine RunL.nil ?_; refine AW.block ?_; refine AW.seq ?_; refine AW.region (by kernel_rfl) ?_; refine RunL.val (by exact rfl) (loc_binInt rfl rfl rfl) ?_; refine RunL.val (by exact rfl) (loc_assignC rfl) ?_; refine RunL.nil ?_; refine AW.condFa (by exact rfl) (by assumption) ?_; refine AW.seq ?_; refine AW.region (by kernel_rfl) ?_; refine RunL.val (by exact rfl) (loc_binInt rfl rfl rfl) ?_; refine RunL.val (by exact rfl) (loc_assignC rfl) ?_; refine RunL.nil ?_; refine AW.condFa (by exact rfl) (by assumption) ?_; refine AW.seq ?_; refine AW.region (by kernel_rfl) ?_; refine RunL.val (by exact rfl) (loc_binInt rfl rfl rfl) ?_; refine RunL.val (by exact rfl) (loc_assignC rfl) ?_; refine RunL.nil ?_; refine AW.condTa (by exact rfl) (by assumption) ?_; refine AW.seq ?_; refine AW.region (by kernel_rfl) ?_; refine RunL.val (by exact rfl) (loc_sliceLit (by exact rfl) (by exact rfl) (by decide) (by decide) (by exact RowsOf.cons (by exact rfl) (RowsOf.cons (by exact rfl) RowsOf.nil)) (by exact AllP.cons (by exact rfl) (AllP.cons (by exact rfl) AllP.nil)) (by exact rfl)) ?_; refine RunL.val (by exact rfl) (loc_fieldAddr rfl) ?_; refine RunL.val (by exact rfl) (loc_load rfl rfl rfl) ?_
      refine RunL.val (by exact rfl) (loc_andB (b := 1) (r := 0) (by exact rfl) (by exact rfl) (by rw [hn]; exact and00)) ?_
      refine RunL.val (by exact rfl) (loc_indexSlF 0 (by exact rfl) (by exact rfl) (by exact rfl) (by exact rfl) (by exact rfl)) ?_
      refine RunL.val (by exact rfl) (loc_loadF rfl (by exact rfl)) ?_; refine RunL.val (by exact rfl) (loc_assignC rfl) ?_; refine RunL.nil ?_; refine AW.ret ?_
      rw [show tmTxt a = [110, 111] by rw [tmTxt_eta, k1, k2, k3, hn]; rfl]
      exact ret_same (.inr rfl) rfl trivial
    · refine AW.seq ?_; refine AW.region (by kernel_rfl) ?_; refine RunL.mem (by exact rfl) (loc_boxD rfl rfl rfl) ?_; refine RunL.val (by exact rfl) (loc_assignC rfl) ?_; refine RunL.nil ?_; refine AW.seq ?_; refine AW.seq ?_; refine AW.region (by kernel_rfl) ?_; refine RunL.val (by exact rfl) (loc_fieldAddr rfl) ?_; refine RunL.val (by exact rfl) (loc_load rfl rfl rfl) ?_; refine RunL.nil ?_; refine AW.block ?_; refine AW.seq ?_; refine AW.region (by kernel_rfl) ?_; refine RunL.val (by exact rfl) (loc_binInt rfl rfl rfl) ?_; refine RunL.val (by exact rfl) (loc_assignC rfl) ?_; refine RunL.nil ?_; refine AW.condFa (by exact rfl) (by assumption) ?_; refine AW.seq ?_; refine AW.region (by kernel_rfl) ?_; refine RunL.val (by exact rfl) (loc_binInt rfl rfl rfl) ?_; refine RunL.val (by exact rfl) (loc_assignC rfl) ?_; refine RunL.nil ?_; refine AW.condFa (by exact rfl) (by assumption) ?_; refine AW.seq ?_; refine AW.region (by kernel_rfl) ?_; refine RunL.val (by exact rfl) (loc_binInt rfl rfl rfl) ?_; refine RunL.val (by exact rfl) (loc_assignC rfl) ?_; refine RunL.nil ?_; refine AW.condTa (by exact rfl) (by assumption) ?_; refine AW.seq ?_; refine AW.region (by kernel_rfl) ?_; refine RunL.val (by exact rfl) (loc_sliceLit (by exact rfl) (by exact rfl) (by decide) (by decide) (by exact RowsOf.cons (by exact rfl) (RowsOf.cons (by exact rfl) RowsOf.nil)) (by exact AllP.cons (by exact rfl) (AllP.cons (by exact rfl) AllP.nil)) (by exact rfl)) ?_; refine RunL.val (by exact rfl) (loc_fieldAddr rfl) ?_; refine RunL.val (by exact rfl) (loc_load rfl rfl rfl) ?_
      refine RunL.val (by exact rfl) (loc_andB (b := 1) (r := 1) (by exact rfl) (by exact rfl) (by rw [hn]; exact and11)) ?_
      refine RunL.val (by exact rfl) (loc_indexSlF 1 (by exact rfl) (by exact rfl) (by exact rfl) (by exact rfl) (by exact rfl)) ?_
      refine RunL.val (by exact rfl) (loc_loadF rfl (by exact rfl)) ?_; refine RunL.val (by exact rfl) (loc_assignC rfl) ?_; refine RunL.nil ?_; refine AW.ret ?_
      rw [show tmTxt a = [121, 101, 115] by rw [tmTxt_eta, k1, k2, k3, hn]; rfl]
      exact ret_same (.inr rfl) rfl trivial
  | false =>
  have hk49 : 4 ≤ a.k ∧ a.k ≤ 9 := by
    simp only [beq_eq_false_iff_ne] at k1 k2 k3
    rcases good_cases hg with ⟨e', _⟩ | ⟨e', _⟩ | ⟨e', _⟩ | ⟨e', _⟩ | ⟨e', _⟩ | ⟨e', _⟩ | ⟨e', _⟩ <;> omega
  have hww := words_txt hk49.1 hk49.2
  have hwl := wTxt_len (k := a.k) (by omega)
  have htot := tmTxt_len a ar ow hg hb
  rw [tmTxt_head k1 k2 k3] at htot ⊢
  refine AW.seq ?_; refine AW.region (by kernel_rfl) ?_; refine RunL.mem (by exact rfl) (loc_boxD rfl rfl rfl) ?_; refine RunL.val (by exact rfl) (loc_assignC rfl) ?_; refine RunL.nil ?_; refine AW.seq ?_; refine AW.seq ?_; refine AW.region (by kernel_rfl) ?_; refine RunL.val (by exact rfl) (loc_fieldAddr rfl) ?_; refine RunL.val (by exact rfl) (loc_load rfl rfl rfl) ?_; refine RunL.nil ?_; refine AW.block ?_; refine AW.seq ?_; refine AW.region (by kernel_rfl) ?_; refine RunL.val (by exact rfl) (loc_binInt rfl rfl rfl) ?_; refine RunL.val (by exact rfl) (loc_assignC rfl) ?_; refine RunL.nil ?_; refine AW.condFa (by exact rfl) (by assumption) ?_; refine AW.seq ?_; refine AW.region (by kernel_rfl) ?_; refine RunL.val (by exact rfl) (loc_binInt rfl rfl rfl) ?_; refine RunL.val (by exact rfl) (loc_assignC rfl) ?_; refine RunL.nil ?_; refine AW.condFa (by exact rfl) (by assumption) ?_; refine AW.seq ?_; refine AW.region (by kernel_rfl) ?_; refine RunL.val (by exact rfl) (loc_binInt rfl rfl rfl) ?_; refine RunL.val (by exact rfl) (loc_assignC rfl) ?_; refine RunL.nil ?_; refine AW.condFa (by exact rfl) (by assumption) ?_; refine AW.skip ?_; refine AW.seq ?_; refine AW.region (by kernel_rfl) ?_; refine RunL.val (by exact rfl) (loc_fieldAddr rfl) ?_; refine RunL.val (by exact rfl) (loc_load rfl rfl rfl) ?_; refine RunL.val (by exact rfl) (loc_indexArrI rfl rfl (by omega) (by omega)) ?_; refine RunL.val (by exact rfl) (loc_loadF rfl (by assumption)) ?_
  refine RunL.val (by exact rfl) (loc_addStr (a := mkB [40]) (by exact rfl) (by exact rfl) (by simp only [mkB_size, List.length_cons, List.length_nil, List.length_append]; omega) (mkB_app _ _)) ?_
  refine RunL.val (by exact rfl) (loc_assignC rfl) ?_; refine RunL.nil ?_
  refine AW.seq ?_
  refine AW.midB (fun t h => t = tOfL [(1, .one (.ptr 1 0)), (3, .one (.str (mkB (headTxt a))))] ∧ h = ofL [(1, .obj a.c)]) ?_ ?_
  · cases k7 : (a.k == 7 || a.k == 9) with
    | false =>
      have hh : headTxt a = [40] ++ wTxt a.k := by unfold headTxt; rw [k7]; simp
      rw [Bool.or_eq_false_iff] at k7
      obtain ⟨k7, k9⟩ := k7
      refine AW.seq ?_; refine AW.region (by kernel_rfl) ?_; refine RunL.val (by exact rfl) (loc_fieldAddr rfl) ?_; refine RunL.val (by exact rfl) (loc_load rfl rfl rfl) ?_; refine RunL.val (by exact rfl) (loc_binInt rfl rfl rfl) ?_; refine RunL.val (by exact rfl) (loc_moveC rfl) ?_; refine RunL.val (by exact .inl ⟨_, _, rfl, rfl, guard_eq false (by assumption) rfl⟩) (loc_fieldAddr rfl) ?_; refine RunL.val (by exact .inl ⟨_, _, rfl, rfl, guard_eq false (by assumption) rfl⟩) (loc_load rfl rfl rfl) ?_; refine RunL.val (by exact .inl ⟨_, _, rfl, rfl, guard_eq false (by assumption) rfl⟩) (loc_binInt rfl rfl rfl) ?_; refine RunL.val (by exact rfl) (loc_pickI false (by assumption) rfl rfl) ?_; refine RunL.nil ?_; refine AW.condFa (by exact rfl) (by assumption) ?_; refine AW.skip ?_
      rw [hh]
      exact ⟨_, _, (gh_lit [(1, .one (.ptr 1 0)), (3, .one (.str (mkB ([40] ++ wTxt a.k))))] [(1, .obj a.c)] [] [] ⟨(WkU.of_eq rfl trivial), (by exact WkU.of_eq rfl trivial), trivial⟩ ⟨(by exact Or.inl ⟨_, rfl, WkBlk.refl _⟩), trivial⟩ trivial trivial rfl rfl ⟨⟨_, rfl⟩, trivial, trivial⟩ ⟨(by refine And.intro ?_ ?_; exact trivial; refine And.intro ?_ ?_; exact trivial; refine And.intro ?_ ?_; exact trivial; refine And.intro ?_ ?_; exact trivial; refine And.intro ?_ ?_; exact trivial; refine And.intro ?_ ?_; exact trivial; refine And.intro ?_ ?_; exact trivial; exact trivial), trivial⟩), rfl, rfl⟩
    | true =>
      have hh : headTxt a = [40] ++ wTxt a.k ++ ([32] ++ tyTxt a.t) := by unfold headTxt; rw [k7]; simp
      have hgt : a.t.good 4 = true := by
        rw [goodT_eta, Bool.and_eq_true] at hg
        have h := hg.1
        simp only [Tm.fit, Bool.and_eq_true] at h
        have h := h.1.2
        rw [if_pos k7] at h
        exact h
      have hty := typed_a 4 (by omega) a.t hgt
      have htl := tyTxt_len 4 a.t hgt
      cases k7' : (a.k == 7) with
      | true =>
        refine AW.seq ?_; refine AW.region (by kernel_rfl) ?_; refine RunL.val (by exact rfl) (loc_fieldAddr rfl) ?_; refine RunL.val (by exact rfl) (loc_load rfl rfl rfl) ?_; refine RunL.val (by exact rfl) (loc_binInt rfl rfl rfl) ?_; refine RunL.val (by exact rfl) (loc_moveC rfl) ?_; refine RunL.skip (.inl ⟨_, _, rfl, rfl, guard_eq true (by assumption) rfl⟩) ?_; refine RunL.skip (.inl ⟨_, _, rfl, rfl, guard_eq true (by assumption) rfl⟩) ?_; refine RunL.skip (.inl ⟨_, _, rfl, rfl, guard_eq true (by assumption) rfl⟩) ?_; refine RunL.val (by exact rfl) (loc_pickI true (by assumption) rfl rfl) ?_; refine RunL.nil ?_; refine AW.condT (by exact rfl) ?_; refine AW.region (by kernel_rfl) ?_; refine RunL.val (by exact rfl) (loc_moveC rfl) ?_; refine RunL.val (by exact rfl) (loc_fieldAddr rfl) ?_; refine RunL.val (by exact rfl) (loc_loadA rfl rfl (by exact Cut.cons (by exact rfl) (Cut.cons (by exact rfl) Cut.nil))) ?_
        refine RunL.val (by exact rfl) (loc_fun hty rfl (by refine ⟨_, _, rfl, (by exact LeU.of_eq rfl trivial), (by (refine And.intro ?_ ?_; exact trivial; refine And.intro ?_ ?_; exact trivial; exact trivial; done)), ?_⟩; exact rfl)) ?_
        refine RunL.val (by exact rfl) (loc_addStr (a := mkB [32]) (by exact rfl) (by exact rfl) (by simp only [mkB_size, List.length_cons, List.length_nil, List.length_append]; omega) (mkB_app _ _)) ?_
        refine RunL.val (by exact rfl) (loc_addStr (by exact rfl) (by exact rfl) (by simp only [mkB_size, List.length_cons, List.length_nil, List.length_append]; omega) (mkB_app _ _)) ?_
        refine RunL.val (by exact rfl) (loc_assignC rfl) ?_; refine RunL.nil ?_
        rw [hh]
        exact ⟨_, _, (gh_lit [(1, .one (.ptr 1 0)), (3, .one (.str (mkB ([40] ++ wTxt a.k ++ ([32] ++ tyTxt a.t)))))] [(1, .obj a.c)] [] [] ⟨(WkU.of_eq rfl trivial), (by exact WkU.of_eq rfl trivial), trivial⟩ ⟨(by exact Or.inl ⟨_, rfl, WkBlk.refl _⟩), trivial⟩ trivial trivial rfl rfl ⟨⟨_, rfl⟩, trivial, trivial⟩ ⟨(by refine And.intro ?_ ?_; exact trivial; refine And.intro ?_ ?_; exact trivial; refine And.intro ?_ ?_; exact trivial; refine And.intro ?_ ?_; exact trivial; refine And.intro ?_ ?_; exact trivial; refine And.intro ?_ ?_; exact trivial; refine And.intro ?_ ?_; exact trivial; exact trivial), trivial⟩), rfl, rfl⟩
      | false =>
        have k9 : (a.k == 9) = true := by rw [k7'] at k7; simpa using k7
        refine AW.seq ?_; refine AW.region (by kernel_rfl) ?_; refine RunL.val (by exact rfl) (loc_fieldAddr rfl) ?_; refine RunL.val (by exact rfl) (loc_load rfl rfl rfl) ?_; refine RunL.val (by exact rfl) (loc_binInt rfl rfl rfl) ?_; refine RunL.val (by exact rfl) (loc_moveC rfl) ?_; refine RunL.val (by exact .inl ⟨_, _, rfl, rfl, guard_eq false (by assumption) rfl⟩) (loc_fieldAddr rfl) ?_; refine RunL.val (by exact .inl ⟨_, _, rfl, rfl, guard_eq false (by assumption) rfl⟩) (loc_load rfl rfl rfl) ?_; refine RunL.val (by exact .inl ⟨_, _, rfl, rfl, guard_eq false (by assumption) rfl⟩) (loc_binInt rfl rfl rfl) ?_; refine RunL.val (by exact rfl) (loc_pickI false (by assumption) rfl rfl) ?_; refine RunL.nil ?_; refine AW.condTa (by exact rfl) (by assumption) ?_; refine AW.region (by kernel_rfl) ?_; refine RunL.val (by exact rfl) (loc_moveC rfl) ?_; refine RunL.val (by exact rfl) (loc_fieldAddr rfl) ?_; refine RunL.val (by exact rfl) (loc_loadA rfl rfl (by exact Cut.cons (by exact rfl) (Cut.cons (by exact rfl) Cut.nil))) ?_
        refine RunL.val (by exact rfl) (loc_fun hty rfl (by refine ⟨_, _, rfl, (by exact LeU.of_eq rfl trivial), (by (refine And.intro ?_ ?_; exact trivial; refine And.intro ?_ ?_; exact trivial; exact trivial; done)), ?_⟩; exact rfl)) ?_
        refine RunL.val (by exact rfl) (loc_addStr (a := mkB [32]) (by exact rfl) (by exact rfl) (by simp only [mkB_size, List.length_cons, List.length_nil, List.length_append]; omega) (mkB_app _ _)) ?_
        refine RunL.val (by exact rfl) (loc_addStr (by exact rfl) (by exact rfl) (by simp only [mkB_size, List.length_cons, List.length_nil, List.length_append]; omega) (mkB_app _ _)) ?_
        refine RunL.val (by exact rfl) (loc_assignC rfl) ?_; refine RunL.nil ?_
        rw [hh]
        exact ⟨_, _, (gh_lit [(1, .one (.ptr 1 0)), (3, .one (.str (mkB ([40] ++ wTxt a.k ++ ([32] ++ tyTxt a.t)))))] [(1, .obj a.c)] [] [] ⟨(WkU.of_eq rfl trivial), (by exact WkU.of_eq rfl trivial), trivial⟩ ⟨(by exact Or.inl ⟨_, rfl, WkBlk.refl _⟩), trivial⟩ trivial trivial rfl rfl ⟨⟨_, rfl⟩, trivial, trivial⟩ ⟨(by refine And.intro ?_ ?_; exact trivial; refine And.intro ?_ ?_; exact trivial; refine And.intro ?_ ?_; exact trivial; refine And.intro ?_ ?_; exact trivial; refine And.intro ?_ ?_; exact trivial; refine And.intro ?_ ?_; exact trivial; refine And.intro ?_ ?_; exact trivial; exact trivial), trivial⟩), rfl, rfl⟩
  · rintro t h ⟨rfl, rfl⟩
    generalize headTxt a = hd at *
    refine AW.seq ?_; refine AW.seq ?_; refine AW.region (by kernel_rfl) ?_; refine RunL.val (by exact rfl) (loc_fieldAddr rfl) ?_; refine RunL.val (by exact rfl) (loc_load rfl rfl rfl) ?_; refine RunL.val (by exact rfl) (loc_lenSl rfl) ?_; refine RunL.val (by exact rfl) (loc_moveC rfl) ?_; refine RunL.nil ?_; refine AW.block ?_
    refine AW.gh (gh_lit [(1, .one (.ptr 1 0)), (3, .one (.str (mkB (hd)))), (47, .one (slOf 7 (tmRows a.l))), (48, .one (.int .i64 ((tmRows a.l).length : Nat))), (49, .one (.int .i64 ((0 : Nat) : Int)))] [(1, .obj a.c)] [] [] ⟨(WkU.of_eq rfl trivial), (by exact WkU.of_eq rfl trivial), (by exact WkU.of_eq rfl trivial), (WkU.of_eq rfl trivial), (WkU.of_eq rfl trivial), trivial⟩ ⟨(by exact Or.inl ⟨_, rfl, WkBlk.refl _⟩), trivial⟩ trivial trivial rfl rfl ⟨⟨_, rfl⟩, trivial, trivial, trivial, trivial, trivial⟩ ⟨(by refine And.intro ?_ ?_; exact trivial; refine And.intro ?_ ?_; exact trivial; refine And.intro ?_ ?_; exact trivial; refine And.intro ?_ ?_; exact trivial; refine And.intro ?_ ?_; exact trivial; refine And.intro ?_ ?_; exact trivial; refine And.intro ?_ ?_; exact trivial; exact trivial), trivial⟩) ?_
    refine AW.lenSl 47 rfl fun hmax => ?_
    refine AW.loop (fun m t h => ∃ i : Nat, i ≤ a.l.length ∧ m = a.l.length - i ∧ t = tOfL [(1, .one (.ptr 1 0)), (3, .one (.str (mkB (hd ++ tmTxtL (a.l.take (i)))))), (47, .one (slOf 7 (tmRows a.l))), (48, .one (.int .i64 ((tmRows a.l).length : Nat))), (49, .one (.int .i64 ((i : Nat) : Int)))] ∧ h = ofL [(1, .obj a.c)]) a.l.length ⟨0, Nat.zero_le _, rfl, by simp [tmTxtL], rfl⟩ ?_
    rintro m t h ⟨i, hi, rfl, rfl, rfl⟩
    have hsz := tmTxtL_le a.l i
    simp only [List.length_append, List.length_cons, List.length_nil] at htot
    cases hlt : decide ((i : Int) < ((tmRows a.l).length : Nat)) with
    | false =>
      have hil : i = a.l.length := by simp at hlt; omega
      refine AW.seq ?_; refine AW.region (by kernel_rfl) ?_; refine RunL.val (by exact rfl) (loc_binInt rfl rfl rfl) ?_; refine RunL.nil ?_; refine AW.seq ?_; refine AW.condFa (by exact rfl) (by assumption) ?_; refine AW.exit ?_; refine AW.seq ?_; refine AW.region (by kernel_rfl) ?_; refine RunL.val (by exact rfl) (loc_moveC rfl) ?_
      rw [show a.l.take i = a.l by rw [hil, List.take_length]]
      refine RunL.val (by exact rfl) (loc_addStr (b := mkB [41]) (by exact rfl) (by exact rfl) (by simp only [mkB_size, List.length_cons, List.length_nil, List.length_append]; omega) (mkB_app _ _)) ?_
      refine RunL.val (by exact rfl) (loc_assignC rfl) ?_; refine RunL.nil ?_; refine AW.ret ?_
      exact ret_same (.inr rfl) rfl trivial
    | true =>
      have hil : i < a.l.length := by simp at hlt; omega
      have hr1 := tmRows_get hil
      have hmem : a.l[i] ∈ a.l := List.getElem_mem hil
      have hn3 := nodes_mem hmem
      have hgi := goodL_mem (by rw [goodT_eta, Bool.and_eq_true] at hg; exact hg.2) _ hmem
      have hif : ow ≤ (if a.k == 7 then ow + 1 else ow) ∧ (if a.k == 7 then ow + 1 else ow) ≤ ow + 1 := by split <;> omega
      have hc := ih a.l[i] hmem _ _ hgi (by omega) (by omega)
      have hl1 := tmTxt_len a.l[i] _ _ hgi (by omega)
      refine AW.seq ?_; refine AW.region (by kernel_rfl) ?_; refine RunL.val (by exact rfl) (loc_binInt rfl rfl rfl) ?_; refine RunL.nil ?_; refine AW.seq ?_; refine AW.condTa (by exact rfl) (by assumption) ?_; refine AW.skip ?_; refine AW.seq ?_; refine AW.block ?_; refine AW.seq ?_; refine AW.region (by kernel_rfl) ?_; refine RunL.val (by exact rfl) (loc_indexSl _ rfl rfl rfl (by assumption) rfl) ?_; refine RunL.val (by exact rfl) (loc_loadFA rfl (by exact Cut.all (by exact rfl))) ?_; refine RunL.mem (by exact rfl) (loc_allocD rfl rfl) ?_; refine RunL.eff (by exact rfl) (loc_storeW rfl rfl rfl rfl (by exact rfl) (by exact rfl)) ?_; refine RunL.nil ?_; refine AW.region (by kernel_rfl) ?_; refine RunL.val (by exact rfl) (loc_moveC rfl) ?_; refine RunL.val (by exact rfl) (loc_loadA rfl rfl (by exact Cut.all (by exact rfl))) ?_
      refine RunL.val (by exact rfl) (loc_fun hc rfl (by refine ⟨_, _, rfl, (by exact LeU.of_eq rfl trivial), (by (refine And.intro ?_ ?_; exact trivial; refine And.intro ?_ ?_; exact trivial; refine And.intro ?_ ?_; exact trivial; refine And.intro ?_ ?_; exact trivial; refine And.intro ?_ ?_; exact trivial; refine And.intro ?_ ?_; exact trivial; refine And.intro ?_ ?_; exact trivial; exact trivial; done)), ?_⟩; exact rfl)) ?_
      refine RunL.val (by exact rfl) (loc_addStr (a := mkB [32]) (by exact rfl) (by exact rfl) (by simp only [mkB_size, List.length_cons, List.length_nil, List.length_append]; omega) (mkB_app _ _)) ?_
      refine RunL.val (by exact rfl) (loc_addStr (by exact rfl) (by exact rfl) (by simp only [mkB_size, List.length_cons, List.length_nil, List.length_append]; omega) (mkB_app _ _)) ?_
      rw [show hd ++ tmTxtL (a.l.take i) ++ ([32] ++ tmTxt a.l[i]) = hd ++ tmTxtL (a.l.take (i + 1)) by rw [tmTxtL_take hil, List.append_assoc]; rfl]
      refine RunL.val (by exact rfl) (loc_assignC rfl) ?_; refine RunL.nil ?_; refine AW.region (by kernel_rfl) ?_; refine RunL.val (by exact rfl) (loc_inc rfl rfl (by omega)) ?_; refine RunL.val (by exact rfl) (loc_moveC rfl) ?_; refine RunL.nil ?_
      exact ⟨a.l.length - (i + 1), _, _, by omega, (gh_lit [(1, .one (.ptr 1 0)), (3, .one (.str (mkB (hd ++ tmTxtL (a.l.take (i + 1)))))), (47, .one (slOf 7 (tmRows a.l))), (48, .one (.int .i64 ((tmRows a.l).length : Nat))), (49, .one (.int .i64 (((i + 1) : Nat) : Int)))] [(1, .obj a.c)] [] [] ⟨(WkU.of_eq rfl trivial), (by exact WkU.of_eq rfl trivial), (by exact WkU.of_eq rfl trivial), (WkU.of_eq rfl trivial), (WkU.of_eq rfl trivial), trivial⟩ ⟨(by exact Or.inl ⟨_, rfl, WkBlk.refl _⟩), trivial⟩ trivial trivial rfl rfl ⟨⟨_, rfl⟩, trivial, trivial, trivial, trivial, trivial⟩ ⟨(by refine And.intro ?_ ?_; exact trivial; refine And.intro ?_ ?_; exact trivial; refine And.intro ?_ ?_; exact trivial; refine And.intro ?_ ?_; exact trivial; refine And.intro ?_ ?_; exact trivial; refine And.intro ?_ ?_; exact trivial; refine And.intro ?_ ?_; exact trivial; exact trivial), trivial⟩), i + 1, by omega, rfl, rfl, rfl⟩
def printU (a : Tm) : U := .tup [.one (.str (print a).1), .one (.int .i64 (print a).2)]
set_option maxHeartbeats 2000000 in
theorem print_a (a : Tm) (hok : TmOk a) (hsz : a.nodes ≤ 1048576) : ACalls Tryd.prog 9 [a.u] [] (printU a) [] := by
  refine acalls_of_body Tryd.func9 rfl (by kernel_rfl) (Nat.le_of_ble_eq_true rfl) trivial (by simp [namesL]) ?_
  refine AW.seq ?_; refine AW.region (by kernel_rfl) ?_; refine RunL.mem (by exact rfl) (loc_boxD rfl rfl rfl) ?_; refine RunL.val (by exact rfl) (loc_assignC rfl) ?_; refine RunL.val (by exact rfl) (loc_assignC rfl) ?_; refine RunL.nil ?_; refine AW.seq ?_; refine AW.seq ?_; refine AW.region (by kernel_rfl) ?_; refine RunL.val (by exact rfl) (loc_loadA rfl rfl (by exact Cut.all (by exact rfl))) ?_
  refine RunL.val (by exact rfl) (loc_fun (tGood_a a 0 hok hsz) rfl (by refine ⟨_, _, rfl, (by exact LeU.of_eq rfl trivial), (by (refine And.intro ?_ ?_; exact trivial; refine And.intro ?_ ?_; exact trivial; refine And.intro ?_ ?_; exact trivial; refine And.intro ?_ ?_; exact trivial; refine And.intro ?_ ?_; exact trivial; refine And.intro ?_ ?_; exact trivial; refine And.intro ?_ ?_; exact trivial; exact trivial; done)), ?_⟩; refine ⟨_, _, rfl, (by exact LeU.of_eq rfl trivial), (by exact trivial), ?_⟩; exact rfl)) ?_
  cases hg : a.Good 0 with
  | false =>
    refine RunL.val (by exact rfl) (loc_not rfl) ?_; refine RunL.nil ?_; refine AW.condT (by exact rfl) ?_; refine AW.seq ?_; refine AW.region (by kernel_rfl) ?_; refine RunL.val (by exact rfl) (loc_assignC rfl) ?_; refine RunL.val (by exact rfl) (loc_assignC rfl) ?_; refine RunL.nil ?_; refine AW.ret ?_
    rw [show printU a = .tup [.one (.str sNil), .one (.int .i64 1)] by unfold printU print; rw [hg]; rfl]
    exact ret_tt (.inr rfl) rfl rfl trivial trivial
  | true =>
    have hg' := hg
    unfold Tm.Good at hg'
    simp only [Bool.and_eq_true, decide_eq_true_eq] at hg'
    have htl := tmTxt_len a 0 0 hg'.2 (by omega)
    cases hl : decide ((((mkB (tmTxt a)).size : Nat) : Int) > 1000) with
    | true =>
      have hl' : 1000 < (tmTxt a).length := by simp [mkB_size] at hl; omega
      refine RunL.val (by exact rfl) (loc_not rfl) ?_; refine RunL.nil ?_; refine AW.condF (by exact rfl) ?_; refine AW.skip ?_; refine AW.seq ?_; refine AW.region (by kernel_rfl) ?_; refine RunL.val (by exact rfl) (loc_loadA rfl rfl (by exact Cut.all (by exact rfl))) ?_
      refine RunL.val (by exact rfl) (loc_fun (show_a a 0 0 hg'.2 (by omega) (by omega)) rfl (by refine ⟨_, _, rfl, (by exact LeU.of_eq rfl trivial), (by (refine And.intro ?_ ?_; exact trivial; refine And.intro ?_ ?_; exact trivial; refine And.intro ?_ ?_; exact trivial; refine And.intro ?_ ?_; exact trivial; refine And.intro ?_ ?_; exact trivial; refine And.intro ?_ ?_; exact trivial; refine And.intro ?_ ?_; exact trivial; exact trivial; done)), ?_⟩; exact rfl)) ?_
      refine RunL.val (by exact rfl) (loc_assignC rfl) ?_; refine RunL.nil ?_; refine AW.seq ?_; refine AW.seq ?_; refine AW.region (by kernel_rfl) ?_; refine RunL.val (by exact rfl) (loc_moveC rfl) ?_; refine RunL.val (by exact rfl) (loc_lenStr rfl) ?_; refine RunL.val (by exact rfl) (loc_binInt rfl rfl rfl) ?_; refine RunL.nil ?_; refine AW.condTa (by exact rfl) (by assumption) ?_; refine AW.seq ?_; refine AW.region (by kernel_rfl) ?_; refine RunL.val (by exact rfl) (loc_assignC rfl) ?_; refine RunL.val (by exact rfl) (loc_assignC rfl) ?_; refine RunL.nil ?_; refine AW.ret ?_
      rw [show printU a = .tup [.one (.str sNil), .one (.int .i64 4)] by unfold printU print; rw [hg, if_pos rfl, if_pos hl']]
      exact ret_tt (.inr rfl) rfl rfl trivial trivial
    | false =>
      have hl' : ¬ 1000 < (tmTxt a).length := by simp [mkB_size] at hl; omega
      refine RunL.val (by exact rfl) (loc_not rfl) ?_; refine RunL.nil ?_; refine AW.condF (by exact rfl) ?_; refine AW.skip ?_; refine AW.seq ?_; refine AW.region (by kernel_rfl) ?_; refine RunL.val (by exact rfl) (loc_loadA rfl rfl (by exact Cut.all (by exact rfl))) ?_
      refine RunL.val (by exact rfl) (loc_fun (show_a a 0 0 hg'.2 (by omega) (by omega)) rfl (by refine ⟨_, _, rfl, (by exact LeU.of_eq rfl trivial), (by (refine And.intro ?_ ?_; exact trivial; refine And.intro ?_ ?_; exact trivial; refine And.intro ?_ ?_; exact trivial; refine And.intro ?_ ?_; exact trivial; refine And.intro ?_ ?_; exact trivial; refine And.intro ?_ ?_; exact trivial; refine And.intro ?_ ?_; exact trivial; exact trivial; done)), ?_⟩; exact rfl)) ?_
      refine RunL.val (by exact rfl) (loc_assignC rfl) ?_; refine RunL.nil ?_; refine AW.seq ?_; refine AW.seq ?_; refine AW.region (by kernel_rfl) ?_; refine RunL.val (by exact rfl) (loc_moveC rfl) ?_; refine RunL.val (by exact rfl) (loc_lenStr rfl) ?_; refine RunL.val (by exact rfl) (loc_binInt rfl rfl rfl) ?_; refine RunL.nil ?_; refine AW.condFa (by exact rfl) (by assumption) ?_; refine AW.skip ?_; refine AW.seq ?_; refine AW.region (by kernel_rfl) ?_; refine RunL.val (by exact rfl) (loc_moveC rfl) ?_; refine RunL.val (by exact rfl) (loc_assignC rfl) ?_; refine RunL.val (by exact rfl) (loc_assignC rfl) ?_; refine RunL.nil ?_; refine AW.ret ?_
      rw [show printU a = .tup [.one (.str (mkB (tmTxt a))), .one (.int .i64 0)] by unfold printU print; rw [hg, if_pos rfl, if_neg hl']]
      exact ret_tt (.inr rfl) rfl rfl trivial trivial
end Go.Proofs.YtnflnbdlgdjfmabDoor
namespace Go.Proofs.YtnflnbdlgdjfmabDoor
open Go.RowKit
set_option linter.unusedVariables false
set_option linter.unusedSimpArgs false
set_option maxRecDepth 100000
attribute [local irreducible] RunL AW LocOp ACalls Gh
theorem replaceK_len (old new : List UInt8) : ∀ (k : Nat) (s : List UInt8), (Lib.replaceK old new k s).length ≤ s.length + k * new.length
  | 0, s => by simp [Lib.replaceK]
  | k + 1, s => by
    simp only [Lib.replaceK]
    split
    · exact Nat.le_add_right _ _
    · have := replaceK_len old new k (s.drop ((Lib.index s old).toNat + old.length))
      simp only [List.length_append, List.length_take, List.length_drop] at this ⊢
      rw [Nat.succ_mul]
      omega
theorem replaceS_size (s old new : ByteArray) (h1 : 1 ≤ old.size) : (replaceS s old new).size ≤ s.size + s.size * new.size := by
  have hc : Lib.count s.data.toList old.data.toList ≤ s.size := Lib.countB_le old h1 s.size s (Nat.le_refl _)
  have hl : s.data.toList.length = s.size := Array.length_toList
  have hn : new.data.toList.length = new.size := Array.length_toList
  show (Lib.replaceAll s.data.toList old.data.toList new.data.toList).toArray.size ≤ _
  rw [List.size_toArray]
  unfold Lib.replaceAll Lib.replace
  split
  · omega
  · refine Nat.le_trans (replaceK_len _ _ _ _) ?_
    have h2 : Lib.replaceNum s.data.toList old.data.toList (-1) = Lib.count s.data.toList old.data.toList := by unfold Lib.replaceNum; rw [if_pos (.inl (by decide))]
    rw [h2, hl, hn]
    exact Nat.add_le_add_left (Nat.mul_le_mul_right _ hc) _
theorem spans_len (p : Nat → Bool) (s : ByteArray) : ∀ (f pos : Nat) (st : Option Nat) (acc : List (Nat × Nat)), (Lib.spansFromP p s f pos st acc).1.length ≤ acc.length + f
  | 0, _, _, acc => by simp [Lib.spansFromP]
  | f + 1, pos, st, acc => by
    simp only [Lib.spansFromP]
    split
    · split
      · split
        · rename_i a
          have := spans_len p s f (pos + (Utf8.decode s pos).2) none (acc ++ [(a, pos)]); simp at this; omega
        · have := spans_len p s f (pos + (Utf8.decode s pos).2) none acc; omega
      · split
        · rename_i a
          have := spans_len p s f (pos + (Utf8.decode s pos).2) (some a) acc; omega
        · have := spans_len p s f (pos + (Utf8.decode s pos).2) (some pos) acc; omega
    · simp
theorem fields_len (p : Nat → Bool) (s : ByteArray) : (Lib.goFieldsP p s).length ≤ s.size + 1 ∧ ∀ w ∈ Lib.goFieldsP p s, w.size ≤ s.size := by
  constructor
  · unfold Lib.goFieldsP Lib.spansOfP Lib.closeSpans
    have := spans_len p s s.size 0 none []
    rw [List.length_map]
    split
    · simp at this ⊢; omega
    · simp at this; omega
  · intro w hw
    unfold Lib.goFieldsP at hw
    obtain ⟨x, _, rfl⟩ := List.mem_map.1 hw
    rw [ByteArray.size_extract]; omega
def isGap (x : Nat) : Bool := x == 32 || x == 10
theorem gap_a (x : Nat) : ACalls Tryd.prog 30 [.one (.int .i32 x)] [] (.one (.bool (isGap x))) [] := by
  have e1 : ((x : Int) == 32) = (x == 32) := by rw [Bool.eq_iff_iff]; simp; omega
  have e2 : ((x : Int) == 10) = (x == 10) := by rw [Bool.eq_iff_iff]; simp; omega
  refine acalls_of_body Tryd.func30 rfl (by kernel_rfl) (Nat.le_of_ble_eq_true rfl) trivial (by simp [namesL]) ?_
  unfold isGap
  cases h1 : (x == 32) with
  | true =>
    have h1' : ((x : Int) == 32) = true := e1.trans h1
    refine AW.seq ?_; refine AW.region (by kernel_rfl) ?_; refine RunL.val (by exact rfl) (loc_assignC rfl) ?_; refine RunL.nil ?_; refine AW.seq ?_; refine AW.region (by kernel_rfl) ?_; refine RunL.val (by exact rfl) (loc_moveC rfl) ?_; refine RunL.val (by exact rfl) (loc_binInt rfl rfl rfl) ?_; refine RunL.val (by exact rfl) (loc_moveC rfl) ?_; refine RunL.skip (.inl ⟨_, _, rfl, rfl, guard_eq true (by assumption) rfl⟩) ?_; refine RunL.skip (.inl ⟨_, _, rfl, rfl, guard_eq true (by assumption) rfl⟩) ?_; refine RunL.val (by exact rfl) (loc_pickI true (by assumption) rfl rfl) ?_; refine RunL.val (by exact rfl) (loc_assignC rfl) ?_; refine RunL.nil ?_; refine AW.ret ?_
    refine rq ?_
    exact ret_same (by exact .inr rfl) (by exact rfl) trivial
  | false =>
    have h1' : ((x : Int) == 32) = false := e1.trans h1
    cases h2 : (x == 10) with
    | true =>
      have h2' : ((x : Int) == 10) = true := e2.trans h2
      refine AW.seq ?_; refine AW.region (by kernel_rfl) ?_; refine RunL.val (by exact rfl) (loc_assignC rfl) ?_; refine RunL.nil ?_; refine AW.seq ?_; refine AW.region (by kernel_rfl) ?_; refine RunL.val (by exact rfl) (loc_moveC rfl) ?_; refine RunL.val (by exact rfl) (loc_binInt rfl rfl rfl) ?_; refine RunL.val (by exact rfl) (loc_moveC rfl) ?_; refine RunL.val (by exact .inl ⟨_, _, rfl, rfl, guard_eq false (by assumption) rfl⟩) (loc_moveC rfl) ?_; refine RunL.val (by exact .inl ⟨_, _, rfl, rfl, guard_eq false (by assumption) rfl⟩) (loc_binInt rfl rfl rfl) ?_; refine RunL.val (by exact rfl) (loc_pickI false (by assumption) rfl rfl) ?_; refine RunL.val (by exact rfl) (loc_assignC rfl) ?_; refine RunL.nil ?_; refine AW.ret ?_
      rw [h2']
      refine rq ?_
      exact ret_same (by exact .inr rfl) (by exact rfl) trivial
    | false =>
      have h2' : ((x : Int) == 10) = false := e2.trans h2
      refine AW.seq ?_; refine AW.region (by kernel_rfl) ?_; refine RunL.val (by exact rfl) (loc_assignC rfl) ?_; refine RunL.nil ?_; refine AW.seq ?_; refine AW.region (by kernel_rfl) ?_; refine RunL.val (by exact rfl) (loc_moveC rfl) ?_; refine RunL.val (by exact rfl) (loc_binInt rfl rfl rfl) ?_; refine RunL.val (by exact rfl) (loc_moveC rfl) ?_; refine RunL.val (by exact .inl ⟨_, _, rfl, rfl, guard_eq false (by assumption) rfl⟩) (loc_moveC rfl) ?_; refine RunL.val (by exact .inl ⟨_, _, rfl, rfl, guard_eq false (by assumption) rfl⟩) (loc_binInt rfl rfl rfl) ?_; refine RunL.val (by exact rfl) (loc_pickI false (by assumption) rfl rfl) ?_; refine RunL.val (by exact rfl) (loc_assignC rfl) ?_; refine RunL.nil ?_; refine AW.ret ?_
      rw [h2']
      refine rq ?_
      exact ret_same (by exact .inr rfl) (by exact rfl) trivial
theorem gap_enter (args : Array Value) (w : World) : (callFunc 30 args).run Tryd.prog w = .ok (.enter 30 args) w := by
  have hb : ∃ c, Tryd.f30.body = some c := ⟨_, rfl⟩
  obtain ⟨c, hb⟩ := hb
  have h1 : Tryd.f30.name ≠ "runtime.NumGoroutine" := by
    have : (Tryd.f30.name == "runtime.NumGoroutine") = false := by kernel_rfl
    simpa using this
  simp [callFunc, Tryd.func30, h1, hb]
/-- A text's words: not many, not long. -/
theorem words_ok {s : ByteArray} (h : ¬ 1000 < s.size) : RdOk ⟨wordsOf s, false⟩ ∧ (wordsOf s).length ≤ 20000 := by
  have h1 := replaceS_size s sLp ⟨#[32, 40, 32]⟩ (by decide)
  have h2 := replaceS_size (replaceS s sLp ⟨#[32, 40, 32]⟩) sRp ⟨#[32, 41, 32]⟩ (by decide)
  have e1 : (⟨#[32, 40, 32]⟩ : ByteArray).size = 3 := rfl
  have e2 : (⟨#[32, 41, 32]⟩ : ByteArray).size = 3 := rfl
  rw [e1] at h1
  rw [e2] at h2
  obtain ⟨h3, h4⟩ := fields_len isGap (replaceS (replaceS s sLp ⟨#[32, 40, 32]⟩) sRp ⟨#[32, 41, 32]⟩)
  refine ⟨fun w hw => ?_, ?_⟩
  · have := h4 w hw; omega
  · show (Lib.goFieldsP isGap _).length ≤ _; omega
theorem parse_ok (s : ByteArray) : TmOk (parse s).1 ∧ ((parse s).1.nodes : Int) ≤ 1048576 := by
  unfold parse
  split
  · exact ⟨zero_ok, by decide⟩
  · rename_i h
    simp only
    split
    · exact ⟨zero_ok, by decide⟩
    · rename_i hc
      obtain ⟨h1, h2⟩ := readT_ok 40 ⟨wordsOf s, false⟩
      obtain ⟨_, hw⟩ := words_ok h
      refine ⟨h1, ?_⟩
      simp only [Bool.or_eq_true, not_or, Bool.not_eq_true] at hc
      have := (h2 hc.1.1).1
      simp only at this ⊢
      omega
/-- What Parse answers. -/
def parseU (s : ByteArray) : U := .tup [(parse s).1.u, .one (.int .i64 (parse s).2)]
theorem ret_pe {P : Program} {x z : Tmp} {tx : TypeId} {bx : Nat} {k : List C} {a : Tm} {n : Int} {e : Exit} {t : Nat → U} {h : Nat → Option Blk} [T : TAgg P tx 7] (he : e = .normal ∨ e = .ret) (hx : t x = .one (.ptr bx 0)) (hbx : h bx = some (.obj k)) (hk : All2 (WkC h [] []) k a.c) (hz : t z = .one (.int .i64 n)) : RetQ P #[.cell x tx, .tmp z] (.tup [a.u, .one (.int .i64 n)]) [] e t h :=
  ret_ct (O' := []) he hx hbx hk.length hz [] trivial hk (.le (.refl _)) trivial rfl ⟨⟨trivial, trivial, trivial, trivial, trivial, trivial, trivial, trivial⟩, trivial, trivial⟩ trivial rfl
set_option maxHeartbeats 8000000 in
theorem parse_a (s : ByteArray) : ACalls Tryd.prog 10 [.one (.str s)] [] (parseU s) [] := by
  refine acalls_of_body Tryd.func10 rfl (by kernel_rfl) (Nat.le_of_ble_eq_true rfl) trivial (by simp [namesL]) ?_
  unfold parseU
  cases hlen : decide ((s.size : Int) > 1000) with
  | true =>
    have h1 : 1000 < s.size := by have := of_decide_eq_true hlen; omega
    rw [show parse s = (Tm.zero, 4) by unfold parse; rw [if_pos h1]]
    refine AW.seq ?_; refine AW.region (by kernel_rfl) ?_; refine RunL.mem (by exact rfl) (loc_allocD rfl rfl) ?_; refine RunL.val (by exact rfl) (loc_assignC rfl) ?_; refine RunL.nil ?_; refine AW.seq ?_; refine AW.seq ?_; refine AW.region (by kernel_rfl) ?_; refine RunL.val (by exact rfl) (loc_moveC rfl) ?_; refine RunL.val (by exact rfl) (loc_lenStr rfl) ?_; refine RunL.val (by exact rfl) (loc_binInt rfl rfl rfl) ?_; refine RunL.nil ?_; refine AW.condTa (by exact rfl) (by assumption) ?_; refine AW.seq ?_; refine AW.region (by kernel_rfl) ?_; refine RunL.val (by exact rfl) (loc_build (by exact rfl) (by exact Cut.all (by exact rfl)) (by exact rfl)) ?_; refine RunL.eff (by exact rfl) (loc_storeW rfl rfl rfl rfl (by exact rfl) (by exact rfl)) ?_; refine RunL.val (by exact rfl) (loc_assignC rfl) ?_; refine RunL.nil ?_; refine AW.ret ?_
    refine rq ?_
    exact ret_pe (by exact .inr rfl) (by exact rfl) (by exact rfl) tleaf (by exact rfl)
  | false =>
    have h1 : ¬ 1000 < s.size := by have := of_decide_eq_false hlen; omega
    have z1 := replaceS_size s sLp ⟨#[32, 40, 32]⟩ (by decide)
    have z2 := replaceS_size (replaceS s sLp ⟨#[32, 40, 32]⟩) sRp ⟨#[32, 41, 32]⟩ (by decide)
    have e1 : (⟨#[32, 40, 32]⟩ : ByteArray).size = 3 := rfl
    have e2 : (⟨#[32, 41, 32]⟩ : ByteArray).size = 3 := rfl
    rw [e1] at z1
    rw [e2] at z2
    have c1 : Lib.countB s sLp ≤ s.size := Lib.countB_le sLp (by decide) s.size s (Nat.le_refl _)
    have c2 : Lib.countB (replaceS s sLp ⟨#[32, 40, 32]⟩) sRp ≤ (replaceS s sLp ⟨#[32, 40, 32]⟩).size := Lib.countB_le sRp (by decide) _ _ (Nat.le_refl _)
    obtain ⟨hrd, hwl⟩ := words_ok h1
    have hro := readT_ok 40 ⟨wordsOf s, false⟩
    generalize hp : readT 40 ⟨wordsOf s, false⟩ = p at hro
    have hparse : parse s = if p.2.bad || decide (0 < p.2.ws.length) || !p.1.Good 0 then (Tm.zero, 1) else (p.1, 0) := by unfold parse; rw [if_neg h1, hp]
    have hterm := term_a 40 (Nat.le_refl _) ⟨wordsOf s, false⟩ hrd
    rw [hp] at hterm
    refine AW.seq ?_; refine AW.region (by kernel_rfl) ?_; refine RunL.mem (by exact rfl) (loc_allocD rfl rfl) ?_; refine RunL.val (by exact rfl) (loc_assignC rfl) ?_; refine RunL.nil ?_; refine AW.seq ?_; refine AW.seq ?_; refine AW.region (by kernel_rfl) ?_; refine RunL.val (by exact rfl) (loc_moveC rfl) ?_; refine RunL.val (by exact rfl) (loc_lenStr rfl) ?_; refine RunL.val (by exact rfl) (loc_binInt rfl rfl rfl) ?_; refine RunL.nil ?_; refine AW.condFa (by exact rfl) (by assumption) ?_; refine AW.skip ?_; refine AW.seq ?_; refine AW.region (by kernel_rfl) ?_; refine RunL.val (by exact rfl) (loc_moveC rfl) ?_
    refine RunL.val (by exact rfl) (loc_fun (replaceAll_a s sLp ⟨#[32, 40, 32]⟩ (by omega) (by decide) (by rw [e1]; omega)) rfl (by refine ⟨_, _, rfl, (by exact LeU.of_eq rfl trivial), (by exact trivial), ?_⟩; refine ⟨_, _, rfl, (by exact LeU.of_eq rfl trivial), (by exact trivial), ?_⟩; refine ⟨_, _, rfl, (by exact LeU.of_eq rfl trivial), (by exact trivial), ?_⟩; exact rfl)) ?_
    skip
    refine RunL.val (by exact rfl) (loc_fun (replaceAll_a (replaceS s sLp ⟨#[32, 40, 32]⟩) sRp ⟨#[32, 41, 32]⟩ (by omega) (by decide) (by rw [e2]; omega)) rfl (by refine ⟨_, _, rfl, (by exact LeU.of_eq rfl trivial), (by exact trivial), ?_⟩; refine ⟨_, _, rfl, (by exact LeU.of_eq rfl trivial), (by exact trivial), ?_⟩; refine ⟨_, _, rfl, (by exact LeU.of_eq rfl trivial), (by exact trivial), ?_⟩; exact rfl)) ?_
    refine RunL.val (by exact rfl) (loc_assignC rfl) ?_; refine RunL.nil ?_; refine AW.seq ?_; refine AW.region (by kernel_rfl) ?_; refine RunL.val (by exact rfl) (loc_moveC rfl) ?_
    refine RunL.val (by exact rfl) (loc_fun (fields_a 30 isGap (replaceS (replaceS s sLp ⟨#[32, 40, 32]⟩) sRp ⟨#[32, 41, 32]⟩) (by omega) (by kernel_rfl) gap_enter (fun x _ => gap_a x)) rfl (by refine ⟨_, _, rfl, (by exact LeU.of_eq rfl trivial), (by exact trivial), ?_⟩; refine ⟨_, _, rfl, (by exact LeU.of_eq rfl trivial), (by exact trivial), ?_⟩; exact rfl)) ?_
    refine RunL.val (by exact rfl) (loc_build (by exact rfl) (by exact Cut.all (by exact rfl)) (by exact rfl)) ?_
    refine RunL.mem (by exact rfl) (loc_box 1000 (by exact rfl) (by exact rfl) (by exact rfl) (by exact rfl)) ?_
    refine RunL.val (by exact rfl) (loc_assignC rfl) ?_; refine RunL.nil ?_
    refine AW.gh (gh_lit [(2, .one (.ptr 2 0)), (3, .one (.int .i64 0)), (4, .one (.ptr 1000 0))] [(1000, .obj (Rd.c ⟨wordsOf s, false⟩)), (2, .obj [.int .i64 0, .int .i64 0, .int .i64 0, .nilsl, .int .i64 0, .nilsl, .nilsl])] [] [] ⟨(WkU.of_eq rfl trivial), (WkU.of_eq rfl trivial), (WkU.of_eq rfl trivial), trivial⟩ ⟨(by (refine Or.inl ⟨_, rfl, ?_⟩; show All2 _ _ _; refine And.intro ?_ ?_; exact WkC.le (LeC.slF (LeRows.refl _)); refine And.intro ?_ ?_; exact WkC.le (LeC.refl _); exact trivial)), (by exact Or.inl ⟨_, rfl, WkBlk.refl _⟩), trivial⟩ trivial trivial rfl rfl ⟨⟨_, rfl⟩, trivial, ⟨_, rfl⟩, trivial⟩ ⟨(by refine And.intro ?_ ?_; exact trivial; refine And.intro ?_ ?_; exact trivial; exact trivial), (by refine And.intro ?_ ?_; exact trivial; refine And.intro ?_ ?_; exact trivial; refine And.intro ?_ ?_; exact trivial; refine And.intro ?_ ?_; exact trivial; refine And.intro ?_ ?_; exact trivial; refine And.intro ?_ ?_; exact trivial; refine And.intro ?_ ?_; exact trivial; exact trivial), trivial⟩) ?_
    refine AW.seq ?_; refine AW.region (by kernel_rfl) ?_; refine RunL.val (by exact rfl) (loc_moveC rfl) ?_
    refine RunL.many (by exact rfl) (loc_funE hterm rfl (by refine ⟨_, _, rfl, (by exact LeU.of_eq rfl trivial), (by exact Exists.intro _ rfl), ?_⟩; refine ⟨_, _, rfl, (by exact LeU.of_eq rfl trivial), (by exact trivial), ?_⟩; exact rfl) (by exact ⟨rfl, trivial⟩) (by exact rfl) (by simp [namesL]) (by exact ⟨⟨trivial, trivial, trivial⟩, trivial⟩)) ?_
    rw [hparse]
    cases hb : p.2.bad with
    | true =>
      rw [if_pos (by rfl)]
      refine RunL.mem (by exact rfl) (loc_allocD rfl rfl) ?_; refine RunL.eff (by exact rfl) (loc_storeW rfl rfl rfl rfl (by exact rfl) (by exact rfl)) ?_; refine RunL.nil ?_; refine AW.seq ?_; refine AW.seq ?_; refine AW.region (by kernel_rfl) ?_; refine RunL.val (by exact rfl) (loc_moveC rfl) ?_; refine RunL.val (by exact rfl) (loc_nilCheck rfl rfl) ?_; refine RunL.val (by exact rfl) (loc_fieldAddr rfl) ?_; refine RunL.val (by exact rfl) (loc_load rfl rfl rfl) ?_; refine RunL.val (by exact rfl) (loc_moveC rfl) ?_; refine RunL.skip (.inl ⟨_, _, rfl, rfl, guard_eq true (by assumption) rfl⟩) ?_; refine RunL.skip (.inl ⟨_, _, rfl, rfl, guard_eq true (by assumption) rfl⟩) ?_; refine RunL.skip (.inl ⟨_, _, rfl, rfl, guard_eq true (by assumption) rfl⟩) ?_; refine RunL.skip (.inl ⟨_, _, rfl, rfl, guard_eq true (by assumption) rfl⟩) ?_; refine RunL.skip (.inl ⟨_, _, rfl, rfl, guard_eq true (by assumption) rfl⟩) ?_; refine RunL.skip (.inl ⟨_, _, rfl, rfl, guard_eq true (by assumption) rfl⟩) ?_; refine RunL.val (by exact rfl) (loc_pickI true (by assumption) rfl rfl) ?_; refine RunL.val (by exact rfl) (loc_moveC rfl) ?_; refine RunL.skip (.inl ⟨_, _, rfl, rfl, rfl⟩) ?_; refine RunL.skip (.inl ⟨_, _, rfl, rfl, rfl⟩) ?_; refine RunL.skip (.inl ⟨_, _, rfl, rfl, rfl⟩) ?_; refine RunL.val (by exact rfl) (loc_pickT rfl rfl) ?_; refine RunL.nil ?_; refine AW.condT (by exact rfl) ?_; refine AW.seq ?_; refine AW.region (by kernel_rfl) ?_; refine RunL.val (by exact rfl) (loc_build (by exact rfl) (by exact Cut.all (by exact rfl)) (by exact rfl)) ?_; refine RunL.eff (by exact rfl) (loc_storeW rfl rfl rfl rfl (by exact rfl) (by exact rfl)) ?_; refine RunL.val (by exact rfl) (loc_assignC rfl) ?_; refine RunL.nil ?_; refine AW.ret ?_
      refine rq ?_
      exact ret_pe (by exact .inr rfl) (by exact rfl) (by exact rfl) tleaf (by exact rfl)
    | false =>
    cases hw : decide (0 < p.2.ws.length) with
    | true =>
      have hw' : decide ((((strRows p.2.ws).length : Nat) : Int) > 0) = true := by have := of_decide_eq_true hw; exact decide_eq_true (by simp only [strRows, List.length_map]; omega)
      rw [if_pos (by rfl)]
      refine RunL.mem (by exact rfl) (loc_allocD rfl rfl) ?_; refine RunL.eff (by exact rfl) (loc_storeW rfl rfl rfl rfl (by exact rfl) (by exact rfl)) ?_; refine RunL.nil ?_; refine AW.seq ?_; refine AW.seq ?_; refine AW.region (by kernel_rfl) ?_; refine RunL.val (by exact rfl) (loc_moveC rfl) ?_; refine RunL.val (by exact rfl) (loc_nilCheck rfl rfl) ?_; refine RunL.val (by exact rfl) (loc_fieldAddr rfl) ?_; refine RunL.val (by exact rfl) (loc_load rfl rfl rfl) ?_; refine RunL.val (by exact rfl) (loc_moveC rfl) ?_; refine RunL.val (by exact .inl ⟨_, _, rfl, rfl, guard_eq false (by assumption) rfl⟩) (loc_moveC rfl) ?_; refine RunL.val (by exact .inl ⟨_, _, rfl, rfl, guard_eq false (by assumption) rfl⟩) (loc_nilCheck rfl rfl) ?_; refine RunL.val (by exact .inl ⟨_, _, rfl, rfl, guard_eq false (by assumption) rfl⟩) (loc_fieldAddr rfl) ?_; refine RunL.val (by exact .inl ⟨_, _, rfl, rfl, guard_eq false (by assumption) rfl⟩) (loc_load rfl rfl rfl) ?_; refine RunL.val (by exact .inl ⟨_, _, rfl, rfl, guard_eq false (by assumption) rfl⟩) (loc_lenSl rfl) ?_; refine RunL.val (by exact .inl ⟨_, _, rfl, rfl, guard_eq false (by assumption) rfl⟩) (loc_binInt rfl rfl rfl) ?_; refine RunL.val (by exact rfl) (loc_pickI false (by assumption) rfl rfl) ?_; refine RunL.val (by exact rfl) (loc_moveC rfl) ?_; refine RunL.skip (.inl ⟨_, _, rfl, rfl, guard_eq true (by assumption) rfl⟩) ?_; refine RunL.skip (.inl ⟨_, _, rfl, rfl, guard_eq true (by assumption) rfl⟩) ?_; refine RunL.skip (.inl ⟨_, _, rfl, rfl, guard_eq true (by assumption) rfl⟩) ?_; refine RunL.val (by exact rfl) (loc_pickI true (by assumption) rfl rfl) ?_; refine RunL.nil ?_; refine AW.condT (by exact rfl) ?_; refine AW.seq ?_; refine AW.region (by kernel_rfl) ?_; refine RunL.val (by exact rfl) (loc_build (by exact rfl) (by exact Cut.all (by exact rfl)) (by exact rfl)) ?_; refine RunL.eff (by exact rfl) (loc_storeW rfl rfl rfl rfl (by exact rfl) (by exact rfl)) ?_; refine RunL.val (by exact rfl) (loc_assignC rfl) ?_; refine RunL.nil ?_; refine AW.ret ?_
      refine rq ?_
      exact ret_pe (by exact .inr rfl) (by exact rfl) (by exact rfl) tleaf (by exact rfl)
    | false =>
      have hw' : decide ((((strRows p.2.ws).length : Nat) : Int) > 0) = false := by have := of_decide_eq_false hw; exact decide_eq_false (by simp only [strRows, List.length_map]; omega)
      have hn : p.1.nodes ≤ 1048576 := by have := (hro.2 hb).1; simp only at this; omega
      refine RunL.mem (by exact rfl) (loc_allocD rfl rfl) ?_; refine RunL.eff (by exact rfl) (loc_storeW rfl rfl rfl rfl (by exact rfl) (by exact rfl)) ?_; refine RunL.nil ?_; refine AW.seq ?_; refine AW.seq ?_; refine AW.region (by kernel_rfl) ?_; refine RunL.val (by exact rfl) (loc_moveC rfl) ?_; refine RunL.val (by exact rfl) (loc_nilCheck rfl rfl) ?_; refine RunL.val (by exact rfl) (loc_fieldAddr rfl) ?_; refine RunL.val (by exact rfl) (loc_load rfl rfl rfl) ?_; refine RunL.val (by exact rfl) (loc_moveC rfl) ?_; refine RunL.val (by exact .inl ⟨_, _, rfl, rfl, guard_eq false (by assumption) rfl⟩) (loc_moveC rfl) ?_; refine RunL.val (by exact .inl ⟨_, _, rfl, rfl, guard_eq false (by assumption) rfl⟩) (loc_nilCheck rfl rfl) ?_; refine RunL.val (by exact .inl ⟨_, _, rfl, rfl, guard_eq false (by assumption) rfl⟩) (loc_fieldAddr rfl) ?_; refine RunL.val (by exact .inl ⟨_, _, rfl, rfl, guard_eq false (by assumption) rfl⟩) (loc_load rfl rfl rfl) ?_; refine RunL.val (by exact .inl ⟨_, _, rfl, rfl, guard_eq false (by assumption) rfl⟩) (loc_lenSl rfl) ?_; refine RunL.val (by exact .inl ⟨_, _, rfl, rfl, guard_eq false (by assumption) rfl⟩) (loc_binInt rfl rfl rfl) ?_; refine RunL.val (by exact rfl) (loc_pickI false (by assumption) rfl rfl) ?_; refine RunL.val (by exact rfl) (loc_moveC rfl) ?_; refine RunL.val (by exact .inl ⟨_, _, rfl, rfl, guard_eq false (by assumption) rfl⟩) (loc_loadA rfl rfl (by exact Cut.all (by exact rfl))) ?_
      refine RunL.val (by exact .inl ⟨_, _, rfl, rfl, guard_eq false (by assumption) rfl⟩) (loc_fun (tGood_a p.1 0 hro.1 hn) rfl (by refine ⟨_, _, rfl, (by exact LeU.of_eq rfl trivial), (by (refine And.intro ?_ ?_; exact trivial; refine And.intro ?_ ?_; exact trivial; refine And.intro ?_ ?_; exact trivial; refine And.intro ?_ ?_; exact trivial; refine And.intro ?_ ?_; exact trivial; refine And.intro ?_ ?_; exact trivial; refine And.intro ?_ ?_; exact trivial; exact trivial; done)), ?_⟩; refine ⟨_, _, rfl, (by exact LeU.of_eq rfl trivial), (by exact trivial), ?_⟩; exact rfl)) ?_
      cases hg : p.1.Good 0 with
      | true =>
        rw [if_neg (by decide)]
        refine RunL.val (by exact .inl ⟨_, _, rfl, rfl, guard_eq false (by assumption) rfl⟩) (loc_not rfl) ?_; refine RunL.val (by exact rfl) (loc_pickI false (by assumption) rfl rfl) ?_; refine RunL.nil ?_; refine AW.condF (by exact rfl) ?_; refine AW.skip ?_; refine AW.seq ?_; refine AW.region (by kernel_rfl) ?_; refine RunL.val (by exact rfl) (loc_loadA rfl rfl (by exact Cut.all (by exact rfl))) ?_; refine RunL.eff (by exact rfl) (loc_storeW rfl rfl rfl rfl (by exact rfl) (by exact rfl)) ?_; refine RunL.val (by exact rfl) (loc_assignC rfl) ?_; refine RunL.nil ?_; refine AW.ret ?_
        refine rq ?_
        exact ret_pe (by exact .inr rfl) (by exact rfl) (by exact rfl) (by exact wkRow_refl _) (by exact rfl)
      | false =>
        rw [if_pos (by rfl)]
        refine RunL.val (by exact .inl ⟨_, _, rfl, rfl, guard_eq false (by assumption) rfl⟩) (loc_not rfl) ?_; refine RunL.val (by exact rfl) (loc_pickI false (by assumption) rfl rfl) ?_; refine RunL.nil ?_; refine AW.condT (by exact rfl) ?_; refine AW.seq ?_; refine AW.region (by kernel_rfl) ?_; refine RunL.val (by exact rfl) (loc_build (by exact rfl) (by exact Cut.all (by exact rfl)) (by exact rfl)) ?_; refine RunL.eff (by exact rfl) (loc_storeW rfl rfl rfl rfl (by exact rfl) (by exact rfl)) ?_; refine RunL.val (by exact rfl) (loc_assignC rfl) ?_; refine RunL.nil ?_; refine AW.ret ?_
        refine rq ?_
        exact ret_pe (by exact .inr rfl) (by exact rfl) (by exact rfl) tleaf (by exact rfl)
end Go.Proofs.YtnflnbdlgdjfmabDoor
namespace Go.Proofs.YtnflnbdlgdjfmabDoor
open Go.RowKit
set_option linter.unusedVariables false
set_option linter.unusedSimpArgs false
set_option maxRecDepth 100000
attribute [local irreducible] RunL AW LocOp ACalls Gh
def termsS : ByteArray := ⟨#[40, 102, 117, 110, 32, 40, 116, 111, 32, 110, 117, 109, 32, 97, 110, 121, 41, 32, 40, 99, 97, 108, 108, 32, 35, 48, 32, 55, 41, 41]⟩
def termsT : Tm := .mk 7 0 (.to .num .any) .any [.mk 8 0 .any .any [.mk 1 0 .any .any [], .mk 2 7 .any .any []]]
theorem terms_parse : parse termsS = (termsT, 0) := by kernel_rfl
theorem terms_print : print termsT = (termsS, 0) := by kernel_rfl
theorem termsT_ok : TmOk termsT := by have := (parse_ok termsS).1; rw [terms_parse] at this; exact this
theorem sEq_refl (a : ByteArray) : sEq a a = true := by simp [sEq]
theorem sameT_rfl2 : ∀ a : Tm, a.same a = true := fun a => by
  induction a using Tm.ind' with
  | h a ih =>
  rw [sameT_eta, same_refl, same_refl]
  have : ∀ l : List Tm, (∀ x ∈ l, x.same x = true) → sameTL l l = true := by
    intro l
    induction l with
    | nil => intro _; rfl
    | cons b l ihl => intro h; simp only [sameTL]; rw [h b (List.mem_cons_self ..), ihl fun x hx => h x (List.mem_cons_of_mem _ hx)]; rfl
  rw [this a.l ih]
  simp
set_option maxHeartbeats 2000000 in
theorem kterms_a : ACalls Tryd.prog 12 [] [] (.one (.bool true)) [] := by
  have h1 := parse_a termsS
  unfold parseU at h1
  rw [terms_parse] at h1
  have h2 := print_a termsT termsT_ok (by decide)
  unfold printU at h2
  rw [terms_print] at h2
  have h3 := nodes_a termsT (by decide)
  refine acalls_of_body Tryd.func12 rfl (by kernel_rfl) (Nat.le_of_ble_eq_true rfl) trivial (by simp [namesL]) ?_
  refine AW.seq ?_; refine AW.region (by kernel_rfl) ?_; refine RunL.val (by exact rfl) (loc_assignC rfl) ?_; refine RunL.nil ?_; refine AW.seq ?_; refine AW.region (by kernel_rfl) ?_
  refine RunL.val (by exact rfl) (loc_fun (h1) rfl (by refine ⟨_, _, rfl, (by exact LeU.of_eq rfl trivial), (by exact trivial), ?_⟩; exact rfl)) ?_
  refine RunL.val (by exact rfl) (loc_moveT rfl) ?_; refine RunL.val (by exact rfl) (loc_extractA rfl rfl) ?_; refine RunL.val (by exact rfl) (loc_extractC rfl rfl) ?_; refine RunL.mem (by exact rfl) (loc_allocD rfl rfl) ?_; refine RunL.eff (by exact rfl) (loc_storeW rfl rfl rfl rfl (by exact rfl) (by exact rfl)) ?_; refine RunL.val (by exact rfl) (loc_assignC rfl) ?_; refine RunL.nil ?_; refine AW.seq ?_; refine AW.region (by kernel_rfl) ?_; refine RunL.val (by exact rfl) (loc_loadA rfl rfl (by exact Cut.all (by exact rfl))) ?_
  refine RunL.val (by exact rfl) (loc_fun (h2) rfl (by refine ⟨_, _, rfl, (by exact LeU.of_eq rfl trivial), (by (refine And.intro ?_ ?_; exact trivial; refine And.intro ?_ ?_; exact trivial; refine And.intro ?_ ?_; exact trivial; refine And.intro ?_ ?_; exact trivial; refine And.intro ?_ ?_; exact trivial; refine And.intro ?_ ?_; exact trivial; refine And.intro ?_ ?_; exact trivial; exact trivial; done)), ?_⟩; exact rfl)) ?_
  refine RunL.val (by exact rfl) (loc_moveT rfl) ?_; refine RunL.val (by exact rfl) (loc_extractC rfl rfl) ?_; refine RunL.val (by exact rfl) (loc_extractC rfl rfl) ?_; refine RunL.val (by exact rfl) (loc_assignC rfl) ?_; refine RunL.val (by exact rfl) (loc_assignC rfl) ?_; refine RunL.nil ?_; refine AW.seq ?_; refine AW.region (by kernel_rfl) ?_; refine RunL.val (by exact rfl) (loc_moveC rfl) ?_; refine RunL.val (by exact rfl) (loc_binInt rfl rfl rfl) ?_; refine RunL.val (by exact rfl) (loc_moveC rfl) ?_; refine RunL.val (by exact .inl ⟨_, _, rfl, rfl, rfl⟩) (loc_moveC rfl) ?_; refine RunL.val (by exact .inl ⟨_, _, rfl, rfl, rfl⟩) (loc_binInt rfl rfl rfl) ?_; refine RunL.val (by exact rfl) (loc_pickT rfl rfl) ?_; refine RunL.val (by exact rfl) (loc_moveC rfl) ?_; refine RunL.val (by exact .inl ⟨_, _, rfl, rfl, rfl⟩) (loc_fieldAddr rfl) ?_; refine RunL.val (by exact .inl ⟨_, _, rfl, rfl, rfl⟩) (loc_load rfl rfl rfl) ?_; refine RunL.val (by exact .inl ⟨_, _, rfl, rfl, rfl⟩) (loc_binInt rfl rfl rfl) ?_; refine RunL.val (by exact rfl) (loc_pickT rfl rfl) ?_; refine RunL.val (by exact rfl) (loc_moveC rfl) ?_; refine RunL.val (by exact .inl ⟨_, _, rfl, rfl, rfl⟩) (loc_loadA rfl rfl (by exact Cut.all (by exact rfl))) ?_
  refine RunL.val (by exact .inl ⟨_, _, rfl, rfl, rfl⟩) (loc_fun (h3) rfl (by refine ⟨_, _, rfl, (by exact LeU.of_eq rfl trivial), (by (refine And.intro ?_ ?_; exact trivial; refine And.intro ?_ ?_; exact trivial; refine And.intro ?_ ?_; exact trivial; refine And.intro ?_ ?_; exact trivial; refine And.intro ?_ ?_; exact trivial; refine And.intro ?_ ?_; exact trivial; refine And.intro ?_ ?_; exact trivial; exact trivial; done)), ?_⟩; exact rfl)) ?_
  refine RunL.val (by exact .inl ⟨_, _, rfl, rfl, rfl⟩) (loc_binInt rfl rfl rfl) ?_; refine RunL.val (by exact rfl) (loc_pickT rfl rfl) ?_; refine RunL.val (by exact rfl) (loc_moveC rfl) ?_; refine RunL.val (by exact .inl ⟨_, _, rfl, rfl, rfl⟩) (loc_moveC rfl) ?_
  refine RunL.val (by exact .inl ⟨_, _, rfl, rfl, rfl⟩) (loc_eqStr (a := termsS) (b := termsS) (by exact rfl) (by exact rfl)) ?_
  rw [sEq_refl]
  refine RunL.val (by exact rfl) (loc_pickT rfl rfl) ?_; refine RunL.val (by exact rfl) (loc_assignC rfl) ?_; refine RunL.nil ?_; refine AW.ret ?_
  exact ret_same (.inr rfl) rfl trivial
set_option maxHeartbeats 4000000 in
theorem termBack_a (a : Tm) (s : ByteArray) (hok : TmOk a) (hsz : a.nodes ≤ 1048576) : ACalls Tryd.prog 3 [a.u, .one (.str s)] [] (.one (.bool true)) [] := by
  have hp := print_a a hok hsz
  unfold printU at hp
  have hb := print_back a
  have hok2 := parse_ok s
  have hps := parse_a s
  unfold parseU at hps
  generalize print a = q at hp hb
  obtain ⟨y, e⟩ := q
  dsimp only at hp hb
  generalize parse s = q at hps hok2
  obtain ⟨u, f⟩ := q
  dsimp only at hps hok2
  have hp2 := print_a u hok2.1 (by omega)
  unfold printU at hp2
  have hb2 := print_back u
  generalize print u = q at hp2 hb2
  obtain ⟨y2, g⟩ := q
  dsimp only at hp2 hb2
  have hsu := tsame_a u u
  rw [sameT_rfl2] at hsu
  have hsa := tsame_a a a
  rw [sameT_rfl2] at hsa
  refine acalls_of_body Tryd.func3 rfl (by kernel_rfl) (Nat.le_of_ble_eq_true rfl) trivial (by simp [namesL]) ?_
  refine AW.seq ?_; refine AW.region (by kernel_rfl) ?_; refine RunL.mem (by exact rfl) (loc_boxD rfl rfl rfl) ?_; refine RunL.val (by exact rfl) (loc_assignC rfl) ?_; refine RunL.nil ?_; refine AW.seq ?_; refine AW.region (by kernel_rfl) ?_; refine RunL.val (by exact rfl) (loc_loadA rfl rfl (by exact Cut.all (by exact rfl))) ?_
  refine RunL.val (by exact rfl) (loc_fun (hp) rfl (by refine ⟨_, _, rfl, (by exact LeU.of_eq rfl trivial), (by (refine And.intro ?_ ?_; exact trivial; refine And.intro ?_ ?_; exact trivial; refine And.intro ?_ ?_; exact trivial; refine And.intro ?_ ?_; exact trivial; refine And.intro ?_ ?_; exact trivial; refine And.intro ?_ ?_; exact trivial; refine And.intro ?_ ?_; exact trivial; exact trivial; done)), ?_⟩; exact rfl)) ?_
  refine RunL.val (by exact rfl) (loc_moveT rfl) ?_; refine RunL.val (by exact rfl) (loc_extractC rfl rfl) ?_; refine RunL.val (by exact rfl) (loc_extractC rfl rfl) ?_; refine RunL.val (by exact rfl) (loc_assignC rfl) ?_; refine RunL.val (by exact rfl) (loc_assignC rfl) ?_; refine RunL.nil ?_
  refine AW.seq ?_
  refine AW.midB (fun t h => t = tOfL [(1, .one (.str s)), (4, .one (.bool false))] ∧ h = ofL []) ?_ ?_
  · have hpy := parse_a y
    unfold parseU at hpy
    cases he : (e == 0) with
    | false =>
      generalize parse y = q at hpy
      obtain ⟨v, k⟩ := q
      dsimp only at hpy
      refine AW.seq ?_; refine AW.region (by kernel_rfl) ?_; refine RunL.val (by exact rfl) (loc_moveC rfl) ?_
      refine RunL.val (by exact rfl) (loc_fun (hpy) rfl (by refine ⟨_, _, rfl, (by exact LeU.of_eq rfl trivial), (by exact trivial), ?_⟩; exact rfl)) ?_
      refine RunL.val (by exact rfl) (loc_moveT rfl) ?_; refine RunL.val (by exact rfl) (loc_extractA rfl rfl) ?_; refine RunL.val (by exact rfl) (loc_extractC rfl rfl) ?_; refine RunL.mem (by exact rfl) (loc_allocD rfl rfl) ?_; refine RunL.eff (by exact rfl) (loc_storeW rfl rfl rfl rfl (by exact rfl) (by exact rfl)) ?_; refine RunL.val (by exact rfl) (loc_assignC rfl) ?_; refine RunL.nil ?_; refine AW.seq ?_; refine AW.region (by kernel_rfl) ?_; refine RunL.val (by exact rfl) (loc_moveC rfl) ?_; refine RunL.val (by exact rfl) (loc_binInt rfl rfl rfl) ?_; refine RunL.val (by exact rfl) (loc_moveC rfl) ?_; refine RunL.skip (.inl ⟨_, _, rfl, rfl, guard_eq false (by assumption) rfl⟩) ?_; refine RunL.skip (.inl ⟨_, _, rfl, rfl, guard_eq false (by assumption) rfl⟩) ?_; refine RunL.skip (.inl ⟨_, _, rfl, rfl, guard_eq false (by assumption) rfl⟩) ?_; refine RunL.skip (.inr ⟨rfl, _, rfl, rfl⟩) ?_; refine RunL.skip (.inr ⟨rfl, _, rfl, rfl⟩) ?_; refine RunL.skip (.inr ⟨rfl, _, rfl, rfl⟩) ?_; refine RunL.skip (.inr ⟨rfl, _, rfl, rfl⟩) ?_; refine RunL.skip (.inl ⟨_, _, rfl, rfl, guard_eq false (by assumption) rfl⟩) ?_; refine RunL.val (by exact rfl) (loc_pickI false (by assumption) rfl rfl) ?_; refine RunL.nil ?_; refine AW.condF (by exact rfl) ?_; refine AW.skip ?_
      exact ⟨_, _, (gh_lit [(1, .one (.str s)), (4, .one (.bool false))] [] [] [] ⟨(by exact WkU.of_eq rfl trivial), (WkU.of_eq rfl trivial), trivial⟩ trivial trivial trivial rfl rfl ⟨trivial, trivial, trivial⟩ trivial), rfl, rfl⟩
    | true =>
      rw [hb (by simpa using he)] at hpy
      dsimp only at hpy
      refine AW.seq ?_; refine AW.region (by kernel_rfl) ?_; refine RunL.val (by exact rfl) (loc_moveC rfl) ?_
      refine RunL.val (by exact rfl) (loc_fun (hpy) rfl (by refine ⟨_, _, rfl, (by exact LeU.of_eq rfl trivial), (by exact trivial), ?_⟩; exact rfl)) ?_
      refine RunL.val (by exact rfl) (loc_moveT rfl) ?_; refine RunL.val (by exact rfl) (loc_extractA rfl rfl) ?_; refine RunL.val (by exact rfl) (loc_extractC rfl rfl) ?_; refine RunL.mem (by exact rfl) (loc_allocD rfl rfl) ?_; refine RunL.eff (by exact rfl) (loc_storeW rfl rfl rfl rfl (by exact rfl) (by exact rfl)) ?_; refine RunL.val (by exact rfl) (loc_assignC rfl) ?_; refine RunL.nil ?_; refine AW.seq ?_; refine AW.region (by kernel_rfl) ?_; refine RunL.val (by exact rfl) (loc_moveC rfl) ?_; refine RunL.val (by exact rfl) (loc_binInt rfl rfl rfl) ?_; refine RunL.val (by exact rfl) (loc_moveC rfl) ?_; refine RunL.val (by exact .inl ⟨_, _, rfl, rfl, guard_eq true (by assumption) rfl⟩) (loc_moveC rfl) ?_; refine RunL.val (by exact .inl ⟨_, _, rfl, rfl, guard_eq true (by assumption) rfl⟩) (loc_binInt rfl rfl rfl) ?_; refine RunL.val (by exact .inl ⟨_, _, rfl, rfl, guard_eq true (by assumption) rfl⟩) (loc_moveC rfl) ?_; refine RunL.val (by exact .inl ⟨_, _, rfl, rfl, rfl⟩) (loc_loadA rfl rfl (by exact Cut.all (by exact rfl))) ?_; refine RunL.val (by exact .inl ⟨_, _, rfl, rfl, rfl⟩) (loc_loadA rfl rfl (by exact Cut.all (by exact rfl))) ?_
      refine RunL.val (by exact .inl ⟨_, _, rfl, rfl, rfl⟩) (loc_fun (hsa) rfl (by refine ⟨_, _, rfl, (by exact LeU.of_eq rfl trivial), (by (refine And.intro ?_ ?_; exact trivial; refine And.intro ?_ ?_; exact trivial; refine And.intro ?_ ?_; exact trivial; refine And.intro ?_ ?_; exact trivial; refine And.intro ?_ ?_; exact trivial; refine And.intro ?_ ?_; exact trivial; refine And.intro ?_ ?_; exact trivial; exact trivial; done)), ?_⟩; refine ⟨_, _, rfl, (by exact LeU.of_eq rfl trivial), (by (refine And.intro ?_ ?_; exact trivial; refine And.intro ?_ ?_; exact trivial; refine And.intro ?_ ?_; exact trivial; refine And.intro ?_ ?_; exact trivial; refine And.intro ?_ ?_; exact trivial; refine And.intro ?_ ?_; exact trivial; refine And.intro ?_ ?_; exact trivial; exact trivial; done)), ?_⟩; exact rfl)) ?_
      refine RunL.val (by exact .inl ⟨_, _, rfl, rfl, rfl⟩) (loc_not rfl) ?_; refine RunL.val (by exact .inl ⟨_, _, rfl, rfl, guard_eq true (by assumption) rfl⟩) (loc_pickF rfl rfl) ?_; refine RunL.val (by exact rfl) (loc_pickI true (by assumption) rfl rfl) ?_; refine RunL.nil ?_; refine AW.condF (by exact rfl) ?_; refine AW.skip ?_
      exact ⟨_, _, (gh_lit [(1, .one (.str s)), (4, .one (.bool false))] [] [] [] ⟨(by exact WkU.of_eq rfl trivial), (WkU.of_eq rfl trivial), trivial⟩ trivial trivial trivial rfl rfl ⟨trivial, trivial, trivial⟩ trivial), rfl, rfl⟩
  · rintro t h ⟨rfl, rfl⟩
    clear hp hb
    cases hf : (f != 0) with
    | true =>
      refine AW.seq ?_; refine AW.region (by kernel_rfl) ?_; refine RunL.val (by exact rfl) (loc_moveC rfl) ?_
      refine RunL.val (by exact rfl) (loc_fun (hps) rfl (by refine ⟨_, _, rfl, (by exact LeU.of_eq rfl trivial), (by exact trivial), ?_⟩; exact rfl)) ?_
      refine RunL.val (by exact rfl) (loc_moveT rfl) ?_; refine RunL.val (by exact rfl) (loc_extractA rfl rfl) ?_; refine RunL.val (by exact rfl) (loc_extractC rfl rfl) ?_; refine RunL.mem (by exact rfl) (loc_allocD rfl rfl) ?_; refine RunL.eff (by exact rfl) (loc_storeW rfl rfl rfl rfl (by exact rfl) (by exact rfl)) ?_; refine RunL.val (by exact rfl) (loc_assignC rfl) ?_; refine RunL.nil ?_; refine AW.seq ?_; refine AW.region (by kernel_rfl) ?_; refine RunL.val (by exact rfl) (loc_loadA rfl rfl (by exact Cut.all (by exact rfl))) ?_
      refine RunL.val (by exact rfl) (loc_fun (hp2) rfl (by refine ⟨_, _, rfl, (by exact LeU.of_eq rfl trivial), (by (refine And.intro ?_ ?_; exact trivial; refine And.intro ?_ ?_; exact trivial; refine And.intro ?_ ?_; exact trivial; refine And.intro ?_ ?_; exact trivial; refine And.intro ?_ ?_; exact trivial; refine And.intro ?_ ?_; exact trivial; refine And.intro ?_ ?_; exact trivial; exact trivial; done)), ?_⟩; exact rfl)) ?_
      refine RunL.val (by exact rfl) (loc_moveT rfl) ?_; refine RunL.val (by exact rfl) (loc_extractC rfl rfl) ?_; refine RunL.val (by exact rfl) (loc_extractC rfl rfl) ?_; refine RunL.val (by exact rfl) (loc_assignC rfl) ?_; refine RunL.val (by exact rfl) (loc_assignC rfl) ?_; refine RunL.nil ?_; refine AW.seq ?_; refine AW.seq ?_; refine AW.region (by kernel_rfl) ?_; refine RunL.val (by exact rfl) (loc_moveC rfl) ?_; refine RunL.val (by exact rfl) (loc_binInt rfl rfl rfl) ?_; refine RunL.val (by exact rfl) (loc_moveC rfl) ?_; refine RunL.skip (.inl ⟨_, _, rfl, rfl, guard_eq true (by assumption) rfl⟩) ?_; refine RunL.skip (.inl ⟨_, _, rfl, rfl, guard_eq true (by assumption) rfl⟩) ?_; refine RunL.val (by exact rfl) (loc_pickI true (by assumption) rfl rfl) ?_; refine RunL.nil ?_; refine AW.condT (by exact rfl) ?_; refine AW.seq ?_; refine AW.region (by kernel_rfl) ?_
      refine RunL.val (by exact rfl) (loc_fun (kterms_a) rfl (by exact rfl)) ?_
      refine RunL.val (by exact rfl) (loc_assignC rfl) ?_; refine RunL.nil ?_; refine AW.ret ?_
      exact ret_same (.inr rfl) rfl trivial
    | false =>
    cases hgg : (g != 0) with
    | true =>
      refine AW.seq ?_; refine AW.region (by kernel_rfl) ?_; refine RunL.val (by exact rfl) (loc_moveC rfl) ?_
      refine RunL.val (by exact rfl) (loc_fun (hps) rfl (by refine ⟨_, _, rfl, (by exact LeU.of_eq rfl trivial), (by exact trivial), ?_⟩; exact rfl)) ?_
      refine RunL.val (by exact rfl) (loc_moveT rfl) ?_; refine RunL.val (by exact rfl) (loc_extractA rfl rfl) ?_; refine RunL.val (by exact rfl) (loc_extractC rfl rfl) ?_; refine RunL.mem (by exact rfl) (loc_allocD rfl rfl) ?_; refine RunL.eff (by exact rfl) (loc_storeW rfl rfl rfl rfl (by exact rfl) (by exact rfl)) ?_; refine RunL.val (by exact rfl) (loc_assignC rfl) ?_; refine RunL.nil ?_; refine AW.seq ?_; refine AW.region (by kernel_rfl) ?_; refine RunL.val (by exact rfl) (loc_loadA rfl rfl (by exact Cut.all (by exact rfl))) ?_
      refine RunL.val (by exact rfl) (loc_fun (hp2) rfl (by refine ⟨_, _, rfl, (by exact LeU.of_eq rfl trivial), (by (refine And.intro ?_ ?_; exact trivial; refine And.intro ?_ ?_; exact trivial; refine And.intro ?_ ?_; exact trivial; refine And.intro ?_ ?_; exact trivial; refine And.intro ?_ ?_; exact trivial; refine And.intro ?_ ?_; exact trivial; refine And.intro ?_ ?_; exact trivial; exact trivial; done)), ?_⟩; exact rfl)) ?_
      refine RunL.val (by exact rfl) (loc_moveT rfl) ?_; refine RunL.val (by exact rfl) (loc_extractC rfl rfl) ?_; refine RunL.val (by exact rfl) (loc_extractC rfl rfl) ?_; refine RunL.val (by exact rfl) (loc_assignC rfl) ?_; refine RunL.val (by exact rfl) (loc_assignC rfl) ?_; refine RunL.nil ?_; refine AW.seq ?_; refine AW.seq ?_; refine AW.region (by kernel_rfl) ?_; refine RunL.val (by exact rfl) (loc_moveC rfl) ?_; refine RunL.val (by exact rfl) (loc_binInt rfl rfl rfl) ?_; refine RunL.val (by exact rfl) (loc_moveC rfl) ?_; refine RunL.val (by exact .inl ⟨_, _, rfl, rfl, guard_eq false (by assumption) rfl⟩) (loc_moveC rfl) ?_; refine RunL.val (by exact .inl ⟨_, _, rfl, rfl, guard_eq false (by assumption) rfl⟩) (loc_binInt rfl rfl rfl) ?_; refine RunL.val (by exact rfl) (loc_pickI false (by assumption) rfl rfl) ?_; refine RunL.nil ?_; refine AW.condTa (by exact rfl) (by assumption) ?_; refine AW.seq ?_; refine AW.region (by kernel_rfl) ?_
      refine RunL.val (by exact rfl) (loc_fun (kterms_a) rfl (by exact rfl)) ?_
      refine RunL.val (by exact rfl) (loc_assignC rfl) ?_; refine RunL.nil ?_; refine AW.ret ?_
      exact ret_same (.inr rfl) rfl trivial
    | false =>
      have hpy := parse_a y2
      unfold parseU at hpy
      rw [hb2 (by simpa using hgg)] at hpy
      dsimp only at hpy
      refine AW.seq ?_; refine AW.region (by kernel_rfl) ?_; refine RunL.val (by exact rfl) (loc_moveC rfl) ?_
      refine RunL.val (by exact rfl) (loc_fun (hps) rfl (by refine ⟨_, _, rfl, (by exact LeU.of_eq rfl trivial), (by exact trivial), ?_⟩; exact rfl)) ?_
      refine RunL.val (by exact rfl) (loc_moveT rfl) ?_; refine RunL.val (by exact rfl) (loc_extractA rfl rfl) ?_; refine RunL.val (by exact rfl) (loc_extractC rfl rfl) ?_; refine RunL.mem (by exact rfl) (loc_allocD rfl rfl) ?_; refine RunL.eff (by exact rfl) (loc_storeW rfl rfl rfl rfl (by exact rfl) (by exact rfl)) ?_; refine RunL.val (by exact rfl) (loc_assignC rfl) ?_; refine RunL.nil ?_; refine AW.seq ?_; refine AW.region (by kernel_rfl) ?_; refine RunL.val (by exact rfl) (loc_loadA rfl rfl (by exact Cut.all (by exact rfl))) ?_
      refine RunL.val (by exact rfl) (loc_fun (hp2) rfl (by refine ⟨_, _, rfl, (by exact LeU.of_eq rfl trivial), (by (refine And.intro ?_ ?_; exact trivial; refine And.intro ?_ ?_; exact trivial; refine And.intro ?_ ?_; exact trivial; refine And.intro ?_ ?_; exact trivial; refine And.intro ?_ ?_; exact trivial; refine And.intro ?_ ?_; exact trivial; refine And.intro ?_ ?_; exact trivial; exact trivial; done)), ?_⟩; exact rfl)) ?_
      refine RunL.val (by exact rfl) (loc_moveT rfl) ?_; refine RunL.val (by exact rfl) (loc_extractC rfl rfl) ?_; refine RunL.val (by exact rfl) (loc_extractC rfl rfl) ?_; refine RunL.val (by exact rfl) (loc_assignC rfl) ?_; refine RunL.val (by exact rfl) (loc_assignC rfl) ?_; refine RunL.nil ?_; refine AW.seq ?_; refine AW.seq ?_; refine AW.region (by kernel_rfl) ?_; refine RunL.val (by exact rfl) (loc_moveC rfl) ?_; refine RunL.val (by exact rfl) (loc_binInt rfl rfl rfl) ?_; refine RunL.val (by exact rfl) (loc_moveC rfl) ?_; refine RunL.val (by exact .inl ⟨_, _, rfl, rfl, guard_eq false (by assumption) rfl⟩) (loc_moveC rfl) ?_; refine RunL.val (by exact .inl ⟨_, _, rfl, rfl, guard_eq false (by assumption) rfl⟩) (loc_binInt rfl rfl rfl) ?_; refine RunL.val (by exact rfl) (loc_pickI false (by assumption) rfl rfl) ?_; refine RunL.nil ?_; refine AW.condFa (by exact rfl) (by assumption) ?_; refine AW.skip ?_; refine AW.seq ?_; refine AW.region (by kernel_rfl) ?_; refine RunL.val (by exact rfl) (loc_moveC rfl) ?_
      refine RunL.val (by exact rfl) (loc_fun (hpy) rfl (by refine ⟨_, _, rfl, (by exact LeU.of_eq rfl trivial), (by exact trivial), ?_⟩; exact rfl)) ?_
      refine RunL.val (by exact rfl) (loc_moveT rfl) ?_; refine RunL.val (by exact rfl) (loc_extractA rfl rfl) ?_; refine RunL.val (by exact rfl) (loc_extractC rfl rfl) ?_; refine RunL.mem (by exact rfl) (loc_allocD rfl rfl) ?_; refine RunL.eff (by exact rfl) (loc_storeW rfl rfl rfl rfl (by exact rfl) (by exact rfl)) ?_; refine RunL.val (by exact rfl) (loc_assignC rfl) ?_; refine RunL.nil ?_; refine AW.seq ?_; refine AW.region (by kernel_rfl) ?_; refine RunL.val (by exact rfl) (loc_moveC rfl) ?_; refine RunL.val (by exact rfl) (loc_binInt rfl rfl rfl) ?_; refine RunL.val (by exact rfl) (loc_moveC rfl) ?_; refine RunL.val (by exact .inl ⟨_, _, rfl, rfl, rfl⟩) (loc_loadA rfl rfl (by exact Cut.all (by exact rfl))) ?_; refine RunL.val (by exact .inl ⟨_, _, rfl, rfl, rfl⟩) (loc_loadA rfl rfl (by exact Cut.all (by exact rfl))) ?_
      refine RunL.val (by exact .inl ⟨_, _, rfl, rfl, rfl⟩) (loc_fun (hsu) rfl (by refine ⟨_, _, rfl, (by exact LeU.of_eq rfl trivial), (by (refine And.intro ?_ ?_; exact trivial; refine And.intro ?_ ?_; exact trivial; refine And.intro ?_ ?_; exact trivial; refine And.intro ?_ ?_; exact trivial; refine And.intro ?_ ?_; exact trivial; refine And.intro ?_ ?_; exact trivial; refine And.intro ?_ ?_; exact trivial; exact trivial; done)), ?_⟩; refine ⟨_, _, rfl, (by exact LeU.of_eq rfl trivial), (by (refine And.intro ?_ ?_; exact trivial; refine And.intro ?_ ?_; exact trivial; refine And.intro ?_ ?_; exact trivial; refine And.intro ?_ ?_; exact trivial; refine And.intro ?_ ?_; exact trivial; refine And.intro ?_ ?_; exact trivial; refine And.intro ?_ ?_; exact trivial; exact trivial; done)), ?_⟩; exact rfl)) ?_
      refine RunL.val (by exact rfl) (loc_pickT rfl rfl) ?_; refine RunL.val (by exact rfl) (loc_moveC rfl) ?_
      refine RunL.val (by exact .inl ⟨_, _, rfl, rfl, rfl⟩) (loc_fun (kterms_a) rfl (by exact rfl)) ?_
      refine RunL.val (by exact rfl) (loc_pickT rfl rfl) ?_; refine RunL.val (by exact rfl) (loc_assignC rfl) ?_; refine RunL.nil ?_; refine AW.ret ?_
      exact ret_same (.inr rfl) rfl trivial
end Go.Proofs.YtnflnbdlgdjfmabDoor
