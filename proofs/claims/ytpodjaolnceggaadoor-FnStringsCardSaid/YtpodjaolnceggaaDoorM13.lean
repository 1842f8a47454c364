/- Part 13 of the proof: an abstract machine over the translated code, the functions' contracts, and the plain law. -/
import Derived.Shelf.Strings.Builder1
import Derived.Shelf.Strings.Builder2
import Derived.Shelf.Strings.OnBuilder
import Derived.Shelf.Strings.Trim
import Derived.Shelf.Small.Utf8
import Derived.Shelf.Small.Strs
import Derived.Shelf.Strings.BuilderF
import Derived.Shelf.Strings.BuilderK
import Derived.Shelf.Utf8.RuneCount
import Derived.Shelf.Strings.Builder2Cap
import Derived.Shelf.Strconv.Atoi
import Derived.Shelf.Strconv.Itoa0
import Derived.Shelf.Strconv.Itoa1
import Derived.Shelf.LaysM
import Derived.Shelf.Strconv.Itoa2
import Derived.Shelf.Strconv.Itoa3
import Derived.Shelf.Strconv.AtoiErrFast
import Derived.Shelf.Strconv.ParseIntEmpty
import Derived.Shelf.Strconv.AtoiFail
import Derived.Shelf.Strconv.Clone
import Derived.Shelf.Strconv.SyntaxError
import Derived.Shelf.LaysC
import Derived.Shelf.Strconv.ToError
import Derived.Shelf.Strconv.Lower
import Derived.Shelf.Strconv.ParseUint10
import Derived.Shelf.Strconv.ParseUint10Empty
import Derived.Shelf.Strconv.ParseUint10Any
import Derived.Shelf.Strconv.ParseInt10
import Derived.Shelf.Strconv.AtoiLong
import Derived.Shelf.Strconv.AtoiInnerAll
import Derived.Shelf.Strconv.RangeError
import Derived.Shelf.Strconv.ToErrorRange
import Derived.Shelf.Strconv.AtoiAll
import Derived.Shelf.Strconv.ParseUintEmpty
import Derived.Shelf.Strconv.ParseUint10b64
import Derived.Shelf.Strconv.ParseUint10b32
import Derived.Shelf.Strconv.ParseUint10b16
import Derived.Shelf.Strconv.ParseUint10b8
import Derived.Shelf.Strings.Search1
import Derived.Shelf.Strings.Search2
import Derived.Shelf.Strings.Search3
import Derived.Shelf.Strings.Cut
import Derived.Shelf.Strings.Count
import Derived.Shelf.Strings.Shaped
import Derived.Shelf.Strings.Prefix
import Derived.Shelf.Strings.Split
import Derived.Shelf.Strings.SplitShaped
import Derived.Shelf.Unicode.Decode
import Derived.Shelf.Strings.Runes
import Derived.Shelf.Strings.RuneCount
import Derived.Shelf.Strings.AsciiSet
import Derived.Shelf.Strings.Explode
import Derived.Shelf.Bits.Mul64
import Derived.Shelf.Unicode.DecodeSlow
import Derived.Shelf.Unicode.DecodeAny
import Derived.Shelf.Unicode.DecodeLast
import Derived.Shelf.Slices.Turned
import Derived.Test.YtpodjaolnceggaaDoorM12
set_option linter.unusedSimpArgs false
set_option linter.unusedVariables false
set_option linter.unusedSectionVars false
section
namespace Go.Proofs
open Go.Shelf

def Tryd.laysM171_ren : Go.Shelf.Ren := ⟨fun | 171 => 125 | 243 => 193 | 246 => 217 | 283 => 236 | 284 => 237 | 285 => 238 | 286 => 239 | 129 => 255 | 317 => 254 | 318 => 256 | 319 => 257 | 320 => 258 | 337 => 266 | 338 => 267 | n => n, fun | 3 => 3 | 9 => 9 | 2 => 2 | 4 => 4 | 171 => 194 | 0 => 0 | 53 => 102 | 37 => 22 | 5 => 5 | 173 => 197 | 212 => 213 | 51 => 187 | 20 => 20 | 213 => 214 | 46 => 164 | 232 => 228 | 233 => 229 | n => n, fun | 17 => 3 | 18 => 6 | 19 => 7 | n => n⟩
theorem Tryd.laysM171 : Go.Proofs.LaysM.n171 Tryd.prog Tryd.laysM171_ren := {
  mixed := by kernel_rfl
  f129 := Tryd.func255.trans (congrArg some (by kernel_rfl))
  f171 := Tryd.func125.trans (congrArg some (by kernel_rfl))
  f243 := Tryd.func193.trans (congrArg some (by kernel_rfl))
  f246 := Tryd.func217.trans (congrArg some (by kernel_rfl))
  f283 := Tryd.func236.trans (congrArg some (by kernel_rfl))
  f284 := Tryd.func237.trans (congrArg some (by kernel_rfl))
  f285 := Tryd.func238.trans (congrArg some (by kernel_rfl))
  f286 := Tryd.func239.trans (congrArg some (by kernel_rfl))
  f317 := Tryd.func254.trans (congrArg some (by kernel_rfl))
  f318 := Tryd.func256.trans (congrArg some (by kernel_rfl))
  f319 := Tryd.func257.trans (congrArg some (by kernel_rfl))
  f320 := Tryd.func258.trans (congrArg some (by kernel_rfl))
  f337 := Tryd.func266.trans (congrArg some (by kernel_rfl))
  f338 := Tryd.func267.trans (congrArg some (by kernel_rfl))
  t0 := Tryd.underlying0
  a0 := Tryd.isAgg0
  z0 := Tryd.sizeOf0
  v0 := Tryd.zeroValue0
  t2 := Tryd.underlying2
  a2 := Tryd.isAgg2
  z2 := Tryd.sizeOf2
  v2 := Tryd.zeroValue2
  t3 := Tryd.underlying3
  a3 := Tryd.isAgg3
  z3 := Tryd.sizeOf3
  v3 := Tryd.zeroValue3
  t4 := Tryd.underlying4
  a4 := Tryd.isAgg4
  z4 := Tryd.sizeOf4
  v4 := Tryd.zeroValue4
  t5 := Tryd.underlying5
  a5 := Tryd.isAgg5
  z5 := Tryd.sizeOf5
  v5 := Tryd.zeroValue5
  t9 := Tryd.underlying9
  a9 := Tryd.isAgg9
  z9 := Tryd.sizeOf9
  v9 := Tryd.zeroValue9
  t20 := Tryd.underlying20
  a20 := Tryd.isAgg20
  z20 := Tryd.sizeOf20
  v20 := Tryd.zeroValue20
  t37 := Tryd.underlying22
  a37 := Tryd.isAgg22
  z37 := Tryd.sizeOf22
  v37 := Tryd.zeroValue22
  t46 := Tryd.underlying164
  a46 := Tryd.isAgg164
  z46 := Tryd.sizeOf164
  v46 := Tryd.zeroValue164
  t51 := Tryd.underlying187
  a51 := Tryd.isAgg187
  z51 := Tryd.sizeOf187
  v51 := Tryd.zeroValue187
  t53 := Tryd.underlying102
  a53 := Tryd.isAgg102
  z53 := Tryd.sizeOf102
  v53 := Tryd.zeroValue102
  t171 := Tryd.underlying194
  a171 := Tryd.isAgg194
  z171 := Tryd.sizeOf194
  v171 := Tryd.zeroValue194
  t173 := Tryd.underlying197
  a173 := Tryd.isAgg197
  z173 := Tryd.sizeOf197
  v173 := Tryd.zeroValue197
  t212 := Tryd.underlying213
  a212 := Tryd.isAgg213
  z212 := Tryd.sizeOf213
  v212 := Tryd.zeroValue213
  t213 := Tryd.underlying214
  a213 := Tryd.isAgg214
  z213 := Tryd.sizeOf214
  t232 := Tryd.underlying228
  a232 := Tryd.isAgg228
  z232 := Tryd.sizeOf228
  v232 := Tryd.zeroValue228
  t233 := Tryd.underlying229
  a233 := Tryd.isAgg229
  z233 := Tryd.sizeOf229
  v233 := Tryd.zeroValue229
  g17 := by kernel_rfl
  g18 := by kernel_rfl
  g19 := by kernel_rfl
  i0 := by kernel_rfl
  i2 := by kernel_rfl
  i3 := by kernel_rfl
  i4 := by kernel_rfl
  i5 := by kernel_rfl
  i9 := by kernel_rfl
  i20 := by kernel_rfl
  i37 := by kernel_rfl
  i46 := by kernel_rfl
  i51 := by kernel_rfl
  i53 := by kernel_rfl
  i171 := by kernel_rfl
  i173 := by kernel_rfl
  i212 := by kernel_rfl
  i232 := by kernel_rfl
  i233 := by kernel_rfl
  m17 := by kernel_rfl
  m18 := by kernel_rfl
  m19 := by kernel_rfl }
open Go.RowKit Go.Sort Go.Lib in
theorem Tryd.strconv_Itoa (n : Int) (h0 : -9223372036854775808 ≤ n) (h1 : n ≤ 9223372036854775807) (w : World) (htab : Lib.TabIs Tryd.prog w "internal/strconv.uint64pow10" .u64 Lib.pow10Tab) :
    Calls Tryd.prog 125 #[.int .i64 n] w fun e w' => e = .returned (.string ⟨(Lib.itoa n).toArray⟩) ∧ ∃ k os, w' = grow (w.drewN k) os := Any.strconv_Itoa Tryd.laysM171 n h0 h1 w htab
def Tryd.laysC172_ren : Go.Shelf.Ren := ⟨fun | 172 => 128 | 244 => 194 | 245 => 195 | 247 => 218 | 279 => 219 | 280 => 220 | 281 => 221 | 282 => 222 | 287 => 240 | 316 => 241 | 171 => 125 | 205 => 242 | 321 => 259 | 322 => 260 | 243 => 193 | 246 => 217 | 283 => 236 | 284 => 237 | 285 => 238 | 286 => 239 | 129 => 255 | 317 => 254 | 318 => 256 | 319 => 257 | 320 => 258 | 337 => 266 | 338 => 267 | n => n, fun | 9 => 9 | 3 => 3 | 75 => 126 | 76 => 127 | 4 => 4 | 5 => 5 | 167 => 174 | 37 => 22 | 0 => 0 | 85 => 175 | 2 => 2 | 168 => 177 | 53 => 102 | 175 => 199 | 46 => 164 | 210 => 202 | 127 => 193 | 145 => 219 | 143 => 217 | 21 => 21 | 171 => 194 | 173 => 197 | 212 => 213 | 51 => 187 | 20 => 20 | 213 => 214 | 232 => 228 | 233 => 229 | 80 => 129 | n => n, fun | 15 => 1 | 16 => 2 | 17 => 3 | 18 => 6 | 19 => 7 | n => n⟩
theorem Tryd.laysC172 : Go.Proofs.LaysC.n172 Tryd.prog Tryd.laysC172_ren := {
  mixed := by kernel_rfl
  f129 := Tryd.func255.trans (congrArg some (by kernel_rfl))
  f171 := Tryd.func125.trans (congrArg some (by kernel_rfl))
  f172 := Tryd.func128.trans (congrArg some (by kernel_rfl))
  f205 := Tryd.func242.trans (congrArg some (by kernel_rfl))
  f243 := Tryd.func193.trans (congrArg some (by kernel_rfl))
  f244 := Tryd.func194.trans (congrArg some (by kernel_rfl))
  f245 := Tryd.func195.trans (congrArg some (by kernel_rfl))
  f246 := Tryd.func217.trans (congrArg some (by kernel_rfl))
  f247 := Tryd.func218.trans (congrArg some (by kernel_rfl))
  f279 := Tryd.func219.trans (congrArg some (by kernel_rfl))
  f280 := Tryd.func220.trans (congrArg some (by kernel_rfl))
  f281 := Tryd.func221.trans (congrArg some (by kernel_rfl))
  f282 := Tryd.func222.trans (congrArg some (by kernel_rfl))
  f283 := Tryd.func236.trans (congrArg some (by kernel_rfl))
  f284 := Tryd.func237.trans (congrArg some (by kernel_rfl))
  f285 := Tryd.func238.trans (congrArg some (by kernel_rfl))
  f286 := Tryd.func239.trans (congrArg some (by kernel_rfl))
  f287 := Tryd.func240.trans (congrArg some (by kernel_rfl))
  f316 := Tryd.func241.trans (congrArg some (by kernel_rfl))
  f317 := Tryd.func254.trans (congrArg some (by kernel_rfl))
  f318 := Tryd.func256.trans (congrArg some (by kernel_rfl))
  f319 := Tryd.func257.trans (congrArg some (by kernel_rfl))
  f320 := Tryd.func258.trans (congrArg some (by kernel_rfl))
  f321 := Tryd.func259.trans (congrArg some (by kernel_rfl))
  f322 := Tryd.func260.trans (congrArg some (by kernel_rfl))
  f337 := Tryd.func266.trans (congrArg some (by kernel_rfl))
  f338 := Tryd.func267.trans (congrArg some (by kernel_rfl))
  t0 := Tryd.underlying0
  a0 := Tryd.isAgg0
  z0 := Tryd.sizeOf0
  v0 := Tryd.zeroValue0
  t2 := Tryd.underlying2
  a2 := Tryd.isAgg2
  z2 := Tryd.sizeOf2
  v2 := Tryd.zeroValue2
  t3 := Tryd.underlying3
  a3 := Tryd.isAgg3
  z3 := Tryd.sizeOf3
  v3 := Tryd.zeroValue3
  t4 := Tryd.underlying4
  a4 := Tryd.isAgg4
  z4 := Tryd.sizeOf4
  v4 := Tryd.zeroValue4
  t5 := Tryd.underlying5
  a5 := Tryd.isAgg5
  z5 := Tryd.sizeOf5
  v5 := Tryd.zeroValue5
  t9 := Tryd.underlying9
  a9 := Tryd.isAgg9
  z9 := Tryd.sizeOf9
  v9 := Tryd.zeroValue9
  t20 := Tryd.underlying20
  a20 := Tryd.isAgg20
  z20 := Tryd.sizeOf20
  v20 := Tryd.zeroValue20
  t21 := Tryd.underlying21
  a21 := Tryd.isAgg21
  z21 := Tryd.sizeOf21
  v21 := Tryd.zeroValue21
  t37 := Tryd.underlying22
  a37 := Tryd.isAgg22
  z37 := Tryd.sizeOf22
  v37 := Tryd.zeroValue22
  t46 := Tryd.underlying164
  a46 := Tryd.isAgg164
  z46 := Tryd.sizeOf164
  v46 := Tryd.zeroValue164
  t51 := Tryd.underlying187
  a51 := Tryd.isAgg187
  z51 := Tryd.sizeOf187
  v51 := Tryd.zeroValue187
  t53 := Tryd.underlying102
  a53 := Tryd.isAgg102
  z53 := Tryd.sizeOf102
  v53 := Tryd.zeroValue102
  t75 := Tryd.underlying126
  a75 := Tryd.isAgg126
  z75 := Tryd.sizeOf126
  v75 := Tryd.zeroValue126
  t76 := Tryd.underlying127
  a76 := Tryd.isAgg127
  z76 := Tryd.sizeOf127
  v76 := Tryd.zeroValue127
  t85 := Tryd.underlying175
  a85 := Tryd.isAgg175
  z85 := Tryd.sizeOf175
  v85 := Tryd.zeroValue175
  t127 := Tryd.underlying193
  a127 := Tryd.isAgg193
  z127 := Tryd.sizeOf193
  v127 := Tryd.zeroValue193
  t143 := Tryd.underlying217
  a143 := Tryd.isAgg217
  z143 := Tryd.sizeOf217
  v143 := Tryd.zeroValue217
  t145 := Tryd.underlying219
  a145 := Tryd.isAgg219
  z145 := Tryd.sizeOf219
  v145 := Tryd.zeroValue219
  t167 := Tryd.underlying174
  a167 := Tryd.isAgg174
  z167 := Tryd.sizeOf174
  v167 := Tryd.zeroValue174
  t168 := Tryd.underlying177
  a168 := Tryd.isAgg177
  z168 := Tryd.sizeOf177
  v168 := Tryd.zeroValue177
  t171 := Tryd.underlying194
  a171 := Tryd.isAgg194
  z171 := Tryd.sizeOf194
  v171 := Tryd.zeroValue194
  t173 := Tryd.underlying197
  a173 := Tryd.isAgg197
  z173 := Tryd.sizeOf197
  v173 := Tryd.zeroValue197
  t175 := Tryd.underlying199
  a175 := Tryd.isAgg199
  z175 := Tryd.sizeOf199
  v175 := Tryd.zeroValue199
  t210 := Tryd.underlying202
  a210 := Tryd.isAgg202
  z210 := Tryd.sizeOf202
  v210 := Tryd.zeroValue202
  t212 := Tryd.underlying213
  a212 := Tryd.isAgg213
  z212 := Tryd.sizeOf213
  v212 := Tryd.zeroValue213
  t213 := Tryd.underlying214
  a213 := Tryd.isAgg214
  z213 := Tryd.sizeOf214
  t232 := Tryd.underlying228
  a232 := Tryd.isAgg228
  z232 := Tryd.sizeOf228
  v232 := Tryd.zeroValue228
  t233 := Tryd.underlying229
  a233 := Tryd.isAgg229
  z233 := Tryd.sizeOf229
  v233 := Tryd.zeroValue229
  g15 := by kernel_rfl
  g16 := by kernel_rfl
  g17 := by kernel_rfl
  g18 := by kernel_rfl
  g19 := by kernel_rfl
  t80 := Tryd.underlying129
  a80 := Tryd.isAgg129
  z80 := Tryd.sizeOf129
  v80 := Tryd.zeroValue129
  i0 := by kernel_rfl
  i2 := by kernel_rfl
  i3 := by kernel_rfl
  i4 := by kernel_rfl
  i5 := by kernel_rfl
  i9 := by kernel_rfl
  i20 := by kernel_rfl
  i21 := by kernel_rfl
  i37 := by kernel_rfl
  i46 := by kernel_rfl
  i51 := by kernel_rfl
  i53 := by kernel_rfl
  i75 := by kernel_rfl
  i76 := by kernel_rfl
  i80 := by kernel_rfl
  i85 := by kernel_rfl
  i127 := by kernel_rfl
  i143 := by kernel_rfl
  i145 := by kernel_rfl
  i167 := by kernel_rfl
  i168 := by kernel_rfl
  i171 := by kernel_rfl
  i173 := by kernel_rfl
  i175 := by kernel_rfl
  i210 := by kernel_rfl
  i212 := by kernel_rfl
  i232 := by kernel_rfl
  i233 := by kernel_rfl
  m15 := by kernel_rfl
  m16 := by kernel_rfl
  m17 := by kernel_rfl
  m18 := by kernel_rfl
  m19 := by kernel_rfl
  c0 := by kernel_rfl
  c2 := by kernel_rfl
  c3 := by kernel_rfl
  c4 := by kernel_rfl
  c5 := by kernel_rfl
  c9 := by kernel_rfl
  c20 := by kernel_rfl
  c21 := by kernel_rfl
  c37 := by kernel_rfl
  c46 := by kernel_rfl
  c51 := by kernel_rfl
  c53 := by kernel_rfl
  c75 := by kernel_rfl
  c76 := by kernel_rfl
  c80 := by kernel_rfl
  c85 := by kernel_rfl
  c127 := by kernel_rfl
  c143 := by kernel_rfl
  c145 := by kernel_rfl
  c167 := by kernel_rfl
  c168 := by kernel_rfl
  c171 := by kernel_rfl
  c173 := by kernel_rfl
  c175 := by kernel_rfl
  c210 := by kernel_rfl
  c212 := by kernel_rfl
  c213 := by kernel_rfl
  c232 := by kernel_rfl
  c233 := by kernel_rfl }
open Go.RowKit in
theorem Tryd.strconv_Atoi_ok (s : ByteArray) (hmax : s.size ≤ 9223372036854775806) (v : Int) (h : Lib.atoiAll s.data.toList = .ok v) (w : World) :
    Calls Tryd.prog 128 #[.string s] w fun e w' => e = .returned (.tuple #[.int .i64 v, .nilIface]) ∧ (w' = w ∨ ∃ t, w' = Lib.bytesWorld w 5 t) := Any.strconv_Atoi_ok Tryd.laysC172 s hmax v h w
open Go.RowKit in
theorem Tryd.strconv_Atoi_syntax (s : ByteArray) (hlim : s.size ≤ 281474976710656) (h : Lib.atoiAll s.data.toList = (Lib.atoiAll [])) (ev : Value) (w : World) (hv : w.cell? ⟨1, 0, none⟩ = some ev) (hev : ev = .nilIface ∨ ∃ te pe, ev = .iface te pe) :
    Calls Tryd.prog 128 #[.string s] w fun e w' => ∃ N, e = .returned (.tuple #[.int .i64 (0), .iface 177 (.pointer (some ⟨N, 0, none⟩))]) ∧ w.heap.size ≤ N ∧ w'.heap[N]? = some (.cells #[.string ⟨#[65, 116, 111, 105]⟩, .string s, ev] 202 (0, 0)) ∧ Below w.heap.size w w' := Any.strconv_Atoi_syntax Tryd.laysC172 s hlim h ev w hv hev
open Go.RowKit in
theorem Tryd.strconv_Atoi_range (s : ByteArray) (hlim : s.size ≤ 281474976710656) (h : Lib.atoiAll s.data.toList = .range) (ev : Value) (w : World) (hv : w.cell? ⟨2, 0, none⟩ = some ev) (hev : ev = .nilIface ∨ ∃ te pe, ev = .iface te pe) :
    Calls Tryd.prog 128 #[.string s] w fun e w' => ∃ N, e = .returned (.tuple #[.int .i64 (Lib.atoiSat s.data.toList), .iface 177 (.pointer (some ⟨N, 0, none⟩))]) ∧ w.heap.size ≤ N ∧ w'.heap[N]? = some (.cells #[.string ⟨#[65, 116, 111, 105]⟩, .string s, ev] 202 (0, 0)) ∧ Below w.heap.size w w' := Any.strconv_Atoi_range Tryd.laysC172 s hlim h ev w hv hev
def Tryd.lays144_ren : Go.Shelf.Ren := ⟨fun | 144 => 132 | 143 => 196 | 219 => 223 | 217 => 243 | 225 => 244 | 224 => 245 | 267 => 246 | 266 => 261 | 314 => 262 | n => n, fun | 9 => 9 | 4 => 4 | 3 => 3 | 5 => 5 | 46 => 164 | 146 => 188 | 51 => 187 | n => n, fun | 1 => 0 | n => n⟩
theorem Tryd.lays144 : Go.Proofs.Lays.n144 Tryd.prog Tryd.lays144_ren := {
  mixed := by kernel_rfl
  f143 := Tryd.func196.trans (congrArg some (by kernel_rfl))
  f144 := Tryd.func132.trans (congrArg some (by kernel_rfl))
  f217 := Tryd.func243.trans (congrArg some (by kernel_rfl))
  f219 := Tryd.func223.trans (congrArg some (by kernel_rfl))
  f224 := Tryd.func245.trans (congrArg some (by kernel_rfl))
  f225 := Tryd.func244.trans (congrArg some (by kernel_rfl))
  f266 := Tryd.func261.trans (congrArg some (by kernel_rfl))
  f267 := Tryd.func246.trans (congrArg some (by kernel_rfl))
  f314 := Tryd.func262.trans (congrArg some (by kernel_rfl))
  t3 := Tryd.underlying3
  a3 := Tryd.isAgg3
  z3 := Tryd.sizeOf3
  v3 := Tryd.zeroValue3
  t4 := Tryd.underlying4
  a4 := Tryd.isAgg4
  z4 := Tryd.sizeOf4
  v4 := Tryd.zeroValue4
  t5 := Tryd.underlying5
  a5 := Tryd.isAgg5
  z5 := Tryd.sizeOf5
  v5 := Tryd.zeroValue5
  t9 := Tryd.underlying9
  a9 := Tryd.isAgg9
  z9 := Tryd.sizeOf9
  v9 := Tryd.zeroValue9
  t46 := Tryd.underlying164
  a46 := Tryd.isAgg164
  z46 := Tryd.sizeOf164
  v46 := Tryd.zeroValue164
  t51 := Tryd.underlying187
  a51 := Tryd.isAgg187
  z51 := Tryd.sizeOf187
  v51 := Tryd.zeroValue187
  t146 := Tryd.underlying188
  a146 := Tryd.isAgg188
  z146 := Tryd.sizeOf188
  v146 := Tryd.zeroValue188
  g1 := by kernel_rfl }
open Go.RowKit Go.Lib in
theorem Tryd.strings_Contains (s sub : ByteArray) (m : Int) (w : World) (hs : s.size < 4294967281) (hm : w.cell? ⟨0, 0, none⟩ = some (.int .i64 m)) :
    Calls Tryd.prog 132 #[.string s, .string sub] w fun e w' => e = .returned (.bool (Lib.contains s.data.toList sub.data.toList)) ∧ w' = w := Any.strings_Contains Tryd.lays144 s sub m w hs hm
def Tryd.lays145_ren : Go.Shelf.Ren := ⟨fun | 145 => 135 | 220 => 198 | 219 => 223 | 217 => 243 | 225 => 244 | 224 => 245 | 267 => 246 | 266 => 261 | 314 => 262 | n => n, fun | 9 => 9 | 4 => 4 | 59 => 134 | 3 => 3 | 5 => 5 | 46 => 164 | 146 => 188 | 51 => 187 | n => n, fun | 1 => 0 | n => n⟩
theorem Tryd.lays145 : Go.Proofs.Lays.n145 Tryd.prog Tryd.lays145_ren := {
  mixed := by kernel_rfl
  f145 := Tryd.func135.trans (congrArg some (by kernel_rfl))
  f217 := Tryd.func243.trans (congrArg some (by kernel_rfl))
  f219 := Tryd.func223.trans (congrArg some (by kernel_rfl))
  f220 := Tryd.func198.trans (congrArg some (by kernel_rfl))
  f224 := Tryd.func245.trans (congrArg some (by kernel_rfl))
  f225 := Tryd.func244.trans (congrArg some (by kernel_rfl))
  f266 := Tryd.func261.trans (congrArg some (by kernel_rfl))
  f267 := Tryd.func246.trans (congrArg some (by kernel_rfl))
  f314 := Tryd.func262.trans (congrArg some (by kernel_rfl))
  t3 := Tryd.underlying3
  a3 := Tryd.isAgg3
  z3 := Tryd.sizeOf3
  v3 := Tryd.zeroValue3
  t4 := Tryd.underlying4
  a4 := Tryd.isAgg4
  z4 := Tryd.sizeOf4
  v4 := Tryd.zeroValue4
  t5 := Tryd.underlying5
  a5 := Tryd.isAgg5
  z5 := Tryd.sizeOf5
  v5 := Tryd.zeroValue5
  t9 := Tryd.underlying9
  a9 := Tryd.isAgg9
  z9 := Tryd.sizeOf9
  v9 := Tryd.zeroValue9
  t46 := Tryd.underlying164
  a46 := Tryd.isAgg164
  z46 := Tryd.sizeOf164
  v46 := Tryd.zeroValue164
  t51 := Tryd.underlying187
  a51 := Tryd.isAgg187
  z51 := Tryd.sizeOf187
  v51 := Tryd.zeroValue187
  t59 := Tryd.underlying134
  a59 := Tryd.isAgg134
  z59 := Tryd.sizeOf134
  v59 := Tryd.zeroValue134
  t146 := Tryd.underlying188
  a146 := Tryd.isAgg188
  z146 := Tryd.sizeOf188
  v146 := Tryd.zeroValue188
  g1 := by kernel_rfl }
open Go.RowKit Go.Lib in
theorem Tryd.strings_Cut (s sep : ByteArray) (m : Int) (w : World) (hs : s.size < 4294967281) (hm : w.cell? ⟨0, 0, none⟩ = some (.int .i64 m)) :
    Calls Tryd.prog 135 #[.string s, .string sep] w fun e w' => e = .returned (.tuple #[.string ⟨(Lib.cut s.data.toList sep.data.toList).1.toArray⟩, .string ⟨(Lib.cut s.data.toList sep.data.toList).2.1.toArray⟩, .bool (Lib.cut s.data.toList sep.data.toList).2.2]) ∧ ∃ n, w' = w.drewN n := Any.strings_Cut Tryd.lays145 s sep m w hs hm
end Go.Proofs
end
section
open Go AB
namespace S
open Go.Proofs
variable {G : GI}
/-- what the library's own tables and variables hold -/
class Env (G : GI) : Prop where
  pow : ∀ w, G.ok w → Lib.TabIs P w "internal/strconv.uint64pow10" .u64 Lib.pow10Tab
  maxlen : ∃ m, ∀ w, G.ok w → w.cell? ⟨0, 0, none⟩ = some (.int .i64 m)
  e1 : ∃ ev : Value, (ev = .nilIface ∨ ∃ te pe, ev = .iface te pe) ∧ ∀ w, G.ok w → w.cell? ⟨1, 0, none⟩ = some ev
  e2 : ∃ ev : Value, (ev = .nilIface ∨ ∃ te pe, ev = .iface te pe) ∧ ∀ w, G.ok w → w.cell? ⟨2, 0, none⟩ = some ev
theorem belowX {w w' : World} (h : RowKit.Below w.heap.size w w') : BelowX w.heap.size (fun _ => False) w w' := ⟨h.os, h.tape, h.output, h.size, fun k hk _ => h.block k hk⟩
/-- a number as text -/
def num (n : Int) : ByteArray := ⟨(Lib.itoa n).toArray⟩
def x_Itoa (a : Int) : Option ByteArray := if -9223372036854775808 ≤ a ∧ a ≤ 9223372036854775807 then some (num a) else none
theorem itoa_calls [hE : Env G] (w : World) (hG : G.ok w) (n : Int) (h0 : -9223372036854775808 ≤ n) (h1 : n ≤ 9223372036854775807) :
    Calls P 125 #[.int .i64 n] w fun e w' => e = .returned (.string (num n)) ∧ RowKit.Below w.heap.size w w' :=
  (Tryd.strconv_Itoa n h0 h1 w (hE.pow w hG)).mono (by
    rintro e w' ⟨rfl, k, os, rfl⟩
    refine ⟨rfl, rfl, rfl, rfl, ?_, fun b hb => ?_⟩
    · show w.heap.size ≤ (w.heap ++ os).size
      simp
    · show (w.heap ++ os)[b]? = _
      rw [Array.getElem?_append_left hb])
theorem x_Itoa_con [hE : Env G] (a : Int) (r : ByteArray) (h : x_Itoa a = some r) : Con P G 125 none [.val (.int .i64 a)] (.val (.string r)) none := by
  unfold x_Itoa at h
  split at h
  · rename_i hb
    cases h
    refine con_plain («as» := [.int .i64 a]) ⟨_, Tryd.func125, rfl, rfl⟩ fun w hG => (itoa_calls w hG a hb.1 hb.2).mono ?_
    rintro e w' ⟨rfl, hw⟩
    exact ⟨rfl, belowX hw⟩
  · cases h
def x_Contains (a b : ByteArray) : Option Bool := if a.size < 4294967281 then some (Lib.contains a.data.toList b.data.toList) else none
theorem x_Contains_con [hE : Env G] (a b : ByteArray) (r : Bool) (h : x_Contains a b = some r) : Con P G 132 none [.val (.string a), .val (.string b)] (.val (.bool r)) none := by
  unfold x_Contains at h
  split at h
  · rename_i hb
    cases h
    obtain ⟨m, hm⟩ := hE.maxlen
    refine con_plain («as» := [.string a, .string b]) ⟨_, Tryd.func132, rfl, rfl⟩ fun w hG => (Tryd.strings_Contains a b m w hb (hm w hG)).mono ?_
    rintro e w' ⟨rfl, rfl⟩
    exact ⟨rfl, BelowX.refl _ _ _⟩
  · cases h
def x_Cut (a b : ByteArray) : Option (ByteArray × ByteArray × Bool) :=
  if a.size < 4294967281 then some (⟨(Lib.cut a.data.toList b.data.toList).1.toArray⟩, ⟨(Lib.cut a.data.toList b.data.toList).2.1.toArray⟩, (Lib.cut a.data.toList b.data.toList).2.2) else none
theorem x_Cut_con [hE : Env G] (a b : ByteArray) (r1 r2 : ByteArray) (r3 : Bool) (h : x_Cut a b = some (r1, r2, r3)) : Con P G 135 none [.val (.string a), .val (.string b)] (.tup [.val (.string r1), .val (.string r2), .val (.bool r3)]) none := by
  unfold x_Cut at h
  split at h
  · rename_i hb
    cases h
    obtain ⟨m, hm⟩ := hE.maxlen
    refine con_plainT («as» := [.string a, .string b]) («vs» := [.string _, .string _, .bool _]) ⟨_, Tryd.func135, rfl, rfl⟩ fun w hG => (Tryd.strings_Cut a b m w hb (hm w hG)).mono ?_
    rintro e w' ⟨rfl, k, rfl⟩
    exact ⟨rfl, rfl, rfl, rfl, Nat.le_refl _, fun _ _ _ => rfl⟩
  · cases h
theorem std_seq (a b : ByteArray) : std.seq a b = decide (a = b) := by
  show (a.toList == b.toList) = _
  rw [Lib.toList_data, Lib.toList_data]
  by_cases h : a = b
  · subst h; simp
  · have : a.data ≠ b.data := fun e => h (by cases a; cases b; simp only [ByteArray.mk.injEq]; exact e)
    simp [h, this]
/-- the number that a text spells, and no other text does -/
def parse (a : ByteArray) : Int × Bool :=
  match Lib.atoiAll a.data.toList with
  | .ok n => if num n = a ∧ -999999 ≤ n ∧ n ≤ 999999 then (n, true) else (0, false)
  | _ => (0, false)
def x_ParseInt (a : ByteArray) : Option (Int × Bool) := if a.size ≤ 281474976710656 then some (parse a) else none
end S
end
