/- Texts laid together: Shelf, AmC, AmD, ShelfT, BiB, BiC, AmE, AmF, FloB, AmG, BiD, SvC. No statement is proved here. -/
import Derived.Shelf.Strings.OnBuilder
import Derived.Shelf.Strings.BuilderK
import Derived.Shelf.LaysM
import Derived.Shelf.Strconv.Itoa3
import Derived.Shelf.LaysC
import Derived.Shelf.Strconv.AtoiAll
import Derived.Shelf.Strconv.ErrVarAll
import Derived.Shelf.Strings.Cut
import Derived.Shelf.Strings.LastIndexAll
import Derived.Shelf.Strings.Split
import Derived.Ground.Names2Prog
import Derived.Ground.SlgnProg
import Derived.Ground.SlsfProg
import Derived.Test.YticmfflnenoplacGreatDoorProg
import Derived.Shelf.Spec.TrailingZeros
import Derived.Ground.Names7Prog
import Derived.Lib.SlBytesRow
import Derived.Test.YticmfflnenoplacGreatDoorQ02
namespace Go.Proofs
open Go.Shelf
def Tryz.lays169_ren : Go.Shelf.Ren := ⟨fun | 169 => 93 | n => n, fun | 70 => 170 | 9 => 9 | 0 => 0 | 72 => 173 | 37 => 171 | 127 => 224 | 3 => 3 | 5 => 5 | n => n, fun | n => n⟩
theorem Tryz.lays169 : Go.Proofs.Lays.n169 Tryz.prog Tryz.lays169_ren := {
  mixed := by kernel_rfl
  f169 := Tryz.func93.trans (congrArg some (by kernel_rfl))
  t0 := Tryz.underlying0
  a0 := Tryz.isAgg0
  z0 := Tryz.sizeOf0
  v0 := Tryz.zeroValue0
  t3 := Tryz.underlying3
  a3 := Tryz.isAgg3
  z3 := Tryz.sizeOf3
  v3 := Tryz.zeroValue3
  t9 := Tryz.underlying9
  a9 := Tryz.isAgg9
  z9 := Tryz.sizeOf9
  v9 := Tryz.zeroValue9
  t37 := Tryz.underlying171
  a37 := Tryz.isAgg171
  z37 := Tryz.sizeOf171
  v37 := Tryz.zeroValue171
  t70 := Tryz.underlying170
  a70 := Tryz.isAgg170
  z70 := Tryz.sizeOf170
  v70 := Tryz.zeroValue170
  t72 := Tryz.underlying173
  a72 := Tryz.isAgg173
  z72 := Tryz.sizeOf173
  v72 := Tryz.zeroValue173
  t127 := Tryz.underlying224
  a127 := Tryz.isAgg224
  z127 := Tryz.sizeOf224
  v127 := Tryz.zeroValue224 }
theorem Tryz.Builder_Extra_169 : Builder.Extra Tryz.prog Tryz.lays169_ren := {
  sizeBuilder := by kernel_rfl
  liesBuilder := by kernel_rfl
  t5 := Tryz.underlying5
  a5 := Tryz.isAgg5
  z5 := Tryz.sizeOf5
  v5 := Tryz.zeroValue5
  infoByte := by kernel_rfl
  cellsByte := by kernel_rfl
  sizeByte := by kernel_rfl
  neB5 := by decide }
def Tryz.lays156_ren : Go.Shelf.Ren := ⟨fun | 156 => 132 | 165 => 163 | 166 => 88 | 169 => 93 | 240 => 127 | 241 => 200 | 276 => 160 | 277 => 238 | n => n, fun | 31 => 96 | 9 => 9 | 3 => 3 | 4 => 4 | 0 => 0 | 20 => 20 | 72 => 173 | 76 => 174 | 70 => 170 | 37 => 171 | 75 => 26 | 127 => 224 | 164 => 263 | 5 => 5 | 80 => 180 | n => n, fun | n => n⟩
theorem Tryz.lays156 : Go.Proofs.Lays.n156 Tryz.prog Tryz.lays156_ren := {
  mixed := by kernel_rfl
  f156 := Tryz.func132.trans (congrArg some (by kernel_rfl))
  f165 := Tryz.func163.trans (congrArg some (by kernel_rfl))
  f166 := Tryz.func88.trans (congrArg some (by kernel_rfl))
  f169 := Tryz.func93.trans (congrArg some (by kernel_rfl))
  f240 := Tryz.func127.trans (congrArg some (by kernel_rfl))
  f241 := Tryz.func200.trans (congrArg some (by kernel_rfl))
  f276 := Tryz.func160.trans (congrArg some (by kernel_rfl))
  f277 := Tryz.func238.trans (congrArg some (by kernel_rfl))
  t0 := Tryz.underlying0
  a0 := Tryz.isAgg0
  z0 := Tryz.sizeOf0
  v0 := Tryz.zeroValue0
  t3 := Tryz.underlying3
  a3 := Tryz.isAgg3
  z3 := Tryz.sizeOf3
  v3 := Tryz.zeroValue3
  t4 := Tryz.underlying4
  a4 := Tryz.isAgg4
  z4 := Tryz.sizeOf4
  v4 := Tryz.zeroValue4
  t9 := Tryz.underlying9
  a9 := Tryz.isAgg9
  z9 := Tryz.sizeOf9
  v9 := Tryz.zeroValue9
  t20 := Tryz.underlying20
  a20 := Tryz.isAgg20
  z20 := Tryz.sizeOf20
  v20 := Tryz.zeroValue20
  t31 := Tryz.underlying96
  a31 := Tryz.isAgg96
  z31 := Tryz.sizeOf96
  v31 := Tryz.zeroValue96
  t37 := Tryz.underlying171
  a37 := Tryz.isAgg171
  z37 := Tryz.sizeOf171
  v37 := Tryz.zeroValue171
  t70 := Tryz.underlying170
  a70 := Tryz.isAgg170
  z70 := Tryz.sizeOf170
  v70 := Tryz.zeroValue170
  t72 := Tryz.underlying173
  a72 := Tryz.isAgg173
  z72 := Tryz.sizeOf173
  v72 := Tryz.zeroValue173
  t75 := Tryz.underlying26
  a75 := Tryz.isAgg26
  z75 := Tryz.sizeOf26
  v75 := Tryz.zeroValue26
  t76 := Tryz.underlying174
  a76 := Tryz.isAgg174
  z76 := Tryz.sizeOf174
  v76 := Tryz.zeroValue174
  t127 := Tryz.underlying224
  a127 := Tryz.isAgg224
  z127 := Tryz.sizeOf224
  v127 := Tryz.zeroValue224
  t164 := Tryz.underlying263
  a164 := Tryz.isAgg263
  z164 := Tryz.sizeOf263
  v164 := Tryz.zeroValue263 }
theorem Tryz.Builder_Extra_156 : Builder.Extra Tryz.prog Tryz.lays156_ren := {
  sizeBuilder := by kernel_rfl
  liesBuilder := by kernel_rfl
  t5 := Tryz.underlying5
  a5 := Tryz.isAgg5
  z5 := Tryz.sizeOf5
  v5 := Tryz.zeroValue5
  infoByte := by kernel_rfl
  cellsByte := by kernel_rfl
  sizeByte := by kernel_rfl
  neB5 := by decide }
open Go.RowKit in
/-- No element: the empty string; the world is as it was. (Whatever the slice's address and capacity: a nil slice too.) (LAID: no walk: one application.) -/
theorem Tryz.strings_Join_none (a : Option Addr) (c : Nat) (sep : ByteArray) (w : World) :
    Calls Tryz.prog 132 #[.slice a 0 c, .string sep] w fun e w' => e = .returned (.string ⟨#[]⟩) ∧ w' = w := Any.strings_Join_none Tryz.lays156 Tryz.Builder_Extra_156 a c sep w
open Go.RowKit in
/-- strings.Join: "Join concatenates the elements of its first argument to create a single string. The separator string sep is placed between elements in the resulting string.": HOWEVER MANY ELEMENTS. Below the heap's end the world is as it was. (LAID: no walk: one application.) -/
theorem Tryz.strings_Join (bk o c : Nat) (xs : List ByteArray) (sep : ByteArray) (w : World) (hcells : ∀ (j : Nat) x, xs[j]? = some x → w.cell? ⟨bk, o + j, none⟩ = some (.string x)) (hbk : bk < w.heap.size) (hN : xs.length ≤ 140737488355328) (hcap : xs.length ≤ c) (hlen : (Lib.join (xs.map (·.data.toList)) sep.data.toList).length ≤ 140737488355328) :
    Calls Tryz.prog 132 #[.slice (some ⟨bk, o, none⟩) xs.length c, .string sep] w fun e w' => e = .returned (.string ⟨(Lib.join (xs.map (·.data.toList)) sep.data.toList).toArray⟩) ∧ Below w.heap.size w w' := Any.strings_Join Tryz.lays156 Tryz.Builder_Extra_156 bk o c xs sep w hcells hbk hN hcap hlen
open Go.RowKit in
/-- (*strings.Builder).String: "String returns the accumulated string.": WHATEVER THE BUILDER HOLDS; THE FORM '_k': OVER 'Lib.IsBuilderF' (a builder that 'String()' may have read), AND WITH THE FRAME THAT REACHES ABOVE THE BUILDER: 'Lib.OthersKept': every block that is not b and is no row of uint8's stands as it stood: the iterator of a range among them. (LAID: no walk: one application.) -/
theorem Tryz.Builder_String_any_k (B b : Nat) (l : List UInt8) (w : World) (h : Lib.IsBuilderF 173 5 B b (Lib.byteCells l) w) (hBw : B ≤ w.heap.size) :
    Calls Tryz.prog 93 #[.pointer (some ⟨b, 0, none⟩)] w fun e w' => e = .returned (.string ⟨l.toArray⟩) ∧ (Lib.IsBuilderF 173 5 B b (Lib.byteCells l) w' ∧ Below B w w' ∧ Lib.OthersKept 5 (some b) w w') := Any.Builder_String_any_k Tryz.lays169 Tryz.Builder_Extra_169 B b l w h hBw
def Tryz.laysM171_ren : Go.Shelf.Ren := ⟨fun | 171 => 89 | 243 => 128 | 246 => 161 | 283 => 164 | 284 => 165 | 285 => 166 | 286 => 167 | 129 => 192 | 317 => 201 | 318 => 202 | 319 => 203 | 320 => 204 | 337 => 239 | 338 => 240 | n => n, fun | 3 => 3 | 9 => 9 | 2 => 2 | 4 => 4 | 171 => 267 | 0 => 0 | 53 => 37 | 37 => 171 | 5 => 5 | 173 => 269 | 212 => 299 | 51 => 182 | 20 => 20 | 213 => 300 | 46 => 83 | 232 => 335 | 233 => 336 | n => n, fun | 17 => 1 | 18 => 2 | 19 => 3 | n => n⟩
theorem Tryz.laysM171 : Go.Proofs.LaysM.n171 Tryz.prog Tryz.laysM171_ren := {
  mixed := by kernel_rfl
  f129 := Tryz.func192.trans (congrArg some (by kernel_rfl))
  f171 := Tryz.func89.trans (congrArg some (by kernel_rfl))
  f243 := Tryz.func128.trans (congrArg some (by kernel_rfl))
  f246 := Tryz.func161.trans (congrArg some (by kernel_rfl))
  f283 := Tryz.func164.trans (congrArg some (by kernel_rfl))
  f284 := Tryz.func165.trans (congrArg some (by kernel_rfl))
  f285 := Tryz.func166.trans (congrArg some (by kernel_rfl))
  f286 := Tryz.func167.trans (congrArg some (by kernel_rfl))
  f317 := Tryz.func201.trans (congrArg some (by kernel_rfl))
  f318 := Tryz.func202.trans (congrArg some (by kernel_rfl))
  f319 := Tryz.func203.trans (congrArg some (by kernel_rfl))
  f320 := Tryz.func204.trans (congrArg some (by kernel_rfl))
  f337 := Tryz.func239.trans (congrArg some (by kernel_rfl))
  f338 := Tryz.func240.trans (congrArg some (by kernel_rfl))
  t0 := Tryz.underlying0
  a0 := Tryz.isAgg0
  z0 := Tryz.sizeOf0
  v0 := Tryz.zeroValue0
  t2 := Tryz.underlying2
  a2 := Tryz.isAgg2
  z2 := Tryz.sizeOf2
  v2 := Tryz.zeroValue2
  t3 := Tryz.underlying3
  a3 := Tryz.isAgg3
  z3 := Tryz.sizeOf3
  v3 := Tryz.zeroValue3
  t4 := Tryz.underlying4
  a4 := Tryz.isAgg4
  z4 := Tryz.sizeOf4
  v4 := Tryz.zeroValue4
  t5 := Tryz.underlying5
  a5 := Tryz.isAgg5
  z5 := Tryz.sizeOf5
  v5 := Tryz.zeroValue5
  t9 := Tryz.underlying9
  a9 := Tryz.isAgg9
  z9 := Tryz.sizeOf9
  v9 := Tryz.zeroValue9
  t20 := Tryz.underlying20
  a20 := Tryz.isAgg20
  z20 := Tryz.sizeOf20
  v20 := Tryz.zeroValue20
  t37 := Tryz.underlying171
  a37 := Tryz.isAgg171
  z37 := Tryz.sizeOf171
  v37 := Tryz.zeroValue171
  t46 := Tryz.underlying83
  a46 := Tryz.isAgg83
  z46 := Tryz.sizeOf83
  v46 := Tryz.zeroValue83
  t51 := Tryz.underlying182
  a51 := Tryz.isAgg182
  z51 := Tryz.sizeOf182
  v51 := Tryz.zeroValue182
  t53 := Tryz.underlying37
  a53 := Tryz.isAgg37
  z53 := Tryz.sizeOf37
  v53 := Tryz.zeroValue37
  t171 := Tryz.underlying267
  a171 := Tryz.isAgg267
  z171 := Tryz.sizeOf267
  v171 := Tryz.zeroValue267
  t173 := Tryz.underlying269
  a173 := Tryz.isAgg269
  z173 := Tryz.sizeOf269
  v173 := Tryz.zeroValue269
  t212 := Tryz.underlying299
  a212 := Tryz.isAgg299
  z212 := Tryz.sizeOf299
  v212 := Tryz.zeroValue299
  t213 := Tryz.underlying300
  a213 := Tryz.isAgg300
  z213 := Tryz.sizeOf300
  t232 := Tryz.underlying335
  a232 := Tryz.isAgg335
  z232 := Tryz.sizeOf335
  v232 := Tryz.zeroValue335
  t233 := Tryz.underlying336
  a233 := Tryz.isAgg336
  z233 := Tryz.sizeOf336
  v233 := Tryz.zeroValue336
  g17 := by kernel_rfl
  g18 := by kernel_rfl
  g19 := by kernel_rfl
  i0 := by kernel_rfl
  i2 := by kernel_rfl
  i3 := by kernel_rfl
  i4 := by kernel_rfl
  i5 := by kernel_rfl
  i9 := by kernel_rfl
  i20 := by kernel_rfl
  i37 := by kernel_rfl
  i46 := by kernel_rfl
  i51 := by kernel_rfl
  i53 := by kernel_rfl
  i171 := by kernel_rfl
  i173 := by kernel_rfl
  i212 := by kernel_rfl
  i232 := by kernel_rfl
  i233 := by kernel_rfl
  m17 := by kernel_rfl
  m18 := by kernel_rfl
  m19 := by kernel_rfl }
open Go.RowKit Go.Sort Go.Lib in
/-- strconv.Itoa: "Itoa is equivalent to FormatInt(int64(i), 10).": i's DECIMAL NUMERAL ('Lib.itoa': a '-' where i is negative, then the digits), FOR EVERY int. The world behind the call: the world before it, new blocks behind the heap (the library's 'var a [24]byte'), draws. (LAID: no walk: one application.) -/
theorem Tryz.strconv_Itoa (n : Int) (h0 : -9223372036854775808 ≤ n) (h1 : n ≤ 9223372036854775807) (w : World) (htab : Lib.TabIs Tryz.prog w "internal/strconv.uint64pow10" .u64 Lib.pow10Tab) :
    Calls Tryz.prog 89 #[.int .i64 n] w fun e w' => e = .returned (.string ⟨(Lib.itoa n).toArray⟩) ∧ ∃ k os, w' = grow (w.drewN k) os := Any.strconv_Itoa Tryz.laysM171 n h0 h1 w htab
def Tryz.laysC172_ren : Go.Shelf.Ren := ⟨fun | 172 => 170 | 244 => 209 | 245 => 210 | 247 => 243 | 279 => 244 | 280 => 245 | 281 => 246 | 282 => 247 | 287 => 255 | 316 => 256 | 171 => 89 | 205 => 257 | 321 => 261 | 322 => 262 | 243 => 128 | 246 => 161 | 283 => 164 | 284 => 165 | 285 => 166 | 286 => 167 | 129 => 192 | 317 => 201 | 318 => 202 | 319 => 203 | 320 => 204 | 337 => 239 | 338 => 240 | n => n, fun | 9 => 9 | 3 => 3 | 75 => 26 | 76 => 174 | 4 => 4 | 5 => 5 | 167 => 322 | 37 => 171 | 0 => 0 | 85 => 323 | 2 => 2 | 168 => 325 | 53 => 37 | 175 => 337 | 46 => 83 | 210 => 341 | 127 => 224 | 145 => 352 | 143 => 350 | 21 => 21 | 171 => 267 | 173 => 269 | 212 => 299 | 51 => 182 | 20 => 20 | 213 => 300 | 232 => 335 | 233 => 336 | 80 => 180 | n => n, fun | 15 => 4 | 16 => 5 | 17 => 1 | 18 => 2 | 19 => 3 | n => n⟩
theorem Tryz.laysC172 : Go.Proofs.LaysC.n172 Tryz.prog Tryz.laysC172_ren := {
  mixed := by kernel_rfl
  f129 := Tryz.func192.trans (congrArg some (by kernel_rfl))
  f171 := Tryz.func89.trans (congrArg some (by kernel_rfl))
  f172 := Tryz.func170.trans (congrArg some (by kernel_rfl))
  f205 := Tryz.func257.trans (congrArg some (by kernel_rfl))
  f243 := Tryz.func128.trans (congrArg some (by kernel_rfl))
  f244 := Tryz.func209.trans (congrArg some (by kernel_rfl))
  f245 := Tryz.func210.trans (congrArg some (by kernel_rfl))
  f246 := Tryz.func161.trans (congrArg some (by kernel_rfl))
  f247 := Tryz.func243.trans (congrArg some (by kernel_rfl))
  f279 := Tryz.func244.trans (congrArg some (by kernel_rfl))
  f280 := Tryz.func245.trans (congrArg some (by kernel_rfl))
  f281 := Tryz.func246.trans (congrArg some (by kernel_rfl))
  f282 := Tryz.func247.trans (congrArg some (by kernel_rfl))
  f283 := Tryz.func164.trans (congrArg some (by kernel_rfl))
  f284 := Tryz.func165.trans (congrArg some (by kernel_rfl))
  f285 := Tryz.func166.trans (congrArg some (by kernel_rfl))
  f286 := Tryz.func167.trans (congrArg some (by kernel_rfl))
  f287 := Tryz.func255.trans (congrArg some (by kernel_rfl))
  f316 := Tryz.func256.trans (congrArg some (by kernel_rfl))
  f317 := Tryz.func201.trans (congrArg some (by kernel_rfl))
  f318 := Tryz.func202.trans (congrArg some (by kernel_rfl))
  f319 := Tryz.func203.trans (congrArg some (by kernel_rfl))
  f320 := Tryz.func204.trans (congrArg some (by kernel_rfl))
  f321 := Tryz.func261.trans (congrArg some (by kernel_rfl))
  f322 := Tryz.func262.trans (congrArg some (by kernel_rfl))
  f337 := Tryz.func239.trans (congrArg some (by kernel_rfl))
  f338 := Tryz.func240.trans (congrArg some (by kernel_rfl))
  t0 := Tryz.underlying0
  a0 := Tryz.isAgg0
  z0 := Tryz.sizeOf0
  v0 := Tryz.zeroValue0
  t2 := Tryz.underlying2
  a2 := Tryz.isAgg2
  z2 := Tryz.sizeOf2
  v2 := Tryz.zeroValue2
  t3 := Tryz.underlying3
  a3 := Tryz.isAgg3
  z3 := Tryz.sizeOf3
  v3 := Tryz.zeroValue3
  t4 := Tryz.underlying4
  a4 := Tryz.isAgg4
  z4 := Tryz.sizeOf4
  v4 := Tryz.zeroValue4
  t5 := Tryz.underlying5
  a5 := Tryz.isAgg5
  z5 := Tryz.sizeOf5
  v5 := Tryz.zeroValue5
  t9 := Tryz.underlying9
  a9 := Tryz.isAgg9
  z9 := Tryz.sizeOf9
  v9 := Tryz.zeroValue9
  t20 := Tryz.underlying20
  a20 := Tryz.isAgg20
  z20 := Tryz.sizeOf20
  v20 := Tryz.zeroValue20
  t21 := Tryz.underlying21
  a21 := Tryz.isAgg21
  z21 := Tryz.sizeOf21
  v21 := Tryz.zeroValue21
  t37 := Tryz.underlying171
  a37 := Tryz.isAgg171
  z37 := Tryz.sizeOf171
  v37 := Tryz.zeroValue171
  t46 := Tryz.underlying83
  a46 := Tryz.isAgg83
  z46 := Tryz.sizeOf83
  v46 := Tryz.zeroValue83
  t51 := Tryz.underlying182
  a51 := Tryz.isAgg182
  z51 := Tryz.sizeOf182
  v51 := Tryz.zeroValue182
  t53 := Tryz.underlying37
  a53 := Tryz.isAgg37
  z53 := Tryz.sizeOf37
  v53 := Tryz.zeroValue37
  t75 := Tryz.underlying26
  a75 := Tryz.isAgg26
  z75 := Tryz.sizeOf26
  v75 := Tryz.zeroValue26
  t76 := Tryz.underlying174
  a76 := Tryz.isAgg174
  z76 := Tryz.sizeOf174
  v76 := Tryz.zeroValue174
  t85 := Tryz.underlying323
  a85 := Tryz.isAgg323
  z85 := Tryz.sizeOf323
  v85 := Tryz.zeroValue323
  t127 := Tryz.underlying224
  a127 := Tryz.isAgg224
  z127 := Tryz.sizeOf224
  v127 := Tryz.zeroValue224
  t143 := Tryz.underlying350
  a143 := Tryz.isAgg350
  z143 := Tryz.sizeOf350
  v143 := Tryz.zeroValue350
  t145 := Tryz.underlying352
  a145 := Tryz.isAgg352
  z145 := Tryz.sizeOf352
  v145 := Tryz.zeroValue352
  t167 := Tryz.underlying322
  a167 := Tryz.isAgg322
  z167 := Tryz.sizeOf322
  v167 := Tryz.zeroValue322
  t168 := Tryz.underlying325
  a168 := Tryz.isAgg325
  z168 := Tryz.sizeOf325
  v168 := Tryz.zeroValue325
  t171 := Tryz.underlying267
  a171 := Tryz.isAgg267
  z171 := Tryz.sizeOf267
  v171 := Tryz.zeroValue267
  t173 := Tryz.underlying269
  a173 := Tryz.isAgg269
  z173 := Tryz.sizeOf269
  v173 := Tryz.zeroValue269
  t175 := Tryz.underlying337
  a175 := Tryz.isAgg337
  z175 := Tryz.sizeOf337
  v175 := Tryz.zeroValue337
  t210 := Tryz.underlying341
  a210 := Tryz.isAgg341
  z210 := Tryz.sizeOf341
  v210 := Tryz.zeroValue341
  t212 := Tryz.underlying299
  a212 := Tryz.isAgg299
  z212 := Tryz.sizeOf299
  v212 := Tryz.zeroValue299
  t213 := Tryz.underlying300
  a213 := Tryz.isAgg300
  z213 := Tryz.sizeOf300
  t232 := Tryz.underlying335
  a232 := Tryz.isAgg335
  z232 := Tryz.sizeOf335
  v232 := Tryz.zeroValue335
  t233 := Tryz.underlying336
  a233 := Tryz.isAgg336
  z233 := Tryz.sizeOf336
  v233 := Tryz.zeroValue336
  g15 := by kernel_rfl
  g16 := by kernel_rfl
  g17 := by kernel_rfl
  g18 := by kernel_rfl
  g19 := by kernel_rfl
  t80 := Tryz.underlying180
  a80 := Tryz.isAgg180
  z80 := Tryz.sizeOf180
  v80 := Tryz.zeroValue180
  i0 := by kernel_rfl
  i2 := by kernel_rfl
  i3 := by kernel_rfl
  i4 := by kernel_rfl
  i5 := by kernel_rfl
  i9 := by kernel_rfl
  i20 := by kernel_rfl
  i21 := by kernel_rfl
  i37 := by kernel_rfl
  i46 := by kernel_rfl
  i51 := by kernel_rfl
  i53 := by kernel_rfl
  i75 := by kernel_rfl
  i76 := by kernel_rfl
  i80 := by kernel_rfl
  i85 := by kernel_rfl
  i127 := by kernel_rfl
  i143 := by kernel_rfl
  i145 := by kernel_rfl
  i167 := by kernel_rfl
  i168 := by kernel_rfl
  i171 := by kernel_rfl
  i173 := by kernel_rfl
  i175 := by kernel_rfl
  i210 := by kernel_rfl
  i212 := by kernel_rfl
  i232 := by kernel_rfl
  i233 := by kernel_rfl
  m15 := by kernel_rfl
  m16 := by kernel_rfl
  m17 := by kernel_rfl
  m18 := by kernel_rfl
  m19 := by kernel_rfl
  c0 := by kernel_rfl
  c2 := by kernel_rfl
  c3 := by kernel_rfl
  c4 := by kernel_rfl
  c5 := by kernel_rfl
  c9 := by kernel_rfl
  c20 := by kernel_rfl
  c21 := by kernel_rfl
  c37 := by kernel_rfl
  c46 := by kernel_rfl
  c51 := by kernel_rfl
  c53 := by kernel_rfl
  c75 := by kernel_rfl
  c76 := by kernel_rfl
  c80 := by kernel_rfl
  c85 := by kernel_rfl
  c127 := by kernel_rfl
  c143 := by kernel_rfl
  c145 := by kernel_rfl
  c167 := by kernel_rfl
  c168 := by kernel_rfl
  c171 := by kernel_rfl
  c173 := by kernel_rfl
  c175 := by kernel_rfl
  c210 := by kernel_rfl
  c212 := by kernel_rfl
  c213 := by kernel_rfl
  c232 := by kernel_rfl
  c233 := by kernel_rfl }
open Go.RowKit in
/-- strconv.Atoi, AT EVERY STRING THAT SPELLS AN int ('Lib.atoiAll .. = .ok v'; of whatever length: leading zeros count): v, AND NO ERROR. The world: as it was, or with the one new row that '[]byte(..)' lays. (LAID: no walk: one application.) -/
theorem Tryz.strconv_Atoi_ok (s : ByteArray) (hmax : s.size ≤ 9223372036854775806) (v : Int) (h : Lib.atoiAll s.data.toList = .ok v) (w : World) :
    Calls Tryz.prog 170 #[.string s] w fun e w' => e = .returned (.tuple #[.int .i64 v, .nilIface]) ∧ (w' = w ∨ ∃ t, w' = Lib.bytesWorld w 5 t) := Any.strconv_Atoi_ok Tryz.laysC172 s hmax v h w
open Go.RowKit in
theorem Tryz.strconv_Atoi_syntax_var (s : ByteArray) (hlim : s.size ≤ 281474976710656) (h : Lib.atoiAll s.data.toList = .«syntax») (tp : TypeId) (p : Value) (w : World) (hvar : w.var? Tryz.prog "strconv.ErrSyntax" = some #[.iface tp p]) :
    Calls Tryz.prog 170 #[.string s] w fun e w' => ∃ N, e = .returned (.tuple #[.int .i64 0, .iface 325 (.pointer (some ⟨N, 0, none⟩))]) ∧ w.heap.size ≤ N ∧ w'.heap[N]? = some (.cells #[.string ⟨#[65, 116, 111, 105]⟩, .string s, .iface tp p] 341 (0, 0)) ∧ Below w.heap.size w w' := Any.strconv_Atoi_syntax_var Tryz.laysC172 s hlim h tp p w hvar
open Go.RowKit in
theorem Tryz.strconv_Atoi_range_var (s : ByteArray) (hlim : s.size ≤ 281474976710656) (h : Lib.atoiAll s.data.toList = .range) (tp : TypeId) (p : Value) (w : World) (hvar : w.var? Tryz.prog "strconv.ErrRange" = some #[.iface tp p]) :
    Calls Tryz.prog 170 #[.string s] w fun e w' => ∃ N, e = .returned (.tuple #[.int .i64 (Lib.atoiSat s.data.toList), .iface 325 (.pointer (some ⟨N, 0, none⟩))]) ∧ w.heap.size ≤ N ∧ w'.heap[N]? = some (.cells #[.string ⟨#[65, 116, 111, 105]⟩, .string s, .iface tp p] 341 (0, 0)) ∧ Below w.heap.size w w' := Any.strconv_Atoi_range_var Tryz.laysC172 s hlim h tp p w hvar
def Tryz.lays145_ren : Go.Shelf.Ren := ⟨fun | 145 => 99 | 220 => 136 | 219 => 169 | 217 => 205 | 225 => 206 | 224 => 207 | 267 => 208 | 266 => 241 | 314 => 242 | n => n, fun | 9 => 9 | 4 => 4 | 59 => 189 | 3 => 3 | 5 => 5 | 46 => 83 | 146 => 271 | 51 => 182 | n => n, fun | 1 => 0 | n => n⟩
theorem Tryz.lays145 : Go.Proofs.Lays.n145 Tryz.prog Tryz.lays145_ren := {
  mixed := by kernel_rfl
  f145 := Tryz.func99.trans (congrArg some (by kernel_rfl))
  f217 := Tryz.func205.trans (congrArg some (by kernel_rfl))
  f219 := Tryz.func169.trans (congrArg some (by kernel_rfl))
  f220 := Tryz.func136.trans (congrArg some (by kernel_rfl))
  f224 := Tryz.func207.trans (congrArg some (by kernel_rfl))
  f225 := Tryz.func206.trans (congrArg some (by kernel_rfl))
  f266 := Tryz.func241.trans (congrArg some (by kernel_rfl))
  f267 := Tryz.func208.trans (congrArg some (by kernel_rfl))
  f314 := Tryz.func242.trans (congrArg some (by kernel_rfl))
  t3 := Tryz.underlying3
  a3 := Tryz.isAgg3
  z3 := Tryz.sizeOf3
  v3 := Tryz.zeroValue3
  t4 := Tryz.underlying4
  a4 := Tryz.isAgg4
  z4 := Tryz.sizeOf4
  v4 := Tryz.zeroValue4
  t5 := Tryz.underlying5
  a5 := Tryz.isAgg5
  z5 := Tryz.sizeOf5
  v5 := Tryz.zeroValue5
  t9 := Tryz.underlying9
  a9 := Tryz.isAgg9
  z9 := Tryz.sizeOf9
  v9 := Tryz.zeroValue9
  t46 := Tryz.underlying83
  a46 := Tryz.isAgg83
  z46 := Tryz.sizeOf83
  v46 := Tryz.zeroValue83
  t51 := Tryz.underlying182
  a51 := Tryz.isAgg182
  z51 := Tryz.sizeOf182
  v51 := Tryz.zeroValue182
  t59 := Tryz.underlying189
  a59 := Tryz.isAgg189
  z59 := Tryz.sizeOf189
  v59 := Tryz.zeroValue189
  t146 := Tryz.underlying271
  a146 := Tryz.isAgg271
  z146 := Tryz.sizeOf271
  v146 := Tryz.zeroValue271
  g1 := by kernel_rfl }
open Go.RowKit Go.Lib in
/-- strings.Cut: "Cut slices s around the first instance of sep, returning the text before and after sep. The found result reports whether sep appears in s. If sep does not appear in s, cut returns s, "", false.": IT RETURNS 'Lib.cut s sep'; the world is as it was but for the count of draws. (LAID: no walk: one application.) -/
theorem Tryz.strings_Cut (s sep : ByteArray) (m : Int) (w : World) (hs : s.size < 4294967281) (hm : w.cell? ⟨0, 0, none⟩ = some (.int .i64 m)) :
    Calls Tryz.prog 99 #[.string s, .string sep] w fun e w' => e = .returned (.tuple #[.string ⟨(Lib.cut s.data.toList sep.data.toList).1.toArray⟩, .string ⟨(Lib.cut s.data.toList sep.data.toList).2.1.toArray⟩, .bool (Lib.cut s.data.toList sep.data.toList).2.2]) ∧ ∃ n, w' = w.drewN n := Any.strings_Cut Tryz.lays145 s sep m w hs hm
def Tryz.lays148_ren : Go.Shelf.Ren := ⟨fun | 148 => 98 | 222 => 134 | 223 => 135 | 269 => 168 | n => n, fun | 9 => 9 | 3 => 3 | 4 => 4 | 5 => 5 | 146 => 271 | 51 => 182 | 46 => 83 | n => n, fun | n => n⟩
theorem Tryz.lays148 : Go.Proofs.Lays.n148 Tryz.prog Tryz.lays148_ren := {
  mixed := by kernel_rfl
  f148 := Tryz.func98.trans (congrArg some (by kernel_rfl))
  f222 := Tryz.func134.trans (congrArg some (by kernel_rfl))
  f223 := Tryz.func135.trans (congrArg some (by kernel_rfl))
  f269 := Tryz.func168.trans (congrArg some (by kernel_rfl))
  t3 := Tryz.underlying3
  a3 := Tryz.isAgg3
  z3 := Tryz.sizeOf3
  v3 := Tryz.zeroValue3
  t4 := Tryz.underlying4
  a4 := Tryz.isAgg4
  z4 := Tryz.sizeOf4
  v4 := Tryz.zeroValue4
  t5 := Tryz.underlying5
  a5 := Tryz.isAgg5
  z5 := Tryz.sizeOf5
  v5 := Tryz.zeroValue5
  t9 := Tryz.underlying9
  a9 := Tryz.isAgg9
  z9 := Tryz.sizeOf9
  v9 := Tryz.zeroValue9
  t46 := Tryz.underlying83
  a46 := Tryz.isAgg83
  z46 := Tryz.sizeOf83
  v46 := Tryz.zeroValue83
  t51 := Tryz.underlying182
  a51 := Tryz.isAgg182
  z51 := Tryz.sizeOf182
  v51 := Tryz.zeroValue182
  t146 := Tryz.underlying271
  a146 := Tryz.isAgg271
  z146 := Tryz.sizeOf271
  v146 := Tryz.zeroValue271 }
open Go.RowKit Go.Lib in
/-- strings.LastIndex: "LastIndex returns the index of the last instance of substr in s, or -1 if substr is not present in s.": AT A substr OF WHATEVER LENGTH. (LAID: no walk: one application.) -/
theorem Tryz.strings_LastIndex (s sub : ByteArray) (hs : s.size < 4611686018427387904) (w : World) :
    Calls Tryz.prog 98 #[.string s, .string sub] w fun e w' => e = .returned (.int .i64 (Lib.lastIndex s.data.toList sub.data.toList)) ∧ w' = w := Any.strings_LastIndex Tryz.lays148 s sub hs w
def Tryz.lays146_ren : Go.Shelf.Ren := ⟨fun | 146 => 101 | 221 => 141 | 268 => 172 | 138 => 173 | 143 => 174 | 195 => 212 | 197 => 213 | 218 => 214 | 219 => 169 | 260 => 248 | 217 => 205 | 225 => 206 | 224 => 207 | 267 => 208 | 266 => 241 | 314 => 242 | n => n, fun | 9 => 9 | 31 => 96 | 3 => 3 | 4 => 4 | 0 => 0 | 105 => 302 | 21 => 21 | 5 => 5 | 46 => 83 | 119 => 342 | 139 => 345 | 138 => 344 | 146 => 271 | 51 => 182 | n => n, fun | 1 => 0 | 3 => 6 | 4 => 7 | n => n⟩
theorem Tryz.lays146 : Go.Proofs.Lays.n146 Tryz.prog Tryz.lays146_ren := {
  mixed := by kernel_rfl
  f138 := Tryz.func173.trans (congrArg some (by kernel_rfl))
  f143 := Tryz.func174.trans (congrArg some (by kernel_rfl))
  f146 := Tryz.func101.trans (congrArg some (by kernel_rfl))
  f195 := Tryz.func212.trans (congrArg some (by kernel_rfl))
  f197 := Tryz.func213.trans (congrArg some (by kernel_rfl))
  f217 := Tryz.func205.trans (congrArg some (by kernel_rfl))
  f218 := Tryz.func214.trans (congrArg some (by kernel_rfl))
  f219 := Tryz.func169.trans (congrArg some (by kernel_rfl))
  f221 := Tryz.func141.trans (congrArg some (by kernel_rfl))
  f224 := Tryz.func207.trans (congrArg some (by kernel_rfl))
  f225 := Tryz.func206.trans (congrArg some (by kernel_rfl))
  f260 := Tryz.func248.trans (congrArg some (by kernel_rfl))
  f266 := Tryz.func241.trans (congrArg some (by kernel_rfl))
  f267 := Tryz.func208.trans (congrArg some (by kernel_rfl))
  f268 := Tryz.func172.trans (congrArg some (by kernel_rfl))
  f314 := Tryz.func242.trans (congrArg some (by kernel_rfl))
  t0 := Tryz.underlying0
  a0 := Tryz.isAgg0
  z0 := Tryz.sizeOf0
  v0 := Tryz.zeroValue0
  t3 := Tryz.underlying3
  a3 := Tryz.isAgg3
  z3 := Tryz.sizeOf3
  v3 := Tryz.zeroValue3
  t4 := Tryz.underlying4
  a4 := Tryz.isAgg4
  z4 := Tryz.sizeOf4
  v4 := Tryz.zeroValue4
  t5 := Tryz.underlying5
  a5 := Tryz.isAgg5
  z5 := Tryz.sizeOf5
  v5 := Tryz.zeroValue5
  t9 := Tryz.underlying9
  a9 := Tryz.isAgg9
  z9 := Tryz.sizeOf9
  v9 := Tryz.zeroValue9
  t21 := Tryz.underlying21
  a21 := Tryz.isAgg21
  z21 := Tryz.sizeOf21
  v21 := Tryz.zeroValue21
  t31 := Tryz.underlying96
  a31 := Tryz.isAgg96
  z31 := Tryz.sizeOf96
  v31 := Tryz.zeroValue96
  t46 := Tryz.underlying83
  a46 := Tryz.isAgg83
  z46 := Tryz.sizeOf83
  v46 := Tryz.zeroValue83
  t51 := Tryz.underlying182
  a51 := Tryz.isAgg182
  z51 := Tryz.sizeOf182
  v51 := Tryz.zeroValue182
  t105 := Tryz.underlying302
  a105 := Tryz.isAgg302
  z105 := Tryz.sizeOf302
  v105 := Tryz.zeroValue302
  t119 := Tryz.underlying342
  a119 := Tryz.isAgg342
  z119 := Tryz.sizeOf342
  t138 := Tryz.underlying344
  a138 := Tryz.isAgg344
  z138 := Tryz.sizeOf344
  v138 := Tryz.zeroValue344
  t139 := Tryz.underlying345
  a139 := Tryz.isAgg345
  z139 := Tryz.sizeOf345
  v139 := Tryz.zeroValue345
  t146 := Tryz.underlying271
  a146 := Tryz.isAgg271
  z146 := Tryz.sizeOf271
  v146 := Tryz.zeroValue271
  g1 := by kernel_rfl
  g3 := by kernel_rfl
  g4 := by kernel_rfl }
open Go.RowKit Go.Lib in
/-- strings.Split. (LAID: no walk: one application.) -/
theorem Tryz.strings_Split (s sep : ByteArray) (m : Int) (w : World) (hs : s.size < 4294967281) (hm : w.cell? ⟨0, 0, none⟩ = some (.int .i64 m)) (h1 : 1 ≤ sep.size) :
    Calls Tryz.prog 101 #[.string s, .string sep] w fun e w' =>
      e = .returned (.slice (some ⟨w.heap.size, 0, none⟩) (Lib.countB s sep + 1) (Lib.countB s sep + 1)) ∧ w' = w.alloc (.cells ((Lib.splitB sep 0 (Lib.countB s sep) s).map Value.string).toArray 9) := Any.strings_Split Tryz.lays146 (by kernel_rfl) s sep m w hs hm h1
end Go.Proofs
namespace Go.Proofs.YticmfflnenoplacGreatDoor
open Go.RowKit Am
theorem byte_at (s : ByteArray) (k : Nat) (h : k < s.size) : s.data.toList[k]'(by simpa using h) = s[k] := rfl
theorem data_len (s : ByteArray) : s.data.toList.length = s.size := rfl
theorem isEmpty_len (s : ByteArray) : s.toList.isEmpty = decide (s.size = 0) := by
  rw [ByteArray.toList_eq, Bool.eq_iff_iff, List.isEmpty_iff, decide_eq_true_eq, ← List.length_eq_zero_iff]
  rfl
theorem isEmpty_yes (s : ByteArray) (h : s.size = 0) : s.toList.isEmpty = true := by rw [isEmpty_len]; simp [h]
theorem isEmpty_no (s : ByteArray) (h : 1 ≤ s.size) : s.toList.isEmpty = false := by rw [isEmpty_len, decide_eq_false_iff_not]; omega
def RetDig (r : Nat × Bool) (w : World) (e : Ending) (w' : World) : Prop := e = .returned (.tuple #[.int .i64 (r.1 : Int), .bool r.2]) ∧ w = w'
theorem RetDig.of {r : Nat × Bool} {n : Int} {b : Bool} {w : World} (h : r = (n.toNat, b)) (hn : 0 ≤ n) : RetDig r w (.returned (.tuple #[.int .i64 n, .bool b])) w := by
  subst h
  exact ⟨by dsimp only; rw [Int.toNat_of_nonneg hn], rfl⟩
theorem dig_lead {s : ByteArray} (most : Nat) (h0 : 0 < s.size) (h1 : 1 < s.size) (hz : s[0] = 48) : digP s.data.toList most = (0, false) := by
  refine digP_no (.inl ?_)
  have : s.data.toList.head? = some 48 := by
    rw [List.head?_eq_getElem?, List.getElem?_eq_getElem (by simpa using h0)]
    exact congrArg some hz
  unfold okD lead
  rw [this, decide_eq_true (show 1 < s.data.toList.length by simpa using h1)]
  simp
theorem dig_bad {s : ByteArray} (most k : Nat) (h : k < s.size) (hk : isD s[k] = false) : digP s.data.toList most = (0, false) := by
  refine digP_no (.inl ?_)
  have : s.data.toList.all isD = false := by
    rw [List.all_eq_false]
    exact ⟨s[k], by rw [← byte_at s k h]; exact List.getElem_mem _, by simp [hk]⟩
  simp [okD, this]
theorem dig_good {s : ByteArray} (most : Nat) (h0 : 1 ≤ s.size) (hm : s.size ≤ most) (hl : ¬ (1 < s.size ∧ s[0]'(by omega) = 48)) (h : ∀ j (hj : j < s.size), isD s[j] = true) : digP s.data.toList most = (num (s.data.toList.take s.size), true) := by
  rw [digP_yes ?_ (by rw [data_len]; exact hm)]
  · rw [show s.size = s.data.toList.length from rfl, List.take_length]
  · have hall : s.data.toList.all isD = true := by
      rw [List.all_eq_true]
      intro c hc
      obtain ⟨j, hj, rfl⟩ := List.mem_iff_getElem.1 hc
      exact h j hj
    have hne : s.data.toList.isEmpty = false := by
      rw [Bool.eq_false_iff]
      intro he
      rw [List.isEmpty_iff, ← List.length_eq_zero_iff, data_len] at he
      omega
    unfold okD lead
    rw [hall, hne]
    by_cases h1 : 1 < s.size
    · have : s.data.toList.head? ≠ some 48 := by
        rw [List.head?_eq_getElem?, List.getElem?_eq_getElem (by rw [data_len]; omega)]
        intro he
        exact hl ⟨h1, Option.some.inj he⟩
      simp [this]
    · rw [data_len, decide_eq_false h1]
      simp
theorem num_step (s : ByteArray) (k : Nat) (h : k < s.size) : num (s.data.toList.take (k + 1)) = 10 * num (s.data.toList.take k) + (s[k].toNat - 48) := num_take _ k h
theorem u8_48 (c : UInt8) : (c.toNat : Int) = 48 ↔ c = 48 := by
  constructor
  · intro h
    exact UInt8.toNat_inj.1 (by simpa using (by omega : c.toNat = 48))
  · rintro rfl; rfl
theorem isD_iff (c : UInt8) : isD c = true ↔ 48 ≤ (c.toNat : Int) ∧ (c.toNat : Int) ≤ 57 := by
  simp only [isD, Bool.and_eq_true, decide_eq_true_eq]
  omega
section
attribute [local irreducible] digP num okD isD
end
end Go.Proofs.YticmfflnenoplacGreatDoor
namespace Go.Proofs.YticmfflnenoplacGreatDoor
open Go.RowKit Am Go.Sort
/-- What of Go's library is laid. -/
structure Lay (w : World) : Prop where
  tab : Lib.TabIs Tryz.prog w "internal/strconv.uint64pow10" .u64 Lib.pow10Tab
  most : ∃ m : Int, w.cell? ⟨0, 0, none⟩ = some (.int .i64 m)
theorem Lay.below {w w' : World} (h : Lay w) (hb : Below w.heap.size w w') : Lay w' := by
  refine ⟨?_, ?_⟩
  · have ht := h.tab
    unfold Lib.TabIs World.var? at ht ⊢
    rw [show Tryz.prog.globalNamed "internal/strconv.uint64pow10" = some 1 by kernel_rfl] at ht ⊢
    simp only [Option.bind_some] at ht ⊢
    have hlt : 1 < w.heap.size := by
      rcases Nat.lt_or_ge 1 w.heap.size with h' | h'
      · exact h'
      · rw [Array.getElem?_eq_none h'] at ht; cases ht
    rw [hb.block _ hlt]
    exact ht
  · obtain ⟨m, hm⟩ := h.most
    exact ⟨m, (hb.cell (World.block_lt_of_cell? w _ hm)).trans hm⟩
theorem Lay.below' {w w' : World} {B : Nat} (h : Lay w) (hb : Below B w w') (hB : w.heap.size ≤ B) : Lay w' := h.below (hb.mono hB)
theorem below_drewN9 {B : Nat} {a w : World} (h : Below B a w) (n : Nat) : Below B a (w.drewN n) := ⟨h.os, h.tape, h.output, h.size, h.block⟩
theorem below_grow9 {B : Nat} {a w : World} (h : Below B a w) (os : Array Obj) (hB : B ≤ w.heap.size) : Below B a (grow w os) := by
  refine ⟨h.os, h.tape, h.output, ?_, ?_⟩
  · have := h.size
    simp [grow]
    omega
  · intro b hb
    rw [← h.block b hb]
    show (w.heap ++ os)[b]? = w.heap[b]?
    rw [Array.getElem?_append_left (by omega)]
theorem itoa_any (n : Int) (h0 : -9223372036854775808 ≤ n) (h1 : n ≤ 9223372036854775807) (w : World) (hL : Lay w) :
    Calls Tryz.prog 89 #[.int .i64 n] w (fun e w' => e = .returned (.string ⟨(Lib.itoa n).toArray⟩) ∧ Below w.heap.size w w') := by
  refine (Tryz.strconv_Itoa n h0 h1 w hL.tab).mono ?_
  rintro e w' ⟨rfl, k, os, rfl⟩
  exact ⟨rfl, below_grow9 (below_drewN9 (Below.refl _ _) k) os (Nat.le_refl _)⟩
theorem cut_any (s sep : ByteArray) (hs : s.size < 4294967281) (w : World) (hL : Lay w) :
    Calls Tryz.prog 99 #[.string s, .string sep] w (fun e w' => e = .returned (.tuple #[.string ⟨(Lib.cut s.data.toList sep.data.toList).1.toArray⟩, .string ⟨(Lib.cut s.data.toList sep.data.toList).2.1.toArray⟩, .bool (Lib.cut s.data.toList sep.data.toList).2.2]) ∧ Below w.heap.size w w') := by
  obtain ⟨m, hm⟩ := hL.most
  refine (Tryz.strings_Cut s sep m w hs hm).mono ?_
  rintro e w' ⟨rfl, k, rfl⟩
  exact ⟨rfl, below_drewN9 (Below.refl _ _) k⟩
def RetNE (r : Int × Int) (w : World) (e : Ending) (w' : World) : Prop := e = .returned (.tuple #[.int .i64 r.1, errV r.2]) ∧ Below w.heap.size w w'
theorem RetNE.nil {r : Int × Int} {n : Int} {w w' : World} (h : r = (n, 0)) (hb : Below w.heap.size w w') : RetNE r w (.returned (.tuple #[.int .i64 n, .nilIface])) w' := by
  subst h; exact ⟨rfl, hb⟩
theorem RetNE.err {r : Int × Int} {n m : Int} {w w' : World} (h : r = (n, m)) (hm : m ≠ 0) (hb : Below w.heap.size w w') : RetNE r w (.returned (.tuple #[.int .i64 n, .iface 117 (.int .i64 m)])) w' := by
  subst h; exact ⟨by dsimp only; rw [errV_pos m hm], hb⟩
def RetSE (s : List UInt8) (f : Int) (w : World) (e : Ending) (w' : World) : Prop := e = .returned (.tuple #[.string ⟨s.toArray⟩, errV f]) ∧ Below w.heap.size w w'
theorem itoa_len (n : Int) (h0 : 0 ≤ n) (h1 : n ≤ 1125899906842624) : (Lib.itoa n).length ≤ 16 := by
  obtain ⟨m, rfl⟩ : ∃ m : Nat, n = m := ⟨n.toNat, by omega⟩
  rw [itoa_nat]
  exact dec_len m 16 (by omega) (by omega)
section
attribute [local irreducible] Lib.itoa
end
end Go.Proofs.YticmfflnenoplacGreatDoor
namespace Go.Proofs.ShelfT
open Go.Proofs
open Go.Shelf
def Tryz.tz64_ren : Go.Shelf.Ren := ⟨fun | 29 => 240 | n => n, fun | 22 => 37 | 3 => 3 | 4 => 4 | 25 => 83 | 54 => 336 | 0 => 0 | 5 => 5 | n => n, fun | 1 => 3 | n => n⟩
theorem Tryz.tz64 : Go.Proofs.Lays7.n29 Tryz.prog Tryz.tz64_ren := {
  mixed := by kernel_rfl
  f29 := Tryz.func240.trans (congrArg some (by kernel_rfl))
  t0 := Tryz.underlying0
  a0 := Tryz.isAgg0
  z0 := Tryz.sizeOf0
  v0 := Tryz.zeroValue0
  i0 := by kernel_rfl
  t3 := Tryz.underlying3
  a3 := Tryz.isAgg3
  z3 := Tryz.sizeOf3
  v3 := Tryz.zeroValue3
  i3 := by kernel_rfl
  t4 := Tryz.underlying4
  a4 := Tryz.isAgg4
  z4 := Tryz.sizeOf4
  v4 := Tryz.zeroValue4
  i4 := by kernel_rfl
  t5 := Tryz.underlying5
  a5 := Tryz.isAgg5
  z5 := Tryz.sizeOf5
  v5 := Tryz.zeroValue5
  i5 := by kernel_rfl
  t22 := Tryz.underlying37
  a22 := Tryz.isAgg37
  z22 := Tryz.sizeOf37
  v22 := Tryz.zeroValue37
  i22 := by kernel_rfl
  t25 := Tryz.underlying83
  a25 := Tryz.isAgg83
  z25 := Tryz.sizeOf83
  v25 := Tryz.zeroValue83
  i25 := by kernel_rfl
  t54 := Tryz.underlying336
  a54 := Tryz.isAgg336
  z54 := Tryz.sizeOf336
  g1 := by kernel_rfl }
end Go.Proofs.ShelfT
namespace Go.Proofs.YticmfflnenoplacGreatDoor
open Go.RowKit Go.Deep Pop Bi
/-- What of Go's library is laid. -/
structure LayS (w : World) : Prop where
  lay : Lay w
  tz : TabAt 3 Lib.deBruijn64tab w
  syn : ∃ tp p, w.var? Tryz.prog "strconv.ErrSyntax" = some #[.iface tp p]
  rng : ∃ tp p, w.var? Tryz.prog "strconv.ErrRange" = some #[.iface tp p]
theorem var_below {w w' : World} {s : String} {g : Nat} {v : Array Value} (hg : Tryz.prog.globalNamed s = some g) (h : w.var? Tryz.prog s = some v) (hb : Below w.heap.size w w') : w'.var? Tryz.prog s = some v := by
  unfold World.var? at h ⊢
  rw [hg] at h ⊢
  simp only [Option.bind_some] at h ⊢
  have hlt : g < w.heap.size := by
    rcases Nat.lt_or_ge g w.heap.size with h' | h'
    · exact h'
    · rw [Array.getElem?_eq_none h'] at h; cases h
  rw [hb.block _ hlt]
  exact h
theorem LayS.below {w w' : World} (h : LayS w) (hb : Below w.heap.size w w') : LayS w' := by
  refine ⟨h.lay.below hb, fun j hj => ?_, ?_, ?_⟩
  · have := h.tz j hj
    exact (hb.cell (World.block_lt_of_cell? w _ this)).trans this
  · obtain ⟨tp, p, hp⟩ := h.syn
    exact ⟨tp, p, var_below (g := 4) (by kernel_rfl) hp hb⟩
  · obtain ⟨tp, p, hp⟩ := h.rng
    exact ⟨tp, p, var_below (g := 5) (by kernel_rfl) hp hb⟩
theorem LayS.to {w w' : World} {B : Nat} (h : LayS w) (hb : Below B w w') (hB : w.heap.size ≤ B) : LayS w' := LayS.below h (hb.mono hB)
theorem u64_bitp (m k : Nat) (hm : m < 18446744073709551616) : bits .and .u64 ((m : Int) / 2 ^ k) 1 = ((Pop.bit m k : Nat) : Int) := by
  have h1 : ((m : Int) / 2 ^ k) = ((m / 2 ^ k : Nat) : Int) := by simp
  have h2 : m / 2 ^ k < 18446744073709551616 := Nat.lt_of_le_of_lt (Nat.div_le_self _ _) hm
  rw [h1, show (1 : Int) = ((1 : Nat) : Int) from rfl, u64_and_nat _ _ h2 (by omega), nat_mask1]
  rfl
theorem shl64s (n : Nat) (h : n < 64) : IntKind.u64.wrap ((2 : Int) ^ n) = ((2 ^ n : Nat) : Int) := by
  have h3 := pow_lt h
  have h2 : (2 : Int) ^ n = ((2 ^ n : Nat) : Int) := by simp
  rw [h2, IntKind.wrap_u64]
  generalize 2 ^ n = x at *
  omega
namespace Bi
def hasF (x : Nat) (n : Int) : Bool := decide (0 ≤ n) && decide (n < 64) && inS x n.toNat
theorem hasF_at {x k : Nat} (h : k < 64) : hasF x k = inS x k := by simp [hasF, show (k : Int) < 64 by omega]
theorem hasF_out {x : Nat} {n : Int} (h : n < 0 ∨ 64 ≤ n) : hasF x n = false := by
  unfold hasF
  rcases h with h | h
  · simp [show ¬ 0 ≤ n by omega]
  · simp [show ¬ n < 64 by omega]
end Bi
set_option maxHeartbeats 1000000 in
theorem Has_any (x : Nat) (n : Int) (hx : x < 18446744073709551616) (w : World) : Calls Tryz.prog 162 #[.int .u64 x, .int .i64 n] w (RetB (hasF x n) w) := by
  by_cases h0 : n < 0
  · have HF := Lib.hid (hasF_out (x := x) (.inl h0))
    go_enter Tryz.func162, Tryz.ntmps162
    go_wp2_with fail
    go_ret
    exact ⟨by rw [HF.out]; rfl, rfl⟩
  · by_cases h1 : 64 ≤ n
    · have HF := Lib.hid (hasF_out (x := x) (.inr h1))
      go_enter Tryz.func162, Tryz.ntmps162
      go_wp2_with fail
      go_ret
      exact ⟨by rw [HF.out]; rfl, rfl⟩
    · obtain ⟨k, rfl⟩ : ∃ k : Nat, n = k := ⟨n.toNat, by omega⟩
      have hk : k < 64 := by omega
      have HF := Lib.hid (hasF_at (x := x) hk)
      have hbt := u64_bitp x k hx
      have h01 := Bi.bit_01 x k
      unfold inS at HF
      have hx0 : (0 : Int) ≤ x := by omega
      have hx1 : (x : Int) ≤ 18446744073709551615 := by omega
      have hk64 : (k : Int) < 64 := by omega
      clear h0 h1 hx
      rcases h01 with hb | hb
      · rw [hb] at hbt HF
        clear hb
        go_enter Tryz.func162, Tryz.ntmps162
        go_wp2_with fail
        go_ret
        exact ⟨by rw [HF.out]; rfl, rfl⟩
      · rw [hb] at hbt HF
        clear hb
        go_enter Tryz.func162, Tryz.ntmps162
        go_wp2_with fail
        go_ret
        exact ⟨by rw [HF.out]; rfl, rfl⟩
end Go.Proofs.YticmfflnenoplacGreatDoor
namespace Go.Proofs.YticmfflnenoplacGreatDoor
open Go.RowKit Go.Deep Pop Bi
def RetUE (r : Nat × Int) (w : World) (e : Ending) (w' : World) : Prop := e = .returned (.tuple #[.int .u64 r.1, errV r.2]) ∧ w = w'
def RetUI (r : Nat × Int) (w : World) (e : Ending) (w' : World) : Prop := e = .returned (.tuple #[.int .u64 r.1, .int .i64 r.2]) ∧ w = w'
theorem RetUE.bad {r : Nat × Int} {w : World} (h : r = (0, 1)) : RetUE r w (.returned (.tuple #[.int .u64 0, .iface 117 (.int .i64 1)])) w := by
  subst h; exact ⟨by dsimp only; rw [errV_pos 1 (by omega)]; rfl, rfl⟩
theorem RetUE.ok {r : Nat × Int} {a : Nat} {w : World} (h : r = (a, 0)) : RetUE r w (.returned (.tuple #[.int .u64 a, .nilIface])) w := by
  subst h; exact ⟨rfl, rfl⟩
theorem RetUI.of {r : Nat × Int} {a : Nat} {f : Int} {w : World} (h : r = (a, f)) : RetUI r w (.returned (.tuple #[.int .u64 a, .int .i64 f])) w := by
  subst h; exact ⟨rfl, rfl⟩
theorem rs_int1 {w : World} {S : Nat → Prop} {b off n cap : Nat} {l : List Int} (h : RS w S 1 RInt [.slice (some ⟨b, off, none⟩) n cap] l) {k : Nat} (hk : k < l.length) : w.cell? ⟨b, off + k, none⟩ = some (.int .i64 l[k]) ∧ -9223372036854775808 ≤ l[k] ∧ l[k] ≤ 9223372036854775807 := by
  obtain ⟨_, cs', h1, h2, h3, h4⟩ := h.at_ hk
  have := h2 0 (.int .i64 l[k]) (by rw [h3]; rfl)
  rw [Nat.mul_one, Nat.add_zero] at this
  exact ⟨this, h4⟩
namespace Bi
theorem ofA_bad {l : List Int} {k a : Nat} (hk : k < l.length) (h : ofP l = ofA a (l.drop k)) (hb : l[k] < 0 ∨ 63 < l[k]) : ofP l = (0, 1) := by
  rw [h, List.drop_eq_getElem_cons hk, ofA, if_pos hb]
theorem ofA_next {l : List Int} {k a n : Nat} (hk : k < l.length) (h : ofP l = ofA a (l.drop k)) (he : l[k] = n) (hn : n < 64) : ofP l = ofA (a ||| 2 ^ n) (l.drop (k + 1)) := by
  rw [h, List.drop_eq_getElem_cons hk, ofA, if_neg (by omega), he]
  rfl
theorem ofA_end {l : List Int} {a : Nat} (h : ofP l = ofA a (l.drop l.length)) : ofP l = (a, 0) := by rw [h, List.drop_length]; rfl
end Bi
section
attribute [local irreducible] ofP ofA inS listF hiS
/-- Numbers of the call's own. -/
def natV (l : List Nat) : List Value := l.map fun (n : Nat) => Value.int .i64 ((n : Nat) : Int)
theorem natV_nil : natV [] = [] := rfl
theorem natV_snoc (l : List Nat) (i : Nat) : natV (l ++ [i]) = natV l ++ [.int .i64 i] := by simp [natV]
def RetL (l : List Nat) (w : World) (e : Ending) (w' : World) : Prop := ∃ A c, e = .returned (.slice A l.length c) ∧ w'.ownsRow w.heap.size 3 1 (.slice A l.length c) l.length (natV l) ∧ Below w.heap.size w w'
theorem RetL.of {l m : List Nat} {A : Option Addr} {c : Nat} {w w' : World} (h : l = m) (ho : w'.ownsRow w.heap.size 3 1 (.slice A m.length c) m.length (natV m)) (hb : Below w.heap.size w w') : RetL l w (.returned (.slice A m.length c)) w' := by
  subst h; exact ⟨A, c, rfl, ho, hb⟩
theorem intT : ElemT Tryz.prog 78 3 (.int .i64 0) 1 8 := ⟨Tryz.underlying78, by kernel_rfl, rfl, by omega⟩
theorem TabAt.below {g : Nat} {tab : List Nat} {w w' : World} (h : TabAt g tab w) (hb : Below w.heap.size w w') : TabAt g tab w' := fun j hj =>
  (hb.cell (World.block_lt_of_cell? w _ (h j hj))).trans (h j hj)
set_option maxRecDepth 100000 in
set_option maxHeartbeats 2000000 in
theorem ListB_any (x : Nat) (hx : x < 18446744073709551616) (w : World) (hL : TabAt 3 Lib.deBruijn64tab w) : Calls Tryz.prog 219 #[.int .u64 x] w (RetL (listF x 64) w) := by
  have H0 := Lib.hid (listF_zero x)
  have HH0 := Lib.hid (hiS_zero x)
  have HX := Lib.hid hx
  have HL := Lib.hid hL
  clear hx hL
  go_enter Tryz.func219, Tryz.ntmps219
  go_wp2_with fail
  go_loopw [0, 3] (fun s v wi => ∃ (k : Nat) (A : Option Addr) (c : Nat), k ≤ 64 ∧ s = .int .u64 (hiS x k) ∧ v = .slice A (listF x k).length c ∧ Hid (wi.ownsRow w.heap.size 3 1 (.slice A (listF x k).length c) (listF x k).length (natV (listF x k))) ∧ Below w.heap.size w wi) (fun s _ _ => (intOf s).toNat)
  case atStart => exact ⟨0, none, 0, by omega, by rw [HH0.out], by rw [H0.out]; rfl, Lib.hid (by rw [H0.out, natV_nil]; exact World.ownsRow_nil _ _ _ _), Below.refl _ _⟩
  case round =>
    obtain ⟨k, A, c, hk, rfl, rfl, HO, hb⟩ := hrel
    have hln := listF_len x k
    by_cases hz : hiS x k = 0
    · have HG : Hid (listF x 64 = listF x k) := Lib.hid (listF_gap hk fun i h1 _ => hiS_none hz i h1)
      rw [hz]
      clear hz
      go_wp2_with fail
      go_ret
      exact RetL.of HG.out HO.out hb
    · obtain ⟨q, hq, hkq, hq64, hin, hgap, hand⟩ := hiS_step HX.out hz
      have hle := hiS_le x k
      have hxl := HX.out
      have HTZ := Lib.hid (Any7.bits_TrailingZeros64 ShelfT.Tryz.tz64 (hiS x k) (by omega) wr (fun _ => TabAt.below HL.out hb))
      rw [hq] at HTZ
      have HTZ2 : Hid (Calls Tryz.prog 240 #[.int .u64 (hiS x k)] wr fun e w' => e = .returned (.int .i64 q) ∧ w' = wr) := Lib.hid HTZ.out
      have HN : Hid (listF x (q + 1) = listF x k ++ [q]) := Lib.hid (by rw [listF_yes hin, listF_gap hkq hgap])
      have hdec : hiS x (q + 1) < hiS x k := by
        have h1 := Nat.and_le_right (n := hiS x k) (m := hiS x k - 1)
        rw [hand] at h1
        omega
      have HDEC := Lib.hid hdec
      have HAND : Hid (bits .and .u64 ((hiS x k : Nat) : Int) (((hiS x k : Nat) : Int) - 1) = ((hiS x (q + 1) : Nat) : Int)) := Lib.hid (by
        rw [show ((hiS x k : Nat) : Int) - 1 = ((hiS x k - 1 : Nat) : Int) by omega, u64_and_nat _ _ (by omega) (by omega), hand])
      have HLN : Hid ((listF x (q + 1)).length = (listF x k).length + 1) := Lib.hid (by rw [HN.out]; simp)
      have hs0 : 0 < hiS x k := by omega
      have hsn : ((hiS x k : Int) != 0) = true := by simp; omega
      have hs1 : ((hiS x k : Nat) : Int) ≤ 18446744073709551615 := by omega
      have hs2 : (1 : Int) ≤ ((hiS x k : Nat) : Int) := by omega
      clear hq hin hgap hand hdec hz HTZ hle hxl
      generalize hiS x k = s at *
      go_wp2_with fail
      refine HTZ2.out.mono ?_
      rintro e w5 ⟨rfl, rfl⟩
      clear HTZ2
      go_wp2_with (at_builtin; refine wpList_app _ intT rfl (.tmp 10) (.tmp 13) rfl w.heap.size (.slice A (listF x k).length c) (listF x k).length (natV (listF x k)) rfl (by exact HO.out.alloc _) ⟨w5.heap.size, 0, none⟩ 1 1 [.int .i64 q] rfl rfl (news_new w5 _ _) (by simp [Value.oneCell']) (by omega) (by unfold maxLen; omega) (by omega) (by have := hb.size; simp; omega) ?_; intro g8 c8 w8 hown8 hgr8 hat8 hlt8)
      rw [← natV_snoc, ← HN.out] at hown8
      have HO8 := Lib.hid hown8
      have hba := hb.alloc hb.size (.cells #[.int .i64 q] 3)
      have hb8 : Below w.heap.size w w8 := hba.grown hgr8 hba.size (fun q hq => (HO.out.lt q hq).1)
      clear hown8 hgr8 hat8 hba HO hsn
      go_wp2_with fail
      go_roundw
      case rel => exact ⟨q + 1, some ⟨g8, 0, none⟩, c8, by omega, by rw [HAND.out], by rw [HLN.out], Lib.hid (by have := HO8.out; rw [← HLN.out] at this; exact this), hb8⟩
      case measure =>
        have h1 := HDEC.out
        have h2 := HAND.out
        simp only [intOf, h2]
        omega
theorem List_any (x : Nat) (hx : x < 18446744073709551616) (w : World) (hL : LayS w) : Calls Tryz.prog 219 #[.int .u64 x] w (RetL (listF x 64) w) := ListB_any x hx w hL.tz
end
end Go.Proofs.YticmfflnenoplacGreatDoor
namespace Go.Proofs.YticmfflnenoplacGreatDoor
open Go.RowKit Am
theorem one_cons (b : List UInt8) : (⟨#[49]⟩ : ByteArray) ++ ⟨b.toArray⟩ = ⟨(49 :: b).toArray⟩ := by
  apply ByteArray.ext
  rw [ByteArray.data_append]
  simp
theorem cut_lens (l p : List UInt8) : (Lib.cut l p).1.length ≤ l.length ∧ (Lib.cut l p).2.1.length ≤ l.length := by
  unfold Lib.cut
  split
  · exact ⟨by simp; omega, by simp⟩
  · exact ⟨Nat.le_refl _, by simp⟩
theorem trim_len (l p : List UInt8) : (Lib.trimSuffix l p).length ≤ l.length := by
  unfold Lib.trimSuffix
  split
  · simp
  · exact Nat.le_refl _
theorem milliP_m {l : List UInt8} (h : Lib.hasSuffix l [109] = true) : milliP l = fin (digP (Lib.trimSuffix l [109]) 9).1 (digP (Lib.trimSuffix l [109]) 9).2 := by
  unfold milliP; rw [if_pos h]
theorem milliP_p {l : List UInt8} (h : Lib.hasSuffix l [109] = false) (hp : (Lib.cut l [46]).2.2 = true) : milliP l = fin (pointP (Lib.cut l [46]).1 (Lib.cut l [46]).2.1).1 (pointP (Lib.cut l [46]).1 (Lib.cut l [46]).2.1).2 := by
  unfold milliP; rw [h, if_neg (by simp), if_pos hp]
theorem milliP_w {l : List UInt8} (h : Lib.hasSuffix l [109] = false) (hp : (Lib.cut l [46]).2.2 = false) : milliP l = fin (1000 * (digP (Lib.cut l [46]).1 6).1) (digP (Lib.cut l [46]).1 6).2 := by
  unfold milliP; rw [h, if_neg (by simp), hp, if_neg (by simp)]
section
attribute [local irreducible] digP milliP pointP fin Lib.cut Lib.trimSuffix Lib.hasSuffix
end
end Go.Proofs.YticmfflnenoplacGreatDoor
namespace Go.Proofs.YticmfflnenoplacGreatDoor
open Go.RowKit Am
def unitCells : Array Value := #[.string ⟨#[84, 105]⟩, .int .i64 1099511627776, .string ⟨#[71, 105]⟩, .int .i64 1073741824, .string ⟨#[77, 105]⟩, .int .i64 1048576, .string ⟨#[75, 105]⟩, .int .i64 1024, .string ⟨#[]⟩, .int .i64 1]
theorem unit_at (k : Nat) (hk : k < 5) : ∃ (nm : List UInt8) (sz : Nat), unitCells[k * 2]? = some (.string ⟨nm.toArray⟩) ∧ unitCells[k * 2 + 1]? = some (.int .i64 sz) ∧ 1 ≤ sz ∧ sz ≤ 1099511627776 ∧ nm.length ≤ 2 ∧
    (∀ s, bytesU s (units.drop k) = if Lib.hasSuffix s nm then byteP (Lib.trimSuffix s nm) sz else bytesU s (units.drop (k + 1))) ∧ (∀ n, textU n (units.drop k) = if 0 < n ∧ n % sz = 0 then Lib.itoa ((n / sz : Nat) : Int) ++ nm else textU n (units.drop (k + 1))) := by
  rcases (show k = 0 ∨ k = 1 ∨ k = 2 ∨ k = 3 ∨ k = 4 by omega) with rfl | rfl | rfl | rfl | rfl
  · exact ⟨[84, 105], 1099511627776, rfl, rfl, by omega, by omega, by simp, fun _ => rfl, fun _ => rfl⟩
  · exact ⟨[71, 105], 1073741824, rfl, rfl, by omega, by omega, by simp, fun _ => rfl, fun _ => rfl⟩
  · exact ⟨[77, 105], 1048576, rfl, rfl, by omega, by omega, by simp, fun _ => rfl, fun _ => rfl⟩
  · exact ⟨[75, 105], 1024, rfl, rfl, by omega, by omega, by simp, fun _ => rfl, fun _ => rfl⟩
  · exact ⟨[], 1, rfl, rfl, by omega, by omega, by simp, fun _ => rfl, fun _ => rfl⟩
theorem blk_at {w : World} {b : Nat} {T : TypeId} {arr : Array Value} (h : Blk w b T arr) (j : Nat) (v : Value) (hv : arr[j]? = some v) : w.cell? ⟨b, j, none⟩ = some v := by
  rw [← hv]
  exact h.cell j
theorem byteP_no {t : List UInt8} {size : Nat} {n : Nat} (h : digP t 16 = (n, false)) : byteP t size = (0, 4) := by simp [byteP, h]
theorem byteP_big {t : List UInt8} {size : Nat} {n : Nat} (h : digP t 16 = (n, true)) (hb : n > 1125899906842624 / size) : byteP t size = (0, 1) := by simp [byteP, h, hb]
theorem byteP_ok {t : List UInt8} {size : Nat} {n : Nat} (h : digP t 16 = (n, true)) (hb : ¬ n > 1125899906842624 / size) : byteP t size = ((n : Int) * size, 0) := by simp [byteP, h, hb]
theorem quo_max (size : Nat) : (1125899906842624 : Int).tdiv size = ((1125899906842624 / size : Nat) : Int) := by
  rw [Int.tdiv_eq_ediv_of_nonneg (by omega)]
  rfl
section
attribute [local irreducible] digP bytesU textU byteP Lib.trimSuffix Lib.hasSuffix unitCells units
theorem bytesT_at (n : Nat) : bytesT n = textU n (units.drop 0) := by simp [bytesT]
end
end Go.Proofs.YticmfflnenoplacGreatDoor
namespace Go.Proofs.YticmfflnenoplacGreatDoor.Flo

section
variable {P : Program} {ops : Array Oper} {md : Region.Mode} {I : World → Prop}
def walkL (md : Region.Mode) (ops : Array Oper) : List Nat → Array Bool → Array Bool → Bool
  | [], L, listed => decide (listed = L)
  | k :: rest, L, listed => (Region.ready md ops listed).contains k && Region.free md ops listed k && walkL md ops rest L (listed.setIfInBounds k true)
def wpFs (P : Program) (ops : Array Oper) (I : World → Prop) (Q : Act → World → Prop) (l : List Nat) : Act → World → Prop := wpFl P ops I Q (l.map fun k => (k, true))

theorem anyI_floats {n g : Nat} {B : Array Nat} {L : Array Bool} {Q : Act → World → Prop} (hsel : Region.noSelect ops = true) (hB : ancB md ops B = true) :
    ∀ (hd : List Nat) (listed : Array Bool) (a : Act) (w : World), floats n ops B (hd.map fun k => (k, true)) = true → walkL md ops hd L listed = true → Closed md ops listed → I w → wpFs P ops I (anyI P md ops I n Q g L) hd a w → anyI P md ops I n Q (hd.length + g) listed a w
  | [], listed, a, w, _, hw, _, _, h => by
    simp only [List.length_nil, Nat.zero_add]
    simp only [walkL, decide_eq_true_eq] at hw
    subst hw
    exact h
  | k :: rest, listed, a, w, hfl, hw, inv, hI, h => by
    obtain ⟨o, v, ho, hy, h⟩ := h
    simp only [walkL, Bool.and_eq_true] at hw
    obtain ⟨⟨hr, hf⟩, hw⟩ := hw
    have hr' : k ∈ Region.ready md ops listed := by simpa using hr
    simp only [floats, List.map_cons, List.all_cons, Bool.and_eq_true, Bool.not_true, Bool.false_or] at hfl
    have hanc : ∀ t, n ≤ t → t < ops.size → (B.getD t 0).testBit k = true := fun t h1 h2 => by
      have := List.all_eq_true.1 hfl.1 t (List.mem_range.2 h2)
      simp only [Bool.or_eq_true, decide_eq_true_eq] at this
      rcases this with this | this
      · omega
      · exact this
    have := anyI_first ho (Region.noSelect_spec hsel) hB hanc (rest.length + g) listed a w inv hI (Region.free_spec ho hf) hr' hy
      (anyI_floats hsel hB rest _ _ _ hfl.2 hw (inv.set hr') hI h)
    rw [show (k :: rest).length + g = rest.length + g + 1 by simp; omega]
    exact this

def brB (ops : Array Oper) (hd : List Nat) (n : Nat) (L : Array Bool) : Bool :=
  Region.noSelect ops && ancB .any ops (Region.before ops) && floats n ops (Region.before ops) (hd.map fun k => (k, true)) && walkL .any ops hd L (Array.replicate ops.size false)
end

section
variable {P : Program} {I : World → Prop} {a : Act} {w : World} {l : List Oper}
/-- The region: hd: what floats, first; L: what is listed behind it; n: the first of the tail; g: how many are left. -/
theorem regionBr {id : Nat} {Q : Exit → Act → World → Prop} (n g : Nat) (hd : List Nat) (L : Array Bool) (I : World → Prop) (hm : P.follows .mixedOrders = true) (hB : brB l.toArray hd n L = true) (hl : hd.length + g = l.length) (hI : I w.drew)
    (h : wpFs P l.toArray I (anyI P .any l.toArray I n (Q .normal) g L) hd a w.drew) : (Code.region id l.toArray true).wp P Q a w := by
  simp only [brB, Bool.and_eq_true] at hB
  obtain ⟨⟨⟨hsel, hanc⟩, hfl⟩, hw⟩ := hB
  refine wp_region_any hm (any_of_anyI (I := I) (n := n) _ _ _ _ ?_)
  have := anyI_floats (P := P) (I := I) (g := g) (Q := Q .normal) hsel hanc hd (Array.replicate l.toArray.size false) a w.drew hfl hw ⟨by simp, fun j oj _ hl => by rw [getD_replicate_false] at hl; cases hl⟩ hI h
  rw [hl] at this
  simpa using this

variable {ops : Array Oper} {Q : Act → World → Prop} {n g : Nat} {L : Array Bool}
theorem br1 {i : Nat} {oi : Oper} (hr : Region.ready .any ops L = [i]) (hi : ops[i]? = some oi)
    (h : ∀ K : Act → World → Prop, (∀ a' w', (i < n → I w') → anyI P .any ops I n Q g (L.setIfInBounds i true) a' w' → K a' w') → wpList P ops (Exit.then K QF) [oi] a w) : anyI P .any ops I n Q (g + 1) L a w := by
  refine ⟨by rw [hr]; simp, fun k hk => ?_⟩
  rw [hr] at hk
  obtain rfl : k = i := by simpa using hk
  exact ⟨oi, hi, opN_of_list (h _ fun _ _ h1 h2 => ⟨h1, h2⟩)⟩
theorem br2 {i j : Nat} {oi oj : Oper} (hr : Region.ready .any ops L = [i, j]) (hi : ops[i]? = some oi) (hj : ops[j]? = some oj)
    (h : ∀ K : Act → World → Prop, (∀ a' w', (i < n → I w') → anyI P .any ops I n Q g (L.setIfInBounds i true) a' w' → K a' w') → wpList P ops (Exit.then K QF) [oi] a w)
    (h2 : ∀ K : Act → World → Prop, (∀ a' w', (j < n → I w') → anyI P .any ops I n Q g (L.setIfInBounds j true) a' w' → K a' w') → wpList P ops (Exit.then K QF) [oj] a w) : anyI P .any ops I n Q (g + 1) L a w := by
  refine ⟨by rw [hr]; simp, fun k hk => ?_⟩
  rw [hr] at hk
  simp only [List.mem_cons, List.not_mem_nil, or_false] at hk
  rcases hk with rfl | rfl
  · exact ⟨oi, hi, opN_of_list (h _ fun _ _ h1 h2 => ⟨h1, h2⟩)⟩
  · exact ⟨oj, hj, opN_of_list (h2 _ fun _ _ h1 h2 => ⟨h1, h2⟩)⟩
theorem br3 {i j m : Nat} {oi oj om : Oper} (hr : Region.ready .any ops L = [i, j, m]) (hi : ops[i]? = some oi) (hj : ops[j]? = some oj) (hm : ops[m]? = some om)
    (h : ∀ K : Act → World → Prop, (∀ a' w', (i < n → I w') → anyI P .any ops I n Q g (L.setIfInBounds i true) a' w' → K a' w') → wpList P ops (Exit.then K QF) [oi] a w)
    (h2 : ∀ K : Act → World → Prop, (∀ a' w', (j < n → I w') → anyI P .any ops I n Q g (L.setIfInBounds j true) a' w' → K a' w') → wpList P ops (Exit.then K QF) [oj] a w)
    (h3 : ∀ K : Act → World → Prop, (∀ a' w', (m < n → I w') → anyI P .any ops I n Q g (L.setIfInBounds m true) a' w' → K a' w') → wpList P ops (Exit.then K QF) [om] a w) : anyI P .any ops I n Q (g + 1) L a w := by
  refine ⟨by rw [hr]; simp, fun k hk => ?_⟩
  rw [hr] at hk
  simp only [List.mem_cons, List.not_mem_nil, or_false] at hk
  rcases hk with rfl | rfl | rfl
  · exact ⟨oi, hi, opN_of_list (h _ fun _ _ h1 h2 => ⟨h1, h2⟩)⟩
  · exact ⟨oj, hj, opN_of_list (h2 _ fun _ _ h1 h2 => ⟨h1, h2⟩)⟩
  · exact ⟨om, hm, opN_of_list (h3 _ fun _ _ h1 h2 => ⟨h1, h2⟩)⟩
theorem brEnd (hr : Region.ready .any ops L = []) (h : Q a w) : anyI P .any ops I n Q 0 L a w := ⟨hr, h⟩
end
end Go.Proofs.YticmfflnenoplacGreatDoor.Flo
namespace Go.Proofs.YticmfflnenoplacGreatDoor
open Go.RowKit Am
def dg8 (k : Nat) : UInt8 := UInt8.ofNat (48 + k)
theorem dec_lo (n : Nat) (h : n < 10) : Lib.decDigits n = [dg8 n] := by rw [Lib.decDigits, dif_pos h]; rfl
theorem dec_hi (n : Nat) (h : ¬ n < 10) : Lib.decDigits n = Lib.decDigits (n / 10) ++ [dg8 (n % 10)] := by rw [Lib.decDigits, dif_neg h]; rfl
theorem ofNat48 (k : Nat) (h : k < 10) : (dg8 k).toNat = 48 + k := by
  unfold dg8
  rw [UInt8.toNat_ofNat']
  omega
theorem conv_byte (v : World) (b k : Nat) (h : k < 10) (hc : v.cell? ⟨b, 0, none⟩ = some (.int .u8 (48 + (k : Int)))) : (convert 171 9 (.slice (some ⟨b, 0, none⟩) 1 1)).run Tryz.prog v = .ok (.string ⟨#[dg8 k]⟩) v := by
  refine Lib.run_convert_whole v 171 5 9 Tryz.underlying171 Tryz.underlying5 Tryz.underlying9 b 0 ⟨#[dg8 k]⟩ ?_ 1
  intro i hi
  obtain rfl : i = 0 := by simp [ByteArray.size] at hi; exact hi
  rw [Nat.add_zero, hc]
  congr 2
  show _ = ((dg8 k).toNat : Int)
  rw [ofNat48 k h]
  omega
section
attribute [local irreducible] dg8
end
end Go.Proofs.YticmfflnenoplacGreatDoor
namespace Go.Proofs.YticmfflnenoplacGreatDoor
open Go.RowKit Go.Deep Pop Bi
theorem strT : ElemT Tryz.prog 96 9 (.string ⟨#[]⟩) 1 16 := ⟨Tryz.underlying96, by kernel_rfl, rfl, by omega⟩
theorem str_app (a b : List UInt8) : (⟨a.toArray⟩ : ByteArray) ++ ⟨b.toArray⟩ = ⟨(a ++ b).toArray⟩ := by
  apply Go.WideShapes.bytes_inj
  simp
namespace Bi
theorem hasF_nat {x n : Nat} (hx : x < 18446744073709551616) : hasF x n = inS x n := by
  rcases Nat.lt_or_ge n 64 with h | h
  · exact hasF_at h
  · rw [hasF_out (.inr (by omega)), bit_high hx h]
/-- The texts of spans, as they lie in memory. -/
def textsV (ps : List (Nat × Nat)) : List Value := ps.map fun p => Value.string ⟨(spanT p).toArray⟩
theorem textsV_nil : textsV [] = [] := rfl
theorem textsV_snoc (ps : List (Nat × Nat)) (p : Nat × Nat) : textsV (ps ++ [p]) = textsV ps ++ [.string ⟨(spanT p).toArray⟩] := by simp [textsV]
theorem itoa2 {n : Nat} (h : n < 64) : (Lib.itoa (n : Int)).length ≤ 2 := by
  rw [Am.itoa_nat]
  exact Am.dec_len n 2 (by omega) (by omega)
theorem spanT_len {p : Nat × Nat} (h1 : p.1 < 64) (h2 : p.2 < 64) : (spanT p).length ≤ 5 := by
  have := itoa2 h1
  have := itoa2 h2
  unfold spanT
  split
  · simp only [List.length_append, List.length_cons]; omega
  · simp only [List.length_append, List.length_nil]; omega
theorem join_len {ps : List (Nat × Nat)} (h : ∀ p ∈ ps, p.1 < 64 ∧ p.2 < 64) : (Lib.join (ps.map spanT) [44]).length ≤ 6 * ps.length := by
  induction ps with
  | nil => simp [Lib.join, List.intercalate]
  | cons p ps ih =>
    have h1 := spanT_len (h p (by simp)).1 (h p (by simp)).2
    have h2 := ih fun q hq => h q (by simp [hq])
    cases ps with
    | nil => simp [Lib.join, List.intercalate]; omega
    | cons q ps =>
      have e : Lib.join ((p :: q :: ps).map spanT) [44] = spanT p ++ 44 :: Lib.join ((q :: ps).map spanT) [44] := by simp [Lib.join, List.intercalate]
      rw [e]
      simp only [List.length_append, List.length_cons] at h2 ⊢
      omega
end Bi
def RetT (l : List UInt8) (w : World) (e : Ending) (w' : World) : Prop := e = .returned (.string ⟨l.toArray⟩) ∧ Below w.heap.size w w'
theorem RetT.of {l m : List UInt8} {w w' : World} (h : l = m) (hb : Below w.heap.size w w') : RetT l w (.returned (.string ⟨m.toArray⟩)) w' := by subst h; exact ⟨rfl, hb⟩
theorem join_any (A : Option Addr) (c : Nat) (ps : List (Nat × Nat)) (base : Nat) (w : World) (h : w.ownsRow base 9 1 (.slice A ps.length c) ps.length (textsV ps)) (hp : ∀ p ∈ ps, p.1 < 64 ∧ p.2 < 64) (hl : ps.length ≤ 64) :
    Calls Tryz.prog 132 #[.slice A ps.length c, .string ⟨#[44]⟩] w (RetT (Lib.join (ps.map spanT) [44]) w) := by
  obtain ⟨A', c', e, h1, _, h3⟩ := own_form h
  simp only [Value.slice.injEq, true_and] at e
  obtain ⟨rfl, rfl⟩ := e
  rcases Nat.eq_zero_or_pos ps.length with h0 | h0
  · obtain rfl := List.length_eq_zero_iff.1 h0
    refine (Tryz.strings_Join_none A c ⟨#[44]⟩ w).mono ?_
    rintro e w' ⟨rfl, rfl⟩
    exact ⟨rfl, Below.refl _ _⟩
  · obtain ⟨g, rfl, hg, _⟩ := h3 h0
    have hj := join_len hp
    have e1 : (ps.map fun p => (⟨(spanT p).toArray⟩ : ByteArray)).map (fun b : ByteArray => b.data.toList) = ps.map spanT := by simp
    have := Tryz.strings_Join g 0 c (ps.map fun p => (⟨(spanT p).toArray⟩ : ByteArray)) ⟨#[44]⟩ w (fun j x hx => by
      have hj : j < ps.length := by simpa using (List.getElem?_eq_some_iff.1 hx).1
      rw [Nat.zero_add, h.cellAt j (by omega)]
      simp only [List.getElem?_map, List.getElem?_eq_getElem hj, Option.map_some, Option.some.injEq] at hx
      simp [textsV, hj, ← hx]) hg (by simp; omega) (by simpa using h1) (by rw [e1]; exact Nat.le_trans hj (by omega))
    rw [e1, List.length_map] at this
    exact this
section
attribute [local irreducible] inS spans endR spanT textsV Lib.itoa Lib.join hasF
set_option maxRecDepth 100000 in
set_option maxHeartbeats 4000000 in
theorem Text_any (x : Nat) (hx : x < 18446744073709551616) (w : World) (hL : LayS w) : Calls Tryz.prog 131 #[.int .u64 x] w (RetT (textP x) w) := by
  have HX := Lib.hid hx
  have HL := Lib.hid hL
  have hx0 : (0 : Int) ≤ x := by omega
  have hx1 : (x : Int) ≤ 18446744073709551615 := by omega
  have HTP : Hid (textP x = Lib.join ((spans x 0).map spanT) [44]) := Lib.hid (by unfold textP; rfl)
  have HS0 : Hid (spans x 0 = [] ++ spans x 0) := Lib.hid rfl
  clear hx hL
  go_enter Tryz.func131, Tryz.ntmps131
  go_wp2_with fail
  go_loopw [3, 4] (fun v n wi => ∃ (m : Nat) (ps : List (Nat × Nat)) (A : Option Addr) (c : Nat), n = .int .i64 m ∧ m ≤ 64 ∧ v = .slice A ps.length c ∧ Hid (spans x 0 = ps ++ spans x m) ∧ ps.length ≤ m ∧ Hid (wi.ownsRow w.heap.size 9 1 (.slice A ps.length c) ps.length (textsV ps)) ∧ Hid (∀ p ∈ ps, p.1 < 64 ∧ p.2 < 64) ∧ Below w.heap.size w wi) (fun _ n _ => 64 - (intOf n).toNat)
  case atStart => exact ⟨0, [], none, 0, rfl, by omega, rfl, HS0, by simp, Lib.hid (by rw [textsV_nil]; exact World.ownsRow_nil _ _ _ _), Lib.hid (fun p hp => by cases hp), Below.refl _ _⟩
  case round =>
    clear HS0
    obtain ⟨m, ps, A, c, rfl, hm, rfl, HS, hps, HO, HP, hb⟩ := hrel
    by_cases hlt : m < 64
    · have HH := Lib.hid (Has_any x m HX.out wr)
      rw [hasF_nat HX.out] at HH
      cases hi : inS x m
      · have HN : Hid (spans x 0 = ps ++ spans x (m + 1)) := Lib.hid (by rw [HS.out, spans_no hlt hi])
        rw [hi] at HH
        clear hi HS
        go_wp2_with fail
        refine HH.out.mono ?_
        rintro e w5 ⟨rfl, rfl⟩
        go_wp2_with fail
        go_roundw
        case rel => exact ⟨m + 1, ps, A, c, by go_num, by omega, rfl, HN, by omega, HO, HP, hb⟩
        case measure => simp [intOf]; omega
      · have HY : Hid (spans x 0 = (ps ++ [(m, endR x m)]) ++ spans x (endR x m + 1)) := Lib.hid (by rw [HS.out, spans_yes hlt hi, List.append_assoc]; rfl)
        have HEL := Lib.hid (endR_lt HX.out hlt)
        rw [hi] at HH
        clear hi HS
        go_wp2_with fail
        refine HH.out.mono ?_
        rintro e w5 ⟨rfl, rfl⟩
        clear HH
        go_wp2_with fail
        go_loop [4] (fun n => ∃ k : Nat, n = .int .i64 k ∧ m ≤ k ∧ k < 64 ∧ Hid (endR x m = endR x k)) (fun n => 64 - (intOf n).toNat)
        case atStart => exact ⟨m, rfl, by omega, hlt, Lib.hid rfl⟩
        case round =>
          obtain ⟨k, rfl, hmk, hk, HE⟩ := hrel
          have HH := Lib.hid (Has_any x ((k : Int) + 1) HX.out wr)
          rw [show ((k : Int) + 1) = ((k + 1 : Nat) : Int) from rfl, hasF_nat HX.out] at HH
          have HH2 : Hid (Calls Tryz.prog 162 #[.int .u64 x, .int .i64 ((k : Int) + 1)] wr (RetB (inS x (k + 1)) wr)) := Lib.hid HH.out
          clear HH
          cases hi : inS x (k + 1)
          · have HEE : Hid (endR x m = k) := Lib.hid (HE.out.trans (endR_no hi))
            rw [hi] at HH2
            have HI1 := Lib.hid (itoa_any m (by omega) (by omega) wr (HL.out.below hb).lay)
            have hl1 := itoa2 hlt
            have hl2 := itoa2 hk
            have HI2 := Lib.hid (fun W (hW : Below w.heap.size w W) => itoa_any k (by omega) (by omega) W (HL.out.below hW).lay)
            have HT1 := Lib.hid (fun (h : endR x m ≤ m) => spanT_one (p := (m, endR x m)) h)
            have HT2 := Lib.hid (fun (h : m < endR x m) => spanT_two (p := (m, endR x m)) h)
            rw [HEE.out] at HT1 HT2 HY
            have HSN := Lib.hid (textsV_snoc ps (m, k))
            have HPN : Hid (∀ p ∈ ps ++ [(m, k)], p.1 < 64 ∧ p.2 < 64) := Lib.hid (by
              intro p hp
              rcases List.mem_append.1 hp with hp | hp
              · exact HP.out p hp
              · obtain rfl := List.mem_singleton.1 hp
                exact ⟨hlt, hk⟩)
            have HLN : Hid ((ps ++ [(m, k)]).length = ps.length + 1) := Lib.hid (by simp)
            clear hi HE HEE
            dsimp only at HT1 HT2
            by_cases hkm : m < k
            · have HTT := Lib.hid (HT2.out hkm)
              generalize Lib.itoa (m : Int) = t1 at *
              obtain ⟨t2, ht2⟩ : ∃ t2, t2 = Lib.itoa (k : Int) := ⟨_, rfl⟩
              rw [← ht2] at hl2 HTT HI2
              clear HT1 HT2 ht2
              go_wp2_with fail
              refine HH2.out.mono ?_
              rintro e w6 ⟨rfl, rfl⟩
              go_wp2_with fail
              refine HI1.out.mono ?_
              rintro e w7 ⟨rfl, hb7⟩
              have hb7' := hb.trans (hb7.mono hb.size)
              have HO7 := Lib.hid (own_below HO.out hb7)
              clear hb7 hb HO
              go_wp2_with fail
              refine (HI2.out _ hb7').mono ?_
              rintro e w8 ⟨rfl, hb8⟩
              have hb8' := hb7'.trans (hb8.mono hb7'.size)
              have HO8 := Lib.hid (own_below HO7.out hb8)
              clear hb8 hb7' HO7
              have HST : Hid ((⟨t1.toArray⟩ : ByteArray) ++ (⟨#[45]⟩ ++ ⟨t2.toArray⟩) = ⟨(spanT (m, k)).toArray⟩) := Lib.hid (by
                rw [HTT.out, show (⟨#[45]⟩ : ByteArray) = ⟨[(45 : UInt8)].toArray⟩ from rfl, str_app, str_app]
                rfl)
              go_upto_region 12 with fail
              rw [HST.out]
              go_wp2_with (at_builtin; refine wpList_app _ strT rfl (.tmp 32) (.tmp 34) rfl w.heap.size (.slice A ps.length c) ps.length (textsV ps) rfl (by exact HO8.out.alloc _) ⟨w8.heap.size, 0, none⟩ 1 1 [.string ⟨(spanT (m, k)).toArray⟩] rfl rfl (news_new w8 _ _) (by simp [Value.oneCell']) (by omega) (by unfold maxLen; omega) (by omega) (by have := hb8'.size; simp; omega) ?_; intro g9 c9 w9 hown9 hgr9 hat9 hlt9)
              rw [← HSN.out] at hown9
              have HO9 := Lib.hid hown9
              have hba := hb8'.alloc hb8'.size (.cells #[.string ⟨(spanT (m, k)).toArray⟩] 9)
              have hb9 : Below w.heap.size w w9 := hba.grown hgr9 hba.size (fun q hq => (HO8.out.lt q hq).1)
              clear hown9 hgr9 hat9 hba HO8
              go_wp2_with fail
              go_roundw
              case rel => exact ⟨k + 1, ps ++ [(m, k)], some ⟨g9, 0, none⟩, c9, by go_num, by omega, by rw [HLN.out], HY, by rw [HLN.out]; omega, Lib.hid (by have := HO9.out; rw [← HLN.out] at this; exact this), HPN, hb9⟩
              case measure => simp [intOf]; omega
            · obtain rfl : k = m := by omega
              have HTT := Lib.hid (HT1.out (Nat.le_refl _))
              obtain ⟨t1, ht1⟩ : ∃ t1, t1 = Lib.itoa (k : Int) := ⟨_, rfl⟩
              rw [← ht1] at hl1 HTT HI1
              clear HT1 HT2 ht1 HI2 hl2 hkm
              go_wp2_with fail
              refine HH2.out.mono ?_
              rintro e w6 ⟨rfl, rfl⟩
              go_wp2_with fail
              refine HI1.out.mono ?_
              rintro e w8 ⟨rfl, hb8⟩
              have hb8' := hb.trans (hb8.mono hb.size)
              have HO8 := Lib.hid (own_below HO.out hb8)
              clear hb8 hb HO
              rw [← HTT.out]
              go_wp2_with (at_builtin; refine wpList_app _ strT rfl (.tmp 32) (.tmp 34) rfl w.heap.size (.slice A ps.length c) ps.length (textsV ps) rfl (by exact HO8.out.alloc _) ⟨w8.heap.size, 0, none⟩ 1 1 [.string ⟨(spanT (k, k)).toArray⟩] rfl rfl (news_new w8 _ _) (by simp [Value.oneCell']) (by omega) (by unfold maxLen; omega) (by omega) (by have := hb8'.size; simp; omega) ?_; intro g9 c9 w9 hown9 hgr9 hat9 hlt9)
              rw [← HSN.out] at hown9
              have HO9 := Lib.hid hown9
              have hba := hb8'.alloc hb8'.size (.cells #[.string ⟨(spanT (k, k)).toArray⟩] 9)
              have hb9 : Below w.heap.size w w9 := hba.grown hgr9 hba.size (fun q hq => (HO8.out.lt q hq).1)
              clear hown9 hgr9 hat9 hba HO8
              go_wp2_with fail
              go_roundw
              case rel => exact ⟨k + 1, ps ++ [(k, k)], some ⟨g9, 0, none⟩, c9, by go_num, by omega, by rw [HLN.out], HY, by rw [HLN.out]; omega, Lib.hid (by have := HO9.out; rw [← HLN.out] at this; exact this), HPN, hb9⟩
              case measure => simp [intOf]; omega
          · have HEN := Lib.hid (HE.out.trans (endR_yes HX.out hi))
            have hk63 : k + 1 < 64 := by
              rcases Nat.lt_or_ge (k + 1) 64 with h | h
              · exact h
              · rw [bit_high HX.out h] at hi; cases hi
            rw [hi] at HH2
            clear hi
            go_wp2_with fail
            refine HH2.out.mono ?_
            rintro e w6 ⟨rfl, rfl⟩
            go_wp2_with fail
            go_round
            case rel => exact ⟨k + 1, by go_num, by omega, hk63, HEN⟩
            case measure => simp [intOf]; omega
    · obtain rfl : m = 64 := by omega
      have HE : Hid (spans x 0 = ps) := Lib.hid (by rw [HS.out, spans_end (by omega), List.append_nil])
      have HJ := Lib.hid (join_any A c ps w.heap.size wr HO.out HP.out (by omega))
      clear HS HO
      go_wp2_with fail
      refine HJ.out.mono ?_
      rintro e w5 ⟨rfl, hb5⟩
      go_wp2_with fail
      go_ret
      exact RetT.of (by rw [HTP.out, HE.out]) (hb.trans (hb5.mono hb.size))
end
end Go.Proofs.YticmfflnenoplacGreatDoor
namespace Go.Proofs.YticmfflnenoplacGreatDoor
open Go.RowKit Go.Deep Pop Bi Da Sv
namespace Sv
def txtV (l : List (List UInt8)) : List Value := l.map fun t => Value.string ⟨t.toArray⟩
theorem txtV_nil : txtV [] = [] := rfl
theorem txtV_snoc (l : List (List UInt8)) (t : List UInt8) : txtV (l ++ [t]) = txtV l ++ [.string ⟨t.toArray⟩] := by simp [txtV]
theorem join_most {l : List (List UInt8)} {k : Nat} (h : ∀ t ∈ l, t.length ≤ k) (c : UInt8) : (Lib.join l [c]).length ≤ (k + 1) * l.length := by
  induction l with
  | nil => simp [Lib.join, List.intercalate]
  | cons p ps ih =>
    have h1 := h p (by simp)
    have h2 := ih fun q hq => h q (by simp [hq])
    cases ps with
    | nil => simp [Lib.join, List.intercalate]; omega
    | cons q ps =>
      have e : Lib.join (p :: q :: ps) [c] = p ++ c :: Lib.join (q :: ps) [c] := by simp [Lib.join, List.intercalate]
      rw [e]
      simp only [List.length_append, List.length_cons] at h2 ⊢
      rw [Nat.mul_add (k + 1) (ps.length + 1) 1, Nat.mul_one]
      omega
theorem itoa_16 {n : Int} (h0 : 0 ≤ n) (h1 : n ≤ 1125899906842624) : (Lib.itoa n).length ≤ 16 := by
  obtain ⟨m, rfl⟩ : ∃ m : Nat, n = m := ⟨n.toNat, by omega⟩
  rw [Am.itoa_nat]
  exact Am.dec_len m 16 (by omega) (by omega)
theorem map_take_succ {α β : Type} (f : α → β) (l : List α) {m : Nat} (h : m < l.length) : (l.take (m + 1)).map f = (l.take m).map f ++ [f l[m]] := by
  rw [List.take_succ_eq_append_getElem h, List.map_append]; rfl
theorem numT_ne {l : List Int} (h : l ≠ []) : numT l = Lib.join (l.map Lib.itoa) [44] := by simp [numT, h]
theorem numT_nil {l : List Int} (h : l = []) : numT l = [45] := by simp [numT, h]
theorem needsT_ne {l : List Need} (h : l ≠ []) : needsT l = Lib.join (l.map needT) [44] := by simp [needsT, h]
theorem needsT_nil {l : List Need} (h : l = []) : needsT l = [45] := by simp [needsT, h]
end Sv
theorem joinL_any (A : Option Addr) (c n : Nat) (l : List (List UInt8)) (base : Nat) (w : World) (hn : n = l.length) (h : w.ownsRow base 9 1 (.slice A n c) n (txtV l)) (h0 : 0 < n) {k : Nat} (hk : ∀ t ∈ l, t.length ≤ k) (hl : (k + 1) * l.length ≤ 140737488355328) :
    Calls Tryz.prog 132 #[.slice A n c, .string ⟨#[44]⟩] w (RetT (Lib.join l [44]) w) := by
  subst hn
  obtain ⟨A', c', e, h1, _, h3⟩ := own_form h
  simp only [Value.slice.injEq, true_and] at e
  obtain ⟨rfl, rfl⟩ := e
  obtain ⟨g, rfl, hg, _⟩ := h3 h0
  have hj := join_most hk 44
  have hl' : l.length ≤ 140737488355328 := Nat.le_trans (by rw [Nat.add_mul, Nat.one_mul]; exact Nat.le_add_left _ _) hl
  have e1 : (l.map fun t => (⟨t.toArray⟩ : ByteArray)).map (fun b : ByteArray => b.data.toList) = l := by
    rw [List.map_map]
    exact (List.map_congr_left (fun t _ => rfl)).trans (List.map_id l)
  have := Tryz.strings_Join g 0 c (l.map fun t => (⟨t.toArray⟩ : ByteArray)) ⟨#[44]⟩ w (fun j x hx => by
    have hj : j < l.length := by simpa using (List.getElem?_eq_some_iff.1 hx).1
    rw [Nat.zero_add, h.cellAt j (by omega)]
    simp only [List.getElem?_map, List.getElem?_eq_getElem hj, Option.map_some, Option.some.injEq] at hx
    simp [txtV, hj, ← hx]) hg (by simpa using hl') (by simpa using h1) (by rw [e1]; exact Nat.le_trans hj hl)
  rw [e1, List.length_map] at this
  exact this
section
attribute [local irreducible] Lib.itoa Lib.join txtV numT needsT needT
set_option maxRecDepth 100000 in
set_option maxHeartbeats 4000000 in
theorem numbers_any (v : Value) (l : List Int) (B : Nat) (w : World) (hB : B ≤ w.heap.size) (hR : RSlice w B 1 RInt [v] l) (hl : l.length ≤ 16) (hn : ∀ n ∈ l, 0 ≤ n ∧ n ≤ 15) (hL : LayS w) :
    Calls Tryz.prog 92 #[v] w (RetT (numT l) w) := by
  obtain ⟨A, cap, hv, hcl, hcap, hA⟩ := (RS.of hR).form
  obtain rfl : v = _ := by simpa using hv
  unfold maxLen at hcap
  have HA := Lib.hid hA
  have HR := Lib.hid hR
  have HN := Lib.hid hn
  have HL := Lib.hid hL
  have HNE := Lib.hid (fun (h : l ≠ []) => numT_ne h)
  have HNI := Lib.hid (fun (h : l = []) => numT_nil h)
  have HK : Hid (∀ t ∈ l.map Lib.itoa, t.length ≤ 16) := Lib.hid (by
    intro t ht
    obtain ⟨n, hm, rfl⟩ := List.mem_map.1 ht
    exact itoa_16 (hn n hm).1 (by have := (hn n hm).2; omega))
  have HLM : Hid ((l.map Lib.itoa).length = l.length) := Lib.hid (by simp)
  have HT0 : Hid ((l.take 0).map Lib.itoa = []) := Lib.hid rfl
  have HTS := Lib.hid (fun m (h : m < l.length) => map_take_succ Lib.itoa l h)
  have HTA : Hid ((l.take l.length).map Lib.itoa = l.map Lib.itoa) := Lib.hid (by rw [List.take_length])
  have HLZ : Hid (l.length = 0 → l = []) := Lib.hid List.length_eq_zero_iff.1
  clear hR hv hA hn hL
  go_enter Tryz.func92, Tryz.ntmps92
  go_wp2_with fail
  go_loopw [3, 8] (fun o i wi => ∃ (m : Nat) (A2 : Option Addr) (c2 : Nat), i = .int .i64 m ∧ m ≤ l.length ∧ o = .slice A2 m c2 ∧ Hid (wi.ownsRow w.heap.size 9 1 (.slice A2 m c2) m (txtV ((l.take m).map Lib.itoa))) ∧ Below w.heap.size w wi) (fun _ i _ => l.length - (intOf i).toNat)
  case atStart => exact ⟨0, none, 0, rfl, by omega, rfl, Lib.hid (by rw [HT0.out, txtV_nil]; exact World.ownsRow_nil _ _ _ _), Below.refl _ _⟩
  case round =>
    obtain ⟨m, A2, c2, rfl, hm, rfl, HO, hb⟩ := hrel
    clear HT0
    by_cases hlt : m < l.length
    · obtain ⟨b, off, rfl, hbB⟩ := HA.out m hlt
      obtain ⟨c0, b1, b2⟩ := rs_int1 (RS.of (HR.out.below (hb.mono hB))) hlt
      have hx := HN.out _ (List.getElem_mem hlt)
      have HSN := Lib.hid (HTS.out m hlt)
      have HI := Lib.hid (itoa_any l[m] (by omega) (by omega) wr (HL.out.below hb).lay)
      have hil := itoa_16 hx.1 (by omega)
      generalize l[m] = x at *
      obtain ⟨t, ht⟩ : ∃ t, t = Lib.itoa x := ⟨_, rfl⟩
      rw [← ht] at HSN HI hil
      clear ht
      go_wp2_with fail
      refine HI.out.mono ?_
      rintro e w6 ⟨rfl, hb6⟩
      have hb6' := hb.trans (hb6.mono hb.size)
      have HO6 := Lib.hid (own_below HO.out hb6)
      clear hb6 hb HO
      go_wp2_with (at_builtin; refine wpList_app _ strT rfl (.tmp 12) (.tmp 15) rfl w.heap.size (.slice A2 m c2) m (txtV ((l.take m).map Lib.itoa)) rfl (by exact HO6.out.alloc _) ⟨w6.heap.size, 0, none⟩ 1 1 [.string ⟨t.toArray⟩] rfl rfl (news_new w6 _ _) (by simp [Value.oneCell']) (by omega) (by unfold maxLen; omega) (by omega) (by have := hb6'.size; simp; omega) ?_; intro g9 c9 w9 hown9 hgr9 hat9 hlt9)
      rw [← txtV_snoc, ← HSN.out] at hown9
      have HO9 := Lib.hid hown9
      have hba := hb6'.alloc hb6'.size (.cells #[.string ⟨t.toArray⟩] 9)
      have hb9 : Below w.heap.size w w9 := hba.grown hgr9 hba.size (fun q hq => (HO6.out.lt q hq).1)
      clear hown9 hgr9 hat9 hlt9 hba HO6
      go_wp2_with fail
      go_roundw
      case rel => exact ⟨m + 1, some ⟨g9, 0, none⟩, c9, by go_num, by omega, rfl, HO9, hb9⟩
      case measure => simp [intOf]; omega
    · obtain rfl : m = l.length := by omega
      by_cases h0 : l.length = 0
      · have HE := Lib.hid (HNI.out (HLZ.out h0))
        go_wp2_with fail
        go_ret
        exact RetT.of HE.out hb
      · have HE := Lib.hid (HNE.out (fun h => h0 (by rw [h]; rfl)))
        have HJ := Lib.hid (joinL_any A2 c2 l.length (l.map Lib.itoa) w.heap.size wr HLM.out.symm (by have := HO.out; rw [HTA.out] at this; exact this) (by omega) HK.out (by rw [HLM.out]; omega))
        clear HO
        go_wp2_with fail
        refine HJ.out.mono ?_
        rintro e w5 ⟨rfl, hb5⟩
        go_wp2_with fail
        go_ret
        exact RetT.of HE.out (hb.trans (hb5.mono hb.size))
end
end Go.Proofs.YticmfflnenoplacGreatDoor
