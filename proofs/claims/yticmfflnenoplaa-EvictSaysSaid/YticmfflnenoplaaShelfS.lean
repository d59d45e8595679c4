/-
  DERIVED: THE SHELF's CONTRACTS AT THIS DUMP, IN PLAIN WORDS (tools/lay-plain.mjs out of 'TryShelf.lean', which tools/lay-shelf.mjs wrote): THE SAME DECLARATIONS UNDER THE SAME NAMES: 'import', 'namespace', 'open', 'def', 'theorem' AND NOTHING ELSE: no command of the shelf's: FOR A HAND-IN. Each laying: the table of numbers ('.._ren') and one theorem, a field a fact of the dump's own or the kernel's comparison; each contract: ONE APPLICATION.
-/
import Derived.Shelf.SlSortCmp.NoneTotal
import Derived.Ground.SlsfProg
import Derived.Test.YticmfflnenoplaaProg
namespace Go.Proofs.ShelfS
open Go.Proofs
open Go.Shelf
def Try.sortRow_ren : Go.Shelf.Ren := ⟨fun | 6 => 137 | 15 => 154 | 14 => 153 | 28 => 168 | 29 => 169 | 20 => 160 | 21 => 161 | 22 => 162 | 23 => 163 | 24 => 164 | 25 => 165 | 26 => 166 | 27 => 167 | 46 => 180 | 47 => 181 | 48 => 182 | 49 => 183 | 50 => 184 | 57 => 188 | n => n, fun | 22 => 203 | 24 => 206 | 25 => 211 | 3 => 3 | 39 => 177 | 0 => 0 | 53 => 237 | 55 => 58 | 4 => 4 | 46 => 231 | 45 => 230 | 50 => 195 | 5 => 5 | 9 => 9 | 66 => 245 | 70 => 249 | 76 => 253 | 77 => 254 | n => n, fun | n => n⟩
theorem Try.sortRow : Go.Proofs.SlLaysF0.n6 Try.prog Try.sortRow_ren := {
  mixed := by kernel_rfl
  f6 := ⟨Try.f137.name, by decide, Try.func137.trans (congrArg some (by kernel_rfl))⟩
  f14 := ⟨Try.f153.name, by decide, Try.func153.trans (congrArg some (by kernel_rfl))⟩
  f15 := Try.func154.trans (congrArg some (by kernel_rfl))
  f20 := ⟨Try.f160.name, by decide, Try.func160.trans (congrArg some (by kernel_rfl))⟩
  f21 := ⟨Try.f161.name, by decide, Try.func161.trans (congrArg some (by kernel_rfl))⟩
  f22 := ⟨Try.f162.name, by decide, Try.func162.trans (congrArg some (by kernel_rfl))⟩
  f23 := ⟨Try.f163.name, by decide, Try.func163.trans (congrArg some (by kernel_rfl))⟩
  f24 := ⟨Try.f164.name, by decide, Try.func164.trans (congrArg some (by kernel_rfl))⟩
  f25 := ⟨Try.f165.name, by decide, Try.func165.trans (congrArg some (by kernel_rfl))⟩
  f26 := ⟨Try.f166.name, by decide, Try.func166.trans (congrArg some (by kernel_rfl))⟩
  f27 := ⟨Try.f167.name, by decide, Try.func167.trans (congrArg some (by kernel_rfl))⟩
  f28 := Try.func168.trans (congrArg some (by kernel_rfl))
  f29 := Try.func169.trans (congrArg some (by kernel_rfl))
  f46 := ⟨Try.f180.name, by decide, Try.func180.trans (congrArg some (by kernel_rfl))⟩
  f47 := Try.func181.trans (congrArg some (by kernel_rfl))
  f48 := Try.func182.trans (congrArg some (by kernel_rfl))
  f49 := ⟨Try.f183.name, by decide, Try.func183.trans (congrArg some (by kernel_rfl))⟩
  f50 := ⟨Try.f184.name, by decide, Try.func184.trans (congrArg some (by kernel_rfl))⟩
  f57 := ⟨Try.f188.name, by decide, Try.func188.trans (congrArg some (by kernel_rfl))⟩
  t0 := Try.underlying0
  a0 := Try.isAgg0
  z0 := Try.sizeOf0
  v0 := Try.zeroValue0
  t3 := Try.underlying3
  a3 := Try.isAgg3
  z3 := Try.sizeOf3
  v3 := Try.zeroValue3
  t4 := Try.underlying4
  a4 := Try.isAgg4
  z4 := Try.sizeOf4
  v4 := Try.zeroValue4
  t5 := Try.underlying5
  a5 := Try.isAgg5
  z5 := Try.sizeOf5
  v5 := Try.zeroValue5
  t9 := Try.underlying9
  a9 := Try.isAgg9
  z9 := Try.sizeOf9
  v9 := Try.zeroValue9
  t22 := Try.underlying203
  a22 := Try.isAgg203
  z22 := Try.sizeOf203
  v22 := Try.zeroValue203
  t25 := Try.underlying211
  a25 := Try.isAgg211
  z25 := Try.sizeOf211
  v25 := Try.zeroValue211
  t39 := Try.underlying177
  a39 := Try.isAgg177
  z39 := Try.sizeOf177
  v39 := Try.zeroValue177
  t45 := Try.underlying230
  a45 := Try.isAgg230
  z45 := Try.sizeOf230
  v45 := Try.zeroValue230
  t46 := Try.underlying231
  a46 := Try.isAgg231
  z46 := Try.sizeOf231
  v46 := Try.zeroValue231
  t50 := Try.underlying195
  a50 := Try.isAgg195
  z50 := Try.sizeOf195
  v50 := Try.zeroValue195
  t53 := Try.underlying237
  a53 := Try.isAgg237
  z53 := Try.sizeOf237
  v53 := Try.zeroValue237
  t55 := Try.underlying58
  a55 := Try.isAgg58
  z55 := Try.sizeOf58
  v55 := Try.zeroValue58
  t66 := Try.underlying245
  a66 := Try.isAgg245
  z66 := Try.sizeOf245
  v66 := Try.zeroValue245
  t70 := Try.underlying249
  a70 := Try.isAgg249
  z70 := Try.sizeOf249
  v70 := Try.zeroValue249
  t76 := Try.underlying253
  a76 := Try.isAgg253
  z76 := Try.sizeOf253
  v76 := Try.zeroValue253
  t77 := Try.underlying254
  a77 := Try.isAgg254
  z77 := Try.sizeOf254
  v77 := Try.zeroValue254 }
end Go.Proofs.ShelfS
