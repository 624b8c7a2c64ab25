/-
  DERIVED: THE SHELF's CONTRACTS AT THIS DUMP, IN PLAIN WORDS (tools/lay-plain.mjs out of 'TrySorts.lean', which tools/lay-shelf.mjs wrote): THE SAME DECLARATIONS UNDER THE SAME NAMES: 'import', 'namespace', 'open', 'def', 'theorem' AND NOTHING ELSE: no command of the shelf's: FOR A HAND-IN. Each laying: the table of numbers ('.._ren') and one theorem, a field a fact of the dump's own or the kernel's comparison; each contract: ONE APPLICATION.
-/
import Derived.Shelf.SlSortCmp.NoneTotal
import Derived.Ground.SlsfProg
import Derived.Test.YtieclecpjjfhfaaProg
namespace Go.Proofs
open Go.Shelf
def Try.sortPairs_ren : Go.Shelf.Ren := ⟨fun | 6 => 121 | 15 => 159 | 14 => 158 | 28 => 181 | 29 => 182 | 20 => 173 | 21 => 174 | 22 => 175 | 23 => 176 | 24 => 177 | 25 => 178 | 26 => 179 | 27 => 180 | 46 => 185 | 47 => 186 | 48 => 187 | 49 => 188 | 50 => 189 | 57 => 190 | n => n, fun | 22 => 23 | 24 => 124 | 25 => 202 | 3 => 3 | 39 => 240 | 0 => 0 | 53 => 264 | 55 => 266 | 4 => 4 | 46 => 258 | 45 => 257 | 50 => 200 | 5 => 5 | 9 => 9 | 66 => 269 | 70 => 273 | 76 => 275 | 77 => 276 | n => n, fun | n => n⟩
theorem Try.sortPairs : Go.Proofs.SlLaysF0.n6 Try.prog Try.sortPairs_ren := {
  mixed := by kernel_rfl
  f6 := ⟨Try.f121.name, by decide, Try.func121.trans (congrArg some (by kernel_rfl))⟩
  f14 := ⟨Try.f158.name, by decide, Try.func158.trans (congrArg some (by kernel_rfl))⟩
  f15 := Try.func159.trans (congrArg some (by kernel_rfl))
  f20 := ⟨Try.f173.name, by decide, Try.func173.trans (congrArg some (by kernel_rfl))⟩
  f21 := ⟨Try.f174.name, by decide, Try.func174.trans (congrArg some (by kernel_rfl))⟩
  f22 := ⟨Try.f175.name, by decide, Try.func175.trans (congrArg some (by kernel_rfl))⟩
  f23 := ⟨Try.f176.name, by decide, Try.func176.trans (congrArg some (by kernel_rfl))⟩
  f24 := ⟨Try.f177.name, by decide, Try.func177.trans (congrArg some (by kernel_rfl))⟩
  f25 := ⟨Try.f178.name, by decide, Try.func178.trans (congrArg some (by kernel_rfl))⟩
  f26 := ⟨Try.f179.name, by decide, Try.func179.trans (congrArg some (by kernel_rfl))⟩
  f27 := ⟨Try.f180.name, by decide, Try.func180.trans (congrArg some (by kernel_rfl))⟩
  f28 := Try.func181.trans (congrArg some (by kernel_rfl))
  f29 := Try.func182.trans (congrArg some (by kernel_rfl))
  f46 := ⟨Try.f185.name, by decide, Try.func185.trans (congrArg some (by kernel_rfl))⟩
  f47 := Try.func186.trans (congrArg some (by kernel_rfl))
  f48 := Try.func187.trans (congrArg some (by kernel_rfl))
  f49 := ⟨Try.f188.name, by decide, Try.func188.trans (congrArg some (by kernel_rfl))⟩
  f50 := ⟨Try.f189.name, by decide, Try.func189.trans (congrArg some (by kernel_rfl))⟩
  f57 := ⟨Try.f190.name, by decide, Try.func190.trans (congrArg some (by kernel_rfl))⟩
  t0 := Try.underlying0
  a0 := Try.isAgg0
  z0 := Try.sizeOf0
  v0 := Try.zeroValue0
  t3 := Try.underlying3
  a3 := Try.isAgg3
  z3 := Try.sizeOf3
  v3 := Try.zeroValue3
  t4 := Try.underlying4
  a4 := Try.isAgg4
  z4 := Try.sizeOf4
  v4 := Try.zeroValue4
  t5 := Try.underlying5
  a5 := Try.isAgg5
  z5 := Try.sizeOf5
  v5 := Try.zeroValue5
  t9 := Try.underlying9
  a9 := Try.isAgg9
  z9 := Try.sizeOf9
  v9 := Try.zeroValue9
  t22 := Try.underlying23
  a22 := Try.isAgg23
  z22 := Try.sizeOf23
  v22 := Try.zeroValue23
  t25 := Try.underlying202
  a25 := Try.isAgg202
  z25 := Try.sizeOf202
  v25 := Try.zeroValue202
  t39 := Try.underlying240
  a39 := Try.isAgg240
  z39 := Try.sizeOf240
  v39 := Try.zeroValue240
  t45 := Try.underlying257
  a45 := Try.isAgg257
  z45 := Try.sizeOf257
  v45 := Try.zeroValue257
  t46 := Try.underlying258
  a46 := Try.isAgg258
  z46 := Try.sizeOf258
  v46 := Try.zeroValue258
  t50 := Try.underlying200
  a50 := Try.isAgg200
  z50 := Try.sizeOf200
  v50 := Try.zeroValue200
  t53 := Try.underlying264
  a53 := Try.isAgg264
  z53 := Try.sizeOf264
  v53 := Try.zeroValue264
  t55 := Try.underlying266
  a55 := Try.isAgg266
  z55 := Try.sizeOf266
  v55 := Try.zeroValue266
  t66 := Try.underlying269
  a66 := Try.isAgg269
  z66 := Try.sizeOf269
  v66 := Try.zeroValue269
  t70 := Try.underlying273
  a70 := Try.isAgg273
  z70 := Try.sizeOf273
  v70 := Try.zeroValue273
  t76 := Try.underlying275
  a76 := Try.isAgg275
  z76 := Try.sizeOf275
  v76 := Try.zeroValue275
  t77 := Try.underlying276
  a77 := Try.isAgg276
  z77 := Try.sizeOf276
  v77 := Try.zeroValue276 }
end Go.Proofs
