/-
  DERIVED: THE SHELF's CONTRACTS AT THIS DUMP, IN PLAIN WORDS (tools/lay-plain.mjs out of 'TryIter.lean', which tools/lay-shelf.mjs wrote): THE SAME DECLARATIONS UNDER THE SAME NAMES: 'import', 'namespace', 'open', 'def', 'theorem' AND NOTHING ELSE: no command of the shelf's: FOR A HAND-IN. Each laying: the table of numbers ('.._ren') and one theorem, a field a fact of the dump's own or the kernel's comparison; each contract: ONE APPLICATION.
-/
import Derived.Shelf.SlGeneric
import Derived.Shelf.SlIterI.Nil
import Derived.Shelf.SlIterI.Sorted
import Derived.Shelf.SlIterI.Keys
import Derived.Shelf.SortM.Plain
import Derived.Shelf.SortM.SortNone
import Derived.Ground.GgzProg
import Derived.Ground.SlgmProg
import Derived.Test.YtpnncadglhlclaaProg
namespace Go.Proofs
open Go.Shelf
def Try.keysA_ren : Go.Shelf.Ren := ⟨fun | 7 => 103 | 10 => 138 | n => n, fun | 23 => 154 | 26 => 3 | 3 => 37 | 28 => 122 | 0 => 0 | 27 => 121 | 33 => 169 | 4 => 4 | n => n, fun | n => n⟩
theorem Try.keysA : Go.Proofs.SlLaysZI.n7 Try.prog Try.keysA_ren := {
  mixed := by kernel_rfl
  f7 := ⟨Try.f103.name, by decide, Try.func103.trans (congrArg some (by kernel_rfl))⟩
  f10 := ⟨Try.f138.name, by decide, Try.func138.trans (congrArg some (by kernel_rfl))⟩
  t0 := Try.underlying0
  a0 := Try.isAgg0
  z0 := Try.sizeOf0
  v0 := Try.zeroValue0
  t4 := Try.underlying4
  a4 := Try.isAgg4
  z4 := Try.sizeOf4
  v4 := Try.zeroValue4
  t23 := Try.underlying154
  a23 := Try.isAgg154
  z23 := Try.sizeOf154
  v23 := Try.zeroValue154
  t26 := Try.underlying3
  a26 := Try.isAgg3
  z26 := Try.sizeOf3
  v26 := Try.zeroValue3
  t27 := Try.underlying121
  a27 := Try.isAgg121
  z27 := Try.sizeOf121
  v27 := Try.zeroValue121
  t28 := Try.underlying122
  a28 := Try.isAgg122
  z28 := Try.sizeOf122
  v28 := Try.zeroValue122
  t33 := Try.underlying169
  a33 := Try.isAgg169
  z33 := Try.sizeOf169
  v33 := Try.zeroValue169 }
def Try.sortedA_ren : Go.Shelf.Ren := ⟨fun | 6 => 76 | 8 => 113 | 9 => 96 | 11 => 143 | 13 => 133 | 12 => 132 | 23 => 163 | 24 => 164 | 14 => 154 | 15 => 155 | 16 => 156 | 17 => 157 | 18 => 158 | 19 => 159 | 20 => 160 | 21 => 161 | 22 => 162 | 25 => 172 | 26 => 173 | 27 => 174 | 28 => 175 | 29 => 176 | 30 => 177 | 31 => 185 | n => n, fun | 26 => 3 | 28 => 122 | 24 => 31 | 0 => 0 | 3 => 3 | 37 => 170 | 48 => 196 | 50 => 37 | 4 => 4 | 40 => 217 | 39 => 216 | 45 => 192 | 5 => 5 | 9 => 9 | 51 => 229 | 55 => 233 | 57 => 242 | 58 => 130 | 33 => 169 | n => n, fun | n => n⟩
theorem Try.sortedA : Go.Proofs.SlLaysZI.n6 Try.prog Try.sortedA_ren := {
  mixed := by kernel_rfl
  f6 := ⟨Try.f76.name, by decide, Try.func76.trans (congrArg some (by kernel_rfl))⟩
  f8 := ⟨Try.f113.name, by decide, Try.func113.trans (congrArg some (by kernel_rfl))⟩
  f11 := ⟨Try.f143.name, by decide, Try.func143.trans (congrArg some (by kernel_rfl))⟩
  t0 := Try.underlying0
  a0 := Try.isAgg0
  z0 := Try.sizeOf0
  v0 := Try.zeroValue0
  t24 := Try.underlying31
  a24 := Try.isAgg31
  z24 := Try.sizeOf31
  v24 := Try.zeroValue31
  t26 := Try.underlying3
  a26 := Try.isAgg3
  z26 := Try.sizeOf3
  v26 := Try.zeroValue3
  t28 := Try.underlying122
  a28 := Try.isAgg122
  z28 := Try.sizeOf122
  v28 := Try.zeroValue122
  i26 := by kernel_rfl }
def Try.sortA_ren : Go.Shelf.Ren := ⟨fun | 5 => 96 | 8 => 133 | 7 => 132 | 19 => 163 | 20 => 164 | 10 => 154 | 11 => 155 | 12 => 156 | 13 => 157 | 14 => 158 | 15 => 159 | 16 => 160 | 17 => 161 | 18 => 162 | 30 => 172 | 31 => 173 | 32 => 174 | 33 => 175 | 34 => 176 | 35 => 177 | 40 => 185 | n => n, fun | 23 => 31 | 25 => 3 | 3 => 3 | 32 => 170 | 22 => 31 | 0 => 0 | 44 => 196 | 46 => 37 | 4 => 4 | 36 => 217 | 35 => 216 | 41 => 192 | 5 => 5 | 9 => 9 | 53 => 229 | 57 => 233 | 63 => 242 | 64 => 130 | n => n, fun | n => n⟩
theorem Try.sortA : Go.Proofs.SlLaysM.n5 Try.prog Try.sortA_ren := {
  mixed := by kernel_rfl
  f5 := ⟨Try.f96.name, by decide, Try.func96.trans (congrArg some (by kernel_rfl))⟩
  f7 := ⟨Try.f132.name, by decide, Try.func132.trans (congrArg some (by kernel_rfl))⟩
  f8 := Try.func133.trans (congrArg some (by kernel_rfl))
  f10 := ⟨Try.f154.name, by decide, Try.func154.trans (congrArg some (by kernel_rfl))⟩
  f11 := ⟨Try.f155.name, by decide, Try.func155.trans (congrArg some (by kernel_rfl))⟩
  f12 := ⟨Try.f156.name, by decide, Try.func156.trans (congrArg some (by kernel_rfl))⟩
  f13 := ⟨Try.f157.name, by decide, Try.func157.trans (congrArg some (by kernel_rfl))⟩
  f14 := ⟨Try.f158.name, by decide, Try.func158.trans (congrArg some (by kernel_rfl))⟩
  f15 := ⟨Try.f159.name, by decide, Try.func159.trans (congrArg some (by kernel_rfl))⟩
  f16 := ⟨Try.f160.name, by decide, Try.func160.trans (congrArg some (by kernel_rfl))⟩
  f17 := ⟨Try.f161.name, by decide, Try.func161.trans (congrArg some (by kernel_rfl))⟩
  f18 := ⟨Try.f162.name, by decide, Try.func162.trans (congrArg some (by kernel_rfl))⟩
  f19 := Try.func163.trans (congrArg some (by kernel_rfl))
  f20 := Try.func164.trans (congrArg some (by kernel_rfl))
  f30 := ⟨Try.f172.name, by decide, Try.func172.trans (congrArg some (by kernel_rfl))⟩
  f31 := Try.func173.trans (congrArg some (by kernel_rfl))
  f32 := Try.func174.trans (congrArg some (by kernel_rfl))
  f33 := ⟨Try.f175.name, by decide, Try.func175.trans (congrArg some (by kernel_rfl))⟩
  f34 := ⟨Try.f176.name, by decide, Try.func176.trans (congrArg some (by kernel_rfl))⟩
  f35 := ⟨Try.f177.name, by decide, Try.func177.trans (congrArg some (by kernel_rfl))⟩
  f40 := ⟨Try.f185.name, by decide, Try.func185.trans (congrArg some (by kernel_rfl))⟩
  t0 := Try.underlying0
  a0 := Try.isAgg0
  z0 := Try.sizeOf0
  v0 := Try.zeroValue0
  t3 := Try.underlying3
  a3 := Try.isAgg3
  z3 := Try.sizeOf3
  v3 := Try.zeroValue3
  t4 := Try.underlying4
  a4 := Try.isAgg4
  z4 := Try.sizeOf4
  v4 := Try.zeroValue4
  t5 := Try.underlying5
  a5 := Try.isAgg5
  z5 := Try.sizeOf5
  v5 := Try.zeroValue5
  t9 := Try.underlying9
  a9 := Try.isAgg9
  z9 := Try.sizeOf9
  v9 := Try.zeroValue9
  t22 := Try.underlying31
  a22 := Try.isAgg31
  z22 := Try.sizeOf31
  v22 := Try.zeroValue31
  t23 := Try.underlying31
  a23 := Try.isAgg31
  z23 := Try.sizeOf31
  v23 := Try.zeroValue31
  t25 := Try.underlying3
  a25 := Try.isAgg3
  z25 := Try.sizeOf3
  v25 := Try.zeroValue3
  t32 := Try.underlying170
  a32 := Try.isAgg170
  z32 := Try.sizeOf170
  v32 := Try.zeroValue170
  t35 := Try.underlying216
  a35 := Try.isAgg216
  z35 := Try.sizeOf216
  v35 := Try.zeroValue216
  t36 := Try.underlying217
  a36 := Try.isAgg217
  z36 := Try.sizeOf217
  v36 := Try.zeroValue217
  t41 := Try.underlying192
  a41 := Try.isAgg192
  z41 := Try.sizeOf192
  v41 := Try.zeroValue192
  t44 := Try.underlying196
  a44 := Try.isAgg196
  z44 := Try.sizeOf196
  v44 := Try.zeroValue196
  t46 := Try.underlying37
  a46 := Try.isAgg37
  z46 := Try.sizeOf37
  v46 := Try.zeroValue37
  t53 := Try.underlying229
  a53 := Try.isAgg229
  z53 := Try.sizeOf229
  v53 := Try.zeroValue229
  t57 := Try.underlying233
  a57 := Try.isAgg233
  z57 := Try.sizeOf233
  v57 := Try.zeroValue233
  t63 := Try.underlying242
  a63 := Try.isAgg242
  z63 := Try.sizeOf242
  v63 := Try.zeroValue242
  t64 := Try.underlying130
  a64 := Try.isAgg130
  z64 := Try.sizeOf130
  v64 := Try.zeroValue130 }
end Go.Proofs
