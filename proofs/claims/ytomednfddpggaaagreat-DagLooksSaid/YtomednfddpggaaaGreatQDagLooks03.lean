/-
  DERIVED: THE SHELF's CONTRACTS AT THIS DUMP, IN PLAIN WORDS (tools/lay-plain.mjs out of 'TryzShelf.lean', which tools/lay-shelf.mjs wrote): THE SAME DECLARATIONS UNDER THE SAME NAMES: 'import', 'namespace', 'open', 'def', 'theorem' AND NOTHING ELSE: no command of the shelf's: FOR A HAND-IN. Each laying: the table of numbers ('.._ren') and one theorem, a field a fact of the dump's own or the kernel's comparison; each contract: ONE APPLICATION.
-/
import Derived.Shelf.Small.Bits
import Derived.Shelf.Strconv.Itoa0
import Derived.Shelf.Sort.Plain
import Derived.Shelf.Bits.Mul64
import Derived.Ground.Names2Prog
import Derived.Shelf.Slices.Clone
import Derived.Shelf.Slices.CompactI
import Derived.Shelf.Slices.SearchI
import Derived.Shelf.Slices.Cells
import Derived.Shelf.Slices.In.SortNone
import Derived.Ground.SlgnProg
import Derived.Shelf.SlicesE.Clone
import Derived.Test.YtomednfddpggaaaGreatProg
import Derived.Test.YtomednfddpggaaaGreatQDagLooks02
import Derived.Test.YtomednfddpggaaaGreatQDagLooks00
import Derived.Deep.DeepCutAuto
/-
  DERIVED: THE SHELF's CONTRACTS AT THIS DUMP, IN PLAIN WORDS (tools/lay-plain.mjs out of 'TryzShelf.lean', which tools/lay-shelf.mjs wrote): THE SAME DECLARATIONS UNDER THE SAME NAMES: 'import', 'namespace', 'open', 'def', 'theorem' AND NOTHING ELSE: no command of the shelf's: FOR A HAND-IN. Each laying: the table of numbers ('.._ren') and one theorem, a field a fact of the dump's own or the kernel's comparison; each contract: ONE APPLICATION.
-/
namespace Go.Proofs
open Go.Shelf
def Tryz.lays128_ren : Go.Shelf.Ren := ⟨fun | 128 => 118 | n => n, fun | 51 => 174 | 3 => 3 | 4 => 4 | 46 => 126 | 5 => 5 | 9 => 9 | n => n, fun | n => n⟩
theorem Tryz.lays128 : Go.Proofs.Lays.n128 Tryz.prog Tryz.lays128_ren := {
  mixed := by kernel_rfl
  f128 := Tryz.func118.trans (congrArg some (by kernel_rfl))
  t3 := Tryz.underlying3
  a3 := Tryz.isAgg3
  z3 := Tryz.sizeOf3
  v3 := Tryz.zeroValue3
  t4 := Tryz.underlying4
  a4 := Tryz.isAgg4
  z4 := Tryz.sizeOf4
  v4 := Tryz.zeroValue4
  t5 := Tryz.underlying5
  a5 := Tryz.isAgg5
  z5 := Tryz.sizeOf5
  v5 := Tryz.zeroValue5
  t9 := Tryz.underlying9
  a9 := Tryz.isAgg9
  z9 := Tryz.sizeOf9
  v9 := Tryz.zeroValue9
  t46 := Tryz.underlying126
  a46 := Tryz.isAgg126
  z46 := Tryz.sizeOf126
  v46 := Tryz.zeroValue126
  t51 := Tryz.underlying174
  a51 := Tryz.isAgg174
  z51 := Tryz.sizeOf174
  v51 := Tryz.zeroValue174 }
theorem Tryz.bits_Len32 (x : Int) (w : World) (h0 : 0 ≤ x) (h1 : x ≤ 4294967295) :
    Calls Tryz.prog 118 #[.int .u32 x] w fun e w' => e = .returned (.int .i64 (Lib.bitLen x.toNat)) ∧ w' = w := Any.bits_Len32 Tryz.lays128 x w h0 h1
def Tryz.lays125_ren : Go.Shelf.Ren := ⟨fun | 125 => 79 | 128 => 118 | 129 => 119 | n => n, fun | 46 => 126 | 3 => 3 | 51 => 174 | 53 => 38 | 4 => 4 | 5 => 5 | 9 => 9 | n => n, fun | n => n⟩
theorem Tryz.lays125 : Go.Proofs.Lays.n125 Tryz.prog Tryz.lays125_ren := {
  mixed := by kernel_rfl
  f125 := Tryz.func79.trans (congrArg some (by kernel_rfl))
  f128 := Tryz.func118.trans (congrArg some (by kernel_rfl))
  f129 := Tryz.func119.trans (congrArg some (by kernel_rfl))
  t3 := Tryz.underlying3
  a3 := Tryz.isAgg3
  z3 := Tryz.sizeOf3
  v3 := Tryz.zeroValue3
  t4 := Tryz.underlying4
  a4 := Tryz.isAgg4
  z4 := Tryz.sizeOf4
  v4 := Tryz.zeroValue4
  t5 := Tryz.underlying5
  a5 := Tryz.isAgg5
  z5 := Tryz.sizeOf5
  v5 := Tryz.zeroValue5
  t9 := Tryz.underlying9
  a9 := Tryz.isAgg9
  z9 := Tryz.sizeOf9
  v9 := Tryz.zeroValue9
  t46 := Tryz.underlying126
  a46 := Tryz.isAgg126
  z46 := Tryz.sizeOf126
  v46 := Tryz.zeroValue126
  t51 := Tryz.underlying174
  a51 := Tryz.isAgg174
  z51 := Tryz.sizeOf174
  v51 := Tryz.zeroValue174
  t53 := Tryz.underlying38
  a53 := Tryz.isAgg38
  z53 := Tryz.sizeOf38
  v53 := Tryz.zeroValue38 }
theorem Tryz.bits_Len (x : Int) (w : World) (h0 : 0 ≤ x) (h1 : x ≤ 18446744073709551615) :
    Calls Tryz.prog 79 #[.int .u64 x] w fun e w' => e = .returned (.int .i64 (Lib.bitLen x.toNat)) ∧ w' = w := Any.bits_Len Tryz.lays125 x w h0 h1
def Tryz.lays129_ren : Go.Shelf.Ren := ⟨fun | 129 => 119 | n => n, fun | 53 => 38 | 3 => 3 | 4 => 4 | 46 => 126 | 5 => 5 | 9 => 9 | n => n, fun | n => n⟩
theorem Tryz.lays129 : Go.Proofs.Lays.n129 Tryz.prog Tryz.lays129_ren := {
  mixed := by kernel_rfl
  f129 := Tryz.func119.trans (congrArg some (by kernel_rfl))
  t3 := Tryz.underlying3
  a3 := Tryz.isAgg3
  z3 := Tryz.sizeOf3
  v3 := Tryz.zeroValue3
  t4 := Tryz.underlying4
  a4 := Tryz.isAgg4
  z4 := Tryz.sizeOf4
  v4 := Tryz.zeroValue4
  t5 := Tryz.underlying5
  a5 := Tryz.isAgg5
  z5 := Tryz.sizeOf5
  v5 := Tryz.zeroValue5
  t9 := Tryz.underlying9
  a9 := Tryz.isAgg9
  z9 := Tryz.sizeOf9
  v9 := Tryz.zeroValue9
  t46 := Tryz.underlying126
  a46 := Tryz.isAgg126
  z46 := Tryz.sizeOf126
  v46 := Tryz.zeroValue126
  t53 := Tryz.underlying38
  a53 := Tryz.isAgg38
  z53 := Tryz.sizeOf38
  v53 := Tryz.zeroValue38 }
theorem Tryz.bits_Len64 (x : Int) (w : World) (h0 : 0 ≤ x) (h1 : x ≤ 18446744073709551615) :
    Calls Tryz.prog 119 #[.int .u64 x] w fun e w' => e = .returned (.int .i64 (Lib.bitLen x.toNat)) ∧ w' = w := Any.bits_Len64 Tryz.lays129 x w h0 h1
def Tryz.lays189_ren : Go.Shelf.Ren := ⟨fun | 189 => 44 | 125 => 79 | 257 => 78 | 128 => 118 | 129 => 119 | 294 => 109 | 295 => 110 | 296 => 111 | 297 => 112 | 298 => 113 | 299 => 114 | 216 => 115 | 300 => 116 | 301 => 117 | 328 => 143 | 329 => 144 | 330 => 145 | 331 => 146 | 332 => 147 | 215 => 148 | 343 => 159 | n => n, fun | 28 => 36 | 3 => 3 | 46 => 126 | 0 => 0 | 51 => 174 | 53 => 38 | 4 => 4 | 183 => 167 | 182 => 166 | 131 => 90 | 5 => 5 | 9 => 9 | 218 => 206 | 222 => 209 | 228 => 218 | 229 => 120 | n => n, fun | n => n⟩
theorem Tryz.lays189 : Go.Proofs.Lays.n189 Tryz.prog Tryz.lays189_ren := {
  mixed := by kernel_rfl
  f125 := Tryz.func79.trans (congrArg some (by kernel_rfl))
  f128 := Tryz.func118.trans (congrArg some (by kernel_rfl))
  f129 := Tryz.func119.trans (congrArg some (by kernel_rfl))
  f189 := Tryz.func44.trans (congrArg some (by kernel_rfl))
  f215 := Tryz.func148.trans (congrArg some (by kernel_rfl))
  f216 := Tryz.func115.trans (congrArg some (by kernel_rfl))
  f257 := Tryz.func78.trans (congrArg some (by kernel_rfl))
  f294 := Tryz.func109.trans (congrArg some (by kernel_rfl))
  f295 := Tryz.func110.trans (congrArg some (by kernel_rfl))
  f296 := Tryz.func111.trans (congrArg some (by kernel_rfl))
  f297 := Tryz.func112.trans (congrArg some (by kernel_rfl))
  f298 := Tryz.func113.trans (congrArg some (by kernel_rfl))
  f299 := Tryz.func114.trans (congrArg some (by kernel_rfl))
  f300 := Tryz.func116.trans (congrArg some (by kernel_rfl))
  f301 := Tryz.func117.trans (congrArg some (by kernel_rfl))
  f328 := Tryz.func143.trans (congrArg some (by kernel_rfl))
  f329 := Tryz.func144.trans (congrArg some (by kernel_rfl))
  f330 := Tryz.func145.trans (congrArg some (by kernel_rfl))
  f331 := Tryz.func146.trans (congrArg some (by kernel_rfl))
  f332 := Tryz.func147.trans (congrArg some (by kernel_rfl))
  f343 := Tryz.func159.trans (congrArg some (by kernel_rfl))
  t0 := Tryz.underlying0
  a0 := Tryz.isAgg0
  z0 := Tryz.sizeOf0
  v0 := Tryz.zeroValue0
  t3 := Tryz.underlying3
  a3 := Tryz.isAgg3
  z3 := Tryz.sizeOf3
  v3 := Tryz.zeroValue3
  t4 := Tryz.underlying4
  a4 := Tryz.isAgg4
  z4 := Tryz.sizeOf4
  v4 := Tryz.zeroValue4
  t5 := Tryz.underlying5
  a5 := Tryz.isAgg5
  z5 := Tryz.sizeOf5
  v5 := Tryz.zeroValue5
  t9 := Tryz.underlying9
  a9 := Tryz.isAgg9
  z9 := Tryz.sizeOf9
  v9 := Tryz.zeroValue9
  t28 := Tryz.underlying36
  a28 := Tryz.isAgg36
  z28 := Tryz.sizeOf36
  v28 := Tryz.zeroValue36
  t46 := Tryz.underlying126
  a46 := Tryz.isAgg126
  z46 := Tryz.sizeOf126
  v46 := Tryz.zeroValue126
  t51 := Tryz.underlying174
  a51 := Tryz.isAgg174
  z51 := Tryz.sizeOf174
  v51 := Tryz.zeroValue174
  t53 := Tryz.underlying38
  a53 := Tryz.isAgg38
  z53 := Tryz.sizeOf38
  v53 := Tryz.zeroValue38
  t131 := Tryz.underlying90
  a131 := Tryz.isAgg90
  z131 := Tryz.sizeOf90
  v131 := Tryz.zeroValue90
  t182 := Tryz.underlying166
  a182 := Tryz.isAgg166
  z182 := Tryz.sizeOf166
  v182 := Tryz.zeroValue166
  t183 := Tryz.underlying167
  a183 := Tryz.isAgg167
  z183 := Tryz.sizeOf167
  v183 := Tryz.zeroValue167
  t218 := Tryz.underlying206
  a218 := Tryz.isAgg206
  z218 := Tryz.sizeOf206
  v218 := Tryz.zeroValue206
  t222 := Tryz.underlying209
  a222 := Tryz.isAgg209
  z222 := Tryz.sizeOf209
  v222 := Tryz.zeroValue209
  t228 := Tryz.underlying218
  a228 := Tryz.isAgg218
  z228 := Tryz.sizeOf218
  v228 := Tryz.zeroValue218
  t229 := Tryz.underlying120
  a229 := Tryz.isAgg120
  z229 := Tryz.sizeOf120
  v229 := Tryz.zeroValue120 }
open Go.Sort Go.RowKit in
theorem Tryz.slices_Sort_int (blk off cap : Nat) (zs : List Int) (w : World) (hH : Holds (Value.int .i64) w blk off zs.toArray) (hblk : blk < w.heap.size) (hsz : zs.length < 4611686018427387904) :
    Calls Tryz.prog 44 #[.slice (some ⟨blk, off, none⟩) zs.length cap] w fun e w' =>
      e = .returned (.tuple #[]) ∧ ∃ n os, w' = grow (putRow (Value.int .i64) (Sort.ahead w n) blk off (zs.mergeSort fun x y => decide (x ≤ y)).toArray) os := Any.slices_Sort_int Tryz.lays189 blk off cap zs w hH hblk hsz
def Tryz.lays264_ren : Go.Shelf.Ren := ⟨fun | 264 => 135 | n => n, fun | 53 => 38 | 46 => 126 | n => n, fun | n => n⟩
theorem Tryz.lays264 : Go.Proofs.Lays.n264 Tryz.prog Tryz.lays264_ren := {
  mixed := by kernel_rfl
  f264 := Tryz.func135.trans (congrArg some (by kernel_rfl))
  t46 := Tryz.underlying126
  a46 := Tryz.isAgg126
  z46 := Tryz.sizeOf126
  v46 := Tryz.zeroValue126
  t53 := Tryz.underlying38
  a53 := Tryz.isAgg38
  z53 := Tryz.sizeOf38
  v53 := Tryz.zeroValue38 }
open Go.RowKit Go.Lib in
theorem Tryz.bits_Mul64 (x y : Nat) (hx : x < 18446744073709551616) (hy : y < 18446744073709551616) (w : World) :
    Calls Tryz.prog 135 #[.int .u64 x, .int .u64 y] w fun e w' => e = .returned (.tuple #[.int .u64 ((x * y / 18446744073709551616 : Nat) : Int), .int .u64 ((x * y % 18446744073709551616 : Nat) : Int)]) ∧ w' = w := Any.bits_Mul64 Tryz.lays264 x y hx hy w
def Tryz.lays212_ren : Go.Shelf.Ren := ⟨fun | 212 => 101 | 263 => 134 | 264 => 135 | n => n, fun | 46 => 126 | 51 => 174 | 146 => 191 | 53 => 38 | 148 => 193 | n => n, fun | n => n⟩
theorem Tryz.lays212 : Go.Proofs.Lays.n212 Tryz.prog Tryz.lays212_ren := {
  mixed := by kernel_rfl
  f212 := Tryz.func101.trans (congrArg some (by kernel_rfl))
  f263 := Tryz.func134.trans (congrArg some (by kernel_rfl))
  f264 := Tryz.func135.trans (congrArg some (by kernel_rfl))
  t46 := Tryz.underlying126
  a46 := Tryz.isAgg126
  z46 := Tryz.sizeOf126
  v46 := Tryz.zeroValue126
  t51 := Tryz.underlying174
  a51 := Tryz.isAgg174
  z51 := Tryz.sizeOf174
  v51 := Tryz.zeroValue174
  t53 := Tryz.underlying38
  a53 := Tryz.isAgg38
  z53 := Tryz.sizeOf38
  v53 := Tryz.zeroValue38
  t146 := Tryz.underlying191
  a146 := Tryz.isAgg191
  z146 := Tryz.sizeOf191
  v146 := Tryz.zeroValue191
  t148 := Tryz.underlying193
  a148 := Tryz.isAgg193
  z148 := Tryz.sizeOf193
  v148 := Tryz.zeroValue193 }
open Go.RowKit Go.Lib in
theorem Tryz.bits_Mul (x y : Nat) (hx : x < 18446744073709551616) (hy : y < 18446744073709551616) (w : World) :
    Calls Tryz.prog 101 #[.int .u64 x, .int .u64 y] w fun e w' => e = .returned (.tuple #[.int .u64 ((x * y / 18446744073709551616 : Nat) : Int), .int .u64 ((x * y % 18446744073709551616 : Nat) : Int)]) ∧ w' = w := Any.bits_Mul Tryz.lays212 x y hx hy w
def Tryz.laysNm215_ren : Go.Shelf.Ren := ⟨fun | 15 => 42 | n => n, fun | 22 => 36 | 3 => 3 | 4 => 4 | n => n, fun | n => n⟩
theorem Tryz.laysNm215 : Go.Proofs.Lays2.n15 Tryz.prog Tryz.laysNm215_ren := {
  mixed := by kernel_rfl
  f15 := Tryz.func42.trans (congrArg some (by kernel_rfl))
  t3 := Tryz.underlying3
  a3 := Tryz.isAgg3
  z3 := Tryz.sizeOf3
  v3 := Tryz.zeroValue3
  t4 := Tryz.underlying4
  a4 := Tryz.isAgg4
  z4 := Tryz.sizeOf4
  v4 := Tryz.zeroValue4
  t22 := Tryz.underlying36
  a22 := Tryz.isAgg36
  z22 := Tryz.sizeOf36
  v22 := Tryz.zeroValue36
  i3 := by kernel_rfl }
open Go.RowKit Go.Lib in
theorem Tryz.slices_Clone_int (b off n c : Nat) (zs : List Int) (w : World) (hz : n ≤ zs.length) (hbig : n * 8 ≤ 140737488355328) (hc : ∀ j, j < zs.length → w.cell? ⟨b, off + j, none⟩ = some (.int .i64 (zs.getD j 0))) :
    Calls Tryz.prog 42 #[.slice (some ⟨b, off, none⟩) n c] w fun e w' => ∃ v', e = .returned v' ∧ w'.ownsRow w.heap.size 3 1 v' n ((zs.take n).map (Value.int .i64)) ∧ v' ≠ .slice none 0 0 ∧ Below w.heap.size w w' := Any.slices_Clone_int Tryz.laysNm215 b off n c zs w hz hbig hc
open Go.RowKit Go.Lib in
theorem Tryz.slices_Clone_int_nil (n c : Nat) (w : World) :
    Calls Tryz.prog 42 #[.slice none n c] w fun e w' => e = .returned (.slice none 0 0) ∧ w' = w := Any.slices_Clone_int_nil Tryz.laysNm215 n c w
open Go.RowKit Go.Lib in
theorem Tryz.slices_Clone_int_zero (a : Addr) (c : Nat) (w : World) :
    Calls Tryz.prog 42 #[.slice (some a) 0 c] w fun e w' => ∃ v', e = .returned v' ∧ w'.ownsRow w.heap.size 3 1 v' 0 [] ∧ v' ≠ .slice none 0 0 ∧ Below w.heap.size w w' := Any.slices_Clone_int_zero Tryz.laysNm215 a c w
def Tryz.laysNm220_ren : Go.Shelf.Ren := ⟨fun | 20 => 122 | n => n, fun | 22 => 36 | 3 => 3 | 4 => 4 | 0 => 0 | n => n, fun | n => n⟩
theorem Tryz.laysNm220 : Go.Proofs.Lays2.n20 Tryz.prog Tryz.laysNm220_ren := {
  mixed := by kernel_rfl
  f20 := Tryz.func122.trans (congrArg some (by kernel_rfl))
  t0 := Tryz.underlying0
  a0 := Tryz.isAgg0
  z0 := Tryz.sizeOf0
  v0 := Tryz.zeroValue0
  t3 := Tryz.underlying3
  a3 := Tryz.isAgg3
  z3 := Tryz.sizeOf3
  v3 := Tryz.zeroValue3
  t4 := Tryz.underlying4
  a4 := Tryz.isAgg4
  z4 := Tryz.sizeOf4
  v4 := Tryz.zeroValue4
  t22 := Tryz.underlying36
  a22 := Tryz.isAgg36
  z22 := Tryz.sizeOf36
  v22 := Tryz.zeroValue36
  i3 := by kernel_rfl }
open Go.RowKit Go.Lib Go.Sort in
theorem Tryz.slices_Compact_int_arr (blk off cap : Nat) (d : Array Int) (w : World) (hH : Holds encI w blk off d) (hsz : d.size ≤ 9223372036854775807) (hcap : d.size ≤ cap) :
    Calls Tryz.prog 122 #[.slice (some ⟨blk, off, none⟩) d.size cap] w fun e w' => e = .returned (.slice (some ⟨blk, off, none⟩) (compactUpTo d d.size).length cap) ∧ ∃ q, w' = putRow encI (Sort.ahead w q) blk off (compactUpTo d d.size ++ List.replicate (d.size - (compactUpTo d d.size).length) 0).toArray := Any.slices_Compact_int_arr Tryz.laysNm220 blk off cap d w hH hsz hcap
open Go.RowKit Go.Lib Go.Sort in
theorem Tryz.slices_Compact_int (blk off cap : Nat) (zs : List Int) (w : World) (hH : Holds (Value.int .i64) w blk off zs.toArray) (hsz : zs.length ≤ 9223372036854775807) (hcap : zs.length ≤ cap) :
    Calls Tryz.prog 122 #[.slice (some ⟨blk, off, none⟩) zs.length cap] w fun e w' => e = .returned (.slice (some ⟨blk, off, none⟩) (Lib.compact zs).length cap) ∧ ∃ q, w' = putRow (Value.int .i64) (Sort.ahead w q) blk off (Lib.compact zs ++ List.replicate (zs.length - (Lib.compact zs).length) 0).toArray := Any.slices_Compact_int Tryz.laysNm220 blk off cap zs w hH hsz hcap
open Go.RowKit Go.Lib Go.Sort in
theorem Tryz.slices_Compact_int_empty (a : Option Addr) (cap : Nat) (w : World) :
    Calls Tryz.prog 122 #[.slice a 0 cap] w fun e w' => e = .returned (.slice a 0 cap) ∧ w' = w := Any.slices_Compact_int_empty Tryz.laysNm220 a cap w
def Tryz.laysNm237_ren : Go.Shelf.Ren := ⟨fun | 37 => 148 | n => n, fun | 3 => 3 | 4 => 4 | n => n, fun | n => n⟩
theorem Tryz.laysNm237 : Go.Proofs.Lays2.n37 Tryz.prog Tryz.laysNm237_ren := {
  mixed := by kernel_rfl
  f37 := Tryz.func148.trans (congrArg some (by kernel_rfl))
  t3 := Tryz.underlying3
  a3 := Tryz.isAgg3
  z3 := Tryz.sizeOf3
  v3 := Tryz.zeroValue3
  t4 := Tryz.underlying4
  a4 := Tryz.isAgg4
  z4 := Tryz.sizeOf4
  v4 := Tryz.zeroValue4 }
open Go.RowKit Go.Lib in
theorem Tryz.cmp_isNaN_int2 (x : Int) (w : World) :
    Calls Tryz.prog 148 #[.int .i64 x] w fun e w' => e = .returned (.bool false) ∧ w' = w := Any.cmp_isNaN_int2 Tryz.laysNm237 x w
def Tryz.laysNm231_ren : Go.Shelf.Ren := ⟨fun | 31 => 115 | 37 => 148 | n => n, fun | 3 => 3 | 4 => 4 | n => n, fun | n => n⟩
theorem Tryz.laysNm231 : Go.Proofs.Lays2.n31 Tryz.prog Tryz.laysNm231_ren := {
  mixed := by kernel_rfl
  f31 := Tryz.func115.trans (congrArg some (by kernel_rfl))
  f37 := Tryz.func148.trans (congrArg some (by kernel_rfl))
  t3 := Tryz.underlying3
  a3 := Tryz.isAgg3
  z3 := Tryz.sizeOf3
  v3 := Tryz.zeroValue3
  t4 := Tryz.underlying4
  a4 := Tryz.isAgg4
  z4 := Tryz.sizeOf4
  v4 := Tryz.zeroValue4 }
open Go.RowKit Go.Lib in
theorem Tryz.cmp_Less_int2 (x y : Int) (w : World) :
    Calls Tryz.prog 115 #[.int .i64 x, .int .i64 y] w fun e w' => e = .returned (.bool (decide (x < y))) ∧ w' = w := Any.cmp_Less_int2 Tryz.laysNm231 x y w
open Go.RowKit Go.Lib Go.Sort in
theorem Tryz.slices_Compact_int_cells (b off n c : Nat) (zs : List Int) (w : World) (hz : n ≤ zs.length) (hbig : n ≤ 9223372036854775807) (hcap : n ≤ c) (hc : ∀ j, j < zs.length → w.cell? ⟨b, off + j, none⟩ = some (.int .i64 (zs.getD j 0))) (hf : ∀ j, j < n → w.frozen? ⟨b, off + j, none⟩ = false) :
    Calls Tryz.prog 122 #[.slice (some ⟨b, off, none⟩) n c] w fun e w' => e = .returned (.slice (some ⟨b, off, none⟩) (Lib.compact (zs.take n)).length c) ∧ ∃ q, w' = (w.drewN q).setCells b off ((Lib.compact (zs.take n) ++ List.replicate (n - (Lib.compact (zs.take n)).length) 0).map (Value.int .i64)) := Any.slices_Compact_int_cells Tryz.laysNm220 b off n c zs w hz hbig hcap hc hf
open Go.RowKit Go.Sort in
theorem Tryz.slices_Sort_int_none (p : Option Addr) (cap : Nat) (w : World) :
    Calls Tryz.prog 44 #[.slice p 0 cap] w fun e w' => e = .returned (.tuple #[]) ∧ w' = w := Any.slices_Sort_int_none Tryz.lays189 p cap w
def Tryz.laysSlE041_f42_ren : Go.Shelf.Ren := ⟨fun | 41 => 42 | n => n, fun | 22 => 36 | 23 => 3 | 4 => 4 | n => n, fun | n => n⟩
theorem Tryz.laysSlE041_f42 : Go.Proofs.SlLaysE0.n41 Tryz.prog Tryz.laysSlE041_f42_ren := {
  mixed := by kernel_rfl
  f41 := ⟨Tryz.f42.name, by decide, Tryz.func42.trans (congrArg some (by kernel_rfl))⟩
  t4 := Tryz.underlying4
  a4 := Tryz.isAgg4
  z4 := Tryz.sizeOf4
  v4 := Tryz.zeroValue4
  t22 := Tryz.underlying36
  a22 := Tryz.isAgg36
  z22 := Tryz.sizeOf36
  v22 := Tryz.zeroValue36 }
open Go.RowKit Go.Lib in
theorem Tryz.slices_Clone_f42 (i0 : TypeInfo) (z : Value) (size bytes : Nat) (hi : Tryz.prog.info? 3 = some i0) (hz0 : i0.zero = some z) (hz1 : i0.size = size) (hz2 : i0.bytes = bytes) (hzs : z.cells.size = size) (hsz : 0 < size) (z23 : ∀ w, (Go.sizeOf 3).run Tryz.prog w = .ok size w) (b off n c : Nat) (news : List Value) (w : World) (hl : news.length = n * size) (hn : n ≤ maxLen) (hbig : n * bytes ≤ 140737488355328) (hc : ∀ j u, news[j]? = some u → w.cell? ⟨b, off + j, none⟩ = some u) (h1 : ∀ u ∈ news, u.oneCell' = true) :
    Calls Tryz.prog 42 #[.slice (some ⟨b, off, none⟩) n c] w fun e w' => ∃ v', e = .returned v' ∧ w'.ownsRow w.heap.size 3 size v' n news ∧ v' ≠ .slice none 0 0 ∧ Below w.heap.size w w' := AnyE.slices_Clone Tryz.laysSlE041_f42 i0 z size bytes hi hz0 hz1 hz2 hzs hsz z23 b off n c news w hl hn hbig hc h1
def Tryz.laysSlE041_f130_ren : Go.Shelf.Ren := ⟨fun | 41 => 130 | n => n, fun | 22 => 31 | 23 => 38 | 4 => 4 | n => n, fun | n => n⟩
theorem Tryz.laysSlE041_f130 : Go.Proofs.SlLaysE0.n41 Tryz.prog Tryz.laysSlE041_f130_ren := {
  mixed := by kernel_rfl
  f41 := ⟨Tryz.f130.name, by decide, Tryz.func130.trans (congrArg some (by kernel_rfl))⟩
  t4 := Tryz.underlying4
  a4 := Tryz.isAgg4
  z4 := Tryz.sizeOf4
  v4 := Tryz.zeroValue4
  t22 := Tryz.underlying31
  a22 := Tryz.isAgg31
  z22 := Tryz.sizeOf31
  v22 := Tryz.zeroValue31 }
open Go.RowKit Go.Lib in
theorem Tryz.slices_Clone_f130 (i0 : TypeInfo) (z : Value) (size bytes : Nat) (hi : Tryz.prog.info? 38 = some i0) (hz0 : i0.zero = some z) (hz1 : i0.size = size) (hz2 : i0.bytes = bytes) (hzs : z.cells.size = size) (hsz : 0 < size) (z23 : ∀ w, (Go.sizeOf 38).run Tryz.prog w = .ok size w) (b off n c : Nat) (news : List Value) (w : World) (hl : news.length = n * size) (hn : n ≤ maxLen) (hbig : n * bytes ≤ 140737488355328) (hc : ∀ j u, news[j]? = some u → w.cell? ⟨b, off + j, none⟩ = some u) (h1 : ∀ u ∈ news, u.oneCell' = true) :
    Calls Tryz.prog 130 #[.slice (some ⟨b, off, none⟩) n c] w fun e w' => ∃ v', e = .returned v' ∧ w'.ownsRow w.heap.size 38 size v' n news ∧ v' ≠ .slice none 0 0 ∧ Below w.heap.size w w' := AnyE.slices_Clone Tryz.laysSlE041_f130 i0 z size bytes hi hz0 hz1 hz2 hzs hsz z23 b off n c news w hl hn hbig hc h1
open Go.RowKit Go.Lib in
theorem Tryz.slices_Clone_nil_f42 (n c : Nat) (w : World) :
    Calls Tryz.prog 42 #[.slice none n c] w fun e w' => e = .returned (.slice none 0 0) ∧ w' = w := AnyE.slices_Clone_nil Tryz.laysSlE041_f42 n c w
open Go.RowKit Go.Lib in
theorem Tryz.slices_Clone_nil_f130 (n c : Nat) (w : World) :
    Calls Tryz.prog 130 #[.slice none n c] w fun e w' => e = .returned (.slice none 0 0) ∧ w' = w := AnyE.slices_Clone_nil Tryz.laysSlE041_f130 n c w
end Go.Proofs

/- Walk: edges laid by their nodes. -/
namespace Go.Proofs.YtomednfddpggaaaGreat
open Go Go.RowKit
def nv (l : List Nat) : List Value := l.map fun (i : Nat) => Value.int .i64 (i : Int)
theorem nv_len (l : List Nat) : (nv l).length = l.length := by simp [nv]
theorem nv_set (l : List Nat) (j v : Nat) : (nv l).set j (.int .i64 (v : Int)) = nv (l.set j v) := by simp [nv, List.map_set]
theorem nv_rep (n : Nat) : nv (List.replicate n 0) = List.replicate n (.int .i64 0) := by simp [nv]
def gn (l : List Nat) (k : Nat) : Nat := l.getD k 0
theorem nv_at {l : List Nat} {j : Nat} (h : j < l.length) : (nv l)[j]? = some (.int .i64 (gn l j : Int)) := by simp [nv, gn, h]
theorem gn_rep (n k : Nat) : gn (List.replicate n 0) k = 0 := by
  unfold gn
  rw [List.getD_eq_getElem?_getD, List.getElem?_replicate]
  split <;> rfl
theorem gn_set (l : List Nat) (j k v : Nat) (hj : j < l.length) : gn (l.set j v) k = if k = j then v else gn l k := by
  unfold gn
  by_cases h : k = j
  · subst h; simp [hj]
  · simp [h, Ne.symm h]
theorem Row1.nat {w : World} {g n c : Nat} {e : TypeId} {l : List Nat} (h : Row1 w g e 1 n c (nv l)) {j : Nat} (hj : j < n) : Mine w ⟨g, j, none⟩ (.int .i64 (gn l j : Int)) := by
  have hl := h.len
  rw [nv_len] at hl
  exact h.mine (nv_at (by omega))
theorem Row1.nlen {w : World} {g n c : Nat} {e : TypeId} {l : List Nat} (h : Row1 w g e 1 n c (nv l)) : l.length = n := by
  have hl := h.len
  rw [nv_len] at hl
  omega
def GiveLaid (w : World) (N n : Nat) (f : Nat → Nat) (e : Ending) (w' : World) : Prop :=
  ∃ g1 g2 X B, e = .returned (.agg #[.slice (some ⟨g1, 0, none⟩) n n, .slice (some ⟨g2, 0, none⟩) (N + 1) (N + 1)]) ∧ Row1 w' g1 3 1 n n (nv X) ∧ Row1 w' g2 3 1 (N + 1) (N + 1) (nv B) ∧
    (∀ i, i < n → X[posN f n i]? = some i) ∧ (∀ v, v ≤ N → gn B v = begN f n v) ∧ w.heap.size ≤ g1 ∧ w.heap.size ≤ g2 ∧ Grows w w'
theorem eq_add2 (a : Nat) : (a = a + 1 + 1) = False := by simp; omega
theorem eq_add3 (a : Nat) : (a = a + 1 + 1 + 1) = False := by simp; omega
theorem heap_drew (w : World) : w.drew.heap = w.heap := rfl
theorem heap_push (w : World) (o : Obj) : (w.alloc o).heap = w.heap.push o := rfl
def LaidL1 (w : World) (N n : Nat) (f : Nat → Nat) (b7 g1 g2 j : Nat) (wr : World) : Prop :=
  ∃ y : Later w, wr = y.now ∧ Arr y.now b7 109 [.slice (some ⟨g1, 0, none⟩) n n, .slice (some ⟨g2, 0, none⟩) (N + 1) (N + 1)] ∧ Row1 y.now g1 3 1 n n (nv (List.replicate n 0)) ∧
    ∃ B, Row1 y.now g2 3 1 (N + 1) (N + 1) (nv B) ∧ ∀ v, v ≤ N → gn B v = if v = 0 then 0 else cntN f (v - 1) j
theorem cntN_le (f : Nat → Nat) (v j : Nat) : cntN f v j ≤ j := by unfold cntN; exact Nat.le_trans (List.length_filter_le _ _) (by simp)
theorem LaidL1.step {w : World} {N n j : Nat} {f : Nat → Nat} {b7 g1 g2 : Nat} {B : List Nat} (y : Later w) {W : World} (hg : Grows y.now W) (ha : Arr y.now b7 109 [.slice (some ⟨g1, 0, none⟩) n n, .slice (some ⟨g2, 0, none⟩) (N + 1) (N + 1)])
    (hr1 : Row1 y.now g1 3 1 n n (nv (List.replicate n 0))) (hr2 : Row1 y.now g2 3 1 (N + 1) (N + 1) (nv B)) (hl2 : w.heap.size ≤ g2) (hne : g1 ≠ g2) (hj : f j < N) (hB : ∀ v, v ≤ N → gn B v = if v = 0 then 0 else cntN f (v - 1) j) :
    LaidL1 w N n f b7 g1 g2 (j + 1) (W.setCell ⟨g2, f j + 1, none⟩ (.int .i64 ((gn B (f j + 1) : Int) + 1))) := by
  have hlen := hr2.nlen
  refine ⟨⟨_, (y.grows.trans hg).set hl2 _⟩, rfl, (ha.grow hg).other (hr2.ne ha (by decide)) _, (hr1.grow hg).other (Ne.symm hne) _, B.set (f j + 1) (gn B (f j + 1) + 1), ?_, fun v hv => ?_⟩
  · rw [← nv_set, Int.natCast_add, Int.natCast_one]
    exact (hr2.grow hg).set _ _
  · rw [gn_set _ _ _ _ (by omega), hB v hv, hB (f j + 1) (by omega), if_neg (by omega : ¬ f j + 1 = 0), cntN_succ]
    by_cases h0 : v = 0
    · subst h0; simp
    · rw [if_neg h0, if_neg h0]
      by_cases h1 : v = f j + 1
      · subst h1; simp
      · rw [if_neg h1, if_neg (by omega)]; omega
def LaidL2 (w : World) (N n : Nat) (f : Nat → Nat) (b7 g1 g2 v : Nat) (wr : World) : Prop :=
  ∃ y : Later w, wr = y.now ∧ Arr y.now b7 109 [.slice (some ⟨g1, 0, none⟩) n n, .slice (some ⟨g2, 0, none⟩) (N + 1) (N + 1)] ∧ Row1 y.now g1 3 1 n n (nv (List.replicate n 0)) ∧
    ∃ B, Row1 y.now g2 3 1 (N + 1) (N + 1) (nv B) ∧ ∀ u, u ≤ N → gn B u = if u ≤ v then begN f n u else cntN f (u - 1) n
theorem LaidL2.step {w : World} {N n v : Nat} {f : Nat → Nat} {b7 g1 g2 : Nat} {B : List Nat} (y : Later w) {W : World} (hg : Grows y.now W) (ha : Arr y.now b7 109 [.slice (some ⟨g1, 0, none⟩) n n, .slice (some ⟨g2, 0, none⟩) (N + 1) (N + 1)])
    (hr1 : Row1 y.now g1 3 1 n n (nv (List.replicate n 0))) (hr2 : Row1 y.now g2 3 1 (N + 1) (N + 1) (nv B)) (hl2 : w.heap.size ≤ g2) (hne : g1 ≠ g2) (hv : v < N) (hB : ∀ u, u ≤ N → gn B u = if u ≤ v then begN f n u else cntN f (u - 1) n) :
    LaidL2 w N n f b7 g1 g2 (v + 1) (W.setCell ⟨g2, v + 1, none⟩ (.int .i64 ((gn B (v + 1) : Int) + (gn B v : Int)))) := by
  have hlen := hr2.nlen
  refine ⟨⟨_, (y.grows.trans hg).set hl2 _⟩, rfl, (ha.grow hg).other (hr2.ne ha (by decide)) _, (hr1.grow hg).other (Ne.symm hne) _, B.set (v + 1) (gn B (v + 1) + gn B v), ?_, fun u hu => ?_⟩
  · rw [← nv_set, Int.natCast_add]
    exact (hr2.grow hg).set _ _
  · rw [gn_set _ _ _ _ (by omega), hB u hu, hB (v + 1) (by omega), hB v (by omega), if_neg (by omega : ¬ v + 1 ≤ v), if_pos (Nat.le_refl v)]
    by_cases h1 : u = v + 1
    · subst h1
      rw [if_pos rfl, if_pos (Nat.le_refl _), begN_succ, Nat.add_sub_cancel]; omega
    · rw [if_neg h1]
      by_cases h2 : u ≤ v
      · rw [if_pos h2, if_pos (by omega)]
      · rw [if_neg h2, if_neg (by omega)]
theorem cloneN (A : Option Addr) (n c : Nat) (B : List Nat) (w : World) (h : Rd w A 1 n (nv B)) (h0 : 0 < n) (hn : n ≤ 1000000) :
    Calls Tryz.prog 42 #[.slice A n c] w fun e w' => ∃ g c', e = .returned (.slice (some ⟨g, 0, none⟩) n c') ∧ Row1 w' g 3 1 n c' (nv B) ∧ w.heap.size ≤ g ∧ Grows w w' := by
  have hl : B.length = n := by have := h.len; rwa [nv_len] at this
  obtain ⟨b, off, rfl, hc⟩ := h.at_ h0
  have hm : nv B = (B.map Int.ofNat).map (Value.int .i64) := by simp [nv]
  refine (Tryz.slices_Clone_int b off n c (B.map Int.ofNat) w (by simp; omega) (by omega) (fun j hj => hc j _ (by
    rw [hm, List.getElem?_map, List.getElem?_eq_getElem hj]
    simp [List.getD_eq_getElem?_getD, List.getElem?_eq_getElem hj]))).mono ?_
  rintro e w' ⟨v', rfl, ho, hv, hg⟩
  obtain ⟨A', c', rfl⟩ := own_form ho
  rw [List.take_of_length_le (by simp; omega), ← hm] at ho
  obtain ⟨g, hA, hB⟩ : ∃ g, A' = some ⟨g, 0, none⟩ ∧ w.heap.size ≤ g := by
    obtain ⟨g, cur, h1, h2, _⟩ := Own.at_ (A := A') (c := c') ho h0
    exact ⟨g, h1, h2⟩
  subst hA
  exact ⟨g, c', rfl, (Own.row ho).1, hB, hg⟩
def LaidL3 (w : World) (N n : Nat) (f : Nat → Nat) (b7 g1 g2 g3 c3 : Nat) (B : List Nat) (j : Nat) (wr : World) : Prop :=
  ∃ y : Later w, wr = y.now ∧ Arr y.now b7 109 [.slice (some ⟨g1, 0, none⟩) n n, .slice (some ⟨g2, 0, none⟩) (N + 1) (N + 1)] ∧ Row1 y.now g2 3 1 (N + 1) (N + 1) (nv B) ∧
    ∃ X T, Row1 y.now g1 3 1 n n (nv X) ∧ Row1 y.now g3 3 1 (N + 1) c3 (nv T) ∧ (∀ i, i < j → X[posN f n i]? = some i) ∧ ∀ v, v < N → gn T v = begN f n v + cntN f v j
theorem LaidL3.step {w : World} {N n j : Nat} {f : Nat → Nat} {b7 g1 g2 g3 c3 : Nat} {B X T : List Nat} (y : Later w) {W : World} (hg : Grows y.now W) (ha : Arr y.now b7 109 [.slice (some ⟨g1, 0, none⟩) n n, .slice (some ⟨g2, 0, none⟩) (N + 1) (N + 1)])
    (hr2 : Row1 y.now g2 3 1 (N + 1) (N + 1) (nv B)) (hr1 : Row1 y.now g1 3 1 n n (nv X)) (hr3 : Row1 y.now g3 3 1 (N + 1) c3 (nv T)) (hl1 : w.heap.size ≤ g1) (hl3 : w.heap.size ≤ g3) (h12 : g1 ≠ g2) (h13 : g1 ≠ g3) (h23 : g2 ≠ g3) (hj : f j < N) (hjn : j < n)
    (hX : ∀ i, i < j → X[posN f n i]? = some i) (hT : ∀ v, v < N → gn T v = begN f n v + cntN f v j) :
    LaidL3 w N n f b7 g1 g2 g3 c3 B (j + 1) ((W.setCell ⟨g1, gn T (f j), none⟩ (.int .i64 (j : Int))).setCell ⟨g3, f j, none⟩ (.int .i64 ((gn T (f j) : Int) + 1))) := by
  have hlen := hr3.nlen
  have hlen1 := hr1.nlen
  have hp : gn T (f j) = posN f n j := hT _ hj
  refine ⟨⟨_, ((y.grows.trans hg).set hl1 _).set hl3 _⟩, rfl, ((ha.grow hg).other (hr1.ne ha (by decide)) _).other (hr3.ne ha (by decide)) _, ((hr2.grow hg).other h12 _).other (Ne.symm h23) _,
    X.set (gn T (f j)) j, T.set (f j) (gn T (f j) + 1), ?_, ?_, fun i hi => ?_, fun v hv => ?_⟩
  · rw [← nv_set]
    exact ((hr1.grow hg).set _ _).other (Ne.symm h13) _
  · rw [← nv_set, Int.natCast_add, Int.natCast_one]
    exact ((hr3.grow hg).other h13 _).set _ _
  · rw [hp]
    by_cases h1 : i = j
    · subst h1
      rw [List.getElem?_set_self (by rw [hlen1]; exact posN_m f n i hjn)]
    · rw [List.getElem?_set_ne (Ne.symm (posN_ne f n (by omega) hjn)), hX i (by omega)]
  · rw [gn_set _ _ _ _ (by omega), cntN_succ, hT v hv]
    by_cases h1 : v = f j
    · subst h1; simp [hp, posN]; omega
    · rw [if_neg h1, if_neg (fun e => h1 e.symm)]; omega
def LaidAt (w : World) (N n : Nat) (s7 : Value) (wx : World) : Prop :=
  ∃ x : Later w, wx = x.now ∧ ∃ b7 g1 g2, s7 = .pointer (some ⟨b7, 0, none⟩) ∧ Arr x.now b7 109 [.slice (some ⟨g1, 0, none⟩) n n, .slice (some ⟨g2, 0, none⟩) (N + 1) (N + 1)] ∧
    Row1 x.now g1 3 1 n n (nv (List.replicate n 0)) ∧ Row1 x.now g2 3 1 (N + 1) (N + 1) (nv (List.replicate (N + 1) 0)) ∧ g1 ≠ g2 ∧ w.heap.size ≤ g1 ∧ w.heap.size ≤ g2
theorem laid_rel {w wx : World} {s7 : Value} {b7 : Nat} (n N g1 g2 : Nat) (hs : s7 = .pointer (some ⟨b7, 0, none⟩)) (hg : Grows w wx)
    (h1 : wx.heap[b7]? = some (.cells [Value.slice (some ⟨g1, 0, none⟩) n n, .slice (some ⟨g2, 0, none⟩) (N + 1) (N + 1)].toArray 109 (0, 0))) (h2 : wx.heap[g1]? = some (.cells (List.replicate n (Value.int .i64 0)).toArray 3 (0, 0)))
    (h3 : wx.heap[g2]? = some (.cells (List.replicate (N + 1) (Value.int .i64 0)).toArray 3 (0, 0))) (hne : g1 ≠ g2) (hl : w.heap.size ≤ g1 ∧ w.heap.size ≤ g2) (hn : n ≤ 1000000) (hN : N ≤ 100000) : LaidAt w N n s7 wx :=
  ⟨⟨wx, hg⟩, rfl, b7, g1, g2, hs, ⟨h1⟩, Arr.row ⟨by rw [nv_rep]; exact h2⟩ (by simp [nv_len]) (by omega), Arr.row ⟨by rw [nv_rep]; exact h3⟩ (by simp [nv_len]) (by omega), hne, hl.1, hl.2⟩
set_option maxRecDepth 20000 in
set_option maxHeartbeats 4000000 in
theorem adjLaid (N : Nat) (A : Option Addr) (n c : Nat) (E : List Edg) (k : FuncId) (nd : Edg → Nat) (w : World) (h : Rd w A 3 n (esCells E)) (hn : n ≤ 1000000) (hN : N ≤ 100000)
    (hk : ∀ args W, (callFunc k args).run Tryz.prog W = .ok (.enter k args) W) (hf : ∀ i, i < n → ∀ W, Calls Tryz.prog k #[eVal (ge E i)] W fun x w' => x = .returned (.int .i64 (nd (ge E i) : Int)) ∧ Grows W w') (hnd : ∀ i, i < n → nd (ge E i) < N) :
    Calls Tryz.prog 64 #[.int .i64 (N : Int), .slice A n c, .func (.func k) #[] #[]] w (GiveLaid w N n fun i => nd (ge E i)) := by
  have HE := hide h
  have HF := hide hf
  have HD := hide hnd
  have mk1 := run_makeInts n (by omega)
  have mk2 := run_makeInts (N + 1) (by omega)
  clear h hf hnd
  rw [Int.natCast_add, Int.natCast_one] at mk2
  have hw1 : IntKind.i64.wrap ((N : Int) + 1) = (N : Int) + 1 := IntWalk.i64_in _ (by omega)
  go_enter Tryz.func64, Tryz.ntmps64
  go_upto_region 1 with fail
  have i0 : Mine (w.alloc (.cells #[.slice none 0 0, .slice none 0 0] 109)) ⟨w.heap.size, 0, none⟩ (.slice none 0 0) := Mine.new0 _ _ _ _
  have i1 : Mine (w.alloc (.cells #[.slice none 0 0, .slice none 0 0] 109)) ⟨w.heap.size, 1, none⟩ (.slice none 0 0) := Mine.new1 _ _ _ _ _
  have hgW : Grows w (w.alloc (.cells #[.slice none 0 0, .slice none 0 0] 109)) := (Grows.refl w).new _
  have hsz : w.heap.size < (w.alloc (.cells #[.slice none 0 0, .slice none 0 0] 109)).heap.size := by simp
  replace HE := hide (HE.out.grows hgW)
  generalize w.alloc (.cells #[.slice none 0 0, .slice none 0 0] 109) = W0 at *
  go_cut [7] (fun s7 wx => LaidAt W0 N n s7 wx)
  case first =>
    go_region_with fail
    all_goals go_wp2_with fail
    all_goals go_meet
    all_goals (case rel =>
      first
        | (refine laid_rel n N (W0.heap.size) (W0.heap.size + 1) (by with_reducible rfl) GG ?_ ?_ ?_ (by omega) (by omega) hn hN <;> (simp [heap_drew, heap_push, Array.getElem_push, Array.getElem?_push, eq_add2]; done))
        | (refine laid_rel n N (W0.heap.size) (W0.heap.size + 1 + 1) (by with_reducible rfl) GG ?_ ?_ ?_ (by omega) (by omega) hn hN <;> (simp [heap_drew, heap_push, Array.getElem_push, Array.getElem?_push, eq_add2]; done))
        | (refine laid_rel n N (W0.heap.size + 1) (W0.heap.size) (by with_reducible rfl) GG ?_ ?_ ?_ (by omega) (by omega) hn hN <;> (simp [heap_drew, heap_push, Array.getElem_push, Array.getElem?_push, eq_add2]; done))
        | (refine laid_rel n N (W0.heap.size + 1) (W0.heap.size + 1 + 1) (by with_reducible rfl) GG ?_ ?_ ?_ (by omega) (by omega) hn hN <;> (simp [heap_drew, heap_push, Array.getElem_push, Array.getElem?_push, eq_add2]; done))
        | (refine laid_rel n N (W0.heap.size + 1 + 1) (W0.heap.size) (by with_reducible rfl) GG ?_ ?_ ?_ (by omega) (by omega) hn hN <;> (simp [heap_drew, heap_push, Array.getElem_push, Array.getElem?_push, eq_add2]; done))
        | (refine laid_rel n N (W0.heap.size + 1 + 1) (W0.heap.size + 1) (by with_reducible rfl) GG ?_ ?_ ?_ (by omega) (by omega) hn hN <;> (simp [heap_drew, heap_push, Array.getElem_push, Array.getElem?_push, eq_add2]; done)))
  case rest =>
    obtain ⟨x0, rfl, b7, g1, g2, rfl, hb7, hr1, hr2, hne, hl1, hl2⟩ := hcut
    have HL1 : Hid (LaidL1 W0 N n (fun i => nd (ge E i)) b7 g1 g2 0 x0.now) := ⟨x0, rfl, hb7, hr1, _, hr2, fun v hv => by
      rw [cntN_zero, gn_rep]; split <;> rfl⟩
    have HN := hide hne
    clear hb7 hr1 hr2 hne
    go_wp2_with fail
    go_loopw [24] (fun s wr => ∃ j : Nat, j ≤ n ∧ s = .int .i64 (j : Int) ∧ LaidL1 W0 N n (fun i => nd (ge E i)) b7 g1 g2 j wr) (fun s _ => n - (Go.RowKit.intOf s).toNat)
    case atStart => exact ⟨0, by omega, by go_num, HL1.out⟩
    case round =>
      obtain ⟨j, hj, rfl, y, rfl, ha, hr1, B, hr2, hB⟩ := hrel
      have HB := hide hB
      have HR1 := hide hr1
      have HR2 := hide hr2
      clear hB hr1 hr2 HL1
      by_cases hlt : j < n
      · obtain ⟨b, off, rfl, hc⟩ := HE.out.edgesH (by omega)
        obtain ⟨e1, e2, e3⟩ := hc j hlt
        have hd := HD.out j hlt
        have hb1 : gn B (nd (ge E j) + 1) ≤ 1000000 := by rw [HB.out _ (by omega), if_neg (by omega)]; exact Nat.le_trans (cntN_le _ _ _) (by omega)
        have m1 := HR2.out.nat (j := nd (ge E j) + 1) (by omega)
        have HX := hide (HF.out j hlt)
        clear hc
        go_wp2_with fail
        (refine wp_region_tail1 10 (by kernel_rfl) (by kernel_rfl) ?_; simp only [List.take_succ_cons, List.take_zero, List.drop_succ_cons, List.drop_zero]; (repeat' (first | (refine gLex_val0 rfl (by kernel_rfl) (fun K hK => ?_); (go_simp; (try (simp only [↓IntWalk.iteOmega]; try go_simp)); (try simp (disch := omega) only [IntWalk.i64_in]); (try simp (disch := omega) only [IntWalk.u64_in]); first | (refine hK _ ?_; clear hK K) | (apply Exists.intro; refine ⟨fun x => ?_, hK _ ?_⟩; (first | (exact HX.out _)); clear hK K))) | (refine gLex_undef rfl rfl rfl (by kernel_rfl) (fun K hK => ?_); go_simp; refine hK _ ?_; clear hK K) | (refine gLex_ask rfl rfl rfl ?_; first | (apply gAsk_yes; kernel_rfl; intro K hK; (go_simp; (try (simp only [↓IntWalk.iteOmega]; try go_simp)); (try simp (disch := omega) only [IntWalk.i64_in]); (try simp (disch := omega) only [IntWalk.u64_in]); first | (refine hK _ ?_; clear hK K) | (apply Exists.intro; refine ⟨fun x => ?_, hK _ ?_⟩; (first | (exact HX.out _)); clear hK K))) | ((first | apply gAsk_no1 | apply gAsk_no2); kernel_rfl; intro K hK; simp [go_sem]; refine hK _ ?_; clear hK K)))); refine gLex_endT (fun x => ?_))
        go_wp2_with fail
        have hgx : Grows y.now x.now := GG
        exact ⟨⟨j + 1, by omega, by go_num, LaidL1.step (f := fun i => nd (ge E i)) y hgx ha HR1.out HR2.out hl2 HN.out hd HB.out⟩, by simp [Go.RowKit.intOf]; omega⟩
      · obtain rfl : j = n := by omega
        have HL2 : Hid (LaidL2 W0 N j (fun i => nd (ge E i)) b7 g1 g2 0 y.now) := ⟨y, rfl, ha, HR1.out, _, HR2.out, fun v hv => by
          rw [HB.out v hv]
          by_cases h0 : v = 0
          · subst h0; rw [begN_zero]; rfl
          · rw [if_neg h0, if_neg (by omega)]⟩
        clear HB HR1 HR2 ha
        go_wp2_with fail
        go_loopw [40] (fun s wr => ∃ v : Nat, v ≤ N ∧ s = .int .i64 (v : Int) ∧ LaidL2 W0 N j (fun i => nd (ge E i)) b7 g1 g2 v wr) (fun s _ => N - (Go.RowKit.intOf s).toNat)
        case atStart => exact ⟨0, by omega, by go_num, HL2.out⟩
        case round =>
          obtain ⟨v, hv, rfl, y2, rfl, ha, hr1, B, hr2, hB⟩ := hrel
          have HB := hide hB
          have HR1 := hide hr1
          have HR2 := hide hr2
          clear hB hr1 hr2 HL2
          by_cases hlt : v < N
          · have m1 := HR2.out.nat (j := v) (by omega)
            have m2 := HR2.out.nat (j := v + 1) (by omega)
            have b1 : gn B v ≤ 1000000 := by rw [HB.out v (by omega), if_pos (by omega)]; exact Nat.le_trans (begN_le _ _ _) hn
            have b2 : gn B (v + 1) ≤ 1000000 := by rw [HB.out (v + 1) (by omega), if_neg (by omega)]; exact Nat.le_trans (cntN_le _ _ _) hn
            go_wp2_with fail
            (refine wp_region_tail1 13 (by kernel_rfl) (by kernel_rfl) ?_; simp only [List.take_succ_cons, List.take_zero, List.drop_succ_cons, List.drop_zero]; (repeat' (first | (refine gLex_val0 rfl (by kernel_rfl) (fun K hK => ?_); (go_simp; (try (simp only [↓IntWalk.iteOmega]; try go_simp)); (try simp (disch := omega) only [IntWalk.i64_in]); (try simp (disch := omega) only [IntWalk.u64_in]); first | (refine hK _ ?_; clear hK K) | (apply Exists.intro; refine ⟨fun x => ?_, hK _ ?_⟩; (first | fail); clear hK K))) | (refine gLex_undef rfl rfl rfl (by kernel_rfl) (fun K hK => ?_); go_simp; refine hK _ ?_; clear hK K) | (refine gLex_ask rfl rfl rfl ?_; first | (apply gAsk_yes; kernel_rfl; intro K hK; (go_simp; (try (simp only [↓IntWalk.iteOmega]; try go_simp)); (try simp (disch := omega) only [IntWalk.i64_in]); (try simp (disch := omega) only [IntWalk.u64_in]); first | (refine hK _ ?_; clear hK K) | (apply Exists.intro; refine ⟨fun x => ?_, hK _ ?_⟩; (first | fail); clear hK K))) | ((first | apply gAsk_no1 | apply gAsk_no2); kernel_rfl; intro K hK; simp [go_sem]; refine hK _ ?_; clear hK K)))); refine gLex_endT (fun x => ?_))
            go_wp2_with fail
            have hgx : Grows y2.now x.now := GG
            exact ⟨⟨v + 1, by omega, by go_num, LaidL2.step y2 hgx ha HR1.out HR2.out hl2 HN.out hlt HB.out⟩, by simp [Go.RowKit.intOf]; omega⟩
          · obtain rfl : v = N := by omega
            have HL3 : Hid (∀ u, u ≤ v → gn B u = begN (fun i => nd (ge E i)) j u) := fun u hu => by rw [HB.out u hu, if_pos hu]
            have HC := hide (fun (W : World) (g : Grows y2.now W) => cloneN _ (v + 1) (v + 1) B W ((HR2.out.grow g).rd) (by omega) (by omega))
            clear HB
            have hlt1 := HR1.out.lt
            have hlt2 := HR2.out.lt
            go_wp2_with (first
              | (go_at_call 42; refine (HC.out _ GG).mono ?_; rintro e w' ⟨g3, c3, rfl, hr3, hl3, hg⟩; obtain ⟨x3, rfl⟩ := hg.later; have HR3 := hide hr3; clear hg hr3))
            have h13 : g1 ≠ g3 := by omega
            have h23 : g2 ≠ g3 := by omega
            have hl3' : W0.heap.size ≤ g3 := Nat.le_trans y2.grows.size hl3
            have HS : Hid (LaidL3 W0 v j (fun i => nd (ge E i)) b7 g1 g2 g3 c3 B 0 x3.now) :=
              ⟨⟨_, y2.grows.trans x3.grows⟩, rfl, ha.grow x3.grows, HR2.out.grow x3.grows, _, B, HR1.out.grow x3.grows, HR3.out, fun i hi => absurd hi (by omega), fun u hu => by rw [HL3.out u (by omega), cntN_zero]; rfl⟩
            have HBL : Hid (∀ u, u ≤ v → gn B u = begN (fun i => nd (ge E i)) j u) := HL3.out
            have H13 := hide h13
            have H23 := hide h23
            clear HR1 HR2 HR3 HL3 HC ha hlt1 hlt2 hl3 h13 h23
            go_loopw [62] (fun s wr => ∃ i : Nat, i ≤ j ∧ s = .int .i64 (i : Int) ∧ LaidL3 W0 v j (fun i => nd (ge E i)) b7 g1 g2 g3 c3 B i wr) (fun s _ => j - (Go.RowKit.intOf s).toNat)
            case atStart => exact ⟨0, by omega, by go_num, HS.out⟩
            case round =>
              obtain ⟨i, hi, rfl, y3, rfl, ha, hr2, X, T, hr1, hr3, hX, hT⟩ := hrel
              have HX := hide hX
              have HT := hide hT
              have HR1 := hide hr1
              have HR2 := hide hr2
              have HR3 := hide hr3
              clear hX hT hr1 hr2 hr3 HS
              by_cases hlt : i < j
              · obtain ⟨b, off, rfl, hc⟩ := HE.out.edgesH (by omega)
                obtain ⟨e1, e2, e3⟩ := hc i hlt
                have hd := HD.out i hlt
                have hp : gn T (nd (ge E i)) < j := by rw [HT.out _ hd]; exact posN_m (fun i => nd (ge E i)) j i hlt
                have m1 := HR3.out.nat (j := nd (ge E i)) (by omega)
                have m2 := HR1.out.nat (j := gn T (nd (ge E i))) hp
                have HXX := hide (HF.out i hlt)
                clear hc
                go_wp2_with ((refine (HXX.out _).mono ?_; rintro e w' ⟨rfl, hg⟩; obtain ⟨x4, rfl⟩ := hg.later; clear hg))
                (refine wp_region_tail1 8 (by kernel_rfl) (by kernel_rfl) ?_; simp only [List.take_succ_cons, List.take_zero, List.drop_succ_cons, List.drop_zero]; (repeat' (first | (refine gLex_val0 rfl (by kernel_rfl) (fun K hK => ?_); (go_simp; (try (simp only [↓IntWalk.iteOmega]; try go_simp)); (try simp (disch := omega) only [IntWalk.i64_in]); (try simp (disch := omega) only [IntWalk.u64_in]); first | (refine hK _ ?_; clear hK K) | (apply Exists.intro; refine ⟨fun x => ?_, hK _ ?_⟩; (first | fail); clear hK K))) | (refine gLex_undef rfl rfl rfl (by kernel_rfl) (fun K hK => ?_); go_simp; refine hK _ ?_; clear hK K) | (refine gLex_ask rfl rfl rfl ?_; first | (apply gAsk_yes; kernel_rfl; intro K hK; (go_simp; (try (simp only [↓IntWalk.iteOmega]; try go_simp)); (try simp (disch := omega) only [IntWalk.i64_in]); (try simp (disch := omega) only [IntWalk.u64_in]); first | (refine hK _ ?_; clear hK K) | (apply Exists.intro; refine ⟨fun x => ?_, hK _ ?_⟩; (first | fail); clear hK K))) | ((first | apply gAsk_no1 | apply gAsk_no2); kernel_rfl; intro K hK; simp [go_sem]; refine hK _ ?_; clear hK K)))); refine gLex_endT (fun x => ?_))
                go_upto_region 18 with fail
                have hgx : Grows y3.now x.now := GG
                have m3 : Mine (x.now.setCell ⟨g1, gn T (nd (ge E i)), none⟩ (.int .i64 (i : Int))) ⟨g3, nd (ge E i), none⟩ _ := ((HR3.out.grow hgx).other H13.out _).nat (j := nd (ge E i)) (by omega)
                have b1 : gn T (nd (ge E i)) ≤ 1000000 := by omega
                go_wp2_with fail
                exact ⟨⟨i + 1, by omega, by go_num, LaidL3.step (f := fun i => nd (ge E i)) y3 hgx ha HR2.out HR1.out HR3.out hl1 hl3' HN.out H13.out H23.out hd hlt HX.out HT.out⟩, by simp [Go.RowKit.intOf]; omega⟩
              · obtain rfl : i = j := by omega
                go_wp2_with fail
                refine bodyPost_ret (v := .agg #[.slice (some ⟨g1, 0, none⟩) i i, .slice (some ⟨g2, 0, none⟩) (v + 1) (v + 1)]) (by simp (maxDischargeDepth := 6) [results, Tryz.results64, go_sem, *]) rfl ⟨g1, g2, X, B, rfl, ?_, ?_, HX.out, HBL.out, by omega, by omega, ?_⟩
                · exact (HR1.out.other (by simp; omega) _).other (by simp; omega) _
                · exact (HR2.out.other (by simp; omega) _).other (by simp; omega) _
                · exact ((hgW.trans y3.grows).set (Nat.le_refl _) _).set (Nat.le_refl _) _
end Go.Proofs.YtomednfddpggaaaGreat
