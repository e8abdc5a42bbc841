/-
  DERIVED: THE SHELF's CONTRACTS AT THIS DUMP, IN PLAIN WORDS (tools/lay-plain.mjs out of 'TryShelf.lean', which tools/lay-shelf.mjs wrote): THE SAME DECLARATIONS UNDER THE SAME NAMES: 'import', 'namespace', 'open', 'def', 'theorem' AND NOTHING ELSE: no command of the shelf's: FOR A HAND-IN. Each laying: the table of numbers ('.._ren') and one theorem, a field a fact of the dump's own or the kernel's comparison; each contract: ONE APPLICATION.
-/
import Derived.Shelf.Small.Bits
import Derived.Shelf.Strconv.Itoa0
import Derived.Shelf.Bits.Mul64
import Derived.Ground.Names2Prog
import Derived.Shelf.Slices.Clone
import Derived.Shelf.Slices.CompactI
import Derived.Shelf.Slices.SearchI
import Derived.Ground.SlgnProg
import Derived.Shelf.SlicesE.Clone
import Derived.Test.YtomednfddpggaaaProg
import Derived.Test.YtomednfddpggaaaQStatSums02
import Derived.Test.YtomednfddpggaaaQStatSums00
import Derived.Deep.DeepCutAuto
import Derived.Test.YtomednfddpggaaaQStatSums01
/-
  DERIVED: THE SHELF's CONTRACTS AT THIS DUMP, IN PLAIN WORDS (tools/lay-plain.mjs out of 'TryShelf.lean', which tools/lay-shelf.mjs wrote): THE SAME DECLARATIONS UNDER THE SAME NAMES: 'import', 'namespace', 'open', 'def', 'theorem' AND NOTHING ELSE: no command of the shelf's: FOR A HAND-IN. Each laying: the table of numbers ('.._ren') and one theorem, a field a fact of the dump's own or the kernel's comparison; each contract: ONE APPLICATION.
-/
namespace Go.Proofs
open Go.Shelf
def Try.lays128_ren : Go.Shelf.Ren := ⟨fun | 128 => 124 | n => n, fun | 51 => 174 | 3 => 3 | 4 => 4 | 46 => 130 | 5 => 5 | 9 => 9 | n => n, fun | n => n⟩
theorem Try.lays128 : Go.Proofs.Lays.n128 Try.prog Try.lays128_ren := {
  mixed := by kernel_rfl
  f128 := Try.func124.trans (congrArg some (by kernel_rfl))
  t3 := Try.underlying3
  a3 := Try.isAgg3
  z3 := Try.sizeOf3
  v3 := Try.zeroValue3
  t4 := Try.underlying4
  a4 := Try.isAgg4
  z4 := Try.sizeOf4
  v4 := Try.zeroValue4
  t5 := Try.underlying5
  a5 := Try.isAgg5
  z5 := Try.sizeOf5
  v5 := Try.zeroValue5
  t9 := Try.underlying9
  a9 := Try.isAgg9
  z9 := Try.sizeOf9
  v9 := Try.zeroValue9
  t46 := Try.underlying130
  a46 := Try.isAgg130
  z46 := Try.sizeOf130
  v46 := Try.zeroValue130
  t51 := Try.underlying174
  a51 := Try.isAgg174
  z51 := Try.sizeOf174
  v51 := Try.zeroValue174 }
theorem Try.bits_Len32 (x : Int) (w : World) (h0 : 0 ≤ x) (h1 : x ≤ 4294967295) :
    Calls Try.prog 124 #[.int .u32 x] w fun e w' => e = .returned (.int .i64 (Lib.bitLen x.toNat)) ∧ w' = w := Any.bits_Len32 Try.lays128 x w h0 h1
def Try.lays125_ren : Go.Shelf.Ren := ⟨fun | 125 => 85 | 128 => 124 | 129 => 125 | n => n, fun | 46 => 130 | 3 => 3 | 51 => 174 | 53 => 38 | 4 => 4 | 5 => 5 | 9 => 9 | n => n, fun | n => n⟩
theorem Try.lays125 : Go.Proofs.Lays.n125 Try.prog Try.lays125_ren := {
  mixed := by kernel_rfl
  f125 := Try.func85.trans (congrArg some (by kernel_rfl))
  f128 := Try.func124.trans (congrArg some (by kernel_rfl))
  f129 := Try.func125.trans (congrArg some (by kernel_rfl))
  t3 := Try.underlying3
  a3 := Try.isAgg3
  z3 := Try.sizeOf3
  v3 := Try.zeroValue3
  t4 := Try.underlying4
  a4 := Try.isAgg4
  z4 := Try.sizeOf4
  v4 := Try.zeroValue4
  t5 := Try.underlying5
  a5 := Try.isAgg5
  z5 := Try.sizeOf5
  v5 := Try.zeroValue5
  t9 := Try.underlying9
  a9 := Try.isAgg9
  z9 := Try.sizeOf9
  v9 := Try.zeroValue9
  t46 := Try.underlying130
  a46 := Try.isAgg130
  z46 := Try.sizeOf130
  v46 := Try.zeroValue130
  t51 := Try.underlying174
  a51 := Try.isAgg174
  z51 := Try.sizeOf174
  v51 := Try.zeroValue174
  t53 := Try.underlying38
  a53 := Try.isAgg38
  z53 := Try.sizeOf38
  v53 := Try.zeroValue38 }
theorem Try.bits_Len (x : Int) (w : World) (h0 : 0 ≤ x) (h1 : x ≤ 18446744073709551615) :
    Calls Try.prog 85 #[.int .u64 x] w fun e w' => e = .returned (.int .i64 (Lib.bitLen x.toNat)) ∧ w' = w := Any.bits_Len Try.lays125 x w h0 h1
def Try.lays129_ren : Go.Shelf.Ren := ⟨fun | 129 => 125 | n => n, fun | 53 => 38 | 3 => 3 | 4 => 4 | 46 => 130 | 5 => 5 | 9 => 9 | n => n, fun | n => n⟩
theorem Try.lays129 : Go.Proofs.Lays.n129 Try.prog Try.lays129_ren := {
  mixed := by kernel_rfl
  f129 := Try.func125.trans (congrArg some (by kernel_rfl))
  t3 := Try.underlying3
  a3 := Try.isAgg3
  z3 := Try.sizeOf3
  v3 := Try.zeroValue3
  t4 := Try.underlying4
  a4 := Try.isAgg4
  z4 := Try.sizeOf4
  v4 := Try.zeroValue4
  t5 := Try.underlying5
  a5 := Try.isAgg5
  z5 := Try.sizeOf5
  v5 := Try.zeroValue5
  t9 := Try.underlying9
  a9 := Try.isAgg9
  z9 := Try.sizeOf9
  v9 := Try.zeroValue9
  t46 := Try.underlying130
  a46 := Try.isAgg130
  z46 := Try.sizeOf130
  v46 := Try.zeroValue130
  t53 := Try.underlying38
  a53 := Try.isAgg38
  z53 := Try.sizeOf38
  v53 := Try.zeroValue38 }
theorem Try.bits_Len64 (x : Int) (w : World) (h0 : 0 ≤ x) (h1 : x ≤ 18446744073709551615) :
    Calls Try.prog 125 #[.int .u64 x] w fun e w' => e = .returned (.int .i64 (Lib.bitLen x.toNat)) ∧ w' = w := Any.bits_Len64 Try.lays129 x w h0 h1
def Try.lays264_ren : Go.Shelf.Ren := ⟨fun | 264 => 146 | n => n, fun | 53 => 38 | 46 => 130 | n => n, fun | n => n⟩
theorem Try.lays264 : Go.Proofs.Lays.n264 Try.prog Try.lays264_ren := {
  mixed := by kernel_rfl
  f264 := Try.func146.trans (congrArg some (by kernel_rfl))
  t46 := Try.underlying130
  a46 := Try.isAgg130
  z46 := Try.sizeOf130
  v46 := Try.zeroValue130
  t53 := Try.underlying38
  a53 := Try.isAgg38
  z53 := Try.sizeOf38
  v53 := Try.zeroValue38 }
open Go.RowKit Go.Lib in
theorem Try.bits_Mul64 (x y : Nat) (hx : x < 18446744073709551616) (hy : y < 18446744073709551616) (w : World) :
    Calls Try.prog 146 #[.int .u64 x, .int .u64 y] w fun e w' => e = .returned (.tuple #[.int .u64 ((x * y / 18446744073709551616 : Nat) : Int), .int .u64 ((x * y % 18446744073709551616 : Nat) : Int)]) ∧ w' = w := Any.bits_Mul64 Try.lays264 x y hx hy w
def Try.lays212_ren : Go.Shelf.Ren := ⟨fun | 212 => 126 | 263 => 145 | 264 => 146 | n => n, fun | 46 => 130 | 51 => 174 | 146 => 196 | 53 => 38 | 148 => 198 | n => n, fun | n => n⟩
theorem Try.lays212 : Go.Proofs.Lays.n212 Try.prog Try.lays212_ren := {
  mixed := by kernel_rfl
  f212 := Try.func126.trans (congrArg some (by kernel_rfl))
  f263 := Try.func145.trans (congrArg some (by kernel_rfl))
  f264 := Try.func146.trans (congrArg some (by kernel_rfl))
  t46 := Try.underlying130
  a46 := Try.isAgg130
  z46 := Try.sizeOf130
  v46 := Try.zeroValue130
  t51 := Try.underlying174
  a51 := Try.isAgg174
  z51 := Try.sizeOf174
  v51 := Try.zeroValue174
  t53 := Try.underlying38
  a53 := Try.isAgg38
  z53 := Try.sizeOf38
  v53 := Try.zeroValue38
  t146 := Try.underlying196
  a146 := Try.isAgg196
  z146 := Try.sizeOf196
  v146 := Try.zeroValue196
  t148 := Try.underlying198
  a148 := Try.isAgg198
  z148 := Try.sizeOf198
  v148 := Try.zeroValue198 }
open Go.RowKit Go.Lib in
theorem Try.bits_Mul (x y : Nat) (hx : x < 18446744073709551616) (hy : y < 18446744073709551616) (w : World) :
    Calls Try.prog 126 #[.int .u64 x, .int .u64 y] w fun e w' => e = .returned (.tuple #[.int .u64 ((x * y / 18446744073709551616 : Nat) : Int), .int .u64 ((x * y % 18446744073709551616 : Nat) : Int)]) ∧ w' = w := Any.bits_Mul Try.lays212 x y hx hy w
def Try.laysNm215_ren : Go.Shelf.Ren := ⟨fun | 15 => 56 | n => n, fun | 22 => 30 | 3 => 3 | 4 => 4 | n => n, fun | n => n⟩
theorem Try.laysNm215 : Go.Proofs.Lays2.n15 Try.prog Try.laysNm215_ren := {
  mixed := by kernel_rfl
  f15 := Try.func56.trans (congrArg some (by kernel_rfl))
  t3 := Try.underlying3
  a3 := Try.isAgg3
  z3 := Try.sizeOf3
  v3 := Try.zeroValue3
  t4 := Try.underlying4
  a4 := Try.isAgg4
  z4 := Try.sizeOf4
  v4 := Try.zeroValue4
  t22 := Try.underlying30
  a22 := Try.isAgg30
  z22 := Try.sizeOf30
  v22 := Try.zeroValue30
  i3 := by kernel_rfl }
open Go.RowKit Go.Lib in
theorem Try.slices_Clone_int (b off n c : Nat) (zs : List Int) (w : World) (hz : n ≤ zs.length) (hbig : n * 8 ≤ 140737488355328) (hc : ∀ j, j < zs.length → w.cell? ⟨b, off + j, none⟩ = some (.int .i64 (zs.getD j 0))) :
    Calls Try.prog 56 #[.slice (some ⟨b, off, none⟩) n c] w fun e w' => ∃ v', e = .returned v' ∧ w'.ownsRow w.heap.size 3 1 v' n ((zs.take n).map (Value.int .i64)) ∧ v' ≠ .slice none 0 0 ∧ Below w.heap.size w w' := Any.slices_Clone_int Try.laysNm215 b off n c zs w hz hbig hc
open Go.RowKit Go.Lib in
theorem Try.slices_Clone_int_nil (n c : Nat) (w : World) :
    Calls Try.prog 56 #[.slice none n c] w fun e w' => e = .returned (.slice none 0 0) ∧ w' = w := Any.slices_Clone_int_nil Try.laysNm215 n c w
open Go.RowKit Go.Lib in
theorem Try.slices_Clone_int_zero (a : Addr) (c : Nat) (w : World) :
    Calls Try.prog 56 #[.slice (some a) 0 c] w fun e w' => ∃ v', e = .returned v' ∧ w'.ownsRow w.heap.size 3 1 v' 0 [] ∧ v' ≠ .slice none 0 0 ∧ Below w.heap.size w w' := Any.slices_Clone_int_zero Try.laysNm215 a c w
def Try.laysNm220_ren : Go.Shelf.Ren := ⟨fun | 20 => 102 | n => n, fun | 22 => 30 | 3 => 3 | 4 => 4 | 0 => 0 | n => n, fun | n => n⟩
theorem Try.laysNm220 : Go.Proofs.Lays2.n20 Try.prog Try.laysNm220_ren := {
  mixed := by kernel_rfl
  f20 := Try.func102.trans (congrArg some (by kernel_rfl))
  t0 := Try.underlying0
  a0 := Try.isAgg0
  z0 := Try.sizeOf0
  v0 := Try.zeroValue0
  t3 := Try.underlying3
  a3 := Try.isAgg3
  z3 := Try.sizeOf3
  v3 := Try.zeroValue3
  t4 := Try.underlying4
  a4 := Try.isAgg4
  z4 := Try.sizeOf4
  v4 := Try.zeroValue4
  t22 := Try.underlying30
  a22 := Try.isAgg30
  z22 := Try.sizeOf30
  v22 := Try.zeroValue30
  i3 := by kernel_rfl }
open Go.RowKit Go.Lib Go.Sort in
theorem Try.slices_Compact_int_arr (blk off cap : Nat) (d : Array Int) (w : World) (hH : Holds encI w blk off d) (hsz : d.size ≤ 9223372036854775807) (hcap : d.size ≤ cap) :
    Calls Try.prog 102 #[.slice (some ⟨blk, off, none⟩) d.size cap] w fun e w' => e = .returned (.slice (some ⟨blk, off, none⟩) (compactUpTo d d.size).length cap) ∧ ∃ q, w' = putRow encI (Sort.ahead w q) blk off (compactUpTo d d.size ++ List.replicate (d.size - (compactUpTo d d.size).length) 0).toArray := Any.slices_Compact_int_arr Try.laysNm220 blk off cap d w hH hsz hcap
open Go.RowKit Go.Lib Go.Sort in
theorem Try.slices_Compact_int (blk off cap : Nat) (zs : List Int) (w : World) (hH : Holds (Value.int .i64) w blk off zs.toArray) (hsz : zs.length ≤ 9223372036854775807) (hcap : zs.length ≤ cap) :
    Calls Try.prog 102 #[.slice (some ⟨blk, off, none⟩) zs.length cap] w fun e w' => e = .returned (.slice (some ⟨blk, off, none⟩) (Lib.compact zs).length cap) ∧ ∃ q, w' = putRow (Value.int .i64) (Sort.ahead w q) blk off (Lib.compact zs ++ List.replicate (zs.length - (Lib.compact zs).length) 0).toArray := Any.slices_Compact_int Try.laysNm220 blk off cap zs w hH hsz hcap
open Go.RowKit Go.Lib Go.Sort in
theorem Try.slices_Compact_int_empty (a : Option Addr) (cap : Nat) (w : World) :
    Calls Try.prog 102 #[.slice a 0 cap] w fun e w' => e = .returned (.slice a 0 cap) ∧ w' = w := Any.slices_Compact_int_empty Try.laysNm220 a cap w
def Try.laysNm237_ren : Go.Shelf.Ren := ⟨fun | 37 => 144 | n => n, fun | 3 => 3 | 4 => 4 | n => n, fun | n => n⟩
theorem Try.laysNm237 : Go.Proofs.Lays2.n37 Try.prog Try.laysNm237_ren := {
  mixed := by kernel_rfl
  f37 := Try.func144.trans (congrArg some (by kernel_rfl))
  t3 := Try.underlying3
  a3 := Try.isAgg3
  z3 := Try.sizeOf3
  v3 := Try.zeroValue3
  t4 := Try.underlying4
  a4 := Try.isAgg4
  z4 := Try.sizeOf4
  v4 := Try.zeroValue4 }
open Go.RowKit Go.Lib in
theorem Try.cmp_isNaN_int2 (x : Int) (w : World) :
    Calls Try.prog 144 #[.int .i64 x] w fun e w' => e = .returned (.bool false) ∧ w' = w := Any.cmp_isNaN_int2 Try.laysNm237 x w
def Try.laysNm231_ren : Go.Shelf.Ren := ⟨fun | 31 => 121 | 37 => 144 | n => n, fun | 3 => 3 | 4 => 4 | n => n, fun | n => n⟩
theorem Try.laysNm231 : Go.Proofs.Lays2.n31 Try.prog Try.laysNm231_ren := {
  mixed := by kernel_rfl
  f31 := Try.func121.trans (congrArg some (by kernel_rfl))
  f37 := Try.func144.trans (congrArg some (by kernel_rfl))
  t3 := Try.underlying3
  a3 := Try.isAgg3
  z3 := Try.sizeOf3
  v3 := Try.zeroValue3
  t4 := Try.underlying4
  a4 := Try.isAgg4
  z4 := Try.sizeOf4
  v4 := Try.zeroValue4 }
open Go.RowKit Go.Lib in
theorem Try.cmp_Less_int2 (x y : Int) (w : World) :
    Calls Try.prog 121 #[.int .i64 x, .int .i64 y] w fun e w' => e = .returned (.bool (decide (x < y))) ∧ w' = w := Any.cmp_Less_int2 Try.laysNm231 x y w
def Try.laysSlE041_f56_ren : Go.Shelf.Ren := ⟨fun | 41 => 56 | n => n, fun | 22 => 30 | 23 => 3 | 4 => 4 | n => n, fun | n => n⟩
theorem Try.laysSlE041_f56 : Go.Proofs.SlLaysE0.n41 Try.prog Try.laysSlE041_f56_ren := {
  mixed := by kernel_rfl
  f41 := ⟨Try.f56.name, by decide, Try.func56.trans (congrArg some (by kernel_rfl))⟩
  t4 := Try.underlying4
  a4 := Try.isAgg4
  z4 := Try.sizeOf4
  v4 := Try.zeroValue4
  t22 := Try.underlying30
  a22 := Try.isAgg30
  z22 := Try.sizeOf30
  v22 := Try.zeroValue30 }
open Go.RowKit Go.Lib in
theorem Try.slices_Clone_f56 (i0 : TypeInfo) (z : Value) (size bytes : Nat) (hi : Try.prog.info? 3 = some i0) (hz0 : i0.zero = some z) (hz1 : i0.size = size) (hz2 : i0.bytes = bytes) (hzs : z.cells.size = size) (hsz : 0 < size) (z23 : ∀ w, (Go.sizeOf 3).run Try.prog w = .ok size w) (b off n c : Nat) (news : List Value) (w : World) (hl : news.length = n * size) (hn : n ≤ maxLen) (hbig : n * bytes ≤ 140737488355328) (hc : ∀ j u, news[j]? = some u → w.cell? ⟨b, off + j, none⟩ = some u) (h1 : ∀ u ∈ news, u.oneCell' = true) :
    Calls Try.prog 56 #[.slice (some ⟨b, off, none⟩) n c] w fun e w' => ∃ v', e = .returned v' ∧ w'.ownsRow w.heap.size 3 size v' n news ∧ v' ≠ .slice none 0 0 ∧ Below w.heap.size w w' := AnyE.slices_Clone Try.laysSlE041_f56 i0 z size bytes hi hz0 hz1 hz2 hzs hsz z23 b off n c news w hl hn hbig hc h1
def Try.laysSlE041_f92_ren : Go.Shelf.Ren := ⟨fun | 41 => 92 | n => n, fun | 22 => 37 | 23 => 38 | 4 => 4 | n => n, fun | n => n⟩
theorem Try.laysSlE041_f92 : Go.Proofs.SlLaysE0.n41 Try.prog Try.laysSlE041_f92_ren := {
  mixed := by kernel_rfl
  f41 := ⟨Try.f92.name, by decide, Try.func92.trans (congrArg some (by kernel_rfl))⟩
  t4 := Try.underlying4
  a4 := Try.isAgg4
  z4 := Try.sizeOf4
  v4 := Try.zeroValue4
  t22 := Try.underlying37
  a22 := Try.isAgg37
  z22 := Try.sizeOf37
  v22 := Try.zeroValue37 }
open Go.RowKit Go.Lib in
theorem Try.slices_Clone_f92 (i0 : TypeInfo) (z : Value) (size bytes : Nat) (hi : Try.prog.info? 38 = some i0) (hz0 : i0.zero = some z) (hz1 : i0.size = size) (hz2 : i0.bytes = bytes) (hzs : z.cells.size = size) (hsz : 0 < size) (z23 : ∀ w, (Go.sizeOf 38).run Try.prog w = .ok size w) (b off n c : Nat) (news : List Value) (w : World) (hl : news.length = n * size) (hn : n ≤ maxLen) (hbig : n * bytes ≤ 140737488355328) (hc : ∀ j u, news[j]? = some u → w.cell? ⟨b, off + j, none⟩ = some u) (h1 : ∀ u ∈ news, u.oneCell' = true) :
    Calls Try.prog 92 #[.slice (some ⟨b, off, none⟩) n c] w fun e w' => ∃ v', e = .returned v' ∧ w'.ownsRow w.heap.size 38 size v' n news ∧ v' ≠ .slice none 0 0 ∧ Below w.heap.size w w' := AnyE.slices_Clone Try.laysSlE041_f92 i0 z size bytes hi hz0 hz1 hz2 hzs hsz z23 b off n c news w hl hn hbig hc h1
open Go.RowKit Go.Lib in
theorem Try.slices_Clone_nil_f56 (n c : Nat) (w : World) :
    Calls Try.prog 56 #[.slice none n c] w fun e w' => e = .returned (.slice none 0 0) ∧ w' = w := AnyE.slices_Clone_nil Try.laysSlE041_f56 n c w
open Go.RowKit Go.Lib in
theorem Try.slices_Clone_nil_f92 (n c : Nat) (w : World) :
    Calls Try.prog 92 #[.slice none n c] w fun e w' => e = .returned (.slice none 0 0) ∧ w' = w := AnyE.slices_Clone_nil Try.laysSlE041_f92 n c w
end Go.Proofs

/- Walk: edges laid by their nodes. -/
namespace Go.Proofs.Ytomednfddpggaaa
open Go Go.RowKit
def nv (l : List Nat) : List Value := l.map fun (i : Nat) => Value.int .i64 (i : Int)
theorem nv_len (l : List Nat) : (nv l).length = l.length := by simp [nv]
theorem nv_set (l : List Nat) (j v : Nat) : (nv l).set j (.int .i64 (v : Int)) = nv (l.set j v) := by simp [nv, List.map_set]
theorem nv_rep (n : Nat) : nv (List.replicate n 0) = List.replicate n (.int .i64 0) := by simp [nv]
def gn (l : List Nat) (k : Nat) : Nat := l.getD k 0
theorem nv_at {l : List Nat} {j : Nat} (h : j < l.length) : (nv l)[j]? = some (.int .i64 (gn l j : Int)) := by simp [nv, gn, h]
theorem gn_rep (n k : Nat) : gn (List.replicate n 0) k = 0 := by
  unfold gn
  rw [List.getD_eq_getElem?_getD, List.getElem?_replicate]
  split <;> rfl
theorem gn_set (l : List Nat) (j k v : Nat) (hj : j < l.length) : gn (l.set j v) k = if k = j then v else gn l k := by
  unfold gn
  by_cases h : k = j
  · subst h; simp [hj]
  · simp [h, Ne.symm h]
theorem Row1.nat {w : World} {g n c : Nat} {e : TypeId} {l : List Nat} (h : Row1 w g e 1 n c (nv l)) {j : Nat} (hj : j < n) : Mine w ⟨g, j, none⟩ (.int .i64 (gn l j : Int)) := by
  have hl := h.len
  rw [nv_len] at hl
  exact h.mine (nv_at (by omega))
theorem Row1.nlen {w : World} {g n c : Nat} {e : TypeId} {l : List Nat} (h : Row1 w g e 1 n c (nv l)) : l.length = n := by
  have hl := h.len
  rw [nv_len] at hl
  omega
def GiveLaid (w : World) (N n : Nat) (f : Nat → Nat) (e : Ending) (w' : World) : Prop :=
  ∃ g1 g2 X B, e = .returned (.agg #[.slice (some ⟨g1, 0, none⟩) n n, .slice (some ⟨g2, 0, none⟩) (N + 1) (N + 1)]) ∧ Row1 w' g1 3 1 n n (nv X) ∧ Row1 w' g2 3 1 (N + 1) (N + 1) (nv B) ∧
    (∀ i, i < n → X[posN f n i]? = some i) ∧ (∀ v, v ≤ N → gn B v = begN f n v) ∧ w.heap.size ≤ g1 ∧ w.heap.size ≤ g2 ∧ Grows w w'
theorem eq_add2 (a : Nat) : (a = a + 1 + 1) = False := by simp; omega
theorem eq_add3 (a : Nat) : (a = a + 1 + 1 + 1) = False := by simp; omega
theorem heap_drew (w : World) : w.drew.heap = w.heap := rfl
theorem heap_push (w : World) (o : Obj) : (w.alloc o).heap = w.heap.push o := rfl
def LaidL1 (w : World) (N n : Nat) (f : Nat → Nat) (b7 g1 g2 j : Nat) (wr : World) : Prop :=
  ∃ y : Later w, wr = y.now ∧ Arr y.now b7 122 [.slice (some ⟨g1, 0, none⟩) n n, .slice (some ⟨g2, 0, none⟩) (N + 1) (N + 1)] ∧ Row1 y.now g1 3 1 n n (nv (List.replicate n 0)) ∧
    ∃ B, Row1 y.now g2 3 1 (N + 1) (N + 1) (nv B) ∧ ∀ v, v ≤ N → gn B v = if v = 0 then 0 else cntN f (v - 1) j
theorem cntN_le (f : Nat → Nat) (v j : Nat) : cntN f v j ≤ j := by unfold cntN; exact Nat.le_trans (List.length_filter_le _ _) (by simp)
theorem LaidL1.step {w : World} {N n j : Nat} {f : Nat → Nat} {b7 g1 g2 : Nat} {B : List Nat} (y : Later w) {W : World} (hg : Grows y.now W) (ha : Arr y.now b7 122 [.slice (some ⟨g1, 0, none⟩) n n, .slice (some ⟨g2, 0, none⟩) (N + 1) (N + 1)])
    (hr1 : Row1 y.now g1 3 1 n n (nv (List.replicate n 0))) (hr2 : Row1 y.now g2 3 1 (N + 1) (N + 1) (nv B)) (hl2 : w.heap.size ≤ g2) (hne : g1 ≠ g2) (hj : f j < N) (hB : ∀ v, v ≤ N → gn B v = if v = 0 then 0 else cntN f (v - 1) j) :
    LaidL1 w N n f b7 g1 g2 (j + 1) (W.setCell ⟨g2, f j + 1, none⟩ (.int .i64 ((gn B (f j + 1) : Int) + 1))) := by
  have hlen := hr2.nlen
  refine ⟨⟨_, (y.grows.trans hg).set hl2 _⟩, rfl, (ha.grow hg).other (hr2.ne ha (by decide)) _, (hr1.grow hg).other (Ne.symm hne) _, B.set (f j + 1) (gn B (f j + 1) + 1), ?_, fun v hv => ?_⟩
  · rw [← nv_set, Int.natCast_add, Int.natCast_one]
    exact (hr2.grow hg).set _ _
  · rw [gn_set _ _ _ _ (by omega), hB v hv, hB (f j + 1) (by omega), if_neg (by omega : ¬ f j + 1 = 0), cntN_succ]
    by_cases h0 : v = 0
    · subst h0; simp
    · rw [if_neg h0, if_neg h0]
      by_cases h1 : v = f j + 1
      · subst h1; simp
      · rw [if_neg h1, if_neg (by omega)]; omega
def LaidL2 (w : World) (N n : Nat) (f : Nat → Nat) (b7 g1 g2 v : Nat) (wr : World) : Prop :=
  ∃ y : Later w, wr = y.now ∧ Arr y.now b7 122 [.slice (some ⟨g1, 0, none⟩) n n, .slice (some ⟨g2, 0, none⟩) (N + 1) (N + 1)] ∧ Row1 y.now g1 3 1 n n (nv (List.replicate n 0)) ∧
    ∃ B, Row1 y.now g2 3 1 (N + 1) (N + 1) (nv B) ∧ ∀ u, u ≤ N → gn B u = if u ≤ v then begN f n u else cntN f (u - 1) n
theorem LaidL2.step {w : World} {N n v : Nat} {f : Nat → Nat} {b7 g1 g2 : Nat} {B : List Nat} (y : Later w) {W : World} (hg : Grows y.now W) (ha : Arr y.now b7 122 [.slice (some ⟨g1, 0, none⟩) n n, .slice (some ⟨g2, 0, none⟩) (N + 1) (N + 1)])
    (hr1 : Row1 y.now g1 3 1 n n (nv (List.replicate n 0))) (hr2 : Row1 y.now g2 3 1 (N + 1) (N + 1) (nv B)) (hl2 : w.heap.size ≤ g2) (hne : g1 ≠ g2) (hv : v < N) (hB : ∀ u, u ≤ N → gn B u = if u ≤ v then begN f n u else cntN f (u - 1) n) :
    LaidL2 w N n f b7 g1 g2 (v + 1) (W.setCell ⟨g2, v + 1, none⟩ (.int .i64 ((gn B (v + 1) : Int) + (gn B v : Int)))) := by
  have hlen := hr2.nlen
  refine ⟨⟨_, (y.grows.trans hg).set hl2 _⟩, rfl, (ha.grow hg).other (hr2.ne ha (by decide)) _, (hr1.grow hg).other (Ne.symm hne) _, B.set (v + 1) (gn B (v + 1) + gn B v), ?_, fun u hu => ?_⟩
  · rw [← nv_set, Int.natCast_add]
    exact (hr2.grow hg).set _ _
  · rw [gn_set _ _ _ _ (by omega), hB u hu, hB (v + 1) (by omega), hB v (by omega), if_neg (by omega : ¬ v + 1 ≤ v), if_pos (Nat.le_refl v)]
    by_cases h1 : u = v + 1
    · subst h1
      rw [if_pos rfl, if_pos (Nat.le_refl _), begN_succ, Nat.add_sub_cancel]; omega
    · rw [if_neg h1]
      by_cases h2 : u ≤ v
      · rw [if_pos h2, if_pos (by omega)]
      · rw [if_neg h2, if_neg (by omega)]
theorem cloneN (A : Option Addr) (n c : Nat) (B : List Nat) (w : World) (h : Rd w A 1 n (nv B)) (h0 : 0 < n) (hn : n ≤ 1000000) :
    Calls Try.prog 56 #[.slice A n c] w fun e w' => ∃ g c', e = .returned (.slice (some ⟨g, 0, none⟩) n c') ∧ Row1 w' g 3 1 n c' (nv B) ∧ w.heap.size ≤ g ∧ Grows w w' := by
  have hl : B.length = n := by have := h.len; rwa [nv_len] at this
  obtain ⟨b, off, rfl, hc⟩ := h.at_ h0
  have hm : nv B = (B.map Int.ofNat).map (Value.int .i64) := by simp [nv]
  refine (Try.slices_Clone_int b off n c (B.map Int.ofNat) w (by simp; omega) (by omega) (fun j hj => hc j _ (by
    rw [hm, List.getElem?_map, List.getElem?_eq_getElem hj]
    simp [List.getD_eq_getElem?_getD, List.getElem?_eq_getElem hj]))).mono ?_
  rintro e w' ⟨v', rfl, ho, hv, hg⟩
  obtain ⟨A', c', rfl⟩ := own_form ho
  rw [List.take_of_length_le (by simp; omega), ← hm] at ho
  obtain ⟨g, hA, hB⟩ : ∃ g, A' = some ⟨g, 0, none⟩ ∧ w.heap.size ≤ g := by
    obtain ⟨g, cur, h1, h2, _⟩ := Own.at_ (A := A') (c := c') ho h0
    exact ⟨g, h1, h2⟩
  subst hA
  exact ⟨g, c', rfl, (Own.row ho).1, hB, hg⟩
def LaidL3 (w : World) (N n : Nat) (f : Nat → Nat) (b7 g1 g2 g3 c3 : Nat) (B : List Nat) (j : Nat) (wr : World) : Prop :=
  ∃ y : Later w, wr = y.now ∧ Arr y.now b7 122 [.slice (some ⟨g1, 0, none⟩) n n, .slice (some ⟨g2, 0, none⟩) (N + 1) (N + 1)] ∧ Row1 y.now g2 3 1 (N + 1) (N + 1) (nv B) ∧
    ∃ X T, Row1 y.now g1 3 1 n n (nv X) ∧ Row1 y.now g3 3 1 (N + 1) c3 (nv T) ∧ (∀ i, i < j → X[posN f n i]? = some i) ∧ ∀ v, v < N → gn T v = begN f n v + cntN f v j
theorem LaidL3.step {w : World} {N n j : Nat} {f : Nat → Nat} {b7 g1 g2 g3 c3 : Nat} {B X T : List Nat} (y : Later w) {W : World} (hg : Grows y.now W) (ha : Arr y.now b7 122 [.slice (some ⟨g1, 0, none⟩) n n, .slice (some ⟨g2, 0, none⟩) (N + 1) (N + 1)])
    (hr2 : Row1 y.now g2 3 1 (N + 1) (N + 1) (nv B)) (hr1 : Row1 y.now g1 3 1 n n (nv X)) (hr3 : Row1 y.now g3 3 1 (N + 1) c3 (nv T)) (hl1 : w.heap.size ≤ g1) (hl3 : w.heap.size ≤ g3) (h12 : g1 ≠ g2) (h13 : g1 ≠ g3) (h23 : g2 ≠ g3) (hj : f j < N) (hjn : j < n)
    (hX : ∀ i, i < j → X[posN f n i]? = some i) (hT : ∀ v, v < N → gn T v = begN f n v + cntN f v j) :
    LaidL3 w N n f b7 g1 g2 g3 c3 B (j + 1) ((W.setCell ⟨g1, gn T (f j), none⟩ (.int .i64 (j : Int))).setCell ⟨g3, f j, none⟩ (.int .i64 ((gn T (f j) : Int) + 1))) := by
  have hlen := hr3.nlen
  have hlen1 := hr1.nlen
  have hp : gn T (f j) = posN f n j := hT _ hj
  refine ⟨⟨_, ((y.grows.trans hg).set hl1 _).set hl3 _⟩, rfl, ((ha.grow hg).other (hr1.ne ha (by decide)) _).other (hr3.ne ha (by decide)) _, ((hr2.grow hg).other h12 _).other (Ne.symm h23) _,
    X.set (gn T (f j)) j, T.set (f j) (gn T (f j) + 1), ?_, ?_, fun i hi => ?_, fun v hv => ?_⟩
  · rw [← nv_set]
    exact ((hr1.grow hg).set _ _).other (Ne.symm h13) _
  · rw [← nv_set, Int.natCast_add, Int.natCast_one]
    exact ((hr3.grow hg).other h13 _).set _ _
  · rw [hp]
    by_cases h1 : i = j
    · subst h1
      rw [List.getElem?_set_self (by rw [hlen1]; exact posN_m f n i hjn)]
    · rw [List.getElem?_set_ne (Ne.symm (posN_ne f n (by omega) hjn)), hX i (by omega)]
  · rw [gn_set _ _ _ _ (by omega), cntN_succ, hT v hv]
    by_cases h1 : v = f j
    · subst h1; simp [hp, posN]; omega
    · rw [if_neg h1, if_neg (fun e => h1 e.symm)]; omega
def LaidAt (w : World) (N n : Nat) (s7 : Value) (wx : World) : Prop :=
  ∃ x : Later w, wx = x.now ∧ ∃ b7 g1 g2, s7 = .pointer (some ⟨b7, 0, none⟩) ∧ Arr x.now b7 122 [.slice (some ⟨g1, 0, none⟩) n n, .slice (some ⟨g2, 0, none⟩) (N + 1) (N + 1)] ∧
    Row1 x.now g1 3 1 n n (nv (List.replicate n 0)) ∧ Row1 x.now g2 3 1 (N + 1) (N + 1) (nv (List.replicate (N + 1) 0)) ∧ g1 ≠ g2 ∧ w.heap.size ≤ g1 ∧ w.heap.size ≤ g2
theorem laid_rel {w wx : World} {s7 : Value} {b7 : Nat} (n N g1 g2 : Nat) (hs : s7 = .pointer (some ⟨b7, 0, none⟩)) (hg : Grows w wx)
    (h1 : wx.heap[b7]? = some (.cells [Value.slice (some ⟨g1, 0, none⟩) n n, .slice (some ⟨g2, 0, none⟩) (N + 1) (N + 1)].toArray 122 (0, 0))) (h2 : wx.heap[g1]? = some (.cells (List.replicate n (Value.int .i64 0)).toArray 3 (0, 0)))
    (h3 : wx.heap[g2]? = some (.cells (List.replicate (N + 1) (Value.int .i64 0)).toArray 3 (0, 0))) (hne : g1 ≠ g2) (hl : w.heap.size ≤ g1 ∧ w.heap.size ≤ g2) (hn : n ≤ 1000000) (hN : N ≤ 100000) : LaidAt w N n s7 wx :=
  ⟨⟨wx, hg⟩, rfl, b7, g1, g2, hs, ⟨h1⟩, Arr.row ⟨by rw [nv_rep]; exact h2⟩ (by simp [nv_len]) (by omega), Arr.row ⟨by rw [nv_rep]; exact h3⟩ (by simp [nv_len]) (by omega), hne, hl.1, hl.2⟩
set_option maxRecDepth 20000 in
set_option maxHeartbeats 4000000 in
theorem adjLaid (N : Nat) (A : Option Addr) (n c : Nat) (E : List Edg) (k : FuncId) (nd : Edg → Nat) (w : World) (h : Rd w A 3 n (esCells E)) (hn : n ≤ 1000000) (hN : N ≤ 100000)
    (hk : ∀ args W, (callFunc k args).run Try.prog W = .ok (.enter k args) W) (hf : ∀ i, i < n → ∀ W, Calls Try.prog k #[eVal (ge E i)] W fun x w' => x = .returned (.int .i64 (nd (ge E i) : Int)) ∧ Grows W w') (hnd : ∀ i, i < n → nd (ge E i) < N) :
    Calls Try.prog 81 #[.int .i64 (N : Int), .slice A n c, .func (.func k) #[] #[]] w (GiveLaid w N n fun i => nd (ge E i)) := by
  have HE := hide h
  have HF := hide hf
  have HD := hide hnd
  have mk1 := run_makeInts n (by omega)
  have mk2 := run_makeInts (N + 1) (by omega)
  clear h hf hnd
  rw [Int.natCast_add, Int.natCast_one] at mk2
  have hw1 : IntKind.i64.wrap ((N : Int) + 1) = (N : Int) + 1 := IntWalk.i64_in _ (by omega)
  go_enter Try.func81, Try.ntmps81
  go_upto_region 1 with fail
  have i0 : Mine (w.alloc (.cells #[.slice none 0 0, .slice none 0 0] 122)) ⟨w.heap.size, 0, none⟩ (.slice none 0 0) := Mine.new0 _ _ _ _
  have i1 : Mine (w.alloc (.cells #[.slice none 0 0, .slice none 0 0] 122)) ⟨w.heap.size, 1, none⟩ (.slice none 0 0) := Mine.new1 _ _ _ _ _
  have hgW : Grows w (w.alloc (.cells #[.slice none 0 0, .slice none 0 0] 122)) := (Grows.refl w).new _
  have hsz : w.heap.size < (w.alloc (.cells #[.slice none 0 0, .slice none 0 0] 122)).heap.size := by simp
  replace HE := hide (HE.out.grows hgW)
  generalize w.alloc (.cells #[.slice none 0 0, .slice none 0 0] 122) = W0 at *
  go_cut [7] (fun s7 wx => LaidAt W0 N n s7 wx)
  case first =>
    go_region_with fail
    all_goals go_wp2_with fail
    all_goals go_meet
    all_goals (case rel =>
      first
        | (refine laid_rel n N (W0.heap.size) (W0.heap.size + 1) (by with_reducible rfl) GG ?_ ?_ ?_ (by omega) (by omega) hn hN <;> (simp [heap_drew, heap_push, Array.getElem_push, Array.getElem?_push, eq_add2]; done))
        | (refine laid_rel n N (W0.heap.size) (W0.heap.size + 1 + 1) (by with_reducible rfl) GG ?_ ?_ ?_ (by omega) (by omega) hn hN <;> (simp [heap_drew, heap_push, Array.getElem_push, Array.getElem?_push, eq_add2]; done))
        | (refine laid_rel n N (W0.heap.size + 1) (W0.heap.size) (by with_reducible rfl) GG ?_ ?_ ?_ (by omega) (by omega) hn hN <;> (simp [heap_drew, heap_push, Array.getElem_push, Array.getElem?_push, eq_add2]; done))
        | (refine laid_rel n N (W0.heap.size + 1) (W0.heap.size + 1 + 1) (by with_reducible rfl) GG ?_ ?_ ?_ (by omega) (by omega) hn hN <;> (simp [heap_drew, heap_push, Array.getElem_push, Array.getElem?_push, eq_add2]; done))
        | (refine laid_rel n N (W0.heap.size + 1 + 1) (W0.heap.size) (by with_reducible rfl) GG ?_ ?_ ?_ (by omega) (by omega) hn hN <;> (simp [heap_drew, heap_push, Array.getElem_push, Array.getElem?_push, eq_add2]; done))
        | (refine laid_rel n N (W0.heap.size + 1 + 1) (W0.heap.size + 1) (by with_reducible rfl) GG ?_ ?_ ?_ (by omega) (by omega) hn hN <;> (simp [heap_drew, heap_push, Array.getElem_push, Array.getElem?_push, eq_add2]; done)))
  case rest =>
    obtain ⟨x0, rfl, b7, g1, g2, rfl, hb7, hr1, hr2, hne, hl1, hl2⟩ := hcut
    have HL1 : Hid (LaidL1 W0 N n (fun i => nd (ge E i)) b7 g1 g2 0 x0.now) := ⟨x0, rfl, hb7, hr1, _, hr2, fun v hv => by
      rw [cntN_zero, gn_rep]; split <;> rfl⟩
    have HN := hide hne
    clear hb7 hr1 hr2 hne
    go_wp2_with fail
    go_loopw [24] (fun s wr => ∃ j : Nat, j ≤ n ∧ s = .int .i64 (j : Int) ∧ LaidL1 W0 N n (fun i => nd (ge E i)) b7 g1 g2 j wr) (fun s _ => n - (Go.RowKit.intOf s).toNat)
    case atStart => exact ⟨0, by omega, by go_num, HL1.out⟩
    case round =>
      obtain ⟨j, hj, rfl, y, rfl, ha, hr1, B, hr2, hB⟩ := hrel
      have HB := hide hB
      have HR1 := hide hr1
      have HR2 := hide hr2
      clear hB hr1 hr2 HL1
      by_cases hlt : j < n
      · obtain ⟨b, off, rfl, hc⟩ := HE.out.edgesH (by omega)
        obtain ⟨e1, e2, e3⟩ := hc j hlt
        have hd := HD.out j hlt
        have hb1 : gn B (nd (ge E j) + 1) ≤ 1000000 := by rw [HB.out _ (by omega), if_neg (by omega)]; exact Nat.le_trans (cntN_le _ _ _) (by omega)
        have m1 := HR2.out.nat (j := nd (ge E j) + 1) (by omega)
        have HX := hide (HF.out j hlt)
        clear hc
        go_wp2_with fail
        (refine wp_region_tail1 10 (by kernel_rfl) (by kernel_rfl) ?_; simp only [List.take_succ_cons, List.take_zero, List.drop_succ_cons, List.drop_zero]; (repeat' (first | (refine gLex_val0 rfl (by kernel_rfl) (fun K hK => ?_); (go_simp; (try (simp only [↓IntWalk.iteOmega]; try go_simp)); (try simp (disch := omega) only [IntWalk.i64_in]); (try simp (disch := omega) only [IntWalk.u64_in]); first | (refine hK _ ?_; clear hK K) | (apply Exists.intro; refine ⟨fun x => ?_, hK _ ?_⟩; (first | (exact HX.out _)); clear hK K))) | (refine gLex_undef rfl rfl rfl (by kernel_rfl) (fun K hK => ?_); go_simp; refine hK _ ?_; clear hK K) | (refine gLex_ask rfl rfl rfl ?_; first | (apply gAsk_yes; kernel_rfl; intro K hK; (go_simp; (try (simp only [↓IntWalk.iteOmega]; try go_simp)); (try simp (disch := omega) only [IntWalk.i64_in]); (try simp (disch := omega) only [IntWalk.u64_in]); first | (refine hK _ ?_; clear hK K) | (apply Exists.intro; refine ⟨fun x => ?_, hK _ ?_⟩; (first | (exact HX.out _)); clear hK K))) | ((first | apply gAsk_no1 | apply gAsk_no2); kernel_rfl; intro K hK; simp [go_sem]; refine hK _ ?_; clear hK K)))); refine gLex_endT (fun x => ?_))
        go_wp2_with fail
        have hgx : Grows y.now x.now := GG
        exact ⟨⟨j + 1, by omega, by go_num, LaidL1.step (f := fun i => nd (ge E i)) y hgx ha HR1.out HR2.out hl2 HN.out hd HB.out⟩, by simp [Go.RowKit.intOf]; omega⟩
      · obtain rfl : j = n := by omega
        have HL2 : Hid (LaidL2 W0 N j (fun i => nd (ge E i)) b7 g1 g2 0 y.now) := ⟨y, rfl, ha, HR1.out, _, HR2.out, fun v hv => by
          rw [HB.out v hv]
          by_cases h0 : v = 0
          · subst h0; rw [begN_zero]; rfl
          · rw [if_neg h0, if_neg (by omega)]⟩
        clear HB HR1 HR2 ha
        go_wp2_with fail
        go_loopw [40] (fun s wr => ∃ v : Nat, v ≤ N ∧ s = .int .i64 (v : Int) ∧ LaidL2 W0 N j (fun i => nd (ge E i)) b7 g1 g2 v wr) (fun s _ => N - (Go.RowKit.intOf s).toNat)
        case atStart => exact ⟨0, by omega, by go_num, HL2.out⟩
        case round =>
          obtain ⟨v, hv, rfl, y2, rfl, ha, hr1, B, hr2, hB⟩ := hrel
          have HB := hide hB
          have HR1 := hide hr1
          have HR2 := hide hr2
          clear hB hr1 hr2 HL2
          by_cases hlt : v < N
          · have m1 := HR2.out.nat (j := v) (by omega)
            have m2 := HR2.out.nat (j := v + 1) (by omega)
            have b1 : gn B v ≤ 1000000 := by rw [HB.out v (by omega), if_pos (by omega)]; exact Nat.le_trans (begN_le _ _ _) hn
            have b2 : gn B (v + 1) ≤ 1000000 := by rw [HB.out (v + 1) (by omega), if_neg (by omega)]; exact Nat.le_trans (cntN_le _ _ _) hn
            go_wp2_with fail
            (refine wp_region_tail1 13 (by kernel_rfl) (by kernel_rfl) ?_; simp only [List.take_succ_cons, List.take_zero, List.drop_succ_cons, List.drop_zero]; (repeat' (first | (refine gLex_val0 rfl (by kernel_rfl) (fun K hK => ?_); (go_simp; (try (simp only [↓IntWalk.iteOmega]; try go_simp)); (try simp (disch := omega) only [IntWalk.i64_in]); (try simp (disch := omega) only [IntWalk.u64_in]); first | (refine hK _ ?_; clear hK K) | (apply Exists.intro; refine ⟨fun x => ?_, hK _ ?_⟩; (first | fail); clear hK K))) | (refine gLex_undef rfl rfl rfl (by kernel_rfl) (fun K hK => ?_); go_simp; refine hK _ ?_; clear hK K) | (refine gLex_ask rfl rfl rfl ?_; first | (apply gAsk_yes; kernel_rfl; intro K hK; (go_simp; (try (simp only [↓IntWalk.iteOmega]; try go_simp)); (try simp (disch := omega) only [IntWalk.i64_in]); (try simp (disch := omega) only [IntWalk.u64_in]); first | (refine hK _ ?_; clear hK K) | (apply Exists.intro; refine ⟨fun x => ?_, hK _ ?_⟩; (first | fail); clear hK K))) | ((first | apply gAsk_no1 | apply gAsk_no2); kernel_rfl; intro K hK; simp [go_sem]; refine hK _ ?_; clear hK K)))); refine gLex_endT (fun x => ?_))
            go_wp2_with fail
            have hgx : Grows y2.now x.now := GG
            exact ⟨⟨v + 1, by omega, by go_num, LaidL2.step y2 hgx ha HR1.out HR2.out hl2 HN.out hlt HB.out⟩, by simp [Go.RowKit.intOf]; omega⟩
          · obtain rfl : v = N := by omega
            have HL3 : Hid (∀ u, u ≤ v → gn B u = begN (fun i => nd (ge E i)) j u) := fun u hu => by rw [HB.out u hu, if_pos hu]
            have HC := hide (fun (W : World) (g : Grows y2.now W) => cloneN _ (v + 1) (v + 1) B W ((HR2.out.grow g).rd) (by omega) (by omega))
            clear HB
            have hlt1 := HR1.out.lt
            have hlt2 := HR2.out.lt
            go_wp2_with (first
              | (go_at_call 56; refine (HC.out _ GG).mono ?_; rintro e w' ⟨g3, c3, rfl, hr3, hl3, hg⟩; obtain ⟨x3, rfl⟩ := hg.later; have HR3 := hide hr3; clear hg hr3))
            have h13 : g1 ≠ g3 := by omega
            have h23 : g2 ≠ g3 := by omega
            have hl3' : W0.heap.size ≤ g3 := Nat.le_trans y2.grows.size hl3
            have HS : Hid (LaidL3 W0 v j (fun i => nd (ge E i)) b7 g1 g2 g3 c3 B 0 x3.now) :=
              ⟨⟨_, y2.grows.trans x3.grows⟩, rfl, ha.grow x3.grows, HR2.out.grow x3.grows, _, B, HR1.out.grow x3.grows, HR3.out, fun i hi => absurd hi (by omega), fun u hu => by rw [HL3.out u (by omega), cntN_zero]; rfl⟩
            have HBL : Hid (∀ u, u ≤ v → gn B u = begN (fun i => nd (ge E i)) j u) := HL3.out
            have H13 := hide h13
            have H23 := hide h23
            clear HR1 HR2 HR3 HL3 HC ha hlt1 hlt2 hl3 h13 h23
            go_loopw [62] (fun s wr => ∃ i : Nat, i ≤ j ∧ s = .int .i64 (i : Int) ∧ LaidL3 W0 v j (fun i => nd (ge E i)) b7 g1 g2 g3 c3 B i wr) (fun s _ => j - (Go.RowKit.intOf s).toNat)
            case atStart => exact ⟨0, by omega, by go_num, HS.out⟩
            case round =>
              obtain ⟨i, hi, rfl, y3, rfl, ha, hr2, X, T, hr1, hr3, hX, hT⟩ := hrel
              have HX := hide hX
              have HT := hide hT
              have HR1 := hide hr1
              have HR2 := hide hr2
              have HR3 := hide hr3
              clear hX hT hr1 hr2 hr3 HS
              by_cases hlt : i < j
              · obtain ⟨b, off, rfl, hc⟩ := HE.out.edgesH (by omega)
                obtain ⟨e1, e2, e3⟩ := hc i hlt
                have hd := HD.out i hlt
                have hp : gn T (nd (ge E i)) < j := by rw [HT.out _ hd]; exact posN_m (fun i => nd (ge E i)) j i hlt
                have m1 := HR3.out.nat (j := nd (ge E i)) (by omega)
                have m2 := HR1.out.nat (j := gn T (nd (ge E i))) hp
                have HXX := hide (HF.out i hlt)
                clear hc
                go_wp2_with ((refine (HXX.out _).mono ?_; rintro e w' ⟨rfl, hg⟩; obtain ⟨x4, rfl⟩ := hg.later; clear hg))
                (refine wp_region_tail1 8 (by kernel_rfl) (by kernel_rfl) ?_; simp only [List.take_succ_cons, List.take_zero, List.drop_succ_cons, List.drop_zero]; (repeat' (first | (refine gLex_val0 rfl (by kernel_rfl) (fun K hK => ?_); (go_simp; (try (simp only [↓IntWalk.iteOmega]; try go_simp)); (try simp (disch := omega) only [IntWalk.i64_in]); (try simp (disch := omega) only [IntWalk.u64_in]); first | (refine hK _ ?_; clear hK K) | (apply Exists.intro; refine ⟨fun x => ?_, hK _ ?_⟩; (first | fail); clear hK K))) | (refine gLex_undef rfl rfl rfl (by kernel_rfl) (fun K hK => ?_); go_simp; refine hK _ ?_; clear hK K) | (refine gLex_ask rfl rfl rfl ?_; first | (apply gAsk_yes; kernel_rfl; intro K hK; (go_simp; (try (simp only [↓IntWalk.iteOmega]; try go_simp)); (try simp (disch := omega) only [IntWalk.i64_in]); (try simp (disch := omega) only [IntWalk.u64_in]); first | (refine hK _ ?_; clear hK K) | (apply Exists.intro; refine ⟨fun x => ?_, hK _ ?_⟩; (first | fail); clear hK K))) | ((first | apply gAsk_no1 | apply gAsk_no2); kernel_rfl; intro K hK; simp [go_sem]; refine hK _ ?_; clear hK K)))); refine gLex_endT (fun x => ?_))
                go_upto_region 18 with fail
                have hgx : Grows y3.now x.now := GG
                have m3 : Mine (x.now.setCell ⟨g1, gn T (nd (ge E i)), none⟩ (.int .i64 (i : Int))) ⟨g3, nd (ge E i), none⟩ _ := ((HR3.out.grow hgx).other H13.out _).nat (j := nd (ge E i)) (by omega)
                have b1 : gn T (nd (ge E i)) ≤ 1000000 := by omega
                go_wp2_with fail
                exact ⟨⟨i + 1, by omega, by go_num, LaidL3.step (f := fun i => nd (ge E i)) y3 hgx ha HR2.out HR1.out HR3.out hl1 hl3' HN.out H13.out H23.out hd hlt HX.out HT.out⟩, by simp [Go.RowKit.intOf]; omega⟩
              · obtain rfl : i = j := by omega
                go_wp2_with fail
                refine bodyPost_ret (v := .agg #[.slice (some ⟨g1, 0, none⟩) i i, .slice (some ⟨g2, 0, none⟩) (v + 1) (v + 1)]) (by simp (maxDischargeDepth := 6) [results, Try.results81, go_sem, *]) rfl ⟨g1, g2, X, B, rfl, ?_, ?_, HX.out, HBL.out, by omega, by omega, ?_⟩
                · exact (HR1.out.other (by simp; omega) _).other (by simp; omega) _
                · exact (HR2.out.other (by simp; omega) _).other (by simp; omega) _
                · exact ((hgW.trans y3.grows).set (Nat.le_refl _) _).set (Nat.le_refl _) _
end Go.Proofs.Ytomednfddpggaaa

/- Who comes to whom (Tarjan), as functions. -/
namespace Go.Proofs.Ytomednfddpggaaa
open Go Go.RowKit
structure TjS where
  (met low part : List Int)
  stk : List Nat
  now : Int
  und : List Bool
def gbo (l : List Bool) (i : Nat) : Bool := l.getD i false
def ixOf (l : List Nat) (v : Nat) : Nat := l.findIdx (· == v)
def minT (l : List Nat) : Nat → Nat
  | 0 => gn l 0
  | k + 1 => min (minT l k) (gn l k)
def minL (l : List Nat) : Nat := minT l l.length
def setAll {α : Type} (p : List α) (l : List Nat) (x : α) : List α := l.foldl (fun p u => p.set u x) p
def TjS.enter (s : TjS) (v : Nat) : TjS := { s with now := s.now + 1, met := s.met.set v (s.now + 1), low := s.low.set v (s.now + 1), stk := s.stk ++ [v], und := s.und.set v true }
def TjS.lower (s : TjS) (v : Nat) (x : Int) : TjS := { s with low := s.low.set v (min (gi s.low v) x) }
def TjS.edge (rec : Nat → TjS → TjS) (v u : Nat) (s : TjS) : TjS :=
  if gi s.met u = 0 then (rec u s).lower v (gi (rec u s).low u)
  else if gbo s.und u = true then s.lower v (gi s.met u) else s
def TjS.cut (s : TjS) (v : Nat) : TjS :=
  { s with part := setAll s.part (s.stk.drop (ixOf s.stk v)) (minL (s.stk.drop (ixOf s.stk v)) : Int), und := setAll s.und (s.stk.drop (ixOf s.stk v)) false, stk := s.stk.take (ixOf s.stk v) }
def TjS.close (s : TjS) (v : Nat) : TjS := if gi s.low v < gi s.met v then s else s.cut v
def tj (row : Nat → List Nat) : Nat → Nat → TjS → TjS
  | 0, _, s => s
  | n + 1, v, s => ((row v).foldl (fun s u => s.edge (tj row n) v u) (s.enter v)).close v
structure TjOk (N : Nat) (s : TjS) : Prop where
  m : s.met.length = N
  l : s.low.length = N
  p : s.part.length = N
  u : s.und.length = N
  stk : ∀ u ∈ s.stk, u < N ∧ gi s.met u ≠ 0
  len : (s.stk.length : Int) ≤ s.now
  now : s.now + (s.met.count 0 : Nat) = N
theorem TjOk.le {N : Nat} {s : TjS} (h : TjOk N s) : 0 ≤ s.now ∧ s.now ≤ N := by
  have h1 := h.now
  have h2 : s.met.count 0 ≤ s.met.length := List.count_le_length
  rw [h.m] at h2
  omega
structure TjX (s s' : TjS) : Prop where
  met : ∀ u, gi s.met u ≠ 0 → gi s'.met u = gi s.met u
  stk : s.stk <+: s'.stk
  cnt : s'.met.count 0 ≤ s.met.count 0
theorem TjX.refl (s : TjS) : TjX s s := ⟨fun _ _ => rfl, List.prefix_refl _, Nat.le_refl _⟩
theorem TjX.trans {a b c : TjS} (h : TjX a b) (k : TjX b c) : TjX a c :=
  ⟨fun u hu => by rw [k.met u (by rw [h.met u hu]; exact hu), h.met u hu], h.stk.trans k.stk, Nat.le_trans k.cnt h.cnt⟩
theorem gi_set2 (ys : List Int) (j k : Nat) (v : Int) (hj : j < ys.length) : gi (ys.set j v) k = if k = j then v else gi ys k := by
  unfold gi
  by_cases h : k = j
  · subst h; simp [hj]
  · rw [if_neg h]
    simp [Ne.symm h]
theorem TjOk.enter {N : Nat} {s : TjS} (h : TjOk N s) {v : Nat} (hv : v < N) (h0 : gi s.met v = 0) : TjOk N (s.enter v) ∧ (s.enter v).met.count 0 + 1 = s.met.count 0 := by
  have hvl : v < s.met.length := by rw [h.m]; exact hv
  have e0 : s.met[v] = 0 := by simpa [gi, hvl] using h0
  have hle := h.le
  have hn : s.now + 1 ≠ 0 := by omega
  have hpos : 0 < s.met.count 0 := List.count_pos_iff.2 (by rw [← e0]; exact List.getElem_mem _)
  have hc : (s.met.set v (s.now + 1)).count 0 + 1 = s.met.count 0 := by
    rw [List.count_set hvl, e0]
    have e : (s.now + 1 == 0) = false := by simpa using hn
    simp only [e, beq_self_eq_true, if_true, Bool.false_eq_true, if_false]
    omega
  refine ⟨⟨by simp [TjS.enter, h.m], by simp [TjS.enter, h.l], h.p, by simp [TjS.enter, h.u], fun u hu => ?_, ?_, ?_⟩, hc⟩
  · show u < N ∧ gi (s.met.set v (s.now + 1)) u ≠ 0
    rw [gi_set2 _ _ _ _ hvl]
    rcases List.mem_append.1 hu with hu | hu
    · refine ⟨(h.stk u hu).1, ?_⟩
      split
      · exact hn
      · exact (h.stk u hu).2
    · rw [List.mem_singleton.1 hu, if_pos rfl]
      exact ⟨hv, hn⟩
  · have := h.len
    show ((s.stk ++ [v]).length : Int) ≤ s.now + 1
    simp only [List.length_append, List.length_singleton]
    omega
  · have := h.now
    show s.now + 1 + ((s.met.set v (s.now + 1)).count 0 : Nat) = N
    omega
theorem TjX.enter {N : Nat} {s : TjS} (h : TjOk N s) {v : Nat} (hv : v < N) (h0 : gi s.met v = 0) : TjX s (s.enter v) := by
  have hvl : v < s.met.length := by rw [h.m]; exact hv
  refine ⟨fun u hu => ?_, List.prefix_append _ _, by have := (h.enter hv h0).2; omega⟩
  show gi (s.met.set v (s.now + 1)) u = _
  rw [gi_set2 _ _ _ _ hvl, if_neg (fun e => by subst e; exact hu h0)]
theorem TjOk.lower {N : Nat} {s : TjS} (h : TjOk N s) (v : Nat) (x : Int) : TjOk N (s.lower v x) := ⟨h.m, by simp [TjS.lower, h.l], h.p, h.u, h.stk, h.len, h.now⟩
theorem TjX.lower (s : TjS) (v : Nat) (x : Int) : TjX s (s.lower v x) := ⟨fun _ _ => rfl, List.prefix_refl _, Nat.le_refl _⟩
theorem setAll_len {α : Type} (l : List Nat) (x : α) : ∀ p : List α, (setAll p l x).length = p.length := by
  induction l with
  | nil => exact fun _ => rfl
  | cons u l ih => intro p; exact (ih (p.set u x)).trans (by simp)
theorem TjOk.close {N : Nat} {s : TjS} (h : TjOk N s) (v : Nat) : TjOk N (s.close v) := by
  unfold TjS.close
  split
  · exact h
  · refine ⟨h.m, h.l, by show (setAll _ _ _).length = N; rw [setAll_len]; exact h.p, by show (setAll _ _ _).length = N; rw [setAll_len]; exact h.u, fun u hu => h.stk u (List.mem_of_mem_take hu), ?_, h.now⟩
    have := h.len
    show ((s.stk.take (ixOf s.stk v)).length : Int) ≤ s.now
    rw [List.length_take]
    omega
theorem ixOf_lt {l : List Nat} {v : Nat} (h : v ∈ l) : ixOf l v < l.length := List.findIdx_lt_length_of_exists ⟨v, h, by simp⟩
theorem ixOf_at {l : List Nat} {v : Nat} (h : v ∈ l) : l[ixOf l v]'(ixOf_lt h) = v := by
  have := List.findIdx_getElem (xs := l) (p := (· == v)) (w := ixOf_lt h)
  exact LawfulBEq.eq_of_beq this
theorem ixOf_pre {l : List Nat} {v j : Nat} (hj : j < ixOf l v) : gn l j ≠ v := by
  intro e
  have hlt : j < l.length := Nat.lt_of_lt_of_le hj List.findIdx_le_length
  have := List.not_of_lt_findIdx (p := (· == v)) hj
  have e2 : l[j] = v := by simpa [gn, hlt] using e
  simp [e2] at this
theorem TjX.close {s0 s : TjS} (v : Nat) (hx : TjX s0 s) (hv : v ∉ s0.stk) (hin : v ∈ s.stk) : TjX s0 (s.close v) := by
  unfold TjS.close
  split
  · exact hx
  · refine ⟨hx.met, ?_, hx.cnt⟩
    show s0.stk <+: s.stk.take (ixOf s.stk v)
    refine List.prefix_take_iff.2 ⟨hx.stk, ?_⟩
    rcases Nat.lt_or_ge (ixOf s.stk v) s0.stk.length with hlt | hge
    · exfalso
      have e1 := ixOf_at hin
      have e2 := hx.stk.getElem hlt
      exact hv (by rw [← e1, ← e2]; exact List.getElem_mem _)
    · exact hge
theorem fold_ok {N : Nat} {rec : Nat → TjS → TjS} {v n : Nat} (hr : ∀ u s, TjOk N s → u < N → gi s.met u = 0 → s.met.count 0 ≤ n → TjOk N (rec u s) ∧ TjX s (rec u s)) :
    ∀ (l : List Nat) (s : TjS), (∀ u ∈ l, u < N) → TjOk N s → s.met.count 0 ≤ n → TjOk N (l.foldl (fun s u => s.edge rec v u) s) ∧ TjX s (l.foldl (fun s u => s.edge rec v u) s)
  | [], s, _, h, _ => ⟨h, TjX.refl s⟩
  | u :: l, s, hl, h, hc => by
    have h1 : TjOk N (s.edge rec v u) ∧ TjX s (s.edge rec v u) := by
      unfold TjS.edge
      split
      · rename_i h0
        obtain ⟨a, b⟩ := hr u s h (hl u (by simp)) h0 hc
        exact ⟨a.lower _ _, b.trans (TjX.lower _ _ _)⟩
      · split
        · exact ⟨h.lower _ _, TjX.lower _ _ _⟩
        · exact ⟨h, TjX.refl s⟩
    obtain ⟨a, b⟩ := fold_ok hr l (s.edge rec v u) (fun x hx => hl x (by simp [hx])) h1.1 (Nat.le_trans h1.2.cnt hc)
    exact ⟨a, h1.2.trans b⟩
theorem tj_ok {N : Nat} {row : Nat → List Nat} (hrow : ∀ v, ∀ u ∈ row v, u < N) : ∀ n v s, TjOk N s → v < N → gi s.met v = 0 → s.met.count 0 ≤ n → TjOk N (tj row n v s) ∧ TjX s (tj row n v s)
  | 0, v, s, h, hv, h0, hc => by
    exfalso
    have hvl : v < s.met.length := by rw [h.m]; exact hv
    have e0 : s.met[v] = 0 := by simpa [gi, hvl] using h0
    have hpos : 0 < s.met.count 0 := List.count_pos_iff.2 (by rw [← e0]; exact List.getElem_mem _)
    omega
  | n + 1, v, s, h, hv, h0, hc => by
    obtain ⟨h1, h2⟩ := h.enter hv h0
    obtain ⟨a, b⟩ := fold_ok (v := v) (fun u s h hu h0 hc => tj_ok hrow n u s h hu h0 hc) (row v) (s.enter v) (hrow v) h1 (by omega)
    have hx := (TjX.enter h hv h0).trans b
    exact ⟨a.close v, hx.close v (fun e => (h.stk v e).2 h0) (b.stk.subset (by simp [TjS.enter]))⟩
end Go.Proofs.Ytomednfddpggaaa
