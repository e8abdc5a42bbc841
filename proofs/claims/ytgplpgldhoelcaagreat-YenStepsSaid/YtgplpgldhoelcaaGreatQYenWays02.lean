/-
  DERIVED: THE SHELF's CONTRACTS AT THIS DUMP, IN PLAIN WORDS (tools/lay-plain.mjs out of 'TryzShelf.lean', which tools/lay-shelf.mjs wrote): THE SAME DECLARATIONS UNDER THE SAME NAMES: 'import', 'namespace', 'open', 'def', 'theorem' AND NOTHING ELSE: no command of the shelf's: FOR A HAND-IN. Each laying: the table of numbers ('.._ren') and one theorem, a field a fact of the dump's own or the kernel's comparison; each contract: ONE APPLICATION.
-/
import Derived.Shelf.Bits.Mul64
import Derived.Ground.Names2Prog
import Derived.Shelf.Slices.Clone
import Derived.Ground.SlgnProg
import Derived.Shelf.SlicesE.Clone
import Derived.Test.YtgplpgldhoelcaaGreatProg
import Derived.Deep.DeepCutAuto
import Derived.Test.YtgplpgldhoelcaaGreatQYenWays01
namespace Go.Proofs
open Go.Shelf
def Tryz.lays264_ren : Go.Shelf.Ren := ⟨fun | 264 => 212 | n => n, fun | 53 => 41 | 46 => 221 | n => n, fun | n => n⟩
theorem Tryz.lays264 : Go.Proofs.Lays.n264 Tryz.prog Tryz.lays264_ren := {
  mixed := by kernel_rfl
  f264 := Tryz.func212.trans (congrArg some (by kernel_rfl))
  t46 := Tryz.underlying221
  a46 := Tryz.isAgg221
  z46 := Tryz.sizeOf221
  v46 := Tryz.zeroValue221
  t53 := Tryz.underlying41
  a53 := Tryz.isAgg41
  z53 := Tryz.sizeOf41
  v53 := Tryz.zeroValue41 }
open Go.RowKit Go.Lib in
theorem Tryz.bits_Mul64 (x y : Nat) (hx : x < 18446744073709551616) (hy : y < 18446744073709551616) (w : World) :
    Calls Tryz.prog 212 #[.int .u64 x, .int .u64 y] w fun e w' => e = .returned (.tuple #[.int .u64 ((x * y / 18446744073709551616 : Nat) : Int), .int .u64 ((x * y % 18446744073709551616 : Nat) : Int)]) ∧ w' = w := Any.bits_Mul64 Tryz.lays264 x y hx hy w
def Tryz.lays212_ren : Go.Shelf.Ren := ⟨fun | 212 => 223 | 263 => 249 | 264 => 212 | n => n, fun | 46 => 221 | 51 => 312 | 146 => 313 | 53 => 41 | 148 => 218 | n => n, fun | n => n⟩
theorem Tryz.lays212 : Go.Proofs.Lays.n212 Tryz.prog Tryz.lays212_ren := {
  mixed := by kernel_rfl
  f212 := Tryz.func223.trans (congrArg some (by kernel_rfl))
  f263 := Tryz.func249.trans (congrArg some (by kernel_rfl))
  f264 := Tryz.func212.trans (congrArg some (by kernel_rfl))
  t46 := Tryz.underlying221
  a46 := Tryz.isAgg221
  z46 := Tryz.sizeOf221
  v46 := Tryz.zeroValue221
  t51 := Tryz.underlying312
  a51 := Tryz.isAgg312
  z51 := Tryz.sizeOf312
  v51 := Tryz.zeroValue312
  t53 := Tryz.underlying41
  a53 := Tryz.isAgg41
  z53 := Tryz.sizeOf41
  v53 := Tryz.zeroValue41
  t146 := Tryz.underlying313
  a146 := Tryz.isAgg313
  z146 := Tryz.sizeOf313
  v146 := Tryz.zeroValue313
  t148 := Tryz.underlying218
  a148 := Tryz.isAgg218
  z148 := Tryz.sizeOf218
  v148 := Tryz.zeroValue218 }
open Go.RowKit Go.Lib in
theorem Tryz.bits_Mul (x y : Nat) (hx : x < 18446744073709551616) (hy : y < 18446744073709551616) (w : World) :
    Calls Tryz.prog 223 #[.int .u64 x, .int .u64 y] w fun e w' => e = .returned (.tuple #[.int .u64 ((x * y / 18446744073709551616 : Nat) : Int), .int .u64 ((x * y % 18446744073709551616 : Nat) : Int)]) ∧ w' = w := Any.bits_Mul Tryz.lays212 x y hx hy w
def Tryz.laysNm215_ren : Go.Shelf.Ren := ⟨fun | 15 => 56 | n => n, fun | 22 => 22 | 3 => 3 | 4 => 4 | n => n, fun | n => n⟩
theorem Tryz.laysNm215 : Go.Proofs.Lays2.n15 Tryz.prog Tryz.laysNm215_ren := {
  mixed := by kernel_rfl
  f15 := Tryz.func56.trans (congrArg some (by kernel_rfl))
  t3 := Tryz.underlying3
  a3 := Tryz.isAgg3
  z3 := Tryz.sizeOf3
  v3 := Tryz.zeroValue3
  t4 := Tryz.underlying4
  a4 := Tryz.isAgg4
  z4 := Tryz.sizeOf4
  v4 := Tryz.zeroValue4
  t22 := Tryz.underlying22
  a22 := Tryz.isAgg22
  z22 := Tryz.sizeOf22
  v22 := Tryz.zeroValue22
  i3 := by kernel_rfl }
open Go.RowKit Go.Lib in
theorem Tryz.slices_Clone_int (b off n c : Nat) (zs : List Int) (w : World) (hz : n ≤ zs.length) (hbig : n * 8 ≤ 140737488355328) (hc : ∀ j, j < zs.length → w.cell? ⟨b, off + j, none⟩ = some (.int .i64 (zs.getD j 0))) :
    Calls Tryz.prog 56 #[.slice (some ⟨b, off, none⟩) n c] w fun e w' => ∃ v', e = .returned v' ∧ w'.ownsRow w.heap.size 3 1 v' n ((zs.take n).map (Value.int .i64)) ∧ v' ≠ .slice none 0 0 ∧ Below w.heap.size w w' := Any.slices_Clone_int Tryz.laysNm215 b off n c zs w hz hbig hc
open Go.RowKit Go.Lib in
theorem Tryz.slices_Clone_int_nil (n c : Nat) (w : World) :
    Calls Tryz.prog 56 #[.slice none n c] w fun e w' => e = .returned (.slice none 0 0) ∧ w' = w := Any.slices_Clone_int_nil Tryz.laysNm215 n c w
open Go.RowKit Go.Lib in
theorem Tryz.slices_Clone_int_zero (a : Addr) (c : Nat) (w : World) :
    Calls Tryz.prog 56 #[.slice (some a) 0 c] w fun e w' => ∃ v', e = .returned v' ∧ w'.ownsRow w.heap.size 3 1 v' 0 [] ∧ v' ≠ .slice none 0 0 ∧ Below w.heap.size w w' := Any.slices_Clone_int_zero Tryz.laysNm215 a c w
def Tryz.laysSlE041_f56_ren : Go.Shelf.Ren := ⟨fun | 41 => 56 | n => n, fun | 22 => 22 | 23 => 3 | 4 => 4 | n => n, fun | n => n⟩
theorem Tryz.laysSlE041_f56 : Go.Proofs.SlLaysE0.n41 Tryz.prog Tryz.laysSlE041_f56_ren := {
  mixed := by kernel_rfl
  f41 := ⟨Tryz.f56.name, by decide, Tryz.func56.trans (congrArg some (by kernel_rfl))⟩
  t4 := Tryz.underlying4
  a4 := Tryz.isAgg4
  z4 := Tryz.sizeOf4
  v4 := Tryz.zeroValue4
  t22 := Tryz.underlying22
  a22 := Tryz.isAgg22
  z22 := Tryz.sizeOf22
  v22 := Tryz.zeroValue22 }
open Go.RowKit Go.Lib in
theorem Tryz.slices_Clone_f56 (i0 : TypeInfo) (z : Value) (size bytes : Nat) (hi : Tryz.prog.info? 3 = some i0) (hz0 : i0.zero = some z) (hz1 : i0.size = size) (hz2 : i0.bytes = bytes) (hzs : z.cells.size = size) (hsz : 0 < size) (z23 : ∀ w, (Go.sizeOf 3).run Tryz.prog w = .ok size w) (b off n c : Nat) (news : List Value) (w : World) (hl : news.length = n * size) (hn : n ≤ maxLen) (hbig : n * bytes ≤ 140737488355328) (hc : ∀ j u, news[j]? = some u → w.cell? ⟨b, off + j, none⟩ = some u) (h1 : ∀ u ∈ news, u.oneCell' = true) :
    Calls Tryz.prog 56 #[.slice (some ⟨b, off, none⟩) n c] w fun e w' => ∃ v', e = .returned v' ∧ w'.ownsRow w.heap.size 3 size v' n news ∧ v' ≠ .slice none 0 0 ∧ Below w.heap.size w w' := AnyE.slices_Clone Tryz.laysSlE041_f56 i0 z size bytes hi hz0 hz1 hz2 hzs hsz z23 b off n c news w hl hn hbig hc h1
def Tryz.laysSlE041_f115_ren : Go.Shelf.Ren := ⟨fun | 41 => 115 | n => n, fun | 22 => 82 | 23 => 41 | 4 => 4 | n => n, fun | n => n⟩
theorem Tryz.laysSlE041_f115 : Go.Proofs.SlLaysE0.n41 Tryz.prog Tryz.laysSlE041_f115_ren := {
  mixed := by kernel_rfl
  f41 := ⟨Tryz.f115.name, by decide, Tryz.func115.trans (congrArg some (by kernel_rfl))⟩
  t4 := Tryz.underlying4
  a4 := Tryz.isAgg4
  z4 := Tryz.sizeOf4
  v4 := Tryz.zeroValue4
  t22 := Tryz.underlying82
  a22 := Tryz.isAgg82
  z22 := Tryz.sizeOf82
  v22 := Tryz.zeroValue82 }
open Go.RowKit Go.Lib in
theorem Tryz.slices_Clone_f115 (i0 : TypeInfo) (z : Value) (size bytes : Nat) (hi : Tryz.prog.info? 41 = some i0) (hz0 : i0.zero = some z) (hz1 : i0.size = size) (hz2 : i0.bytes = bytes) (hzs : z.cells.size = size) (hsz : 0 < size) (z23 : ∀ w, (Go.sizeOf 41).run Tryz.prog w = .ok size w) (b off n c : Nat) (news : List Value) (w : World) (hl : news.length = n * size) (hn : n ≤ maxLen) (hbig : n * bytes ≤ 140737488355328) (hc : ∀ j u, news[j]? = some u → w.cell? ⟨b, off + j, none⟩ = some u) (h1 : ∀ u ∈ news, u.oneCell' = true) :
    Calls Tryz.prog 115 #[.slice (some ⟨b, off, none⟩) n c] w fun e w' => ∃ v', e = .returned v' ∧ w'.ownsRow w.heap.size 41 size v' n news ∧ v' ≠ .slice none 0 0 ∧ Below w.heap.size w w' := AnyE.slices_Clone Tryz.laysSlE041_f115 i0 z size bytes hi hz0 hz1 hz2 hzs hsz z23 b off n c news w hl hn hbig hc h1
def Tryz.laysSlE041_f262_ren : Go.Shelf.Ren := ⟨fun | 41 => 262 | n => n, fun | 22 => 222 | 23 => 4 | 4 => 4 | n => n, fun | n => n⟩
theorem Tryz.laysSlE041_f262 : Go.Proofs.SlLaysE0.n41 Tryz.prog Tryz.laysSlE041_f262_ren := {
  mixed := by kernel_rfl
  f41 := ⟨Tryz.f262.name, by decide, Tryz.func262.trans (congrArg some (by kernel_rfl))⟩
  t4 := Tryz.underlying4
  a4 := Tryz.isAgg4
  z4 := Tryz.sizeOf4
  v4 := Tryz.zeroValue4
  t22 := Tryz.underlying222
  a22 := Tryz.isAgg222
  z22 := Tryz.sizeOf222
  v22 := Tryz.zeroValue222 }
open Go.RowKit Go.Lib in
theorem Tryz.slices_Clone_f262 (i0 : TypeInfo) (z : Value) (size bytes : Nat) (hi : Tryz.prog.info? 4 = some i0) (hz0 : i0.zero = some z) (hz1 : i0.size = size) (hz2 : i0.bytes = bytes) (hzs : z.cells.size = size) (hsz : 0 < size) (z23 : ∀ w, (Go.sizeOf 4).run Tryz.prog w = .ok size w) (b off n c : Nat) (news : List Value) (w : World) (hl : news.length = n * size) (hn : n ≤ maxLen) (hbig : n * bytes ≤ 140737488355328) (hc : ∀ j u, news[j]? = some u → w.cell? ⟨b, off + j, none⟩ = some u) (h1 : ∀ u ∈ news, u.oneCell' = true) :
    Calls Tryz.prog 262 #[.slice (some ⟨b, off, none⟩) n c] w fun e w' => ∃ v', e = .returned v' ∧ w'.ownsRow w.heap.size 4 size v' n news ∧ v' ≠ .slice none 0 0 ∧ Below w.heap.size w w' := AnyE.slices_Clone Tryz.laysSlE041_f262 i0 z size bytes hi hz0 hz1 hz2 hzs hsz z23 b off n c news w hl hn hbig hc h1
open Go.RowKit Go.Lib in
theorem Tryz.slices_Clone_nil_f56 (n c : Nat) (w : World) :
    Calls Tryz.prog 56 #[.slice none n c] w fun e w' => e = .returned (.slice none 0 0) ∧ w' = w := AnyE.slices_Clone_nil Tryz.laysSlE041_f56 n c w
open Go.RowKit Go.Lib in
theorem Tryz.slices_Clone_nil_f115 (n c : Nat) (w : World) :
    Calls Tryz.prog 115 #[.slice none n c] w fun e w' => e = .returned (.slice none 0 0) ∧ w' = w := AnyE.slices_Clone_nil Tryz.laysSlE041_f115 n c w
open Go.RowKit Go.Lib in
theorem Tryz.slices_Clone_nil_f262 (n c : Nat) (w : World) :
    Calls Tryz.prog 262 #[.slice none n c] w fun e w' => e = .returned (.slice none 0 0) ∧ w' = w := AnyE.slices_Clone_nil Tryz.laysSlE041_f262 n c w
end Go.Proofs

namespace Go.Proofs.YtgplpgldhoelcaaGreat
open Go Go.RowKit
def nv (l : List Nat) : List Value := l.map fun (i : Nat) => Value.int .i64 (i : Int)
theorem nv_len (l : List Nat) : (nv l).length = l.length := by simp [nv]
theorem nv_set (l : List Nat) (j v : Nat) : (nv l).set j (.int .i64 (v : Int)) = nv (l.set j v) := by simp [nv, List.map_set]
theorem nv_rep (n : Nat) : nv (List.replicate n 0) = List.replicate n (.int .i64 0) := by simp [nv]
def gn (l : List Nat) (k : Nat) : Nat := l.getD k 0
theorem nv_at {l : List Nat} {j : Nat} (h : j < l.length) : (nv l)[j]? = some (.int .i64 (gn l j : Int)) := by simp [nv, gn, h]
theorem gn_rep (n k : Nat) : gn (List.replicate n 0) k = 0 := by
  unfold gn
  rw [List.getD_eq_getElem?_getD, List.getElem?_replicate]
  split <;> rfl
theorem gn_set (l : List Nat) (j k v : Nat) (hj : j < l.length) : gn (l.set j v) k = if k = j then v else gn l k := by
  unfold gn
  by_cases h : k = j
  · subst h; simp [hj]
  · simp [h, Ne.symm h]
theorem Row1.nat {w : World} {g n c : Nat} {e : TypeId} {l : List Nat} (h : Row1 w g e 1 n c (nv l)) {j : Nat} (hj : j < n) : Mine w ⟨g, j, none⟩ (.int .i64 (gn l j : Int)) := by
  have hl := h.len
  rw [nv_len] at hl
  exact h.mine (nv_at (by omega))
theorem Row1.nlen {w : World} {g n c : Nat} {e : TypeId} {l : List Nat} (h : Row1 w g e 1 n c (nv l)) : l.length = n := by
  have hl := h.len
  rw [nv_len] at hl
  omega
def GiveLaid (w : World) (N n : Nat) (f : Nat → Nat) (e : Ending) (w' : World) : Prop :=
  ∃ g1 g2 X B, e = .returned (.agg #[.slice (some ⟨g1, 0, none⟩) n n, .slice (some ⟨g2, 0, none⟩) (N + 1) (N + 1)]) ∧ Row1 w' g1 3 1 n n (nv X) ∧ Row1 w' g2 3 1 (N + 1) (N + 1) (nv B) ∧
    (∀ i, i < n → X[posN f n i]? = some i) ∧ (∀ v, v ≤ N → gn B v = begN f n v) ∧ w.heap.size ≤ g1 ∧ w.heap.size ≤ g2 ∧ Grows w w'
theorem eq_add2 (a : Nat) : (a = a + 1 + 1) = False := by simp; omega
theorem heap_drew (w : World) : w.drew.heap = w.heap := rfl
theorem heap_push (w : World) (o : Obj) : (w.alloc o).heap = w.heap.push o := rfl
def LaidL1 (w : World) (N n : Nat) (f : Nat → Nat) (b7 g1 g2 j : Nat) (wr : World) : Prop :=
  ∃ y : Later w, wr = y.now ∧ Arr y.now b7 234 [.slice (some ⟨g1, 0, none⟩) n n, .slice (some ⟨g2, 0, none⟩) (N + 1) (N + 1)] ∧ Row1 y.now g1 3 1 n n (nv (List.replicate n 0)) ∧
    ∃ B, Row1 y.now g2 3 1 (N + 1) (N + 1) (nv B) ∧ ∀ v, v ≤ N → gn B v = if v = 0 then 0 else cntN f (v - 1) j
theorem cntN_le (f : Nat → Nat) (v j : Nat) : cntN f v j ≤ j := by unfold cntN; exact Nat.le_trans (List.length_filter_le _ _) (by simp)
theorem LaidL1.step {w : World} {N n j : Nat} {f : Nat → Nat} {b7 g1 g2 : Nat} {B : List Nat} (y : Later w) {W : World} (hg : Grows y.now W) (ha : Arr y.now b7 234 [.slice (some ⟨g1, 0, none⟩) n n, .slice (some ⟨g2, 0, none⟩) (N + 1) (N + 1)])
    (hr1 : Row1 y.now g1 3 1 n n (nv (List.replicate n 0))) (hr2 : Row1 y.now g2 3 1 (N + 1) (N + 1) (nv B)) (hl2 : w.heap.size ≤ g2) (hne : g1 ≠ g2) (hj : f j < N) (hB : ∀ v, v ≤ N → gn B v = if v = 0 then 0 else cntN f (v - 1) j) :
    LaidL1 w N n f b7 g1 g2 (j + 1) (W.setCell ⟨g2, f j + 1, none⟩ (.int .i64 ((gn B (f j + 1) : Int) + 1))) := by
  have hlen := hr2.nlen
  refine ⟨⟨_, (y.grows.trans hg).set hl2 _⟩, rfl, (ha.grow hg).other (hr2.ne ha (by decide)) _, (hr1.grow hg).other (Ne.symm hne) _, B.set (f j + 1) (gn B (f j + 1) + 1), ?_, fun v hv => ?_⟩
  · rw [← nv_set, Int.natCast_add, Int.natCast_one]
    exact (hr2.grow hg).set _ _
  · rw [gn_set _ _ _ _ (by omega), hB v hv, hB (f j + 1) (by omega), if_neg (by omega : ¬ f j + 1 = 0), cntN_succ]
    by_cases h0 : v = 0
    · subst h0; simp
    · rw [if_neg h0, if_neg h0]
      by_cases h1 : v = f j + 1
      · subst h1; simp
      · rw [if_neg h1, if_neg (by omega)]; omega
def LaidL2 (w : World) (N n : Nat) (f : Nat → Nat) (b7 g1 g2 v : Nat) (wr : World) : Prop :=
  ∃ y : Later w, wr = y.now ∧ Arr y.now b7 234 [.slice (some ⟨g1, 0, none⟩) n n, .slice (some ⟨g2, 0, none⟩) (N + 1) (N + 1)] ∧ Row1 y.now g1 3 1 n n (nv (List.replicate n 0)) ∧
    ∃ B, Row1 y.now g2 3 1 (N + 1) (N + 1) (nv B) ∧ ∀ u, u ≤ N → gn B u = if u ≤ v then begN f n u else cntN f (u - 1) n
theorem LaidL2.step {w : World} {N n v : Nat} {f : Nat → Nat} {b7 g1 g2 : Nat} {B : List Nat} (y : Later w) {W : World} (hg : Grows y.now W) (ha : Arr y.now b7 234 [.slice (some ⟨g1, 0, none⟩) n n, .slice (some ⟨g2, 0, none⟩) (N + 1) (N + 1)])
    (hr1 : Row1 y.now g1 3 1 n n (nv (List.replicate n 0))) (hr2 : Row1 y.now g2 3 1 (N + 1) (N + 1) (nv B)) (hl2 : w.heap.size ≤ g2) (hne : g1 ≠ g2) (hv : v < N) (hB : ∀ u, u ≤ N → gn B u = if u ≤ v then begN f n u else cntN f (u - 1) n) :
    LaidL2 w N n f b7 g1 g2 (v + 1) (W.setCell ⟨g2, v + 1, none⟩ (.int .i64 ((gn B (v + 1) : Int) + (gn B v : Int)))) := by
  have hlen := hr2.nlen
  refine ⟨⟨_, (y.grows.trans hg).set hl2 _⟩, rfl, (ha.grow hg).other (hr2.ne ha (by decide)) _, (hr1.grow hg).other (Ne.symm hne) _, B.set (v + 1) (gn B (v + 1) + gn B v), ?_, fun u hu => ?_⟩
  · rw [← nv_set, Int.natCast_add]
    exact (hr2.grow hg).set _ _
  · rw [gn_set _ _ _ _ (by omega), hB u hu, hB (v + 1) (by omega), hB v (by omega), if_neg (by omega : ¬ v + 1 ≤ v), if_pos (Nat.le_refl v)]
    by_cases h1 : u = v + 1
    · subst h1
      rw [if_pos rfl, if_pos (Nat.le_refl _), begN_succ, Nat.add_sub_cancel]; omega
    · rw [if_neg h1]
      by_cases h2 : u ≤ v
      · rw [if_pos h2, if_pos (by omega)]
      · rw [if_neg h2, if_neg (by omega)]
theorem cloneN (A : Option Addr) (n c : Nat) (B : List Nat) (w : World) (h : Rd w A 1 n (nv B)) (h0 : 0 < n) (hn : n ≤ 1000000) :
    Calls Tryz.prog 56 #[.slice A n c] w fun e w' => ∃ g c', e = .returned (.slice (some ⟨g, 0, none⟩) n c') ∧ Row1 w' g 3 1 n c' (nv B) ∧ w.heap.size ≤ g ∧ Grows w w' := by
  have hl : B.length = n := by have := h.len; rwa [nv_len] at this
  obtain ⟨b, off, rfl, hc⟩ := h.at_ h0
  have hm : nv B = (B.map Int.ofNat).map (Value.int .i64) := by simp [nv]
  refine (Tryz.slices_Clone_int b off n c (B.map Int.ofNat) w (by simp; omega) (by omega) (fun j hj => hc j _ (by
    rw [hm, List.getElem?_map, List.getElem?_eq_getElem hj]
    simp [List.getD_eq_getElem?_getD, List.getElem?_eq_getElem hj]))).mono ?_
  rintro e w' ⟨v', rfl, ho, hv, hg⟩
  obtain ⟨A', c', rfl⟩ := own_form ho
  rw [List.take_of_length_le (by simp; omega), ← hm] at ho
  obtain ⟨g, hA, hB⟩ : ∃ g, A' = some ⟨g, 0, none⟩ ∧ w.heap.size ≤ g := by
    obtain ⟨g, cur, h1, h2, _⟩ := Own.at_ (A := A') (c := c') ho h0
    exact ⟨g, h1, h2⟩
  subst hA
  exact ⟨g, c', rfl, (Own.row ho).1, hB, hg⟩
def LaidL3 (w : World) (N n : Nat) (f : Nat → Nat) (b7 g1 g2 g3 c3 : Nat) (B : List Nat) (j : Nat) (wr : World) : Prop :=
  ∃ y : Later w, wr = y.now ∧ Arr y.now b7 234 [.slice (some ⟨g1, 0, none⟩) n n, .slice (some ⟨g2, 0, none⟩) (N + 1) (N + 1)] ∧ Row1 y.now g2 3 1 (N + 1) (N + 1) (nv B) ∧
    ∃ X T, Row1 y.now g1 3 1 n n (nv X) ∧ Row1 y.now g3 3 1 (N + 1) c3 (nv T) ∧ (∀ i, i < j → X[posN f n i]? = some i) ∧ ∀ v, v < N → gn T v = begN f n v + cntN f v j
theorem LaidL3.step {w : World} {N n j : Nat} {f : Nat → Nat} {b7 g1 g2 g3 c3 : Nat} {B X T : List Nat} (y : Later w) {W : World} (hg : Grows y.now W) (ha : Arr y.now b7 234 [.slice (some ⟨g1, 0, none⟩) n n, .slice (some ⟨g2, 0, none⟩) (N + 1) (N + 1)])
    (hr2 : Row1 y.now g2 3 1 (N + 1) (N + 1) (nv B)) (hr1 : Row1 y.now g1 3 1 n n (nv X)) (hr3 : Row1 y.now g3 3 1 (N + 1) c3 (nv T)) (hl1 : w.heap.size ≤ g1) (hl3 : w.heap.size ≤ g3) (h12 : g1 ≠ g2) (h13 : g1 ≠ g3) (h23 : g2 ≠ g3) (hj : f j < N) (hjn : j < n)
    (hX : ∀ i, i < j → X[posN f n i]? = some i) (hT : ∀ v, v < N → gn T v = begN f n v + cntN f v j) :
    LaidL3 w N n f b7 g1 g2 g3 c3 B (j + 1) ((W.setCell ⟨g1, gn T (f j), none⟩ (.int .i64 (j : Int))).setCell ⟨g3, f j, none⟩ (.int .i64 ((gn T (f j) : Int) + 1))) := by
  have hlen := hr3.nlen
  have hlen1 := hr1.nlen
  have hp : gn T (f j) = posN f n j := hT _ hj
  refine ⟨⟨_, ((y.grows.trans hg).set hl1 _).set hl3 _⟩, rfl, ((ha.grow hg).other (hr1.ne ha (by decide)) _).other (hr3.ne ha (by decide)) _, ((hr2.grow hg).other h12 _).other (Ne.symm h23) _,
    X.set (gn T (f j)) j, T.set (f j) (gn T (f j) + 1), ?_, ?_, fun i hi => ?_, fun v hv => ?_⟩
  · rw [← nv_set]
    exact ((hr1.grow hg).set _ _).other (Ne.symm h13) _
  · rw [← nv_set, Int.natCast_add, Int.natCast_one]
    exact ((hr3.grow hg).other h13 _).set _ _
  · rw [hp]
    by_cases h1 : i = j
    · subst h1
      rw [List.getElem?_set_self (by rw [hlen1]; exact posN_m f n i hjn)]
    · rw [List.getElem?_set_ne (Ne.symm (posN_ne f n (by omega) hjn)), hX i (by omega)]
  · rw [gn_set _ _ _ _ (by omega), cntN_succ, hT v hv]
    by_cases h1 : v = f j
    · subst h1; simp [hp, posN]; omega
    · rw [if_neg h1, if_neg (fun e => h1 e.symm)]; omega
def LaidAt (w : World) (N n : Nat) (s7 : Value) (wx : World) : Prop :=
  ∃ x : Later w, wx = x.now ∧ ∃ b7 g1 g2, s7 = .pointer (some ⟨b7, 0, none⟩) ∧ Arr x.now b7 234 [.slice (some ⟨g1, 0, none⟩) n n, .slice (some ⟨g2, 0, none⟩) (N + 1) (N + 1)] ∧
    Row1 x.now g1 3 1 n n (nv (List.replicate n 0)) ∧ Row1 x.now g2 3 1 (N + 1) (N + 1) (nv (List.replicate (N + 1) 0)) ∧ g1 ≠ g2 ∧ w.heap.size ≤ g1 ∧ w.heap.size ≤ g2
theorem laid_rel {w wx : World} {s7 : Value} {b7 : Nat} (n N g1 g2 : Nat) (hs : s7 = .pointer (some ⟨b7, 0, none⟩)) (hg : Grows w wx)
    (h1 : wx.heap[b7]? = some (.cells [Value.slice (some ⟨g1, 0, none⟩) n n, .slice (some ⟨g2, 0, none⟩) (N + 1) (N + 1)].toArray 234 (0, 0))) (h2 : wx.heap[g1]? = some (.cells (List.replicate n (Value.int .i64 0)).toArray 3 (0, 0)))
    (h3 : wx.heap[g2]? = some (.cells (List.replicate (N + 1) (Value.int .i64 0)).toArray 3 (0, 0))) (hne : g1 ≠ g2) (hl : w.heap.size ≤ g1 ∧ w.heap.size ≤ g2) (hn : n ≤ 1000000) (hN : N ≤ 100000) : LaidAt w N n s7 wx :=
  ⟨⟨wx, hg⟩, rfl, b7, g1, g2, hs, ⟨h1⟩, Arr.row ⟨by rw [nv_rep]; exact h2⟩ (by simp [nv_len]) (by omega), Arr.row ⟨by rw [nv_rep]; exact h3⟩ (by simp [nv_len]) (by omega), hne, hl.1, hl.2⟩
set_option maxRecDepth 20000 in
set_option maxHeartbeats 4000000 in
theorem adjLaid (N : Nat) (A : Option Addr) (n c : Nat) (E : List Edg) (k : FuncId) (nd : Edg → Nat) (w : World) (h : Rd w A 3 n (esCells E)) (hn : n ≤ 1000000) (hN : N ≤ 100000)
    (hk : ∀ args W, (callFunc k args).run Tryz.prog W = .ok (.enter k args) W) (hf : ∀ i, i < n → ∀ W, Calls Tryz.prog k #[eVal (ge E i)] W fun x w' => x = .returned (.int .i64 (nd (ge E i) : Int)) ∧ Grows W w') (hnd : ∀ i, i < n → nd (ge E i) < N) :
    Calls Tryz.prog 183 #[.int .i64 (N : Int), .slice A n c, .func (.func k) #[] #[]] w (GiveLaid w N n fun i => nd (ge E i)) := by
  have HE := hide h
  have HF := hide hf
  have HD := hide hnd
  have mk1 := run_makeInts n (by omega)
  have mk2 := run_makeInts (N + 1) (by omega)
  clear h hf hnd
  rw [Int.natCast_add, Int.natCast_one] at mk2
  have hw1 : IntKind.i64.wrap ((N : Int) + 1) = (N : Int) + 1 := IntWalk.i64_in _ (by omega)
  go_enter Tryz.func183, Tryz.ntmps183
  go_upto_region 1 with fail
  have i0 : Mine (w.alloc (.cells #[.slice none 0 0, .slice none 0 0] 234)) ⟨w.heap.size, 0, none⟩ (.slice none 0 0) := Mine.new0 _ _ _ _
  have i1 : Mine (w.alloc (.cells #[.slice none 0 0, .slice none 0 0] 234)) ⟨w.heap.size, 1, none⟩ (.slice none 0 0) := Mine.new1 _ _ _ _ _
  have hgW : Grows w (w.alloc (.cells #[.slice none 0 0, .slice none 0 0] 234)) := (Grows.refl w).new _
  have hsz : w.heap.size < (w.alloc (.cells #[.slice none 0 0, .slice none 0 0] 234)).heap.size := by simp
  replace HE := hide (HE.out.grows hgW)
  generalize w.alloc (.cells #[.slice none 0 0, .slice none 0 0] 234) = W0 at *
  go_cut [7] (fun s7 wx => LaidAt W0 N n s7 wx)
  case first =>
    go_region_with fail
    all_goals go_wp2_with fail
    all_goals go_meet
    all_goals (case rel =>
      first
        | (refine laid_rel n N (W0.heap.size) (W0.heap.size + 1) (by with_reducible rfl) GG ?_ ?_ ?_ (by omega) (by omega) hn hN <;> (simp [heap_drew, heap_push, Array.getElem_push, Array.getElem?_push, eq_add2]; done))
        | (refine laid_rel n N (W0.heap.size) (W0.heap.size + 1 + 1) (by with_reducible rfl) GG ?_ ?_ ?_ (by omega) (by omega) hn hN <;> (simp [heap_drew, heap_push, Array.getElem_push, Array.getElem?_push, eq_add2]; done))
        | (refine laid_rel n N (W0.heap.size + 1) (W0.heap.size) (by with_reducible rfl) GG ?_ ?_ ?_ (by omega) (by omega) hn hN <;> (simp [heap_drew, heap_push, Array.getElem_push, Array.getElem?_push, eq_add2]; done))
        | (refine laid_rel n N (W0.heap.size + 1) (W0.heap.size + 1 + 1) (by with_reducible rfl) GG ?_ ?_ ?_ (by omega) (by omega) hn hN <;> (simp [heap_drew, heap_push, Array.getElem_push, Array.getElem?_push, eq_add2]; done))
        | (refine laid_rel n N (W0.heap.size + 1 + 1) (W0.heap.size) (by with_reducible rfl) GG ?_ ?_ ?_ (by omega) (by omega) hn hN <;> (simp [heap_drew, heap_push, Array.getElem_push, Array.getElem?_push, eq_add2]; done))
        | (refine laid_rel n N (W0.heap.size + 1 + 1) (W0.heap.size + 1) (by with_reducible rfl) GG ?_ ?_ ?_ (by omega) (by omega) hn hN <;> (simp [heap_drew, heap_push, Array.getElem_push, Array.getElem?_push, eq_add2]; done)))
  case rest =>
    obtain ⟨x0, rfl, b7, g1, g2, rfl, hb7, hr1, hr2, hne, hl1, hl2⟩ := hcut
    have HL1 : Hid (LaidL1 W0 N n (fun i => nd (ge E i)) b7 g1 g2 0 x0.now) := ⟨x0, rfl, hb7, hr1, _, hr2, fun v hv => by
      rw [cntN_zero, gn_rep]; split <;> rfl⟩
    have HN := hide hne
    clear hb7 hr1 hr2 hne
    go_wp2_with fail
    go_loopw [24] (fun s wr => ∃ j : Nat, j ≤ n ∧ s = .int .i64 (j : Int) ∧ LaidL1 W0 N n (fun i => nd (ge E i)) b7 g1 g2 j wr) (fun s _ => n - (Go.RowKit.intOf s).toNat)
    case atStart => exact ⟨0, by omega, by go_num, HL1.out⟩
    case round =>
      obtain ⟨j, hj, rfl, y, rfl, ha, hr1, B, hr2, hB⟩ := hrel
      have HB := hide hB
      have HR1 := hide hr1
      have HR2 := hide hr2
      clear hB hr1 hr2 HL1
      by_cases hlt : j < n
      · obtain ⟨b, off, rfl, hc⟩ := HE.out.edgesH (by omega)
        obtain ⟨e1, e2, e3⟩ := hc j hlt
        have hd := HD.out j hlt
        have hb1 : gn B (nd (ge E j) + 1) ≤ 1000000 := by rw [HB.out _ (by omega), if_neg (by omega)]; exact Nat.le_trans (cntN_le _ _ _) (by omega)
        have m1 := HR2.out.nat (j := nd (ge E j) + 1) (by omega)
        have HX := hide (HF.out j hlt)
        clear hc
        go_wp2_with fail
        (refine wp_region_tail1 10 (by kernel_rfl) (by kernel_rfl) ?_; simp only [List.take_succ_cons, List.take_zero, List.drop_succ_cons, List.drop_zero]; (repeat' (first | (refine gLex_val0 rfl (by kernel_rfl) (fun K hK => ?_); (go_simp; (try (simp only [↓IntWalk.iteOmega]; try go_simp)); (try simp (disch := omega) only [IntWalk.i64_in]); (try simp (disch := omega) only [IntWalk.u64_in]); first | (refine hK _ ?_; clear hK K) | (apply Exists.intro; refine ⟨fun x => ?_, hK _ ?_⟩; (first | (exact HX.out _)); clear hK K))) | (refine gLex_undef rfl rfl rfl (by kernel_rfl) (fun K hK => ?_); go_simp; refine hK _ ?_; clear hK K) | (refine gLex_ask rfl rfl rfl ?_; first | (apply gAsk_yes; kernel_rfl; intro K hK; (go_simp; (try (simp only [↓IntWalk.iteOmega]; try go_simp)); (try simp (disch := omega) only [IntWalk.i64_in]); (try simp (disch := omega) only [IntWalk.u64_in]); first | (refine hK _ ?_; clear hK K) | (apply Exists.intro; refine ⟨fun x => ?_, hK _ ?_⟩; (first | (exact HX.out _)); clear hK K))) | ((first | apply gAsk_no1 | apply gAsk_no2); kernel_rfl; intro K hK; simp [go_sem]; refine hK _ ?_; clear hK K)))); refine gLex_endT (fun x => ?_))
        go_wp2_with fail
        have hgx : Grows y.now x.now := GG
        exact ⟨⟨j + 1, by omega, by go_num, LaidL1.step (f := fun i => nd (ge E i)) y hgx ha HR1.out HR2.out hl2 HN.out hd HB.out⟩, by simp [Go.RowKit.intOf]; omega⟩
      · obtain rfl : j = n := by omega
        have HL2 : Hid (LaidL2 W0 N j (fun i => nd (ge E i)) b7 g1 g2 0 y.now) := ⟨y, rfl, ha, HR1.out, _, HR2.out, fun v hv => by
          rw [HB.out v hv]
          by_cases h0 : v = 0
          · subst h0; rw [begN_zero]; rfl
          · rw [if_neg h0, if_neg (by omega)]⟩
        clear HB HR1 HR2 ha
        go_wp2_with fail
        go_loopw [40] (fun s wr => ∃ v : Nat, v ≤ N ∧ s = .int .i64 (v : Int) ∧ LaidL2 W0 N j (fun i => nd (ge E i)) b7 g1 g2 v wr) (fun s _ => N - (Go.RowKit.intOf s).toNat)
        case atStart => exact ⟨0, by omega, by go_num, HL2.out⟩
        case round =>
          obtain ⟨v, hv, rfl, y2, rfl, ha, hr1, B, hr2, hB⟩ := hrel
          have HB := hide hB
          have HR1 := hide hr1
          have HR2 := hide hr2
          clear hB hr1 hr2 HL2
          by_cases hlt : v < N
          · have m1 := HR2.out.nat (j := v) (by omega)
            have m2 := HR2.out.nat (j := v + 1) (by omega)
            have b1 : gn B v ≤ 1000000 := by rw [HB.out v (by omega), if_pos (by omega)]; exact Nat.le_trans (begN_le _ _ _) hn
            have b2 : gn B (v + 1) ≤ 1000000 := by rw [HB.out (v + 1) (by omega), if_neg (by omega)]; exact Nat.le_trans (cntN_le _ _ _) hn
            go_wp2_with fail
            (refine wp_region_tail1 13 (by kernel_rfl) (by kernel_rfl) ?_; simp only [List.take_succ_cons, List.take_zero, List.drop_succ_cons, List.drop_zero]; (repeat' (first | (refine gLex_val0 rfl (by kernel_rfl) (fun K hK => ?_); (go_simp; (try (simp only [↓IntWalk.iteOmega]; try go_simp)); (try simp (disch := omega) only [IntWalk.i64_in]); (try simp (disch := omega) only [IntWalk.u64_in]); first | (refine hK _ ?_; clear hK K) | (apply Exists.intro; refine ⟨fun x => ?_, hK _ ?_⟩; (first | fail); clear hK K))) | (refine gLex_undef rfl rfl rfl (by kernel_rfl) (fun K hK => ?_); go_simp; refine hK _ ?_; clear hK K) | (refine gLex_ask rfl rfl rfl ?_; first | (apply gAsk_yes; kernel_rfl; intro K hK; (go_simp; (try (simp only [↓IntWalk.iteOmega]; try go_simp)); (try simp (disch := omega) only [IntWalk.i64_in]); (try simp (disch := omega) only [IntWalk.u64_in]); first | (refine hK _ ?_; clear hK K) | (apply Exists.intro; refine ⟨fun x => ?_, hK _ ?_⟩; (first | fail); clear hK K))) | ((first | apply gAsk_no1 | apply gAsk_no2); kernel_rfl; intro K hK; simp [go_sem]; refine hK _ ?_; clear hK K)))); refine gLex_endT (fun x => ?_))
            go_wp2_with fail
            have hgx : Grows y2.now x.now := GG
            exact ⟨⟨v + 1, by omega, by go_num, LaidL2.step y2 hgx ha HR1.out HR2.out hl2 HN.out hlt HB.out⟩, by simp [Go.RowKit.intOf]; omega⟩
          · obtain rfl : v = N := by omega
            have HL3 : Hid (∀ u, u ≤ v → gn B u = begN (fun i => nd (ge E i)) j u) := fun u hu => by rw [HB.out u hu, if_pos hu]
            have HC := hide (fun (W : World) (g : Grows y2.now W) => cloneN _ (v + 1) (v + 1) B W ((HR2.out.grow g).rd) (by omega) (by omega))
            clear HB
            have hlt1 := HR1.out.lt
            have hlt2 := HR2.out.lt
            go_wp2_with (first
              | (go_at_call 56; refine (HC.out _ GG).mono ?_; rintro e w' ⟨g3, c3, rfl, hr3, hl3, hg⟩; obtain ⟨x3, rfl⟩ := hg.later; have HR3 := hide hr3; clear hg hr3))
            have h13 : g1 ≠ g3 := by omega
            have h23 : g2 ≠ g3 := by omega
            have hl3' : W0.heap.size ≤ g3 := Nat.le_trans y2.grows.size hl3
            have HS : Hid (LaidL3 W0 v j (fun i => nd (ge E i)) b7 g1 g2 g3 c3 B 0 x3.now) :=
              ⟨⟨_, y2.grows.trans x3.grows⟩, rfl, ha.grow x3.grows, HR2.out.grow x3.grows, _, B, HR1.out.grow x3.grows, HR3.out, fun i hi => absurd hi (by omega), fun u hu => by rw [HL3.out u (by omega), cntN_zero]; rfl⟩
            have HBL : Hid (∀ u, u ≤ v → gn B u = begN (fun i => nd (ge E i)) j u) := HL3.out
            have H13 := hide h13
            have H23 := hide h23
            clear HR1 HR2 HR3 HL3 HC ha hlt1 hlt2 hl3 h13 h23
            go_loopw [62] (fun s wr => ∃ i : Nat, i ≤ j ∧ s = .int .i64 (i : Int) ∧ LaidL3 W0 v j (fun i => nd (ge E i)) b7 g1 g2 g3 c3 B i wr) (fun s _ => j - (Go.RowKit.intOf s).toNat)
            case atStart => exact ⟨0, by omega, by go_num, HS.out⟩
            case round =>
              obtain ⟨i, hi, rfl, y3, rfl, ha, hr2, X, T, hr1, hr3, hX, hT⟩ := hrel
              have HX := hide hX
              have HT := hide hT
              have HR1 := hide hr1
              have HR2 := hide hr2
              have HR3 := hide hr3
              clear hX hT hr1 hr2 hr3 HS
              by_cases hlt : i < j
              · obtain ⟨b, off, rfl, hc⟩ := HE.out.edgesH (by omega)
                obtain ⟨e1, e2, e3⟩ := hc i hlt
                have hd := HD.out i hlt
                have hp : gn T (nd (ge E i)) < j := by rw [HT.out _ hd]; exact posN_m (fun i => nd (ge E i)) j i hlt
                have m1 := HR3.out.nat (j := nd (ge E i)) (by omega)
                have m2 := HR1.out.nat (j := gn T (nd (ge E i))) hp
                have HXX := hide (HF.out i hlt)
                clear hc
                go_wp2_with ((refine (HXX.out _).mono ?_; rintro e w' ⟨rfl, hg⟩; obtain ⟨x4, rfl⟩ := hg.later; clear hg))
                (refine wp_region_tail1 8 (by kernel_rfl) (by kernel_rfl) ?_; simp only [List.take_succ_cons, List.take_zero, List.drop_succ_cons, List.drop_zero]; (repeat' (first | (refine gLex_val0 rfl (by kernel_rfl) (fun K hK => ?_); (go_simp; (try (simp only [↓IntWalk.iteOmega]; try go_simp)); (try simp (disch := omega) only [IntWalk.i64_in]); (try simp (disch := omega) only [IntWalk.u64_in]); first | (refine hK _ ?_; clear hK K) | (apply Exists.intro; refine ⟨fun x => ?_, hK _ ?_⟩; (first | fail); clear hK K))) | (refine gLex_undef rfl rfl rfl (by kernel_rfl) (fun K hK => ?_); go_simp; refine hK _ ?_; clear hK K) | (refine gLex_ask rfl rfl rfl ?_; first | (apply gAsk_yes; kernel_rfl; intro K hK; (go_simp; (try (simp only [↓IntWalk.iteOmega]; try go_simp)); (try simp (disch := omega) only [IntWalk.i64_in]); (try simp (disch := omega) only [IntWalk.u64_in]); first | (refine hK _ ?_; clear hK K) | (apply Exists.intro; refine ⟨fun x => ?_, hK _ ?_⟩; (first | fail); clear hK K))) | ((first | apply gAsk_no1 | apply gAsk_no2); kernel_rfl; intro K hK; simp [go_sem]; refine hK _ ?_; clear hK K)))); refine gLex_endT (fun x => ?_))
                go_upto_region 18 with fail
                have hgx : Grows y3.now x.now := GG
                have m3 : Mine (x.now.setCell ⟨g1, gn T (nd (ge E i)), none⟩ (.int .i64 (i : Int))) ⟨g3, nd (ge E i), none⟩ _ := ((HR3.out.grow hgx).other H13.out _).nat (j := nd (ge E i)) (by omega)
                have b1 : gn T (nd (ge E i)) ≤ 1000000 := by omega
                go_wp2_with fail
                exact ⟨⟨i + 1, by omega, by go_num, LaidL3.step (f := fun i => nd (ge E i)) y3 hgx ha HR2.out HR1.out HR3.out hl1 hl3' HN.out H13.out H23.out hd hlt HX.out HT.out⟩, by simp [Go.RowKit.intOf]; omega⟩
              · obtain rfl : i = j := by omega
                go_wp2_with fail
                refine bodyPost_ret (v := .agg #[.slice (some ⟨g1, 0, none⟩) i i, .slice (some ⟨g2, 0, none⟩) (v + 1) (v + 1)]) (by simp (maxDischargeDepth := 6) [results, Tryz.results183, go_sem, *]) rfl ⟨g1, g2, X, B, rfl, ?_, ?_, HX.out, HBL.out, by omega, by omega, ?_⟩
                · exact (HR1.out.other (by simp; omega) _).other (by simp; omega) _
                · exact (HR2.out.other (by simp; omega) _).other (by simp; omega) _
                · exact ((hgW.trans y3.grows).set (Nat.le_refl _) _).set (Nat.le_refl _) _
end Go.Proofs.YtgplpgldhoelcaaGreat

namespace Go.Proofs.YtgplpgldhoelcaaGreat
open Go Go.RowKit
def scCells (p : Nat × Nat) : List Value := [.int .u64 (p.1 : Int), .int .u64 (p.2 : Int)]
def scs (L : List (Nat × Nat)) : List Value := L.flatMap scCells
def gp (L : List (Nat × Nat)) (i : Nat) : Nat × Nat := L.getD i (0, 0)
theorem scs_len (L : List (Nat × Nat)) : (scs L).length = L.length * 2 := flat_len scCells 2 (fun _ => rfl) L
theorem scs_at (L : List (Nat × Nat)) (i j : Nat) (hi : i < L.length) (hj : j < 2) : (scs L)[i * 2 + j]? = (scCells (gp L i))[j]? := flat_get scCells 2 (fun _ => rfl) (0, 0) L i j hi hj
theorem gp_set (L : List (Nat × Nat)) (i j : Nat) (p : Nat × Nat) (hi : i < L.length) : gp (L.set i p) j = if j = i then p else gp L j := by
  unfold gp
  by_cases h : j = i
  · subst h; simp [hi]
  · simp [h, Ne.symm h]
theorem scs_set (L : List (Nat × Nat)) (i : Nat) (p : Nat × Nat) (hi : i < L.length) : ((scs L).set (i * 2) (.int .u64 (p.1 : Int))).set (i * 2 + 1) (.int .u64 (p.2 : Int)) = scs (L.set i p) := by
  apply List.ext_getElem?
  intro k
  have hk : k = k / 2 * 2 + k % 2 := (Nat.div_add_mod' k 2).symm
  have hm : k % 2 < 2 := Nat.mod_lt _ (by omega)
  have hl := scs_len L
  have hl2 := scs_len (L.set i p)
  rw [List.length_set] at hl2
  rcases Nat.lt_or_ge (k / 2) L.length with hlt | hge
  · have h1 := scs_at L (k / 2) (k % 2) hlt hm
    have h2 := scs_at (L.set i p) (k / 2) (k % 2) (by simpa using hlt) hm
    rw [← hk] at h1 h2
    rw [h2, gp_set _ _ _ _ hi]
    by_cases he : k / 2 = i
    · rw [if_pos he]
      rcases (by omega : k = i * 2 ∨ k = i * 2 + 1) with e | e
      · have e2 : k % 2 = 0 := by omega
        rw [List.getElem?_set_ne (by omega), e, List.getElem?_set_self (by omega)]
        rw [e] at e2
        rw [e2]; rfl
      · have e2 : k % 2 = 1 := by omega
        rw [e, List.getElem?_set_self (by simp; omega)]
        rw [e] at e2
        rw [e2]; rfl
    · rw [if_neg he, List.getElem?_set_ne (by omega), List.getElem?_set_ne (by omega), h1]
  · rw [List.getElem?_eq_none (by simp; omega), List.getElem?_eq_none (by omega)]
structure StL (w : World) (b g : Nat) (L : List (Nat × Nat)) (m : Int) : Prop where
  row : Arr w b 290 [.slice (some ⟨g, 0, none⟩) L.length L.length, .int .u64 1, .int .i64 m]
  cells : Row1 w g 331 2 L.length L.length (scs L)
theorem StL.c0 {w : World} {b g : Nat} {L : List (Nat × Nat)} {m : Int} (h : StL w b g L m) {i : Nat} (hi : i < L.length) : Mine w ⟨g, i * 2, none⟩ (.int .u64 ((gp L i).1 : Int)) :=
  h.cells.mine (by have := scs_at L i 0 hi (by omega); rw [Nat.add_zero] at this; rw [this]; rfl)
theorem StL.c1 {w : World} {b g : Nat} {L : List (Nat × Nat)} {m : Int} (h : StL w b g L m) {i : Nat} (hi : i < L.length) : Mine w ⟨g, i * 2 + 1, none⟩ (.int .u64 ((gp L i).2 : Int)) :=
  h.cells.mine (by rw [scs_at L i 1 hi (by omega)]; rfl)
theorem StL.ne {w : World} {b g : Nat} {L : List (Nat × Nat)} {m : Int} (h : StL w b g L m) : g ≠ b := h.cells.ne h.row (by decide)
theorem StL.touch {w w' : World} {b g : Nat} {L : List (Nat × Nat)} {m : Int} {S : Nat → Prop} (h : StL w b g L m) (ht : Touch S w w') (h1 : ¬ S b) (h2 : ¬ S g) : StL w' b g L m := ⟨h.row.touch ht h1, h.cells.touch ht h2⟩
theorem StL.grow {w w' : World} {b g : Nat} {L : List (Nat × Nat)} {m : Int} (h : StL w b g L m) (ht : Grows w w') : StL w' b g L m := ⟨h.row.grow ht, h.cells.grow ht⟩
theorem stLen (b : Nat) (g n c : Nat) (u : Value) (v : Value) (w : World) (h : Arr w b 290 [.slice (some ⟨g, 0, none⟩) n c, u, v]) : Calls Tryz.prog 273 #[.pointer (some ⟨b, 0, none⟩)] w fun e w' => e = .returned (.int .i64 (n : Int)) ∧ w = w' := by
  go_enter Tryz.func273, Tryz.ntmps273
  go_wp2
  go_ret
  exact ⟨rfl, rfl⟩
theorem stAt (b g n c : Nat) (u v : Value) (i : Nat) (w : World) (h : Arr w b 290 [.slice (some ⟨g, 0, none⟩) n c, u, v]) (hi : i < n) : Calls Tryz.prog 267 #[.pointer (some ⟨b, 0, none⟩), .int .i64 (i : Int)] w fun e w' => e = .returned (.pointer (some ⟨g, i * 2, none⟩)) ∧ w = w' := by
  go_enter Tryz.func267, Tryz.ntmps267
  go_wp2_with (first | (go_at_call 273; refine (stLen b g n c u v _ h).mono ?_; rintro e w' ⟨rfl, rfl⟩))
  go_ret
  exact ⟨rfl, rfl⟩
set_option maxHeartbeats 1000000 in
theorem stGet (b g : Nat) (L : List (Nat × Nat)) (m : Int) (i : Nat) (w : World) (h : StL w b g L m) (hi : i < L.length) :
    Calls Tryz.prog 253 #[.pointer (some ⟨b, 0, none⟩), .int .i64 (i : Int)] w fun e w' => e = .returned (.tuple #[.int .u64 (if (gp L i).2 = 1 then ((gp L i).1 : Int) else 0), .bool (decide ((gp L i).2 = 1))]) ∧ Grows w w' := by
  have m0 := h.c0 hi
  have m1 := h.c1 hi
  have hr := h.row
  have HR := hide hr
  generalize gp L i = p at *
  obtain ⟨x, t⟩ := p
  dsimp only at *
  by_cases ht : t = 1
  · subst ht
    go_enter Tryz.func253, Tryz.ntmps253
    go_wp2_with (go_at_call 267; refine (stAt b g _ _ _ _ i _ HR.out hi).mono ?_; rintro e w' ⟨rfl, rfl⟩)
    ((first | refine wp_region_gen2 (by kernel_rfl) (by kernel_rfl) ?_ | refine wp_region_gen (by kernel_rfl) (by kernel_rfl) ?_); (repeat' (first | (refine gLex_val0 rfl (by kernel_rfl) (fun K hK => ?_); (go_simp; (try (simp only [↓IntWalk.iteOmega]; try go_simp)); (try simp (disch := omega) only [IntWalk.i64_in]); (try simp (disch := omega) only [IntWalk.u64_in]); first | (refine hK _ ?_; clear hK K) | (apply Exists.intro; refine ⟨fun x => ?_, hK _ ?_⟩; (first | fail); clear hK K))) | (refine gLex_undef rfl rfl rfl (by kernel_rfl) (fun K hK => ?_); go_simp; refine hK _ ?_; clear hK K) | (refine gLex_ask rfl rfl rfl ?_; first | (apply gAsk_yes; kernel_rfl; intro K hK; (go_simp; (try (simp only [↓IntWalk.iteOmega]; try go_simp)); (try simp (disch := omega) only [IntWalk.i64_in]); (try simp (disch := omega) only [IntWalk.u64_in]); first | (refine hK _ ?_; clear hK K) | (apply Exists.intro; refine ⟨fun x => ?_, hK _ ?_⟩; (first | fail); clear hK K))) | ((first | apply gAsk_no1 | apply gAsk_no2); kernel_rfl; intro K hK; simp [go_sem]; refine hK _ ?_; clear hK K) | (apply gAsk_part; kernel_rfl; all_goals (intro h K hK; (try simp only [Bool.not_true] at h); (try simp only [Bool.not_false] at h); (try simp only [decide_eq_true_eq] at h); (try simp only [decide_eq_false_iff_not] at h); first | (exfalso; first | contradiction | omega) | (go_simp; (try (simp only [↓IntWalk.iteOmega]; try go_simp)); (try simp (disch := omega) only [IntWalk.i64_in]); (try simp (disch := omega) only [IntWalk.u64_in]); first | (refine hK _ ?_; clear hK K) | (apply Exists.intro; refine ⟨fun x => ?_, hK _ ?_⟩; (first | fail); clear hK K))))))); all_goals ((apply gLex_end); intro y))
    go_wp2_with fail
    go_ret2
    exact ⟨rfl, GG⟩
  · have hb : ((t : Int) == 1) = false := beq_eq_false_iff_ne.2 (by omega)
    have hb2 : ((t : Int) != 1) = true := by simp [bne, hb]
    have HT := hide ht
    clear ht
    go_enter Tryz.func253, Tryz.ntmps253
    go_wp2_with (go_at_call 267; refine (stAt b g _ _ _ _ i _ HR.out hi).mono ?_; rintro e w' ⟨rfl, rfl⟩)
    ((first | refine wp_region_gen2 (by kernel_rfl) (by kernel_rfl) ?_ | refine wp_region_gen (by kernel_rfl) (by kernel_rfl) ?_); (repeat' (first | (refine gLex_val0 rfl (by kernel_rfl) (fun K hK => ?_); (go_simp; (try (simp only [↓IntWalk.iteOmega]; try go_simp)); (try simp (disch := omega) only [IntWalk.i64_in]); (try simp (disch := omega) only [IntWalk.u64_in]); first | (refine hK _ ?_; clear hK K) | (apply Exists.intro; refine ⟨fun x => ?_, hK _ ?_⟩; (first | fail); clear hK K))) | (refine gLex_undef rfl rfl rfl (by kernel_rfl) (fun K hK => ?_); go_simp; refine hK _ ?_; clear hK K) | (refine gLex_ask rfl rfl rfl ?_; first | (apply gAsk_yes; kernel_rfl; intro K hK; (go_simp; (try (simp only [↓IntWalk.iteOmega]; try go_simp)); (try simp (disch := omega) only [IntWalk.i64_in]); (try simp (disch := omega) only [IntWalk.u64_in]); first | (refine hK _ ?_; clear hK K) | (apply Exists.intro; refine ⟨fun x => ?_, hK _ ?_⟩; (first | fail); clear hK K))) | ((first | apply gAsk_no1 | apply gAsk_no2); kernel_rfl; intro K hK; simp [go_sem]; refine hK _ ?_; clear hK K) | (apply gAsk_part; kernel_rfl; all_goals (intro h K hK; (try simp only [Bool.not_true] at h); (try simp only [Bool.not_false] at h); (try simp only [decide_eq_true_eq] at h); (try simp only [decide_eq_false_iff_not] at h); first | (exfalso; first | contradiction | omega) | (go_simp; (try (simp only [↓IntWalk.iteOmega]; try go_simp)); (try simp (disch := omega) only [IntWalk.i64_in]); (try simp (disch := omega) only [IntWalk.u64_in]); first | (refine hK _ ?_; clear hK K) | (apply Exists.intro; refine ⟨fun x => ?_, hK _ ?_⟩; (first | fail); clear hK K))))))); all_goals ((apply gLex_end); intro y))
    go_wp2_with fail
    go_ret2
    refine ⟨?_, GG⟩
    simp
theorem StL.put {w W : World} {b g : Nat} {L : List (Nat × Nat)} {m : Int} (h : StL w b g L m) (hg : Grows w W) (i v : Nat) (hi : i < L.length) (m' : Int) :
    StL ((W.setCell ⟨g, i * 2, none⟩ (.int .u64 (v : Int))).setCell ⟨g, i * 2 + 1, none⟩ (.int .u64 1)) b g (L.set i (v, 1)) m ∧ StL (((W.setCell ⟨b, 2, none⟩ (.int .i64 m')).setCell ⟨g, i * 2, none⟩ (.int .u64 (v : Int))).setCell ⟨g, i * 2 + 1, none⟩ (.int .u64 1)) b g (L.set i (v, 1)) m' := by
  have hne := h.ne
  have e := scs_set L i (v, 1) hi
  have hl : (L.set i (v, 1)).length = L.length := List.length_set
  constructor
  · refine ⟨?_, ?_⟩
    · rw [hl]; exact ((h.row.grow hg).other hne _).other hne _
    · rw [hl, ← e]; exact ((h.cells.grow hg).set _ _).set _ _
  · refine ⟨?_, ?_⟩
    · rw [hl]; exact (((h.row.grow hg).set 2 _).other hne _).other hne _
    · rw [hl, ← e]; exact (((h.cells.grow hg).other (Ne.symm hne) _).set _ _).set _ _
set_option maxHeartbeats 2000000 in
theorem stPut (b g : Nat) (L : List (Nat × Nat)) (m : Int) (i v : Nat) (w : World) (h : StL w b g L m) (hi : i < L.length) :
    Calls Tryz.prog 254 #[.pointer (some ⟨b, 0, none⟩), .int .i64 (i : Int), .int .u64 (v : Int)] w fun e w' => e = .returned (.bool true) ∧ (∃ m', StL w' b g (L.set i (v, 1)) m') ∧ Touch (fun k => k = b ∨ k = g) w w' := by
  have m0 := h.c0 hi
  have m1 := h.c1 hi
  have HR := hide h.row
  have HH := hide h
  have hr := h.row
  have hne := h.ne
  clear h
  have HNE := hide hne
  generalize hp : gp L i = p at *
  obtain ⟨x, t⟩ := p
  dsimp only at *
  clear hp hne
  by_cases ht : t = 1
  · subst ht
    go_enter Tryz.func254, Tryz.ntmps254
    go_wp2_with (go_at_call 267; refine (stAt b g _ _ _ _ i _ HR.out hi).mono ?_; rintro e w' ⟨rfl, rfl⟩)
    ((first | refine wp_region_gen2 (by kernel_rfl) (by kernel_rfl) ?_ | refine wp_region_gen (by kernel_rfl) (by kernel_rfl) ?_); (repeat' (first | (refine gLex_val0 rfl (by kernel_rfl) (fun K hK => ?_); (go_simp; (try (simp only [↓IntWalk.iteOmega]; try go_simp)); (try simp (disch := omega) only [IntWalk.i64_in]); (try simp (disch := omega) only [IntWalk.u64_in]); first | (refine hK _ ?_; clear hK K) | (apply Exists.intro; refine ⟨fun x => ?_, hK _ ?_⟩; (first | fail); clear hK K))) | (refine gLex_undef rfl rfl rfl (by kernel_rfl) (fun K hK => ?_); go_simp; refine hK _ ?_; clear hK K) | (refine gLex_ask rfl rfl rfl ?_; first | (apply gAsk_yes; kernel_rfl; intro K hK; (go_simp; (try (simp only [↓IntWalk.iteOmega]; try go_simp)); (try simp (disch := omega) only [IntWalk.i64_in]); (try simp (disch := omega) only [IntWalk.u64_in]); first | (refine hK _ ?_; clear hK K) | (apply Exists.intro; refine ⟨fun x => ?_, hK _ ?_⟩; (first | fail); clear hK K))) | ((first | apply gAsk_no1 | apply gAsk_no2); kernel_rfl; intro K hK; simp [go_sem]; refine hK _ ?_; clear hK K) | (apply gAsk_part; kernel_rfl; all_goals (intro h K hK; (try simp only [Bool.not_true] at h); (try simp only [Bool.not_false] at h); (try simp only [decide_eq_true_eq] at h); (try simp only [decide_eq_false_iff_not] at h); first | (exfalso; first | contradiction | omega) | (go_simp; (try (simp only [↓IntWalk.iteOmega]; try go_simp)); (try simp (disch := omega) only [IntWalk.i64_in]); (try simp (disch := omega) only [IntWalk.u64_in]); first | (refine hK _ ?_; clear hK K) | (apply Exists.intro; refine ⟨fun x => ?_, hK _ ?_⟩; (first | fail); clear hK K))))))); all_goals ((apply gLex_end); intro y))
    go_wp2_with fail
    have hgy : Grows w y.now := GG
    go_ret
    exact ⟨rfl, ⟨m, (HH.out.put hgy i v hi 0).1⟩, ((hgy.touch _).set (.inl (.inr rfl)) _).set (.inl (.inr rfl)) _⟩
  · have hb : ((t : Int) == 1) = false := beq_eq_false_iff_ne.2 (by omega)
    have hb2 : ((t : Int) != 1) = true := by simp [bne, hb]
    clear ht
    go_enter Tryz.func254, Tryz.ntmps254
    go_wp2_with (go_at_call 267; refine (stAt b g _ _ _ _ i _ HR.out hi).mono ?_; rintro e w' ⟨rfl, rfl⟩)
    ((first | refine wp_region_gen2 (by kernel_rfl) (by kernel_rfl) ?_ | refine wp_region_gen (by kernel_rfl) (by kernel_rfl) ?_); (repeat' (first | (refine gLex_val0 rfl (by kernel_rfl) (fun K hK => ?_); (go_simp; (try (simp only [↓IntWalk.iteOmega]; try go_simp)); (try simp (disch := omega) only [IntWalk.i64_in]); (try simp (disch := omega) only [IntWalk.u64_in]); first | (refine hK _ ?_; clear hK K) | (apply Exists.intro; refine ⟨fun x => ?_, hK _ ?_⟩; (first | fail); clear hK K))) | (refine gLex_undef rfl rfl rfl (by kernel_rfl) (fun K hK => ?_); go_simp; refine hK _ ?_; clear hK K) | (refine gLex_ask rfl rfl rfl ?_; first | (apply gAsk_yes; kernel_rfl; intro K hK; (go_simp; (try (simp only [↓IntWalk.iteOmega]; try go_simp)); (try simp (disch := omega) only [IntWalk.i64_in]); (try simp (disch := omega) only [IntWalk.u64_in]); first | (refine hK _ ?_; clear hK K) | (apply Exists.intro; refine ⟨fun x => ?_, hK _ ?_⟩; (first | fail); clear hK K))) | ((first | apply gAsk_no1 | apply gAsk_no2); kernel_rfl; intro K hK; simp [go_sem]; refine hK _ ?_; clear hK K) | (apply gAsk_part; kernel_rfl; all_goals (intro h K hK; (try simp only [Bool.not_true] at h); (try simp only [Bool.not_false] at h); (try simp only [decide_eq_true_eq] at h); (try simp only [decide_eq_false_iff_not] at h); first | (exfalso; first | contradiction | omega) | (go_simp; (try (simp only [↓IntWalk.iteOmega]; try go_simp)); (try simp (disch := omega) only [IntWalk.i64_in]); (try simp (disch := omega) only [IntWalk.u64_in]); first | (refine hK _ ?_; clear hK K) | (apply Exists.intro; refine ⟨fun x => ?_, hK _ ?_⟩; (first | fail); clear hK K))))))); all_goals ((apply gLex_end); intro y))
    go_upto_region 6 with fail
    have hgy : Grows w y.now := GG
    have n0 : Mine (y.now.setCell ⟨b, 2, none⟩ (.int .i64 (wrap64 (m + 1)))) ⟨g, i * 2, none⟩ _ := Mine.set_other inferInstance _ (by intro e; injection e with e; exact HNE.out e.symm)
    have n1 : Mine (y.now.setCell ⟨b, 2, none⟩ (.int .i64 (wrap64 (m + 1)))) ⟨g, i * 2 + 1, none⟩ _ := Mine.set_other inferInstance _ (by intro e; injection e with e; exact HNE.out e.symm)
    have n2 : Mine (y.now.setCell ⟨b, 2, none⟩ (.int .i64 (wrap64 (m + 1)))) ⟨b, 1, none⟩ (.int .u64 1) := Mine.set_other inferInstance _ (by intro e; injection e with _ e; cases e)
    go_wp2_with fail
    go_ret
    exact ⟨rfl, ⟨_, (HH.out.put hgy i v hi _).2⟩, (((hgy.touch _).set (.inl (.inl rfl)) _).set (.inl (.inr rfl)) _).set (.inl (.inr rfl)) _⟩
def stD (L : List (Nat × Nat)) (i : Nat) : Option Nat := if (gp L i).2 = 1 then some (gp L i).1 else none
def lessB (o : Option Nat) (v : Nat) : Bool := match o with | none => true | some u => decide (v < u)
def GiveLeast (w : World) (b g : Nat) (L : List (Nat × Nat)) (i v : Nat) (r : Bool) (e : Ending) (w' : World) : Prop :=
  e = .returned (.bool r) ∧ (∃ m', StL w' b g (if r then L.set i (v, 1) else L) m') ∧ Touch (fun k => k = b ∨ k = g) w w'
set_option maxHeartbeats 2000000 in
theorem stLeast (b g : Nat) (L : List (Nat × Nat)) (m : Int) (i v : Nat) (w : World) (h : StL w b g L m) (hi : i < L.length) :
    Calls Tryz.prog 235 #[.pointer (some ⟨b, 0, none⟩), .int .i64 (i : Int), .int .u64 (v : Int)] w (GiveLeast w b g L i v (lessB (stD L i) v)) := by
  have HH := hide h
  have CG := hide (fun (W : World) (hg : Grows w W) => stGet b g L m i W (h.grow hg) hi)
  have CP := hide (fun (W : World) (hg : Grows w W) => stPut b g L m i v W (h.grow hg) hi)
  clear h
  unfold stD
  generalize hp : gp L i = p at *
  obtain ⟨x, t⟩ := p
  dsimp only at *
  clear hp
  by_cases ht : t = 1
  · subst ht
    by_cases hv : v < x
    · have hd : decide ((x : Int) ≤ (v : Int)) = false := decide_eq_false (by omega)
      have hd1 : decide (x ≤ v) = false := decide_eq_false (by omega)
      have HV : lessB (if (1 : Nat) = 1 then some x else none) v = true := decide_eq_true hv
      rw [HV]
      clear hv HV
      go_enter Tryz.func235, Tryz.ntmps235
      go_wp2_with (first
        | (go_at_call 253; refine (CG.out _ GG).mono ?_; rintro e w' ⟨rfl, hg⟩; obtain ⟨y, rfl⟩ := hg.later; clear hg)
        | (go_at_call 254; refine (CP.out _ GG).mono ?_; rintro e w' ⟨rfl, hs, ht⟩; have HS := hide hs; have HT := hide ht; clear hs ht))
      have hgy : Grows w y.now := GG
      go_ret
      exact ⟨rfl, HS.out, (hgy.touch _).trans HT.out⟩
    · have hd : decide ((x : Int) ≤ (v : Int)) = true := decide_eq_true (by omega)
      have hd1 : decide (x ≤ v) = true := decide_eq_true (by omega)
      have HV : lessB (if (1 : Nat) = 1 then some x else none) v = false := decide_eq_false hv
      rw [HV]
      clear hv HV
      go_enter Tryz.func235, Tryz.ntmps235
      go_wp2_with (first
        | (go_at_call 253; refine (CG.out _ GG).mono ?_; rintro e w' ⟨rfl, hg⟩; obtain ⟨y, rfl⟩ := hg.later; clear hg))
      have hgy : Grows w y.now := GG
      go_ret
      exact ⟨rfl, ⟨m, HH.out.grow hgy⟩, hgy.touch _⟩
  · rw [if_neg ht]
    have HV : lessB none v = true := rfl
    rw [HV]
    rw [if_neg ht, decide_eq_false ht] at CG
    clear ht HV
    go_enter Tryz.func235, Tryz.ntmps235
    go_wp2_with (first
      | (go_at_call 253; refine (CG.out _ GG).mono ?_; rintro e w' ⟨rfl, hg⟩; obtain ⟨y, rfl⟩ := hg.later; clear hg)
      | (go_at_call 254; refine (CP.out _ GG).mono ?_; rintro e w' ⟨rfl, hs, ht⟩; have HS := hide hs; have HT := hide ht; clear hs ht))
    have hgy : Grows w y.now := GG
    go_ret
    exact ⟨rfl, HS.out, (hgy.touch _).trans HT.out⟩
end Go.Proofs.YtgplpgldhoelcaaGreat

namespace Go.Proofs.YtgplpgldhoelcaaGreat
abbrev Itm := Nat × Nat
def gi2 (L : List Itm) (i : Nat) : Itm := L.getD i (0, 0)
def gz (T : List Int) (v : Nat) : Int := T.getD v 0
def ahead (a b : Itm) : Bool := decide (a.2 < b.2 ∨ a.2 = b.2 ∧ a.1 < b.1)
structure HS where
  L : List Itm
  T : List Int
def HS.lay (s : HS) (i : Nat) (x : Itm) : HS := ⟨s.L.set i x, s.T.set x.1 (i : Int)⟩
theorem HS.lay_len (s : HS) (i : Nat) (x : Itm) : (s.lay i x).L.length = s.L.length ∧ (s.lay i x).T.length = s.T.length := by simp [HS.lay]
def HS.rise (s : HS) (i : Nat) (x : Itm) : HS :=
  if _h : 0 < i ∧ ahead x (gi2 s.L ((i - 1) / 2)) = true then HS.rise (s.lay i (gi2 s.L ((i - 1) / 2))) ((i - 1) / 2) x else s.lay i x
termination_by i
decreasing_by omega
def HS.low (s : HS) (i : Nat) : Nat := if 2 * i + 1 + 1 < s.L.length ∧ ahead (gi2 s.L (2 * i + 1 + 1)) (gi2 s.L (2 * i + 1)) = true then 2 * i + 1 + 1 else 2 * i + 1
theorem HS.low_gt (s : HS) (i : Nat) : i < s.low i := by unfold HS.low; split <;> omega
def HS.sink (s : HS) (i : Nat) (x : Itm) : HS :=
  if _h : s.low i < s.L.length ∧ ahead (gi2 s.L (s.low i)) x = true then HS.sink (s.lay i (gi2 s.L (s.low i))) (s.low i) x else s.lay i x
termination_by s.L.length - i
decreasing_by
  have := HS.low_gt s i
  have := (HS.lay_len s i (gi2 s.L (s.low i))).1
  omega
def HS.put (s : HS) (v key : Nat) : HS × Bool :=
  if gz s.T v = -1 then (HS.rise ⟨s.L ++ [(v, key)], s.T⟩ s.L.length (v, key), true)
  else if (gi2 s.L (gz s.T v).toNat).2 ≤ key then (s, false) else (s.rise (gz s.T v).toNat (v, key), true)
def HS.drop (s : HS) (v : Nat) : HS :=
  let i := (gz s.T v).toNat
  let last := s.L.length - 1
  let x := gi2 s.L last
  let s1 : HS := ⟨s.L.take last, s.T.set v (-1)⟩
  if i = last then s1 else
    let s2 := s1.sink i x
    if gz s2.T x.1 = (i : Int) then s2.rise i x else s2
def HS.In (s : HS) (N : Nat) : Prop := s.T.length = N ∧ ∀ i, i < s.L.length → (gi2 s.L i).1 < N
theorem gi2_set (L : List Itm) (i j : Nat) (x : Itm) (hi : i < L.length) : gi2 (L.set i x) j = if j = i then x else gi2 L j := by
  unfold gi2
  by_cases h : j = i
  · subst h; simp [hi]
  · simp [h, Ne.symm h]
theorem HS.In.lay {s : HS} {N : Nat} (h : s.In N) (i : Nat) (x : Itm) (hx : x.1 < N) : (s.lay i x).In N := by
  refine ⟨by rw [(HS.lay_len s i x).2]; exact h.1, fun j hj => ?_⟩
  rw [(HS.lay_len s i x).1] at hj
  unfold HS.lay
  by_cases hi : i < s.L.length
  · rw [gi2_set _ _ _ _ hi]
    split
    · exact hx
    · exact h.2 j hj
  · have : s.L.set i x = s.L := List.set_eq_of_length_le (by omega)
    simp only [this]
    exact h.2 j hj
theorem HS.rise_in {s : HS} {N : Nat} (h : s.In N) (i : Nat) (x : Itm) (hx : x.1 < N) (hi : i < s.L.length) : (s.rise i x).In N := by
  induction i using Nat.strongRecOn generalizing s with
  | _ i ih =>
    rw [HS.rise]
    split
    · rename_i hc
      exact ih ((i - 1) / 2) (by omega) (h.lay i _ (h.2 _ (by omega))) (by rw [(HS.lay_len _ _ _).1]; omega)
    · exact h.lay i x hx
end Go.Proofs.YtgplpgldhoelcaaGreat

