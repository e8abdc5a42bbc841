/-
  DERIVED: THE SHELF's CONTRACTS AT THIS DUMP, IN PLAIN WORDS (tools/lay-plain.mjs out of 'TryzShelf.lean', which tools/lay-shelf.mjs wrote): THE SAME DECLARATIONS UNDER THE SAME NAMES: 'import', 'namespace', 'open', 'def', 'theorem' AND NOTHING ELSE: no command of the shelf's: FOR A HAND-IN. Each laying: the table of numbers ('.._ren') and one theorem, a field a fact of the dump's own or the kernel's comparison; each contract: ONE APPLICATION.
-/
import Derived.Shelf.Bits.Mul64
import Derived.Ground.Names2Prog
import Derived.Shelf.Slices.Clone
import Derived.Ground.SlgnProg
import Derived.Shelf.SlicesE.Clone
import Derived.Test.YtgplpgldhoelcaaGreatProg
import Derived.Test.YtgplpgldhoelcaaGreatRows
import Derived.RangeFuncRecord
import Derived.Deep.OwnRows
import Derived.Test.YtgplpgldhoelcaaGreatQPenWays00
import Derived.Test.YtgplpgldhoelcaaGreatQPenWays01
namespace Go.Proofs
open Go.Shelf
def Tryz.lays264_ren : Go.Shelf.Ren := ⟨fun | 264 => 212 | n => n, fun | 53 => 41 | 46 => 221 | n => n, fun | n => n⟩
theorem Tryz.lays264 : Go.Proofs.Lays.n264 Tryz.prog Tryz.lays264_ren := {
  mixed := by kernel_rfl
  f264 := Tryz.func212.trans (congrArg some (by kernel_rfl))
  t46 := Tryz.underlying221
  a46 := Tryz.isAgg221
  z46 := Tryz.sizeOf221
  v46 := Tryz.zeroValue221
  t53 := Tryz.underlying41
  a53 := Tryz.isAgg41
  z53 := Tryz.sizeOf41
  v53 := Tryz.zeroValue41 }
open Go.RowKit Go.Lib in
theorem Tryz.bits_Mul64 (x y : Nat) (hx : x < 18446744073709551616) (hy : y < 18446744073709551616) (w : World) :
    Calls Tryz.prog 212 #[.int .u64 x, .int .u64 y] w fun e w' => e = .returned (.tuple #[.int .u64 ((x * y / 18446744073709551616 : Nat) : Int), .int .u64 ((x * y % 18446744073709551616 : Nat) : Int)]) ∧ w' = w := Any.bits_Mul64 Tryz.lays264 x y hx hy w
def Tryz.lays212_ren : Go.Shelf.Ren := ⟨fun | 212 => 223 | 263 => 249 | 264 => 212 | n => n, fun | 46 => 221 | 51 => 312 | 146 => 313 | 53 => 41 | 148 => 218 | n => n, fun | n => n⟩
theorem Tryz.lays212 : Go.Proofs.Lays.n212 Tryz.prog Tryz.lays212_ren := {
  mixed := by kernel_rfl
  f212 := Tryz.func223.trans (congrArg some (by kernel_rfl))
  f263 := Tryz.func249.trans (congrArg some (by kernel_rfl))
  f264 := Tryz.func212.trans (congrArg some (by kernel_rfl))
  t46 := Tryz.underlying221
  a46 := Tryz.isAgg221
  z46 := Tryz.sizeOf221
  v46 := Tryz.zeroValue221
  t51 := Tryz.underlying312
  a51 := Tryz.isAgg312
  z51 := Tryz.sizeOf312
  v51 := Tryz.zeroValue312
  t53 := Tryz.underlying41
  a53 := Tryz.isAgg41
  z53 := Tryz.sizeOf41
  v53 := Tryz.zeroValue41
  t146 := Tryz.underlying313
  a146 := Tryz.isAgg313
  z146 := Tryz.sizeOf313
  v146 := Tryz.zeroValue313
  t148 := Tryz.underlying218
  a148 := Tryz.isAgg218
  z148 := Tryz.sizeOf218
  v148 := Tryz.zeroValue218 }
open Go.RowKit Go.Lib in
theorem Tryz.bits_Mul (x y : Nat) (hx : x < 18446744073709551616) (hy : y < 18446744073709551616) (w : World) :
    Calls Tryz.prog 223 #[.int .u64 x, .int .u64 y] w fun e w' => e = .returned (.tuple #[.int .u64 ((x * y / 18446744073709551616 : Nat) : Int), .int .u64 ((x * y % 18446744073709551616 : Nat) : Int)]) ∧ w' = w := Any.bits_Mul Tryz.lays212 x y hx hy w
def Tryz.laysNm215_ren : Go.Shelf.Ren := ⟨fun | 15 => 56 | n => n, fun | 22 => 22 | 3 => 3 | 4 => 4 | n => n, fun | n => n⟩
theorem Tryz.laysNm215 : Go.Proofs.Lays2.n15 Tryz.prog Tryz.laysNm215_ren := {
  mixed := by kernel_rfl
  f15 := Tryz.func56.trans (congrArg some (by kernel_rfl))
  t3 := Tryz.underlying3
  a3 := Tryz.isAgg3
  z3 := Tryz.sizeOf3
  v3 := Tryz.zeroValue3
  t4 := Tryz.underlying4
  a4 := Tryz.isAgg4
  z4 := Tryz.sizeOf4
  v4 := Tryz.zeroValue4
  t22 := Tryz.underlying22
  a22 := Tryz.isAgg22
  z22 := Tryz.sizeOf22
  v22 := Tryz.zeroValue22
  i3 := by kernel_rfl }
open Go.RowKit Go.Lib in
theorem Tryz.slices_Clone_int (b off n c : Nat) (zs : List Int) (w : World) (hz : n ≤ zs.length) (hbig : n * 8 ≤ 140737488355328) (hc : ∀ j, j < zs.length → w.cell? ⟨b, off + j, none⟩ = some (.int .i64 (zs.getD j 0))) :
    Calls Tryz.prog 56 #[.slice (some ⟨b, off, none⟩) n c] w fun e w' => ∃ v', e = .returned v' ∧ w'.ownsRow w.heap.size 3 1 v' n ((zs.take n).map (Value.int .i64)) ∧ v' ≠ .slice none 0 0 ∧ Below w.heap.size w w' := Any.slices_Clone_int Tryz.laysNm215 b off n c zs w hz hbig hc
open Go.RowKit Go.Lib in
theorem Tryz.slices_Clone_int_nil (n c : Nat) (w : World) :
    Calls Tryz.prog 56 #[.slice none n c] w fun e w' => e = .returned (.slice none 0 0) ∧ w' = w := Any.slices_Clone_int_nil Tryz.laysNm215 n c w
open Go.RowKit Go.Lib in
theorem Tryz.slices_Clone_int_zero (a : Addr) (c : Nat) (w : World) :
    Calls Tryz.prog 56 #[.slice (some a) 0 c] w fun e w' => ∃ v', e = .returned v' ∧ w'.ownsRow w.heap.size 3 1 v' 0 [] ∧ v' ≠ .slice none 0 0 ∧ Below w.heap.size w w' := Any.slices_Clone_int_zero Tryz.laysNm215 a c w
def Tryz.laysSlE041_f56_ren : Go.Shelf.Ren := ⟨fun | 41 => 56 | n => n, fun | 22 => 22 | 23 => 3 | 4 => 4 | n => n, fun | n => n⟩
theorem Tryz.laysSlE041_f56 : Go.Proofs.SlLaysE0.n41 Tryz.prog Tryz.laysSlE041_f56_ren := {
  mixed := by kernel_rfl
  f41 := ⟨Tryz.f56.name, by decide, Tryz.func56.trans (congrArg some (by kernel_rfl))⟩
  t4 := Tryz.underlying4
  a4 := Tryz.isAgg4
  z4 := Tryz.sizeOf4
  v4 := Tryz.zeroValue4
  t22 := Tryz.underlying22
  a22 := Tryz.isAgg22
  z22 := Tryz.sizeOf22
  v22 := Tryz.zeroValue22 }
open Go.RowKit Go.Lib in
theorem Tryz.slices_Clone_f56 (i0 : TypeInfo) (z : Value) (size bytes : Nat) (hi : Tryz.prog.info? 3 = some i0) (hz0 : i0.zero = some z) (hz1 : i0.size = size) (hz2 : i0.bytes = bytes) (hzs : z.cells.size = size) (hsz : 0 < size) (z23 : ∀ w, (Go.sizeOf 3).run Tryz.prog w = .ok size w) (b off n c : Nat) (news : List Value) (w : World) (hl : news.length = n * size) (hn : n ≤ maxLen) (hbig : n * bytes ≤ 140737488355328) (hc : ∀ j u, news[j]? = some u → w.cell? ⟨b, off + j, none⟩ = some u) (h1 : ∀ u ∈ news, u.oneCell' = true) :
    Calls Tryz.prog 56 #[.slice (some ⟨b, off, none⟩) n c] w fun e w' => ∃ v', e = .returned v' ∧ w'.ownsRow w.heap.size 3 size v' n news ∧ v' ≠ .slice none 0 0 ∧ Below w.heap.size w w' := AnyE.slices_Clone Tryz.laysSlE041_f56 i0 z size bytes hi hz0 hz1 hz2 hzs hsz z23 b off n c news w hl hn hbig hc h1
def Tryz.laysSlE041_f115_ren : Go.Shelf.Ren := ⟨fun | 41 => 115 | n => n, fun | 22 => 82 | 23 => 41 | 4 => 4 | n => n, fun | n => n⟩
theorem Tryz.laysSlE041_f115 : Go.Proofs.SlLaysE0.n41 Tryz.prog Tryz.laysSlE041_f115_ren := {
  mixed := by kernel_rfl
  f41 := ⟨Tryz.f115.name, by decide, Tryz.func115.trans (congrArg some (by kernel_rfl))⟩
  t4 := Tryz.underlying4
  a4 := Tryz.isAgg4
  z4 := Tryz.sizeOf4
  v4 := Tryz.zeroValue4
  t22 := Tryz.underlying82
  a22 := Tryz.isAgg82
  z22 := Tryz.sizeOf82
  v22 := Tryz.zeroValue82 }
open Go.RowKit Go.Lib in
theorem Tryz.slices_Clone_f115 (i0 : TypeInfo) (z : Value) (size bytes : Nat) (hi : Tryz.prog.info? 41 = some i0) (hz0 : i0.zero = some z) (hz1 : i0.size = size) (hz2 : i0.bytes = bytes) (hzs : z.cells.size = size) (hsz : 0 < size) (z23 : ∀ w, (Go.sizeOf 41).run Tryz.prog w = .ok size w) (b off n c : Nat) (news : List Value) (w : World) (hl : news.length = n * size) (hn : n ≤ maxLen) (hbig : n * bytes ≤ 140737488355328) (hc : ∀ j u, news[j]? = some u → w.cell? ⟨b, off + j, none⟩ = some u) (h1 : ∀ u ∈ news, u.oneCell' = true) :
    Calls Tryz.prog 115 #[.slice (some ⟨b, off, none⟩) n c] w fun e w' => ∃ v', e = .returned v' ∧ w'.ownsRow w.heap.size 41 size v' n news ∧ v' ≠ .slice none 0 0 ∧ Below w.heap.size w w' := AnyE.slices_Clone Tryz.laysSlE041_f115 i0 z size bytes hi hz0 hz1 hz2 hzs hsz z23 b off n c news w hl hn hbig hc h1
def Tryz.laysSlE041_f262_ren : Go.Shelf.Ren := ⟨fun | 41 => 262 | n => n, fun | 22 => 222 | 23 => 4 | 4 => 4 | n => n, fun | n => n⟩
theorem Tryz.laysSlE041_f262 : Go.Proofs.SlLaysE0.n41 Tryz.prog Tryz.laysSlE041_f262_ren := {
  mixed := by kernel_rfl
  f41 := ⟨Tryz.f262.name, by decide, Tryz.func262.trans (congrArg some (by kernel_rfl))⟩
  t4 := Tryz.underlying4
  a4 := Tryz.isAgg4
  z4 := Tryz.sizeOf4
  v4 := Tryz.zeroValue4
  t22 := Tryz.underlying222
  a22 := Tryz.isAgg222
  z22 := Tryz.sizeOf222
  v22 := Tryz.zeroValue222 }
open Go.RowKit Go.Lib in
theorem Tryz.slices_Clone_f262 (i0 : TypeInfo) (z : Value) (size bytes : Nat) (hi : Tryz.prog.info? 4 = some i0) (hz0 : i0.zero = some z) (hz1 : i0.size = size) (hz2 : i0.bytes = bytes) (hzs : z.cells.size = size) (hsz : 0 < size) (z23 : ∀ w, (Go.sizeOf 4).run Tryz.prog w = .ok size w) (b off n c : Nat) (news : List Value) (w : World) (hl : news.length = n * size) (hn : n ≤ maxLen) (hbig : n * bytes ≤ 140737488355328) (hc : ∀ j u, news[j]? = some u → w.cell? ⟨b, off + j, none⟩ = some u) (h1 : ∀ u ∈ news, u.oneCell' = true) :
    Calls Tryz.prog 262 #[.slice (some ⟨b, off, none⟩) n c] w fun e w' => ∃ v', e = .returned v' ∧ w'.ownsRow w.heap.size 4 size v' n news ∧ v' ≠ .slice none 0 0 ∧ Below w.heap.size w w' := AnyE.slices_Clone Tryz.laysSlE041_f262 i0 z size bytes hi hz0 hz1 hz2 hzs hsz z23 b off n c news w hl hn hbig hc h1
open Go.RowKit Go.Lib in
theorem Tryz.slices_Clone_nil_f56 (n c : Nat) (w : World) :
    Calls Tryz.prog 56 #[.slice none n c] w fun e w' => e = .returned (.slice none 0 0) ∧ w' = w := AnyE.slices_Clone_nil Tryz.laysSlE041_f56 n c w
open Go.RowKit Go.Lib in
theorem Tryz.slices_Clone_nil_f115 (n c : Nat) (w : World) :
    Calls Tryz.prog 115 #[.slice none n c] w fun e w' => e = .returned (.slice none 0 0) ∧ w' = w := AnyE.slices_Clone_nil Tryz.laysSlE041_f115 n c w
open Go.RowKit Go.Lib in
theorem Tryz.slices_Clone_nil_f262 (n c : Nat) (w : World) :
    Calls Tryz.prog 262 #[.slice none n c] w fun e w' => e = .returned (.slice none 0 0) ∧ w' = w := AnyE.slices_Clone_nil Tryz.laysSlE041_f262 n c w
end Go.Proofs

namespace Go.Proofs.YtgplpgldhoelcaaGreat
open Go Go.RowKit
set_option maxHeartbeats 400000 in
theorem ratioRight1 (n l : Int) (w : World) :
    Calls Tryz.prog 153 #[.int .u64 n, .int .u64 l] w fun e w' => e = .returned (.bool (decide (l ≤ n ∧ n ≤ 1048576))) ∧ w = w' := by
  go_enter Tryz.func153, Tryz.ntmps153
  go_wp2
  all_goals go_ret
  all_goals exact ⟨ret_bool (by simp; try omega), rfl⟩

def rrB (a b : Int) : Bool := decide (0 ≤ a ∧ a ≤ 1048576 ∧ 1 ≤ b ∧ b ≤ 1048576)
theorem rrB_u64 {a b : Int} (h : rrB a b = true) : U64 a ∧ U64 b := by
  unfold rrB at h
  unfold U64
  simp at h
  omega

set_option maxHeartbeats 400000 in
theorem ratioRight (a b : Int) (w : World) :
    Calls Tryz.prog 92 #[.agg #[.int .u64 a, .int .u64 b]] w fun e w' => e = .returned (.bool (rrB a b)) ∧ Grows w w' := by
  go_enter Tryz.func92, Tryz.ntmps92
  go_wp2_with (first | (go_at_call 153; refine (ratioRight1 _ _ _).mono ?_; rintro e w' ⟨rfl, rfl⟩))
  all_goals go_ret
  all_goals exact ⟨ret_bool (bool_ext (by unfold rrB; simp; try omega)), GG⟩

def moB (a b c d : Int) : Bool := decide (a < c ∨ (a = c ∧ b ≤ d))
set_option maxHeartbeats 400000 in
theorem ratioMost (a b c d : Int) (w : World) :
    Calls Tryz.prog 204 #[.agg #[.int .u64 a, .int .u64 b], .agg #[.int .u64 c, .int .u64 d]] w fun e w' => e = .returned (.bool (moB a b c d)) ∧ Grows w w' := by
  go_enter Tryz.func204, Tryz.ntmps204
  go_wp2
  all_goals go_ret
  all_goals exact ⟨ret_bool (bool_ext (by unfold moB; simp; try omega)), GG⟩

def hiP (a b : Int) : Int := a * b / 18446744073709551616
def loP (a b : Int) : Int := a * b % 18446744073709551616

set_option maxHeartbeats 400000 in
theorem ratioTimes (a b : Int) (w : World) (ha : U64 a) (hb : U64 b) :
    Calls Tryz.prog 169 #[.int .u64 a, .int .u64 b] w fun e w' => e = .returned (.agg #[.int .u64 (hiP a b), .int .u64 (loP a b)]) ∧ Grows w w' := by
  obtain ⟨a, rfl, ha'⟩ := ha.nat
  obtain ⟨b, rfl, hb'⟩ := hb.nat
  have H := hide ha'
  have K := hide hb'
  clear ha hb ha' hb'
  go_enter Tryz.func169, Tryz.ntmps169
  go_wp2_with (go_at_call 212; refine (Tryz.bits_Mul64 _ _ H.out K.out _).mono ?_; rintro e w' ⟨rfl, rfl⟩)
  exact bodyPost_ret (v := .agg #[.int .u64 (hiP a b), .int .u64 (loP a b)]) (by simp [results, Tryz.results169, go_sem, hiP, loP]) rfl ⟨rfl, GG⟩

def wiB (n a b base : Int) : Bool := rrB a b && decide (n * b ≤ base * a)

theorem wi_of (w a b base : Int) : moB (hiP w b) (loP w b) (hiP base a) (loP base a) = decide (w * b ≤ base * a) := by
  unfold moB hiP loP
  rw [Bool.eq_iff_iff]
  simp only [decide_eq_true_eq]
  generalize w * b = x
  generalize base * a = y
  omega

set_option maxHeartbeats 400000 in
theorem ratioWithin (n a b base : Int) (w : World) (hn : U64 n) (hb : U64 base) :
    Calls Tryz.prog 158 #[.int .u64 n, .agg #[.int .u64 a, .int .u64 b], .int .u64 base] w fun e w' => e = .returned (.bool (wiB n a b base)) ∧ Grows w w' := by
  have H := hide hn
  have K1 := hide hb
  clear hn hb
  have c1 := fun w => ratioRight a b w
  cases hr : rrB a b with
  | true =>
    rw [hr] at c1
    have HR := hide (rrB_u64 hr)
    have HW : Hid (wiB n a b base = decide (n * b ≤ base * a)) := by unfold wiB; rw [hr]; exact Bool.true_and _
    have HC := hide c1
    clear hr c1
    go_enter Tryz.func158, Tryz.ntmps158
    go_wp2_with fail
    ((first | refine wp_region_gen2 (by kernel_rfl) (by kernel_rfl) ?_ | refine wp_region_gen (by kernel_rfl) (by kernel_rfl) ?_); (repeat' ((first | refine gLex_val0 rfl (by kernel_rfl) (fun K hK => ?_) | refine gLex_undef rfl rfl rfl (by kernel_rfl) (fun K hK => ?_) | (refine gLex_ask rfl rfl rfl ?_; first | (apply gAsk_yes; kernel_rfl; intro K hK) | ((first | apply gAsk_no1 | apply gAsk_no2); kernel_rfl; intro K hK) | (apply gAsk_part; kernel_rfl; all_goals (intro h K hK; (try simp only [Bool.not_true] at h); (try simp only [Bool.not_false] at h); (try simp only [decide_eq_true_eq] at h); (try simp only [decide_eq_false_iff_not] at h); try (exfalso; first | contradiction | omega))))) <;> (go_simp; (try (simp only [↓IntWalk.iteOmega]; try go_simp)); (try simp (disch := omega) only [IntWalk.i64_in]); (try simp (disch := omega) only [IntWalk.u64_in]); first | (refine hK _ ?_; clear hK K) | (apply Exists.intro; refine ⟨fun x => ?_, hK _ ?_⟩; (first | (go_at_call 92; exact HC.out _) | (go_at_call 169; exact ratioTimes _ _ _ (by first | exact H.out | exact K1.out) (by first | exact HR.out.1 | exact HR.out.2)) | (go_at_call 204; exact ratioMost _ _ _ _ _)); clear hK K)))); all_goals ((apply gLex_end); intro x))
    go_wp2
    go_ret
    exact ⟨ret_bool (by rw [wi_of, HW.out]), GG⟩
  | false =>
    rw [hr] at c1
    have HW : Hid (wiB n a b base = false) := by unfold wiB; rw [hr]; rfl
    have HC := hide c1
    clear hr c1
    go_enter Tryz.func158, Tryz.ntmps158
    go_wp2_with fail
    ((first | refine wp_region_gen2 (by kernel_rfl) (by kernel_rfl) ?_ | refine wp_region_gen (by kernel_rfl) (by kernel_rfl) ?_); (repeat' ((first | refine gLex_val0 rfl (by kernel_rfl) (fun K hK => ?_) | refine gLex_undef rfl rfl rfl (by kernel_rfl) (fun K hK => ?_) | (refine gLex_ask rfl rfl rfl ?_; first | (apply gAsk_yes; kernel_rfl; intro K hK) | ((first | apply gAsk_no1 | apply gAsk_no2); kernel_rfl; intro K hK) | (apply gAsk_part; kernel_rfl; all_goals (intro h K hK; (try simp only [Bool.not_true] at h); (try simp only [Bool.not_false] at h); (try simp only [decide_eq_true_eq] at h); (try simp only [decide_eq_false_iff_not] at h); try (exfalso; first | contradiction | omega))))) <;> (go_simp; (try (simp only [↓IntWalk.iteOmega]; try go_simp)); (try simp (disch := omega) only [IntWalk.i64_in]); (try simp (disch := omega) only [IntWalk.u64_in]); first | (refine hK _ ?_; clear hK K) | (apply Exists.intro; refine ⟨fun x => ?_, hK _ ?_⟩; (first | (go_at_call 92; exact HC.out _)); clear hK K)))); all_goals ((apply gLex_end); intro x))
    go_wp2
    go_ret
    exact ⟨ret_bool HW.out.symm, GG⟩

end Go.Proofs.YtgplpgldhoelcaaGreat

namespace Go.Proofs.YtgplpgldhoelcaaGreat
open Go Go.RowKit
set_option maxHeartbeats 400000 in
theorem rRight (a b : Int) (w : World) (ha : U64 a) :
    Calls Tryz.prog 94 #[.agg #[.int .u64 a, .int .u64 b]] w fun e w' => e = .returned (.bool (rrB a b)) ∧ Grows w w' := by
  have H := hide ha
  clear ha
  go_enter Tryz.func94, Tryz.ntmps94
  go_wp2
  all_goals go_ret
  all_goals exact ⟨ret_bool (bool_ext (by have := H.out.1; unfold rrB; simp; try omega)), GG⟩

theorem times_plain (a b : Int) (ha : U64 a) (hb : 0 ≤ b ∧ b ≤ 2097152) :
    IntKind.u64.wrap (IntKind.u64.wrap (a / 4294967296 * b) / 4294967296 + IntKind.u64.wrap ((IntKind.u64.wrap (a / 4294967296 * b)).tmod 4294967296 + IntKind.u64.wrap (a.tmod 4294967296 * b) / 4294967296) / 4294967296) = a * b / 18446744073709551616 ∧
    (IntKind.u64.wrap ((IntKind.u64.wrap (a / 4294967296 * b)).tmod 4294967296 + IntKind.u64.wrap (a.tmod 4294967296 * b) / 4294967296)).tmod 4294967296 = a * b / 4294967296 % 4294967296 ∧
    (IntKind.u64.wrap (a.tmod 4294967296 * b)).tmod 4294967296 = a * b % 4294967296 := by
  obtain ⟨h0, h1⟩ := ha
  obtain ⟨b0, b1⟩ := hb
  have e1 : a.tmod 4294967296 = a % 4294967296 := Int.tmod_eq_emod_of_nonneg h0
  have hp : ∀ x : Int, 0 ≤ x → x < 4294967296 → 0 ≤ x * b ∧ x * b ≤ 4294967295 * 2097152 := fun x hx hx' =>
    ⟨Int.mul_nonneg hx b0, Int.mul_le_mul (by omega) b1 b0 (by omega)⟩
  have p1 := hp (a / 4294967296) (by omega) (by omega)
  have p2 := hp (a % 4294967296) (by omega) (by omega)
  have hab : a * b = (a / 4294967296 * b) * 4294967296 + a % 4294967296 * b := by
    have : a = a / 4294967296 * 4294967296 + a % 4294967296 := by omega
    conv => lhs; rw [this]
    rw [Int.add_mul, Int.mul_assoc, Int.mul_comm 4294967296 b, Int.mul_assoc]
  rw [hab, e1]
  generalize a / 4294967296 * b = x at *
  generalize a % 4294967296 * b = y at *
  rw [IntWalk.u64_in x (by omega), IntWalk.u64_in y (by omega), Int.tmod_eq_emod_of_nonneg p1.1, Int.tmod_eq_emod_of_nonneg p2.1, IntWalk.u64_in (x % 4294967296 + y / 4294967296) (by omega),
    Int.tmod_eq_emod_of_nonneg (by omega), IntWalk.u64_in _ (by omega)]
  refine ⟨by omega, by omega, by omega⟩

set_option maxHeartbeats 400000 in
theorem rTimes (a b : Int) (w : World) (ha : U64 a) (hb : 0 ≤ b ∧ b ≤ 2097152) :
    Calls Tryz.prog 119 #[.int .u64 a, .int .u64 b] w fun e w' => e = .returned (.agg #[.int .u64 (a * b / 18446744073709551616), .int .u64 (a * b / 4294967296 % 4294967296), .int .u64 (a * b % 4294967296)]) ∧ Grows w w' := by
  have H := hide ha
  have K := hide hb
  clear ha hb
  go_enter Tryz.func119, Tryz.ntmps119
  go_wp2
  refine bodyPost_ret (v := .agg #[.int .u64 (a * b / 18446744073709551616), .int .u64 (a * b / 4294967296 % 4294967296), .int .u64 (a * b % 4294967296)]) ?_ rfl ⟨rfl, GG⟩
  obtain ⟨h1, h2, h3⟩ := times_plain a b H.out K.out
  simp [results, Tryz.results119, go_sem, h1, h2, h3]
def moB3 (a b c d e f : Int) : Bool := decide (a < d ∨ a = d ∧ (b < e ∨ b = e ∧ c ≤ f))
set_option maxHeartbeats 400000 in
theorem rMost (a b c d e f : Int) (w : World) :
    Calls Tryz.prog 118 #[.agg #[.int .u64 a, .int .u64 b, .int .u64 c], .agg #[.int .u64 d, .int .u64 e, .int .u64 f]] w fun e' w' => e' = .returned (.bool (moB3 a b c d e f)) ∧ Grows w w' := by
  go_enter Tryz.func118, Tryz.ntmps118
  go_wp2
  refine wp_loop_rounds 4 ?_
  repeat (any_goals (first | (rw [rounds_succ]; go_wp2) | (((first | refine wp_region_gen2 (by kernel_rfl) (by kernel_rfl) ?_ | refine wp_region_gen (by kernel_rfl) (by kernel_rfl) ?_); (repeat' ((first | refine gLex_val0 rfl (by kernel_rfl) (fun K hK => ?_) | refine gLex_undef rfl rfl rfl (by kernel_rfl) (fun K hK => ?_) | (refine gLex_ask rfl rfl rfl ?_; first | (apply gAsk_yes; kernel_rfl; intro K hK) | ((first | apply gAsk_no1 | apply gAsk_no2); kernel_rfl; intro K hK) | (apply gAsk_part; kernel_rfl; all_goals (intro h K hK; (try simp only [Bool.not_true] at h); (try simp only [Bool.not_false] at h); (try simp only [decide_eq_true_eq] at h); (try simp only [decide_eq_false_iff_not] at h); try (exfalso; first | contradiction | omega))))) <;> (go_simp; (try (simp only [↓IntWalk.iteOmega]; try go_simp)); (try simp (disch := omega) only [IntWalk.i64_in]); (try simp (disch := omega) only [IntWalk.u64_in]); refine hK _ ?_; clear hK K))); all_goals ((apply gLex_end); intro x)); all_goals go_wp2)))
  all_goals go_ret
  all_goals exact ⟨ret_bool (bool_ext (by unfold moB3; simp_all <;> omega)), GG⟩

theorem moB3_of (x y : Int) : moB3 (x / 18446744073709551616) (x / 4294967296 % 4294967296) (x % 4294967296) (y / 18446744073709551616) (y / 4294967296 % 4294967296) (y % 4294967296) = decide (x ≤ y) := by
  unfold moB3
  rw [Bool.eq_iff_iff]
  simp only [decide_eq_true_eq]
  omega

theorem rrB_spec {a b : Int} (h : rrB a b = true) : 0 ≤ a ∧ a ≤ 1048576 ∧ 1 ≤ b ∧ b ≤ 1048576 := by simpa [rrB] using h

set_option maxHeartbeats 400000 in
theorem rWithin (n a b base : Int) (w : World) (hn : U64 n) (ha : U64 a) (hb : U64 base) :
    Calls Tryz.prog 49 #[.int .u64 n, .agg #[.int .u64 a, .int .u64 b], .int .u64 base] w fun e w' => e = .returned (.bool (wiB n a b base)) ∧ Grows w w' := by
  have H := hide hn
  have K1 := hide hb
  have c1 := fun w => rRight a b w ha
  clear hn hb ha
  cases hr : rrB a b with
  | true =>
    rw [hr] at c1
    have HR := hide (rrB_spec hr)
    have HW : Hid (wiB n a b base = decide (n * b ≤ base * a)) := by unfold wiB; rw [hr]; exact Bool.true_and _
    have HC := hide c1
    clear hr c1
    go_enter Tryz.func49, Tryz.ntmps49
    go_wp2_with fail
    ((first | refine wp_region_gen2 (by kernel_rfl) (by kernel_rfl) ?_ | refine wp_region_gen (by kernel_rfl) (by kernel_rfl) ?_); (repeat' ((first | refine gLex_val0 rfl (by kernel_rfl) (fun K hK => ?_) | refine gLex_undef rfl rfl rfl (by kernel_rfl) (fun K hK => ?_) | (refine gLex_ask rfl rfl rfl ?_; first | (apply gAsk_yes; kernel_rfl; intro K hK) | ((first | apply gAsk_no1 | apply gAsk_no2); kernel_rfl; intro K hK) | (apply gAsk_part; kernel_rfl; all_goals (intro h K hK; (try simp only [Bool.not_true] at h); (try simp only [Bool.not_false] at h); (try simp only [decide_eq_true_eq] at h); (try simp only [decide_eq_false_iff_not] at h); try (exfalso; first | contradiction | omega))))) <;> (go_simp; (try (simp only [↓IntWalk.iteOmega]; try go_simp)); (try simp (disch := omega) only [IntWalk.i64_in]); (try simp (disch := omega) only [IntWalk.u64_in]); first | (refine hK _ ?_; clear hK K) | (apply Exists.intro; refine ⟨fun x => ?_, hK _ ?_⟩; (first | (go_at_call 94; exact HC.out _) | (go_at_call 119; exact rTimes _ _ _ (by first | exact H.out | exact K1.out) (by have := HR.out; omega)) | (go_at_call 118; exact rMost _ _ _ _ _ _ _)); clear hK K)))); all_goals ((apply gLex_end); intro x))
    go_wp2
    go_ret
    exact ⟨ret_bool (by rw [moB3_of, HW.out]), GG⟩
  | false =>
    rw [hr] at c1
    have HW : Hid (wiB n a b base = false) := by unfold wiB; rw [hr]; rfl
    have HC := hide c1
    clear hr c1
    go_enter Tryz.func49, Tryz.ntmps49
    go_wp2_with fail
    ((first | refine wp_region_gen2 (by kernel_rfl) (by kernel_rfl) ?_ | refine wp_region_gen (by kernel_rfl) (by kernel_rfl) ?_); (repeat' ((first | refine gLex_val0 rfl (by kernel_rfl) (fun K hK => ?_) | refine gLex_undef rfl rfl rfl (by kernel_rfl) (fun K hK => ?_) | (refine gLex_ask rfl rfl rfl ?_; first | (apply gAsk_yes; kernel_rfl; intro K hK) | ((first | apply gAsk_no1 | apply gAsk_no2); kernel_rfl; intro K hK) | (apply gAsk_part; kernel_rfl; all_goals (intro h K hK; (try simp only [Bool.not_true] at h); (try simp only [Bool.not_false] at h); (try simp only [decide_eq_true_eq] at h); (try simp only [decide_eq_false_iff_not] at h); try (exfalso; first | contradiction | omega))))) <;> (go_simp; (try (simp only [↓IntWalk.iteOmega]; try go_simp)); (try simp (disch := omega) only [IntWalk.i64_in]); (try simp (disch := omega) only [IntWalk.u64_in]); first | (refine hK _ ?_; clear hK K) | (apply Exists.intro; refine ⟨fun x => ?_, hK _ ?_⟩; (first | (go_at_call 94; exact HC.out _)); clear hK K)))); all_goals ((apply gLex_end); intro x))
    go_wp2
    go_ret
    exact ⟨ret_bool HW.out.symm, GG⟩

def stB (n a b base : Int) : Bool := rrB a b && decide (n * b ≤ base * (a + b))

set_option maxHeartbeats 400000 in
theorem rStretched (n a b base : Int) (w : World) (hn : U64 n) (ha : U64 a) (hb : U64 base) :
    Calls Tryz.prog 47 #[.int .u64 n, .agg #[.int .u64 a, .int .u64 b], .int .u64 base] w fun e w' => e = .returned (.bool (stB n a b base)) ∧ Grows w w' := by
  have H := hide hn
  have K1 := hide hb
  have c1 := fun w => rRight a b w ha
  clear hn hb ha
  cases hr : rrB a b with
  | true =>
    rw [hr] at c1
    obtain ⟨r1, r2, r3, r4⟩ := rrB_spec hr
    have HW : Hid (stB n a b base = decide (n * b ≤ base * (a + b))) := by unfold stB; rw [hr]; exact Bool.true_and _
    have HC := hide c1
    clear hr c1
    go_enter Tryz.func47, Tryz.ntmps47
    go_wp2_with fail
    ((first | refine wp_region_gen2 (by kernel_rfl) (by kernel_rfl) ?_ | refine wp_region_gen (by kernel_rfl) (by kernel_rfl) ?_); (repeat' ((first | refine gLex_val0 rfl (by kernel_rfl) (fun K hK => ?_) | refine gLex_undef rfl rfl rfl (by kernel_rfl) (fun K hK => ?_) | (refine gLex_ask rfl rfl rfl ?_; first | (apply gAsk_yes; kernel_rfl; intro K hK) | ((first | apply gAsk_no1 | apply gAsk_no2); kernel_rfl; intro K hK) | (apply gAsk_part; kernel_rfl; all_goals (intro h K hK; (try simp only [Bool.not_true] at h); (try simp only [Bool.not_false] at h); (try simp only [decide_eq_true_eq] at h); (try simp only [decide_eq_false_iff_not] at h); try (exfalso; first | contradiction | omega))))) <;> (go_simp; (try (simp only [↓IntWalk.iteOmega]; try go_simp)); (try simp (disch := omega) only [IntWalk.i64_in]); (try simp (disch := omega) only [IntWalk.u64_in]); first | (refine hK _ ?_; clear hK K) | (apply Exists.intro; refine ⟨fun x => ?_, hK _ ?_⟩; (first | (go_at_call 94; exact HC.out _) | (go_at_call 119; exact rTimes _ _ _ (by first | exact H.out | exact K1.out) (by omega)) | (go_at_call 118; exact rMost _ _ _ _ _ _ _)); clear hK K)))); all_goals ((apply gLex_end); intro x))
    go_wp2
    go_ret
    exact ⟨ret_bool (by rw [moB3_of, HW.out]), GG⟩
  | false =>
    rw [hr] at c1
    have HW : Hid (stB n a b base = false) := by unfold stB; rw [hr]; rfl
    have HC := hide c1
    clear hr c1
    go_enter Tryz.func47, Tryz.ntmps47
    go_wp2_with fail
    ((first | refine wp_region_gen2 (by kernel_rfl) (by kernel_rfl) ?_ | refine wp_region_gen (by kernel_rfl) (by kernel_rfl) ?_); (repeat' ((first | refine gLex_val0 rfl (by kernel_rfl) (fun K hK => ?_) | refine gLex_undef rfl rfl rfl (by kernel_rfl) (fun K hK => ?_) | (refine gLex_ask rfl rfl rfl ?_; first | (apply gAsk_yes; kernel_rfl; intro K hK) | ((first | apply gAsk_no1 | apply gAsk_no2); kernel_rfl; intro K hK) | (apply gAsk_part; kernel_rfl; all_goals (intro h K hK; (try simp only [Bool.not_true] at h); (try simp only [Bool.not_false] at h); (try simp only [decide_eq_true_eq] at h); (try simp only [decide_eq_false_iff_not] at h); try (exfalso; first | contradiction | omega))))) <;> (go_simp; (try (simp only [↓IntWalk.iteOmega]; try go_simp)); (try simp (disch := omega) only [IntWalk.i64_in]); (try simp (disch := omega) only [IntWalk.u64_in]); first | (refine hK _ ?_; clear hK K) | (apply Exists.intro; refine ⟨fun x => ?_, hK _ ?_⟩; (first | (go_at_call 94; exact HC.out _)); clear hK K)))); all_goals ((apply gLex_end); intro x))
    go_wp2
    go_ret
    exact ⟨ret_bool HW.out.symm, GG⟩

set_option maxHeartbeats 400000 in
theorem ratioStretched (n a b base : Int) (w : World) (hn : U64 n) (hb : U64 base) :
    Calls Tryz.prog 157 #[.int .u64 n, .agg #[.int .u64 a, .int .u64 b], .int .u64 base] w fun e w' => e = .returned (.bool (stB n a b base)) ∧ Grows w w' := by
  have H := hide hn
  have K1 := hide hb
  have c1 := fun w => ratioRight a b w
  clear hn hb
  cases hr : rrB a b with
  | true =>
    rw [hr] at c1
    obtain ⟨r1, r2, r3, r4⟩ := rrB_spec hr
    have HR := hide (rrB_u64 hr)
    have HS : Hid (U64 (IntKind.u64.wrap (a + b))) := by rw [IntWalk.u64_in _ (by omega)]; exact (⟨by omega, by omega⟩ : U64 (a + b))
    have HS2 : Hid (U64 (a + b)) := (⟨by omega, by omega⟩ : U64 (a + b))
    have HW : Hid (stB n a b base = decide (n * b ≤ base * (a + b))) := by unfold stB; rw [hr]; exact Bool.true_and _
    have HC := hide c1
    clear hr c1
    go_enter Tryz.func157, Tryz.ntmps157
    go_wp2_with fail
    ((first | refine wp_region_gen2 (by kernel_rfl) (by kernel_rfl) ?_ | refine wp_region_gen (by kernel_rfl) (by kernel_rfl) ?_); (repeat' ((first | refine gLex_val0 rfl (by kernel_rfl) (fun K hK => ?_) | refine gLex_undef rfl rfl rfl (by kernel_rfl) (fun K hK => ?_) | (refine gLex_ask rfl rfl rfl ?_; first | (apply gAsk_yes; kernel_rfl; intro K hK) | ((first | apply gAsk_no1 | apply gAsk_no2); kernel_rfl; intro K hK) | (apply gAsk_part; kernel_rfl; all_goals (intro h K hK; (try simp only [Bool.not_true] at h); (try simp only [Bool.not_false] at h); (try simp only [decide_eq_true_eq] at h); (try simp only [decide_eq_false_iff_not] at h); try (exfalso; first | contradiction | omega))))) <;> (go_simp; (try (simp only [↓IntWalk.iteOmega]; try go_simp)); (try simp (disch := omega) only [IntWalk.i64_in]); (try simp (disch := omega) only [IntWalk.u64_in]); first | (refine hK _ ?_; clear hK K) | (apply Exists.intro; refine ⟨fun x => ?_, hK _ ?_⟩; (first | (go_at_call 92; exact HC.out _) | (go_at_call 169; exact ratioTimes _ _ _ (by first | exact H.out | exact K1.out) (by first | exact HR.out.1 | exact HR.out.2 | exact HS.out | exact HS2.out)) | (go_at_call 204; exact ratioMost _ _ _ _ _)); clear hK K)))); all_goals ((apply gLex_end); intro x))
    go_wp2
    go_ret
    exact ⟨ret_bool (by rw [wi_of, HW.out]), GG⟩
  | false =>
    rw [hr] at c1
    have HW : Hid (stB n a b base = false) := by unfold stB; rw [hr]; rfl
    have HC := hide c1
    clear hr c1
    go_enter Tryz.func157, Tryz.ntmps157
    go_wp2_with fail
    ((first | refine wp_region_gen2 (by kernel_rfl) (by kernel_rfl) ?_ | refine wp_region_gen (by kernel_rfl) (by kernel_rfl) ?_); (repeat' ((first | refine gLex_val0 rfl (by kernel_rfl) (fun K hK => ?_) | refine gLex_undef rfl rfl rfl (by kernel_rfl) (fun K hK => ?_) | (refine gLex_ask rfl rfl rfl ?_; first | (apply gAsk_yes; kernel_rfl; intro K hK) | ((first | apply gAsk_no1 | apply gAsk_no2); kernel_rfl; intro K hK) | (apply gAsk_part; kernel_rfl; all_goals (intro h K hK; (try simp only [Bool.not_true] at h); (try simp only [Bool.not_false] at h); (try simp only [decide_eq_true_eq] at h); (try simp only [decide_eq_false_iff_not] at h); try (exfalso; first | contradiction | omega))))) <;> (go_simp; (try (simp only [↓IntWalk.iteOmega]; try go_simp)); (try simp (disch := omega) only [IntWalk.i64_in]); (try simp (disch := omega) only [IntWalk.u64_in]); first | (refine hK _ ?_; clear hK K) | (apply Exists.intro; refine ⟨fun x => ?_, hK _ ?_⟩; (first | (go_at_call 92; exact HC.out _)); clear hK K)))); all_goals ((apply gLex_end); intro x))
    go_wp2
    go_ret
    exact ⟨ret_bool HW.out.symm, GG⟩

end Go.Proofs.YtgplpgldhoelcaaGreat

namespace Go.Proofs.YtgplpgldhoelcaaGreat
open Go Go.RowKit

structure Touch (S : Nat → Prop) (w w' : World) : Prop where
  os : w'.os = w.os
  tape : w'.tape = w.tape
  output : w'.output = w.output
  size : w.heap.size ≤ w'.heap.size
  block : ∀ k, k < w.heap.size → ¬ S k → w'.heap[k]? = w.heap[k]?

def New (w w' : World) (k : Nat) : Prop := w.heap.size ≤ k ∧ k < w'.heap.size

section
variable {S S' : Nat → Prop} {a b c w w' : World}
theorem Touch.refl (S : Nat → Prop) (w : World) : Touch S w w := ⟨rfl, rfl, rfl, Nat.le_refl _, fun _ _ _ => rfl⟩
theorem Grows.touch (h : Grows w w') (S : Nat → Prop) : Touch S w w' := ⟨h.os, h.tape, h.output, h.size, fun k hk _ => h.block k hk⟩
theorem Touch.trans2 (h : Touch S a b) (k : Touch S' b c) (hs : ∀ k, S' k → S k ∨ a.heap.size ≤ k) : Touch S a c :=
  ⟨k.os.trans h.os, k.tape.trans h.tape, k.output.trans h.output, Nat.le_trans h.size k.size, fun i hi hn =>
    (k.block i (Nat.lt_of_lt_of_le hi h.size) fun e => by rcases hs i e with h1 | h1; exact hn h1; omega).trans (h.block i hi hn)⟩
theorem Touch.trans (h : Touch S a b) (k : Touch S b c) : Touch S a c := h.trans2 k fun _ h => .inl h
theorem Touch.mono (h : Touch S a b) (hs : ∀ k, S k → S' k) : Touch S' a b := ⟨h.os, h.tape, h.output, h.size, fun k hk hn => h.block k hk fun e => hn (hs k e)⟩
theorem Touch.grows (h : Touch S a b) (k : Grows b c) : Touch S a c := h.trans (k.touch S)
theorem Touch.now (h : Touch S a b) (x : Later b) : Touch S a x.now := h.grows x.grows
theorem Touch.new (h : Touch S a b) (o : Obj) : Touch S a (b.alloc o) := h.grows ((Grows.refl b).new o)
theorem Touch.drew (h : Touch S a b) : Touch S a b.drew := h.grows (Grows.refl b).drew
theorem Touch.drewN (h : Touch S a b) (n : Nat) : Touch S a (b.drewN n) := h.grows ((Grows.refl b).drewN n)
theorem heap_setCell (w : World) (p : Addr) (u : Value) (k : Nat) (h : k ≠ p.block) : (w.setCell p u).heap[k]? = w.heap[k]? := Below.heap_setCell w p u k h
theorem size_setCell (w : World) (p : Addr) (u : Value) : (w.setCell p u).heap.size = w.heap.size := by simp [World.setCell]
theorem Touch.set (h : Touch S a b) {p : Addr} (hp : S p.block ∨ a.heap.size ≤ p.block) (u : Value) : Touch S a (b.setCell p u) := by
  refine ⟨h.os, h.tape, h.output, by rw [size_setCell]; exact h.size, fun k hk hn => ?_⟩
  rw [heap_setCell _ _ _ _ (fun e => by subst e; rcases hp with hp | hp; exact hn hp; omega)]
  exact h.block k hk hn
theorem Touch.put (h : Touch S a b) {r : Nat} (hr : S r ∨ a.heap.size ≤ r) (o : Obj) : Touch S a (b.putObj r o) := by
  refine ⟨h.os, h.tape, h.output, by simp; exact h.size, fun k hk hn => ?_⟩
  rw [World.putObj_heap_other (fun e => by subst e; rcases hr with hp | hp; exact hn hp; omega)]
  exact h.block k hk hn
theorem Touch.grown {row : Option Nat} (h : Touch S a b) (hg : b.grownBy c row) (hr : ∀ k, row = some k → S k ∨ a.heap.size ≤ k) : Touch S a c := by
  refine ⟨hg.os.trans h.os, hg.tape.trans h.tape, hg.output.trans h.output, Nat.le_trans h.size hg.size, fun k hk hn => ?_⟩
  refine (hg.block k (Nat.lt_of_lt_of_le hk h.size) fun e => ?_).trans (h.block k hk hn)
  rcases hr k e.symm with h1 | h1
  · exact hn h1
  · omega
theorem Touch.below (h : Touch S a b) {n : Nat} (hs : ∀ k, S k → n ≤ k) (hn : n ≤ a.heap.size) : Below n a b :=
  ⟨h.os, h.tape, h.output, h.size, fun k hk => h.block k (by omega) fun e => by have := hs k e; omega⟩
theorem Touch.later {w0 : World} (hw0 : Grows w0 a) (h : Touch S a b) (hs : ∀ k, S k → w0.heap.size ≤ k) : Grows w0 b :=
  Below.trans hw0 (h.below hs hw0.size)
theorem Touch.cell (h : Touch S a b) {p : Addr} (hp : ¬ S p.block) {u : Value} (hc : a.cell? p = some u) : b.cell? p = some u := by
  rw [← hc]
  exact World.cell?_of_block (w := a) (h.block p.block (World.block_lt_of_cell? a p hc) hp)
theorem Touch.frozen (h : Touch S a b) {p : Addr} (hp : ¬ S p.block) {u : Value} (hc : a.cell? p = some u) : b.frozen? p = a.frozen? p :=
  World.frozen?_of_block (w := a) (h.block p.block (World.block_lt_of_cell? a p hc) hp)
theorem Touch.at (h : Touch S a b) {k : Nat} {o : Obj} (hp : ¬ S k) (hc : a.heap[k]? = some o) : b.heap[k]? = some o :=
  (h.block k (Array.getElem?_eq_some_iff.1 hc).1 hp).trans hc
theorem Mine.touch {p : Addr} {v : Value} (h : Mine a p v) (ht : Touch S a b) (hp : ¬ S p.block) : Mine b p v :=
  ⟨ht.cell hp h.cell, (ht.frozen hp h.cell).trans h.free⟩
theorem Holds.touch {p : Addr} {v : Value} (h : Holds a p v) (ht : Touch S a b) (hp : ¬ S p.block) : Holds b p v := ⟨ht.cell hp h.cell⟩
theorem Rd.touch {A : Option Addr} {size n : Nat} {xs : List Value} (h : Rd a A size n xs) (ht : Touch S a b) (hp : ∀ p, A = some p → ¬ S p.block) : Rd b A size n xs :=
  ⟨h.1, fun h1 h2 => by
    obtain ⟨g, off, e, hc⟩ := h.2 h1 h2
    exact ⟨g, off, e, fun j u hu => ht.cell (p := ⟨g, off + j, none⟩) (hp ⟨g, off, none⟩ e) (hc j u hu)⟩⟩
end

def Keeps (B M : Nat → Prop) (w w' : World) : Prop := Touch (fun k => ¬ (B k ∨ M k)) w w'
section
variable {B M M' S : Nat → Prop} {a b c : World}
theorem Keeps.refl (B M : Nat → Prop) (a : World) : Keeps B M a a := Touch.refl _ _
theorem Keeps.trans (h : Keeps B M a b) (k : Keeps B M b c) : Keeps B M a c := Touch.trans h k
theorem Keeps.mono (h : Keeps B M a b) (hM : ∀ k, M' k → M k) : Keeps B M' a b := Touch.mono h fun k h1 e => h1 (e.elim .inl fun e => .inr (hM k e))
theorem Touch.keeps (h : Touch S a b) (hs : ∀ k, S k → ¬ (B k ∨ M k)) : Keeps B M a b := Touch.mono h hs
theorem Keeps.at (h : Keeps B M a b) {k : Nat} {o : Obj} (hk : B k ∨ M k) (hc : a.heap[k]? = some o) : b.heap[k]? = some o :=
  Touch.at h (fun h1 => h1 hk) hc
theorem Keeps.cell (h : Keeps B M a b) {p : Addr} (hk : B p.block ∨ M p.block) {u : Value} (hc : a.cell? p = some u) : b.cell? p = some u :=
  Touch.cell h (fun h1 => h1 hk) hc
end
end Go.Proofs.YtgplpgldhoelcaaGreat

namespace Go.Proofs.YtgplpgldhoelcaaGreat
open Go Go.RowKit
class Arr (w : World) (g : Nat) (t : outParam TypeId) (cs : outParam (List Value)) : Prop where
  is : w.heap[g]? = some (.cells cs.toArray t (0, 0))
section
variable {w w' w0 : World} {g g' : Nat} {t t' : TypeId} {cs cs' : List Value} {S : Nat → Prop}
theorem Arr.lt (h : Arr w g t cs) : g < w.heap.size := (Array.getElem?_eq_some_iff.1 h.is).1
theorem Arr.cell (h : Arr w g t cs) (j : Nat) : w.cell? ⟨g, j, none⟩ = cs[j]? := by simp [World.cell?, h.is]
theorem Arr.free (h : Arr w g t cs) (j : Nat) : w.frozen? ⟨g, j, none⟩ = false := by simp [World.frozen?, h.is]
theorem Arr.mine (h : Arr w g t cs) (j : Nat) {u : Value} (hu : cs[j]? = some u) : Mine w ⟨g, j, none⟩ u := ⟨by rw [h.cell, hu], h.free j⟩
theorem Arr.grow (h : Arr w g t cs) (k : Grows w w') : Arr w' g t cs := ⟨(k.block g h.lt).trans h.is⟩
theorem Arr.touch (h : Arr w g t cs) (k : Touch S w w') (hS : ¬ S g) : Arr w' g t cs := ⟨k.at hS h.is⟩
theorem Arr.set (h : Arr w g t cs) (j : Nat) (u : Value) : Arr (w.setCell ⟨g, j, none⟩ u) g t (cs.set j u) :=
  ⟨by have := h.is; simp [World.setCell, Array.getElem?_modify, this]⟩
theorem Arr.other (h : Arr w g t cs) {p : Addr} (hp : p.block ≠ g) (u : Value) : Arr (w.setCell p u) g t cs :=
  ⟨by rw [heap_setCell _ _ _ _ (Ne.symm hp)]; exact h.is⟩
theorem Arr.put (h : Arr w g t cs) {r : Nat} (hr : g ≠ r) (o : Obj) : Arr (w.putObj r o) g t cs := ⟨(World.putObj_heap_other hr).trans h.is⟩
theorem Arr.ne (h : Arr w g t cs) (k : Arr w g' t' cs') (ht : t ≠ t') : g ≠ g' := fun e => by
  subst e
  have := h.is.symm.trans k.is
  injection this with this
  injection this with _ this
  exact ht this
theorem Arr.same (h : Arr w g t cs) (k : Arr w g t' cs') : t = t' ∧ cs = cs' := by
  have := h.is.symm.trans k.is
  injection this with this
  injection this with h1 h2
  exact ⟨h2, by simpa using h1⟩
theorem Arr.rd (h : Arr w g t cs) {size n : Nat} (hl : cs.length = n * size) : Rd w (some ⟨g, 0, none⟩) size n cs :=
  ⟨hl, fun _ _ => ⟨g, 0, rfl, fun j u hu => by rw [Nat.zero_add, h.cell]; exact hu⟩⟩
theorem Arr.make (w : World) (cs : List Value) (t : TypeId) : Arr (w.alloc (.cells cs.toArray t)) w.heap.size t cs := ⟨World.alloc_heap_new w _⟩
theorem Arr.own (h : Arr w g t cs) {B size n : Nat} (hB : B ≤ g) (hl : cs.length = n * size) (hn : n ≤ 1000000000) : Own w B t size (some ⟨g, 0, none⟩) n n cs :=
  ⟨hl, .inr ⟨g, n, cs.toArray, rfl, hB, h.is, Nat.le_refl _, by unfold maxLen; omega, by simpa using hl, by simp [← hl]⟩⟩
instance Arr.now (x : Later w) [h : Arr w g t cs] : Arr x.now g t cs := h.grow x.grows
instance Arr.alloc (o : Obj) [h : Arr w g t cs] : Arr (w.alloc o) g t cs := h.grow ((Grows.refl w).new o)
instance Arr.drew [h : Arr w g t cs] : Arr w.drew g t cs := h.grow (Grows.refl w).drew
instance Arr.drewN (n : Nat) [h : Arr w g t cs] : Arr (w.drewN n) g t cs := h.grow ((Grows.refl w).drewN n)
instance Arr.m0 {v : Value} {l : List Value} [h : Arr w g t (v :: l)] : Mine w ⟨g, 0, none⟩ v := h.mine 0 rfl
instance Arr.m1 {v0 v : Value} {l : List Value} [h : Arr w g t (v0 :: v :: l)] : Mine w ⟨g, 1, none⟩ v := h.mine 1 rfl
instance Arr.m2 {v0 v1 v : Value} {l : List Value} [h : Arr w g t (v0 :: v1 :: v :: l)] : Mine w ⟨g, 2, none⟩ v := h.mine 2 rfl
instance Arr.m3 {v0 v1 v2 v : Value} {l : List Value} [h : Arr w g t (v0 :: v1 :: v2 :: v :: l)] : Mine w ⟨g, 3, none⟩ v := h.mine 3 rfl
instance Arr.m4 {v0 v1 v2 v3 v : Value} {l : List Value} [h : Arr w g t (v0 :: v1 :: v2 :: v3 :: v :: l)] : Mine w ⟨g, 4, none⟩ v := h.mine 4 rfl
instance Arr.m5 {v0 v1 v2 v3 v4 v : Value} {l : List Value} [h : Arr w g t (v0 :: v1 :: v2 :: v3 :: v4 :: v :: l)] : Mine w ⟨g, 5, none⟩ v := h.mine 5 rfl
end

structure Row1 (w : World) (g : Nat) (e : TypeId) (size n c : Nat) (xs : List Value) : Prop where
  len : xs.length = n * size
  is : ∃ cur, w.heap[g]? = some (.cells cur e (0, 0)) ∧ n ≤ c ∧ c ≤ maxLen ∧ cur.size = c * size ∧ cur.toList.take (n * size) = xs
section
variable {w w' w0 : World} {B g g' n c size : Nat} {e t' : TypeId} {xs cs' : List Value} {S : Nat → Prop}
theorem Row1.own (h : Row1 w g e size n c xs) (hB : B ≤ g) : Own w B e size (some ⟨g, 0, none⟩) n c xs := by
  obtain ⟨cur, h1, h2, h3, h4, h5⟩ := h.is
  exact ⟨h.len, .inr ⟨g, c, cur, rfl, hB, h1, h2, h3, h4, h5⟩⟩
theorem Own.row (h : Own w B e size (some ⟨g, 0, none⟩) n c xs) : Row1 w g e size n c xs ∧ B ≤ g := by
  rcases h.2 with ⟨h1, _⟩ | ⟨g', cap, cur, h1, h2, h3, h4, h5, h6, h7⟩
  · cases h1
  · injection h1 with h1 _ h8
    injection h1 with h1
    injection h1 with h1
    subst h1 h8
    exact ⟨⟨h.1, cur, h3, h4, h5, h6, h7⟩, h2⟩
theorem Row1.lt (h : Row1 w g e size n c xs) : g < w.heap.size := by
  obtain ⟨cur, h1, _⟩ := h.is
  exact (Array.getElem?_eq_some_iff.1 h1).1
theorem Row1.mine (h : Row1 w g e size n c xs) {j : Nat} {u : Value} (hu : xs[j]? = some u) : Mine w ⟨g, j, none⟩ u := by
  obtain ⟨cur, h1, _, _, _, h5⟩ := h.is
  refine ⟨?_, by simp [World.frozen?, h1]⟩
  simp only [World.cell?, h1]
  rw [← h5] at hu
  have : j < n * size := by
    rcases Nat.lt_or_ge j (n * size) with h | h
    · exact h
    · rw [List.getElem?_eq_none (by simp; omega)] at hu; cases hu
  rw [List.getElem?_take, if_pos this] at hu
  simpa using hu
theorem Row1.grow (h : Row1 w g e size n c xs) (k : Grows w w') : Row1 w' g e size n c xs := by
  have hl := h.lt
  obtain ⟨cur, h1, h2⟩ := h.is
  exact ⟨h.len, cur, (k.block g hl).trans h1, h2⟩
theorem Row1.touch (h : Row1 w g e size n c xs) (k : Touch S w w') (hS : ¬ S g) : Row1 w' g e size n c xs := by
  obtain ⟨cur, h1, h2⟩ := h.is
  exact ⟨h.len, cur, k.at hS h1, h2⟩
theorem Row1.other (h : Row1 w g e size n c xs) {p : Addr} (hp : p.block ≠ g) (u : Value) : Row1 (w.setCell p u) g e size n c xs := by
  obtain ⟨cur, h1, h2⟩ := h.is
  exact ⟨h.len, cur, by rw [heap_setCell _ _ _ _ (Ne.symm hp)]; exact h1, h2⟩
theorem Row1.set (h : Row1 w g e size n c xs) (j : Nat) (u : Value) : Row1 (w.setCell ⟨g, j, none⟩ u) g e size n c (xs.set j u) := by
  obtain ⟨cur, h1, h2, h3, h4, h5⟩ := h.is
  refine ⟨by rw [List.length_set]; exact h.len, cur.setIfInBounds j u, by simp [World.setCell, Array.getElem?_modify, h1], h2, h3, by simpa using h4, ?_⟩
  rw [← h5]
  simp [List.take_set]
theorem Row1.ne (h : Row1 w g e size n c xs) (k : Arr w g' t' cs') (ht : e ≠ t') : g ≠ g' := fun e' => by
  subst e'
  obtain ⟨cur, h1, _⟩ := h.is
  have := h1.symm.trans k.is
  injection this with this
  injection this with _ this
  exact ht this
theorem Row1.ne2 {size' n' c' : Nat} (h : Row1 w g e size n c xs) (k : Row1 w g' t' size' n' c' cs') (ht : e ≠ t') : g ≠ g' := fun e' => by
  subst e'
  obtain ⟨cur, h1, _⟩ := h.is
  obtain ⟨cur', h2, _⟩ := k.is
  have := h1.symm.trans h2
  injection this with this
  injection this with _ this
  exact ht this
theorem Row1.rd (h : Row1 w g e size n c xs) : Rd w (some ⟨g, 0, none⟩) size n xs := (h.own (Nat.zero_le _)).rd
theorem Row1.cap (h : Row1 w g e size n c xs) : n ≤ c := by obtain ⟨cur, _, h2, _⟩ := h.is; exact h2
theorem Arr.row (h : Arr w g e xs) (hl : xs.length = n * size) (hn : n ≤ 1000000000) : Row1 w g e size n n xs :=
  ⟨hl, xs.toArray, h.is, Nat.le_refl _, by unfold maxLen; omega, by simpa using hl, by simp [← hl]⟩
theorem Row1.int {k : IntKind} {ys : List Int} (h : Row1 w g e 1 n c (ys.map (.int k))) {j : Nat} (hj : j < n) : Mine w ⟨g, j, none⟩ (.int k (gi ys j)) := by
  have hl := h.len
  simp at hl
  exact h.mine (by simp [gi, show j < ys.length by omega])
end
theorem run_makeInts (n : Nat) (hn : n ≤ 1000000000) (w : World) : (Instr.makeSlice 22 (.int .i64 (n : Int)) (.int .i64 (n : Int))).run Tryz.prog w = .ok (.slice (some ⟨w.heap.size, 0, none⟩) n n) (w.alloc (.cells (List.replicate n (Value.int .i64 0)).toArray 3)) := by
  obtain ⟨i, h1, h2, h3, h4⟩ := elemInt1.info
  have := run_make_row (P := Tryz.prog) 22 3 i (.int .i64 0) Tryz.underlying22 h1 h2 h3 rfl .i64 .i64 n (by have := Nat.mul_le_mul h4 hn; omega) (by omega) w
  have e : madeCells #[Value.int .i64 0] n = (List.replicate n (Value.int .i64 0)).toArray := Array.ext' (by rw [toList_madeCells_one])
  rw [e] at this
  exact this
end Go.Proofs.YtgplpgldhoelcaaGreat

namespace Go.Proofs.YtgplpgldhoelcaaGreat
open Go Go.RowKit
attribute [local go_sem] Oper.semAt_some
theorem lt_hi {V hi lo d B : Nat} (h : V = hi * B + lo) (hl : lo < B) (hd : hi < d) : V / d < B := by
  have h9 : (hi + 1) * B ≤ d * B := Nat.mul_le_mul_right _ hd
  rw [Nat.succ_mul] at h9
  exact Nat.div_lt_of_lt_mul (by omega)
theorem ge_hi {V hi lo d B : Nat} (h : V = hi * B + lo) (h0 : 0 < d) (hd : d ≤ hi) : B ≤ V / d := by
  rw [Nat.le_div_iff_mul_le h0, Nat.mul_comm]
  have h9 : d * B ≤ hi * B := Nat.mul_le_mul_right _ hd
  omega
def cl (V b : Nat) : Nat := V / b + if V % b = 0 then 0 else 1
def upV (w : Nat) (a b : Int) (m : Nat) : Nat := if rrB a b then min (cl (w * a.toNat) b.toNat) m else 0
theorem upRun (x y : Int) (hx : 0 ≤ x) (hy : 0 ≤ y) (w : World) : (callFunc 171 #[.int .u64 x, .int .u64 y, .int .u64 0]).run Tryz.prog w =
    .ok (.value (.tuple #[.int .u64 ((x + y) % 18446744073709551616), .int .u64 ((x + y) / 18446744073709551616)])) w := by
  rw [run_callFunc_extern Tryz.func171 (by kernel_rfl) (by kernel_rfl) (by kernel_rfl) (e := add64Entry) (by kernel_rfl), run_add64 x y 0 hx hy (Int.le_refl 0) (by decide)]
  simp [Result.andThen]
set_option maxHeartbeats 2000000 in
theorem numCapU (a b : Int) (w : World) : Calls Tryz.prog 172 #[.int .u64 a, .int .u64 b] w fun e w' => e = .returned (.int .u64 (min a b)) ∧ Grows w w' := by
  go_enter Tryz.func172, Tryz.ntmps172
  go_wp2
  go_ret
  exact ⟨rfl, Grows.refl _⟩
set_option maxRecDepth 20000 in
set_option maxHeartbeats 4000000 in
theorem ratioUp (x : Nat) (a b : Int) (m : Nat) (hx : x < 18446744073709551616) (hm : m < 18446744073709551616) (w : World) :
    Calls Tryz.prog 116 #[.int .u64 (x : Int), .agg #[.int .u64 a, .int .u64 b], .int .u64 (m : Int)] w fun e w' => e = .returned (.int .u64 (upV x a b m : Int)) ∧ Grows w w' := by
  have C1 := hide (fun (W : World) => ratioRight a b W)
  unfold upV
  cases hr : rrB a b with
  | false =>
    rw [hr] at C1
    clear hr
    rw [if_neg (by simp)]
    go_enter Tryz.func116, Tryz.ntmps116
    go_wp2_with (first | (go_at_call 92; refine (C1.out _).mono ?_; rintro e w' ⟨rfl, hg⟩; (first | obtain ⟨x, rfl⟩ := Grows.later2 hg | obtain ⟨x, rfl⟩ := Grows.later hg); clear hg))
    go_ret
    exact ⟨rfl, GG⟩
  | true =>
    rw [hr] at C1
    rw [if_pos rfl]
    obtain ⟨r1, r2, r3, r4⟩ := rrB_spec hr
    obtain ⟨aN, rfl⟩ : ∃ aN : Nat, a = (aN : Int) := ⟨a.toNat, by omega⟩
    obtain ⟨d, rfl⟩ : ∃ d : Nat, b = (d : Int) := ⟨b.toNat, by omega⟩
    rw [Int.toNat_natCast, Int.toNat_natCast]
    have hVm : x * aN < 18446744073709551616 * 1048577 := by
      refine Nat.lt_of_le_of_lt (Nat.mul_le_mul_left x (show aN ≤ 1048576 by omega)) ?_
      omega
    have C2 := hide (fun (W : World) => show Calls Tryz.prog 169 #[.int .u64 (x : Int), .int .u64 (aN : Int)] W fun e w' => e = .returned (.agg #[.int .u64 ((x * aN / 18446744073709551616 : Nat) : Int), .int .u64 ((x * aN % 18446744073709551616 : Nat) : Int)]) ∧ Grows W w' from by
      have hq := ratioTimes (x : Int) (aN : Int) W ⟨by omega, by omega⟩ ⟨by omega, by omega⟩
      unfold hiP loP at hq
      rw [← Int.natCast_mul] at hq
      exact hq)
    generalize hV : x * aN = V at *
    have hV2 : V = V / 18446744073709551616 * 18446744073709551616 + V % 18446744073709551616 := by omega
    obtain ⟨hi, hhi⟩ : ∃ hi, hi = V / 18446744073709551616 := ⟨_, rfl⟩
    obtain ⟨lo, hlo⟩ : ∃ lo, lo = V % 18446744073709551616 := ⟨_, rfl⟩
    have hlol : lo < 18446744073709551616 := by omega
    rw [← hhi, ← hlo] at C2 hV2
    by_cases hbig : d ≤ hi
    · have hres : min (cl V d) m = m := by
        have h1 : 18446744073709551616 ≤ V / d := ge_hi hV2 (by omega) hbig
        unfold cl
        omega
      rw [hres]
      clear hr r1 r2 r3 r4 hVm hV hV2 hhi hlo hlol hres hx hm
      have hdd : decide ((d : Int) ≤ (hi : Int)) = true := decide_eq_true (by omega)
      generalize (hi : Int) = hiI at *
      generalize (lo : Int) = loI at *
      generalize (d : Int) = dI at *
      generalize (m : Int) = mI at *
      clear hbig
      go_enter Tryz.func116, Tryz.ntmps116
      go_wp2_with (first | (go_at_call 92; refine (C1.out _).mono ?_; rintro e w' ⟨rfl, hg⟩; (first | obtain ⟨x, rfl⟩ := Grows.later2 hg | obtain ⟨x, rfl⟩ := Grows.later hg); clear hg) | (go_at_call 169; refine (C2.out _).mono ?_; rintro e w' ⟨rfl, hg⟩; (first | obtain ⟨x, rfl⟩ := Grows.later2 hg | obtain ⟨x, rfl⟩ := Grows.later hg); clear hg))
      go_ret
      exact ⟨rfl, GG⟩
    · have C3 := hide (fun (W : World) => show Calls Tryz.prog 170 #[.int .u64 (hi : Int), .int .u64 (lo : Int), .int .u64 (d : Int)] W fun e w' => e = .returned (.tuple #[.int .u64 ((V / d : Nat) : Int), .int .u64 ((V % d : Nat) : Int)]) ∧ Grows W w' from by
        have hq := bDiv64 hi lo d (by omega) (by omega) (by omega) hlol W
        rw [← hV2] at hq
        exact hq)
      have C4 := hide (fun (u v : Int) (W : World) => numCapU u v W)
      have hVd : V / d < 18446744073709551616 := lt_hi hV2 hlol (by omega)
      have hdd : decide ((d : Int) ≤ (hi : Int)) = false := decide_eq_false (by omega)
      unfold cl
      by_cases hz : V % d = 0
      · rw [if_pos hz, Nat.add_zero]
        rw [hz] at C3
        obtain ⟨q, hq⟩ : ∃ q, q = V / d := ⟨_, rfl⟩
        rw [← hq] at C3 ⊢
        rw [show ((min q m : Nat) : Int) = min (q : Int) (m : Int) by omega]
        clear hr r1 r2 r3 r4 hVm hV hV2 hhi hlo hlol hx hm hbig hVd hz hq
        generalize (hi : Int) = hiI at *
        generalize (lo : Int) = loI at *
        generalize (d : Int) = dI at *
        generalize (m : Int) = mI at *
        generalize (q : Int) = qI at *
        go_enter Tryz.func116, Tryz.ntmps116
        go_wp2_with (first | (go_at_call 92; refine (C1.out _).mono ?_; rintro e w' ⟨rfl, hg⟩; (first | obtain ⟨x, rfl⟩ := Grows.later2 hg | obtain ⟨x, rfl⟩ := Grows.later hg); clear hg) | (go_at_call 169; refine (C2.out _).mono ?_; rintro e w' ⟨rfl, hg⟩; (first | obtain ⟨x, rfl⟩ := Grows.later2 hg | obtain ⟨x, rfl⟩ := Grows.later hg); clear hg) | (go_at_call 170; refine (C3.out _).mono ?_; rintro e w' ⟨rfl, hg⟩; (first | obtain ⟨x, rfl⟩ := Grows.later2 hg | obtain ⟨x, rfl⟩ := Grows.later hg); clear hg) | (go_at_call 172; refine (C4.out _ _ _).mono ?_; rintro e w' ⟨rfl, hg⟩; (first | obtain ⟨x, rfl⟩ := Grows.later2 hg | obtain ⟨x, rfl⟩ := Grows.later hg); clear hg))
        go_ret
        exact ⟨rfl, GG⟩
      · rw [if_neg hz]
        obtain ⟨rest, hrest⟩ : ∃ rest, rest = V % d := ⟨_, rfl⟩
        obtain ⟨q, hq⟩ : ∃ q, q = V / d := ⟨_, rfl⟩
        rw [← hrest, ← hq] at C3
        rw [← hq]
        rw [← hrest] at hz
        rw [← hq] at hVd
        have hr0 : decide ((0 : Int) < (rest : Int)) = true := decide_eq_true (by omega)
        have C5 := upRun (q : Int) 1 (by omega) (by omega)
        by_cases hov : q + 1 = 18446744073709551616
        · rw [show ((min (q + 1) m : Nat) : Int) = (m : Int) by omega]
          have C6 : ∀ W : World, (callFunc 171 #[.int .u64 (q : Int), .int .u64 1, .int .u64 0]).run Tryz.prog W = .ok (.value (.tuple #[.int .u64 0, .int .u64 1])) W := fun W => by
            have := C5 W
            rw [show ((q : Int) + 1) % 18446744073709551616 = 0 by omega, show ((q : Int) + 1) / 18446744073709551616 = 1 by omega] at this
            exact this
          clear hr r1 r2 r3 r4 hVm hV hV2 hhi hlo hlol hx hm hbig hVd hz hq hrest hov C5
          generalize (hi : Int) = hiI at *
          generalize (lo : Int) = loI at *
          generalize (d : Int) = dI at *
          generalize (m : Int) = mI at *
          generalize (q : Int) = qI at *
          generalize (rest : Int) = restI at *
          go_enter Tryz.func116, Tryz.ntmps116
          go_wp2_with (first | (go_at_call 92; refine (C1.out _).mono ?_; rintro e w' ⟨rfl, hg⟩; (first | obtain ⟨x, rfl⟩ := Grows.later2 hg | obtain ⟨x, rfl⟩ := Grows.later hg); clear hg) | (go_at_call 169; refine (C2.out _).mono ?_; rintro e w' ⟨rfl, hg⟩; (first | obtain ⟨x, rfl⟩ := Grows.later2 hg | obtain ⟨x, rfl⟩ := Grows.later hg); clear hg) | (go_at_call 170; refine (C3.out _).mono ?_; rintro e w' ⟨rfl, hg⟩; (first | obtain ⟨x, rfl⟩ := Grows.later2 hg | obtain ⟨x, rfl⟩ := Grows.later hg); clear hg))
          go_ret
          exact ⟨rfl, GG⟩
        · rw [show ((min (q + 1) m : Nat) : Int) = min ((q : Int) + 1) (m : Int) by omega]
          have C6 : ∀ W : World, (callFunc 171 #[.int .u64 (q : Int), .int .u64 1, .int .u64 0]).run Tryz.prog W = .ok (.value (.tuple #[.int .u64 ((q : Int) + 1), .int .u64 0])) W := fun W => by
            have := C5 W
            rw [show ((q : Int) + 1) % 18446744073709551616 = (q : Int) + 1 by omega, show ((q : Int) + 1) / 18446744073709551616 = 0 by omega] at this
            exact this
          clear hr r1 r2 r3 r4 hVm hV hV2 hhi hlo hlol hx hm hbig hVd hz hq hrest hov C5
          generalize (hi : Int) = hiI at *
          generalize (lo : Int) = loI at *
          generalize (d : Int) = dI at *
          generalize (m : Int) = mI at *
          generalize (q : Int) + 1 = qI at *
          generalize (q : Int) = pI at *
          generalize (rest : Int) = restI at *
          go_enter Tryz.func116, Tryz.ntmps116
          go_wp2_with (first | (go_at_call 92; refine (C1.out _).mono ?_; rintro e w' ⟨rfl, hg⟩; (first | obtain ⟨x, rfl⟩ := Grows.later2 hg | obtain ⟨x, rfl⟩ := Grows.later hg); clear hg) | (go_at_call 169; refine (C2.out _).mono ?_; rintro e w' ⟨rfl, hg⟩; (first | obtain ⟨x, rfl⟩ := Grows.later2 hg | obtain ⟨x, rfl⟩ := Grows.later hg); clear hg) | (go_at_call 170; refine (C3.out _).mono ?_; rintro e w' ⟨rfl, hg⟩; (first | obtain ⟨x, rfl⟩ := Grows.later2 hg | obtain ⟨x, rfl⟩ := Grows.later hg); clear hg) | (go_at_call 172; refine (C4.out _ _ _).mono ?_; rintro e w' ⟨rfl, hg⟩; (first | obtain ⟨x, rfl⟩ := Grows.later2 hg | obtain ⟨x, rfl⟩ := Grows.later hg); clear hg))
          go_ret
          exact ⟨rfl, GG⟩
end Go.Proofs.YtgplpgldhoelcaaGreat

