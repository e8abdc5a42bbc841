/- Contracts: which graphs may be, by the program and by its answer. -/
import Derived.Test.YtgplpgldhoelcaaGreatRows
import Derived.ProofKit
import Derived.OpenShut
import Derived.ShutString
import Derived.ChangeOld
import Derived.Lib.SmallJoins
import Derived.Deep.Slices
import Derived.Maps.Own
import Derived.Maps.OwnOps
import Derived.Maps.OwnSet
import Derived.Maps.Views
import Derived.OwnWalk
import Derived.Lib.AppendZeros
import Derived.Deep.OwnRows
import Derived.StillTail
import Derived.Test.YtgplpgldhoelcaaGreatQYenWays00
namespace Go.Proofs.YtgplpgldhoelcaaGreat
open Go Go.RowKit

structure Edg where
  f : Int
  t : Int
  w : Int
deriving DecidableEq
def eCells (e : Edg) : List Value := [.int .i64 e.f, .int .i64 e.t, .int .u64 e.w]
def eVal (e : Edg) : Value := .agg #[.int .i64 e.f, .int .i64 e.t, .int .u64 e.w]
def esCells (E : List Edg) : List Value := E.flatMap eCells
def ge (E : List Edg) (k : Nat) : Edg := E.getD k ⟨0, 0, 0⟩

theorem esCells_length (E : List Edg) : (esCells E).length = E.length * 3 := by
  induction E with
  | nil => rfl
  | cons e E ih => simp [esCells, eCells] at *; omega
theorem esCells_at (E : List Edg) (k j : Nat) (hk : k < E.length) (hj : j < 3) : (esCells E)[k * 3 + j]? = (eCells (ge E k))[j]? := by
  induction E generalizing k with
  | nil => simp at hk
  | cons e E ih =>
    have h1 : esCells (e :: E) = eCells e ++ esCells E := rfl
    rw [h1]
    cases k with
    | zero => rw [List.getElem?_append_left (by simp [eCells]; omega)]; simp [ge]
    | succ k =>
      rw [List.getElem?_append_right (by simp [eCells]; omega)]
      have := ih k (by simpa using hk)
      rw [show (k + 1) * 3 + j - (eCells e).length = k * 3 + j by simp [eCells]; omega, this]
      simp [ge]

theorem Rd.edges {w : World} {A : Option Addr} {n : Nat} {E : List Edg} (h : Rd w A 3 n (esCells E)) (hn : 0 < n) :
    ∃ b off, A = some ⟨b, off, none⟩ ∧ ∀ k, k < n → w.cell? ⟨b, off + k * 3, none⟩ = some (.int .i64 (ge E k).f) ∧ w.cell? ⟨b, off + k * 3 + 1, none⟩ = some (.int .i64 (ge E k).t) ∧ w.cell? ⟨b, off + k * 3 + 2, none⟩ = some (.int .u64 (ge E k).w) := by
  have hl := h.1
  rw [esCells_length] at hl
  obtain ⟨b, off, e, hc⟩ := h.2 hn (by omega)
  refine ⟨b, off, e, fun k hk => ⟨?_, ?_, ?_⟩⟩
  · exact hc (k * 3 + 0) _ (by rw [esCells_at E k 0 (by omega) (by omega)]; rfl)
  · have := hc (k * 3 + 1) _ (by rw [esCells_at E k 1 (by omega) (by omega)]; rfl)
    rwa [← Nat.add_assoc] at this
  · have := hc (k * 3 + 2) _ (by rw [esCells_at E k 2 (by omega) (by omega)]; rfl)
    rwa [← Nat.add_assoc] at this
theorem Rd.elen {w : World} {A : Option Addr} {n : Nat} {E : List Edg} (h : Rd w A 3 n (esCells E)) : E.length = n := by
  have hl := h.1
  rw [esCells_length] at hl
  omega

def nodeB (N v : Int) : Bool := decide (0 ≤ v ∧ v < N)
def wtB (w : Int) : Bool := decide (1 ≤ w ∧ w ≤ 4294967296)
def looseB (N : Int) (e : Edg) : Bool := !nodeB N e.f || (!nodeB N e.t || decide (e.f = e.t))
def heavyB (e : Edg) : Bool := !wtB e.w
def rightF (N : Int) (E : List Edg) : Int := if N < 1 ∨ 4096 < N then 2 else if 16384 < E.length then 5 else if E.any (looseB N) then 7 else if E.any heavyB then 2 else 0

set_option maxHeartbeats 400000 in
theorem gNode (N v : Int) (s : Value) (w : World) : Calls Tryz.prog 77 #[.agg #[.int .i64 N, s], .int .i64 v] w fun e w' => e = .returned (.bool (nodeB N v)) ∧ Grows w w' := by
  go_enter Tryz.func77, Tryz.ntmps77
  go_wp2
  all_goals go_ret
  all_goals exact ⟨ret_bool (bool_ext (by unfold nodeB; simp; try omega)), GG⟩

set_option maxHeartbeats 400000 in
theorem gWeight (x : Int) (w : World) : Calls Tryz.prog 132 #[.int .u64 x] w fun e w' => e = .returned (.bool (wtB x)) ∧ w = w' := by
  go_enter Tryz.func132, Tryz.ntmps132
  go_wp2
  all_goals go_ret
  all_goals exact ⟨ret_bool (bool_ext (by unfold wtB; simp; try omega)), rfl⟩

set_option maxHeartbeats 400000 in
theorem gRight2 (x : Edg) (w : World) : Calls Tryz.prog 131 #[eVal x] w fun e w' => e = .returned (.bool (heavyB x)) ∧ Grows w w' := by
  unfold eVal
  go_enter Tryz.func131, Tryz.ntmps131
  go_wp2_with (first | (go_at_call 132; refine (gWeight _ _).mono ?_; rintro e w' ⟨rfl, rfl⟩))
  all_goals go_ret
  all_goals exact ⟨ret_bool (by unfold heavyB; rfl), GG⟩

set_option maxHeartbeats 1000000 in
theorem gRight1 (x : Edg) (N : Int) (s : Value) (g : Nat) (w : World) (c0 : w.cell? ⟨g, 0, none⟩ = some (.int .i64 N)) (c1 : w.cell? ⟨g, 1, none⟩ = some s) :
    Calls Tryz.prog 130 #[eVal x, .pointer (some ⟨g, 0, none⟩)] w fun e w' => e = .returned (.bool (looseB N x)) ∧ Grows w w' := by
  unfold eVal
  have C1 := fun W => gNode N x.f s W
  have C2 := fun W => gNode N x.t s W
  cases h1 : nodeB N x.f with
  | false =>
    have HW : Hid (looseB N x = true) := by unfold looseB; rw [h1]; rfl
    rw [h1] at C1
    have H1 := hide C1
    clear C1 C2 h1
    go_enter Tryz.func130, Tryz.ntmps130
    go_wp2_with (first | (go_at_call 77; refine (H1.out _).mono ?_; rintro e w' ⟨rfl, hg⟩; (first | obtain ⟨x, rfl⟩ := Grows.later2 hg | obtain ⟨x, rfl⟩ := Grows.later hg); clear hg))
    go_ret
    exact ⟨ret_bool HW.out.symm, GG⟩
  | true =>
  cases h2 : nodeB N x.t with
  | false =>
    have HW : Hid (looseB N x = true) := by unfold looseB; rw [h1, h2]; rfl
    rw [h1] at C1
    rw [h2] at C2
    have H1 := hide C1
    have H2 := hide C2
    clear C1 C2 h1 h2
    go_enter Tryz.func130, Tryz.ntmps130
    go_wp2_with fail
    refine (H1.out _).mono ?_; rintro e w' ⟨rfl, hg⟩; obtain ⟨x1, rfl⟩ := Grows.later hg; clear hg
    go_wp2_with fail
    refine (H2.out _).mono ?_; rintro e w' ⟨rfl, hg⟩; obtain ⟨x2, rfl⟩ := Grows.later2 hg; clear hg
    go_wp2
    go_ret
    exact ⟨ret_bool HW.out.symm, GG⟩
  | true =>
    have HW : Hid (looseB N x = decide (x.f = x.t)) := by unfold looseB; rw [h1, h2]; rfl
    rw [h1] at C1
    rw [h2] at C2
    have H1 := hide C1
    have H2 := hide C2
    clear C1 C2 h1 h2
    go_enter Tryz.func130, Tryz.ntmps130
    go_wp2_with fail
    refine (H1.out _).mono ?_; rintro e w' ⟨rfl, hg⟩; obtain ⟨x1, rfl⟩ := Grows.later hg; clear hg
    go_wp2_with fail
    refine (H2.out _).mono ?_; rintro e w' ⟨rfl, hg⟩; obtain ⟨x2, rfl⟩ := Grows.later2 hg; clear hg
    go_wp2
    go_ret
    exact ⟨ret_bool (by rw [HW.out]; first | rfl | (apply bool_ext; simp)), GG⟩

def firstI {α : Type} (p : α → Bool) : List α → Int
  | [] => -1
  | x :: l => if p x then 0 else (if firstI p l = -1 then -1 else firstI p l + 1)
theorem firstI_cons {α : Type} (p : α → Bool) (x : α) (l : List α) : firstI p (x :: l) = if p x then 0 else (if firstI p l = -1 then -1 else firstI p l + 1) := rfl
theorem firstI_nonneg {α : Type} (p : α → Bool) (l : List α) : -1 ≤ firstI p l := by
  induction l with
  | nil => simp [firstI]
  | cons x l ih => rw [firstI_cons]; split <;> (try split) <;> omega
theorem firstI_any {α : Type} (p : α → Bool) (l : List α) : decide (0 ≤ firstI p l) = l.any p := by
  induction l with
  | nil => simp [firstI]
  | cons x l ih =>
    have := firstI_nonneg p l
    rw [List.any_cons, ← ih, firstI_cons]
    cases h : p x
    · simp only [Bool.false_eq_true, if_false, Bool.false_or]
      split
      · rename_i h'; rw [h']
      · rw [decide_eq_true (by omega), decide_eq_true (by omega)]
    · simp
theorem firstI_none {α : Type} (p : α → Bool) (l : List α) (h : ∀ x ∈ l, p x = false) : firstI p l = -1 := by
  induction l with
  | nil => rfl
  | cons x l ih => rw [firstI_cons, h x (by simp), ih (fun y hy => h y (by simp [hy]))]; rfl
theorem firstI_at {α : Type} (p : α → Bool) (d : α) (l : List α) (k : Nat) (hk : k < l.length) (h : ∀ j, j < k → p (l.getD j d) = false) (h' : p (l.getD k d) = true) : firstI p l = k := by
  induction l generalizing k with
  | nil => simp at hk
  | cons x l ih =>
    rw [firstI_cons]
    cases k with
    | zero => have : p x = true := by simpa using h'
              rw [this]; rfl
    | succ k =>
      have h0 : p x = false := by simpa using h 0 (by omega)
      have := ih k (by simpa using hk) (fun j hj => by simpa using h (j + 1) (by omega)) (by simpa using h')
      rw [h0, this]
      simp only [Bool.false_eq_true, if_false]
      split <;> omega

set_option maxRecDepth 20000 in
set_option maxHeartbeats 1000000 in
theorem indexE (A : Option Addr) (n c : Nat) (E : List Edg) (k : FuncId) (cap : Array Value) (p : Edg → Bool) (w : World) (h : Rd w A 3 n (esCells E)) (hn : n ≤ 1000000) (hk : ∀ args W, (callFunc k args).run Tryz.prog W = .ok (.enter k args) W)
    (hf : ∀ W, Grows w W → ∀ e, Calls Tryz.prog k (#[eVal e] ++ cap) W fun x w' => x = .returned (.bool (p e)) ∧ Grows W w') :
    Calls Tryz.prog 179 #[.slice A n c, .func (.func k) #[] cap] w fun e w' => e = .returned (.int .i64 (firstI p E)) ∧ Grows w w' := by
  have HL := hide h.elen
  have HR := hide h
  have HF := hide hf
  clear h hf
  unfold eVal at HF
  go_enter Tryz.func179, Tryz.ntmps179
  go_wp2
  go_loopw [8] (fun i wr => ∃ k : Nat, k ≤ n ∧ i = .int .i64 (k : Int) ∧ (∃ x : Later w, wr = x.now) ∧ ∀ j, j < k → p (ge E j) = false) (fun i _ => n - (intOf i).toNat)
  case atStart => exact ⟨0, by omega, by go_num, ⟨⟨w, Grows.refl w⟩, rfl⟩, fun j h1 => by omega⟩
  case round =>
    obtain ⟨q, hq, rfl, ⟨x, rfl⟩, hall⟩ := hrel
    have HA := hide hall
    clear hall
    by_cases hend : n ≤ q
    · go_wp2
      go_ret
      refine ⟨ret_int ?_, GG⟩
      have hl := HL.out
      have hh := HA.out
      rw [firstI_none]
      intro e he
      obtain ⟨j, hj, rfl⟩ := List.mem_iff_getElem.1 he
      have := hh j (by omega)
      simpa [ge, hj] using this
    · obtain ⟨b, off, rfl, hc⟩ := HR.out.edges (by omega)
      obtain ⟨hc1, hc2, hc3⟩ := hc q (by omega)
      clear hc
      go_wp2_with fail
      refine (HF.out _ GG (ge E q)).mono ?_; rintro e w' ⟨rfl, hg⟩; obtain ⟨x1, rfl⟩ := Grows.later2 hg; clear hg
      cases hp : p (ge E q) with
      | true =>
        have HW : Hid (firstI p E = q) := firstI_at p ⟨0, 0, 0⟩ E q (by have := HL.out; omega) HA.out hp
        clear hp
        go_wp2
        go_ret
        exact ⟨ret_int HW.out.symm, GG⟩
      | false =>
        have HP := hide hp
        clear hp
        go_wp2
        go_roundw
        case measure => simp [intOf]; omega
        case rel =>
          refine ⟨q + 1, by omega, by go_num, ⟨_, rfl⟩, fun j h1 => ?_⟩
          by_cases hj : j = q
          · rw [hj]; exact HP.out
          · exact HA.out j (by omega)

set_option maxHeartbeats 1000000 in
theorem containsE (A : Option Addr) (n c : Nat) (E : List Edg) (k : FuncId) (cap : Array Value) (p : Edg → Bool) (w : World) (h : Rd w A 3 n (esCells E)) (hn : n ≤ 1000000) (hk : ∀ args W, (callFunc k args).run Tryz.prog W = .ok (.enter k args) W)
    (hf : ∀ W, Grows w W → ∀ e, Calls Tryz.prog k (#[eVal e] ++ cap) W fun x w' => x = .returned (.bool (p e)) ∧ Grows W w') :
    Calls Tryz.prog 133 #[.slice A n c, .func (.func k) #[] cap] w fun e w' => e = .returned (.bool (E.any p)) ∧ Grows w w' := by
  have HC := hide (indexE A n c E k cap p w h hn hk hf)
  have HV := hide (firstI_any p E)
  clear h hf hk
  go_enter Tryz.func133, Tryz.ntmps133
  go_wp2_with (first | (go_at_call 179; refine (HC.out).mono ?_; rintro e w' ⟨rfl, hg⟩; (first | obtain ⟨x, rfl⟩ := Grows.later2 hg | obtain ⟨x, rfl⟩ := Grows.later hg); clear hg))
  all_goals go_ret
  all_goals exact ⟨ret_bool (by rw [← HV.out]), GG⟩

set_option maxHeartbeats 2000000 in
theorem gRight (N : Int) (A : Option Addr) (n c : Nat) (E : List Edg) (w : World) (h : Rd w A 3 n (esCells E)) (hn : n ≤ 1000000) :
    Calls Tryz.prog 76 #[.agg #[.int .i64 N, .slice A n c]] w fun e w' => e = .returned (.int .i64 (rightF N E)) ∧ Grows w w' := by
  have HL := hide h.elen
  have HR := hide h
  clear h
  have K1 := fun args W => run_callGo (P := Tryz.prog) Tryz.func130 (by kernel_rfl) (by kernel_rfl) args W
  have K2 := fun args W => run_callGo (P := Tryz.prog) Tryz.func131 (by kernel_rfl) (by kernel_rfl) args W
  have HK1 := hide K1
  have HK2 := hide K2
  clear K1 K2
  by_cases h1 : N < 1 ∨ 4096 < N
  · have HW : Hid (rightF N E = 2) := by unfold rightF; rw [if_pos h1]; rfl
    go_enter Tryz.func76, Tryz.ntmps76
    go_wp2
    all_goals go_ret
    all_goals exact ⟨ret_int HW.out.symm, GG⟩
  by_cases h2 : 16384 < n
  · have HW : Hid (rightF N E = 5) := by unfold rightF; rw [if_neg h1, if_pos (by have := HL.out; omega)]; rfl
    have h3 : 1 ≤ N := by omega
    have h4 : N ≤ 4096 := by omega
    clear h1
    go_enter Tryz.func76, Tryz.ntmps76
    go_wp2
    all_goals go_ret
    all_goals exact ⟨ret_int HW.out.symm, GG⟩
  have h3 : 1 ≤ N := by omega
  have h4 : N ≤ 4096 := by omega
  have C1 := fun (W : World) (g : Grows w W) c0 c1 => containsE A n c E 130 #[.pointer (some ⟨w.heap.size, 0, none⟩)] (looseB N) W (HR.out.grows g) hn HK1.out (fun W' g' e => gRight1 e N (.slice A n c) w.heap.size W' (g'.keeps c0) (g'.keeps c1))
  have C2 := fun (W : World) (g : Grows w W) => containsE A n c E 131 #[] heavyB W (HR.out.grows g) hn HK2.out (fun W' _ e => gRight2 e W')
  cases hl : E.any (looseB N) with
  | true =>
    have HW : Hid (rightF N E = 7) := by unfold rightF; rw [if_neg h1, if_neg (by have := HL.out; omega), hl]; rfl
    rw [hl] at C1
    have H1 := hide C1
    clear C1 C2 hl h1
    go_enter Tryz.func76, Tryz.ntmps76
    go_wp2_with (first | (go_at_call 133; refine (H1.out _ GG (by simp [go_sem]) (by simp [go_sem])).mono ?_; rintro e w' ⟨rfl, hg⟩; (first | obtain ⟨x, rfl⟩ := Grows.later2 hg | obtain ⟨x, rfl⟩ := Grows.later hg); clear hg))
    go_ret
    exact ⟨ret_int HW.out.symm, GG⟩
  | false =>
    rw [hl] at C1
    have H1 := hide C1
    clear C1
    cases hh : E.any heavyB with
    | true =>
      have HW : Hid (rightF N E = 2) := by unfold rightF; rw [if_neg h1, if_neg (by have := HL.out; omega), hl, hh]; rfl
      rw [hh] at C2
      have H2 := hide C2
      clear C2 hl h1 hh
      go_enter Tryz.func76, Tryz.ntmps76
      go_wp2_with fail
      refine (H1.out _ GG (by simp [go_sem]) (by simp [go_sem])).mono ?_; rintro e w' ⟨rfl, hg⟩; obtain ⟨x1, rfl⟩ := Grows.later hg; clear hg
      go_wp2_with fail
      refine (H2.out _ GG).mono ?_; rintro e w' ⟨rfl, hg⟩; obtain ⟨x2, rfl⟩ := Grows.later2 hg; clear hg
      go_wp2
      go_ret
      exact ⟨ret_int HW.out.symm, GG⟩
    | false =>
      have HW : Hid (rightF N E = 0) := by unfold rightF; rw [if_neg h1, if_neg (by have := HL.out; omega), hl, hh]; rfl
      rw [hh] at C2
      have H2 := hide C2
      clear C2 hl h1 hh
      go_enter Tryz.func76, Tryz.ntmps76
      go_wp2_with fail
      refine (H1.out _ GG (by simp [go_sem]) (by simp [go_sem])).mono ?_; rintro e w' ⟨rfl, hg⟩; obtain ⟨x1, rfl⟩ := Grows.later hg; clear hg
      go_wp2_with fail
      refine (H2.out _ GG).mono ?_; rintro e w' ⟨rfl, hg⟩; obtain ⟨x2, rfl⟩ := Grows.later2 hg; clear hg
      go_wp2
      go_ret
      exact ⟨ret_int HW.out.symm, GG⟩

end Go.Proofs.YtgplpgldhoelcaaGreat

namespace Go.Proofs.YtgplpgldhoelcaaGreat
open Go Go.ChangeShapes Go.WideShapes Go.ChangeAt Go.RowKit

def I64 (n : Int) : Prop := -9223372036854775808 ≤ n ∧ n < 9223372036854775808

theorem wf_i64 {n : Int} (h : (Lit.int .i64 n).wf = true) : I64 n := by
  have := bounds_i64 h
  unfold I64
  omega
theorem wf_u64 {n : Int} (h : (Lit.int .u64 n).wf = true) : U64 n := by
  have := bounds_u64 h
  unfold U64
  omega

section
variable {H : Type} {enc : TypeId × Value → H} {P : Program} {w : World} {base b0 : Nat} {spare : Nat → Bool} {held : Bool} {r : Reach} {t : TypeId} {v : Value} {d : DataW H} {p : List MemPlace}

theorem open_i64 (ht : P.underlying t = some (.int .i64)) (hv : Value.okWide P w r b0 t v) (h : DataW.Trod enc P w base spare held t v d p) : ∃ x, v = .int .i64 x ∧ I64 x := by
  obtain ⟨x, rfl, rfl, rfl, wx⟩ := open_int ht hv h
  exact ⟨x, rfl, wf_i64 wx⟩
theorem spot_none {w : World} {a : Addr} {u : Value} (h : w.cell? a = some u) : a.spot = none := World.cell?_spot h

end

end Go.Proofs.YtgplpgldhoelcaaGreat

namespace Go.Proofs.YtgplpgldhoelcaaGreat
open Go Go.RowKit Go.Maps

def MapII (w : World) (b n s : Nat) (f : Int → Option Int) : Prop :=
  ∃ D : DataW Unit, w.ownsMap Tryz.prog 3 (plainElem Tryz.prog 3) b n D ∧ Maps.size D = s ∧ (∀ k, Maps.has D (.int .i64 k) = (f k).isSome) ∧
    ∀ k, D.atKey (.int .i64 k) (.lit (.int .i64 0)) = .lit (.int .i64 ((f k).getD 0))

theorem MapII.made (w : World) : MapII (w.alloc (.map #[] 0)) w.heap.size 0 0 (fun _ => none) :=
  ⟨.map [], World.ownsMap_made _ _ _ _, rfl, fun _ => rfl, fun _ => rfl⟩

theorem Grows.row {w0 w w' : World} {b : Nat} (h : Grows w0 w) (hb : w0.heap.size ≤ b) (hg : w.grownBy w' (some b)) : Grows w0 w' :=
  ⟨hg.os.trans h.os, hg.tape.trans h.tape, hg.output.trans h.output, Nat.le_trans h.size hg.size, fun i hi => (hg.block i (Nat.lt_of_lt_of_le hi h.size) (by simp; omega)).trans (h.block i hi)⟩

theorem MapII.grows {w w' : World} {b n s : Nat} {f : Int → Option Int} (h : MapII w b n s f) (hg : Grows w w') : MapII w' b n s f := by
  obtain ⟨D, h1, h2⟩ := h
  exact ⟨D, h1.kept (row := none) ⟨hg.os, hg.tape, hg.output, hg.size, fun i hi _ => hg.block i hi⟩ (by simp), h2⟩

section
variable {w : World} {ops : Array Oper} {rest : List Oper} {o : Oper} {a : Act} {Q : Exit → Act → World → Prop}

end

end Go.Proofs.YtgplpgldhoelcaaGreat

namespace Go.Proofs.YtgplpgldhoelcaaGreat
open Go Go.RowKit
theorem elemInt : Elem 22 3 1 := by
  have h : (Tryz.prog.info? 3).map (fun i => (i.zero, i.size, i.bytes)) = some (some (.int .i64 0), 1, 8) := by kernel_rfl
  obtain ⟨i, hi, hz, hs, hb⟩ := info_parts h
  exact ⟨Tryz.underlying22, ⟨i, _, 8, hi, hz, hs, hb, rfl, by omega⟩, by omega⟩
theorem Rd.intsH {w : World} {A : Option Addr} {n : Nat} {k : IntKind} {xs : List Int} (h : Rd w A 1 n (xs.map (.int k))) (hn : 0 < n) :
    ∃ b off, A = some ⟨b, off, none⟩ ∧ ∀ j, j < n → Holds w ⟨b, off + j, none⟩ (.int k (gi xs j)) := by
  obtain ⟨b, off, e, hc⟩ := h.ints hn
  exact ⟨b, off, e, fun j hj => ⟨hc j hj⟩⟩
theorem Rd.edgesH {w : World} {A : Option Addr} {n : Nat} {E : List Edg} (h : Rd w A 3 n (esCells E)) (hn : 0 < n) :
    ∃ b off, A = some ⟨b, off, none⟩ ∧ ∀ k, k < n → Holds w ⟨b, off + k * 3, none⟩ (.int .i64 (ge E k).f) ∧ Holds w ⟨b, off + k * 3 + 1, none⟩ (.int .i64 (ge E k).t) ∧ Holds w ⟨b, off + k * 3 + 2, none⟩ (.int .u64 (ge E k).w) := by
  obtain ⟨b, off, e, hc⟩ := h.edges hn
  exact ⟨b, off, e, fun j hj => ⟨⟨(hc j hj).1⟩, ⟨(hc j hj).2.1⟩, ⟨(hc j hj).2.2⟩⟩⟩
theorem Own.build (w : World) (e : TypeId) (l : List Value) (B : Nat) (hB : B ≤ w.heap.size) (hl : l.length ≤ 1000000) : Own (w.alloc (.cells l.toArray e)) B e 1 (some ⟨w.heap.size, 0, none⟩) l.length l.length l :=
  ⟨by omega, .inr ⟨w.heap.size, l.length, l.toArray, rfl, hB, (by show (w.heap.push _)[w.heap.size]? = _; simp), Nat.le_refl _, by unfold maxLen; omega, by simp, by simp⟩⟩
theorem Own.at {w : World} {B n c : Nat} {e : TypeId} {A : Option Addr} {xs : List Value} (h : Own w B e 1 A n c xs) (hn : 0 < n) : ∃ g, A = some ⟨g, 0, none⟩ ∧ B ≤ g ∧ ∀ j u, xs[j]? = some u → Mine w ⟨g, j, none⟩ u := by
  obtain ⟨g, cur, rfl, hB, _⟩ := h.at_ hn
  exact ⟨g, rfl, hB, fun j u hu => ⟨h.cell rfl hu, h.frozen rfl hn j⟩⟩
section
variable {P : Program} {w : World} {e : TypeId} {ops : Array Oper} {rest : List Oper} {o : Oper} {a : Act} {Q : Exit → Act → World → Prop}
theorem wp_app1 {t : TypeId} (E : Elem t e 1) (hgd : o.guard = none) (s x : Operand) (ho : o.op = .call { callee := .builtin .append, args := #[s, x], argTypes := #[t, t] })
    (w0 : World) (hw0 : Grows w0 w) (n c : Nat) (A : Option Addr) (xs : List Value) (hs : a.eval s = .slice A n c) (hown : Own w w0.heap.size e 1 A n c xs) (g c' : Nat) (v : Value) (hx : a.eval x = .slice (some ⟨g, 0, none⟩) 1 c')
    (hv : Holds w ⟨g, 0, none⟩ v) (h1 : v.oneCell' = true) (hnm : n + 1 ≤ 1000000000000)
    (h : ∀ A' c'' (y : Later w0), Own y.now w0.heap.size e 1 A' (n + 1) c'' (xs ++ [v]) → wpList Tryz.prog ops Q rest (a.put o.dst (.slice A' (n + 1) c'')) y.now) :
    wpList Tryz.prog ops Q (o :: rest) a w := by
  refine wp_app E hgd s x ho w0.heap.size n c A xs hs hown g 1 c' [v] hx rfl ?_ (by intro u hu; simp at hu; rw [hu]; exact h1) hnm hw0.size ?_
  · intro j u hu
    have hj : j = 0 := by
      have := (List.getElem?_eq_some_iff.1 hu).1
      simpa using this
    subst hj
    simp at hu
    subst hu
    exact hv.cell
  · intro A' c'' w' ho hg
    obtain ⟨y, rfl⟩ := (hg w0 hw0 (Nat.le_refl _)).later
    exact h A' c'' y ho
end
end Go.Proofs.YtgplpgldhoelcaaGreat

namespace Go.Proofs.YtgplpgldhoelcaaGreat
open Go Go.RowKit
structure Elem1 (t e : TypeId) (z : Value) : Prop where
  under : Tryz.prog.underlying t = some (.slice e)
  info : ∃ i, Tryz.prog.info? e = some i ∧ i.zero = some z ∧ i.size = 1 ∧ i.bytes ≤ 64
  one : z.cells = #[z]
theorem Elem1.elem {t e : TypeId} {z : Value} (h : Elem1 t e z) : Elem t e 1 := by
  obtain ⟨i, h1, h2, h3, h4⟩ := h.info
  exact ⟨h.under, ⟨i, z, i.bytes, h1, h2, h3, rfl, by rw [h.one]; rfl, h4⟩, by omega⟩
theorem elemInt1 : Elem1 22 3 (.int .i64 0) := by
  have h : (Tryz.prog.info? 3).map (fun i => (i.zero, i.size, i.bytes)) = some (some (.int .i64 0), 1, 8) := by kernel_rfl
  obtain ⟨i, hi, hz, hs, hb⟩ := info_parts h
  exact ⟨Tryz.underlying22, ⟨i, hi, hz, hs, by omega⟩, rfl⟩
theorem elemU64 : Elem1 82 41 (.int .u64 0) := by
  have h : (Tryz.prog.info? 41).map (fun i => (i.zero, i.size, i.bytes)) = some (some (.int .u64 0), 1, 8) := by kernel_rfl
  obtain ⟨i, hi, hz, hs, hb⟩ := info_parts h
  exact ⟨Tryz.underlying82, ⟨i, hi, hz, hs, by omega⟩, rfl⟩
section
variable {w : World} {e : TypeId} {ops : Array Oper} {rest : List Oper} {o : Oper} {a : Act} {Q : Exit → Act → World → Prop}
theorem wp_make1 {t : TypeId} {z : Value} (E : Elem1 t e z) (hgd : o.guard = none) (l c : Operand) (ho : o.op = Op.makeSlice t l c) (w0 : World) (hw0 : Grows w0 w) (n : Nat) {L C : Int} (hl : a.eval l = .int .i64 L) (hc : a.eval c = .int .i64 C)
    (hL : L = (n : Int)) (hC : C = (n : Int)) (hn : n ≤ 1000000000)
    (h : ∀ g (y : Later w0), w0.heap.size ≤ g → Own y.now w0.heap.size e 1 (some ⟨g, 0, none⟩) n n (List.replicate n z) → wpList Tryz.prog ops Q rest (a.put o.dst (.slice (some ⟨g, 0, none⟩) n n)) y.now) :
    wpList Tryz.prog ops Q (o :: rest) a w := by
  obtain ⟨i, h1, h2, h3, h4⟩ := E.info
  refine wpList_make_full w hgd l c t ho w0.heap.size e i z 1 E.under h1 h2 h3 .i64 .i64 L C n hl hc hL hC ?_ (by unfold maxLen; omega) hw0.size ?_
  · have := Nat.mul_le_mul h4 hn; omega
  · intro w' hown hg
    have hg' : Grows w w' := ⟨hg.os, hg.tape, hg.output, hg.size, fun k hk => hg.block k hk (by simp)⟩
    obtain ⟨y, rfl⟩ := (hw0.trans hg').later
    rw [E.one, toList_madeCells_one, Nat.mul_one] at hown
    exact h _ y hw0.size hown
end
section
variable {w : World} {e : TypeId} {ops : Array Oper} {rest : List Oper} {o : Oper} {a : Act} {Q : Exit → Act → World → Prop}
end
theorem MapII.row {w w' : World} {b n s B n' c size : Nat} {f : Int → Option Int} {e : TypeId} {A : Option Addr} {xs : List Value} (h : MapII w b n s f) (ho : Own w B e size A n' c xs) (hg : w.grownBy w' (Value.slice A n' c).ownBlock) : MapII w' b n s f := by
  obtain ⟨D, h1, h2⟩ := h
  refine ⟨D, h1.kept hg ?_, h2⟩
  obtain ⟨es, clock, hb, _⟩ := h1
  intro hc
  rcases ho.2 with ⟨h3, _⟩ | ⟨g, cap, cur, h3, _, h4, _⟩
  · injection h3 with h3
    subst h3
    simp [Value.ownBlock] at hc
  · injection h3 with h3
    subst h3
    simp [Value.ownBlock] at hc
    subst hc
    rw [hb] at h4
    cases h4
section
variable {w : World} {e : TypeId} {ops : Array Oper} {rest : List Oper} {o : Oper} {a : Act} {Q : Exit → Act → World → Prop}
end
theorem Own.put {w w0 : World} {n c j g : Nat} {e : TypeId} {xs : List Value} (h : Own w w0.heap.size e 1 (some ⟨g, 0, none⟩) n c xs) (hw0 : Grows w0 w) (hn : 0 < n) (u : Value) :
    ∃ y : Later w0, w.setCell ⟨g, j, none⟩ u = y.now ∧ Own y.now w0.heap.size e 1 (some ⟨g, 0, none⟩) n c (xs.set j u) := by
  obtain ⟨g', hA, hB, _⟩ := h.at hn
  injection hA with hA
  injection hA with hA
  subst hA
  exact ⟨⟨_, hw0.set hB u⟩, rfl, h.set rfl hn j u⟩
end Go.Proofs.YtgplpgldhoelcaaGreat

namespace Go.Proofs.YtgplpgldhoelcaaGreat
open Go Go.RowKit Go.Maps

structure Row where
  A : Option Addr
  n : Nat
  c : Nat
  xs : List Int
def rowVal (r : Row) : Value := .slice r.A r.n r.c
def rowOk (w : World) (r : Row) : Prop := Rd w r.A 1 r.n (r.xs.map (.int .i64)) ∧ r.n ≤ r.c
def gr (R : List Row) (k : Nat) : Row := R.getD k ⟨none, 0, 0, []⟩
def rowsOk (w : World) (R : List Row) : Prop := ∀ k, k < R.length → rowOk w (gr R k)
theorem rowsOk.grows {w w' : World} {R : List Row} (h : rowsOk w R) (hg : Grows w w') : rowsOk w' R := fun k hk => ⟨(h k hk).1.grows hg, (h k hk).2⟩
theorem Rd.rows {w : World} {A : Option Addr} {n : Nat} {R : List Row} (h : Rd w A 1 n (R.map rowVal)) (hn : 0 < n) :
    ∃ b off, A = some ⟨b, off, none⟩ ∧ ∀ j, j < n → w.cell? ⟨b, off + j, none⟩ = some (.slice (gr R j).A (gr R j).n (gr R j).c) := by
  have hl := h.len
  obtain ⟨b, off, e, hc⟩ := h.at_ hn
  refine ⟨b, off, e, fun j hj => hc j _ ?_⟩
  have : j < R.length := by simpa using (show j < (R.map rowVal).length by omega)
  simp [this, gr, rowVal]

end Go.Proofs.YtgplpgldhoelcaaGreat

namespace Go.Proofs.YtgplpgldhoelcaaGreat
open Go Go.RowKit
theorem flat_len {α : Type} (f : α → List Value) (s : Nat) (hf : ∀ a, (f a).length = s) (L : List α) : (L.flatMap f).length = L.length * s := by
  induction L with
  | nil => simp
  | cons a L ih => rw [List.flatMap_cons, List.length_append, ih, hf, List.length_cons, Nat.succ_mul]; omega
theorem flat_get {α : Type} (f : α → List Value) (s : Nat) (hf : ∀ a, (f a).length = s) (d : α) : ∀ (L : List α) (k j : Nat), k < L.length → j < s → (L.flatMap f)[k * s + j]? = (f (L.getD k d))[j]?
  | a :: L, 0, j, _, hj => by rw [List.flatMap_cons, Nat.zero_mul, Nat.zero_add, List.getElem?_append_left (by rw [hf]; exact hj)]; rfl
  | a :: L, k + 1, j, hk, hj => by
    rw [List.flatMap_cons, List.getElem?_append_right (by rw [hf, Nat.succ_mul]; omega), hf]
    have := flat_get f s hf d L k j (by simpa using hk) hj
    rw [show (k + 1) * s + j - s = k * s + j by rw [Nat.succ_mul]; omega, this]
    rfl
theorem elemEdge : Elem 33 84 3 := by
  have h : (Tryz.prog.info? 84).map (fun i => (i.zero, i.size, i.bytes)) = some (some (.agg #[.int .i64 0, .int .i64 0, .int .u64 0]), 3, 24) := by kernel_rfl
  obtain ⟨i, hi, hz, hs, hb⟩ := info_parts h
  exact ⟨Tryz.underlying33, ⟨i, _, 24, hi, hz, hs, hb, rfl, by omega⟩, by omega⟩
theorem Own.empty (w : World) (e : TypeId) (B size : Nat) (hB : B ≤ w.heap.size) : Own (w.alloc (.cells #[] e)) B e size (some ⟨w.heap.size, 0, none⟩) 0 0 [] :=
  ⟨by simp, .inr ⟨w.heap.size, 0, #[], rfl, hB, (by show (w.heap.push _)[w.heap.size]? = _; simp), Nat.le_refl _, by unfold maxLen; omega, by simp, by simp⟩⟩
theorem add_pl2 (b off i : Nat) : (⟨b, off, none⟩ : Addr).add i = ⟨b, off + i, none⟩ := by
  unfold Addr.add
  split
  · rename_i h; rw [h, Nat.add_zero]
  · rfl
section
variable {w : World} {e : TypeId} {ops : Array Oper} {rest : List Oper} {o : Oper} {a : Act} {Q : Exit → Act → World → Prop}
theorem wp_appAll {t : TypeId} {size : Nat} (E : Elem t e size) (hgd : o.guard = none) (s x : Operand) (ho : o.op = .call { callee := .builtin .append, args := #[s, x], argTypes := #[t, t] })
    (w0 : World) (hw0 : Grows w0 w) (n c : Nat) (A : Option Addr) (xs : List Value) (hs : a.eval s = .slice A n c) (hown : Own w w0.heap.size e size A n c xs) (ad : Addr) (m d : Nat) (ys : List Value) (hx : a.eval x = .slice (some ad) m d)
    (hr : Rd w (some ad) size m ys) (h1 : ∀ u ∈ ys, u.oneCell' = true) (hnm : n + m ≤ 1000000000000)
    (h : ∀ A' c'' (y : Later w0), Own y.now w0.heap.size e size A' (n + m) c'' (xs ++ ys) → wpList Tryz.prog ops Q rest (a.put o.dst (.slice A' (n + m) c'')) y.now) :
    wpList Tryz.prog ops Q (o :: rest) a w := by
  obtain ⟨i, z, bytes, hi, hz, hsz, hby, hzs, hb64⟩ := E.info
  refine wpList_append_own w hgd s x t ho w0.heap.size e i z size bytes E.under hi hz hsz hby hzs E.pos (.slice A n c) n xs hs hown ad m d ys hx hr.1 (fun j u hu => ?_) h1 (by unfold maxLen; omega) ?_ hw0.size ?_
  · have hj := (List.getElem?_eq_some_iff.1 hu).1
    have hl := hr.1
    have hm : 0 < m := by
      rcases Nat.eq_zero_or_pos m with h0 | h0
      · subst h0; simp at hl; subst hl; simp at hj
      · exact h0
    obtain ⟨b, off, he, hc⟩ := hr.2 hm E.pos
    obtain rfl : ad = ⟨b, off, none⟩ := Option.some.inj he
    rw [add_pl2]
    exact hc j u hu
  · exact Nat.le_trans (Nat.mul_le_mul hnm hb64) (by omega)
  · intro v' w' hown' hgr _
    obtain ⟨A', c'', rfl⟩ := own_form hown'
    have hgw : Grows w0 w' := by
      refine ⟨hgr.os.trans hw0.os, hgr.tape.trans hw0.tape, hgr.output.trans hw0.output, Nat.le_trans hw0.size hgr.size, fun k hk => ?_⟩
      refine (hgr.block k (Nat.lt_of_lt_of_le hk hw0.size) fun e => ?_).trans (hw0.block k hk)
      have := World.ownsRow.lt hown k e.symm
      omega
    obtain ⟨y, rfl⟩ := hgw.later
    exact h A' c'' y hown'
end
section
variable {w : World} {e : TypeId} {ops : Array Oper} {o : Oper} {a : Act} {K : Act → World → Prop} {Q : Exit → Act → World → Prop} {F : Prop}
end
section
variable {P : Program}
theorem run_append_empty (w : World) (t ty e : TypeId) (i : TypeInfo) (ht : P.underlying t = some (.slice e)) (hi : P.info? e = some i) (g ad : Addr) (m c : Nat) (hm : 0 < m) (hm2 : m ≤ 1000000000000) (hb : m * i.bytes ≤ 140737488355328) :
    (Builtin.append_ #[t, t] ty #[.slice (some g) 0 0, .slice (some ad) m c]).run P w = (Builtin.append_ #[t, t] ty #[.slice none 0 0, .slice (some ad) m c]).run P w := by
  have h1 : ¬ m = 0 := by omega
  have h2 : Builtin.nextslicecap m 0 = m := by unfold Builtin.nextslicecap; rw [if_pos (by omega)]
  have h3 : ¬ (281474976710656 < m * i.bytes) := by omega
  have h4 : ¬ ((9223372036854775807 : Int) < (m : Int)) := by omega
  have h5 : ∀ w, (loadCells g 0).run P w = .ok #[] w := fun w => by first | rfl | simp [loadCells, loadCellsFrom]
  have h6 : IntKind.i64.max = 9223372036854775807 := rfl
  simp [Builtin.append_, run_underlying ht, sizeOf, typeInfo, hi, Builtin.lenOf, Builtin.firstCells, h1, h2, h3, h4, h5, h6]
end
section
variable {w : World} {e : TypeId} {ops : Array Oper} {o : Oper} {a : Act} {K : Act → World → Prop} {Q : Exit → Act → World → Prop} {F : Prop}
end
theorem Holds.other {w : World} {p q : Addr} {v : Value} (h : Holds w p v) (u : Value) (hne : q.block ≠ p.block) : Holds (w.setCell q u) p v :=
  ⟨by rw [World.cell?_setCell_other _ _ _ _ (fun e => hne (by rw [e]))]; exact h.cell⟩
theorem Rd.other {w : World} {A : Option Addr} {size n : Nat} {xs : List Value} {q : Addr} (h : Rd w A size n xs) (u : Value) (hne : ∀ b off, A = some ⟨b, off, none⟩ → q.block ≠ b) : Rd (w.setCell q u) A size n xs :=
  ⟨h.1, fun h1 h2 => by
    obtain ⟨b, off, e, hc⟩ := h.2 h1 h2
    exact ⟨b, off, e, fun j v hv => by rw [World.cell?_setCell_other _ _ _ _ (fun e' => hne b off e (by rw [e']))]; exact hc j v hv⟩⟩
end Go.Proofs.YtgplpgldhoelcaaGreat

namespace Go.Proofs.YtgplpgldhoelcaaGreat
open Go Go.RowKit
class Arr (w : World) (g : Nat) (t : outParam TypeId) (cs : outParam (List Value)) : Prop where
  is : w.heap[g]? = some (.cells cs.toArray t (0, 0))
section
variable {w w' w0 : World} {g g' : Nat} {t t' : TypeId} {cs cs' : List Value} {S : Nat → Prop}
theorem Arr.lt (h : Arr w g t cs) : g < w.heap.size := (Array.getElem?_eq_some_iff.1 h.is).1
theorem Arr.cell (h : Arr w g t cs) (j : Nat) : w.cell? ⟨g, j, none⟩ = cs[j]? := by simp [World.cell?, h.is]
theorem Arr.free (h : Arr w g t cs) (j : Nat) : w.frozen? ⟨g, j, none⟩ = false := by simp [World.frozen?, h.is]
theorem Arr.mine (h : Arr w g t cs) (j : Nat) {u : Value} (hu : cs[j]? = some u) : Mine w ⟨g, j, none⟩ u := ⟨by rw [h.cell, hu], h.free j⟩
theorem Arr.grow (h : Arr w g t cs) (k : Grows w w') : Arr w' g t cs := ⟨(k.block g h.lt).trans h.is⟩
theorem Arr.touch (h : Arr w g t cs) (k : Touch S w w') (hS : ¬ S g) : Arr w' g t cs := ⟨k.at hS h.is⟩
theorem Arr.set (h : Arr w g t cs) (j : Nat) (u : Value) : Arr (w.setCell ⟨g, j, none⟩ u) g t (cs.set j u) :=
  ⟨by have := h.is; simp [World.setCell, Array.getElem?_modify, this]⟩
theorem Arr.other (h : Arr w g t cs) {p : Addr} (hp : p.block ≠ g) (u : Value) : Arr (w.setCell p u) g t cs :=
  ⟨by rw [heap_setCell _ _ _ _ (Ne.symm hp)]; exact h.is⟩
theorem Arr.put (h : Arr w g t cs) {r : Nat} (hr : g ≠ r) (o : Obj) : Arr (w.putObj r o) g t cs := ⟨(World.putObj_heap_other hr).trans h.is⟩
theorem Arr.ne (h : Arr w g t cs) (k : Arr w g' t' cs') (ht : t ≠ t') : g ≠ g' := fun e => by
  subst e
  have := h.is.symm.trans k.is
  injection this with this
  injection this with _ this
  exact ht this
theorem Arr.same (h : Arr w g t cs) (k : Arr w g t' cs') : t = t' ∧ cs = cs' := by
  have := h.is.symm.trans k.is
  injection this with this
  injection this with h1 h2
  exact ⟨h2, by simpa using h1⟩
theorem Arr.rd (h : Arr w g t cs) {size n : Nat} (hl : cs.length = n * size) : Rd w (some ⟨g, 0, none⟩) size n cs :=
  ⟨hl, fun _ _ => ⟨g, 0, rfl, fun j u hu => by rw [Nat.zero_add, h.cell]; exact hu⟩⟩
theorem Arr.make (w : World) (cs : List Value) (t : TypeId) : Arr (w.alloc (.cells cs.toArray t)) w.heap.size t cs := ⟨World.alloc_heap_new w _⟩
theorem Arr.own (h : Arr w g t cs) {B size n : Nat} (hB : B ≤ g) (hl : cs.length = n * size) (hn : n ≤ 1000000000) : Own w B t size (some ⟨g, 0, none⟩) n n cs :=
  ⟨hl, .inr ⟨g, n, cs.toArray, rfl, hB, h.is, Nat.le_refl _, by unfold maxLen; omega, by simpa using hl, by simp [← hl]⟩⟩
instance Arr.now (x : Later w) [h : Arr w g t cs] : Arr x.now g t cs := h.grow x.grows
instance Arr.alloc (o : Obj) [h : Arr w g t cs] : Arr (w.alloc o) g t cs := h.grow ((Grows.refl w).new o)
instance Arr.drew [h : Arr w g t cs] : Arr w.drew g t cs := h.grow (Grows.refl w).drew
instance Arr.drewN (n : Nat) [h : Arr w g t cs] : Arr (w.drewN n) g t cs := h.grow ((Grows.refl w).drewN n)
instance Arr.m0 {v : Value} {l : List Value} [h : Arr w g t (v :: l)] : Mine w ⟨g, 0, none⟩ v := h.mine 0 rfl
instance Arr.m1 {v0 v : Value} {l : List Value} [h : Arr w g t (v0 :: v :: l)] : Mine w ⟨g, 1, none⟩ v := h.mine 1 rfl
instance Arr.m2 {v0 v1 v : Value} {l : List Value} [h : Arr w g t (v0 :: v1 :: v :: l)] : Mine w ⟨g, 2, none⟩ v := h.mine 2 rfl
instance Arr.m3 {v0 v1 v2 v : Value} {l : List Value} [h : Arr w g t (v0 :: v1 :: v2 :: v :: l)] : Mine w ⟨g, 3, none⟩ v := h.mine 3 rfl
instance Arr.m4 {v0 v1 v2 v3 v : Value} {l : List Value} [h : Arr w g t (v0 :: v1 :: v2 :: v3 :: v :: l)] : Mine w ⟨g, 4, none⟩ v := h.mine 4 rfl
instance Arr.m5 {v0 v1 v2 v3 v4 v : Value} {l : List Value} [h : Arr w g t (v0 :: v1 :: v2 :: v3 :: v4 :: v :: l)] : Mine w ⟨g, 5, none⟩ v := h.mine 5 rfl
end

structure Row1 (w : World) (g : Nat) (e : TypeId) (size n c : Nat) (xs : List Value) : Prop where
  len : xs.length = n * size
  is : ∃ cur, w.heap[g]? = some (.cells cur e (0, 0)) ∧ n ≤ c ∧ c ≤ maxLen ∧ cur.size = c * size ∧ cur.toList.take (n * size) = xs
section
variable {w w' w0 : World} {B g g' n c size : Nat} {e t' : TypeId} {xs cs' : List Value} {S : Nat → Prop}
theorem Row1.own (h : Row1 w g e size n c xs) (hB : B ≤ g) : Own w B e size (some ⟨g, 0, none⟩) n c xs := by
  obtain ⟨cur, h1, h2, h3, h4, h5⟩ := h.is
  exact ⟨h.len, .inr ⟨g, c, cur, rfl, hB, h1, h2, h3, h4, h5⟩⟩
theorem Own.row (h : Own w B e size (some ⟨g, 0, none⟩) n c xs) : Row1 w g e size n c xs ∧ B ≤ g := by
  rcases h.2 with ⟨h1, _⟩ | ⟨g', cap, cur, h1, h2, h3, h4, h5, h6, h7⟩
  · cases h1
  · injection h1 with h1 _ h8
    injection h1 with h1
    injection h1 with h1
    subst h1 h8
    exact ⟨⟨h.1, cur, h3, h4, h5, h6, h7⟩, h2⟩
theorem Row1.lt (h : Row1 w g e size n c xs) : g < w.heap.size := by
  obtain ⟨cur, h1, _⟩ := h.is
  exact (Array.getElem?_eq_some_iff.1 h1).1
theorem Row1.mine (h : Row1 w g e size n c xs) {j : Nat} {u : Value} (hu : xs[j]? = some u) : Mine w ⟨g, j, none⟩ u := by
  obtain ⟨cur, h1, _, _, _, h5⟩ := h.is
  refine ⟨?_, by simp [World.frozen?, h1]⟩
  simp only [World.cell?, h1]
  rw [← h5] at hu
  have : j < n * size := by
    rcases Nat.lt_or_ge j (n * size) with h | h
    · exact h
    · rw [List.getElem?_eq_none (by simp; omega)] at hu; cases hu
  rw [List.getElem?_take, if_pos this] at hu
  simpa using hu
theorem Row1.grow (h : Row1 w g e size n c xs) (k : Grows w w') : Row1 w' g e size n c xs := by
  have hl := h.lt
  obtain ⟨cur, h1, h2⟩ := h.is
  exact ⟨h.len, cur, (k.block g hl).trans h1, h2⟩
theorem Row1.touch (h : Row1 w g e size n c xs) (k : Touch S w w') (hS : ¬ S g) : Row1 w' g e size n c xs := by
  obtain ⟨cur, h1, h2⟩ := h.is
  exact ⟨h.len, cur, k.at hS h1, h2⟩
theorem Row1.other (h : Row1 w g e size n c xs) {p : Addr} (hp : p.block ≠ g) (u : Value) : Row1 (w.setCell p u) g e size n c xs := by
  obtain ⟨cur, h1, h2⟩ := h.is
  exact ⟨h.len, cur, by rw [heap_setCell _ _ _ _ (Ne.symm hp)]; exact h1, h2⟩
theorem Row1.set (h : Row1 w g e size n c xs) (j : Nat) (u : Value) : Row1 (w.setCell ⟨g, j, none⟩ u) g e size n c (xs.set j u) := by
  obtain ⟨cur, h1, h2, h3, h4, h5⟩ := h.is
  refine ⟨by rw [List.length_set]; exact h.len, cur.setIfInBounds j u, by simp [World.setCell, Array.getElem?_modify, h1], h2, h3, by simpa using h4, ?_⟩
  rw [← h5]
  simp [List.take_set]
theorem Row1.ne (h : Row1 w g e size n c xs) (k : Arr w g' t' cs') (ht : e ≠ t') : g ≠ g' := fun e' => by
  subst e'
  obtain ⟨cur, h1, _⟩ := h.is
  have := h1.symm.trans k.is
  injection this with this
  injection this with _ this
  exact ht this
theorem Row1.ne2 {size' n' c' : Nat} (h : Row1 w g e size n c xs) (k : Row1 w g' t' size' n' c' cs') (ht : e ≠ t') : g ≠ g' := fun e' => by
  subst e'
  obtain ⟨cur, h1, _⟩ := h.is
  obtain ⟨cur', h2, _⟩ := k.is
  have := h1.symm.trans h2
  injection this with this
  injection this with _ this
  exact ht this
theorem Row1.rd (h : Row1 w g e size n c xs) : Rd w (some ⟨g, 0, none⟩) size n xs := (h.own (Nat.zero_le _)).rd
theorem Row1.cap (h : Row1 w g e size n c xs) : n ≤ c := by obtain ⟨cur, _, h2, _⟩ := h.is; exact h2
theorem Arr.row (h : Arr w g e xs) (hl : xs.length = n * size) (hn : n ≤ 1000000000) : Row1 w g e size n n xs :=
  ⟨hl, xs.toArray, h.is, Nat.le_refl _, by unfold maxLen; omega, by simpa using hl, by simp [← hl]⟩
theorem Row1.int {k : IntKind} {ys : List Int} (h : Row1 w g e 1 n c (ys.map (.int k))) {j : Nat} (hj : j < n) : Mine w ⟨g, j, none⟩ (.int k (gi ys j)) := by
  have hl := h.len
  simp at hl
  exact h.mine (by simp [gi, show j < ys.length by omega])
end
theorem run_makeInts (n : Nat) (hn : n ≤ 1000000000) (w : World) : (Instr.makeSlice 22 (.int .i64 (n : Int)) (.int .i64 (n : Int))).run Tryz.prog w = .ok (.slice (some ⟨w.heap.size, 0, none⟩) n n) (w.alloc (.cells (List.replicate n (Value.int .i64 0)).toArray 3)) := by
  obtain ⟨i, h1, h2, h3, h4⟩ := elemInt1.info
  have := run_make_row (P := Tryz.prog) 22 3 i (.int .i64 0) Tryz.underlying22 h1 h2 h3 rfl .i64 .i64 n (by have := Nat.mul_le_mul h4 hn; omega) (by omega) w
  have e : madeCells #[Value.int .i64 0] n = (List.replicate n (Value.int .i64 0)).toArray := Array.ext' (by rw [toList_madeCells_one])
  rw [e] at this
  exact this
end Go.Proofs.YtgplpgldhoelcaaGreat

namespace Go.Proofs.YtgplpgldhoelcaaGreat
def cntN (nd : Nat → Nat) (v j : Nat) : Nat := ((List.range j).filter fun i => nd i == v).length
def begN (nd : Nat → Nat) (m v : Nat) : Nat := ((List.range m).filter fun i => decide (nd i < v)).length
def rowN (nd : Nat → Nat) (m v : Nat) : List Nat := (List.range m).filter fun i => nd i == v
def posN (nd : Nat → Nat) (m i : Nat) : Nat := begN nd m (nd i) + cntN nd (nd i) i
theorem cntN_zero (nd : Nat → Nat) (v : Nat) : cntN nd v 0 = 0 := rfl
theorem cntN_succ (nd : Nat → Nat) (v j : Nat) : cntN nd v (j + 1) = cntN nd v j + if nd j = v then 1 else 0 := by
  unfold cntN
  rw [List.range_succ, List.filter_append, List.length_append]
  by_cases h : nd j = v <;> simp [h]
theorem cntN_mono (nd : Nat → Nat) (v : Nat) {i j : Nat} (h : i ≤ j) : cntN nd v i ≤ cntN nd v j := by
  induction j with
  | zero => rw [Nat.le_zero.1 h]; exact Nat.le_refl _
  | succ j ih =>
    rcases Nat.lt_or_ge i (j + 1) with h1 | h1
    · have := ih (by omega)
      rw [cntN_succ]; omega
    · rw [show i = j + 1 by omega]; exact Nat.le_refl _
theorem cntN_lt (nd : Nat → Nat) {i j : Nat} (h : i < j) : cntN nd (nd i) i < cntN nd (nd i) j := by
  have h1 := cntN_succ nd (nd i) i
  rw [if_pos rfl] at h1
  have h2 := cntN_mono nd (nd i) (show i + 1 ≤ j from h)
  omega
theorem begN_succ (nd : Nat → Nat) (m v : Nat) : begN nd m (v + 1) = begN nd m v + cntN nd v m := by
  unfold begN cntN
  induction m with
  | zero => rfl
  | succ m ih =>
    rw [List.range_succ, List.filter_append, List.filter_append, List.filter_append, List.length_append, List.length_append, List.length_append, ih]
    by_cases h : nd m = v
    · simp [h]; omega
    · by_cases h2 : nd m < v
      · have h3 : nd m < v + 1 := by omega
        simp [h, h2, h3]; omega
      · have h3 : ¬ nd m < v + 1 := by omega
        simp [h, h2, h3]
theorem begN_zero (nd : Nat → Nat) (m : Nat) : begN nd m 0 = 0 := by unfold begN; simp
theorem begN_le (nd : Nat → Nat) (m v : Nat) : begN nd m v ≤ m := by
  unfold begN
  exact Nat.le_trans (List.length_filter_le _ _) (by simp)
theorem begN_mono (nd : Nat → Nat) (m : Nat) {u v : Nat} (h : u ≤ v) : begN nd m u ≤ begN nd m v := by
  induction v with
  | zero => rw [Nat.le_zero.1 h]; exact Nat.le_refl _
  | succ v ih =>
    rcases Nat.lt_or_ge u (v + 1) with h1 | h1
    · have := ih (by omega)
      rw [begN_succ]; omega
    · rw [show u = v + 1 by omega]; exact Nat.le_refl _
theorem posN_lt (nd : Nat → Nat) (m i : Nat) (hi : i < m) : posN nd m i < begN nd m (nd i + 1) := by
  rw [begN_succ]
  have := cntN_lt nd hi
  unfold posN; omega
theorem posN_m (nd : Nat → Nat) (m i : Nat) (hi : i < m) : posN nd m i < m := Nat.lt_of_lt_of_le (posN_lt nd m i hi) (begN_le _ _ _)
theorem posN_ne (nd : Nat → Nat) (m : Nat) {i j : Nat} (h : i < j) (hj : j < m) : posN nd m i ≠ posN nd m j := by
  rcases Nat.lt_trichotomy (nd i) (nd j) with h1 | h1 | h1
  · have h2 := posN_lt nd m i (by omega)
    have h3 := begN_mono nd m (show nd i + 1 ≤ nd j from h1)
    have : begN nd m (nd j) ≤ posN nd m j := by unfold posN; omega
    omega
  · have := cntN_lt nd h
    unfold posN
    rw [h1] at this ⊢
    omega
  · have h2 := posN_lt nd m j hj
    have h3 := begN_mono nd m (show nd j + 1 ≤ nd i from h1)
    have : begN nd m (nd i) ≤ posN nd m i := by unfold posN; omega
    omega
theorem rowN_len (nd : Nat → Nat) (m v : Nat) : (rowN nd m v).length = cntN nd v m := rfl
theorem rowN_at (nd : Nat → Nat) (v : Nat) : ∀ m k i, (rowN nd m v)[k]? = some i → i < m ∧ nd i = v ∧ cntN nd v i = k
  | 0, k, i, h => by simp [rowN] at h
  | m + 1, k, i, h => by
    have e : rowN nd (m + 1) v = rowN nd m v ++ (if nd m = v then [m] else []) := by
      unfold rowN
      rw [List.range_succ, List.filter_append]
      by_cases hv : nd m = v <;> simp [hv]
    rw [e] at h
    rcases Nat.lt_or_ge k (rowN nd m v).length with hk | hk
    · rw [List.getElem?_append_left hk] at h
      obtain ⟨h1, h2, h3⟩ := rowN_at nd v m k i h
      exact ⟨by omega, h2, h3⟩
    · rw [List.getElem?_append_right hk] at h
      by_cases hv : nd m = v
      · rw [if_pos hv] at h
        rcases Nat.eq_zero_or_pos (k - (rowN nd m v).length) with h0 | h0
        · rw [h0] at h
          simp at h
          subst h
          have := rowN_len nd m v
          exact ⟨by omega, hv, by omega⟩
        · rw [List.getElem?_eq_none (by simp; omega)] at h
          cases h
      · rw [if_neg hv] at h
        simp at h
theorem rowN_lt (nd : Nat → Nat) {m v k i : Nat} (h : (rowN nd m v)[k]? = some i) : i < m := (rowN_at nd v m k i h).1
theorem laid_row (nd : Nat → Nat) (m v : Nat) (xs : List Nat) (_ : xs.length = m) (h : ∀ i, i < m → xs[posN nd m i]? = some i) : (xs.drop (begN nd m v)).take (cntN nd v m) = rowN nd m v := by
  apply List.ext_getElem?
  intro k
  rcases Nat.lt_or_ge k (cntN nd v m) with hk | hk
  · rw [List.getElem?_take, if_pos hk, List.getElem?_drop]
    have hk' : k < (rowN nd m v).length := hk
    obtain ⟨i, hi⟩ : ∃ i, (rowN nd m v)[k]? = some i := ⟨_, List.getElem?_eq_getElem hk'⟩
    rw [hi]
    obtain ⟨h1, h2, h3⟩ := rowN_at nd v m k i hi
    have := h i h1
    unfold posN at this
    rw [h2, h3] at this
    exact this
  · rw [List.getElem?_eq_none (by rw [List.length_take]; omega), List.getElem?_eq_none (by rw [rowN_len]; exact hk)]
end Go.Proofs.YtgplpgldhoelcaaGreat

namespace Go.Proofs.YtgplpgldhoelcaaGreat
open Go Go.RowKit
section
variable {P : Program} {md : Region.Mode} {ops : Array Oper} {w0 : World}
def gAnyT (P : Program) (md : Region.Mode) (ops : Array Oper) (w0 : World) (n : Nat) (L : Array Bool → Act → Env → Prop) : Nat → Array Bool → Act → Env → Prop
  | 0, l, a, G => L l a G
  | f + 1, l, a, G => Region.ready md ops l ≠ [] ∧ ∀ i ∈ Region.ready md ops l, i < n ∧ gOp P ops w0 i (gAnyT P md ops w0 n L f (l.setIfInBounds i true)) a G

theorem gAnyT_first {n i : Nat} {oi : Oper} {r : Out} {L : Array Bool → Act → Env → Prop} (hi : ops[i]? = some oi)
    (hs : Region.sinkB md ops n = true) (hc : Region.chainB md ops n = true) (hn : n < ops.size) (hin : i < n)
    (hdone : ∀ l a G, L l a G → ∀ j ∈ Region.ready md ops l, n ≤ j) :
    ∀ (f : Nat) (l : Array Bool) (a : Act) (G : Env), HeadInv md ops n l →
      (∀ j oj, ops[j]? = some oj → j ≠ i → l.getD j true = false → (∀ e ∈ oj.after, Region.binds md e = true → e.on ≠ i) → oi.apart ops oj = true) →
      i ∈ Region.ready md ops l → Leaves P ops w0 oi a G r →
      gAnyT P md ops w0 n L f (l.setIfInBounds i true) (putA a oi.dst r) (putG G oi.dst r) → gAnyT P md ops w0 n L (f + 1) l a G := by
  intro f
  induction f with
  | zero =>
    intro l a G inv _ hr hy H
    have hun := (mem_ready.1 hr).1
    refine ⟨fun h => (by rw [h] at hr; cases hr), fun j hj => ?_⟩
    have hjn : j < n := by
      rcases Nat.lt_or_ge j n with h | h
      · exact h
      · exact absurd hj (tail_waits hs hc hn inv _ i rfl hin hun j h)
    refine ⟨hjn, ?_⟩
    by_cases hji : j = i
    · subst hji; unfold gOp; simp only [hi]; exact ⟨r, hy, H⟩
    · have := hdone _ _ _ H j (ready_mono hj hji)
      omega
  | succ f ih =>
    intro l a G inv hfree hr hy H
    have hun := (mem_ready.1 hr).1
    refine ⟨fun h => (by rw [h] at hr; cases hr), fun j hj => ?_⟩
    have hjn : j < n := by
      rcases Nat.lt_or_ge j n with h | h
      · exact h
      · exact absurd hj (tail_waits hs hc hn inv _ i rfl hin hun j h)
    refine ⟨hjn, ?_⟩
    by_cases hji : j = i
    · subst hji; unfold gOp; simp only [hi]; exact ⟨r, hy, H⟩
    · have h1 := (H.2 j (ready_mono hj hji)).2
      obtain ⟨hjun, oj, hoj, hall⟩ := mem_ready.1 hj
      have hnot : ∀ e ∈ oj.after, Region.binds md e = true → e.on ≠ i := fun e he hb heq => by
        have h1 := hall e he hb
        rw [heq, getD_both hun] at h1
        cases h1
      have hfree' : ∀ k ok, ops[k]? = some ok → k ≠ i → (l.setIfInBounds j true).getD k true = false →
          (∀ e ∈ ok.after, Region.binds md e = true → e.on ≠ i) → oi.apart ops ok = true := fun k ok hk hki hun hno => by
        refine hfree k ok hk hki ?_ hno
        by_cases hjk : j = k
        · subst hjk; exact hjun
        · rw [getD_set_ne true hjk] at hun; exact hun
      have h2 := gOp_put hoj (hfree j oj hoj hji hjun hnot) hy h1
      refine gOp_mono (fun a' G' h3 => ih (l.setIfInBounds j true) a' G' (inv.set hj hjn) hfree' (ready_mono hr (Ne.symm hji)) h3.1 ?_) h2
      rw [Array.setIfInBounds_comm _ _ hji]
      exact h3.2

theorem gAnyT_lex {n g : Nat} {Lq : Act → Env → Prop} (hs : Region.sinkB md ops n = true) (hc : Region.chainB md ops n = true) (hn : n < ops.size) :
    ∀ (l : List Oper) (k : Nat) (listed : Array Bool) (a : Act) (G : Env), (∀ j, j < l.length → l[j]? = ops[k + j]?) → k + l.length = n → HeadInv md ops n listed →
    Region.lexHead md ops g l.length k listed = true → gLex P ops w0 Lq l a G →
    gAnyT P md ops w0 n (fun listed' a' G' => Region.seqB md ops g n listed' = true ∧ Lq a' G') l.length listed a G
  | [], k, listed, a, G, _, hk, _, hB, h => by
    have : k = n := by simpa using hk
    subst this
    exact ⟨by simpa [Region.lexHead] using hB, h⟩
  | o :: l, k, listed, a, G, hl, hk, inv, hB, h => by
    have h0 : ops[k]? = some o := by simpa using (hl 0 (by simp)).symm
    simp only [List.length_cons, Region.lexHead, Bool.and_eq_true] at hB
    obtain ⟨⟨hr, hf⟩, hB'⟩ := hB
    have hkn : k < n := by simp only [List.length_cons] at hk; omega
    have hr' : k ∈ Region.ready md ops listed := by simpa using hr
    obtain ⟨r, hy, hK⟩ := h
    exact gAnyT_first h0 hs hc hn hkn (fun l' _ _ h j hj => seqB_ready h.1 j hj) l.length listed a G inv (Region.free_spec h0 hf) hr' hy
      (gAnyT_lex hs hc hn l (k + 1) _ _ _ (fun j hj => by have := hl (j + 1) (by simp; omega); simpa [Nat.add_assoc, Nat.add_comm 1 j] using this) (by simp only [List.length_cons] at hk; omega) (inv.set hr' hkn) hB' hK)

theorem wpAny_of_gAnyT {n g : Nat} {L : Array Bool → Act → Env → Prop} {Q : Exit → Act → World → Prop}
    (hL : ∀ listed a G, L listed a G → ∀ w, Grows w0 w → ∀ a', Conc G a a' w → wpAny P md ops Q g listed a' w) :
    ∀ (f : Nat) (l : Array Bool) (a : Act) (G : Env) (a' : Act) (w : World), Grows w0 w → AllLast G → Conc G a a' w →
    gAnyT P md ops w0 n L f l a G → wpAny P md ops Q (f + g) l a' w
  | 0, l, a, G, a', w, hw, _, hc, h => by rw [Nat.zero_add]; exact hL _ _ _ h w hw a' hc
  | f + 1, l, a, G, a', w, hw, hG, hc, h => by
    rw [show f + 1 + g = (f + g) + 1 by omega]
    refine ⟨fun h0 => absurd h0 h.1, fun i hi => ?_⟩
    have h1 := (h.2 i hi).2
    unfold gOp at h1
    unfold wpOp
    split
    · rename_i ho
      simp only [ho] at h1
      exact wpAny_of_gAnyT hL f _ a G a' w hw hG hc h1
    · rename_i o ho
      simp only [ho] at h1
      obtain ⟨r, ⟨hg, hd, hy⟩, hK⟩ := h1
      rw [wanted_conc hg hc]
      rcases hy with ⟨hwant, hl, hf, howe⟩ | ⟨hwant, rfl⟩
      · rw [if_pos hwant]
        refine .inl ?_
        have hrun := howe w hw a' (fun t _ => hc.2 t)
        unfold Oper.wp
        generalize (execOp a'.eval o).run P w = res at hrun
        cases res with
        | halt x w' => simp only [runsTo] at hrun
        | ok x w' =>
          cases x <;> simp only [runsTo] at hrun <;> simp only [Oper.upon]
          case value u => exact wpAny_of_gAnyT hL f _ _ _ _ _ (hw.trans hrun.1) (hG.putG hl) (hc.step hG hrun.1 hd hf hrun.2) hK
          case skip => exact wpAny_of_gAnyT hL f _ _ _ _ _ (hw.trans hrun.1) (hG.putG hl) (hc.step hG hrun.1 hd hf hrun.2) hK
          case enter f args =>
            refine hrun.mono fun e w'' ⟨u, he, h1, h2⟩ => ?_
            subst he
            exact wpAny_of_gAnyT hL _ _ _ _ _ _ (hw.trans h1) (hG.putG hl) (hc.step hG h1 hd hf h2) hK
      · rw [hwant]
        simp only [Bool.false_eq_true, if_false]
        have hG0 : putG G o.dst (.inl undef) = G := by cases o.dst <;> rfl
        rw [hG0] at hK
        have hc0 := hc.step hG (Grows.refl w) hd (r := .inl undef) (u := undef) trivial rfl
        rw [hG0] at hc0
        exact wpAny_of_gAnyT hL f _ _ _ _ _ hw hG hc0 hK

def tailB (md : Region.Mode) (ops : Array Oper) (n : Nat) : Bool :=
  decide (n < ops.size) && Region.sinkB md ops n && Region.chainB md ops n && Region.lexHead md ops (ops.size - n) n 0 (Array.replicate ops.size false)

theorem wp_region_tail {w0 : World} {id : Nat} {Q : Exit → Act → World → Prop} {a : Act} {w : World} {l : List Oper} (n : Nat) (hm : P.follows .mixedOrders = true) (hB : tailB .any l.toArray n = true)
    (hw0 : Grows w0 w) (h : gLex P l.toArray w0 (fun a G => ∀ w', Grows w0 w' → ∀ a', Conc G a a' w' → wpList P l.toArray Q (l.drop n) a' w') (l.take n) a Env.no) : (Code.region id l.toArray true).wp P Q a w := by
  simp only [tailB, Bool.and_eq_true, decide_eq_true_eq] at hB
  obtain ⟨⟨⟨hn, hs⟩, hc⟩, hx⟩ := hB
  have hlen : l.length = n + (l.drop n).length := by simp at hn ⊢; omega
  have hn' : n < l.length := by simpa using hn
  refine wp_region_any hm ?_
  have inv : HeadInv .any l.toArray n (Array.replicate l.length false) := by
    refine ⟨by simp, ?_, ?_⟩
    · intro j oj hj hl
      rw [getD_replicate_false] at hl
      cases hl
    · intro t h1 h2
      have : t < l.length := by simpa using h2
      simp [this]
  have e1 : (l.take n).length = n := by simp; omega
  have e2 : (l.drop n).length = l.length - n := by simp
  have hx' : Region.lexHead .any l.toArray (l.length - n) (l.take n).length 0 (Array.replicate l.length false) = true := by rw [e1]; simpa using hx
  have hg := gAnyT_lex (P := P) (w0 := w0) (g := l.length - n) hs hc hn (l.take n) 0 (Array.replicate l.length false) a Env.no (fun j hj => by
      have : j < n := by rw [e1] at hj; exact hj
      simp [this]) (by rw [e1]; omega) inv hx' h
  have hall := wpAny_of_gAnyT (Q := Q) (g := l.length - n) (fun listed a' G' hL w' hw' a'' hc' => by
    have hh := hL.2 w' hw' a'' hc'
    have := wpAny_of_seq (P := P) (md := .any) (ops := l.toArray) (l.drop n) n listed a'' w' (fun j => by simp) (by rw [e2]; exact hL.1) hh
    rwa [e2] at this) (l.take n).length _ a Env.no a { w with drawn := w.drawn + 1 } (hw0.trans (Grows.drawn w _)) (fun t p h => by cases h) ⟨rfl, fun t => rfl⟩ hg
  have e3 : (l.take n).length + (l.length - n) = l.length := by rw [e1]; omega
  rw [e3] at hall
  simpa using hall
theorem wp_region_tail1 {id : Nat} {Q : Exit → Act → World → Prop} {a : Act} {w : World} {l : List Oper} (n : Nat) (hm : P.follows .mixedOrders = true) (hB : tailB .any l.toArray n = true)
    (h : gLex P l.toArray w (fun a G => ∀ w', Grows w w' → ∀ a', Conc G a a' w' → wpList P l.toArray Q (l.drop n) a' w') (l.take n) a Env.no) : (Code.region id l.toArray true).wp P Q a w :=
  wp_region_tail n hm hB (Grows.refl w) h
theorem gLex_endT {ops : Array Oper} {Q : Exit → Act → World → Prop} {tail : List Oper} {a : Act} (h : ∀ x : Later w0, wpList P ops Q tail a x.now) :
    gLex P ops w0 (fun a G => ∀ w', Grows w0 w' → ∀ a', Conc G a a' w' → wpList P ops Q tail a' w') [] a Env.no :=
  fun w' hw a' hc => by rw [conc_no hc]; exact h ⟨w', hw⟩
theorem gLex_endT1 {ops : Array Oper} {Q : Exit → Act → World → Prop} {tail : List Oper} {a : Act} {t : Tmp} {p : Pr} (hlt : t < a.tmps.size) (h : ∀ (x : Later w0) v, p v x.now → wpList P ops Q tail (a.put (some t) v) x.now) :
    gLex P ops w0 (fun a G => ∀ w', Grows w0 w' → ∀ a', Conc G a a' w' → wpList P ops Q tail a' w') [] a (Env.no.upd t p) :=
  fun w' hw a' hc => by
    obtain ⟨v, hv⟩ := conc_upd hc hlt
    rcases hv with ⟨hp, hc2⟩ | hne
    · rw [conc_no hc2]
      exact h ⟨w', hw⟩ v hp
    · exact absurd rfl hne
theorem gLex_prop {ops : Array Oper} {Q : Act → Env → Prop} {a : Act} {G : Env} {o : Oper} {rest : List Oper} {t : Tmp} (hg : o.guard = none) (hp : plainB ops o G = true) (hd : o.dst = some t) (hlt : t < a.tmps.size)
    (p : Pr) (hl : Lasts p) (hr : ∀ x : Later w0, runsTo P (fun u w' => Grows x.now w' ∧ p u w') ((execOp a.eval o).run P x.now))
    (h : gLex P ops w0 Q rest a (G.upd t p)) : gLex P ops w0 Q (o :: rest) a G := by
  obtain ⟨h1, h2, h3, h4⟩ := plain_spec hp
  refine ⟨.inr p, ⟨h1, h2, .inl ⟨by unfold Region.wanted; rw [hg], hl, ⟨t, hd, hlt⟩, fun w hw a' ha' => ?_⟩⟩, ?_⟩
  · rw [exec_same h4 h3 ha']
    exact hr ⟨w, hw⟩
  · rw [hd]
    exact h
def One (v : Value) : Pr := fun u w => ∃ g, u = .slice (some ⟨g, 0, none⟩) 1 1 ∧ Holds w ⟨g, 0, none⟩ v
theorem One.lasts (v : Value) : Lasts (One v) := fun _ _ _ hg ⟨g, e, h⟩ => ⟨g, e, ⟨hg.keeps h.cell⟩⟩
end
end Go.Proofs.YtgplpgldhoelcaaGreat

