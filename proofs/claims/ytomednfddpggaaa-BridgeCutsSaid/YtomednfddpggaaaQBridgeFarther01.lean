/- Contracts: which graphs may be, by the program and by its answer. -/
import Derived.Test.YtomednfddpggaaaQBridgeFarther00
import Derived.Test.YtomednfddpggaaaRows
import Derived.OwnWalk
import Derived.Lib.AppendZeros
/- Contracts: which graphs may be, by the program and by its answer. -/
namespace Go.Proofs.Ytomednfddpggaaa
open Go Go.RowKit

/-- An edge. -/
structure Edg where
  f : Int
  t : Int
  w : Int
deriving DecidableEq
def eCells (e : Edg) : List Value := [.int .i64 e.f, .int .i64 e.t, .int .u64 e.w]
def eVal (e : Edg) : Value := .agg #[.int .i64 e.f, .int .i64 e.t, .int .u64 e.w]
def esCells (E : List Edg) : List Value := E.flatMap eCells
def ge (E : List Edg) (k : Nat) : Edg := E.getD k ⟨0, 0, 0⟩

theorem esCells_length (E : List Edg) : (esCells E).length = E.length * 3 := by
  induction E with
  | nil => rfl
  | cons e E ih => simp [esCells, eCells] at *; omega
theorem esCells_at (E : List Edg) (k j : Nat) (hk : k < E.length) (hj : j < 3) : (esCells E)[k * 3 + j]? = (eCells (ge E k))[j]? := by
  induction E generalizing k with
  | nil => simp at hk
  | cons e E ih =>
    have h1 : esCells (e :: E) = eCells e ++ esCells E := rfl
    rw [h1]
    cases k with
    | zero => rw [List.getElem?_append_left (by simp [eCells]; omega)]; simp [ge]
    | succ k =>
      rw [List.getElem?_append_right (by simp [eCells]; omega)]
      have := ih k (by simpa using hk)
      rw [show (k + 1) * 3 + j - (eCells e).length = k * 3 + j by simp [eCells]; omega, this]
      simp [ge]

/-- Of a slice of edges: each cell of each. -/
theorem Rd.edges {w : World} {A : Option Addr} {n : Nat} {E : List Edg} (h : Rd w A 3 n (esCells E)) (hn : 0 < n) :
    ∃ b off, A = some ⟨b, off, none⟩ ∧ ∀ k, k < n → w.cell? ⟨b, off + k * 3, none⟩ = some (.int .i64 (ge E k).f) ∧ w.cell? ⟨b, off + k * 3 + 1, none⟩ = some (.int .i64 (ge E k).t) ∧ w.cell? ⟨b, off + k * 3 + 2, none⟩ = some (.int .u64 (ge E k).w) := by
  have hl := h.1
  rw [esCells_length] at hl
  obtain ⟨b, off, e, hc⟩ := h.2 hn (by omega)
  refine ⟨b, off, e, fun k hk => ⟨?_, ?_, ?_⟩⟩
  · exact hc (k * 3 + 0) _ (by rw [esCells_at E k 0 (by omega) (by omega)]; rfl)
  · have := hc (k * 3 + 1) _ (by rw [esCells_at E k 1 (by omega) (by omega)]; rfl)
    rwa [← Nat.add_assoc] at this
  · have := hc (k * 3 + 2) _ (by rw [esCells_at E k 2 (by omega) (by omega)]; rfl)
    rwa [← Nat.add_assoc] at this
theorem Rd.elen {w : World} {A : Option Addr} {n : Nat} {E : List Edg} (h : Rd w A 3 n (esCells E)) : E.length = n := by
  have hl := h.1
  rw [esCells_length] at hl
  omega

def nodeB (N v : Int) : Bool := decide (0 ≤ v ∧ v < N)
def wtB (w : Int) : Bool := decide (1 ≤ w ∧ w ≤ 4294967296)
def looseB (N : Int) (e : Edg) : Bool := !nodeB N e.f || (!nodeB N e.t || decide (e.f = e.t))
def heavyB (e : Edg) : Bool := !wtB e.w
/-- Why a graph may not be; 0: it may. -/
def rightF (N : Int) (E : List Edg) : Int := if N < 1 ∨ 4096 < N then 2 else if 16384 < E.length then 5 else if E.any (looseB N) then 7 else if E.any heavyB then 2 else 0

set_option maxHeartbeats 400000 in
theorem gNode (N v : Int) (s : Value) (w : World) : Calls Try.prog 49 #[.agg #[.int .i64 N, s], .int .i64 v] w fun e w' => e = .returned (.bool (nodeB N v)) ∧ Grows w w' := by
  go_enter Try.func49, Try.ntmps49
  go_wp2
  all_goals go_ret
  all_goals exact ⟨ret_bool (bool_ext (by unfold nodeB; simp; try omega)), (by repeat (first | exact Grows.refl _ | refine Grows.now ?_ _ | refine Grows.new ?_ _ | refine Grows.drewN ?_ _ | refine Grows.drew ?_ | assumption | (refine Grows.set ?_ (by first | omega | (simp; done) | (simp; omega)) _)))⟩

set_option maxHeartbeats 400000 in
theorem gWeight (x : Int) (w : World) : Calls Try.prog 76 #[.int .u64 x] w fun e w' => e = .returned (.bool (wtB x)) ∧ w = w' := by
  go_enter Try.func76, Try.ntmps76
  go_wp2
  all_goals go_ret
  all_goals exact ⟨ret_bool (bool_ext (by unfold wtB; simp; try omega)), rfl⟩

set_option maxHeartbeats 400000 in
theorem gRight2 (x : Edg) (w : World) : Calls Try.prog 75 #[eVal x] w fun e w' => e = .returned (.bool (heavyB x)) ∧ Grows w w' := by
  unfold eVal
  go_enter Try.func75, Try.ntmps75
  go_wp2_with (first | (go_at_call 76; refine (gWeight _ _).mono ?_; rintro e w' ⟨rfl, rfl⟩))
  all_goals go_ret
  all_goals exact ⟨ret_bool (by unfold heavyB; rfl), (by repeat (first | exact Grows.refl _ | refine Grows.now ?_ _ | refine Grows.new ?_ _ | refine Grows.drewN ?_ _ | refine Grows.drew ?_ | assumption | (refine Grows.set ?_ (by first | omega | (simp; done) | (simp; omega)) _)))⟩

set_option maxHeartbeats 1000000 in
theorem gRight1 (x : Edg) (N : Int) (s : Value) (g : Nat) (w : World) (c0 : w.cell? ⟨g, 0, none⟩ = some (.int .i64 N)) (c1 : w.cell? ⟨g, 1, none⟩ = some s) :
    Calls Try.prog 74 #[eVal x, .pointer (some ⟨g, 0, none⟩)] w fun e w' => e = .returned (.bool (looseB N x)) ∧ Grows w w' := by
  unfold eVal
  have C1 := fun W => gNode N x.f s W
  have C2 := fun W => gNode N x.t s W
  cases h1 : nodeB N x.f with
  | false =>
    have HW : Hid (looseB N x = true) := by unfold looseB; rw [h1]; rfl
    rw [h1] at C1
    have H1 := hide C1
    clear C1 C2 h1
    go_enter Try.func74, Try.ntmps74
    go_wp2_with (first | (go_at_call 49; refine (H1.out _).mono ?_; rintro e w' ⟨rfl, hg⟩; (first | obtain ⟨x, rfl⟩ := Grows.later2 hg | obtain ⟨x, rfl⟩ := Grows.later hg); clear hg))
    go_ret
    exact ⟨ret_bool HW.out.symm, (by repeat (first | exact Grows.refl _ | refine Grows.now ?_ _ | refine Grows.new ?_ _ | refine Grows.drewN ?_ _ | refine Grows.drew ?_ | assumption | (refine Grows.set ?_ (by first | omega | (simp; done) | (simp; omega)) _)))⟩
  | true =>
  cases h2 : nodeB N x.t with
  | false =>
    have HW : Hid (looseB N x = true) := by unfold looseB; rw [h1, h2]; rfl
    rw [h1] at C1
    rw [h2] at C2
    have H1 := hide C1
    have H2 := hide C2
    clear C1 C2 h1 h2
    go_enter Try.func74, Try.ntmps74
    go_wp2_with fail
    refine (H1.out _).mono ?_; rintro e w' ⟨rfl, hg⟩; obtain ⟨x1, rfl⟩ := Grows.later hg; clear hg
    go_wp2_with fail
    refine (H2.out _).mono ?_; rintro e w' ⟨rfl, hg⟩; obtain ⟨x2, rfl⟩ := Grows.later2 hg; clear hg
    go_wp2
    go_ret
    exact ⟨ret_bool HW.out.symm, (by repeat (first | exact Grows.refl _ | refine Grows.now ?_ _ | refine Grows.new ?_ _ | refine Grows.drewN ?_ _ | refine Grows.drew ?_ | assumption | (refine Grows.set ?_ (by first | omega | (simp; done) | (simp; omega)) _)))⟩
  | true =>
    have HW : Hid (looseB N x = decide (x.f = x.t)) := by unfold looseB; rw [h1, h2]; rfl
    rw [h1] at C1
    rw [h2] at C2
    have H1 := hide C1
    have H2 := hide C2
    clear C1 C2 h1 h2
    go_enter Try.func74, Try.ntmps74
    go_wp2_with fail
    refine (H1.out _).mono ?_; rintro e w' ⟨rfl, hg⟩; obtain ⟨x1, rfl⟩ := Grows.later hg; clear hg
    go_wp2_with fail
    refine (H2.out _).mono ?_; rintro e w' ⟨rfl, hg⟩; obtain ⟨x2, rfl⟩ := Grows.later2 hg; clear hg
    go_wp2
    go_ret
    exact ⟨ret_bool (by rw [HW.out]; first | rfl | (apply bool_ext; simp)), (by repeat (first | exact Grows.refl _ | refine Grows.now ?_ _ | refine Grows.new ?_ _ | refine Grows.drewN ?_ _ | refine Grows.drew ?_ | assumption | (refine Grows.set ?_ (by first | omega | (simp; done) | (simp; omega)) _)))⟩

/-- The first place at which p holds; -1: nowhere. -/
def firstI {α : Type} (p : α → Bool) : List α → Int
  | [] => -1
  | x :: l => if p x then 0 else (if firstI p l = -1 then -1 else firstI p l + 1)
theorem firstI_cons {α : Type} (p : α → Bool) (x : α) (l : List α) : firstI p (x :: l) = if p x then 0 else (if firstI p l = -1 then -1 else firstI p l + 1) := rfl
theorem firstI_nonneg {α : Type} (p : α → Bool) (l : List α) : -1 ≤ firstI p l := by
  induction l with
  | nil => simp [firstI]
  | cons x l ih => rw [firstI_cons]; split <;> (try split) <;> omega
theorem firstI_any {α : Type} (p : α → Bool) (l : List α) : decide (0 ≤ firstI p l) = l.any p := by
  induction l with
  | nil => simp [firstI]
  | cons x l ih =>
    have := firstI_nonneg p l
    rw [List.any_cons, ← ih, firstI_cons]
    cases h : p x
    · simp only [Bool.false_eq_true, if_false, Bool.false_or]
      split
      · rename_i h'; rw [h']
      · rw [decide_eq_true (by omega), decide_eq_true (by omega)]
    · simp
theorem firstI_none {α : Type} (p : α → Bool) (l : List α) (h : ∀ x ∈ l, p x = false) : firstI p l = -1 := by
  induction l with
  | nil => rfl
  | cons x l ih => rw [firstI_cons, h x (by simp), ih (fun y hy => h y (by simp [hy]))]; rfl
theorem firstI_at {α : Type} (p : α → Bool) (d : α) (l : List α) (k : Nat) (hk : k < l.length) (h : ∀ j, j < k → p (l.getD j d) = false) (h' : p (l.getD k d) = true) : firstI p l = k := by
  induction l generalizing k with
  | nil => simp at hk
  | cons x l ih =>
    rw [firstI_cons]
    cases k with
    | zero => have : p x = true := by simpa using h'
              rw [this]; rfl
    | succ k =>
      have h0 : p x = false := by simpa using h 0 (by omega)
      have := ih k (by simpa using hk) (fun j hj => by simpa using h (j + 1) (by omega)) (by simpa using h')
      rw [h0, this]
      simp only [Bool.false_eq_true, if_false]
      split <;> omega

set_option maxRecDepth 20000 in
set_option maxHeartbeats 1000000 in
theorem indexE (A : Option Addr) (n c : Nat) (E : List Edg) (k : FuncId) (cap : Array Value) (p : Edg → Bool) (w : World) (h : Rd w A 3 n (esCells E)) (hn : n ≤ 1000000) (hk : ∀ args W, (callFunc k args).run Try.prog W = .ok (.enter k args) W)
    (hf : ∀ W, Grows w W → ∀ e, Calls Try.prog k (#[eVal e] ++ cap) W fun x w' => x = .returned (.bool (p e)) ∧ Grows W w') :
    Calls Try.prog 113 #[.slice A n c, .func (.func k) #[] cap] w fun e w' => e = .returned (.int .i64 (firstI p E)) ∧ Grows w w' := by
  have HL := hide h.elen
  have HR := hide h
  have HF := hide hf
  clear h hf
  unfold eVal at HF
  go_enter Try.func113, Try.ntmps113
  go_wp2
  go_loopw [8] (fun i wr => ∃ k : Nat, k ≤ n ∧ i = .int .i64 (k : Int) ∧ (∃ x : Later w, wr = x.now) ∧ ∀ j, j < k → p (ge E j) = false) (fun i _ => n - (intOf i).toNat)
  case atStart => exact ⟨0, by omega, by go_num, ⟨⟨w, Grows.refl w⟩, rfl⟩, fun j h1 => by omega⟩
  case round =>
    obtain ⟨q, hq, rfl, ⟨x, rfl⟩, hall⟩ := hrel
    have HA := hide hall
    clear hall
    by_cases hend : n ≤ q
    · go_wp2
      go_ret
      refine ⟨ret_int ?_, (by repeat (first | exact Grows.refl _ | refine Grows.now ?_ _ | refine Grows.new ?_ _ | refine Grows.drewN ?_ _ | refine Grows.drew ?_ | assumption | (refine Grows.set ?_ (by first | omega | (simp; done) | (simp; omega)) _)))⟩
      have hl := HL.out
      have hh := HA.out
      rw [firstI_none]
      intro e he
      obtain ⟨j, hj, rfl⟩ := List.mem_iff_getElem.1 he
      have := hh j (by omega)
      simpa [ge, hj] using this
    · obtain ⟨b, off, rfl, hc⟩ := HR.out.edges (by omega)
      obtain ⟨hc1, hc2, hc3⟩ := hc q (by omega)
      clear hc
      go_wp2_with fail
      refine (HF.out _ (by repeat (first | exact Grows.refl _ | refine Grows.now ?_ _ | refine Grows.new ?_ _ | refine Grows.drewN ?_ _ | refine Grows.drew ?_ | assumption | (refine Grows.set ?_ (by first | omega | (simp; done) | (simp; omega)) _))) (ge E q)).mono ?_; rintro e w' ⟨rfl, hg⟩; obtain ⟨x1, rfl⟩ := Grows.later2 hg; clear hg
      cases hp : p (ge E q) with
      | true =>
        have HW : Hid (firstI p E = q) := firstI_at p ⟨0, 0, 0⟩ E q (by have := HL.out; omega) HA.out hp
        clear hp
        go_wp2
        go_ret
        exact ⟨ret_int HW.out.symm, (by repeat (first | exact Grows.refl _ | refine Grows.now ?_ _ | refine Grows.new ?_ _ | refine Grows.drewN ?_ _ | refine Grows.drew ?_ | assumption | (refine Grows.set ?_ (by first | omega | (simp; done) | (simp; omega)) _)))⟩
      | false =>
        have HP := hide hp
        clear hp
        go_wp2
        go_roundw
        case measure => simp [intOf]; omega
        case rel =>
          refine ⟨q + 1, by omega, by go_num, ⟨_, rfl⟩, fun j h1 => ?_⟩
          by_cases hj : j = q
          · rw [hj]; exact HP.out
          · exact HA.out j (by omega)

set_option maxHeartbeats 1000000 in
theorem containsE (A : Option Addr) (n c : Nat) (E : List Edg) (k : FuncId) (cap : Array Value) (p : Edg → Bool) (w : World) (h : Rd w A 3 n (esCells E)) (hn : n ≤ 1000000) (hk : ∀ args W, (callFunc k args).run Try.prog W = .ok (.enter k args) W)
    (hf : ∀ W, Grows w W → ∀ e, Calls Try.prog k (#[eVal e] ++ cap) W fun x w' => x = .returned (.bool (p e)) ∧ Grows W w') :
    Calls Try.prog 77 #[.slice A n c, .func (.func k) #[] cap] w fun e w' => e = .returned (.bool (E.any p)) ∧ Grows w w' := by
  have HC := hide (indexE A n c E k cap p w h hn hk hf)
  have HV := hide (firstI_any p E)
  clear h hf hk
  go_enter Try.func77, Try.ntmps77
  go_wp2_with (first | (go_at_call 113; refine (HC.out).mono ?_; rintro e w' ⟨rfl, hg⟩; (first | obtain ⟨x, rfl⟩ := Grows.later2 hg | obtain ⟨x, rfl⟩ := Grows.later hg); clear hg))
  all_goals go_ret
  all_goals exact ⟨ret_bool (by rw [← HV.out]), (by repeat (first | exact Grows.refl _ | refine Grows.now ?_ _ | refine Grows.new ?_ _ | refine Grows.drewN ?_ _ | refine Grows.drew ?_ | assumption | (refine Grows.set ?_ (by first | omega | (simp; done) | (simp; omega)) _)))⟩

set_option maxHeartbeats 2000000 in
theorem gRight (N : Int) (A : Option Addr) (n c : Nat) (E : List Edg) (w : World) (h : Rd w A 3 n (esCells E)) (hn : n ≤ 1000000) :
    Calls Try.prog 36 #[.agg #[.int .i64 N, .slice A n c]] w fun e w' => e = .returned (.int .i64 (rightF N E)) ∧ Grows w w' := by
  have HL := hide h.elen
  have HR := hide h
  clear h
  have K1 := fun args W => run_callGo (P := Try.prog) Try.func74 (by kernel_rfl) (by kernel_rfl) args W
  have K2 := fun args W => run_callGo (P := Try.prog) Try.func75 (by kernel_rfl) (by kernel_rfl) args W
  have HK1 := hide K1
  have HK2 := hide K2
  clear K1 K2
  by_cases h1 : N < 1 ∨ 4096 < N
  · have HW : Hid (rightF N E = 2) := by unfold rightF; rw [if_pos h1]; rfl
    go_enter Try.func36, Try.ntmps36
    go_wp2
    all_goals go_ret
    all_goals exact ⟨ret_int HW.out.symm, (by repeat (first | exact Grows.refl _ | refine Grows.now ?_ _ | refine Grows.new ?_ _ | refine Grows.drewN ?_ _ | refine Grows.drew ?_ | assumption | (refine Grows.set ?_ (by first | omega | (simp; done) | (simp; omega)) _)))⟩
  by_cases h2 : 16384 < n
  · have HW : Hid (rightF N E = 5) := by unfold rightF; rw [if_neg h1, if_pos (by have := HL.out; omega)]; rfl
    have h3 : 1 ≤ N := by omega
    have h4 : N ≤ 4096 := by omega
    clear h1
    go_enter Try.func36, Try.ntmps36
    go_wp2
    all_goals go_ret
    all_goals exact ⟨ret_int HW.out.symm, (by repeat (first | exact Grows.refl _ | refine Grows.now ?_ _ | refine Grows.new ?_ _ | refine Grows.drewN ?_ _ | refine Grows.drew ?_ | assumption | (refine Grows.set ?_ (by first | omega | (simp; done) | (simp; omega)) _)))⟩
  have h3 : 1 ≤ N := by omega
  have h4 : N ≤ 4096 := by omega
  have C1 := fun (W : World) (g : Grows w W) c0 c1 => containsE A n c E 74 #[.pointer (some ⟨w.heap.size, 0, none⟩)] (looseB N) W (HR.out.grows g) hn HK1.out (fun W' g' e => gRight1 e N (.slice A n c) w.heap.size W' (g'.keeps c0) (g'.keeps c1))
  have C2 := fun (W : World) (g : Grows w W) => containsE A n c E 75 #[] heavyB W (HR.out.grows g) hn HK2.out (fun W' _ e => gRight2 e W')
  cases hl : E.any (looseB N) with
  | true =>
    have HW : Hid (rightF N E = 7) := by unfold rightF; rw [if_neg h1, if_neg (by have := HL.out; omega), hl]; rfl
    rw [hl] at C1
    have H1 := hide C1
    clear C1 C2 hl h1
    go_enter Try.func36, Try.ntmps36
    go_wp2_with (first | (go_at_call 77; refine (H1.out _ (by repeat (first | exact Grows.refl _ | refine Grows.now ?_ _ | refine Grows.new ?_ _ | refine Grows.drewN ?_ _ | refine Grows.drew ?_ | assumption | (refine Grows.set ?_ (by first | omega | (simp; done) | (simp; omega)) _))) (by simp [go_sem]) (by simp [go_sem])).mono ?_; rintro e w' ⟨rfl, hg⟩; (first | obtain ⟨x, rfl⟩ := Grows.later2 hg | obtain ⟨x, rfl⟩ := Grows.later hg); clear hg))
    go_ret
    exact ⟨ret_int HW.out.symm, (by repeat (first | exact Grows.refl _ | refine Grows.now ?_ _ | refine Grows.new ?_ _ | refine Grows.drewN ?_ _ | refine Grows.drew ?_ | assumption | (refine Grows.set ?_ (by first | omega | (simp; done) | (simp; omega)) _)))⟩
  | false =>
    rw [hl] at C1
    have H1 := hide C1
    clear C1
    cases hh : E.any heavyB with
    | true =>
      have HW : Hid (rightF N E = 2) := by unfold rightF; rw [if_neg h1, if_neg (by have := HL.out; omega), hl, hh]; rfl
      rw [hh] at C2
      have H2 := hide C2
      clear C2 hl h1 hh
      go_enter Try.func36, Try.ntmps36
      go_wp2_with fail
      refine (H1.out _ (by repeat (first | exact Grows.refl _ | refine Grows.now ?_ _ | refine Grows.new ?_ _ | refine Grows.drewN ?_ _ | refine Grows.drew ?_ | assumption | (refine Grows.set ?_ (by first | omega | (simp; done) | (simp; omega)) _))) (by simp [go_sem]) (by simp [go_sem])).mono ?_; rintro e w' ⟨rfl, hg⟩; obtain ⟨x1, rfl⟩ := Grows.later hg; clear hg
      go_wp2_with fail
      refine (H2.out _ (by repeat (first | exact Grows.refl _ | refine Grows.now ?_ _ | refine Grows.new ?_ _ | refine Grows.drewN ?_ _ | refine Grows.drew ?_ | assumption | (refine Grows.set ?_ (by first | omega | (simp; done) | (simp; omega)) _)))).mono ?_; rintro e w' ⟨rfl, hg⟩; obtain ⟨x2, rfl⟩ := Grows.later2 hg; clear hg
      go_wp2
      go_ret
      exact ⟨ret_int HW.out.symm, (by repeat (first | exact Grows.refl _ | refine Grows.now ?_ _ | refine Grows.new ?_ _ | refine Grows.drewN ?_ _ | refine Grows.drew ?_ | assumption | (refine Grows.set ?_ (by first | omega | (simp; done) | (simp; omega)) _)))⟩
    | false =>
      have HW : Hid (rightF N E = 0) := by unfold rightF; rw [if_neg h1, if_neg (by have := HL.out; omega), hl, hh]; rfl
      rw [hh] at C2
      have H2 := hide C2
      clear C2 hl h1 hh
      go_enter Try.func36, Try.ntmps36
      go_wp2_with fail
      refine (H1.out _ (by repeat (first | exact Grows.refl _ | refine Grows.now ?_ _ | refine Grows.new ?_ _ | refine Grows.drewN ?_ _ | refine Grows.drew ?_ | assumption | (refine Grows.set ?_ (by first | omega | (simp; done) | (simp; omega)) _))) (by simp [go_sem]) (by simp [go_sem])).mono ?_; rintro e w' ⟨rfl, hg⟩; obtain ⟨x1, rfl⟩ := Grows.later hg; clear hg
      go_wp2_with fail
      refine (H2.out _ (by repeat (first | exact Grows.refl _ | refine Grows.now ?_ _ | refine Grows.new ?_ _ | refine Grows.drewN ?_ _ | refine Grows.drew ?_ | assumption | (refine Grows.set ?_ (by first | omega | (simp; done) | (simp; omega)) _)))).mono ?_; rintro e w' ⟨rfl, hg⟩; obtain ⟨x2, rfl⟩ := Grows.later2 hg; clear hg
      go_wp2
      go_ret
      exact ⟨ret_int HW.out.symm, (by repeat (first | exact Grows.refl _ | refine Grows.now ?_ _ | refine Grows.new ?_ _ | refine Grows.drewN ?_ _ | refine Grows.drew ?_ | assumption | (refine Grows.set ?_ (by first | omega | (simp; done) | (simp; omega)) _)))⟩

end Go.Proofs.Ytomednfddpggaaa

/- More rules for worlds that come later: what a cell holds, found by looking back as far as need be. -/
namespace Go.Proofs.Ytomednfddpggaaa
open Go Go.RowKit
theorem alloc_fz (w : World) (o : Obj) {p : Addr} (h : (w.cell? p).isSome = true) : (w.alloc o).frozen? p = w.frozen? p := Below.frozen ((Grows.refl w).new o) (cell_lt h)
attribute [go_sem] alloc_fz
theorem Grows.later3 {w w' : World} {y : Later w} {o : Obj} (h : Grows (y.now.alloc o) w') : ∃ x : Later w, w' = x.now := ⟨⟨w', (y.grows.new o).trans h⟩, rfl⟩
theorem Grows.later4 {w w' : World} {y : Later w} {o o' : Obj} (h : Grows ((y.now.alloc o).alloc o') w') : ∃ x : Later w, w' = x.now := ⟨⟨w', ((y.grows.new o).new o').trans h⟩, rfl⟩

/-- The cell at p holds v. -/
class Holds (w : World) (p : Addr) (v : outParam Value) : Prop where
  cell : w.cell? p = some v
/-- The cell at p holds v and may be written. -/
class Mine (w : World) (p : Addr) (v : outParam Value) : Prop where
  cell : w.cell? p = some v
  free : w.frozen? p = false
section
variable {w : World} {p : Addr} {v : Value}
instance Mine.holds [h : Mine w p v] : Holds w p v := ⟨h.cell⟩
instance Holds.now (x : Later w) [h : Holds w p v] : Holds x.now p v := ⟨x.grows.keeps h.cell⟩
instance Holds.alloc (o : Obj) [h : Holds w p v] : Holds (w.alloc o) p v := ⟨((Grows.refl w).new o).keeps h.cell⟩
instance Holds.drew [h : Holds w p v] : Holds w.drew p v := ⟨(Grows.refl w).drew.keeps h.cell⟩
instance Holds.drewN (n : Nat) [h : Holds w p v] : Holds (w.drewN n) p v := ⟨((Grows.refl w).drewN n).keeps h.cell⟩
theorem Mine.grow {w' : World} (h : Mine w p v) (g : Grows w w') : Mine w' p v := ⟨g.keeps h.cell, (Below.frozen g (cell_lt (by rw [h.cell]; rfl))).trans h.free⟩
instance Mine.now (x : Later w) [h : Mine w p v] : Mine x.now p v := h.grow x.grows
instance Mine.alloc (o : Obj) [h : Mine w p v] : Mine (w.alloc o) p v := h.grow ((Grows.refl w).new o)
instance Mine.drew [h : Mine w p v] : Mine w.drew p v := h.grow (Grows.refl w).drew
instance Mine.drewN (n : Nat) [h : Mine w p v] : Mine (w.drewN n) p v := h.grow ((Grows.refl w).drewN n)
theorem Mine.fresh (w : World) (l : List Value) (t : TypeId) (k : Nat) (v : Value) (h : l[k]? = some v) : Mine (w.alloc (.cells l.toArray t)) ⟨w.heap.size, k, none⟩ v := ⟨by simpa [go_sem] using h, by simp [go_sem]⟩
instance Mine.new0 (w : World) (v : Value) (l : List Value) (t : TypeId) : Mine (w.alloc (.cells (v :: l).toArray t)) ⟨w.heap.size, 0, none⟩ v := Mine.fresh w _ t 0 v rfl
instance Mine.new1 (w : World) (v0 v : Value) (l : List Value) (t : TypeId) : Mine (w.alloc (.cells (v0 :: v :: l).toArray t)) ⟨w.heap.size, 1, none⟩ v := Mine.fresh w _ t 1 v rfl
instance Mine.new2 (w : World) (v0 v1 v : Value) (l : List Value) (t : TypeId) : Mine (w.alloc (.cells (v0 :: v1 :: v :: l).toArray t)) ⟨w.heap.size, 2, none⟩ v := Mine.fresh w _ t 2 v rfl
instance Mine.new3 (w : World) (v0 v1 v2 v : Value) (l : List Value) (t : TypeId) : Mine (w.alloc (.cells (v0 :: v1 :: v2 :: v :: l).toArray t)) ⟨w.heap.size, 3, none⟩ v := Mine.fresh w _ t 3 v rfl
theorem Mine.fresh1 (w : World) (o : Obj) (l : List Value) (t : TypeId) (k : Nat) (v : Value) (h : l[k]? = some v) : Mine ((w.alloc o).alloc (.cells l.toArray t)) ⟨w.heap.size + 1, k, none⟩ v := by
  have := Mine.fresh (w.alloc o) l t k v h
  rwa [show (w.alloc o).heap.size = w.heap.size + 1 by simp] at this
instance Mine.newA0 (w : World) (o : Obj) (v : Value) (l : List Value) (t : TypeId) : Mine ((w.alloc o).alloc (.cells (v :: l).toArray t)) ⟨w.heap.size + 1, 0, none⟩ v := Mine.fresh1 w o _ t 0 v rfl
instance Mine.newA1 (w : World) (o : Obj) (v0 v : Value) (l : List Value) (t : TypeId) : Mine ((w.alloc o).alloc (.cells (v0 :: v :: l).toArray t)) ⟨w.heap.size + 1, 1, none⟩ v := Mine.fresh1 w o _ t 1 v rfl
instance Mine.newA2 (w : World) (o : Obj) (v0 v1 v : Value) (l : List Value) (t : TypeId) : Mine ((w.alloc o).alloc (.cells (v0 :: v1 :: v :: l).toArray t)) ⟨w.heap.size + 1, 2, none⟩ v := Mine.fresh1 w o _ t 2 v rfl
theorem Mine.fresh2 (w : World) (o o' : Obj) (l : List Value) (t : TypeId) (k : Nat) (v : Value) (h : l[k]? = some v) : Mine (((w.alloc o).alloc o').alloc (.cells l.toArray t)) ⟨w.heap.size + 1 + 1, k, none⟩ v := by
  have := Mine.fresh ((w.alloc o).alloc o') l t k v h
  rwa [show ((w.alloc o).alloc o').heap.size = w.heap.size + 1 + 1 by simp] at this
instance Mine.newB0 (w : World) (o o' : Obj) (v : Value) (l : List Value) (t : TypeId) : Mine (((w.alloc o).alloc o').alloc (.cells (v :: l).toArray t)) ⟨w.heap.size + 1 + 1, 0, none⟩ v := Mine.fresh2 w o o' _ t 0 v rfl
instance Mine.newB1 (w : World) (o o' : Obj) (v0 v : Value) (l : List Value) (t : TypeId) : Mine (((w.alloc o).alloc o').alloc (.cells (v0 :: v :: l).toArray t)) ⟨w.heap.size + 1 + 1, 1, none⟩ v := Mine.fresh2 w o o' _ t 1 v rfl
/-- Two cells in blocks that are unlike. -/
theorem Mine.set_same [h : Mine w p v] (u : Value) : Mine (w.setCell p u) p u := ⟨World.cell?_setCell_same w p u h.cell, by have := h.free; simpa using this⟩
theorem Mine.set_other {q : Addr} (h : Mine w p v) (u : Value) (hne : q ≠ p) : Mine (w.setCell q u) p v := ⟨by rw [World.cell?_setCell_other _ _ _ _ hne]; exact h.cell, by have := h.free; simpa using this⟩
theorem cell_holds [h : Holds w p v] : w.cell? p = some v := h.cell
theorem free_mine [h : Mine w p v] : w.frozen? p = false := h.free
end
attribute [go_sem] cell_holds free_mine
example (w : World) (x : Later ((w.alloc (.cells #[.bool true] 3)).alloc (.cells #[.bool true, .bool false] 4))) (y : Later (x.now.alloc (.cells #[.bool true, .int .i64 5] 4))) (z : Later y.now) : z.now.cell? ⟨x.now.heap.size, 1, none⟩ = some (.int .i64 5) := by simp [go_sem]
example (w : World) (x : Later ((w.alloc (.cells #[.bool true] 3)).alloc (.cells #[.bool true, .bool false] 4))) (y : Later (x.now.alloc (.cells #[.bool true, .int .i64 5] 4))) (z : Later y.now) : z.now.cell? ⟨w.heap.size + 1, 1, none⟩ = some (.bool false) := by simp [go_sem]
example (w : World) (p : Addr) (h : Holds w p (.bool true)) (x : Later ((w.alloc (.cells #[.bool true] 3)).alloc (.cells #[.bool true, .bool false] 4))) (y : Later (x.now.alloc (.cells #[.bool true, .int .i64 5] 4))) (z : Later y.now) : z.now.cell? p = some (.bool true) := by simp [go_sem]
end Go.Proofs.Ytomednfddpggaaa

/- Slices of a call's own, once more: appends of one element; slices that read as numbers and edges. -/
namespace Go.Proofs.Ytomednfddpggaaa
open Go Go.RowKit
theorem elemInt : Elem 30 3 1 := by
  have h : (Try.prog.info? 3).map (fun i => (i.zero, i.size, i.bytes)) = some (some (.int .i64 0), 1, 8) := by kernel_rfl
  obtain ⟨i, hi, hz, hs, hb⟩ := info_parts h
  exact ⟨Try.underlying30, ⟨i, _, 8, hi, hz, hs, hb, rfl, by omega⟩, by omega⟩
theorem Rd.intsH {w : World} {A : Option Addr} {n : Nat} {k : IntKind} {xs : List Int} (h : Rd w A 1 n (xs.map (.int k))) (hn : 0 < n) :
    ∃ b off, A = some ⟨b, off, none⟩ ∧ ∀ j, j < n → Holds w ⟨b, off + j, none⟩ (.int k (gi xs j)) := by
  obtain ⟨b, off, e, hc⟩ := h.ints hn
  exact ⟨b, off, e, fun j hj => ⟨hc j hj⟩⟩
theorem Rd.edgesH {w : World} {A : Option Addr} {n : Nat} {E : List Edg} (h : Rd w A 3 n (esCells E)) (hn : 0 < n) :
    ∃ b off, A = some ⟨b, off, none⟩ ∧ ∀ k, k < n → Holds w ⟨b, off + k * 3, none⟩ (.int .i64 (ge E k).f) ∧ Holds w ⟨b, off + k * 3 + 1, none⟩ (.int .i64 (ge E k).t) ∧ Holds w ⟨b, off + k * 3 + 2, none⟩ (.int .u64 (ge E k).w) := by
  obtain ⟨b, off, e, hc⟩ := h.edges hn
  exact ⟨b, off, e, fun j hj => ⟨⟨(hc j hj).1⟩, ⟨(hc j hj).2.1⟩, ⟨(hc j hj).2.2⟩⟩⟩
/-- What a call hands back: a slice of numbers. -/
theorem Own.build (w : World) (e : TypeId) (l : List Value) (B : Nat) (hB : B ≤ w.heap.size) (hl : l.length ≤ 1000000) : Own (w.alloc (.cells l.toArray e)) B e 1 (some ⟨w.heap.size, 0, none⟩) l.length l.length l :=
  ⟨by omega, .inr ⟨w.heap.size, l.length, l.toArray, rfl, hB, (by show (w.heap.push _)[w.heap.size]? = _; simp), Nat.le_refl _, by unfold maxLen; omega, by simp, by simp⟩⟩
theorem Own.at {w : World} {B n c : Nat} {e : TypeId} {A : Option Addr} {xs : List Value} (h : Own w B e 1 A n c xs) (hn : 0 < n) : ∃ g, A = some ⟨g, 0, none⟩ ∧ B ≤ g ∧ ∀ j u, xs[j]? = some u → Mine w ⟨g, j, none⟩ u := by
  obtain ⟨g, cur, rfl, hB, _⟩ := h.at_ hn
  exact ⟨g, rfl, hB, fun j u hu => ⟨h.cell rfl hu, h.frozen rfl hn j⟩⟩
section
variable {P : Program} {w : World} {e : TypeId} {ops : Array Oper} {rest : List Oper} {o : Oper} {a : Act} {Q : Exit → Act → World → Prop}
/-- append of one element of one cell. -/
theorem wp_app1 {t : TypeId} (E : Elem t e 1) (hgd : o.guard = none) (s x : Operand) (ho : o.op = .call { callee := .builtin .append, args := #[s, x], argTypes := #[t, t] })
    (w0 : World) (hw0 : Grows w0 w) (n c : Nat) (A : Option Addr) (xs : List Value) (hs : a.eval s = .slice A n c) (hown : Own w w0.heap.size e 1 A n c xs) (g c' : Nat) (v : Value) (hx : a.eval x = .slice (some ⟨g, 0, none⟩) 1 c')
    (hv : Holds w ⟨g, 0, none⟩ v) (h1 : v.oneCell' = true) (hnm : n + 1 ≤ 1000000000000)
    (h : ∀ A' c'' (y : Later w0), Own y.now w0.heap.size e 1 A' (n + 1) c'' (xs ++ [v]) → wpList Try.prog ops Q rest (a.put o.dst (.slice A' (n + 1) c'')) y.now) :
    wpList Try.prog ops Q (o :: rest) a w := by
  refine wp_app E hgd s x ho w0.heap.size n c A xs hs hown g 1 c' [v] hx rfl ?_ (by intro u hu; simp at hu; rw [hu]; exact h1) hnm hw0.size ?_
  · intro j u hu
    have hj : j = 0 := by
      have := (List.getElem?_eq_some_iff.1 hu).1
      simpa using this
    subst hj
    simp at hu
    subst hu
    exact hv.cell
  · intro A' c'' w' ho hg
    obtain ⟨y, rfl⟩ := (hg w0 hw0 (Nat.le_refl _)).later
    exact h A' c'' y ho
end
end Go.Proofs.Ytomednfddpggaaa

/- Slices that a call makes with make. -/
namespace Go.Proofs.Ytomednfddpggaaa
open Go Go.RowKit
/-- What the model knows of an element's type of one cell. -/
structure Elem1 (t e : TypeId) (z : Value) : Prop where
  under : Try.prog.underlying t = some (.slice e)
  info : ∃ i, Try.prog.info? e = some i ∧ i.zero = some z ∧ i.size = 1 ∧ i.bytes ≤ 64
  one : z.cells = #[z]
theorem Elem1.elem {t e : TypeId} {z : Value} (h : Elem1 t e z) : Elem t e 1 := by
  obtain ⟨i, h1, h2, h3, h4⟩ := h.info
  exact ⟨h.under, ⟨i, z, i.bytes, h1, h2, h3, rfl, by rw [h.one]; rfl, h4⟩, by omega⟩
theorem elemInt1 : Elem1 30 3 (.int .i64 0) := by
  have h : (Try.prog.info? 3).map (fun i => (i.zero, i.size, i.bytes)) = some (some (.int .i64 0), 1, 8) := by kernel_rfl
  obtain ⟨i, hi, hz, hs, hb⟩ := info_parts h
  exact ⟨Try.underlying30, ⟨i, hi, hz, hs, by omega⟩, rfl⟩
theorem elemU64 : Elem1 37 38 (.int .u64 0) := by
  have h : (Try.prog.info? 38).map (fun i => (i.zero, i.size, i.bytes)) = some (some (.int .u64 0), 1, 8) := by kernel_rfl
  obtain ⟨i, hi, hz, hs, hb⟩ := info_parts h
  exact ⟨Try.underlying37, ⟨i, hi, hz, hs, by omega⟩, rfl⟩
section
variable {w : World} {e : TypeId} {ops : Array Oper} {rest : List Oper} {o : Oper} {a : Act} {Q : Exit → Act → World → Prop}
/-- make of n elements of one cell. -/
theorem wp_make1 {t : TypeId} {z : Value} (E : Elem1 t e z) (hgd : o.guard = none) (l c : Operand) (ho : o.op = Op.makeSlice t l c) (w0 : World) (hw0 : Grows w0 w) (n : Nat) {L C : Int} (hl : a.eval l = .int .i64 L) (hc : a.eval c = .int .i64 C)
    (hL : L = (n : Int)) (hC : C = (n : Int)) (hn : n ≤ 1000000000)
    (h : ∀ g (y : Later w0), w0.heap.size ≤ g → Own y.now w0.heap.size e 1 (some ⟨g, 0, none⟩) n n (List.replicate n z) → wpList Try.prog ops Q rest (a.put o.dst (.slice (some ⟨g, 0, none⟩) n n)) y.now) :
    wpList Try.prog ops Q (o :: rest) a w := by
  obtain ⟨i, h1, h2, h3, h4⟩ := E.info
  refine wpList_make_full w hgd l c t ho w0.heap.size e i z 1 E.under h1 h2 h3 .i64 .i64 L C n hl hc hL hC ?_ (by unfold maxLen; omega) hw0.size ?_
  · have := Nat.mul_le_mul h4 hn; omega
  · intro w' hown hg
    have hg' : Grows w w' := ⟨hg.os, hg.tape, hg.output, hg.size, fun k hk => hg.block k hk (by simp)⟩
    obtain ⟨y, rfl⟩ := (hw0.trans hg').later
    rw [E.one, toList_madeCells_one, Nat.mul_one] at hown
    exact h _ y hw0.size hown
end
section
variable {w : World} {e : TypeId} {ops : Array Oper} {rest : List Oper} {o : Oper} {a : Act} {Q : Exit → Act → World → Prop}
/-- append of one element of some cells. -/
theorem wp_appS {t : TypeId} {size : Nat} (E : Elem t e size) (hgd : o.guard = none) (s x : Operand) (ho : o.op = .call { callee := .builtin .append, args := #[s, x], argTypes := #[t, t] })
    (w0 : World) (hw0 : Grows w0 w) (n c : Nat) (A : Option Addr) (xs : List Value) (hs : a.eval s = .slice A n c) (hown : Own w w0.heap.size e size A n c xs) (g c' : Nat) (news : List Value) (hx : a.eval x = .slice (some ⟨g, 0, none⟩) 1 c')
    (hl : news.length = size) (hv : ∀ j u, news[j]? = some u → w.cell? ⟨g, j, none⟩ = some u) (h1 : ∀ u ∈ news, u.oneCell' = true) (hnm : n + 1 ≤ 1000000000000)
    (h : ∀ A' c'' (y : Later w0), Own y.now w0.heap.size e size A' (n + 1) c'' (xs ++ news) → wpList Try.prog ops Q rest (a.put o.dst (.slice A' (n + 1) c'')) y.now) :
    wpList Try.prog ops Q (o :: rest) a w := by
  refine wp_app E hgd s x ho w0.heap.size n c A xs hs hown g 1 c' news hx (by omega) hv h1 hnm hw0.size ?_
  intro A' c'' w' ho hg
  obtain ⟨y, rfl⟩ := (hg w0 hw0 (Nat.le_refl _)).later
  exact h A' c'' y ho
end
/-- A map is nothing to an append. -/
theorem MapII.row {w w' : World} {b n s B n' c size : Nat} {f : Int → Option Int} {e : TypeId} {A : Option Addr} {xs : List Value} (h : MapII w b n s f) (ho : Own w B e size A n' c xs) (hg : w.grownBy w' (Value.slice A n' c).ownBlock) : MapII w' b n s f := by
  obtain ⟨D, h1, h2⟩ := h
  refine ⟨D, h1.kept hg ?_, h2⟩
  obtain ⟨es, clock, hb, _⟩ := h1
  intro hc
  rcases ho.2 with ⟨h3, _⟩ | ⟨g, cap, cur, h3, _, h4, _⟩
  · injection h3 with h3
    subst h3
    simp [Value.ownBlock] at hc
  · injection h3 with h3
    subst h3
    simp [Value.ownBlock] at hc
    subst hc
    rw [hb] at h4
    cases h4
section
variable {w : World} {e : TypeId} {ops : Array Oper} {rest : List Oper} {o : Oper} {a : Act} {Q : Exit → Act → World → Prop}
/-- append of one element of one cell, and what it leaves as it was. -/
theorem wp_app1M {t : TypeId} (E : Elem t e 1) (hgd : o.guard = none) (s x : Operand) (ho : o.op = .call { callee := .builtin .append, args := #[s, x], argTypes := #[t, t] })
    (w0 : World) (hw0 : Grows w0 w) (n c : Nat) (A : Option Addr) (xs : List Value) (hs : a.eval s = .slice A n c) (hown : Own w w0.heap.size e 1 A n c xs) (g c' : Nat) (v : Value) (hx : a.eval x = .slice (some ⟨g, 0, none⟩) 1 c')
    (hv : Holds w ⟨g, 0, none⟩ v) (h1 : v.oneCell' = true) (hnm : n + 1 ≤ 1000000000000)
    (h : ∀ A' c'' (y : Later w0), Own y.now w0.heap.size e 1 A' (n + 1) c'' (xs ++ [v]) → w.grownBy y.now (Value.slice A n c).ownBlock → wpList Try.prog ops Q rest (a.put o.dst (.slice A' (n + 1) c'')) y.now) :
    wpList Try.prog ops Q (o :: rest) a w := by
  obtain ⟨i, z, bytes, hi, hz, hsz, hby, hzs, hb64⟩ := E.info
  refine wpList_append_own w hgd s x t ho w0.heap.size e i z 1 bytes E.under hi hz hsz hby hzs E.pos (.slice A n c) n xs hs hown ⟨g, 0, none⟩ 1 c' [v] hx rfl (fun j u hu => ?_) (by intro u hu; simp at hu; rw [hu]; exact h1) (by unfold maxLen; omega) ?_ hw0.size ?_
  · have hj : j = 0 := by
      have := (List.getElem?_eq_some_iff.1 hu).1
      simpa using this
    subst hj
    simp at hu
    subst hu
    simpa [Addr.add] using hv.cell
  · exact Nat.le_trans (Nat.mul_le_mul hnm hb64) (by omega)
  · intro v' w' hown' hgr _
    obtain ⟨A', c'', rfl⟩ := own_form hown'
    have hgw : Grows w0 w' := by
      refine ⟨hgr.os.trans hw0.os, hgr.tape.trans hw0.tape, hgr.output.trans hw0.output, Nat.le_trans hw0.size hgr.size, fun k hk => ?_⟩
      refine (hgr.block k (Nat.lt_of_lt_of_le hk hw0.size) fun e => ?_).trans (hw0.block k hk)
      have := World.ownsRow.lt hown k e.symm
      omega
    obtain ⟨y, rfl⟩ := hgw.later
    exact h A' c'' y hown' hgr
end
/-- A cell of an own slice is written. -/
theorem Own.put {w w0 : World} {n c j g : Nat} {e : TypeId} {xs : List Value} (h : Own w w0.heap.size e 1 (some ⟨g, 0, none⟩) n c xs) (hw0 : Grows w0 w) (hn : 0 < n) (u : Value) :
    ∃ y : Later w0, w.setCell ⟨g, j, none⟩ u = y.now ∧ Own y.now w0.heap.size e 1 (some ⟨g, 0, none⟩) n c (xs.set j u) := by
  obtain ⟨g', hA, hB, _⟩ := h.at hn
  injection hA with hA
  injection hA with hA
  subst hA
  exact ⟨⟨_, hw0.set hB u⟩, rfl, h.set rfl hn j u⟩
end Go.Proofs.Ytomednfddpggaaa

/- Slices of edges and of changes: read, copied, one cell written. -/
namespace Go.Proofs.Ytomednfddpggaaa
open Go Go.RowKit
/-- Cells of elements that have so many each. -/
theorem flat_len {α : Type} (f : α → List Value) (s : Nat) (hf : ∀ a, (f a).length = s) (L : List α) : (L.flatMap f).length = L.length * s := by
  induction L with
  | nil => simp
  | cons a L ih => rw [List.flatMap_cons, List.length_append, ih, hf, List.length_cons, Nat.succ_mul]; omega
theorem flat_get {α : Type} (f : α → List Value) (s : Nat) (hf : ∀ a, (f a).length = s) (d : α) : ∀ (L : List α) (k j : Nat), k < L.length → j < s → (L.flatMap f)[k * s + j]? = (f (L.getD k d))[j]?
  | a :: L, 0, j, _, hj => by rw [List.flatMap_cons, Nat.zero_mul, Nat.zero_add, List.getElem?_append_left (by rw [hf]; exact hj)]; rfl
  | a :: L, k + 1, j, hk, hj => by
    rw [List.flatMap_cons, List.getElem?_append_right (by rw [hf, Nat.succ_mul]; omega), hf]
    have := flat_get f s hf d L k j (by simpa using hk) hj
    rw [show (k + 1) * s + j - s = k * s + j by rw [Nat.succ_mul]; omega, this]
    rfl
/-- A change of an edge's weight. -/
structure Chg where
  e : Int
  w : Int
def cCells (c : Chg) : List Value := [.int .i64 c.e, .int .u64 c.w]
def csCells (L : List Chg) : List Value := L.flatMap cCells
def gc (L : List Chg) (k : Nat) : Chg := L.getD k ⟨0, 0⟩
theorem csCells_len (L : List Chg) : (csCells L).length = L.length * 2 := flat_len cCells 2 (fun _ => rfl) L
theorem csCells_app (L : List Chg) (c : Chg) : csCells (L ++ [c]) = csCells L ++ [.int .i64 c.e, .int .u64 c.w] := by simp [csCells, cCells]
theorem Rd.clen {w : World} {A : Option Addr} {n : Nat} {L : List Chg} (h : Rd w A 2 n (csCells L)) : L.length = n := by
  have hl := h.1
  rw [csCells_len] at hl
  omega
theorem Rd.chgsH {w : World} {A : Option Addr} {n : Nat} {L : List Chg} (h : Rd w A 2 n (csCells L)) (hn : 0 < n) :
    ∃ b off, A = some ⟨b, off, none⟩ ∧ ∀ k, k < n → Holds w ⟨b, off + k * 2, none⟩ (.int .i64 (gc L k).e) ∧ Holds w ⟨b, off + k * 2 + 1, none⟩ (.int .u64 (gc L k).w) := by
  have hl := h.clen
  obtain ⟨b, off, e, hc⟩ := h.2 hn (by omega)
  refine ⟨b, off, e, fun k hk => ⟨⟨?_⟩, ⟨?_⟩⟩⟩
  · exact hc (k * 2 + 0) _ (by unfold csCells; rw [flat_get cCells 2 (fun _ => rfl) ⟨0, 0⟩ L k 0 (by omega) (by omega)]; rfl)
  · have := hc (k * 2 + 1) _ (by unfold csCells; rw [flat_get cCells 2 (fun _ => rfl) ⟨0, 0⟩ L k 1 (by omega) (by omega)]; rfl)
    rwa [← Nat.add_assoc] at this
theorem elemEdge : Elem 22 68 3 := by
  have h : (Try.prog.info? 68).map (fun i => (i.zero, i.size, i.bytes)) = some (some (.agg #[.int .i64 0, .int .i64 0, .int .u64 0]), 3, 24) := by kernel_rfl
  obtain ⟨i, hi, hz, hs, hb⟩ := info_parts h
  exact ⟨Try.underlying22, ⟨i, _, 24, hi, hz, hs, hb, rfl, by omega⟩, by omega⟩
/-- An empty slice that is not nil. -/
theorem Own.empty (w : World) (e : TypeId) (B size : Nat) (hB : B ≤ w.heap.size) : Own (w.alloc (.cells #[] e)) B e size (some ⟨w.heap.size, 0, none⟩) 0 0 [] :=
  ⟨by simp, .inr ⟨w.heap.size, 0, #[], rfl, hB, (by show (w.heap.push _)[w.heap.size]? = _; simp), Nat.le_refl _, by unfold maxLen; omega, by simp, by simp⟩⟩
theorem add_pl2 (b off i : Nat) : (⟨b, off, none⟩ : Addr).add i = ⟨b, off + i, none⟩ := by
  unfold Addr.add
  split
  · rename_i h; rw [h, Nat.add_zero]
  · rfl
section
variable {w : World} {e : TypeId} {ops : Array Oper} {rest : List Oper} {o : Oper} {a : Act} {Q : Exit → Act → World → Prop}
/-- append of all of another slice. -/
theorem wp_appAll {t : TypeId} {size : Nat} (E : Elem t e size) (hgd : o.guard = none) (s x : Operand) (ho : o.op = .call { callee := .builtin .append, args := #[s, x], argTypes := #[t, t] })
    (w0 : World) (hw0 : Grows w0 w) (n c : Nat) (A : Option Addr) (xs : List Value) (hs : a.eval s = .slice A n c) (hown : Own w w0.heap.size e size A n c xs) (ad : Addr) (m d : Nat) (ys : List Value) (hx : a.eval x = .slice (some ad) m d)
    (hr : Rd w (some ad) size m ys) (h1 : ∀ u ∈ ys, u.oneCell' = true) (hnm : n + m ≤ 1000000000000)
    (h : ∀ A' c'' (y : Later w0), Own y.now w0.heap.size e size A' (n + m) c'' (xs ++ ys) → wpList Try.prog ops Q rest (a.put o.dst (.slice A' (n + m) c'')) y.now) :
    wpList Try.prog ops Q (o :: rest) a w := by
  obtain ⟨i, z, bytes, hi, hz, hsz, hby, hzs, hb64⟩ := E.info
  refine wpList_append_own w hgd s x t ho w0.heap.size e i z size bytes E.under hi hz hsz hby hzs E.pos (.slice A n c) n xs hs hown ad m d ys hx hr.1 (fun j u hu => ?_) h1 (by unfold maxLen; omega) ?_ hw0.size ?_
  · have hj := (List.getElem?_eq_some_iff.1 hu).1
    have hl := hr.1
    have hm : 0 < m := by
      rcases Nat.eq_zero_or_pos m with h0 | h0
      · subst h0; simp at hl; subst hl; simp at hj
      · exact h0
    obtain ⟨b, off, he, hc⟩ := hr.2 hm E.pos
    obtain rfl : ad = ⟨b, off, none⟩ := Option.some.inj he
    rw [add_pl2]
    exact hc j u hu
  · exact Nat.le_trans (Nat.mul_le_mul hnm hb64) (by omega)
  · intro v' w' hown' hgr _
    obtain ⟨A', c'', rfl⟩ := own_form hown'
    have hgw : Grows w0 w' := by
      refine ⟨hgr.os.trans hw0.os, hgr.tape.trans hw0.tape, hgr.output.trans hw0.output, Nat.le_trans hw0.size hgr.size, fun k hk => ?_⟩
      refine (hgr.block k (Nat.lt_of_lt_of_le hk hw0.size) fun e => ?_).trans (hw0.block k hk)
      have := World.ownsRow.lt hown k e.symm
      omega
    obtain ⟨y, rfl⟩ := hgw.later
    exact h A' c'' y hown'
end
section
variable {w : World} {e : TypeId} {ops : Array Oper} {o : Oper} {a : Act} {K : Act → World → Prop} {Q : Exit → Act → World → Prop} {F : Prop}
/-- append of all of another slice, in a region that draws its order. -/
theorem step_appAll {t : TypeId} {size : Nat} (E : Elem t e size) (hgd : o.guard = none) (s x : Operand) (ho : o.op = .call { callee := .builtin .append, args := #[s, x], argTypes := #[t, t] })
    (w0 : World) (hw0 : Grows w0 w) (n c : Nat) (A : Option Addr) (xs : List Value) (hs : a.eval s = .slice A n c) (hown : Own w w0.heap.size e size A n c xs) (ad : Addr) (m d : Nat) (ys : List Value) (hx : a.eval x = .slice (some ad) m d)
    (hr : Rd w (some ad) size m ys) (h1 : ∀ u ∈ ys, u.oneCell' = true) (hnm : n + m ≤ 1000000000000)
    (h : ∀ A' c'' (y : Later w0), Own y.now w0.heap.size e size A' (n + m) c'' (xs ++ ys) → w.grownBy y.now (Value.slice A n c).ownBlock → K (a.put o.dst (.slice A' (n + m) c'')) y.now) :
    if Region.wanted o (yielded ops a.tmps) = true then Oper.wp Try.prog o a w K Q else F := by
  obtain ⟨i, z, bytes, hi, hz, hsz, hby, hzs, hb64⟩ := E.info
  rw [if_pos (by simp [Region.wanted, hgd])]
  refine wp_append_own w s x t ho w0.heap.size e i z size bytes E.under hi hz hsz hby hzs E.pos (.slice A n c) n xs hs hown ad m d ys hx hr.1 (fun j u hu => ?_) h1 (by unfold maxLen; omega) ?_ hw0.size ?_
  · have hj := (List.getElem?_eq_some_iff.1 hu).1
    have hl := hr.1
    have hm : 0 < m := by
      rcases Nat.eq_zero_or_pos m with h0 | h0
      · subst h0; simp at hl; subst hl; simp at hj
      · exact h0
    obtain ⟨b, off, he, hc⟩ := hr.2 hm E.pos
    obtain rfl : ad = ⟨b, off, none⟩ := Option.some.inj he
    rw [add_pl2]
    exact hc j u hu
  · exact Nat.le_trans (Nat.mul_le_mul hnm hb64) (by omega)
  · intro v' w' hown' hgr _
    obtain ⟨A', c'', rfl⟩ := own_form hown'
    have hgw : Grows w0 w' := by
      refine ⟨hgr.os.trans hw0.os, hgr.tape.trans hw0.tape, hgr.output.trans hw0.output, Nat.le_trans hw0.size hgr.size, fun k hk => ?_⟩
      refine (hgr.block k (Nat.lt_of_lt_of_le hk hw0.size) fun e => ?_).trans (hw0.block k hk)
      have := World.ownsRow.lt hown k e.symm
      omega
    obtain ⟨y, rfl⟩ := hgw.later
    exact h A' c'' y hown' hgr
end
section
variable {P : Program}
theorem run_append_empty (w : World) (t ty e : TypeId) (i : TypeInfo) (ht : P.underlying t = some (.slice e)) (hi : P.info? e = some i) (g ad : Addr) (m c : Nat) (hm : 0 < m) (hm2 : m ≤ 1000000000000) (hb : m * i.bytes ≤ 140737488355328) :
    (Builtin.append_ #[t, t] ty #[.slice (some g) 0 0, .slice (some ad) m c]).run P w = (Builtin.append_ #[t, t] ty #[.slice none 0 0, .slice (some ad) m c]).run P w := by
  have h1 : ¬ m = 0 := by omega
  have h2 : Builtin.nextslicecap m 0 = m := by unfold Builtin.nextslicecap; rw [if_pos (by omega)]
  have h3 : ¬ (281474976710656 < m * i.bytes) := by omega
  have h4 : ¬ ((9223372036854775807 : Int) < (m : Int)) := by omega
  have h5 : ∀ w, (loadCells g 0).run P w = .ok #[] w := fun w => by first | rfl | simp [loadCells, loadCellsFrom]
  have h6 : IntKind.i64.max = 9223372036854775807 := rfl
  simp [Builtin.append_, run_underlying ht, sizeOf, typeInfo, hi, Builtin.lenOf, Builtin.firstCells, h1, h2, h3, h4, h5, h6]
end
section
variable {w : World} {e : TypeId} {ops : Array Oper} {o : Oper} {a : Act} {K : Act → World → Prop} {Q : Exit → Act → World → Prop} {F : Prop}
/-- append of a whole slice to an empty one that is not nil, in a region that draws its order. -/
theorem step_appNew {t : TypeId} {size : Nat} (E : Elem t e size) (hgd : o.guard = none) (s x : Operand) (ho : o.op = .call { callee := .builtin .append, args := #[s, x], argTypes := #[t, t] })
    (g : Addr) (hs : a.eval s = .slice (some g) 0 0) (ad : Addr) (m d : Nat) (ys : List Value) (hx : a.eval x = .slice (some ad) m d)
    (hr : Rd w (some ad) size m ys) (h1 : ∀ u ∈ ys, u.oneCell' = true) (hm : 0 < m) (hnm : m ≤ 1000000000000)
    (h : ∀ A' c'' (y : Later w), Own y.now w.heap.size e size A' m c'' ys → K (a.put o.dst (.slice A' m c'')) y.now) :
    if Region.wanted o (yielded ops a.tmps) = true then Oper.wp Try.prog o a w K Q else F := by
  obtain ⟨i, z, bytes, hi, hz, hsz, hby, hzs, hb64⟩ := E.info
  have hbb : m * bytes ≤ 140737488355328 := Nat.le_trans (Nat.mul_le_mul hnm hb64) (by omega)
  have he := run_append_empty w t o.type e i E.under hi g ad m d hm hnm (by rw [hby]; exact hbb)
  obtain ⟨v', w', hrun, hown, hgr, _⟩ := run_append_own (P := Try.prog) w w.heap.size t o.type e i z size bytes E.under hi hz hsz hby hzs E.pos (.slice none 0 0) 0 [] (World.ownsRow_nil _ _ _ _) ad m d ys hr.1 (fun j u hu => by
    obtain ⟨b, off, he, hc⟩ := hr.2 hm E.pos
    obtain rfl : ad = ⟨b, off, none⟩ := Option.some.inj he
    rw [add_pl2]
    exact hc j u hu) h1 (by unfold maxLen; omega) (by rw [Nat.zero_add]; exact hbb) (Nat.le_refl _)
  rw [hrun] at he
  obtain ⟨A', c'', rfl⟩ := own_form hown
  have hw : Region.wanted o (yielded ops a.tmps) = true := by simp [Region.wanted, hgd]
  rw [if_pos hw]
  unfold Oper.wp
  simp [execOp, ho, resolve, invoke, builtin, hs, hx, he, Result.andThen]
  have hgw : Grows w w' := ⟨hgr.os, hgr.tape, hgr.output, hgr.size, fun k hk => hgr.block k hk (by simp [Value.ownBlock])⟩
  obtain ⟨y, rfl⟩ := hgw.later
  rw [Nat.zero_add, List.nil_append] at hown
  exact h A' c'' y hown
end
/-- Where an own slice of any elements lies. -/
theorem Own.atS {w : World} {B n c size : Nat} {e : TypeId} {A : Option Addr} {xs : List Value} (h : Own w B e size A n c xs) (hn : 0 < n) : ∃ g, A = some ⟨g, 0, none⟩ ∧ B ≤ g ∧ g < w.heap.size ∧ ∀ j u, xs[j]? = some u → Mine w ⟨g, j, none⟩ u := by
  obtain ⟨g, cur, rfl, hB, hh, _⟩ := h.at_ hn
  exact ⟨g, rfl, hB, (Array.getElem?_eq_some_iff.1 hh).1, fun j u hu => ⟨h.cell rfl hu, h.frozen rfl hn j⟩⟩
theorem Own.putS {w w0 : World} {n c j g size : Nat} {e : TypeId} {xs : List Value} (h : Own w w0.heap.size e size (some ⟨g, 0, none⟩) n c xs) (hw0 : Grows w0 w) (hn : 0 < n) (u : Value) :
    ∃ y : Later w0, w.setCell ⟨g, j, none⟩ u = y.now ∧ Own y.now w0.heap.size e size (some ⟨g, 0, none⟩) n c (xs.set j u) := by
  obtain ⟨g', cur, hA, hB, _⟩ := h.at_ hn
  injection hA with hA
  injection hA with hA
  subst hA
  exact ⟨⟨_, hw0.set hB u⟩, rfl, h.set rfl hn j u⟩
theorem Holds.other {w : World} {p q : Addr} {v : Value} (h : Holds w p v) (u : Value) (hne : q.block ≠ p.block) : Holds (w.setCell q u) p v :=
  ⟨by rw [World.cell?_setCell_other _ _ _ _ (fun e => hne (by rw [e]))]; exact h.cell⟩
theorem Rd.other {w : World} {A : Option Addr} {size n : Nat} {xs : List Value} {q : Addr} (h : Rd w A size n xs) (u : Value) (hne : ∀ b off, A = some ⟨b, off, none⟩ → q.block ≠ b) : Rd (w.setCell q u) A size n xs :=
  ⟨h.1, fun h1 h2 => by
    obtain ⟨b, off, e, hc⟩ := h.2 h1 h2
    exact ⟨b, off, e, fun j v hv => by rw [World.cell?_setCell_other _ _ _ _ (fun e' => hne b off e (by rw [e']))]; exact hc j v hv⟩⟩
/-- The edges with one weight set. -/
def setW (E : List Edg) (e : Nat) (w : Int) : List Edg := E.set e ⟨(ge E e).f, (ge E e).t, w⟩
theorem setW_len (E : List Edg) (e : Nat) (w : Int) : (setW E e w).length = E.length := by simp [setW]
theorem ge_setW (E : List Edg) (e : Nat) (w : Int) (j : Nat) (hj : j < E.length) : ge (setW E e w) j = if j = e then ⟨(ge E j).f, (ge E j).t, w⟩ else ge E j := by
  unfold setW
  by_cases h : j = e
  · subst h
    rw [if_pos rfl]
    show (E.set j _).getD j _ = _
    simp [hj]
  · rw [if_neg h]
    show (E.set e _).getD j _ = E.getD j _
    simp [List.getD_eq_getElem?_getD, List.getElem?_set_ne (Ne.symm h)]
theorem edg_ext {E F : List Edg} (hl : E.length = F.length) (h : ∀ j, j < E.length → ge E j = ge F j) : E = F := by
  apply List.ext_getElem hl
  intro j h1 h2
  have := h j h1
  simpa [ge, h1, h2] using this
theorem setW_same (E : List Edg) (e : Nat) : setW E e (ge E e).w = E := by
  refine edg_ext (setW_len _ _ _) fun j hj => ?_
  rw [setW_len] at hj
  rw [ge_setW _ _ _ _ hj]
  split
  · rename_i h; subst h; rfl
  · rfl
theorem esCells_setW (E : List Edg) (e : Nat) (w : Int) : (esCells E).set (e * 3 + 2) (.int .u64 w) = esCells (setW E e w) := by
  apply List.ext_getElem?
  intro i
  have hl1 : ((esCells E).set (e * 3 + 2) (.int .u64 w)).length = E.length * 3 := by rw [List.length_set, esCells_length]
  have hl2 : (esCells (setW E e w)).length = E.length * 3 := by rw [esCells_length, setW_len]
  rcases Nat.lt_or_ge i (E.length * 3) with hi | hi
  · have e0 : i = i / 3 * 3 + i % 3 := (Nat.div_add_mod' i 3).symm
    have h1 : i / 3 < E.length := by omega
    have h2 : i % 3 < 3 := by omega
    rw [e0]
    rw [esCells_at (setW E e w) _ _ (by rw [setW_len]; exact h1) h2, ge_setW _ _ _ _ h1]
    by_cases hq : i / 3 = e
    · rw [if_pos hq]
      by_cases hr : i % 3 = 2
      · rw [hq, hr, List.getElem?_set_self (by rw [esCells_length]; omega)]; rfl
      · rw [List.getElem?_set_ne (by omega), esCells_at E _ _ h1 h2]
        match h3 : i % 3, h2, hr with
        | 0, _, _ => rfl
        | 1, _, _ => rfl
        | 2, _, hr => exact absurd rfl hr
    · rw [if_neg hq, List.getElem?_set_ne (by omega), esCells_at E _ _ h1 h2]
  · rw [List.getElem?_eq_none (by omega), List.getElem?_eq_none (by omega)]
end Go.Proofs.Ytomednfddpggaaa
