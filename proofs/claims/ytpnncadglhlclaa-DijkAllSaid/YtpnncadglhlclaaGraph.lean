/- Contracts: which graphs may be, by the program and by its answer. -/
import Derived.Test.YtpnncadglhlclaaMem
import Derived.Test.YtpnncadglhlclaaRows
namespace Go.Proofs.Ytpnncadglhlclaa
open Go Go.RowKit

/-- An edge. -/
structure Edg where
  f : Int
  t : Int
  w : Int
deriving DecidableEq
def eCells (e : Edg) : List Value := [.int .i64 e.f, .int .i64 e.t, .int .u64 e.w]
def eVal (e : Edg) : Value := .agg #[.int .i64 e.f, .int .i64 e.t, .int .u64 e.w]
def esCells (E : List Edg) : List Value := E.flatMap eCells
def ge (E : List Edg) (k : Nat) : Edg := E.getD k ⟨0, 0, 0⟩

theorem esCells_length (E : List Edg) : (esCells E).length = E.length * 3 := by
  induction E with
  | nil => rfl
  | cons e E ih => simp [esCells, eCells] at *; omega
theorem esCells_at (E : List Edg) (k j : Nat) (hk : k < E.length) (hj : j < 3) : (esCells E)[k * 3 + j]? = (eCells (ge E k))[j]? := by
  induction E generalizing k with
  | nil => simp at hk
  | cons e E ih =>
    have h1 : esCells (e :: E) = eCells e ++ esCells E := rfl
    rw [h1]
    cases k with
    | zero => rw [List.getElem?_append_left (by simp [eCells]; omega)]; simp [ge]
    | succ k =>
      rw [List.getElem?_append_right (by simp [eCells]; omega)]
      have := ih k (by simpa using hk)
      rw [show (k + 1) * 3 + j - (eCells e).length = k * 3 + j by simp [eCells]; omega, this]
      simp [ge]

/-- Of a slice of edges: each cell of each. -/
theorem Rd.edges {w : World} {A : Option Addr} {n : Nat} {E : List Edg} (h : Rd w A 3 n (esCells E)) (hn : 0 < n) :
    ∃ b off, A = some ⟨b, off, none⟩ ∧ ∀ k, k < n → w.cell? ⟨b, off + k * 3, none⟩ = some (.int .i64 (ge E k).f) ∧ w.cell? ⟨b, off + k * 3 + 1, none⟩ = some (.int .i64 (ge E k).t) ∧ w.cell? ⟨b, off + k * 3 + 2, none⟩ = some (.int .u64 (ge E k).w) := by
  have hl := h.1
  rw [esCells_length] at hl
  obtain ⟨b, off, e, hc⟩ := h.2 hn (by omega)
  refine ⟨b, off, e, fun k hk => ⟨?_, ?_, ?_⟩⟩
  · exact hc (k * 3 + 0) _ (by rw [esCells_at E k 0 (by omega) (by omega)]; rfl)
  · have := hc (k * 3 + 1) _ (by rw [esCells_at E k 1 (by omega) (by omega)]; rfl)
    rwa [← Nat.add_assoc] at this
  · have := hc (k * 3 + 2) _ (by rw [esCells_at E k 2 (by omega) (by omega)]; rfl)
    rwa [← Nat.add_assoc] at this
theorem Rd.elen {w : World} {A : Option Addr} {n : Nat} {E : List Edg} (h : Rd w A 3 n (esCells E)) : E.length = n := by
  have hl := h.1
  rw [esCells_length] at hl
  omega

def nodeB (N v : Int) : Bool := decide (0 ≤ v ∧ v < N)
def wtB (w : Int) : Bool := decide (1 ≤ w ∧ w ≤ 4294967296)
def looseB (N : Int) (e : Edg) : Bool := !nodeB N e.f || (!nodeB N e.t || decide (e.f = e.t))
def heavyB (e : Edg) : Bool := !wtB e.w
/-- Why a graph may not be; 0: it may. -/
def rightF (N : Int) (E : List Edg) : Int := if N < 1 ∨ 4096 < N then 2 else if 16384 < E.length then 5 else if E.any (looseB N) then 7 else if E.any heavyB then 2 else 0

set_option maxHeartbeats 400000 in
theorem gNode (N v : Int) (s : Value) (w : World) : Calls Try.prog 72 #[.agg #[.int .i64 N, s], .int .i64 v] w fun e w' => e = .returned (.bool (nodeB N v)) ∧ Grows w w' := by
  go_enter Try.func72, Try.ntmps72
  go_wp2
  all_goals go_ret
  all_goals exact ⟨ret_bool (bool_ext (by unfold nodeB; simp; try omega)), (by repeat (first | exact Grows.refl _ | refine Grows.now ?_ _ | refine Grows.new ?_ _ | refine Grows.drewN ?_ _ | refine Grows.drew ?_ | assumption | (refine Grows.set ?_ (by first | omega | (simp; done) | (simp; omega)) _)))⟩

set_option maxHeartbeats 400000 in
theorem gWeight (x : Int) (w : World) : Calls Try.prog 125 #[.int .u64 x] w fun e w' => e = .returned (.bool (wtB x)) ∧ w = w' := by
  go_enter Try.func125, Try.ntmps125
  go_wp2
  all_goals go_ret
  all_goals exact ⟨ret_bool (bool_ext (by unfold wtB; simp; try omega)), rfl⟩

set_option maxHeartbeats 400000 in
theorem gRight2 (x : Edg) (w : World) : Calls Try.prog 124 #[eVal x] w fun e w' => e = .returned (.bool (heavyB x)) ∧ Grows w w' := by
  unfold eVal
  go_enter Try.func124, Try.ntmps124
  go_wp2_with (first | (go_at_call 125; refine (gWeight _ _).mono ?_; rintro e w' ⟨rfl, rfl⟩))
  all_goals go_ret
  all_goals exact ⟨ret_bool (by unfold heavyB; rfl), (by repeat (first | exact Grows.refl _ | refine Grows.now ?_ _ | refine Grows.new ?_ _ | refine Grows.drewN ?_ _ | refine Grows.drew ?_ | assumption | (refine Grows.set ?_ (by first | omega | (simp; done) | (simp; omega)) _)))⟩

set_option maxHeartbeats 1000000 in
theorem gRight1 (x : Edg) (N : Int) (s : Value) (g : Nat) (w : World) (c0 : w.cell? ⟨g, 0, none⟩ = some (.int .i64 N)) (c1 : w.cell? ⟨g, 1, none⟩ = some s) :
    Calls Try.prog 123 #[eVal x, .pointer (some ⟨g, 0, none⟩)] w fun e w' => e = .returned (.bool (looseB N x)) ∧ Grows w w' := by
  unfold eVal
  have C1 := fun W => gNode N x.f s W
  have C2 := fun W => gNode N x.t s W
  cases h1 : nodeB N x.f with
  | false =>
    have HW : Hid (looseB N x = true) := by unfold looseB; rw [h1]; rfl
    rw [h1] at C1
    have H1 := hide C1
    clear C1 C2 h1
    go_enter Try.func123, Try.ntmps123
    go_wp2_with (first | (go_at_call 72; refine (H1.out _).mono ?_; rintro e w' ⟨rfl, hg⟩; (first | obtain ⟨x, rfl⟩ := Grows.later2 hg | obtain ⟨x, rfl⟩ := Grows.later hg); clear hg))
    go_ret
    exact ⟨ret_bool HW.out.symm, (by repeat (first | exact Grows.refl _ | refine Grows.now ?_ _ | refine Grows.new ?_ _ | refine Grows.drewN ?_ _ | refine Grows.drew ?_ | assumption | (refine Grows.set ?_ (by first | omega | (simp; done) | (simp; omega)) _)))⟩
  | true =>
  cases h2 : nodeB N x.t with
  | false =>
    have HW : Hid (looseB N x = true) := by unfold looseB; rw [h1, h2]; rfl
    rw [h1] at C1
    rw [h2] at C2
    have H1 := hide C1
    have H2 := hide C2
    clear C1 C2 h1 h2
    go_enter Try.func123, Try.ntmps123
    go_wp2_with fail
    refine (H1.out _).mono ?_; rintro e w' ⟨rfl, hg⟩; obtain ⟨x1, rfl⟩ := Grows.later hg; clear hg
    go_wp2_with fail
    refine (H2.out _).mono ?_; rintro e w' ⟨rfl, hg⟩; obtain ⟨x2, rfl⟩ := Grows.later2 hg; clear hg
    go_wp2
    go_ret
    exact ⟨ret_bool HW.out.symm, (by repeat (first | exact Grows.refl _ | refine Grows.now ?_ _ | refine Grows.new ?_ _ | refine Grows.drewN ?_ _ | refine Grows.drew ?_ | assumption | (refine Grows.set ?_ (by first | omega | (simp; done) | (simp; omega)) _)))⟩
  | true =>
    have HW : Hid (looseB N x = decide (x.f = x.t)) := by unfold looseB; rw [h1, h2]; rfl
    rw [h1] at C1
    rw [h2] at C2
    have H1 := hide C1
    have H2 := hide C2
    clear C1 C2 h1 h2
    go_enter Try.func123, Try.ntmps123
    go_wp2_with fail
    refine (H1.out _).mono ?_; rintro e w' ⟨rfl, hg⟩; obtain ⟨x1, rfl⟩ := Grows.later hg; clear hg
    go_wp2_with fail
    refine (H2.out _).mono ?_; rintro e w' ⟨rfl, hg⟩; obtain ⟨x2, rfl⟩ := Grows.later2 hg; clear hg
    go_wp2
    go_ret
    exact ⟨ret_bool (by rw [HW.out]; first | rfl | (apply bool_ext; simp)), (by repeat (first | exact Grows.refl _ | refine Grows.now ?_ _ | refine Grows.new ?_ _ | refine Grows.drewN ?_ _ | refine Grows.drew ?_ | assumption | (refine Grows.set ?_ (by first | omega | (simp; done) | (simp; omega)) _)))⟩

/-- The first place at which p holds; -1: nowhere. -/
def firstI {α : Type} (p : α → Bool) : List α → Int
  | [] => -1
  | x :: l => if p x then 0 else (if firstI p l = -1 then -1 else firstI p l + 1)
theorem firstI_cons {α : Type} (p : α → Bool) (x : α) (l : List α) : firstI p (x :: l) = if p x then 0 else (if firstI p l = -1 then -1 else firstI p l + 1) := rfl
theorem firstI_nonneg {α : Type} (p : α → Bool) (l : List α) : -1 ≤ firstI p l := by
  induction l with
  | nil => simp [firstI]
  | cons x l ih => rw [firstI_cons]; split <;> (try split) <;> omega
theorem firstI_any {α : Type} (p : α → Bool) (l : List α) : decide (0 ≤ firstI p l) = l.any p := by
  induction l with
  | nil => simp [firstI]
  | cons x l ih =>
    have := firstI_nonneg p l
    rw [List.any_cons, ← ih, firstI_cons]
    cases h : p x
    · simp only [Bool.false_eq_true, if_false, Bool.false_or]
      split
      · rename_i h'; rw [h']
      · rw [decide_eq_true (by omega), decide_eq_true (by omega)]
    · simp
theorem firstI_none {α : Type} (p : α → Bool) (l : List α) (h : ∀ x ∈ l, p x = false) : firstI p l = -1 := by
  induction l with
  | nil => rfl
  | cons x l ih => rw [firstI_cons, h x (by simp), ih (fun y hy => h y (by simp [hy]))]; rfl
theorem firstI_at {α : Type} (p : α → Bool) (d : α) (l : List α) (k : Nat) (hk : k < l.length) (h : ∀ j, j < k → p (l.getD j d) = false) (h' : p (l.getD k d) = true) : firstI p l = k := by
  induction l generalizing k with
  | nil => simp at hk
  | cons x l ih =>
    rw [firstI_cons]
    cases k with
    | zero => have : p x = true := by simpa using h'
              rw [this]; rfl
    | succ k =>
      have h0 : p x = false := by simpa using h 0 (by omega)
      have := ih k (by simpa using hk) (fun j hj => by simpa using h (j + 1) (by omega)) (by simpa using h')
      rw [h0, this]
      simp only [Bool.false_eq_true, if_false]
      split <;> omega

set_option maxRecDepth 20000 in
set_option maxHeartbeats 1000000 in
theorem indexE (A : Option Addr) (n c : Nat) (E : List Edg) (k : FuncId) (cap : Array Value) (p : Edg → Bool) (w : World) (h : Rd w A 3 n (esCells E)) (hn : n ≤ 1000000) (hk : ∀ args W, (callFunc k args).run Try.prog W = .ok (.enter k args) W)
    (hf : ∀ W, Grows w W → ∀ e, Calls Try.prog k (#[eVal e] ++ cap) W fun x w' => x = .returned (.bool (p e)) ∧ Grows W w') :
    Calls Try.prog 153 #[.slice A n c, .func (.func k) #[] cap] w fun e w' => e = .returned (.int .i64 (firstI p E)) ∧ Grows w w' := by
  have HL := hide h.elen
  have HR := hide h
  have HF := hide hf
  clear h hf
  unfold eVal at HF
  go_enter Try.func153, Try.ntmps153
  go_wp2
  go_loopw [8] (fun i wr => ∃ k : Nat, k ≤ n ∧ i = .int .i64 (k : Int) ∧ (∃ x : Later w, wr = x.now) ∧ ∀ j, j < k → p (ge E j) = false) (fun i _ => n - (intOf i).toNat)
  case atStart => exact ⟨0, by omega, by go_num, ⟨⟨w, Grows.refl w⟩, rfl⟩, fun j h1 => by omega⟩
  case round =>
    obtain ⟨q, hq, rfl, ⟨x, rfl⟩, hall⟩ := hrel
    have HA := hide hall
    clear hall
    by_cases hend : n ≤ q
    · go_wp2
      go_ret
      refine ⟨ret_int ?_, (by repeat (first | exact Grows.refl _ | refine Grows.now ?_ _ | refine Grows.new ?_ _ | refine Grows.drewN ?_ _ | refine Grows.drew ?_ | assumption | (refine Grows.set ?_ (by first | omega | (simp; done) | (simp; omega)) _)))⟩
      have hl := HL.out
      have hh := HA.out
      rw [firstI_none]
      intro e he
      obtain ⟨j, hj, rfl⟩ := List.mem_iff_getElem.1 he
      have := hh j (by omega)
      simpa [ge, hj] using this
    · obtain ⟨b, off, rfl, hc⟩ := HR.out.edges (by omega)
      obtain ⟨hc1, hc2, hc3⟩ := hc q (by omega)
      clear hc
      go_wp2_with fail
      refine (HF.out _ (by repeat (first | exact Grows.refl _ | refine Grows.now ?_ _ | refine Grows.new ?_ _ | refine Grows.drewN ?_ _ | refine Grows.drew ?_ | assumption | (refine Grows.set ?_ (by first | omega | (simp; done) | (simp; omega)) _))) (ge E q)).mono ?_; rintro e w' ⟨rfl, hg⟩; obtain ⟨x1, rfl⟩ := Grows.later2 hg; clear hg
      cases hp : p (ge E q) with
      | true =>
        have HW : Hid (firstI p E = q) := firstI_at p ⟨0, 0, 0⟩ E q (by have := HL.out; omega) HA.out hp
        clear hp
        go_wp2
        go_ret
        exact ⟨ret_int HW.out.symm, (by repeat (first | exact Grows.refl _ | refine Grows.now ?_ _ | refine Grows.new ?_ _ | refine Grows.drewN ?_ _ | refine Grows.drew ?_ | assumption | (refine Grows.set ?_ (by first | omega | (simp; done) | (simp; omega)) _)))⟩
      | false =>
        have HP := hide hp
        clear hp
        go_wp2
        go_roundw
        case measure => simp [intOf]; omega
        case rel =>
          refine ⟨q + 1, by omega, by go_num, ⟨_, rfl⟩, fun j h1 => ?_⟩
          by_cases hj : j = q
          · rw [hj]; exact HP.out
          · exact HA.out j (by omega)

set_option maxHeartbeats 1000000 in
theorem containsE (A : Option Addr) (n c : Nat) (E : List Edg) (k : FuncId) (cap : Array Value) (p : Edg → Bool) (w : World) (h : Rd w A 3 n (esCells E)) (hn : n ≤ 1000000) (hk : ∀ args W, (callFunc k args).run Try.prog W = .ok (.enter k args) W)
    (hf : ∀ W, Grows w W → ∀ e, Calls Try.prog k (#[eVal e] ++ cap) W fun x w' => x = .returned (.bool (p e)) ∧ Grows W w') :
    Calls Try.prog 126 #[.slice A n c, .func (.func k) #[] cap] w fun e w' => e = .returned (.bool (E.any p)) ∧ Grows w w' := by
  have HC := hide (indexE A n c E k cap p w h hn hk hf)
  have HV := hide (firstI_any p E)
  clear h hf hk
  go_enter Try.func126, Try.ntmps126
  go_wp2_with (first | (go_at_call 153; refine (HC.out).mono ?_; rintro e w' ⟨rfl, hg⟩; (first | obtain ⟨x, rfl⟩ := Grows.later2 hg | obtain ⟨x, rfl⟩ := Grows.later hg); clear hg))
  all_goals go_ret
  all_goals exact ⟨ret_bool (by rw [← HV.out]), (by repeat (first | exact Grows.refl _ | refine Grows.now ?_ _ | refine Grows.new ?_ _ | refine Grows.drewN ?_ _ | refine Grows.drew ?_ | assumption | (refine Grows.set ?_ (by first | omega | (simp; done) | (simp; omega)) _)))⟩

set_option maxHeartbeats 2000000 in
theorem gRight (N : Int) (A : Option Addr) (n c : Nat) (E : List Edg) (w : World) (h : Rd w A 3 n (esCells E)) (hn : n ≤ 1000000) :
    Calls Try.prog 82 #[.agg #[.int .i64 N, .slice A n c]] w fun e w' => e = .returned (.int .i64 (rightF N E)) ∧ Grows w w' := by
  have HL := hide h.elen
  have HR := hide h
  clear h
  have K1 := fun args W => run_callGo (P := Try.prog) Try.func123 (by kernel_rfl) (by kernel_rfl) args W
  have K2 := fun args W => run_callGo (P := Try.prog) Try.func124 (by kernel_rfl) (by kernel_rfl) args W
  have HK1 := hide K1
  have HK2 := hide K2
  clear K1 K2
  by_cases h1 : N < 1 ∨ 4096 < N
  · have HW : Hid (rightF N E = 2) := by unfold rightF; rw [if_pos h1]; rfl
    go_enter Try.func82, Try.ntmps82
    go_wp2
    all_goals go_ret
    all_goals exact ⟨ret_int HW.out.symm, (by repeat (first | exact Grows.refl _ | refine Grows.now ?_ _ | refine Grows.new ?_ _ | refine Grows.drewN ?_ _ | refine Grows.drew ?_ | assumption | (refine Grows.set ?_ (by first | omega | (simp; done) | (simp; omega)) _)))⟩
  by_cases h2 : 16384 < n
  · have HW : Hid (rightF N E = 5) := by unfold rightF; rw [if_neg h1, if_pos (by have := HL.out; omega)]; rfl
    have h3 : 1 ≤ N := by omega
    have h4 : N ≤ 4096 := by omega
    clear h1
    go_enter Try.func82, Try.ntmps82
    go_wp2
    all_goals go_ret
    all_goals exact ⟨ret_int HW.out.symm, (by repeat (first | exact Grows.refl _ | refine Grows.now ?_ _ | refine Grows.new ?_ _ | refine Grows.drewN ?_ _ | refine Grows.drew ?_ | assumption | (refine Grows.set ?_ (by first | omega | (simp; done) | (simp; omega)) _)))⟩
  have h3 : 1 ≤ N := by omega
  have h4 : N ≤ 4096 := by omega
  have C1 := fun (W : World) (g : Grows w W) c0 c1 => containsE A n c E 123 #[.pointer (some ⟨w.heap.size, 0, none⟩)] (looseB N) W (HR.out.grows g) hn HK1.out (fun W' g' e => gRight1 e N (.slice A n c) w.heap.size W' (g'.keeps c0) (g'.keeps c1))
  have C2 := fun (W : World) (g : Grows w W) => containsE A n c E 124 #[] heavyB W (HR.out.grows g) hn HK2.out (fun W' _ e => gRight2 e W')
  cases hl : E.any (looseB N) with
  | true =>
    have HW : Hid (rightF N E = 7) := by unfold rightF; rw [if_neg h1, if_neg (by have := HL.out; omega), hl]; rfl
    rw [hl] at C1
    have H1 := hide C1
    clear C1 C2 hl h1
    go_enter Try.func82, Try.ntmps82
    go_wp2_with (first | (go_at_call 126; refine (H1.out _ (by repeat (first | exact Grows.refl _ | refine Grows.now ?_ _ | refine Grows.new ?_ _ | refine Grows.drewN ?_ _ | refine Grows.drew ?_ | assumption | (refine Grows.set ?_ (by first | omega | (simp; done) | (simp; omega)) _))) (by simp [go_sem]) (by simp [go_sem])).mono ?_; rintro e w' ⟨rfl, hg⟩; (first | obtain ⟨x, rfl⟩ := Grows.later2 hg | obtain ⟨x, rfl⟩ := Grows.later hg); clear hg))
    go_ret
    exact ⟨ret_int HW.out.symm, (by repeat (first | exact Grows.refl _ | refine Grows.now ?_ _ | refine Grows.new ?_ _ | refine Grows.drewN ?_ _ | refine Grows.drew ?_ | assumption | (refine Grows.set ?_ (by first | omega | (simp; done) | (simp; omega)) _)))⟩
  | false =>
    rw [hl] at C1
    have H1 := hide C1
    clear C1
    cases hh : E.any heavyB with
    | true =>
      have HW : Hid (rightF N E = 2) := by unfold rightF; rw [if_neg h1, if_neg (by have := HL.out; omega), hl, hh]; rfl
      rw [hh] at C2
      have H2 := hide C2
      clear C2 hl h1 hh
      go_enter Try.func82, Try.ntmps82
      go_wp2_with fail
      refine (H1.out _ (by repeat (first | exact Grows.refl _ | refine Grows.now ?_ _ | refine Grows.new ?_ _ | refine Grows.drewN ?_ _ | refine Grows.drew ?_ | assumption | (refine Grows.set ?_ (by first | omega | (simp; done) | (simp; omega)) _))) (by simp [go_sem]) (by simp [go_sem])).mono ?_; rintro e w' ⟨rfl, hg⟩; obtain ⟨x1, rfl⟩ := Grows.later hg; clear hg
      go_wp2_with fail
      refine (H2.out _ (by repeat (first | exact Grows.refl _ | refine Grows.now ?_ _ | refine Grows.new ?_ _ | refine Grows.drewN ?_ _ | refine Grows.drew ?_ | assumption | (refine Grows.set ?_ (by first | omega | (simp; done) | (simp; omega)) _)))).mono ?_; rintro e w' ⟨rfl, hg⟩; obtain ⟨x2, rfl⟩ := Grows.later2 hg; clear hg
      go_wp2
      go_ret
      exact ⟨ret_int HW.out.symm, (by repeat (first | exact Grows.refl _ | refine Grows.now ?_ _ | refine Grows.new ?_ _ | refine Grows.drewN ?_ _ | refine Grows.drew ?_ | assumption | (refine Grows.set ?_ (by first | omega | (simp; done) | (simp; omega)) _)))⟩
    | false =>
      have HW : Hid (rightF N E = 0) := by unfold rightF; rw [if_neg h1, if_neg (by have := HL.out; omega), hl, hh]; rfl
      rw [hh] at C2
      have H2 := hide C2
      clear C2 hl h1 hh
      go_enter Try.func82, Try.ntmps82
      go_wp2_with fail
      refine (H1.out _ (by repeat (first | exact Grows.refl _ | refine Grows.now ?_ _ | refine Grows.new ?_ _ | refine Grows.drewN ?_ _ | refine Grows.drew ?_ | assumption | (refine Grows.set ?_ (by first | omega | (simp; done) | (simp; omega)) _))) (by simp [go_sem]) (by simp [go_sem])).mono ?_; rintro e w' ⟨rfl, hg⟩; obtain ⟨x1, rfl⟩ := Grows.later hg; clear hg
      go_wp2_with fail
      refine (H2.out _ (by repeat (first | exact Grows.refl _ | refine Grows.now ?_ _ | refine Grows.new ?_ _ | refine Grows.drewN ?_ _ | refine Grows.drew ?_ | assumption | (refine Grows.set ?_ (by first | omega | (simp; done) | (simp; omega)) _)))).mono ?_; rintro e w' ⟨rfl, hg⟩; obtain ⟨x2, rfl⟩ := Grows.later2 hg; clear hg
      go_wp2
      go_ret
      exact ⟨ret_int HW.out.symm, (by repeat (first | exact Grows.refl _ | refine Grows.now ?_ _ | refine Grows.new ?_ _ | refine Grows.drewN ?_ _ | refine Grows.drew ?_ | assumption | (refine Grows.set ?_ (by first | omega | (simp; done) | (simp; omega)) _)))⟩

end Go.Proofs.Ytpnncadglhlclaa
