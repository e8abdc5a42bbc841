/- Plain law: how far the end is from any node, by the search from there and by the one turned round. -/
import Derived.Test.YthjcbboignmknaaQFlowAssigns00
import Derived.Test.YthjcbboignmknaaQCanonAll01
import Derived.Test.YthjcbboignmknaaQCanonAll06
import Derived.Test.YthjcbboignmknaaQCanonAll13
import Derived.Deep.DeepCutAuto
import Derived.Test.YthjcbboignmknaaQCanonAll15
/- At each node as many come in, and begin, as go out, and end: sums of 64 bits. -/
namespace Go.Proofs.Ythjcbboignmknaa
open Go Go.RowKit
theorem wrapU (x : Int) : IntKind.u64.wrap x = x % 18446744073709551616 := by
  unfold IntKind.wrap
  simp [IntKind.bits, IntKind.signed]
/-- The sum of X over those below n of which p holds; and as it is summed up from a, in 64 bits. -/
def sumB (p : Nat → Bool) (X : Nat → Int) : Nat → Int
  | 0 => 0
  | n + 1 => if p n then sumB p X n + X n else sumB p X n
def accW (p : Nat → Bool) (X : Nat → Int) (a : Int) : Nat → Int
  | 0 => a
  | n + 1 => if p n then IntKind.u64.wrap (accW p X a n + X n) else accW p X a n
theorem sumB_succ (p : Nat → Bool) (X : Nat → Int) (n : Nat) : sumB p X (n + 1) = if p n = true then sumB p X n + X n else sumB p X n := rfl
theorem accW_succ (p : Nat → Bool) (X : Nat → Int) (a : Int) (n : Nat) : accW p X a (n + 1) = if p n = true then IntKind.u64.wrap (accW p X a n + X n) else accW p X a n := rfl
def is64 (x : Int) : Prop := 0 ≤ x ∧ x < 18446744073709551616
theorem wrap64 (x : Int) : is64 (IntKind.u64.wrap x) := by rw [wrapU]; unfold is64; omega
theorem accW_64 {p : Nat → Bool} {X : Nat → Int} {a : Int} (h : is64 a) (n : Nat) : is64 (accW p X a n) := by
  induction n with
  | zero => exact h
  | succ n ih =>
    unfold accW
    split
    · exact wrap64 _
    · exact ih
theorem accW_is (p : Nat → Bool) (X : Nat → Int) (a : Int) (n : Nat) : accW p X a n % 18446744073709551616 = (a + sumB p X n) % 18446744073709551616 := by
  induction n with
  | zero => simp [accW, sumB]
  | succ n ih =>
    unfold accW sumB
    split
    · rw [wrapU]; omega
    · exact ih
theorem sumB_mod {p : Nat → Bool} {X Y : Nat → Int} : ∀ (n : Nat), (∀ i, i < n → X i % 18446744073709551616 = Y i % 18446744073709551616) → sumB p X n % 18446744073709551616 = sumB p Y n % 18446744073709551616
  | 0, _ => rfl
  | n + 1, h => by
    have h1 := sumB_mod (p := p) (X := X) (Y := Y) n (fun i hi => h i (by omega))
    have h2 := h n (by omega)
    unfold sumB
    split
    · omega
    · exact h1
theorem sumB_ext {p q : Nat → Bool} {X : Nat → Int} : ∀ (n : Nat), (∀ i, i < n → p i = q i) → sumB p X n = sumB q X n
  | 0, _ => rfl
  | n + 1, h => by
    unfold sumB
    rw [sumB_ext n (fun i hi => h i (by omega)), h n (by omega)]
def upd (X : Nat → Int) (e : Nat) (w : Int) : Nat → Int := fun i => if i = e then X i + w else X i
theorem sumB_upd (p : Nat → Bool) (X : Nat → Int) (e : Nat) (w : Int) : ∀ n, sumB p (upd X e w) n = sumB p X n + if e < n ∧ p e = true then w else 0
  | 0 => by simp [sumB]
  | n + 1 => by
    have ih := sumB_upd p X e w n
    unfold sumB
    rw [ih]
    have A1 : (if e < n + 1 ∧ p e = true then w else 0) = (if e < n ∧ p e = true then w else 0) + (if n = e ∧ p e = true then w else 0) := by
      by_cases hp : p e = true
      · by_cases h1 : e < n
        · simp [hp, h1, show e < n + 1 by omega, show ¬ n = e by omega]
        · by_cases h2 : n = e
          · simp [hp, h1, h2]
          · simp [hp, h1, h2, show ¬ e < n + 1 by omega]
      · simp [hp]
    rw [A1]
    generalize (if e < n ∧ p e = true then w else 0) = z
    by_cases hn : n = e
    · subst hn
      cases hp : p n
      · simp
      · simp [upd, Int.add_assoc, Int.add_comm]
        try omega
    · have e1 : upd X e w n = X n := by unfold upd; rw [if_neg hn]
      rw [e1]
      cases hp : p n
      · simp [hn]
      · simp [hn]
        omega
/-- Loads as whole numbers. -/
def ldU (X : Nat → Int) (w : Int) (es : List Nat) : Nat → Int := es.foldl (fun X e => upd X e w) X
theorem addAt_mod (w : Int) : ∀ (es : List Nat) (L : List Int) (X : Nat → Int), (∀ e ∈ es, e < L.length) → (∀ i, i < L.length → gi L i % 18446744073709551616 = X i % 18446744073709551616) → ∀ i, i < L.length → gi (addAt L w es) i % 18446744073709551616 = ldU X w es i % 18446744073709551616
  | [], L, X, _, h => h
  | e :: es, L, X, he, h => by
    intro i hi
    have hl : (addOne w L e).length = L.length := addOne_len w L e
    refine addAt_mod w es (addOne w L e) (upd X e w) (fun e' h' => by rw [hl]; exact he e' (by simp [h'])) (fun j hj => ?_) i (by rw [hl]; exact hi)
    rw [hl] at hj
    unfold addOne upd
    rw [gi_set _ _ _ _ (he e (by simp))]
    have h1 := h j hj
    split
    · rename_i e1
      subst e1
      rw [wrapU]
      omega
    · exact h1
def balU (E : List Edg) (u : Nat) (X : Nat → Int) : Int := sumB (fun i => decide (tN E i = u)) X E.length - sumB (fun i => decide (fN E i = u)) X E.length
theorem Fol.bal {x : Srch} {d : List Nat} {t v : Nat} {l : List Nat} (h : Fol x d t v l) (u : Nat) (w : Int) : ∀ X : Nat → Int, balU x.E u (ldU X w l) = balU x.E u X + (if t = u then w else 0) - (if v = u then w else 0) := by
  induction h with
  | here => intro X; show balU x.E u X = _; omega
  | step hne hi hf hn hl hr ih =>
    rename_i v i l
    intro X
    have h1 : ldU X w (i :: l) = ldU (upd X i w) w l := rfl
    rw [h1, ih]
    have h2 : balU x.E u (upd X i w) = balU x.E u X + (if tN x.E i = u then w else 0) - (if v = u then w else 0) := by
      unfold balU
      rw [sumB_upd, sumB_upd, hf]
      simp only [decide_eq_true_eq, hi, true_and]
      omega
    rw [h2]
    omega
/-- What comes of the first k demands, in whole numbers. -/
def asgU (D : List Edg) (P : Ways) : Nat → (Nat → Int) × Int
  | 0 => (fun _ => 0, 0)
  | k + 1 => if (P k).2.2 = 0 then (ldU (asgU D P k).1 (ge D k).w (P k).1, (asgU D P k).2) else ((asgU D P k).1, (asgU D P k).2 + (ge D k).w)
def okD (P : Ways) (j : Nat) : Bool := decide ((P j).2.2 = 0)
def okS (D : List Edg) (P : Ways) (u : Int) (j : Nat) : Bool := okD P j && decide ((ge D j).f = u)
def okT (D : List Edg) (P : Ways) (u : Int) (j : Nat) : Bool := okD P j && decide ((ge D j).t = u)
def dW (D : List Edg) (j : Nat) : Int := (ge D j).w
theorem asgU_is {E D : List Edg} {o : DOpt} {N : Int} {P : Ways} (hP : WaysOf E o N D P) : ∀ k, k ≤ D.length →
    (∀ i, i < E.length → gi (asgS D P E.length k).1 i % 18446744073709551616 = (asgU D P k).1 i % 18446744073709551616) ∧ (asgS D P E.length k).2 % 18446744073709551616 = (asgU D P k).2 % 18446744073709551616 ∧
    (∀ u : Nat, balU E u (asgU D P k).1 = sumB (okT D P u) (dW D) k - sumB (okS D P u) (dW D) k) ∧ (asgU D P k).2 = sumB (fun j => !okD P j) (dW D) k
  | 0, _ => by
    refine ⟨fun i hi => ?_, rfl, fun u => ?_, rfl⟩
    · simp [asgS, asgU, gi, hi]
    · have hz : ∀ (p : Nat → Bool) n, sumB p (fun _ => 0) n = 0 := fun p n => by
        induction n with
        | zero => rfl
        | succ n ih => unfold sumB; rw [ih]; split <;> rfl
      unfold balU asgU
      rw [hz, hz]
      rfl
  | k + 1, hk => by
    obtain ⟨h1, h2, h3, h4⟩ := asgU_is hP k (by omega)
    have hp := hP k (by omega)
    by_cases hr : (P k).2.2 = 0
    · have ho : okD P k = true := decide_eq_true hr
      have e1 : asgS D P E.length (k + 1) = (addAt (asgS D P E.length k).1 (ge D k).w (P k).1, (asgS D P E.length k).2) := by rw [asgS, if_pos hr]
      have e2 : asgU D P (k + 1) = (ldU (asgU D P k).1 (ge D k).w (P k).1, (asgU D P k).2) := by rw [asgU, if_pos hr]
      rw [e1, e2]
      refine ⟨fun i hi => ?_, h2, fun u => ?_, ?_⟩
      · exact addAt_mod _ _ _ _ (fun e he => by rw [asgS_len]; exact hp.edges e he) (fun j hj => h1 j (by rw [asgS_len] at hj; exact hj)) i (by rw [asgS_len]; exact hi)
      · rw [hr] at hp
        obtain ⟨NN, sN, tN', ys, _, hs, ht, _, _, _, _, hfol⟩ := hp.ways2
        have hb := hfol.bal u (ge D k).w (asgU D P k).1
        have hE : (srchOf NN E (backO o)).E = E := rfl
        rw [hE] at hb
        have h3 := h3 u
        show balU E u (ldU (asgU D P k).1 (ge D k).w (P k).1) = _
        rw [hb, h3]
        rw [sumB_succ, sumB_succ]
        have hT : okT D P u k = decide (tN' = u) := by
          unfold okT
          rw [ho, ht, Bool.true_and]
          exact decide_eq_decide.2 (by omega)
        have hS : okS D P u k = decide (sN = u) := by
          unfold okS
          rw [ho, hs, Bool.true_and]
          exact decide_eq_decide.2 (by omega)
        rw [hT, hS]
        simp only [decide_eq_true_eq]
        unfold dW
        split <;> split <;> omega
      · show (asgU D P k).2 = _
        rw [h4, sumB_succ, ho]
        rfl
    · have ho : okD P k = false := decide_eq_false hr
      have e1 : asgS D P E.length (k + 1) = ((asgS D P E.length k).1, IntKind.u64.wrap ((asgS D P E.length k).2 + (ge D k).w)) := by rw [asgS, if_neg hr]
      have e2 : asgU D P (k + 1) = ((asgU D P k).1, (asgU D P k).2 + (ge D k).w) := by rw [asgU, if_neg hr]
      rw [e1, e2]
      refine ⟨h1, ?_, fun u => ?_, ?_⟩
      · show IntKind.u64.wrap ((asgS D P E.length k).2 + (ge D k).w) % 18446744073709551616 = ((asgU D P k).2 + (ge D k).w) % 18446744073709551616
        rw [wrapU]
        omega
      · have h3 := h3 u
        show balU E u (asgU D P k).1 = _
        rw [h3, sumB_succ, sumB_succ]
        have hT : okT D P u k = false := by unfold okT; rw [ho]; rfl
        have hS : okS D P u k = false := by unfold okS; rw [ho]; rfl
        rw [hT, hS]
        rfl
      · show (asgU D P k).2 + (ge D k).w = _
        rw [h4, sumB_succ, ho]
        rfl
/-- Sums over the nodes, as they are summed up. -/
def sumV (F : Nat → Int) : Nat → Int
  | 0 => 0
  | n + 1 => sumV F n + F n
def begW (Q : Nat → Nat → Bool) (X : Nat → Int) (m : Nat) : Nat → Int
  | 0 => 0
  | v + 1 => accW (Q v) X (begW Q X m v) m
theorem begW_64 (Q : Nat → Nat → Bool) (X : Nat → Int) (m : Nat) : ∀ v, is64 (begW Q X m v)
  | 0 => by unfold begW is64; omega
  | v + 1 => accW_64 (begW_64 Q X m v) m
theorem begW_is (Q : Nat → Nat → Bool) (X : Nat → Int) (m : Nat) : ∀ v, begW Q X m v % 18446744073709551616 = sumV (fun u => sumB (Q u) X m) v % 18446744073709551616
  | 0 => rfl
  | v + 1 => by
    have ih := begW_is Q X m v
    have h := accW_is (Q v) X (begW Q X m v) m
    show accW (Q v) X (begW Q X m v) m % 18446744073709551616 = (sumV (fun u => sumB (Q u) X m) v + sumB (Q v) X m) % 18446744073709551616
    omega
theorem sumV_add (F H : Nat → Int) : ∀ n, sumV (fun u => F u + H u) n = sumV F n + sumV H n
  | 0 => rfl
  | n + 1 => by
    have := sumV_add F H n
    show sumV (fun u => F u + H u) n + (F n + H n) = sumV F n + F n + (sumV H n + H n)
    omega
theorem sumV_zero : ∀ n, sumV (fun _ => 0) n = 0
  | 0 => rfl
  | n + 1 => by
    have := sumV_zero n
    show sumV (fun _ => 0) n + 0 = 0
    omega
theorem sumV_one (b : Bool) (f x : Int) : ∀ n : Nat, 0 ≤ f → sumV (fun u => if (b && decide (f = (u : Int))) = true then x else 0) n = if b = true ∧ f < (n : Int) then x else 0
  | 0, h => by
    rw [if_neg (fun h2 => by have := h2.2; omega)]
    rfl
  | n + 1, h => by
    have ih := sumV_one b f x n h
    show sumV (fun u => if (b && decide (f = (u : Int))) = true then x else 0) n + (if (b && decide (f = (n : Int))) = true then x else 0) = _
    rw [ih]
    cases b with
    | false => simp
    | true =>
      simp only [Bool.true_and, decide_eq_true_eq, true_and]
      by_cases h1 : f < (n : Int)
      · rw [if_pos h1, if_neg (by omega), if_pos (by omega)]; omega
      · by_cases h2 : f = (n : Int)
        · rw [if_neg h1, if_pos h2, if_pos (by omega)]; omega
        · rw [if_neg h1, if_neg h2, if_neg (by omega)]; omega
/-- Each demand begins at one node. -/
theorem sumV_all (ok : Nat → Bool) (F : Nat → Int) (X : Nat → Int) (N : Nat) : ∀ m, (∀ j, j < m → 0 ≤ F j ∧ F j < (N : Int)) → sumV (fun u => sumB (fun j => ok j && decide (F j = (u : Int))) X m) N = sumB ok X m
  | 0, _ => sumV_zero N
  | m + 1, h => by
    have ih := sumV_all ok F X N m (fun j hj => h j (by omega))
    have hm := h m (by omega)
    have e : (fun u : Nat => sumB (fun j => ok j && decide (F j = (u : Int))) X (m + 1)) = fun u : Nat => sumB (fun j => ok j && decide (F j = (u : Int))) X m + (if (ok m && decide (F m = (u : Int))) = true then X m else 0) := by
      funext u
      rw [sumB_succ]
      split <;> omega
    rw [e, sumV_add, ih, sumV_one _ _ _ _ hm.1, sumB_succ]
    cases ok m with
    | false => simp
    | true => simp [hm.2]
theorem sumB_part (ok : Nat → Bool) (X : Nat → Int) : ∀ m, sumB ok X m + sumB (fun j => !ok j) X m = sumB (fun _ => true) X m
  | 0 => rfl
  | m + 1 => by
    have := sumB_part ok X m
    rw [sumB_succ, sumB_succ, sumB_succ]
    cases ok m <;> simp <;> omega
section
variable {E D : List Edg} {o : DOpt} {P : Ways} {NN : Nat}
def toB (E : List Edg) (v i : Nat) : Bool := decide (tN E i = v)
def frB (E : List Edg) (v i : Nat) : Bool := decide (fN E i = v)
/-- At each node. -/
theorem bal_at (hP : WaysOf E o NN D P) (v : Nat) :
    accW (okS D P v) (dW D) (accW (toB E v) (gi (asgS D P E.length D.length).1) 0 E.length) D.length = accW (okT D P v) (dW D) (accW (frB E v) (gi (asgS D P E.length D.length).1) 0 E.length) D.length := by
  obtain ⟨h1, _, h3, _⟩ := asgU_is hP D.length (Nat.le_refl _)
  have h3 := h3 v
  have z0 : is64 0 := by unfold is64; omega
  have k1 := accW_64 (p := okS D P v) (X := dW D) (accW_64 (p := toB E v) (X := gi (asgS D P E.length D.length).1) z0 E.length) D.length
  have k2 := accW_64 (p := okT D P v) (X := dW D) (accW_64 (p := frB E v) (X := gi (asgS D P E.length D.length).1) z0 E.length) D.length
  have e1 := accW_is (okS D P v) (dW D) (accW (toB E v) (gi (asgS D P E.length D.length).1) 0 E.length) D.length
  have e2 := accW_is (toB E v) (gi (asgS D P E.length D.length).1) 0 E.length
  have e3 := accW_is (okT D P v) (dW D) (accW (frB E v) (gi (asgS D P E.length D.length).1) 0 E.length) D.length
  have e4 := accW_is (frB E v) (gi (asgS D P E.length D.length).1) 0 E.length
  have m1 := sumB_mod (p := toB E v) E.length h1
  have m2 := sumB_mod (p := frB E v) E.length h1
  have h3' : sumB (toB E v) (asgU D P D.length).1 E.length - sumB (frB E v) (asgU D P D.length).1 E.length = sumB (okT D P v) (dW D) D.length - sumB (okS D P v) (dW D) D.length := h3
  unfold is64 at k1 k2
  omega
/-- And all in all. -/
theorem bal_all (hP : WaysOf E o NN D P) (hS : ∀ j, j < D.length → (0 ≤ (ge D j).f ∧ (ge D j).f < (NN : Int)) ∧ (0 ≤ (ge D j).t ∧ (ge D j).t < (NN : Int))) :
    begW (fun v => okS D P v) (dW D) D.length NN = begW (fun v => okT D P v) (dW D) D.length NN ∧ IntKind.u64.wrap (begW (fun v => okS D P v) (dW D) D.length NN + (asgS D P E.length D.length).2) = accW (fun _ => true) (dW D) 0 D.length := by
  obtain ⟨_, h2, _, h4⟩ := asgU_is hP D.length (Nat.le_refl _)
  have e1 := begW_is (fun v => okS D P v) (dW D) D.length NN
  have e2 := begW_is (fun v => okT D P v) (dW D) D.length NN
  have k1 := begW_64 (fun v => okS D P v) (dW D) D.length NN
  have k2 := begW_64 (fun v => okT D P v) (dW D) D.length NN
  have s1 : sumV (fun u => sumB (okS D P u) (dW D) D.length) NN = sumB (okD P) (dW D) D.length := sumV_all (okD P) (fun j => (ge D j).f) (dW D) NN D.length (fun j hj => (hS j hj).1)
  have s2 : sumV (fun u => sumB (okT D P u) (dW D) D.length) NN = sumB (okD P) (dW D) D.length := sumV_all (okD P) (fun j => (ge D j).t) (dW D) NN D.length (fun j hj => (hS j hj).2)
  have p := sumB_part (okD P) (dW D) D.length
  have z0 : is64 0 := by unfold is64; omega
  have k3 := accW_64 (p := fun _ => true) (X := dW D) z0 D.length
  have e3 := accW_is (fun _ => true) (dW D) 0 D.length
  rw [s1] at e1
  rw [s2] at e2
  rw [wrapU]
  unfold is64 at k1 k2 k3
  constructor
  · omega
  · omega
end
end Go.Proofs.Ythjcbboignmknaa

/- Contracts: the nodes of a row of edges. -/
namespace Go.Proofs.Ythjcbboignmknaa
open Go Go.RowKit
/-- The node behind k edges. -/
def ndI (E : List Edg) (s : Int) (l : List Int) : Nat → Int
  | 0 => s
  | k + 1 => (ge E (gi l k).toNat).t
/-- Does each of the first k edges begin where the one ahead of it ends? -/
def lkB (E : List Edg) (s : Int) (l : List Int) : Nat → Bool
  | 0 => true
  | k + 1 => lkB E s l k && decide ((ge E (gi l k).toNat).f = ndI E s l k)
theorem lkB_mono {E : List Edg} {s : Int} {l : List Int} {j : Nat} (h : lkB E s l j = false) : ∀ k, lkB E s l (j + k) = false
  | 0 => h
  | k + 1 => by show (lkB E s l (j + k) && _) = false; rw [lkB_mono h k]; rfl
def ndL (E : List Edg) (s : Int) (l : List Int) (k : Nat) : List Int := (List.range k).map (ndI E s l)
theorem ndL_succ (E : List Edg) (s : Int) (l : List Int) (k : Nat) : ndL E s l (k + 1) = ndL E s l k ++ [ndI E s l k] := by unfold ndL; rw [List.range_succ, List.map_append]; rfl
theorem ndL_len (E : List Edg) (s : Int) (l : List Int) (k : Nat) : (ndL E s l k).length = k := by simp [ndL]
theorem ndL_at (E : List Edg) (s : Int) (l : List Int) (k j : Nat) (h : j < k) : gi (ndL E s l k) j = ndI E s l j := by simp [gi, ndL, h]
/-- Is it a row of edges from s on? -/
def isB (N : Int) (E : List Edg) (s : Int) (l : List Int) : Bool := edgesB N E l && (nodeB N s && lkB E s l l.length)
def nodesL (N : Int) (E : List Edg) (s : Int) (l : List Int) : List Int := if isB N E s l then ndL E s l (l.length + 1) else []
/-- A slice of numbers, and whether it is one. -/
def GiveIB (w : World) (l : List Int) (b : Bool) (e : Ending) (w' : World) : Prop := ∃ A c, e = .returned (.tuple #[.slice A l.length c, .bool b]) ∧ Rd w' A 1 l.length (l.map (.int .i64)) ∧ Grows w w'
/-- The same, and the room that the slice has. -/
def GiveIBc (w : World) (l : List Int) (b : Bool) (e : Ending) (w' : World) : Prop := ∃ A c, e = .returned (.tuple #[.slice A l.length c, .bool b]) ∧ l.length ≤ c ∧ Rd w' A 1 l.length (l.map (.int .i64)) ∧ Grows w w'
theorem Own.cap {w : World} {B n c size : Nat} {e : TypeId} {A : Option Addr} {xs : List Value} (h : Own w B e size A n c xs) : n ≤ c := by
  rcases Nat.eq_zero_or_pos n with h0 | h0
  · omega
  · obtain ⟨_, _, _, _, _, h1, _⟩ := h.at_ h0
    exact h1
theorem edges_in {N : Int} {E : List Edg} {l : List Int} (h : edgesB N E l = true) {k : Nat} (hk : k < l.length) : 0 ≤ gi l k ∧ (gi l k).toNat < E.length := by
  unfold edgesB at h
  simp only [Bool.and_eq_true, Bool.not_eq_true', List.any_eq_false] at h
  have := h.2 _ (gi_mem hk)
  unfold edgeB at this
  simp at this
  omega
set_option maxRecDepth 20000 in
set_option maxHeartbeats 2000000 in
theorem r8NodesC (N : Int) (A : Option Addr) (m c : Nat) (E : List Edg) (s : Int) (B : Option Addr) (n d : Nat) (l : List Int) (w : World) (h : Rd w A 3 m (esCells E)) (hm : m ≤ 1000000) (h' : Rd w B 1 n (l.map (.int .i64))) (hn : n ≤ 1000000) :
    Calls Try.prog 89 #[.agg #[.int .i64 N, .slice A m c], .int .i64 s, .slice B n d] w (GiveIBc w (nodesL N E s l) (isB N E s l)) := by
  have HL := hide (show l.length = n by simpa using h'.len)
  have HE := hide h.elen
  have C1 := fun (W : World) (g : Grows w W) => r8edges N A m c E B n d l W (h.grows g) hm (h'.grows g) hn
  have HR := hide h
  have HS := hide h'
  clear h h'
  cases he : edgesB N E l with
  | false =>
    have e1 : isB N E s l = false := by unfold isB; rw [he]; rfl
    have HV : Hid (nodesL N E s l = []) := by unfold nodesL; rw [e1]; rfl
    rw [HV.out, e1]
    rw [he] at C1
    have H1 := hide C1
    clear C1 he e1
    go_enter Try.func89, Try.ntmps89
    go_wp2_with (first | (go_at_call 149; refine (H1.out _ (by repeat (first | exact Grows.refl _ | refine Grows.now ?_ _ | refine Grows.new ?_ _ | refine Grows.drewN ?_ _ | refine Grows.drew ?_ | assumption | (refine Grows.set ?_ (by first | omega | (simp; done) | (simp; omega)) _)))).mono ?_; rintro e w' ⟨rfl, hg⟩; (first | obtain ⟨x, rfl⟩ := Grows.later2 hg | obtain ⟨x, rfl⟩ := Grows.later hg); clear hg))
    go_ret2
    exact ⟨none, 0, rfl, Nat.le_refl _, ⟨rfl, fun h => absurd h (by simp)⟩, (by repeat (first | exact Grows.refl _ | refine Grows.now ?_ _ | refine Grows.new ?_ _ | refine Grows.drewN ?_ _ | refine Grows.drew ?_ | assumption | (refine Grows.set ?_ (by first | omega | (simp; done) | (simp; omega)) _)))⟩
  | true =>
  rw [he] at C1
  have H1 := hide C1
  cases hs : nodeB N s with
  | false =>
    have e1 : isB N E s l = false := by unfold isB; rw [he, hs]; rfl
    have HV : Hid (nodesL N E s l = []) := by unfold nodesL; rw [e1]; rfl
    rw [HV.out, e1]
    have hs2 : ¬ (0 ≤ s ∧ s < N) := by unfold nodeB at hs; simpa using hs
    clear C1 he e1 hs
    go_enter Try.func89, Try.ntmps89
    go_wp2_with (first | (go_at_call 149; refine (H1.out _ (by repeat (first | exact Grows.refl _ | refine Grows.now ?_ _ | refine Grows.new ?_ _ | refine Grows.drewN ?_ _ | refine Grows.drew ?_ | assumption | (refine Grows.set ?_ (by first | omega | (simp; done) | (simp; omega)) _)))).mono ?_; rintro e w' ⟨rfl, hg⟩; (first | obtain ⟨x, rfl⟩ := Grows.later2 hg | obtain ⟨x, rfl⟩ := Grows.later hg); clear hg))
    all_goals first | (exfalso; omega) | skip
    all_goals go_ret2
    all_goals exact ⟨none, 0, rfl, Nat.le_refl _, ⟨rfl, fun h => absurd h (by simp)⟩, (by repeat (first | exact Grows.refl _ | refine Grows.now ?_ _ | refine Grows.new ?_ _ | refine Grows.drewN ?_ _ | refine Grows.drew ?_ | assumption | (refine Grows.set ?_ (by first | omega | (simp; done) | (simp; omega)) _)))⟩
  | true =>
  have HV : Hid (isB N E s l = lkB E s l n) := by unfold isB; rw [he, hs, HL.out]; exact rfl
  have HI := hide (fun k (hk : k < n) => edges_in he (k := k) (by rw [HL.out]; exact hk))
  obtain ⟨hs1, hs2⟩ : 0 ≤ s ∧ s < N := by unfold nodeB at hs; simpa using hs
  clear C1 he hs
  go_enter Try.func89, Try.ntmps89
  go_wp2_with (first | (go_at_call 149; refine (H1.out _ (by repeat (first | exact Grows.refl _ | refine Grows.now ?_ _ | refine Grows.new ?_ _ | refine Grows.drewN ?_ _ | refine Grows.drew ?_ | assumption | (refine Grows.set ?_ (by first | omega | (simp; done) | (simp; omega)) _)))).mono ?_; rintro e w' ⟨rfl, hg⟩; (first | obtain ⟨x, rfl⟩ := Grows.later2 hg | obtain ⟨x, rfl⟩ := Grows.later hg); clear hg))
  all_goals first | (exfalso; omega) | skip
  go_loopw [9, 8] (fun i u wr => ∃ k : Nat, k ≤ n ∧ i = .int .i64 (k : Int) ∧ lkB E s l k = true ∧ ∃ y : Later (w.alloc (.cells #[.int .i64 N, .slice A m c] 24)), wr = y.now ∧
    ∃ A' c', u = .slice A' (k + 1) c' ∧ Own y.now (w.alloc (.cells #[.int .i64 N, .slice A m c] 24)).heap.size 3 1 A' (k + 1) c' ((ndL E s l (k + 1)).map (.int .i64))) (fun i _ _ => n - (intOf i).toNat)
  case atStart =>
    refine ⟨0, by omega, by go_num, rfl, ⟨_, x.grows.new _⟩, rfl, _, _, rfl, ?_⟩
    exact Own.build x.now 3 [.int .i64 s] _ x.size (by simp)
  case round =>
    obtain ⟨k, hk, rfl, hlk, y, rfl, A', c', rfl, hown⟩ := hrel
    have HO := hide hown
    have HK := hide hlk
    clear hown hlk
    by_cases hend : n ≤ k
    · have hkm : k = n := by omega
      subst hkm
      go_wp2
      go_ret2
      have e1 : isB N E s l = true := HV.out.trans HK.out
      have e2 : nodesL N E s l = ndL E s l (k + 1) := by unfold nodesL; rw [e1, HL.out]; rfl
      rw [e1, e2]
      refine ⟨A', c', by rw [ndL_len]; rfl, by rw [ndL_len]; exact HO.out.cap, ?_, (by repeat (first | exact Grows.refl _ | refine Grows.now ?_ _ | refine Grows.new ?_ _ | refine Grows.drewN ?_ _ | refine Grows.drew ?_ | assumption | (refine Grows.set ?_ (by first | omega | (simp; done) | (simp; omega)) _)))⟩
      rw [ndL_len]
      exact HO.out.rd
    · obtain ⟨b, off, rfl, hc⟩ := HS.out.intsH (by omega)
      have c1 := hc k (by omega)
      obtain ⟨i1, i2⟩ := HI.out k (by omega)
      rw [HE.out] at i2
      obtain ⟨b2, off2, rfl, hc2⟩ := HR.out.edgesH (by omega)
      obtain ⟨c2, c3, c4⟩ := hc2 (gi l k).toNat i2
      obtain ⟨g, rfl, hg, hcs⟩ := HO.out.at (by omega)
      have c5 := hcs k _ (by rw [List.getElem?_map, ndL_succ, List.getElem?_append_right (by rw [ndL_len]; omega), ndL_len, Nat.sub_self]; rfl)
      clear hcs
      clear hc hc2
      by_cases hf : (ge E (gi l k).toNat).f = ndI E s l k
      · have hlk2 : Hid (lkB E s l (k + 1) = true) := by show (lkB E s l k && decide _) = true; rw [HK.out, decide_eq_true hf]; rfl
        have HN : Hid (ndI E s l (k + 1) = (ge E (gi l k).toNat).t) := rfl
        have HL2 := hide (ndL_succ E s l (k + 1))
        have hne : ((ge E (gi l k).toNat).f == ndI E s l k) = true := by simpa using hf
        clear hf
        generalize (ge E (gi l k).toNat).t = t at *
        generalize (ge E (gi l k).toNat).f = f at *
        generalize hq : gi l k = q at *
        obtain ⟨q, rfl⟩ := Int.eq_ofNat_of_zero_le i1
        simp only [Int.toNat_natCast] at i2 c2 c3 c4
        generalize (ge E q).w = w3 at *
        go_wp2_with fail
        go_region
        go_wp2_with fail
        go_region
        go_wp2_with (at_builtin; refine wp_app1 elemInt rfl _ _ rfl _ (by repeat (first | exact Grows.refl _ | refine Grows.now ?_ _ | refine Grows.new ?_ _ | refine Grows.drewN ?_ _ | refine Grows.drew ?_ | assumption | (refine Grows.set ?_ (by first | omega | (simp; done) | (simp; omega)) _))) (k + 1) c' _ _ rfl (HO.out.grows (by repeat (first | exact Grows.refl _ | refine Grows.now ?_ _ | refine Grows.new ?_ _ | refine Grows.drewN ?_ _ | refine Grows.drew ?_ | assumption | (refine Grows.set ?_ (by first | omega | (simp; done) | (simp; omega)) _)))) _ _ _ rfl inferInstance rfl (by omega) ?_; intro A3 c3 y3 hown3; have HO3 := hide hown3; clear hown3)
        refine ⟨⟨k + 1, by omega, by go_num, hlk2.out, y3, rfl, A3, c3, rfl, ?_⟩, by simp [intOf]; omega⟩
        rw [HL2.out, HN.out, List.map_append]
        exact HO3.out
      · have e1 : isB N E s l = false := by
          have : lkB E s l (k + 1) = false := by show (lkB E s l k && decide _) = false; rw [decide_eq_false hf, Bool.and_false]
          have := lkB_mono this (n - (k + 1))
          rw [show k + 1 + (n - (k + 1)) = n by omega] at this
          exact HV.out.trans this
        have hne : ((ge E (gi l k).toNat).f == ndI E s l k) = false := by simpa using hf
        have HW : Hid (nodesL N E s l = []) := by unfold nodesL; rw [e1]; rfl
        rw [HW.out, e1]
        clear hf e1
        generalize (ge E (gi l k).toNat).t = t at *
        generalize (ge E (gi l k).toNat).f = f at *
        generalize hq : gi l k = q at *
        obtain ⟨q, rfl⟩ := Int.eq_ofNat_of_zero_le i1
        simp only [Int.toNat_natCast] at i2 c2 c3 c4
        generalize (ge E q).w = w3 at *
        go_wp2_with fail
        go_region
        go_wp2_with fail
        go_region
        go_wp2
        go_ret2
        exact ⟨none, 0, rfl, Nat.le_refl _, ⟨rfl, fun h => absurd h (by simp)⟩, (by repeat (first | exact Grows.refl _ | refine Grows.now ?_ _ | refine Grows.new ?_ _ | refine Grows.drewN ?_ _ | refine Grows.drew ?_ | assumption | (refine Grows.set ?_ (by first | omega | (simp; done) | (simp; omega)) _)))⟩
theorem r8Nodes (N : Int) (A : Option Addr) (m c : Nat) (E : List Edg) (s : Int) (B : Option Addr) (n d : Nat) (l : List Int) (w : World) (h : Rd w A 3 m (esCells E)) (hm : m ≤ 1000000) (h' : Rd w B 1 n (l.map (.int .i64))) (hn : n ≤ 1000000) :
    Calls Try.prog 89 #[.agg #[.int .i64 N, .slice A m c], .int .i64 s, .slice B n d] w (GiveIB w (nodesL N E s l) (isB N E s l)) :=
  (r8NodesC N A m c E s B n d l w h hm h' hn).mono fun _ _ ⟨A, c, h1, _, h2⟩ => ⟨A, c, h1, h2⟩
end Go.Proofs.Ythjcbboignmknaa

/- Contract: is a row of edges a way on which no node comes twice? -/
namespace Go.Proofs.Ythjcbboignmknaa
open Go Go.RowKit
/-- No number of the first k stands twice. -/
def oneB (l : List Int) (k : Nat) : Bool := decide (∀ j, j < k → gi l j ∉ l.take j)
def simB (N : Int) (E : List Edg) (s : Int) (l : List Int) : Bool := isB N E s l && oneB (nodesL N E s l) (nodesL N E s l).length
set_option maxRecDepth 20000 in
set_option maxHeartbeats 2000000 in
theorem r8Simple (N : Int) (A : Option Addr) (m c : Nat) (E : List Edg) (s : Int) (B : Option Addr) (n d : Nat) (l : List Int) (w : World) (h : Rd w A 3 m (esCells E)) (hm : m ≤ 1000000) (h' : Rd w B 1 n (l.map (.int .i64))) (hn : n ≤ 100000) :
    Calls Try.prog 33 #[.agg #[.int .i64 N, .slice A m c], .int .i64 s, .slice B n d] w fun e w' => e = .returned (.bool (simB N E s l)) ∧ Grows w w' := by
  have HV : Hid (simB N E s l = (isB N E s l && oneB (nodesL N E s l) (nodesL N E s l).length)) := rfl
  have hlen : (nodesL N E s l).length ≤ 100001 := by
    have : l.length = n := by simpa using h'.len
    unfold nodesL
    split
    · rw [ndL_len]; omega
    · simp
  have C1 := hide (fun (W : World) (g : Grows w W) => r8NodesC N A m c E s B n d l W (h.grows g) hm (h'.grows g) (by omega))
  clear h h'
  generalize nodesL N E s l = nl at *
  generalize isB N E s l = bb at *
  go_enter Try.func33, Try.ntmps33
  go_wp2_with (go_at_call 89; refine (C1.out _ (by repeat (first | exact Grows.refl _ | refine Grows.now ?_ _ | refine Grows.new ?_ _ | refine Grows.drewN ?_ _ | refine Grows.drew ?_ | assumption | (refine Grows.set ?_ (by first | omega | (simp; done) | (simp; omega)) _)))).mono ?_; rintro e w' ⟨A1, c1, rfl, hc1, hr1, hg⟩; obtain ⟨x1, rfl⟩ := hg.later; have HR := hide hr1; have HC := hide hc1; clear hg hr1 hc1)
  go_loopw [9] (fun i wr => ∃ k : Nat, k ≤ nl.length ∧ i = .int .i64 (k : Int) ∧ (∃ y : Later x1.now, wr = y.now) ∧ Hid (∀ j, j < k → gi nl j ∉ nl.take j)) (fun i _ => nl.length - (intOf i).toNat)
  case atStart => exact ⟨0, by omega, by go_num, ⟨⟨_, Grows.refl _⟩, rfl⟩, fun j h => by omega⟩
  case round =>
    obtain ⟨k, hk, rfl, ⟨y, rfl⟩, HA⟩ := hrel
    by_cases hend : nl.length ≤ k
    · have HW : Hid (oneB nl nl.length = true) := decide_eq_true (fun j hj => HA.out j (by omega))
      go_wp2
      go_ret
      exact ⟨ret_bool (by rw [HV.out, HW.out, Bool.and_true]), (by repeat (first | exact Grows.refl _ | refine Grows.now ?_ _ | refine Grows.new ?_ _ | refine Grows.drewN ?_ _ | refine Grows.drew ?_ | assumption | (refine Grows.set ?_ (by first | omega | (simp; done) | (simp; omega)) _)))⟩
    · obtain ⟨b, off, rfl, hc⟩ := HR.out.intsH (by omega)
      have c1' := hc k (by omega)
      clear hc
      have hcap : k ≤ c1 := by have := HC.out; omega
      have D1 := fun (W : World) (g : Grows x1.now W) => calls_same (r1Has (some ⟨b, off, none⟩) k c1 (nl.take k) (gi nl k) W (Rd.take (HR.out.grows g) (by omega)) (by omega))
      cases hin : decide (gi nl k ∈ nl.take k) with
      | true =>
        have HW : Hid (oneB nl nl.length = false) := decide_eq_false (fun h => h k (by omega) (of_decide_eq_true hin))
        rw [hin] at D1
        have K1 := hide D1
        clear D1 hin
        go_wp2_with fail
        ((first | refine wp_region_gen (by kernel_rfl) (by kernel_rfl) ?_); (repeat' (first | (refine gLex_val0 rfl (by kernel_rfl) (fun K hK => ?_); (go_simp; (try (simp only [↓IntWalk.iteOmega]; try go_simp)); (try simp (disch := omega) only [IntWalk.i64_in]); (try simp (disch := omega) only [IntWalk.u64_in]); first | (refine hK _ ?_; clear hK K) | (apply Exists.intro; refine ⟨fun x => ?_, hK _ ?_⟩; (first | (go_at_call 81; exact K1.out _ (by repeat (first | exact Grows.refl _ | refine Grows.now ?_ _ | refine Grows.new ?_ _ | refine Grows.drewN ?_ _ | refine Grows.drew ?_ | assumption | (refine Grows.set ?_ (by first | omega | (simp; done) | (simp; omega)) _))))); clear hK K))) | (refine gLex_undef rfl rfl rfl (by kernel_rfl) (fun K hK => ?_); go_simp; refine hK _ ?_; clear hK K) | (refine gLex_ask rfl rfl rfl ?_; first | (apply gAsk_yes; kernel_rfl; intro K hK; (go_simp; (try (simp only [↓IntWalk.iteOmega]; try go_simp)); (try simp (disch := omega) only [IntWalk.i64_in]); (try simp (disch := omega) only [IntWalk.u64_in]); first | (refine hK _ ?_; clear hK K) | (apply Exists.intro; refine ⟨fun x => ?_, hK _ ?_⟩; (first | (go_at_call 81; exact K1.out _ (by repeat (first | exact Grows.refl _ | refine Grows.now ?_ _ | refine Grows.new ?_ _ | refine Grows.drewN ?_ _ | refine Grows.drew ?_ | assumption | (refine Grows.set ?_ (by first | omega | (simp; done) | (simp; omega)) _))))); clear hK K))) | ((first | apply gAsk_no1 | apply gAsk_no2); kernel_rfl; intro K hK; simp [go_sem]; refine hK _ ?_; clear hK K) | (apply gAsk_part; kernel_rfl; all_goals (intro h K hK; (try simp only [Bool.not_true] at h); (try simp only [Bool.not_false] at h); (try simp only [decide_eq_true_eq] at h); (try simp only [decide_eq_false_iff_not] at h); first | (exfalso; first | contradiction | omega) | (go_simp; (try (simp only [↓IntWalk.iteOmega]; try go_simp)); (try simp (disch := omega) only [IntWalk.i64_in]); (try simp (disch := omega) only [IntWalk.u64_in]); first | (refine hK _ ?_; clear hK K) | (apply Exists.intro; refine ⟨fun x => ?_, hK _ ?_⟩; (first | (go_at_call 81; exact K1.out _ (by repeat (first | exact Grows.refl _ | refine Grows.now ?_ _ | refine Grows.new ?_ _ | refine Grows.drewN ?_ _ | refine Grows.drew ?_ | assumption | (refine Grows.set ?_ (by first | omega | (simp; done) | (simp; omega)) _))))); clear hK K))))))); all_goals ((apply gLex_end); intro x))
        go_wp2
        go_ret
        exact ⟨ret_bool (by rw [HV.out, HW.out, Bool.and_false]), (by repeat (first | exact Grows.refl _ | refine Grows.now ?_ _ | refine Grows.new ?_ _ | refine Grows.drewN ?_ _ | refine Grows.drew ?_ | assumption | (refine Grows.set ?_ (by first | omega | (simp; done) | (simp; omega)) _)))⟩
      | false =>
        have HN : Hid (∀ j, j < k + 1 → gi nl j ∉ nl.take j) := fun j hj => by
          by_cases e : j = k
          · rw [e]; exact of_decide_eq_false hin
          · exact HA.out j (by omega)
        rw [hin] at D1
        have K1 := hide D1
        clear D1 hin
        go_wp2_with fail
        ((first | refine wp_region_gen (by kernel_rfl) (by kernel_rfl) ?_); (repeat' (first | (refine gLex_val0 rfl (by kernel_rfl) (fun K hK => ?_); (go_simp; (try (simp only [↓IntWalk.iteOmega]; try go_simp)); (try simp (disch := omega) only [IntWalk.i64_in]); (try simp (disch := omega) only [IntWalk.u64_in]); first | (refine hK _ ?_; clear hK K) | (apply Exists.intro; refine ⟨fun x => ?_, hK _ ?_⟩; (first | (go_at_call 81; exact K1.out _ (by repeat (first | exact Grows.refl _ | refine Grows.now ?_ _ | refine Grows.new ?_ _ | refine Grows.drewN ?_ _ | refine Grows.drew ?_ | assumption | (refine Grows.set ?_ (by first | omega | (simp; done) | (simp; omega)) _))))); clear hK K))) | (refine gLex_undef rfl rfl rfl (by kernel_rfl) (fun K hK => ?_); go_simp; refine hK _ ?_; clear hK K) | (refine gLex_ask rfl rfl rfl ?_; first | (apply gAsk_yes; kernel_rfl; intro K hK; (go_simp; (try (simp only [↓IntWalk.iteOmega]; try go_simp)); (try simp (disch := omega) only [IntWalk.i64_in]); (try simp (disch := omega) only [IntWalk.u64_in]); first | (refine hK _ ?_; clear hK K) | (apply Exists.intro; refine ⟨fun x => ?_, hK _ ?_⟩; (first | (go_at_call 81; exact K1.out _ (by repeat (first | exact Grows.refl _ | refine Grows.now ?_ _ | refine Grows.new ?_ _ | refine Grows.drewN ?_ _ | refine Grows.drew ?_ | assumption | (refine Grows.set ?_ (by first | omega | (simp; done) | (simp; omega)) _))))); clear hK K))) | ((first | apply gAsk_no1 | apply gAsk_no2); kernel_rfl; intro K hK; simp [go_sem]; refine hK _ ?_; clear hK K) | (apply gAsk_part; kernel_rfl; all_goals (intro h K hK; (try simp only [Bool.not_true] at h); (try simp only [Bool.not_false] at h); (try simp only [decide_eq_true_eq] at h); (try simp only [decide_eq_false_iff_not] at h); first | (exfalso; first | contradiction | omega) | (go_simp; (try (simp only [↓IntWalk.iteOmega]; try go_simp)); (try simp (disch := omega) only [IntWalk.i64_in]); (try simp (disch := omega) only [IntWalk.u64_in]); first | (refine hK _ ?_; clear hK K) | (apply Exists.intro; refine ⟨fun x => ?_, hK _ ?_⟩; (first | (go_at_call 81; exact K1.out _ (by repeat (first | exact Grows.refl _ | refine Grows.now ?_ _ | refine Grows.new ?_ _ | refine Grows.drewN ?_ _ | refine Grows.drew ?_ | assumption | (refine Grows.set ?_ (by first | omega | (simp; done) | (simp; omega)) _))))); clear hK K))))))); all_goals ((apply gLex_end); intro x))
        go_wp2
        exact ⟨⟨k + 1, by omega, by go_num, Grows.later (by repeat (first | exact Grows.refl _ | refine Grows.now ?_ _ | refine Grows.new ?_ _ | refine Grows.drewN ?_ _ | refine Grows.drew ?_ | assumption | (refine Grows.set ?_ (by first | omega | (simp; done) | (simp; omega)) _))), HN⟩, by simp [intOf]; omega⟩
end Go.Proofs.Ythjcbboignmknaa

/- Plain law: the way that is followed is a simple way to its end. -/
namespace Go.Proofs.Ythjcbboignmknaa
open Go Go.RowKit
/-- A row of edges, as numbers. -/
def ciL (l : List Nat) : List Int := l.map fun (i : Nat) => (i : Int)
theorem ciL_len (l : List Nat) : (ciL l).length = l.length := by simp [ciL]
theorem ciL_gi {l : List Nat} {k : Nat} (h : k < l.length) : gi (ciL l) k = (l[k] : Int) := by simp [ciL, gi, h]
/-- The nodes that a way comes to. -/
def ndsN (E : List Edg) (v : Nat) (l : List Nat) : List Nat := v :: l.map (tN E)
theorem Fol.link {x : Srch} {d : List Nat} {t v : Nat} {l : List Nat} (h : Fol x d t v l) : ∀ k (hk : k < l.length), fN x.E l[k] = (ndsN x.E v l)[k]'(by simp [ndsN]; omega) := by
  induction h with
  | here => intro k hk; simp at hk
  | @step v i l hne hi hfi hb hl hfol ih =>
    intro k hk
    match k, hk with
    | 0, _ => simpa [ndsN] using hfi
    | k + 1, hk =>
      have := ih k (by simpa using hk)
      simpa [ndsN] using this
theorem Fol.last {x : Srch} {d : List Nat} {t v : Nat} {l : List Nat} (h : Fol x d t v l) : (ndsN x.E v l)[l.length]'(by simp [ndsN]) = t := by
  induction h with
  | here => rfl
  | @step v i l hne hi hfi hb hl hfol ih => simpa [ndsN] using ih
theorem ndI_is {N : Nat} {E : List Edg} (hE : InN N E) {v : Nat} {l : List Nat} (hl : ∀ i ∈ l, i < E.length) : ∀ k (hk : k ≤ l.length), ndI E (v : Int) (ciL l) k = ((ndsN E v l)[k]'(by simp [ndsN]; omega) : Int)
  | 0, _ => rfl
  | k + 1, hk => by
    have hk' : k < l.length := by omega
    show (ge E (gi (ciL l) k).toNat).t = _
    rw [ciL_gi hk', Int.toNat_natCast, (hE.t _ (hl _ (List.getElem_mem hk'))).2]
    simp [ndsN]
theorem lkB_is {N : Nat} {x : Srch} {d : List Nat} {t v : Nat} {l : List Nat} (hE : InN N x.E) (h : Fol x d t v l) : ∀ k, k ≤ l.length → lkB x.E (v : Int) (ciL l) k = true
  | 0, _ => rfl
  | k + 1, hk => by
    have hk' : k < l.length := by omega
    show (lkB x.E (v : Int) (ciL l) k && decide ((ge x.E (gi (ciL l) k).toNat).f = ndI x.E v (ciL l) k)) = true
    rw [lkB_is hE h k (by omega), ndI_is hE h.edges k (by omega), ciL_gi hk', Int.toNat_natCast, (hE.f _ (h.edges _ (List.getElem_mem hk'))).2, h.link k hk']
    simp
theorem Fol.isB {N : Nat} {x : Srch} {d : List Nat} {t v : Nat} {l : List Nat} (hE : InN N x.E) (h : Fol x d t v l) (hr : rightF N x.E = 0) (hv : v < N) : isB N x.E (v : Int) (ciL l) = true := by
  unfold Go.Proofs.Ythjcbboignmknaa.isB edgesB
  rw [ciL_len, lkB_is hE h _ (Nat.le_refl _), decide_eq_true hr, show nodeB (N : Int) (v : Int) = true from decide_eq_true ⟨by omega, by omega⟩]
  have : (ciL l).any (fun e => !edgeB x.E.length e) = false := by
    rw [List.any_eq_false]
    intro e he
    obtain ⟨i, hi, rfl⟩ := List.mem_map.1 he
    have := h.edges i hi
    unfold edgeB
    simp
    omega
  rw [this]
  rfl
theorem Fol.nodesL {N : Nat} {x : Srch} {d : List Nat} {t v : Nat} {l : List Nat} (hE : InN N x.E) (h : Fol x d t v l) (hr : rightF N x.E = 0) (hv : v < N) : nodesL N x.E (v : Int) (ciL l) = ciL (ndsN x.E v l) := by
  unfold Go.Proofs.Ythjcbboignmknaa.nodesL
  rw [if_pos (h.isB hE hr hv), ciL_len]
  refine List.ext_getElem (by simp [ndL_len, ciL, ndsN]) fun k h1 h2 => ?_
  have hk : k ≤ l.length := by rw [ndL_len] at h1; omega
  have e := ndI_is hE (v := v) h.edges k hk
  simp only [ndL, List.getElem_map, List.getElem_range, ciL]
  exact e
theorem oneB_is {L : List Nat} (h : L.Nodup) : oneB (ciL L) (ciL L).length = true := by
  refine decide_eq_true fun j hj hm => ?_
  rw [ciL_len] at hj
  rw [ciL_gi hj] at hm
  have e : (ciL L).take j = ciL (L.take j) := by simp [ciL, List.map_take]
  rw [e] at hm
  obtain ⟨i, hi, he⟩ := List.mem_map.1 hm
  have he : i = L[j] := by omega
  subst he
  obtain ⟨k, hk, hke⟩ := List.getElem_of_mem hi
  simp at hk
  rw [List.getElem_take] at hke
  exact List.pairwise_iff_getElem.1 h k j (by omega) hj (by omega) hke
theorem Fol.simple {N : Nat} {x : Srch} {d : List Nat} {t v : Nat} {l : List Nat} (hn : Near x d t) (hE : InN N x.E) (h : Fol x d t v l) (hr : rightF N x.E = 0) (hv : v < N) (hv2 : v < x.N) : simB N x.E (v : Int) (ciL l) = true := by
  unfold simB
  rw [h.isB hE hr hv, h.nodesL hE hr hv, Bool.true_and]
  exact oneB_is (h.nodup hn hv2)
end Go.Proofs.Ythjcbboignmknaa

/- Plain law: how far the end is from any node, by the search from there and by the one turned round. -/
namespace Go.Proofs.Ythjcbboignmknaa
open Go Go.RowKit
/-- What counts: all, with these weights. -/
def freeO (W : List Nat) : DOpt := ⟨false, [], [], W, 0⟩
theorem one_turned {NN sN tN u : Nat} {E : List Edg} {W : List Nat} {ys : List (Nat × Nat)} (hx : PathOk NN sN tN E (freeO W) ys) (hu : u < NN) :
    ∃ xs, WalkOk NN u E (freeO W) ∧ dcF NN u E W = 0 ∧ (if (u : Int) ∈ (freeO W).nn then xs = [] else Trace (srchOf NN E (freeO W)) (reachS (freeO W).most (st0 NN) u 0) xs) ∧ (xs.map Prod.fst).Nodup ∧
      (∀ f, (tN, f) ∈ xs → f = gn (outL NN ys) u ∧ f < farV) ∧ (tN ∉ xs.map Prod.fst → gn (outL NN ys) u = farV) := by
  have hb := hx.bound.1
  have ht := hx.ok.node
  have hdu : dcF NN u E W = 0 := dc_node hx.dcs ⟨by omega, by omega⟩
  have hok : WalkOk NN u E (freeO W) := ⟨hx.ok.right, hu, hx.ok.wts, by show (0 : Nat) < _; omega, by show 0 ≤ _; omega, by show 0 ≤ _; omega⟩
  obtain ⟨xs, h1, h2, h3⟩ := walk_is hok hx.wb (Nat.le_refl _) (by simp [freeO])
  have hf := hx.far (by simp [freeO])
  have hc : ∀ i, cntE (srchOf NN E (freeO W)) i = true := fun i => by simp [cntE, srchOf, freeO]
  have hc2 : ∀ i, cntE (turnX (srchOf NN E (freeO W))) i = true := fun i => by simp [cntE, srchOf, freeO, turnX]
  have e := h2.turned (t := tN) (ys := ys) hf hb rfl (fun i _ => hc2 i) (fun i _ => hc i) hu ht
  have e : gn (outL NN ys) u = gn (outL NN xs) tN := e
  refine ⟨xs, hok, hdu, h1, h2.nodup, fun f hfx => ?_, fun hn => ?_⟩
  · have e2 := outL_at (N := NN) h2.nodup ht hfx
    have h5 : f ≤ NN * 17592186044416 := (h2.way _ _ hfx).2.2.2
    exact ⟨by rw [e, e2], by omega⟩
  · rw [e]
    exact outL_no ht hn
end Go.Proofs.Ythjcbboignmknaa
