/- append in regions that draw their order: to an own row, and of a whole row to an empty literal. -/
import Derived.Test.YtgplpgldhoelcaaGreatQYenWays12
import Derived.Test.YtgplpgldhoelcaaGreatQYenWays21
namespace Go.Proofs.YtgplpgldhoelcaaGreat
open Go Go.RowKit
theorem runs_appY {w : World} {e : TypeId} {o : Oper} {a : Act} {t : TypeId} {size : Nat} (E : Elem t e size) {s x : Operand} (ho : o.op = .call { callee := .builtin .append, args := #[s, x], argTypes := #[t, t] })
    (B n c : Nat) (A : Option Addr) (xs : List Value) (hB : B ≤ w.heap.size) (hs : a.eval s = .slice A n c) (hown : Own w B e size A n c xs) (g c' : Nat) (news : List Value) (hx : a.eval x = .slice (some ⟨g, 0, none⟩) 1 c')
    (hl : news.length = size) (hv : ∀ j u, news[j]? = some u → w.cell? ⟨g, j, none⟩ = some u) (h1 : ∀ u ∈ news, u.oneCell' = true) (hnm : n + 1 ≤ 1000000000000) :
    runsTo Tryz.prog (fun u w' => ∃ A' c'', u = .slice A' (n + 1) c'' ∧ Own w' B e size A' (n + 1) c'' (xs ++ news) ∧ Touch (fun k => ∃ p, A = some p ∧ p.block = k) w w' ∧ ∀ p, A' = some p → (∃ q, A = some q ∧ q.block = p.block) ∨ New w w' p.block) ((execOp a.eval o).run Tryz.prog w) := by
  obtain ⟨i, z, bytes, hi, hz, hsz, hby, hzs, hb64⟩ := E.info
  obtain ⟨v', w', hr, hown', hgr, _, hat⟩ := run_append_own_at (P := Tryz.prog) w B t o.type e i z size bytes E.under hi hz hsz hby hzs E.pos (.slice A n c) n xs hown ⟨g, 0, none⟩ 1 c' news (by omega) (fun j u hu => by rw [add_pl2, Nat.zero_add]; exact hv j u hu) h1 (by unfold maxLen; omega) (Nat.le_trans (Nat.mul_le_mul hnm hb64) (by omega)) hB
  unfold execOp
  simp only [ho, resolve, invoke, builtin, Sem.run_bind, Sem.run_pure, Result.andThen_ok, List.map_toArray, List.map_cons, List.map_nil, hs, hx, hr]
  obtain ⟨A', c'', rfl⟩ := own_form hown'
  refine ⟨A', c'', rfl, hown', (Touch.refl _ w).grown hgr fun k hk => .inl (by
    cases A with
    | none => simp [Value.ownBlock] at hk
    | some p => simp [Value.ownBlock] at hk; exact ⟨p, rfl, hk⟩), fun p hp => ?_⟩
  subst hp
  simp only [Value.ownBlock] at hat
  rcases hat with hat | hat
  · refine .inl ?_
    cases A with
    | none => simp at hat
    | some q => simp at hat; exact ⟨q, rfl, hat.symm⟩
  · injection hat with hat
    exact .inr ⟨by omega, (World.ownsRow.lt hown' p.block rfl).2⟩
theorem runs_appE {w : World} {e : TypeId} {o : Oper} {a : Act} {t : TypeId} {size : Nat} (E : Elem t e size) {s x : Operand} (ho : o.op = .call { callee := .builtin .append, args := #[s, x], argTypes := #[t, t] })
    (B g : Nat) (hB : B ≤ w.heap.size) (hs : a.eval s = .slice (some ⟨g, 0, none⟩) 0 0) (hown : Own w B e size (some ⟨g, 0, none⟩) 0 0 []) (Ax : Option Addr) (m d : Nat) (ys : List Value) (hx : a.eval x = .slice Ax m d)
    (hr : Rd w Ax size m ys) (hnil : Ax = none → m = 0 ∧ d = 0) (hz0 : m = 0 → Ax = none) (h1 : ∀ u ∈ ys, u.oneCell' = true) (hm : m ≤ 1000000000000) :
    runsTo Tryz.prog (fun u w' => ∃ A' c'', u = .slice A' m c'' ∧ Own w' B e size A' m c'' ys ∧ Grows w w' ∧ ∀ p, A' = some p → (m = 0 ∧ p.block = g) ∨ New w w' p.block) ((execOp a.eval o).run Tryz.prog w) := by
  obtain ⟨i, z, bytes, hi, hz, hsz, hby, hzs, hb64⟩ := E.info
  cases Ax with
  | none =>
    obtain ⟨rfl, rfl⟩ := hnil rfl
    have hy : ys = [] := List.eq_nil_of_length_eq_zero (by have := hr.1; omega)
    subst hy
    have hrun := run_append_owned_none (P := Tryz.prog) w B t o.type e i size E.under hi (.slice (some ⟨g, 0, none⟩) 0 0) 0 [] hown
    unfold execOp
    simp only [ho, resolve, invoke, builtin, Sem.run_bind, Sem.run_pure, Result.andThen_ok, List.map_toArray, List.map_cons, List.map_nil, hs, hx, hrun]
    exact ⟨_, _, rfl, hown, Grows.refl _, fun p hp => by injection hp with hp; subst hp; exact .inl ⟨by trivial, rfl⟩⟩
  | some ad =>
    have hm0 : 0 < m := by
      rcases Nat.eq_zero_or_pos m with h0 | h0
      · exact absurd (hz0 h0) (by simp)
      · exact h0
    have hbb : m * bytes ≤ 140737488355328 := Nat.le_trans (Nat.mul_le_mul hm hb64) (by omega)
    have he := run_append_empty (P := Tryz.prog) w t o.type e i E.under hi ⟨g, 0, none⟩ ad m d hm0 hm (by rw [hby]; exact hbb)
    obtain ⟨v', w', hrun, hown', hgr, _, hat⟩ := run_append_own_at (P := Tryz.prog) w w.heap.size t o.type e i z size bytes E.under hi hz hsz hby hzs E.pos (.slice none 0 0) 0 [] (World.ownsRow_nil _ _ _ _) ad m d ys hr.1 (fun j u hu => by
      obtain ⟨b, off, he, hc⟩ := hr.2 hm0 E.pos
      obtain rfl : ad = ⟨b, off, none⟩ := Option.some.inj he
      rw [add_pl2]
      exact hc j u hu) h1 (by unfold maxLen; omega) (by rw [Nat.zero_add]; exact hbb) (Nat.le_refl _)
    rw [hrun] at he
    unfold execOp
    simp only [ho, resolve, invoke, builtin, Sem.run_bind, Sem.run_pure, Result.andThen_ok, List.map_toArray, List.map_cons, List.map_nil, hs, hx, he]
    obtain ⟨A', c'', rfl⟩ := own_form hown'
    rw [Nat.zero_add, List.nil_append] at hown'
    have hO : Own w' w.heap.size e size A' m c'' ys := hown'
    refine ⟨A', c'', by rw [Nat.zero_add], hO.base hB, ⟨hgr.os, hgr.tape, hgr.output, hgr.size, fun k hk => hgr.block k hk (by simp [Value.ownBlock])⟩, fun p hp => .inr ⟨(hO.ty p hp).1, hO.ltB p hp⟩⟩
end Go.Proofs.YtgplpgldhoelcaaGreat

namespace Go.Proofs.YtgplpgldhoelcaaGreat
open Go Go.RowKit
structure GrC where
  g0 : Nat
  g1 : Nat
  g2 : Nat
  g3 : Nat
  a0 : Option Addr
  a1 : Option Addr
  a2 : Option Addr
  a3 : Option Addr
  c0 : Nat
  c1 : Nat
  c2 : Nat
  c3 : Nat
  aR : Option Addr
  nR : Nat
  cR : Nat
structure GrJ (W w : World) (D : Nat → Bool) (c : GrC) (nL nP : Nat) (L P : List Value) (x y : Value) : Prop where
  grows : Grows W w
  e0 : D 2 = true → D 4 = false → Own w W.heap.size 3 1 (some ⟨c.g0, 0, none⟩) 0 0 []
  b0 : D 7 = true → D 8 = false → Arr w c.g1 3 [x]
  r0 : D 4 = true → D 8 = false → Own w W.heap.size 3 1 c.a0 nL c.c0 L
  r1 : D 8 = true → Own w W.heap.size 3 1 c.a1 (nL + 1) c.c1 (L ++ [x])
  e1 : D 9 = true → D 11 = false → Own w W.heap.size 3 1 (some ⟨c.g2, 0, none⟩) 0 0 []
  b1 : D 13 = true → D 14 = false → Arr w c.g3 3 [y]
  r2 : D 11 = true → D 14 = false → Own w W.heap.size 3 1 c.a2 nP c.c2 P
  r3 : D 14 = true → Own w W.heap.size 3 1 c.a3 (nP + 1) c.c3 (P ++ [y])
  s1 : D 4 = true → D 8 = false → ∀ p, c.a0 = some p → (D 9 = true → D 11 = false → p.block ≠ c.g2) ∧ (D 13 = true → D 14 = false → p.block ≠ c.g3)
  s3 : D 8 = true → D 9 = true → D 11 = false → ∀ p, c.a1 = some p → p.block ≠ c.g2
  s2 : D 11 = true → D 14 = false → ∀ p q, c.a2 = some p → c.a1 = some q → p.block ≠ q.block
section
variable {W w w' : World} {D D' : Nat → Bool} {c : GrC} {nL nP : Nat} {L P : List Value} {x y : Value}
theorem GrJ.congr (h : GrJ W w D c nL nP L P x y) (he : ∀ j, (j = 2 ∨ j = 4 ∨ j = 7 ∨ j = 8 ∨ j = 9 ∨ j = 11 ∨ j = 13 ∨ j = 14) → D' j = D j) : GrJ W w D' c nL nP L P x y := by
  have e2 := he 2 (by simp)
  have e4 := he 4 (by simp)
  have e7 := he 7 (by simp)
  have e8 := he 8 (by simp)
  have e9 := he 9 (by simp)
  have e11 := he 11 (by simp)
  have e13 := he 13 (by simp)
  have e14 := he 14 (by simp)
  exact ⟨h.grows, by rw [e2, e4]; exact h.e0, by rw [e7, e8]; exact h.b0, by rw [e4, e8]; exact h.r0, by rw [e8]; exact h.r1, by rw [e9, e11]; exact h.e1, by rw [e13, e14]; exact h.b1, by rw [e11, e14]; exact h.r2, by rw [e14]; exact h.r3, by rw [e4, e8, e9, e11, e13, e14]; exact h.s1, by rw [e8, e9, e11]; exact h.s3, by rw [e11, e14]; exact h.s2⟩
theorem GrJ.grow (h : GrJ W w D c nL nP L P x y) (hg : Grows w w') : GrJ W w' D c nL nP L P x y :=
  ⟨h.grows.trans hg, fun a b => (h.e0 a b).grows hg, fun a b => (h.b0 a b).grow hg, fun a b => (h.r0 a b).grows hg, fun a => (h.r1 a).grows hg, fun a b => (h.e1 a b).grows hg, fun a b => (h.b1 a b).grow hg, fun a b => (h.r2 a b).grows hg, fun a => (h.r3 a).grows hg, h.s1, h.s3, h.s2⟩
theorem GrJ.k2 (h : GrJ W w D c nL nP L P x y) : GrJ W (w.alloc (.cells #[] 3)) (fun j => if j = 2 then true else D j) { c with g0 := w.heap.size } nL nP L P x y := by
  have hk := h.grow ((Grows.refl w).new (.cells #[] 3))
  exact ⟨hk.grows, fun _ _ => Own.empty w _ _ _ h.grows.size, fun a b => hk.b0 (by simpa using a) (by simpa using b), fun a b => hk.r0 (by simpa using a) (by simpa using b), fun a => hk.r1 (by simpa using a), fun a b => hk.e1 (by simpa using a) (by simpa using b), fun a b => hk.b1 (by simpa using a) (by simpa using b), fun a b => hk.r2 (by simpa using a) (by simpa using b), fun a => hk.r3 (by simpa using a),
    fun a b p hp => ⟨fun u v => (hk.s1 (by simpa using a) (by simpa using b) p hp).1 (by simpa using u) (by simpa using v), fun u v => (hk.s1 (by simpa using a) (by simpa using b) p hp).2 (by simpa using u) (by simpa using v)⟩, fun a b d => hk.s3 (by simpa using a) (by simpa using b) (by simpa using d), fun a b => hk.s2 (by simpa using a) (by simpa using b)⟩
theorem GrJ.k4 (h : GrJ W w D c nL nP L P x y) (hg : Grows w w') {A : Option Addr} {cc : Nat} (ho : Own w' W.heap.size 3 1 A nL cc L) (hn : 0 < nL) (hA : ∀ p, A = some p → (nL = 0 ∧ p.block = c.g0) ∨ New w w' p.block) : GrJ W w' (fun j => if j = 4 then true else D j) { c with a0 := A, c0 := cc } nL nP L P x y := by
  have hk := h.grow hg
  exact ⟨hk.grows, fun _ b => absurd b (by simp), fun a b => hk.b0 (by simpa using a) (by simpa using b), fun _ _ => ho, fun a => hk.r1 (by simpa using a), fun a b => hk.e1 (by simpa using a) (by simpa using b), fun a b => hk.b1 (by simpa using a) (by simpa using b), fun a b => hk.r2 (by simpa using a) (by simpa using b), fun a => hk.r3 (by simpa using a),
    fun _ _ p hp => ⟨fun u v e => by
      have h1 := (h.e1 (by simpa using u) (by simpa using v)).ltB _ rfl
      rcases hA p hp with h2 | h2
      · omega
      · have := h2.1
        simp only at e h1
        omega, fun u v e => by
      have h1 := (h.b1 (by simpa using u) (by simpa using v)).lt
      rcases hA p hp with h2 | h2
      · omega
      · have := h2.1
        simp only at e
        omega⟩, fun a b d => hk.s3 (by simpa using a) (by simpa using b) (by simpa using d), fun a b => hk.s2 (by simpa using a) (by simpa using b)⟩
theorem GrJ.k7 (h : GrJ W w D c nL nP L P x y) : GrJ W (w.alloc (.cells #[x] 3)) (fun j => if j = 7 then true else D j) { c with g1 := w.heap.size } nL nP L P x y := by
  have hk := h.grow ((Grows.refl w).new (.cells #[x] 3))
  exact ⟨hk.grows, fun a b => hk.e0 (by simpa using a) (by simpa using b), fun _ _ => Arr.make w [x] _, fun a b => hk.r0 (by simpa using a) (by simpa using b), fun a => hk.r1 (by simpa using a), fun a b => hk.e1 (by simpa using a) (by simpa using b), fun a b => hk.b1 (by simpa using a) (by simpa using b), fun a b => hk.r2 (by simpa using a) (by simpa using b), fun a => hk.r3 (by simpa using a),
    fun a b p hp => ⟨fun u v => (hk.s1 (by simpa using a) (by simpa using b) p hp).1 (by simpa using u) (by simpa using v), fun u v => (hk.s1 (by simpa using a) (by simpa using b) p hp).2 (by simpa using u) (by simpa using v)⟩, fun a b d => hk.s3 (by simpa using a) (by simpa using b) (by simpa using d), fun a b => hk.s2 (by simpa using a) (by simpa using b)⟩
theorem GrJ.k8 (h : GrJ W w D c nL nP L P x y) (h4 : D 4 = true) (h8 : D 8 = false) (h11 : D 11 = false) (h14 : D 14 = false) {A : Option Addr} {cc : Nat} (ht : Touch (fun k => ∃ p, c.a0 = some p ∧ p.block = k) w w') (ho : Own w' W.heap.size 3 1 A (nL + 1) cc (L ++ [x])) (hA : ∀ p, A = some p → (∃ q, c.a0 = some q ∧ q.block = p.block) ∨ New w w' p.block) :
    GrJ W w' (fun j => if j = 8 then true else D j) { c with a1 := A, c1 := cc } nL nP L P x y := by
  have h0 := h.r0 h4 h8
  refine ⟨ht.later h.grows (fun k ⟨p, hp, e⟩ => by have := (h0.ty p hp).1; omega), fun _ b => absurd (show D 4 = false by simpa using b) (by rw [h4]; decide), fun _ b => absurd b (by simp), fun _ b => absurd b (by simp), fun _ => ho, fun a b => (h.e1 (by simpa using a) (by simpa using b)).touch ht (fun p hp ⟨q, hq, e⟩ => ?_), fun a b => (h.b1 (by simpa using a) (by simpa using b)).touch ht (fun ⟨q, hq, e⟩ => (h.s1 h4 h8 q hq).2 (by simpa using a) (by simpa using b) e), fun a _ => absurd (show D 11 = true by simpa using a) (by rw [h11]; decide), fun a => absurd (show D 14 = true by simpa using a) (by rw [h14]; decide),
    fun _ b => absurd b (by simp), fun _ b d p hp e => ?_, fun a _ => absurd (show D 11 = true by simpa using a) (by rw [h11]; decide)⟩
  · injection hp with hp
    subst hp
    exact (h.s1 h4 h8 q hq).1 (by simpa using a) (by simpa using b) e
  · have h1 := (h.e1 (by simpa using b) (by simpa using d)).ltB _ rfl
    rcases hA p hp with ⟨q, hq, e2⟩ | h2
    · exact (h.s1 h4 h8 q hq).1 (by simpa using b) (by simpa using d) (e2.trans e)
    · have := h2.1
      simp only at e h1
      omega
theorem GrJ.k9 (h : GrJ W w D c nL nP L P x y) : GrJ W (w.alloc (.cells #[] 3)) (fun j => if j = 9 then true else D j) { c with g2 := w.heap.size } nL nP L P x y := by
  have hk := h.grow ((Grows.refl w).new (.cells #[] 3))
  exact ⟨hk.grows, fun a b => hk.e0 (by simpa using a) (by simpa using b), fun a b => hk.b0 (by simpa using a) (by simpa using b), fun a b => hk.r0 (by simpa using a) (by simpa using b), fun a => hk.r1 (by simpa using a), fun _ _ => Own.empty w _ _ _ h.grows.size, fun a b => hk.b1 (by simpa using a) (by simpa using b), fun a b => hk.r2 (by simpa using a) (by simpa using b), fun a => hk.r3 (by simpa using a),
    fun a b p hp => ⟨fun _ _ e => by
      have := (h.r0 (by simpa using a) (by simpa using b)).ltB p hp
      simp only at e
      omega, fun u v => (hk.s1 (by simpa using a) (by simpa using b) p hp).2 (by simpa using u) (by simpa using v)⟩, fun a _ _ p hp e => by
      have := (h.r1 (by simpa using a)).ltB p hp
      simp only at e
      omega, fun a b => hk.s2 (by simpa using a) (by simpa using b)⟩
theorem GrJ.k11 (h : GrJ W w D c nL nP L P x y) (h8 : D 8 = true) (h9 : D 9 = true) (h11 : D 11 = false) (hg : Grows w w') {A : Option Addr} {cc : Nat} (ho : Own w' W.heap.size 3 1 A nP cc P) (hA : ∀ p, A = some p → (nP = 0 ∧ p.block = c.g2) ∨ New w w' p.block) :
    GrJ W w' (fun j => if j = 11 then true else D j) { c with a2 := A, c2 := cc } nL nP L P x y := by
  have hk := h.grow hg
  exact ⟨hk.grows, fun a b => hk.e0 (by simpa using a) (by simpa using b), fun a b => hk.b0 (by simpa using a) (by simpa using b), fun a b => hk.r0 (by simpa using a) (by simpa using b), fun a => hk.r1 (by simpa using a), fun _ b => absurd b (by simp), fun a b => hk.b1 (by simpa using a) (by simpa using b), fun _ _ => ho, fun a => hk.r3 (by simpa using a),
    fun _ b => absurd (show D 8 = false by simpa using b) (by rw [h8]; decide), fun _ _ d => absurd d (by simp), fun _ _ p q hp hq e => by
      rcases hA p hp with h2 | h2
      · exact h.s3 h8 h9 h11 q hq (e.symm.trans h2.2)
      · have h3 := h2.1
        have h4 := (h.r1 h8).ltB q hq
        omega⟩
theorem GrJ.k13 (h : GrJ W w D c nL nP L P x y) : GrJ W (w.alloc (.cells #[y] 3)) (fun j => if j = 13 then true else D j) { c with g3 := w.heap.size } nL nP L P x y := by
  have hk := h.grow ((Grows.refl w).new (.cells #[y] 3))
  exact ⟨hk.grows, fun a b => hk.e0 (by simpa using a) (by simpa using b), fun a b => hk.b0 (by simpa using a) (by simpa using b), fun a b => hk.r0 (by simpa using a) (by simpa using b), fun a => hk.r1 (by simpa using a), fun a b => hk.e1 (by simpa using a) (by simpa using b), fun _ _ => Arr.make w [y] _, fun a b => hk.r2 (by simpa using a) (by simpa using b), fun a => hk.r3 (by simpa using a),
    fun a b p hp => ⟨fun u v => (hk.s1 (by simpa using a) (by simpa using b) p hp).1 (by simpa using u) (by simpa using v), fun _ _ e => by
      have := (h.r0 (by simpa using a) (by simpa using b)).ltB p hp
      simp only at e
      omega⟩, fun a b d => hk.s3 (by simpa using a) (by simpa using b) (by simpa using d), fun a b => hk.s2 (by simpa using a) (by simpa using b)⟩
theorem GrJ.k14 (h : GrJ W w D c nL nP L P x y) (h4 : D 4 = true) (h8 : D 8 = true) (h11 : D 11 = true) (h14 : D 14 = false) {A : Option Addr} {cc : Nat} (ht : Touch (fun k => ∃ p, c.a2 = some p ∧ p.block = k) w w') (ho : Own w' W.heap.size 3 1 A (nP + 1) cc (P ++ [y])) :
    GrJ W w' (fun j => if j = 14 then true else D j) { c with a3 := A, c3 := cc } nL nP L P x y := by
  have h0 := h.r2 h11 h14
  exact ⟨ht.later h.grows (fun k ⟨p, hp, e⟩ => by have := (h0.ty p hp).1; omega), fun _ b => absurd (show D 4 = false by simpa using b) (by rw [h4]; decide), fun _ b => absurd (show D 8 = false by simpa using b) (by rw [h8]; decide), fun _ b => absurd (show D 8 = false by simpa using b) (by rw [h8]; decide), fun _ => (h.r1 h8).touch ht (fun p hp ⟨q, hq, e⟩ => h.s2 h11 h14 q p hq hp e), fun _ b => absurd (show D 11 = false by simpa using b) (by rw [h11]; decide), fun _ b => absurd b (by simp), fun _ b => absurd b (by simp), fun _ => ho,
    fun _ b => absurd (show D 8 = false by simpa using b) (by rw [h8]; decide), fun _ _ d => absurd (show D 11 = false by simpa using d) (by rw [h11]; decide), fun _ b => absurd b (by simp)⟩
end
theorem extK_mono {E : List Edg} {t f v : Nat} {S : List Nat} {k m : Nat} (h : k ≤ m) : (extK E t f v S k).length ≤ (extK E t f v S m).length := by
  induction m with
  | zero => obtain rfl : k = 0 := by omega
            exact Nat.le_refl _
  | succ m ih =>
    rcases Nat.lt_or_ge m k with h1 | h1
    · obtain rfl : k = m + 1 := by omega
      exact Nat.le_refl _
    · rw [extK_succ, List.length_append]
      have := ih h1
      omega
theorem extK_yes {E : List Edg} {t f v : Nat} {S : List Nat} {k : Nat} (h : fN E k = v ∧ tN E k ∉ S) (pre : List Nat) : (extK E t f v S (k + 1)).map (pre ++ ·) = (extK E t f v S k).map (pre ++ ·) ++ (ext E t f (tN E k) (S ++ [tN E k])).map (pre ++ [k] ++ ·) := by
  rw [extK_succ, if_pos h, List.map_append, List.map_map]
  congr 1
  refine List.map_congr_left fun l _ => ?_
  simp
end Go.Proofs.YtgplpgldhoelcaaGreat

