/- Plain: ways as rows of edges, and their order; the canonical way is the first one of all that may be. -/
import Derived.Test.YtgplpgldhoelcaaGreatQYenWays11
namespace Go.Proofs.YtgplpgldhoelcaaGreat
open Go Go.RowKit
def isW (E : List Edg) (t : Nat) : Nat → List Nat → Prop
  | v, [] => v = t
  | v, i :: l => i < E.length ∧ fN E i = v ∧ isW E t (tN E i) l
def wE (E : List Edg) (l : List Nat) : Nat := (l.map fun i => (ge E i).w.toNat).sum
theorem wE_nil (E : List Edg) : wE E [] = 0 := rfl
theorem wE_cons (E : List Edg) (i : Nat) (l : List Nat) : wE E (i :: l) = (ge E i).w.toNat + wE E l := by simp [wE]
theorem wE_append (E : List Edg) (a b : List Nat) : wE E (a ++ b) = wE E a + wE E b := by simp [wE]
def SP (E : List Edg) (s t : Nat) (l : List Nat) : Prop := isW E t s l ∧ (ndsN E s l).Nodup
def cmpL : List Nat → List Nat → Int
  | [], [] => 0
  | [], _ :: _ => -1
  | _ :: _, [] => 1
  | a :: l, b :: m => if a < b then -1 else if b < a then 1 else cmpL l m
theorem cmpL_self : ∀ l, cmpL l l = 0
  | [] => rfl
  | a :: l => by rw [cmpL, if_neg (Nat.lt_irrefl a), if_neg (Nat.lt_irrefl a)]; exact cmpL_self l
theorem cmpL_vals : ∀ a b, cmpL a b = -1 ∨ cmpL a b = 0 ∨ cmpL a b = 1
  | [], [] => .inr (.inl rfl)
  | [], _ :: _ => .inl rfl
  | _ :: _, [] => .inr (.inr rfl)
  | a :: l, b :: m => by
    rw [cmpL]
    split
    · exact .inl rfl
    · split
      · exact .inr (.inr rfl)
      · exact cmpL_vals l m
theorem cmpL_eq : ∀ {a b}, cmpL a b = 0 → a = b
  | [], [], _ => rfl
  | [], _ :: _, h => by rw [cmpL] at h; omega
  | _ :: _, [], h => by rw [cmpL] at h; omega
  | a :: l, b :: m, h => by
    rw [cmpL] at h
    split at h
    · omega
    · split at h
      · omega
      · rename_i h1 h2
        rw [show a = b by omega, cmpL_eq h]
theorem cmpL_swap : ∀ a b, cmpL b a = - cmpL a b
  | [], [] => rfl
  | [], _ :: _ => rfl
  | _ :: _, [] => rfl
  | a :: l, b :: m => by
    rw [cmpL, cmpL]
    by_cases h1 : a < b
    · rw [if_pos h1, if_neg (by omega), if_pos h1]
      rfl
    · by_cases h2 : b < a
      · rw [if_pos h2, if_neg h1, if_pos h2]
      · rw [if_neg h2, if_neg h1, if_neg h1, if_neg h2]
        exact cmpL_swap l m
theorem cmpL_trans : ∀ {a b c}, cmpL a b = -1 → cmpL b c = -1 → cmpL a c = -1
  | [], b, [], h1, h2 => by
    cases b with
    | nil => rw [cmpL] at h1; omega
    | cons => rw [cmpL] at h2; omega
  | [], b, _ :: _, _, _ => rfl
  | _ :: _, [], _, h1, _ => by rw [cmpL] at h1; omega
  | _ :: _, _ :: _, [], _, h2 => by rw [cmpL] at h2; omega
  | a :: l, b :: m, c :: n, h1, h2 => by
    rw [cmpL] at h1 h2 ⊢
    by_cases e1 : a < b
    · by_cases e2 : b < c
      · rw [if_pos (by omega)]
      · rw [if_neg e2] at h2
        by_cases e3 : c < b
        · rw [if_pos e3] at h2; omega
        · rw [if_pos (by omega)]
    · rw [if_neg e1] at h1
      by_cases e2 : b < a
      · rw [if_pos e2] at h1; omega
      · rw [if_neg e2] at h1
        have e : a = b := by omega
        subst e
        by_cases e3 : a < c
        · rw [if_pos e3]
        · rw [if_neg e3] at h2 ⊢
          by_cases e4 : c < a
          · rw [if_pos e4] at h2; omega
          · rw [if_neg e4] at h2 ⊢
            exact cmpL_trans h1 h2
theorem cmpL_pre : ∀ q {a b}, cmpL (q ++ a) (q ++ b) = cmpL a b
  | [], _, _ => rfl
  | x :: q, a, b => by
    rw [List.cons_append, List.cons_append, cmpL, if_neg (Nat.lt_irrefl x), if_neg (Nat.lt_irrefl x)]
    exact cmpL_pre q
def cmpR (E : List Edg) (a b : List Nat) : Int := if wE E a < wE E b then -1 else if wE E b < wE E a then 1 else cmpL a b
def rLt (E : List Edg) (a b : List Nat) : Prop := cmpR E a b = -1
def rLe (E : List Edg) (a b : List Nat) : Prop := rLt E a b ∨ a = b
theorem rLt_of {E : List Edg} {a b : List Nat} : rLt E a b ↔ wE E a < wE E b ∨ (wE E a = wE E b ∧ cmpL a b = -1) := by
  unfold rLt cmpR
  by_cases h1 : wE E a < wE E b
  · rw [if_pos h1]
    exact ⟨fun _ => .inl h1, fun _ => rfl⟩
  · rw [if_neg h1]
    by_cases h2 : wE E b < wE E a
    · rw [if_pos h2]
      exact ⟨fun h => by omega, fun h => by omega⟩
    · rw [if_neg h2]
      exact ⟨fun h => .inr ⟨by omega, h⟩, fun h => by rcases h with h | h; omega; exact h.2⟩
theorem rLt.trans {E : List Edg} {a b c : List Nat} (h1 : rLt E a b) (h2 : rLt E b c) : rLt E a c := by
  rw [rLt_of] at h1 h2 ⊢
  rcases h1 with h1 | ⟨h1, h3⟩
  · rcases h2 with h2 | ⟨h2, _⟩
    · exact .inl (by omega)
    · exact .inl (by omega)
  · rcases h2 with h2 | ⟨h2, h4⟩
    · exact .inl (by omega)
    · exact .inr ⟨by omega, cmpL_trans h3 h4⟩
theorem rLt.irrefl {E : List Edg} {a : List Nat} (h : rLt E a a) : False := by
  rw [rLt_of, cmpL_self] at h
  omega
theorem rLt.ne {E : List Edg} {a b : List Nat} (h : rLt E a b) : a ≠ b := fun e => by subst e; exact h.irrefl
theorem rLt.not {E : List Edg} {a b : List Nat} (h : rLt E a b) : ¬ rLt E b a := fun h2 => (h.trans h2).irrefl
theorem rLt_total (E : List Edg) (a b : List Nat) : rLt E a b ∨ a = b ∨ rLt E b a := by
  rw [rLt_of, rLt_of]
  rcases Nat.lt_trichotomy (wE E a) (wE E b) with h | h | h
  · exact .inl (.inl h)
  · rcases cmpL_vals a b with h1 | h1 | h1
    · exact .inl (.inr ⟨h, h1⟩)
    · exact .inr (.inl (cmpL_eq h1))
    · exact .inr (.inr (.inr ⟨h.symm, by rw [cmpL_swap, h1]⟩))
  · exact .inr (.inr (.inl h))
theorem rLe.trans {E : List Edg} {a b c : List Nat} (h1 : rLe E a b) (h2 : rLe E b c) : rLe E a c := by
  rcases h1 with h1 | rfl
  · rcases h2 with h2 | rfl
    · exact .inl (h1.trans h2)
    · exact .inl h1
  · exact h2
theorem rLe.lt {E : List Edg} {a b c : List Nat} (h1 : rLe E a b) (h2 : rLt E b c) : rLt E a c := by
  rcases h1 with h1 | rfl
  · exact h1.trans h2
  · exact h2
theorem rLe_pre {E : List Edg} {q a b : List Nat} (h : rLe E a b) : rLe E (q ++ a) (q ++ b) := by
  rcases h with h | rfl
  · refine .inl ?_
    rw [rLt_of] at h ⊢
    rw [wE_append, wE_append, cmpL_pre]
    omega
  · exact .inr rfl
theorem cmpR_self (E : List Edg) (a : List Nat) : cmpR E a a = 0 := by unfold cmpR; rw [if_neg (Nat.lt_irrefl _), if_neg (Nat.lt_irrefl _), cmpL_self]
theorem cmpR_vals (E : List Edg) (a b : List Nat) : cmpR E a b = -1 ∨ cmpR E a b = 0 ∨ cmpR E a b = 1 := by
  unfold cmpR
  split
  · exact .inl rfl
  · split
    · exact .inr (.inr rfl)
    · exact cmpL_vals a b
theorem cmpR_eq {E : List Edg} {a b : List Nat} (h : cmpR E a b = 0) : a = b := by
  unfold cmpR at h
  split at h
  · omega
  · split at h
    · omega
    · exact cmpL_eq h
theorem isW.append {E : List Edg} {t u : Nat} : ∀ {v : Nat} {a b : List Nat}, isW E u v a → isW E t u b → isW E t v (a ++ b)
  | _, [], _, h1, h2 => by cases h1; exact h2
  | _, _ :: _, _, ⟨h1, h3, h4⟩, h2 => ⟨h1, h3, isW.append h4 h2⟩
theorem ndsN_cons (E : List Edg) (v i : Nat) (l : List Nat) : ndsN E v (i :: l) = v :: ndsN E (tN E i) l := rfl
theorem ndsN_len (E : List Edg) (v : Nat) (l : List Nat) : (ndsN E v l).length = l.length + 1 := by simp [ndsN]
def ndAt (E : List Edg) (v : Nat) (l : List Nat) (i : Nat) : Nat := gn (ndsN E v l) i
theorem ndAt_succ (E : List Edg) (v i : Nat) (l : List Nat) (k : Nat) : ndAt E v (i :: l) (k + 1) = ndAt E (tN E i) l k := rfl
theorem isW.cut {E : List Edg} {t : Nat} : ∀ {v : Nat} {l : List Nat} (i : Nat), i ≤ l.length → isW E t v l → isW E (ndAt E v l i) v (l.take i) ∧ isW E t (ndAt E v l i) (l.drop i)
  | v, l, 0, _, h => by simp only [List.take_zero, List.drop_zero]; exact ⟨rfl, h⟩
  | v, j :: l, i + 1, hi, ⟨h1, h2, h3⟩ => by
    obtain ⟨h4, h5⟩ := isW.cut i (by simpa using hi) h3
    exact ⟨⟨h1, h2, h4⟩, h5⟩
theorem isW.last {E : List Edg} {t : Nat} : ∀ {v : Nat} {l : List Nat}, isW E t v l → ndAt E v l l.length = t
  | _, [], h => h
  | _, i :: l, ⟨_, _, h⟩ => show ndAt E (tN E i) l l.length = t from isW.last (v := tN E i) (l := l) h
theorem isW.edges {E : List Edg} {t : Nat} : ∀ {v : Nat} {l : List Nat}, isW E t v l → ∀ i ∈ l, i < E.length
  | _, [], _, i, hi => by cases hi
  | _, j :: l, ⟨h1, _, h3⟩, i, hi => by
    rcases List.mem_cons.1 hi with e | e
    · rw [e]; exact h1
    · exact isW.edges h3 i e
theorem isW.froms {E : List Edg} {t : Nat} : ∀ {v : Nat} {l : List Nat}, isW E t v l → ∀ i ∈ l, fN E i ∈ ndsN E v l
  | _, [], _, i, hi => by cases hi
  | v, j :: l, ⟨_, h2, h3⟩, i, hi => by
    rw [ndsN_cons]
    rcases List.mem_cons.1 hi with e | e
    · rw [e, h2]; exact List.mem_cons_self ..
    · exact List.mem_cons_of_mem _ (isW.froms h3 i e)
theorem ndsN_cut (E : List Edg) : ∀ (v : Nat) (l : List Nat) (i : Nat), i ≤ l.length → ndsN E v l = (ndsN E v l).take i ++ ndsN E (ndAt E v l i) (l.drop i)
  | v, l, 0, _ => by rw [List.take_zero, List.nil_append, List.drop_zero]; rfl
  | v, j :: l, i + 1, hi => by
    rw [ndsN_cons, List.take_succ_cons, List.cons_append, List.drop_succ_cons, ndAt_succ]
    exact congrArg (v :: ·) (ndsN_cut E (tN E j) l i (by simpa using hi))
theorem ndsN_take (E : List Edg) : ∀ (v : Nat) (l : List Nat) (i : Nat), i ≤ l.length → (ndsN E v l).take (i + 1) = ndsN E v (l.take i)
  | v, l, 0, _ => by simp [ndsN]
  | v, j :: l, i + 1, hi => by
    rw [ndsN_cons, List.take_succ_cons, List.take_succ_cons, ndsN_cons, ndsN_take E (tN E j) l i (by simpa using hi)]
theorem ndsN_append (E : List Edg) : ∀ (v : Nat) (a b : List Nat), ndsN E v (a ++ b) = (ndsN E v a).take a.length ++ ndsN E (ndAt E v a a.length) b
  | v, [], b => by simp [ndsN, ndAt, gn]
  | v, j :: a, b => by
    rw [List.cons_append, ndsN_cons, ndsN_cons, List.length_cons, List.take_succ_cons, List.cons_append, ndAt_succ]
    exact congrArg (v :: ·) (ndsN_append E (tN E j) a b)
theorem SP.stop {E : List Edg} {s t : Nat} {l : List Nat} (h : SP E s t l) (i : Nat) (hi : i < l.length) : ndAt E s l i ≠ t := by
  intro e
  have h1 := h.1.last
  have h2 := h.2
  have hl := ndsN_len E s l
  have h3 := List.pairwise_iff_getElem.1 h2 i l.length (by omega) (by omega) hi
  unfold ndAt gn at e h1
  rw [List.getD_eq_getElem?_getD, List.getElem?_eq_getElem (by omega)] at e h1
  simp only [Option.getD_some] at e h1
  exact h3 (by rw [e, h1])
theorem ndAt_take {E : List Edg} {v : Nat} {a b : List Nat} {i : Nat} (h : a.take i = b.take i) (ha : i ≤ a.length) (hb : i ≤ b.length) : ndAt E v a i = ndAt E v b i := by
  have h1 := ndsN_take E v a i ha
  have h2 := ndsN_take E v b i hb
  rw [h] at h1
  have h3 := h1.trans h2.symm
  have e : ∀ l : List Nat, gn l i = gn (l.take (i + 1)) i := fun l => by
    unfold gn
    rw [List.getD_eq_getElem?_getD, List.getD_eq_getElem?_getD, List.getElem?_take, if_pos (by omega)]
  unfold ndAt
  rw [e, h3, ← e]
theorem SP.prefix_ {E : List Edg} {s t : Nat} {a p : List Nat} (ha : SP E s t a) (hp : SP E s t p) (h : p.take a.length = a) : p = a := by
  rcases Nat.lt_or_ge a.length p.length with h1 | h1
  · have e := ndAt_take (E := E) (v := s) (i := a.length) (a := p) (b := a) (by rw [h, List.take_length]) (by omega) (Nat.le_refl _)
    rw [ha.1.last] at e
    exact absurd e (hp.stop _ h1)
  · rw [List.take_of_length_le h1] at h
    exact h
theorem Near.low_ {x : Srch} {d : List Nat} {t : Nat} (h : Near x d t) (hw : ∀ i, i < x.E.length → gn x.W i = (ge x.E i).w.toNat) : ∀ {v : Nat} {l : List Nat}, isW x.E t v l → (∀ i ∈ l, cntE x i = true) → wE x.E l < farV → gn d v ≤ wE x.E l
  | _, [], hv, _, _ => by rw [show _ = t from hv, h.zero]; exact Nat.zero_le _
  | v, i :: l, ⟨h1, h2, h3⟩, hc, hf => by
    rw [wE_cons] at hf ⊢
    have h4 := h.low_ hw h3 (fun j hj => hc j (List.mem_cons_of_mem _ hj)) (by omega)
    have h5 := h.edge i h1 (hc i (List.mem_cons_self ..)) (by omega)
    rw [h2, hw i h1] at h5
    omega
theorem Fol.wE_ {x : Srch} {d : List Nat} {t v : Nat} {l : List Nat} (hn : Near x d t) (hw : ∀ i, i < x.E.length → gn x.W i = (ge x.E i).w.toNat) (h : Fol x d t v l) : wE x.E l = gn d v := by
  induction h with
  | here => rw [wE_nil, hn.zero]
  | @step v i l hne hi hfi hb hl hfol ih =>
    rw [wE_cons, ih]
    have := (nearB_yes hb).2.1
    rw [hw i hi] at this
    omega
theorem Fol.isW_ {x : Srch} {d : List Nat} {t v : Nat} {l : List Nat} (h : Fol x d t v l) : isW x.E t v l := by
  induction h with
  | here => rfl
  | step hne hi hfi hb hl hfol ih => exact ⟨hi, hfi, ih⟩
theorem Fol.ne_ {x : Srch} {d : List Nat} {t v : Nat} {l : List Nat} (h : Fol x d t v l) : ∀ i ∈ l, x.ne i = false := by
  induction h with
  | here => intro i hi; cases hi
  | step hne hi hfi hb hl hfol ih =>
    intro j hj
    rcases List.mem_cons.1 hj with e | e
    · rw [e]; exact (nearB_yes hb).2.2
    · exact ih j e
theorem Fol.nn_ {x : Srch} {d : List Nat} {t v : Nat} {l : List Nat} (hn : Near x d t) (h : Fol x d t v l) (hv : v < x.N) (hf : gn d v < farV) : ∀ u ∈ ndsN x.E v l, x.nn u = false := by
  induction h with
  | here => intro u hu; rw [List.mem_singleton.1 hu]; exact hn.clean _ hv hf
  | @step v i l hne hi hfi hb hl hfol ih =>
    intro u hu
    rw [ndsN_cons] at hu
    rcases List.mem_cons.1 hu with e | e
    · rw [e]; exact hn.clean _ hv hf
    · exact ih (hn.ends i hi).2 (nearB_yes hb).1 u e
theorem Fol.first {x : Srch} {d : List Nat} {t v : Nat} {l : List Nat} (hn : Near x d t) (hw : ∀ i, i < x.E.length → gn x.W i = (ge x.E i).w.toNat) (h : Fol x d t v l) : ∀ k, isW x.E t v k → (∀ i ∈ k, cntE x i = true) → wE x.E k < farV → rLe x.E l k := by
  induction h with
  | here =>
    intro k hk _ _
    cases k with
    | nil => exact .inr rfl
    | cons j k =>
      obtain ⟨h1, _, _⟩ := hk
      have := hn.low j h1
      rw [hw j h1] at this
      refine .inl (rLt_of.2 (.inl ?_))
      rw [wE_nil, wE_cons]
      omega
  | @step v i l hne hi hfi hb hl hfol ih =>
    intro k hk hc hf
    cases k with
    | nil => exact absurd hk hne
    | cons j k =>
      obtain ⟨h1, h2, h3⟩ := hk
      rw [wE_cons] at hf
      have hck : ∀ i ∈ k, cntE x i = true := fun q hq => hc q (List.mem_cons_of_mem _ hq)
      have h4 := hn.low_ hw h3 hck (by omega)
      have hcj := hc j (List.mem_cons_self ..)
      have h5 := hn.edge j h1 hcj (by omega)
      rw [h2, hw j h1] at h5
      have h6 := (nearB_yes hb).2.1
      rw [hw i hi] at h6
      have h7 := hfol.wE_ hn hw
      rcases Nat.lt_or_ge (gn d v) ((ge x.E j).w.toNat + wE x.E k) with h8 | h8
      · refine .inl (rLt_of.2 (.inl ?_))
        rw [wE_cons, wE_cons]
        omega
      · have hnb : nearB x d v j = true := by
          unfold nearB
          unfold cntE at hcj
          simp only [Bool.and_eq_true, Bool.not_eq_true'] at hcj
          rw [hcj.1, decide_eq_true (show gn d (tN x.E j) < farV by omega), hw j h1, decide_eq_true (show gn d (tN x.E j) + (ge x.E j).w.toNat = gn d v by omega)]
          rfl
        rcases Nat.lt_trichotomy i j with e | e | e
        · refine .inl (rLt_of.2 (.inr ⟨?_, ?_⟩))
          · rw [wE_cons, wE_cons]
            omega
          · rw [cmpL, if_pos e]
        · subst e
          exact rLe_pre (q := [i]) (ih k h3 hck (by omega))
        · rw [hl j e h2] at hnb
          cases hnb
end Go.Proofs.YtgplpgldhoelcaaGreat

namespace Go.Proofs.YtgplpgldhoelcaaGreat
open Go Go.RowKit
structure Lft (E : List Edg) (t v : Nat) (nn ne : List Int) (l : List Nat) : Prop where
  way : isW E t v l
  edges : ∀ i ∈ l, (i : Int) ∉ ne
  nodes : ∀ u ∈ ndsN E v l, (u : Int) ∉ nn
theorem Lft.cnt {E : List Edg} {N t v : Nat} {nn ne : List Int} {back : Bool} {W : List Nat} {m : Nat} {l : List Nat} (h : Lft E t v nn ne l) : ∀ i ∈ l, cntE (srchOf N E (backO ⟨back, nn, ne, W, m⟩)) i = true := fun i hi => by
  have h1 : (srchOf N E (backO ⟨back, nn, ne, W, m⟩)).ne i = false := decide_eq_false (h.edges i hi)
  have h2 : (srchOf N E (backO ⟨back, nn, ne, W, m⟩)).nn (toE (srchOf N E (backO ⟨back, nn, ne, W, m⟩)) i) = false := decide_eq_false (h.nodes _ (h.way.froms i hi))
  unfold cntE
  rw [h1, h2]
  rfl
theorem wt_plain {N : Nat} {E : List Edg} (hr : rightF (N : Int) E = 0) : ∀ i, i < E.length → gn (wtF (N : Int) E []) i = (ge E i).w.toNat := fun i hi => by
  unfold wtF
  rw [if_neg (by omega), if_neg (by simp), if_neg (by simp)]
  simp [eW, gn, ge, hi]
theorem can_is {E : List Edg} {N v t : Nat} {nn ne : List Int} {l : List Nat} {f : Nat} {r : Int} (hr : rightF (N : Int) E = 0) (hv : v < N) (ht : t < N) (h : IsPath E ⟨false, nn, ne, [], 0⟩ (N : Int) (v : Int) (t : Int) l f r) :
    (r = 0 ∧ Lft E t v nn ne l ∧ (ndsN E v l).Nodup ∧ f = wE E l ∧ f < farV ∧ ∀ k, Lft E t v nn ne k → wE E k < farV → rLe E l k) ∨
    (r ≠ 0 ∧ l = [] ∧ f = 0 ∧ ∀ k, Lft E t v nn ne k → wE E k < farV → False) := by
  have hd : dcF (N : Int) (v : Int) E [] = 0 := by
    unfold dcF
    rw [if_neg (by omega), if_neg (by unfold nodeB; simp; omega)]
    simp
  cases h with
  | bad h => exact absurd hd h
  | noNode _ h => exact absurd (by omega) h
  | noPath NN sN tN xs h1 h2 h3 hp hf =>
    obtain rfl : NN = N := by omega
    obtain rfl : sN = v := by omega
    obtain rfl : tN = t := by omega
    refine .inr ⟨by omega, rfl, rfl, fun k hk hkf => ?_⟩
    have htn : (tN : Int) ∉ nn := hk.nodes tN (by
      have := hk.way.last
      rw [← this]
      unfold ndAt
      have hl : k.length < (ndsN E sN k).length := by rw [ndsN_len]; omega
      unfold gn
      rw [List.getD_eq_getElem?_getD, List.getElem?_eq_getElem hl]
      exact List.getElem_mem hl)
    have hn := hp.near htn
    have := hn.low_ (wt_plain hr) hk.way hk.cnt hkf
    have hs : (srchOf NN E (backO ⟨false, nn, ne, [], 0⟩)).E = E := rfl
    rw [hs, hf] at this
    omega
  | way NN sN tN xs l h1 h2 h3 hp hf hn hl =>
    obtain rfl : NN = N := by omega
    obtain rfl : sN = v := by omega
    obtain rfl : tN = t := by omega
    have hw := wt_plain (N := NN) (E := E) hr
    have e1 := hl.wE_ hn hw
    have hs : (srchOf NN E (backO ⟨false, nn, ne, [], 0⟩)).E = E := rfl
    rw [hs] at e1
    refine .inl ⟨rfl, ⟨hl.isW_, fun i hi => of_decide_eq_false (hl.ne_ i hi), fun u hu => of_decide_eq_false (hl.nn_ hn hp.node hf u hu)⟩, hl.nodup hn hp.node, e1.symm, hf, fun k hk hkf => ?_⟩
    exact hl.first hn hw k hk.way hk.cnt hkf
theorem SP.short {E : List Edg} {N s t : Nat} {l : List Nat} (hr : rightF (N : Int) E = 0) (hs : s < N) (h : SP E s t l) : l.length < N := by
  obtain ⟨_, _, _, r4, _⟩ := right_in hr
  rw [Int.toNat_natCast] at r4
  have hsub : ∀ u ∈ ndsN E s l, u < N := fun u hu => by
    rcases List.mem_cons.1 hu with e | e
    · rw [e]; exact hs
    · obtain ⟨i, hi, rfl⟩ := List.mem_map.1 e
      exact (r4.t i (h.1.edges i hi)).1
  have h1 := List.Nodup.length_le_of_subset h.2 (l₂ := List.range N) (fun u hu => List.mem_range.2 (hsub u hu))
  rw [ndsN_len] at h1
  simp at h1
  omega
theorem wE_le {E : List Edg} {N : Nat} (hr : rightF (N : Int) E = 0) : ∀ l : List Nat, (∀ i ∈ l, i < E.length) → wE E l ≤ l.length * 4294967296
  | [], _ => by simp [wE]
  | i :: l, h => by
    obtain ⟨_, _, _, _, r5⟩ := right_in hr
    have h1 := wE_le hr l (fun j hj => h j (List.mem_cons_of_mem _ hj))
    have h2 := r5 i (h i (List.mem_cons_self ..))
    rw [wE_cons, List.length_cons]
    omega
theorem SP.light {E : List Edg} {N s t : Nat} {l : List Nat} (hr : rightF (N : Int) E = 0) (hs : s < N) (h : SP E s t l) : wE E l < farV ∧ wE E l ≤ 17592186044416 := by
  have h1 := h.short hr hs
  have h2 := wE_le hr l h.1.edges
  obtain ⟨_, r2, _⟩ := right_in hr
  have h3 : l.length * 4294967296 ≤ 4096 * 4294967296 := Nat.mul_le_mul_right _ (by omega)
  unfold farV
  omega
end Go.Proofs.YtgplpgldhoelcaaGreat

namespace Go.Proofs.YtgplpgldhoelcaaGreat
open Go Go.RowKit
structure YL (E : List Edg) (s t : Nat) (A : List (List Nat)) (r : List Nat) (k : Nat) (Wt : List (List Nat)) : Prop where
  told : ∀ a ∈ A, SP E s t a
  tip : SP E s t r
  new : r ∉ A
  wait : ∀ p ∈ Wt, SP E s t p ∧ p ∉ A ∧ p ≠ r
  sort : Wt.Pairwise (rLt E)
  has : ∀ p i, SP E s t p → i < p.length → ((∃ a ∈ A, i < a.length ∧ a.take i = p.take i ∧ r.take i ≠ p.take i) ∨ (i < k ∧ i < r.length ∧ r.take i = p.take i)) → (∀ b ∈ A, b.take (i + 1) ≠ p.take (i + 1)) → r.take (i + 1) ≠ p.take (i + 1) → ∃ m ∈ Wt, m.take i = p.take i ∧ rLe E m p
structure YOk (E : List Edg) (s t : Nat) (A Wt : List (List Nat)) : Prop where
  told : ∀ a ∈ A, SP E s t a
  wait : ∀ p ∈ Wt, SP E s t p ∧ p ∉ A
  sort : Wt.Pairwise (rLt E)
  has : ∀ p i, SP E s t p → i < p.length → (∃ a ∈ A, i < a.length ∧ a.take i = p.take i) → (∀ b ∈ A, b.take (i + 1) ≠ p.take (i + 1)) → ∃ m ∈ Wt, m.take i = p.take i ∧ rLe E m p
  start : A = [] → ∀ p, SP E s t p → ∃ m ∈ Wt, rLe E m p
theorem greatest {P : Nat → Prop} : ∀ n, P 0 → (∃ i, i ≤ n ∧ P i ∧ (i = n ∨ ¬ P (i + 1))) := by
  intro n h0
  induction n with
  | zero => exact ⟨0, Nat.le_refl _, h0, .inl rfl⟩
  | succ n ih =>
    obtain ⟨i, h1, h2, h3⟩ := ih
    rcases h3 with h3 | h3
    · subst h3
      by_cases h4 : P (i + 1)
      · exact ⟨i + 1, Nat.le_refl _, h4, .inl rfl⟩
      · exact ⟨i, by omega, h2, .inr h4⟩
    · exact ⟨i, by omega, h2, .inr h3⟩
theorem YOk.any {E : List Edg} {s t : Nat} {A Wt : List (List Nat)} (h : YOk E s t A Wt) {p : List Nat} (hp : SP E s t p) (hn : p ∉ A) : ∃ m ∈ Wt, rLe E m p := by
  cases A with
  | nil => exact h.start rfl p hp
  | cons a0 A =>
    obtain ⟨i, h1, ⟨a, ha, h2⟩, h3⟩ := greatest (P := fun i => ∃ a ∈ a0 :: A, a.take i = p.take i) p.length ⟨a0, List.mem_cons_self .., rfl⟩
    have hia : i < a.length := by
      apply Classical.byContradiction
      intro hc
      have e : p.take a.length = a := by
        have e1 : a.take i = a := List.take_of_length_le (by omega)
        rw [e1] at h2
        have e2 : a.length = i := by
          have := congrArg List.length h2
          rw [List.length_take] at this
          omega
        rw [e2, h2, ← e2]
      have := SP.prefix_ (h.told a ha) hp e
      exact hn (by rw [this]; exact ha)
    have hip : i < p.length := by
      apply Classical.byContradiction
      intro hc
      have e : i = p.length := by omega
      rw [e, List.take_length] at h2
      have := SP.prefix_ hp (h.told a ha) h2
      exact hn (by rw [← this]; exact ha)
    rcases h3 with h3 | h3
    · omega
    · obtain ⟨m, hm, _, hle⟩ := h.has p i hp hip ⟨a, ha, hia, h2⟩ (fun b hb e => h3 ⟨b, hb, e⟩)
      exact ⟨m, hm, hle⟩
theorem YOk.done {E : List Edg} {s t : Nat} {A : List (List Nat)} (h : YOk E s t A []) {p : List Nat} (hp : SP E s t p) : p ∈ A := by
  apply Classical.byContradiction
  intro hn
  obtain ⟨m, hm, _⟩ := h.any hp hn
  cases hm
theorem YOk.next {E : List Edg} {s t : Nat} {A Wt : List (List Nat)} {r : List Nat} (h : YOk E s t A (r :: Wt)) : SP E s t r ∧ r ∉ A ∧ ∀ p, SP E s t p → p ∉ A → rLe E r p := by
  obtain ⟨h1, h2⟩ := h.wait r (List.mem_cons_self ..)
  refine ⟨h1, h2, fun p hp hn => ?_⟩
  obtain ⟨m, hm, hle⟩ := h.any hp hn
  rcases List.mem_cons.1 hm with e | e
  · rw [← e]; exact hle
  · exact .inl (match hle with
      | .inl hl => ((List.pairwise_cons.1 h.sort).1 m e).trans hl
      | .inr e2 => e2 ▸ (List.pairwise_cons.1 h.sort).1 m e)
theorem YOk.tell {E : List Edg} {s t : Nat} {A Wt : List (List Nat)} {r : List Nat} (h : YOk E s t A (r :: Wt)) : YL E s t A r 0 Wt := by
  obtain ⟨h1, h2, h3⟩ := h.next
  refine ⟨h.told, h1, h2, fun p hp => ?_, (List.pairwise_cons.1 h.sort).2, fun p i hp hi hc hb hr => ?_⟩
  · obtain ⟨h4, h5⟩ := h.wait p (List.mem_cons_of_mem _ hp)
    exact ⟨h4, h5, fun e => ((List.pairwise_cons.1 h.sort).1 p hp).ne e.symm⟩
  · rcases hc with ⟨a, ha, h4, h5, h6⟩ | ⟨h4, _⟩
    · obtain ⟨m, hm, h7, h8⟩ := h.has p i hp hi ⟨a, ha, h4, h5⟩ hb
      rcases List.mem_cons.1 hm with e | e
      · rw [e] at h7; exact absurd h7 h6
      · exact ⟨m, e, h7, h8⟩
    · omega
theorem YL.end_ {E : List Edg} {s t : Nat} {A Wt : List (List Nat)} {r : List Nat} (h : YL E s t A r r.length Wt) : YOk E s t (A ++ [r]) Wt := by
  refine ⟨fun a ha => ?_, fun p hp => ?_, h.sort, fun p i hp hi hc hb => ?_, fun e => ?_⟩
  · rcases List.mem_append.1 ha with e | e
    · exact h.told a e
    · rw [List.mem_singleton.1 e]; exact h.tip
  · obtain ⟨h1, h2, h3⟩ := h.wait p hp
    exact ⟨h1, fun e => (List.mem_append.1 e).elim h2 (fun e => h3 (List.mem_singleton.1 e))⟩
  · have hb1 : ∀ b ∈ A, b.take (i + 1) ≠ p.take (i + 1) := fun b hb2 => hb b (List.mem_append_left _ hb2)
    have hb2 : r.take (i + 1) ≠ p.take (i + 1) := hb r (List.mem_append_right _ (List.mem_singleton.2 rfl))
    refine h.has p i hp hi ?_ hb1 hb2
    by_cases hrp : r.take i = p.take i
    · refine .inr ⟨?_, ?_, hrp⟩
      all_goals
        apply Classical.byContradiction
        intro hc2
        have e1 : r.take i = r := List.take_of_length_le (by omega)
        rw [e1] at hrp
        have e2 : r.length = i := by
          have := congrArg List.length hrp
          rw [List.length_take] at this
          omega
        have := SP.prefix_ h.tip hp (by rw [e2, ← hrp])
        exact hb2 (by rw [this])
    · obtain ⟨a, ha, h1, h2⟩ := hc
      rcases List.mem_append.1 ha with e | e
      · exact .inl ⟨a, e, h1, h2, hrp⟩
      · rw [List.mem_singleton.1 e] at h2
        exact absurd h2 hrp
  · simp at e
def noL (B : List (List Nat)) (r : List Nat) (i : Nat) : List Nat := B.filterMap fun x => if i < x.length ∧ x.take i = r.take i then some (gn x i) else none
theorem noL_mem {B : List (List Nat)} {r : List Nat} {i : Nat} {j : Nat} : j ∈ noL B r i ↔ ∃ x ∈ B, i < x.length ∧ x.take i = r.take i ∧ gn x i = j := by
  unfold noL
  rw [List.mem_filterMap]
  constructor
  · rintro ⟨x, hx, h⟩
    split at h
    · rename_i h1
      injection h with h
      exact ⟨x, hx, h1.1, h1.2, h⟩
    · cases h
  · rintro ⟨x, hx, h1, h2, h3⟩
    exact ⟨x, hx, by rw [if_pos ⟨h1, h2⟩, h3]⟩
theorem take_succ_gn {l : List Nat} {i : Nat} (h : i < l.length) : l.take (i + 1) = l.take i ++ [gn l i] := by
  rw [List.take_succ_eq_append_getElem h]
  simp [gn, h]
theorem take_eq_iff {a b : List Nat} {i : Nat} (ha : i < a.length) (hb : i < b.length) : a.take (i + 1) = b.take (i + 1) ↔ a.take i = b.take i ∧ gn a i = gn b i := by
  rw [take_succ_gn ha, take_succ_gn hb]
  constructor
  · intro h
    have hl : (a.take i).length = (b.take i).length := by rw [List.length_take, List.length_take]; omega
    obtain ⟨h1, h2⟩ := List.append_inj h hl
    injection h2 with h2
    exact ⟨h1, h2⟩
  · rintro ⟨h1, h2⟩
    rw [h1, h2]
theorem SP.rest {E : List Edg} {s t : Nat} {B : List (List Nat)} {r p : List Nat} {i : Nat} (hp : SP E s t p) (hi : i < p.length) (hir : i ≤ r.length) (he : r.take i = p.take i) (hB : ∀ b ∈ B, isW E t s b) (hb : ∀ b ∈ B, b.take (i + 1) ≠ p.take (i + 1)) :
    Lft E t (ndAt E s r i) (((ndsN E s r).take i).map fun (u : Nat) => (u : Int)) ((noL B r i).map fun (j : Nat) => (j : Int)) (p.drop i) := by
  have hv : ndAt E s r i = ndAt E s p i := ndAt_take he hir (by omega)
  have hpre : (ndsN E s r).take i = (ndsN E s p).take i := by
    have h1 := ndsN_take E s r i hir
    have h2 := ndsN_take E s p i (by omega)
    have h3 : (ndsN E s r).take (i + 1) = (ndsN E s p).take (i + 1) := by rw [h1, h2, he]
    have h4 := congrArg (List.take i) h3
    rwa [List.take_take, List.take_take, Nat.min_eq_left (by omega)] at h4
  have hcut := ndsN_cut E s p i (by omega)
  have hnd := hp.2
  rw [hcut] at hnd
  obtain ⟨h1, h2, h3⟩ := List.nodup_append.1 hnd
  have hw := (hp.1.cut i (by omega)).2
  rw [hv]
  refine ⟨hw, fun j hj hm => ?_, fun u hu hm => ?_⟩
  · obtain ⟨j', hj', hje⟩ := List.mem_map.1 hm
    obtain rfl : j' = j := by omega
    obtain ⟨x, hx, hxl, hxt, hxg⟩ := noL_mem.1 hj'
    obtain ⟨q, hq⟩ : ∃ q l, p.drop i = q :: l := by
      cases hd : p.drop i with
      | nil =>
        have := congrArg List.length hd
        rw [List.length_drop] at this
        simp at this
        omega
      | cons q l => exact ⟨q, l, rfl⟩
    obtain ⟨l, hq⟩ := hq
    have hfx : fN E j' = ndAt E s p i := by
      have h5 := ((hB x hx).cut i (by omega)).2
      have h6 : x.drop i = gn x i :: x.drop (i + 1) := by
        rw [List.drop_eq_getElem_cons hxl]
        simp [gn, hxl]
      rw [h6] at h5
      have h7 := h5.2.1
      rw [hxg] at h7
      rw [h7]
      exact ndAt_take (by rw [hxt, he]) (by omega) (by omega)
    rw [hq] at hj hw h2
    rcases List.mem_cons.1 hj with e | e
    · have hg : gn p i = q := by
        have := List.drop_eq_getElem_cons hi
        rw [hq] at this
        injection this with h8 _
        simp [gn, hi, h8]
      exact hb x hx ((take_eq_iff hxl hi).2 ⟨by rw [hxt, he], by rw [hxg, hg, e]⟩)
    · have h8 := hw.2.2.froms j' e
      rw [hfx] at h8
      rw [ndsN_cons] at h2
      exact (List.nodup_cons.1 h2).1 h8
  · obtain ⟨u', hu', hue⟩ := List.mem_map.1 hm
    obtain rfl : u' = u := by omega
    rw [hpre] at hu'
    exact h3 u' hu' u' hu rfl
structure Cand (E : List Edg) (s t : Nat) (A : List (List Nat)) (r : List Nat) (i : Nat) (c : List Nat) : Prop where
  way : SP E s t c
  root : c.take i = r.take i
  newA : ∀ b ∈ A, b.take (i + 1) ≠ c.take (i + 1)
  newr : r.take (i + 1) ≠ c.take (i + 1)
  first : ∀ p, SP E s t p → i < p.length → r.take i = p.take i → (∀ b ∈ A, b.take (i + 1) ≠ p.take (i + 1)) → r.take (i + 1) ≠ p.take (i + 1) → rLe E c p
theorem cand_of {E : List Edg} {N s t : Nat} {A : List (List Nat)} {r l : List Nat} {i : Nat} (hr : rightF (N : Int) E = 0) (hs : s < N) (hA : ∀ a ∈ A, SP E s t a) (ht : SP E s t r) (hi : i < r.length)
    (hl : Lft E t (ndAt E s r i) (((ndsN E s r).take i).map fun (u : Nat) => (u : Int)) ((noL (A ++ [r]) r i).map fun (j : Nat) => (j : Int)) l) (hnd : (ndsN E (ndAt E s r i) l).Nodup)
    (hf : ∀ k, Lft E t (ndAt E s r i) (((ndsN E s r).take i).map fun (u : Nat) => (u : Int)) ((noL (A ++ [r]) r i).map fun (j : Nat) => (j : Int)) k → wE E k < farV → rLe E l k) : Cand E s t A r i (r.take i ++ l) := by
  have hlen : (r.take i).length = i := by rw [List.length_take]; omega
  have hne : l ≠ [] := fun e => by
    subst e
    exact ht.stop i hi hl.way
  have htk : (r.take i ++ l).take i = r.take i := by rw [List.take_append_of_le_length (by omega), List.take_take, Nat.min_self]
  have hlc : i < (r.take i ++ l).length := by
    rw [List.length_append, hlen]
    have := List.length_pos_iff.2 hne
    omega
  have hgc : ∃ q k, l = q :: k ∧ gn (r.take i ++ l) i = q := by
    cases l with
    | nil => exact absurd rfl hne
    | cons q k => exact ⟨q, k, rfl, by simp [gn, List.getElem?_append_right, hlen]⟩
  have hnew : ∀ b ∈ A ++ [r], b.take (i + 1) ≠ (r.take i ++ l).take (i + 1) := fun b hb e => by
    obtain ⟨q, k, hq, hg⟩ := hgc
    have hbl : i < b.length := by
      have := congrArg List.length e
      rw [List.length_take, List.length_take] at this
      omega
    obtain ⟨h1, h2⟩ := (take_eq_iff hbl hlc).1 e
    rw [htk] at h1
    refine hl.edges q (by rw [hq]; exact List.mem_cons_self ..) (List.mem_map.2 ⟨q, noL_mem.2 ⟨b, hb, hbl, h1, by rw [h2, hg]⟩, rfl⟩)
  have hcut := ht.1.cut i (by omega)
  refine ⟨⟨hcut.1.append hl.way, ?_⟩, htk, fun b hb => hnew b (List.mem_append_left _ hb), hnew r (List.mem_append_right _ (List.mem_singleton.2 rfl)), fun p hp hip hrp hbA hbr => ?_⟩
  · rw [ndsN_append, hlen]
    have e1 : (ndsN E s (r.take i)).take i = (ndsN E s r).take i := by
      rw [← ndsN_take E s r i (by omega), List.take_take, Nat.min_eq_left (by omega)]
    have e2 : ndAt E s (r.take i) i = ndAt E s r i := ndAt_take (by rw [List.take_take, Nat.min_self]) (by omega) (by omega)
    rw [e1, e2]
    refine List.nodup_append.2 ⟨ht.2.sublist (List.take_sublist _ _), hnd, fun a ha b hb e => ?_⟩
    subst e
    exact hl.nodes a hb (List.mem_map.2 ⟨a, ha, rfl⟩)
  · have hB : ∀ b ∈ A ++ [r], isW E t s b := fun b hb => by
      rcases List.mem_append.1 hb with e | e
      · exact (hA b e).1
      · rw [List.mem_singleton.1 e]; exact ht.1
    have h1 := SP.rest (B := A ++ [r]) hp hip (by omega) hrp hB (fun b hb => by
      rcases List.mem_append.1 hb with e | e
      · exact hbA b e
      · rw [List.mem_singleton.1 e]; exact hbr)
    have hpd : p = r.take i ++ p.drop i := by rw [hrp, List.take_append_drop]
    have h2 : wE E (p.drop i) < farV := by
      have := (hp.light hr hs).1
      rw [hpd, wE_append] at this
      omega
    have h3 := rLe_pre (q := r.take i) (hf _ h1 h2)
    rw [← hpd] at h3
    exact h3
theorem YL.none {E : List Edg} {N s t : Nat} {A Wt : List (List Nat)} {r : List Nat} {i : Nat} (hr : rightF (N : Int) E = 0) (hs : s < N) (h : YL E s t A r i Wt) (hi : i < r.length)
    (hf : ∀ k, Lft E t (ndAt E s r i) (((ndsN E s r).take i).map fun (u : Nat) => (u : Int)) ((noL (A ++ [r]) r i).map fun (j : Nat) => (j : Int)) k → wE E k < farV → False) : YL E s t A r (i + 1) Wt := by
  refine ⟨h.told, h.tip, h.new, h.wait, h.sort, fun p j hp hj hc hb hbr => ?_⟩
  rcases hc with hc | ⟨h1, h2, h3⟩
  · exact h.has p j hp hj (.inl hc) hb hbr
  · by_cases e : j = i
    · subst e
      have hB : ∀ b ∈ A ++ [r], isW E t s b := fun b hb => by
        rcases List.mem_append.1 hb with e | e
        · exact (h.told b e).1
        · rw [List.mem_singleton.1 e]; exact h.tip.1
      have h4 := SP.rest (B := A ++ [r]) hp hj (by omega) h3 hB (fun b hb2 => by
        rcases List.mem_append.1 hb2 with e | e
        · exact hb b e
        · rw [List.mem_singleton.1 e]; exact hbr)
      have hpd : p = r.take j ++ p.drop j := by rw [h3, List.take_append_drop]
      have h5 : wE E (p.drop j) < farV := by
        have := (hp.light hr hs).1
        rw [hpd, wE_append] at this
        omega
      exact (hf _ h4 h5).elim
    · exact h.has p j hp hj (.inr ⟨by omega, h2, h3⟩) hb hbr
structure Ins (E : List Edg) (Wt : List (List Nat)) (c : List Nat) (Wt' : List (List Nat)) : Prop where
  mem : ∀ p, p ∈ Wt' ↔ p ∈ Wt ∨ p = c
  sort : Wt'.Pairwise (rLt E)
theorem YL.some {E : List Edg} {s t : Nat} {A Wt Wt' : List (List Nat)} {r c : List Nat} {i : Nat} (h : YL E s t A r i Wt) (hc : Cand E s t A r i c) (hI : Ins E Wt c Wt') : YL E s t A r (i + 1) Wt' := by
  refine ⟨h.told, h.tip, h.new, fun p hp => ?_, hI.sort, fun p j hp hj hcj hb hbr => ?_⟩
  · rcases (hI.mem p).1 hp with e | e
    · exact h.wait p e
    · subst e
      exact ⟨hc.way, fun e => hc.newA p e rfl, fun e => hc.newr (by rw [← e])⟩
  · have keep : (∃ m ∈ Wt, m.take j = p.take j ∧ rLe E m p) → ∃ m ∈ Wt', m.take j = p.take j ∧ rLe E m p := fun ⟨m, hm, h1⟩ => ⟨m, (hI.mem m).2 (.inl hm), h1⟩
    rcases hcj with hcj | ⟨h1, h2, h3⟩
    · exact keep (h.has p j hp hj (.inl hcj) hb hbr)
    · by_cases e : j = i
      · subst e
        exact ⟨c, (hI.mem c).2 (.inr rfl), hc.root.trans h3, hc.first p hp hj h3 hb hbr⟩
      · exact keep (h.has p j hp hj (.inr ⟨by omega, h2, h3⟩) hb hbr)
theorem Ins.same {E : List Edg} {Wt : List (List Nat)} {c : List Nat} (h : Wt.Pairwise (rLt E)) (hc : c ∈ Wt) : Ins E Wt c Wt := ⟨fun p => ⟨.inl, fun e => e.elim id (fun e => e ▸ hc)⟩, h⟩
theorem Ins.put {E : List Edg} {Wt : List (List Nat)} {c : List Nat} {k : Nat} (h : Wt.Pairwise (rLt E)) (h1 : ∀ p ∈ Wt.take k, rLt E p c) (h2 : ∀ p ∈ Wt.drop k, rLt E c p) : Ins E Wt c (Wt.take k ++ c :: Wt.drop k) := by
  refine ⟨fun p => ?_, ?_⟩
  · conv => rhs; rw [← List.take_append_drop k Wt]
    simp only [List.mem_append, List.mem_cons]
    constructor
    · rintro (h | h | h)
      · exact .inl (.inl h)
      · exact .inr h
      · exact .inl (.inr h)
    · rintro ((h | h) | h)
      · exact .inl h
      · exact .inr (.inr h)
      · exact .inr (.inl h)
  · rw [List.pairwise_append]
    refine ⟨h.sublist (List.take_sublist _ _), List.pairwise_cons.2 ⟨h2, h.sublist (List.drop_sublist _ _)⟩, fun a ha b hb => ?_⟩
    rcases List.mem_cons.1 hb with e | e
    · rw [e]; exact h1 a ha
    · exact (h1 a ha).trans (h2 b e)
structure AllR (E : List Edg) (s t : Nat) (all : List (List Nat)) : Prop where
  mem : ∀ p, p ∈ all ↔ SP E s t p
  sort : all.Pairwise (rLt E)
theorem AllR.nodup {E : List Edg} {s t : Nat} {all : List (List Nat)} (h : AllR E s t all) : all.Nodup := h.sort.imp fun hab => hab.ne
theorem YOk.begin_ {E : List Edg} {s t : Nat} {c : List Nat} (h : SP E s t c) (hf : ∀ p, SP E s t p → rLe E c p) : YOk E s t [] [c] :=
  ⟨fun a ha => (by cases ha), fun p hp => ⟨by rw [List.mem_singleton.1 hp]; exact h, List.not_mem_nil⟩, by simp, fun p i _ _ ⟨a, ha, _⟩ => (by cases ha), fun _ p hp => ⟨c, List.mem_singleton.2 rfl, hf p hp⟩⟩
theorem YOk.begin0 {E : List Edg} {s t : Nat} (hf : ∀ p, ¬ SP E s t p) : YOk E s t [] [] :=
  ⟨fun a ha => (by cases ha), fun p hp => (by cases hp), by simp, fun p i _ _ ⟨a, ha, _⟩ => (by cases ha), fun _ p hp => absurd hp (hf p)⟩
theorem YOk.head {E : List Edg} {s t n : Nat} {all Wt : List (List Nat)} {r : List Nat} (ha : AllR E s t all) (h : YOk E s t (all.take n) (r :: Wt)) : n < all.length ∧ all[n]? = some r ∧ all.take n ++ [r] = all.take (n + 1) := by
  obtain ⟨h1, h2, h3⟩ := h.next
  have hn : n < all.length := by
    apply Classical.byContradiction
    intro hc
    rw [List.take_of_length_le (by omega)] at h2
    exact h2 ((ha.mem r).2 h1)
  have hg : all[n] = r := by
    have hnm : all[n] ∉ all.take n := fun hm => by
      obtain ⟨k, hk, he⟩ := List.getElem_of_mem hm
      rw [List.length_take] at hk
      rw [List.getElem_take] at he
      exact (List.pairwise_iff_getElem.1 ha.sort k n (by omega) hn (by omega)).ne he
    have hle := h3 all[n] ((ha.mem _).1 (List.getElem_mem hn)) hnm
    rcases hle with hlt | e
    · obtain ⟨k, hk, he⟩ := List.getElem_of_mem ((ha.mem r).2 h1)
      rcases Nat.lt_trichotomy k n with h4 | h4 | h4
      · exact absurd (by rw [← he]; exact List.mem_take_iff_getElem.2 ⟨k, by omega, rfl⟩) h2
      · subst h4; exact he
      · have := List.pairwise_iff_getElem.1 ha.sort n k hn hk h4
        rw [he] at this
        exact absurd hlt this.not
    · exact e.symm
  exact ⟨hn, by rw [List.getElem?_eq_getElem hn, hg], by rw [List.take_succ_eq_append_getElem hn, hg]⟩
theorem YOk.empty {E : List Edg} {s t n : Nat} {all : List (List Nat)} (ha : AllR E s t all) (h : YOk E s t (all.take n) []) : all.length ≤ n := by
  apply Classical.byContradiction
  intro hc
  have hn : n < all.length := by omega
  have hm := h.done ((ha.mem _).1 (List.getElem_mem hn))
  obtain ⟨k, hk, he⟩ := List.getElem_of_mem hm
  rw [List.length_take] at hk
  rw [List.getElem_take] at he
  exact (List.pairwise_iff_getElem.1 ha.sort k n (by omega) hn (by omega)).ne he
theorem YOk.few {E : List Edg} {s t : Nat} {A all Wt : List (List Nat)} (ha : AllR E s t all) (h : YOk E s t A Wt) : Wt.length ≤ all.length :=
  List.Nodup.length_le_of_subset (h.sort.imp fun hab => hab.ne) (fun p hp => (ha.mem p).2 (h.wait p hp).1)
theorem YL.few {E : List Edg} {s t k : Nat} {A all Wt : List (List Nat)} {r : List Nat} (ha : AllR E s t all) (h : YL E s t A r k Wt) : Wt.length ≤ all.length :=
  List.Nodup.length_le_of_subset (h.sort.imp fun hab => hab.ne) (fun p hp => (ha.mem p).2 (h.wait p hp).1)
end Go.Proofs.YtgplpgldhoelcaaGreat

namespace Go.Proofs.YtgplpgldhoelcaaGreat
open Go Go.RowKit
def ext (E : List Edg) (t : Nat) : Nat → Nat → List Nat → List (List Nat)
  | 0, _, _ => []
  | f + 1, v, seen => if v = t then [[]] else (List.range E.length).flatMap fun i => if fN E i = v ∧ tN E i ∉ seen then (ext E t f (tN E i) (seen ++ [tN E i])).map (i :: ·) else []
def extK (E : List Edg) (t f v : Nat) (seen : List Nat) (k : Nat) : List (List Nat) := (List.range k).flatMap fun i => if fN E i = v ∧ tN E i ∉ seen then (ext E t f (tN E i) (seen ++ [tN E i])).map (i :: ·) else []
theorem extK_succ (E : List Edg) (t f v : Nat) (seen : List Nat) (k : Nat) : extK E t f v seen (k + 1) = extK E t f v seen k ++ (if fN E k = v ∧ tN E k ∉ seen then (ext E t f (tN E k) (seen ++ [tN E k])).map (k :: ·) else []) := by
  simp [extK, List.range_succ]
theorem ext_end (E : List Edg) (t f : Nat) (seen : List Nat) : ext E t (f + 1) t seen = [[]] := by rw [ext, if_pos rfl]
theorem ext_go {E : List Edg} {t f v : Nat} {seen : List Nat} (h : v ≠ t) : ext E t (f + 1) v seen = extK E t f v seen E.length := by rw [ext, if_neg h]; rfl
theorem extK_mem {E : List Edg} {t f v : Nat} {seen : List Nat} {k : Nat} {l : List Nat} : l ∈ extK E t f v seen k ↔ ∃ i l', i < k ∧ fN E i = v ∧ tN E i ∉ seen ∧ l' ∈ ext E t f (tN E i) (seen ++ [tN E i]) ∧ l = i :: l' := by
  unfold extK
  rw [List.mem_flatMap]
  constructor
  · rintro ⟨i, hi, h⟩
    split at h
    · rename_i hc
      obtain ⟨l', h1, h2⟩ := List.mem_map.1 h
      exact ⟨i, l', List.mem_range.1 hi, hc.1, hc.2, h1, h2.symm⟩
    · cases h
  · rintro ⟨i, l', h1, h2, h3, h4, h5⟩
    exact ⟨i, List.mem_range.2 h1, by rw [if_pos ⟨h2, h3⟩, h5]; exact List.mem_map.2 ⟨l', h4, rfl⟩⟩
theorem isW.end_mem {E : List Edg} {t : Nat} : ∀ {v : Nat} {l : List Nat}, isW E t v l → l ≠ [] → t ∈ l.map (tN E)
  | _, [], _, h => absurd rfl h
  | _, i :: [], ⟨_, _, h⟩, _ => by rw [show t = tN E i from h.symm]; simp
  | _, i :: j :: l, ⟨_, _, h⟩, _ => by
    rw [List.map_cons]
    exact List.mem_cons_of_mem _ (isW.end_mem h (by simp))
theorem ext_mem {E : List Edg} {N t : Nat} (hE : InN N E) : ∀ (f v : Nat) (seen l : List Nat), N + 1 ≤ f + seen.length → seen.Nodup → (∀ u ∈ seen, u < N) → v ∈ seen → (l ∈ ext E t f v seen ↔ isW E t v l ∧ (seen ++ l.map (tN E)).Nodup) := by
  intro f
  induction f with
  | zero =>
    intro v seen l hf hn hs hv
    have := List.Nodup.length_le_of_subset hn (l₂ := List.range N) (fun u hu => List.mem_range.2 (hs u hu))
    simp at this
    omega
  | succ f ih =>
    intro v seen l hf hn hs hv
    by_cases e : v = t
    · subst e
      rw [ext_end, List.mem_singleton]
      constructor
      · rintro rfl
        exact ⟨rfl, by simpa using hn⟩
      · rintro ⟨h1, h2⟩
        apply Classical.byContradiction
        intro hl
        exact (List.nodup_append.1 h2).2.2 v hv v (h1.end_mem hl) rfl
    · rw [ext_go e, extK_mem]
      constructor
      · rintro ⟨i, l', h1, h2, h3, h4, rfl⟩
        have ht := (hE.t i h1).1
        have hn' : (seen ++ [tN E i]).Nodup := List.nodup_append.2 ⟨hn, by simp, fun a ha b hb e2 => by rw [List.mem_singleton.1 hb] at e2; rw [e2] at ha; exact h3 ha⟩
        have := (ih (tN E i) (seen ++ [tN E i]) l' (by rw [List.length_append, List.length_singleton]; omega) hn' (fun u hu => by
          rcases List.mem_append.1 hu with h | h
          · exact hs u h
          · rw [List.mem_singleton.1 h]; exact ht) (by simp)).1 h4
        exact ⟨⟨h1, h2, this.1⟩, by rw [List.map_cons, ← List.append_cons] at *; simpa using this.2⟩
      · rintro ⟨h1, h2⟩
        cases l with
        | nil => exact absurd h1 e
        | cons i l' =>
          obtain ⟨h3, h4, h5⟩ := h1
          have ht := (hE.t i h3).1
          have h6 : (seen ++ [tN E i] ++ l'.map (tN E)).Nodup := by simpa using h2
          have hn' : (seen ++ [tN E i]).Nodup := (List.nodup_append.1 h6).1
          refine ⟨i, l', h3, h4, fun hm => (List.nodup_append.1 hn').2.2 _ hm _ (by simp) rfl, ?_, rfl⟩
          exact (ih (tN E i) (seen ++ [tN E i]) l' (by rw [List.length_append, List.length_singleton]; omega) hn' (fun u hu => by
            rcases List.mem_append.1 hu with h | h
            · exact hs u h
            · rw [List.mem_singleton.1 h]; exact ht) (by simp)).2 ⟨h5, h6⟩
theorem ext_nodup (E : List Edg) (t : Nat) : ∀ (f v : Nat) (seen : List Nat), (ext E t f v seen).Nodup := by
  intro f
  induction f with
  | zero => intro v seen; exact List.nodup_nil
  | succ f ih =>
    intro v seen
    by_cases e : v = t
    · rw [e, ext_end]; simp
    · rw [ext_go e]
      have : ∀ k, (extK E t f v seen k).Nodup := by
        intro k
        induction k with
        | zero => simp [extK]
        | succ k ihk =>
          rw [extK_succ, List.nodup_append]
          refine ⟨ihk, ?_, fun a ha b hb e2 => ?_⟩
          · split
            · have := ih (tN E k) (seen ++ [tN E k])
              unfold List.Nodup at this ⊢
              rw [List.pairwise_map]
              exact this.imp fun hab e3 => hab (by injection e3)
            · exact List.nodup_nil
          · obtain ⟨i, l', h1, _, _, _, h5⟩ := extK_mem.1 ha
            split at hb
            · obtain ⟨l2, _, h6⟩ := List.mem_map.1 hb
              rw [← e2, h5] at h6
              injection h6 with h6 _
              omega
            · cases hb
      exact this _
theorem cube_root (K : Nat) : ∃ M, M ^ 3 ≤ K ∧ ∀ m, m ^ 3 ≤ K → m ≤ M := by
  have h : ∃ M, M ^ 3 ≤ K ∧ K < (M + 1) ^ 3 := by
    induction K with
    | zero => exact ⟨0, by decide, by decide⟩
    | succ K ih =>
      obtain ⟨M, h1, h2⟩ := ih
      by_cases h3 : (M + 1) ^ 3 ≤ K + 1
      · refine ⟨M + 1, h3, ?_⟩
        have : (M + 1) ^ 3 < (M + 1 + 1) ^ 3 := Nat.pow_lt_pow_left (by omega) (by decide)
        omega
      · exact ⟨M, by omega, by omega⟩
  obtain ⟨M, h1, h2⟩ := h
  refine ⟨M, h1, fun m hm => ?_⟩
  apply Classical.byContradiction
  intro hc
  have : (M + 1) ^ 3 ≤ m ^ 3 := Nat.pow_le_pow_left (by omega) 3
  omega
theorem cube_le : ∀ d : Nat, d ^ 3 ≤ 3 ^ d
  | 0 => by decide
  | 1 => by decide
  | 2 => by decide
  | 3 => by decide
  | d + 4 => by
    have h1 := cube_le (d + 3)
    have h2 : (d + 4) ^ 3 ≤ 3 * (d + 3) ^ 3 := by
      have m : ∀ a : Nat, (d + a) ^ 3 = d * d * d + 3 * a * (d * d) + 3 * (a * a) * d + a * a * a := fun a => by grind
      have e1 := m 4
      have e2 := m 3
      rw [e1, e2]
      generalize d * d * d = x
      generalize d * d = y
      omega
    rw [Nat.pow_succ 3 (d + 3)]
    omega
def cntP (p : Nat → Bool) (k : Nat) : Nat := (List.range k).countP p
theorem cntP_succ (p : Nat → Bool) (k : Nat) : cntP p (k + 1) = cntP p k + (if p k then 1 else 0) := by simp [cntP, List.range_succ, List.countP_append, List.countP_cons]
theorem cntP_or (p q : Nat → Bool) (h : ∀ i, p i = true → q i = false) : ∀ k, cntP (fun i => p i || q i) k = cntP p k + cntP q k
  | 0 => rfl
  | k + 1 => by
    rw [cntP_succ, cntP_succ, cntP_succ, cntP_or p q h k]
    cases h1 : p k with
    | true => rw [h k h1]; simp; omega
    | false => simp; omega
theorem cntP_le (p : Nat → Bool) : ∀ k, cntP p k ≤ k
  | 0 => Nat.le_refl _
  | k + 1 => by
    have := cntP_le p k
    rw [cntP_succ]
    split <;> omega
theorem cntP_congr {p q : Nat → Bool} (h : ∀ i, p i = q i) (k : Nat) : cntP p k = cntP q k := by rw [show p = q from funext h]
theorem ext_count (E : List Edg) (t : Nat) : ∀ (f v : Nat) (seen : List Nat), v ∈ seen → (ext E t f v seen).length ^ 3 ≤ 3 ^ (cntP (fun i => decide (fN E i = v) || decide (fN E i ∉ seen)) E.length) := by
  intro f
  induction f with
  | zero => intro v seen _; exact Nat.zero_le _
  | succ f ih =>
    intro v seen hv
    by_cases e : v = t
    · rw [e, ext_end]
      exact Nat.one_le_iff_ne_zero.2 (by have := Nat.pow_pos (n := cntP (fun i => decide (fN E i = t) || decide (fN E i ∉ seen)) E.length) (show 0 < 3 by omega); omega)
    · rw [ext_go e, cntP_or _ _ (fun i h => by
        have := of_decide_eq_true h
        exact decide_eq_false (fun h2 => h2 (by rw [this]; exact hv)))]
      generalize he : cntP (fun i => decide (fN E i ∉ seen)) E.length = e' at *
      obtain ⟨M, hM, hall⟩ := cube_root (3 ^ e')
      have hone : ∀ i, tN E i ∉ seen → (ext E t f (tN E i) (seen ++ [tN E i])).length ≤ M := fun i hi => by
        refine hall _ (Nat.le_trans (ih (tN E i) (seen ++ [tN E i]) (by simp)) ?_)
        rw [← he]
        refine Nat.le_of_eq (congrArg (3 ^ ·) (cntP_congr (fun j => ?_) _))
        by_cases h1 : fN E j = tN E i
        · simp [h1, hi]
        · simp [h1]
      have hk : ∀ k, (extK E t f v seen k).length ≤ cntP (fun i => decide (fN E i = v)) k * M := by
        intro k
        induction k with
        | zero => simp [extK]
        | succ k ihk =>
          rw [extK_succ, List.length_append, cntP_succ, Nat.add_mul]
          refine Nat.add_le_add ihk ?_
          split
          · rename_i hc
            rw [List.length_map, if_pos (decide_eq_true hc.1), Nat.one_mul]
            exact hone k hc.2
          · exact Nat.zero_le _
      have h1 := Nat.pow_le_pow_left (hk E.length) 3
      rw [Nat.mul_pow] at h1
      rw [Nat.pow_add]
      exact Nat.le_trans h1 (Nat.mul_le_mul (cube_le _) hM)
def rowsL (E : List Edg) (N s t : Nat) : List (List Nat) := ext E t N s [s]
theorem rows_mem {E : List Edg} {N s t : Nat} (hE : InN N E) (hs : s < N) (p : List Nat) : p ∈ rowsL E N s t ↔ SP E s t p := by
  unfold rowsL
  rw [ext_mem hE N s [s] p (by simp) (by simp) (fun u hu => by rw [List.mem_singleton.1 hu]; exact hs) (by simp)]
  exact Iff.rfl
theorem rows_few {E : List Edg} {N s t : Nat} (h : E.length ≤ 22) : (rowsL E N s t).length ≤ 3200 := by
  have h1 := ext_count E t N s [s] (by simp)
  have h2 := Nat.le_trans h1 (Nat.pow_le_pow_right (show 0 < 3 by omega) (Nat.le_trans (cntP_le _ _) h))
  unfold rowsL
  apply Classical.byContradiction
  intro hc
  have h3 : 3201 ^ 3 ≤ (ext E t N s [s]).length ^ 3 := Nat.pow_le_pow_left (by omega) 3
  have h4 : 3 ^ 22 < 3201 ^ 3 := by decide
  omega
def leN (E : List Edg) (x : List Nat) : List (List Nat) → Nat
  | [] => 0
  | p :: l => if cmpR E p x ≤ 0 then leN E x l + 1 else 0
theorem leN_le (E : List Edg) (x : List Nat) : ∀ l, leN E x l ≤ l.length
  | [] => Nat.le_refl _
  | p :: l => by
    rw [leN, List.length_cons]
    have := leN_le E x l
    split <;> omega
theorem leN_take {E : List Edg} {x : List Nat} : ∀ {l : List (List Nat)} {j : Nat}, j < leN E x l → ∃ p, l[j]? = some p ∧ cmpR E p x ≤ 0
  | [], j, h => by rw [leN] at h; omega
  | p :: l, j, h => by
    rw [leN] at h
    split at h
    · rename_i hc
      cases j with
      | zero => exact ⟨p, rfl, hc⟩
      | succ j => exact leN_take (l := l) (j := j) (by omega)
    · omega
theorem leN_at {E : List Edg} {x : List Nat} : ∀ {l : List (List Nat)}, leN E x l < l.length → ∃ p, l[leN E x l]? = some p ∧ 0 < cmpR E p x
  | [], h => by simp [leN] at h
  | p :: l, h => by
    rw [leN] at h ⊢
    split at h
    · rename_i hc
      rw [if_pos hc]
      exact leN_at (l := l) (by simpa using h)
    · rename_i hc
      rw [if_neg hc]
      exact ⟨p, rfl, by omega⟩
def insS (E : List Edg) (l : List (List Nat)) (x : List Nat) : List (List Nat) := l.take (leN E x l) ++ x :: l.drop (leN E x l)
theorem insS_ins {E : List Edg} {l : List (List Nat)} {x : List Nat} (h : l.Pairwise (rLt E)) (hx : x ∉ l) : Ins E l x (insS E l x) := by
  refine Ins.put h (fun p hp => ?_) (fun p hp => ?_)
  · obtain ⟨j, hj, rfl⟩ := List.getElem_of_mem hp
    rw [List.length_take] at hj
    obtain ⟨q, h1, h2⟩ := leN_take (E := E) (x := x) (l := l) (j := j) (by omega)
    have h3 : l[j]'(by omega) = q := by
      rw [List.getElem?_eq_getElem (by omega)] at h1
      injection h1
    rw [List.getElem_take, h3]
    rcases cmpR_vals E q x with h4 | h4 | h4
    · exact h4
    · exact absurd (by rw [← cmpR_eq h4, ← h3]; exact List.getElem_mem _) hx
    · omega
  · obtain ⟨j, hj, rfl⟩ := List.getElem_of_mem hp
    rw [List.length_drop] at hj
    obtain ⟨q, h1, h2⟩ := leN_at (E := E) (x := x) (l := l) (by omega)
    have h3 : l[leN E x l]'(by omega) = q := by
      rw [List.getElem?_eq_getElem (by omega)] at h1
      injection h1
    have h4 : rLt E x q := by
      rcases rLt_total E x q with h5 | h5 | h5
      · exact h5
      · rw [h5, cmpR_self] at h2; omega
      · unfold rLt at h5; omega
    rw [List.getElem_drop]
    cases j with
    | zero => simpa [h3] using h4
    | succ j =>
      have := List.pairwise_iff_getElem.1 h (leN E x l) (leN E x l + (j + 1)) (by omega) (by omega) (by omega)
      rw [h3] at this
      exact h4.trans this
def srtL (E : List Edg) (l : List (List Nat)) : List (List Nat) := l.foldl (insS E) []
theorem srtL_snoc (E : List Edg) (l : List (List Nat)) (x : List Nat) : srtL E (l ++ [x]) = insS E (srtL E l) x := by simp [srtL]
theorem insS_len (E : List Edg) (l : List (List Nat)) (x : List Nat) : (insS E l x).length = l.length + 1 := by
  have := leN_le E x l
  unfold insS
  simp
  omega
theorem srtL_len (E : List Edg) (l : List (List Nat)) : ∀ k, k ≤ l.length → (srtL E (l.take k)).length = k
  | 0, _ => rfl
  | k + 1, h => by rw [List.take_succ_eq_append_getElem (by omega), srtL_snoc, insS_len, srtL_len E l k (by omega)]
theorem srt_all {E : List Edg} {l : List (List Nat)} (h : l.Nodup) : ∀ k, k ≤ l.length → (∀ p, p ∈ srtL E (l.take k) ↔ p ∈ l.take k) ∧ (srtL E (l.take k)).Pairwise (rLt E)
  | 0, _ => ⟨fun p => Iff.rfl, List.Pairwise.nil⟩
  | k + 1, hk => by
    obtain ⟨h1, h2⟩ := srt_all h k (by omega)
    have hx : l[k] ∉ srtL E (l.take k) := fun hm => by
      obtain ⟨j, hj, he⟩ := List.getElem_of_mem ((h1 _).1 hm)
      rw [List.length_take] at hj
      rw [List.getElem_take] at he
      exact (List.pairwise_iff_getElem.1 h j k (by omega) (by omega) (by omega)) he
    rw [List.take_succ_eq_append_getElem (by omega), srtL_snoc]
    have hI := insS_ins h2 hx
    exact ⟨fun p => by rw [hI.mem, h1, List.mem_append, List.mem_singleton], hI.sort⟩
theorem srt_is {E : List Edg} {N s t : Nat} (hE : InN N E) (hs : s < N) : AllR E s t (srtL E (rowsL E N s t)) := by
  obtain ⟨h1, h2⟩ := srt_all (E := E) (ext_nodup E t N s [s]) (rowsL E N s t).length (Nat.le_refl _)
  have e : (ext E t N s [s]).take (rowsL E N s t).length = rowsL E N s t := List.take_length
  rw [e] at h1 h2
  exact ⟨fun p => by rw [h1, rows_mem hE hs], h2⟩
end Go.Proofs.YtgplpgldhoelcaaGreat

