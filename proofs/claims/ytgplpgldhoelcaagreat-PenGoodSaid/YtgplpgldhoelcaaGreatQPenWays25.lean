/- Plain: the shortest simple ways, one by one: what was told, and what waits. -/
import Derived.Deep.DeepCutAuto
import Derived.Test.YtgplpgldhoelcaaGreatQPenWays01
import Derived.Test.YtgplpgldhoelcaaGreatQPenWays05
import Derived.Test.YtgplpgldhoelcaaGreatQPenWays14
import Derived.Test.YtgplpgldhoelcaaGreatQPenWays15
import Derived.Test.YtgplpgldhoelcaaGreatQPenWays22
import Derived.Test.YtgplpgldhoelcaaGreatQPenWays23
import Derived.Test.YtgplpgldhoelcaaGreatQPenWays24
namespace Go.Proofs.YtgplpgldhoelcaaGreat
open Go Go.RowKit
structure YL (E : List Edg) (s t : Nat) (A : List (List Nat)) (r : List Nat) (k : Nat) (Wt : List (List Nat)) : Prop where
  told : ∀ a ∈ A, SP E s t a
  tip : SP E s t r
  new : r ∉ A
  wait : ∀ p ∈ Wt, SP E s t p ∧ p ∉ A ∧ p ≠ r
  sort : Wt.Pairwise (rLt E)
  has : ∀ p i, SP E s t p → i < p.length → ((∃ a ∈ A, i < a.length ∧ a.take i = p.take i ∧ r.take i ≠ p.take i) ∨ (i < k ∧ i < r.length ∧ r.take i = p.take i)) → (∀ b ∈ A, b.take (i + 1) ≠ p.take (i + 1)) → r.take (i + 1) ≠ p.take (i + 1) → ∃ m ∈ Wt, m.take i = p.take i ∧ rLe E m p
structure YOk (E : List Edg) (s t : Nat) (A Wt : List (List Nat)) : Prop where
  told : ∀ a ∈ A, SP E s t a
  wait : ∀ p ∈ Wt, SP E s t p ∧ p ∉ A
  sort : Wt.Pairwise (rLt E)
  has : ∀ p i, SP E s t p → i < p.length → (∃ a ∈ A, i < a.length ∧ a.take i = p.take i) → (∀ b ∈ A, b.take (i + 1) ≠ p.take (i + 1)) → ∃ m ∈ Wt, m.take i = p.take i ∧ rLe E m p
  start : A = [] → ∀ p, SP E s t p → ∃ m ∈ Wt, rLe E m p
theorem greatest {P : Nat → Prop} : ∀ n, P 0 → (∃ i, i ≤ n ∧ P i ∧ (i = n ∨ ¬ P (i + 1))) := by
  intro n h0
  induction n with
  | zero => exact ⟨0, Nat.le_refl _, h0, .inl rfl⟩
  | succ n ih =>
    obtain ⟨i, h1, h2, h3⟩ := ih
    rcases h3 with h3 | h3
    · subst h3
      by_cases h4 : P (i + 1)
      · exact ⟨i + 1, Nat.le_refl _, h4, .inl rfl⟩
      · exact ⟨i, by omega, h2, .inr h4⟩
    · exact ⟨i, by omega, h2, .inr h3⟩
theorem YOk.any {E : List Edg} {s t : Nat} {A Wt : List (List Nat)} (h : YOk E s t A Wt) {p : List Nat} (hp : SP E s t p) (hn : p ∉ A) : ∃ m ∈ Wt, rLe E m p := by
  cases A with
  | nil => exact h.start rfl p hp
  | cons a0 A =>
    obtain ⟨i, h1, ⟨a, ha, h2⟩, h3⟩ := greatest (P := fun i => ∃ a ∈ a0 :: A, a.take i = p.take i) p.length ⟨a0, List.mem_cons_self .., rfl⟩
    have hia : i < a.length := by
      apply Classical.byContradiction
      intro hc
      have e : p.take a.length = a := by
        have e1 : a.take i = a := List.take_of_length_le (by omega)
        rw [e1] at h2
        have e2 : a.length = i := by
          have := congrArg List.length h2
          rw [List.length_take] at this
          omega
        rw [e2, h2, ← e2]
      have := SP.prefix_ (h.told a ha) hp e
      exact hn (by rw [this]; exact ha)
    have hip : i < p.length := by
      apply Classical.byContradiction
      intro hc
      have e : i = p.length := by omega
      rw [e, List.take_length] at h2
      have := SP.prefix_ hp (h.told a ha) h2
      exact hn (by rw [← this]; exact ha)
    rcases h3 with h3 | h3
    · omega
    · obtain ⟨m, hm, _, hle⟩ := h.has p i hp hip ⟨a, ha, hia, h2⟩ (fun b hb e => h3 ⟨b, hb, e⟩)
      exact ⟨m, hm, hle⟩
theorem YOk.done {E : List Edg} {s t : Nat} {A : List (List Nat)} (h : YOk E s t A []) {p : List Nat} (hp : SP E s t p) : p ∈ A := by
  apply Classical.byContradiction
  intro hn
  obtain ⟨m, hm, _⟩ := h.any hp hn
  cases hm
theorem YOk.next {E : List Edg} {s t : Nat} {A Wt : List (List Nat)} {r : List Nat} (h : YOk E s t A (r :: Wt)) : SP E s t r ∧ r ∉ A ∧ ∀ p, SP E s t p → p ∉ A → rLe E r p := by
  obtain ⟨h1, h2⟩ := h.wait r (List.mem_cons_self ..)
  refine ⟨h1, h2, fun p hp hn => ?_⟩
  obtain ⟨m, hm, hle⟩ := h.any hp hn
  rcases List.mem_cons.1 hm with e | e
  · rw [← e]; exact hle
  · exact .inl (match hle with
      | .inl hl => ((List.pairwise_cons.1 h.sort).1 m e).trans hl
      | .inr e2 => e2 ▸ (List.pairwise_cons.1 h.sort).1 m e)
theorem YOk.tell {E : List Edg} {s t : Nat} {A Wt : List (List Nat)} {r : List Nat} (h : YOk E s t A (r :: Wt)) : YL E s t A r 0 Wt := by
  obtain ⟨h1, h2, h3⟩ := h.next
  refine ⟨h.told, h1, h2, fun p hp => ?_, (List.pairwise_cons.1 h.sort).2, fun p i hp hi hc hb hr => ?_⟩
  · obtain ⟨h4, h5⟩ := h.wait p (List.mem_cons_of_mem _ hp)
    exact ⟨h4, h5, fun e => ((List.pairwise_cons.1 h.sort).1 p hp).ne e.symm⟩
  · rcases hc with ⟨a, ha, h4, h5, h6⟩ | ⟨h4, _⟩
    · obtain ⟨m, hm, h7, h8⟩ := h.has p i hp hi ⟨a, ha, h4, h5⟩ hb
      rcases List.mem_cons.1 hm with e | e
      · rw [e] at h7; exact absurd h7 h6
      · exact ⟨m, e, h7, h8⟩
    · omega
theorem YL.end_ {E : List Edg} {s t : Nat} {A Wt : List (List Nat)} {r : List Nat} (h : YL E s t A r r.length Wt) : YOk E s t (A ++ [r]) Wt := by
  refine ⟨fun a ha => ?_, fun p hp => ?_, h.sort, fun p i hp hi hc hb => ?_, fun e => ?_⟩
  · rcases List.mem_append.1 ha with e | e
    · exact h.told a e
    · rw [List.mem_singleton.1 e]; exact h.tip
  · obtain ⟨h1, h2, h3⟩ := h.wait p hp
    exact ⟨h1, fun e => (List.mem_append.1 e).elim h2 (fun e => h3 (List.mem_singleton.1 e))⟩
  · have hb1 : ∀ b ∈ A, b.take (i + 1) ≠ p.take (i + 1) := fun b hb2 => hb b (List.mem_append_left _ hb2)
    have hb2 : r.take (i + 1) ≠ p.take (i + 1) := hb r (List.mem_append_right _ (List.mem_singleton.2 rfl))
    refine h.has p i hp hi ?_ hb1 hb2
    by_cases hrp : r.take i = p.take i
    · refine .inr ⟨?_, ?_, hrp⟩
      all_goals
        apply Classical.byContradiction
        intro hc2
        have e1 : r.take i = r := List.take_of_length_le (by omega)
        rw [e1] at hrp
        have e2 : r.length = i := by
          have := congrArg List.length hrp
          rw [List.length_take] at this
          omega
        have := SP.prefix_ h.tip hp (by rw [e2, ← hrp])
        exact hb2 (by rw [this])
    · obtain ⟨a, ha, h1, h2⟩ := hc
      rcases List.mem_append.1 ha with e | e
      · exact .inl ⟨a, e, h1, h2, hrp⟩
      · rw [List.mem_singleton.1 e] at h2
        exact absurd h2 hrp
  · simp at e
def noL (B : List (List Nat)) (r : List Nat) (i : Nat) : List Nat := B.filterMap fun x => if i < x.length ∧ x.take i = r.take i then some (gn x i) else none
theorem noL_mem {B : List (List Nat)} {r : List Nat} {i : Nat} {j : Nat} : j ∈ noL B r i ↔ ∃ x ∈ B, i < x.length ∧ x.take i = r.take i ∧ gn x i = j := by
  unfold noL
  rw [List.mem_filterMap]
  constructor
  · rintro ⟨x, hx, h⟩
    split at h
    · rename_i h1
      injection h with h
      exact ⟨x, hx, h1.1, h1.2, h⟩
    · cases h
  · rintro ⟨x, hx, h1, h2, h3⟩
    exact ⟨x, hx, by rw [if_pos ⟨h1, h2⟩, h3]⟩
theorem take_succ_gn {l : List Nat} {i : Nat} (h : i < l.length) : l.take (i + 1) = l.take i ++ [gn l i] := by
  rw [List.take_succ_eq_append_getElem h]
  simp [gn, h]
theorem take_eq_iff {a b : List Nat} {i : Nat} (ha : i < a.length) (hb : i < b.length) : a.take (i + 1) = b.take (i + 1) ↔ a.take i = b.take i ∧ gn a i = gn b i := by
  rw [take_succ_gn ha, take_succ_gn hb]
  constructor
  · intro h
    have hl : (a.take i).length = (b.take i).length := by rw [List.length_take, List.length_take]; omega
    obtain ⟨h1, h2⟩ := List.append_inj h hl
    injection h2 with h2
    exact ⟨h1, h2⟩
  · rintro ⟨h1, h2⟩
    rw [h1, h2]
theorem SP.rest {E : List Edg} {s t : Nat} {B : List (List Nat)} {r p : List Nat} {i : Nat} (hp : SP E s t p) (hi : i < p.length) (hir : i ≤ r.length) (he : r.take i = p.take i) (hB : ∀ b ∈ B, isW E t s b) (hb : ∀ b ∈ B, b.take (i + 1) ≠ p.take (i + 1)) :
    Lft E t (ndAt E s r i) (((ndsN E s r).take i).map fun (u : Nat) => (u : Int)) ((noL B r i).map fun (j : Nat) => (j : Int)) (p.drop i) := by
  have hv : ndAt E s r i = ndAt E s p i := ndAt_take he hir (by omega)
  have hpre : (ndsN E s r).take i = (ndsN E s p).take i := by
    have h1 := ndsN_take E s r i hir
    have h2 := ndsN_take E s p i (by omega)
    have h3 : (ndsN E s r).take (i + 1) = (ndsN E s p).take (i + 1) := by rw [h1, h2, he]
    have h4 := congrArg (List.take i) h3
    rwa [List.take_take, List.take_take, Nat.min_eq_left (by omega)] at h4
  have hcut := ndsN_cut E s p i (by omega)
  have hnd := hp.2
  rw [hcut] at hnd
  obtain ⟨h1, h2, h3⟩ := List.nodup_append.1 hnd
  have hw := (hp.1.cut i (by omega)).2
  rw [hv]
  refine ⟨hw, fun j hj hm => ?_, fun u hu hm => ?_⟩
  · obtain ⟨j', hj', hje⟩ := List.mem_map.1 hm
    obtain rfl : j' = j := by omega
    obtain ⟨x, hx, hxl, hxt, hxg⟩ := noL_mem.1 hj'
    obtain ⟨q, hq⟩ : ∃ q l, p.drop i = q :: l := by
      cases hd : p.drop i with
      | nil =>
        have := congrArg List.length hd
        rw [List.length_drop] at this
        simp at this
        omega
      | cons q l => exact ⟨q, l, rfl⟩
    obtain ⟨l, hq⟩ := hq
    have hfx : fN E j' = ndAt E s p i := by
      have h5 := ((hB x hx).cut i (by omega)).2
      have h6 : x.drop i = gn x i :: x.drop (i + 1) := by
        rw [List.drop_eq_getElem_cons hxl]
        simp [gn, hxl]
      rw [h6] at h5
      have h7 := h5.2.1
      rw [hxg] at h7
      rw [h7]
      exact ndAt_take (by rw [hxt, he]) (by omega) (by omega)
    rw [hq] at hj hw h2
    rcases List.mem_cons.1 hj with e | e
    · have hg : gn p i = q := by
        have := List.drop_eq_getElem_cons hi
        rw [hq] at this
        injection this with h8 _
        simp [gn, hi, h8]
      exact hb x hx ((take_eq_iff hxl hi).2 ⟨by rw [hxt, he], by rw [hxg, hg, e]⟩)
    · have h8 := hw.2.2.froms j' e
      rw [hfx] at h8
      rw [ndsN_cons] at h2
      exact (List.nodup_cons.1 h2).1 h8
  · obtain ⟨u', hu', hue⟩ := List.mem_map.1 hm
    obtain rfl : u' = u := by omega
    rw [hpre] at hu'
    exact h3 u' hu' u' hu rfl
structure Cand (E : List Edg) (s t : Nat) (A : List (List Nat)) (r : List Nat) (i : Nat) (c : List Nat) : Prop where
  way : SP E s t c
  root : c.take i = r.take i
  newA : ∀ b ∈ A, b.take (i + 1) ≠ c.take (i + 1)
  newr : r.take (i + 1) ≠ c.take (i + 1)
  first : ∀ p, SP E s t p → i < p.length → r.take i = p.take i → (∀ b ∈ A, b.take (i + 1) ≠ p.take (i + 1)) → r.take (i + 1) ≠ p.take (i + 1) → rLe E c p
theorem YL.none {E : List Edg} {N s t : Nat} {A Wt : List (List Nat)} {r : List Nat} {i : Nat} (hr : rightF (N : Int) E = 0) (hs : s < N) (h : YL E s t A r i Wt) (hi : i < r.length)
    (hf : ∀ k, Lft E t (ndAt E s r i) (((ndsN E s r).take i).map fun (u : Nat) => (u : Int)) ((noL (A ++ [r]) r i).map fun (j : Nat) => (j : Int)) k → wE E k < farV → False) : YL E s t A r (i + 1) Wt := by
  refine ⟨h.told, h.tip, h.new, h.wait, h.sort, fun p j hp hj hc hb hbr => ?_⟩
  rcases hc with hc | ⟨h1, h2, h3⟩
  · exact h.has p j hp hj (.inl hc) hb hbr
  · by_cases e : j = i
    · subst e
      have hB : ∀ b ∈ A ++ [r], isW E t s b := fun b hb => by
        rcases List.mem_append.1 hb with e | e
        · exact (h.told b e).1
        · rw [List.mem_singleton.1 e]; exact h.tip.1
      have h4 := SP.rest (B := A ++ [r]) hp hj (by omega) h3 hB (fun b hb2 => by
        rcases List.mem_append.1 hb2 with e | e
        · exact hb b e
        · rw [List.mem_singleton.1 e]; exact hbr)
      have hpd : p = r.take j ++ p.drop j := by rw [h3, List.take_append_drop]
      have h5 : wE E (p.drop j) < farV := by
        have := (hp.light hr hs).1
        rw [hpd, wE_append] at this
        omega
      exact (hf _ h4 h5).elim
    · exact h.has p j hp hj (.inr ⟨by omega, h2, h3⟩) hb hbr
structure Ins (E : List Edg) (Wt : List (List Nat)) (c : List Nat) (Wt' : List (List Nat)) : Prop where
  mem : ∀ p, p ∈ Wt' ↔ p ∈ Wt ∨ p = c
  sort : Wt'.Pairwise (rLt E)
theorem YL.some {E : List Edg} {s t : Nat} {A Wt Wt' : List (List Nat)} {r c : List Nat} {i : Nat} (h : YL E s t A r i Wt) (hc : Cand E s t A r i c) (hI : Ins E Wt c Wt') : YL E s t A r (i + 1) Wt' := by
  refine ⟨h.told, h.tip, h.new, fun p hp => ?_, hI.sort, fun p j hp hj hcj hb hbr => ?_⟩
  · rcases (hI.mem p).1 hp with e | e
    · exact h.wait p e
    · subst e
      exact ⟨hc.way, fun e => hc.newA p e rfl, fun e => hc.newr (by rw [← e])⟩
  · have keep : (∃ m ∈ Wt, m.take j = p.take j ∧ rLe E m p) → ∃ m ∈ Wt', m.take j = p.take j ∧ rLe E m p := fun ⟨m, hm, h1⟩ => ⟨m, (hI.mem m).2 (.inl hm), h1⟩
    rcases hcj with hcj | ⟨h1, h2, h3⟩
    · exact keep (h.has p j hp hj (.inl hcj) hb hbr)
    · by_cases e : j = i
      · subst e
        exact ⟨c, (hI.mem c).2 (.inr rfl), hc.root.trans h3, hc.first p hp hj h3 hb hbr⟩
      · exact keep (h.has p j hp hj (.inr ⟨by omega, h2, h3⟩) hb hbr)
theorem Ins.same {E : List Edg} {Wt : List (List Nat)} {c : List Nat} (h : Wt.Pairwise (rLt E)) (hc : c ∈ Wt) : Ins E Wt c Wt := ⟨fun p => ⟨.inl, fun e => e.elim id (fun e => e ▸ hc)⟩, h⟩
theorem Ins.put {E : List Edg} {Wt : List (List Nat)} {c : List Nat} {k : Nat} (h : Wt.Pairwise (rLt E)) (h1 : ∀ p ∈ Wt.take k, rLt E p c) (h2 : ∀ p ∈ Wt.drop k, rLt E c p) : Ins E Wt c (Wt.take k ++ c :: Wt.drop k) := by
  refine ⟨fun p => ?_, ?_⟩
  · conv => rhs; rw [← List.take_append_drop k Wt]
    simp only [List.mem_append, List.mem_cons]
    constructor
    · rintro (h | h | h)
      · exact .inl (.inl h)
      · exact .inr h
      · exact .inl (.inr h)
    · rintro ((h | h) | h)
      · exact .inl h
      · exact .inr (.inr h)
      · exact .inr (.inl h)
  · rw [List.pairwise_append]
    refine ⟨h.sublist (List.take_sublist _ _), List.pairwise_cons.2 ⟨h2, h.sublist (List.drop_sublist _ _)⟩, fun a ha b hb => ?_⟩
    rcases List.mem_cons.1 hb with e | e
    · rw [e]; exact h1 a ha
    · exact (h1 a ha).trans (h2 b e)
structure AllR (E : List Edg) (s t : Nat) (all : List (List Nat)) : Prop where
  mem : ∀ p, p ∈ all ↔ SP E s t p
  sort : all.Pairwise (rLt E)
theorem AllR.nodup {E : List Edg} {s t : Nat} {all : List (List Nat)} (h : AllR E s t all) : all.Nodup := h.sort.imp fun hab => hab.ne
theorem YOk.begin_ {E : List Edg} {s t : Nat} {c : List Nat} (h : SP E s t c) (hf : ∀ p, SP E s t p → rLe E c p) : YOk E s t [] [c] :=
  ⟨fun a ha => (by cases ha), fun p hp => ⟨by rw [List.mem_singleton.1 hp]; exact h, List.not_mem_nil⟩, by simp, fun p i _ _ ⟨a, ha, _⟩ => (by cases ha), fun _ p hp => ⟨c, List.mem_singleton.2 rfl, hf p hp⟩⟩
theorem YOk.empty {E : List Edg} {s t n : Nat} {all : List (List Nat)} (ha : AllR E s t all) (h : YOk E s t (all.take n) []) : all.length ≤ n := by
  apply Classical.byContradiction
  intro hc
  have hn : n < all.length := by omega
  have hm := h.done ((ha.mem _).1 (List.getElem_mem hn))
  obtain ⟨k, hk, he⟩ := List.getElem_of_mem hm
  rw [List.length_take] at hk
  rw [List.getElem_take] at he
  exact (List.pairwise_iff_getElem.1 ha.sort k n (by omega) hn (by omega)).ne he
theorem YOk.few {E : List Edg} {s t : Nat} {A all Wt : List (List Nat)} (ha : AllR E s t all) (h : YOk E s t A Wt) : Wt.length ≤ all.length :=
  List.Nodup.length_le_of_subset (h.sort.imp fun hab => hab.ne) (fun p hp => (ha.mem p).2 (h.wait p hp).1)
theorem YL.few {E : List Edg} {s t k : Nat} {A all Wt : List (List Nat)} {r : List Nat} (ha : AllR E s t all) (h : YL E s t A r k Wt) : Wt.length ≤ all.length :=
  List.Nodup.length_le_of_subset (h.sort.imp fun hab => hab.ne) (fun p hp => (ha.mem p).2 (h.wait p hp).1)
end Go.Proofs.YtgplpgldhoelcaaGreat

namespace Go.Proofs.YtgplpgldhoelcaaGreat
open Go Go.RowKit
def ext (E : List Edg) (t : Nat) : Nat → Nat → List Nat → List (List Nat)
  | 0, _, _ => []
  | f + 1, v, seen => if v = t then [[]] else (List.range E.length).flatMap fun i => if fN E i = v ∧ tN E i ∉ seen then (ext E t f (tN E i) (seen ++ [tN E i])).map (i :: ·) else []
end Go.Proofs.YtgplpgldhoelcaaGreat

namespace Go.Proofs.YtgplpgldhoelcaaGreat
open Go Go.RowKit
def PathP (lo n f : Nat) (r : Int) (l : List Nat) : Pr := fun u w => ∃ A c, u = .tuple #[.agg #[.slice A n c, .int .u64 (f : Int)], .int .i64 r] ∧ Own w lo 3 1 A n c (nv l)
theorem PathP.lasts (lo n f : Nat) (r : Int) (l : List Nat) : Lasts (PathP lo n f r l) := fun _ _ _ hg ⟨A, c, e, h⟩ => ⟨A, c, e, h.grows hg⟩
def RteP (lo n f : Nat) (l : List Nat) : Pr := fun u w => ∃ A c, u = .agg #[.slice A n c, .int .u64 (f : Int)] ∧ Own w lo 3 1 A n c (nv l)
theorem RteP.lasts (lo n f : Nat) (l : List Nat) : Lasts (RteP lo n f l) := fun _ _ _ hg ⟨A, c, e, h⟩ => ⟨A, c, e, h.grows hg⟩
def BoxP (lo : Nat) (cs : List Value) : Pr := fun u w => ∃ g, u = .pointer (some ⟨g, 0, none⟩) ∧ Arr w g 53 cs ∧ lo ≤ g
theorem BoxP.lasts (lo : Nat) (cs : List Value) : Lasts (BoxP lo cs) := fun _ _ _ hg ⟨g, e, h, l⟩ => ⟨g, e, h.grow hg, l⟩
def IsP (v : Value) : Pr := fun u _ => u = v
theorem IsP.lasts (v : Value) : Lasts (IsP v) := fun _ _ _ _ h => h
end Go.Proofs.YtgplpgldhoelcaaGreat

namespace Go.Proofs.YtgplpgldhoelcaaGreat
open Go Go.RowKit
theorem rtFlat_at : ∀ (rs : List Rt) (i : Nat), (rs.flatMap rtC)[i * 2]? = (rs[i]?).map (fun r => Value.slice r.1 r.2.2.1.length r.2.1) ∧ (rs.flatMap rtC)[i * 2 + 1]? = (rs[i]?).map (fun r => Value.int .u64 (r.2.2.2 : Int))
  | [], i => by simp
  | r :: rs, 0 => by simp [rtC]
  | r :: rs, i + 1 => by
    have h := rtFlat_at rs i
    have e1 : (i + 1) * 2 = i * 2 + 2 := by omega
    rw [List.flatMap_cons, e1]
    have e2 : ∀ j, (rtC r ++ rs.flatMap rtC)[j + 2]? = (rs.flatMap rtC)[j]? := fun j => by
      rw [List.getElem?_append_right (by simp [rtC])]
      simp [rtC]
    rw [e2, show i * 2 + 2 + 1 = (i * 2 + 1) + 2 by omega, e2]
    simpa using h
theorem RtsAt.at {w : World} {B : Nat} {A : Option Addr} {c : Nat} {rs : List Rt} {ps : List (List Nat × Nat)} (h : RtsAt w B A c rs ps) {i : Nat} {r : Rt} (hi : rs[i]? = some r) :
    ∃ g, A = some ⟨g, 0, none⟩ ∧ Holds w ⟨g, i * 2, none⟩ (.slice r.1 r.2.2.1.length r.2.1) ∧ Holds w ⟨g, i * 2 + 1, none⟩ (.int .u64 (r.2.2.2 : Int)) ∧ Own w 0 3 1 r.1 r.2.2.1.length r.2.1 (nv r.2.2.1) := by
  have hl : 0 < rs.length := by
    have := (List.getElem?_eq_some_iff.1 hi).1
    omega
  obtain ⟨g, cur, rfl, _⟩ := h.own.at_ hl
  have h1 := rtFlat_at rs i
  rw [hi] at h1
  exact ⟨g, rfl, ⟨h.own.cell rfl h1.1⟩, ⟨h.own.cell rfl h1.2⟩, h.rows r (List.mem_of_getElem? hi)⟩
set_option maxRecDepth 20000 in
set_option maxHeartbeats 4000000 in
theorem r8RoutesEq (B1 B2 : Nat) (A A2 : Option Addr) (c c2 : Nat) (rs rs2 : List Rt) (ps : List (List Nat × Nat)) (w : World) (h : RtsAt w B1 A c rs ps) (h2 : RtsAt w B2 A2 c2 rs2 ps) (hn : ps.length ≤ 1000000) (hl : ∀ p, p ∈ ps → p.1.length ≤ 1000000) :
    Calls Tryz.prog 21 #[.slice A rs.length c, .slice A2 rs2.length c2] w fun e w' => e = .returned (.bool true) ∧ Grows w w' := by
  have e1 := h.len
  have e2 := h2.len
  have HH := hide h
  have HH2 := hide h2
  have HL := hide hl
  rw [e1, e2]
  have E1 := hide e1
  have E2 := hide e2
  clear h h2 hl e1 e2
  obtain ⟨n, hnn⟩ : ∃ n, ps.length = n := ⟨_, rfl⟩
  rw [hnn] at hn E1 E2 ⊢
  have HN := hide hnn
  clear hnn
  go_enter Tryz.func21, Tryz.ntmps21
  go_wp2_with fail
  go_loopw [5] (fun i wr => ∃ k : Nat, k ≤ n ∧ i = .int .i64 (k : Int) ∧ (∃ x : Later w, wr = x.now)) (fun i _ => n - (intOf i).toNat)
  case atStart => exact ⟨0, by omega, by go_num, ⟨⟨w, Grows.refl w⟩, rfl⟩⟩
  case round =>
    obtain ⟨q, hq, rfl, ⟨x, rfl⟩⟩ := hrel
    by_cases hend : n ≤ q
    · go_wp2_with fail
      go_ret
      exact ⟨rfl, GG⟩
    · obtain ⟨r, hr⟩ : ∃ r, rs[q]? = some r := ⟨rs[q]'(by have := E1.out; omega), by simp⟩
      obtain ⟨r2, hr2⟩ : ∃ r, rs2[q]? = some r := ⟨rs2[q]'(by have := E2.out; omega), by simp⟩
      have hp : ps[q]? = some (r.2.2.1, r.2.2.2) := by rw [← HH.out.eqs, List.getElem?_map, hr]; rfl
      have hp2 : ps[q]? = some (r2.2.2.1, r2.2.2.2) := by rw [← HH2.out.eqs, List.getElem?_map, hr2]; rfl
      rw [hp] at hp2
      injection hp2 with hp2
      injection hp2 with hp3 hp4
      have hlr := HL.out _ (List.mem_of_getElem? hp)
      obtain ⟨g, hA, k1, k2, o1⟩ := HH.out.at hr
      obtain ⟨g2, hA2, m1, m2, o2⟩ := HH2.out.at hr2
      subst hA hA2
      obtain ⟨A8, c8, l8, f8⟩ := r
      obtain ⟨A9, c9, l9, f9⟩ := r2
      simp only at hp3 hp4 k1 k2 m1 m2 o1 o2 hlr
      subst hp3 hp4
      have e9 : nv l8 = (l8.map fun (i : Nat) => (i : Int)).map (.int .i64) := by unfold nv; rw [List.map_map]; rfl
      have C1 := hide (fun (W1 : World) (g : Grows w W1) => show Calls Tryz.prog 24 #[.agg #[.slice A8 l8.length c8, .int .u64 (f8 : Int)], .agg #[.slice A9 l8.length c9, .int .u64 (f8 : Int)]] W1 fun e w' => e = .returned (.int .i64 0) ∧ Grows W1 w' from by
        have h1 := o1.rd.grows g
        have h2 := o2.rd.grows g
        rw [e9] at h1 h2
        exact r8CmpEq A8 l8.length c8 _ A9 c9 f8 W1 h1 hlr h2)
      clear hp hr hr2 o1 o2 e9 hlr
      go_wp2_with fail
      ((first | refine wp_region_gen2 (by kernel_rfl) (by kernel_rfl) ?_ | refine wp_region_gen (by kernel_rfl) (by kernel_rfl) ?_); (repeat' ((first | refine gLex_val0 rfl (by kernel_rfl) (fun K hK => ?_) | refine gLex_undef rfl rfl rfl (by kernel_rfl) (fun K hK => ?_) | (refine gLex_ask rfl rfl rfl ?_; first | (apply gAsk_yes; kernel_rfl; intro K hK) | ((first | apply gAsk_no1 | apply gAsk_no2); kernel_rfl; intro K hK) | (apply gAsk_part; kernel_rfl; all_goals (intro h K hK; (try simp only [Bool.not_true] at h); (try simp only [Bool.not_false] at h); (try simp only [decide_eq_true_eq] at h); (try simp only [decide_eq_false_iff_not] at h); try (exfalso; first | contradiction | omega))))) <;> (go_simp; (try (simp only [↓IntWalk.iteOmega]; try go_simp)); (try simp (disch := omega) only [IntWalk.i64_in]); (try simp (disch := omega) only [IntWalk.u64_in]); first | (refine hK _ ?_; clear hK K) | (apply Exists.intro; refine ⟨fun x => ?_, hK _ ?_⟩; (first | (go_at_call 24; exact C1.out _ GG)); clear hK K)))); all_goals ((apply gLex_end); intro y))
      go_wp2_with fail
      go_roundw
      case measure => simp [intOf]; omega
      case rel => exact ⟨q + 1, by omega, by go_num, ⟨⟨_, GG⟩, rfl⟩⟩
end Go.Proofs.YtgplpgldhoelcaaGreat

namespace Go.Proofs.YtgplpgldhoelcaaGreat
open Go Go.RowKit
attribute [local go_sem] Oper.semAt_some
def gL (W : List (List Nat)) (j : Nat) : List Nat := W.getD j []
theorem gL_at {W : List (List Nat)} {j : Nat} (h : j < W.length) : gL W j = W[j] := by simp [gL, h]
def rtW (E : List Edg) (W : List (List Nat)) : List (List Nat × Nat) := W.map fun p => (p, wE E p)
theorem RtsAt.way {w : World} {B : Nat} {A : Option Addr} {c : Nat} {rs : List Rt} {E : List Edg} {W : List (List Nat)} (h : RtsAt w B A c rs (rtW E W)) {i : Nat} (hi : i < W.length) :
    ∃ g Ar cr, A = some ⟨g, 0, none⟩ ∧ rs[i]? = some (Ar, cr, gL W i, wE E (gL W i)) ∧ Holds w ⟨g, i * 2, none⟩ (.slice Ar (gL W i).length cr) ∧ Holds w ⟨g, i * 2 + 1, none⟩ (.int .u64 (wE E (gL W i) : Int)) ∧ Own w 0 3 1 Ar (gL W i).length cr (nv (gL W i)) := by
  rw [gL_at hi]
  have hl : i < rs.length := by rw [h.len]; simpa [rtW] using hi
  obtain ⟨r, hr⟩ : ∃ r, rs[i]? = some r := ⟨rs[i], by simp⟩
  obtain ⟨g, rfl, h1, h2, h3⟩ := h.at hr
  have h4 : (rtW E W)[i]? = some (r.2.2.1, r.2.2.2) := by rw [← h.eqs, List.getElem?_map, hr]; rfl
  rw [rtW, List.getElem?_map, List.getElem?_eq_getElem hi] at h4
  injection h4 with h4
  injection h4 with h5 h6
  obtain ⟨Ar, cr, l, f⟩ := r
  simp only at h1 h2 h3 h5 h6
  subst h5 h6
  exact ⟨g, Ar, cr, rfl, hr, h1, h2, h3⟩
end Go.Proofs.YtgplpgldhoelcaaGreat

namespace Go.Proofs.YtgplpgldhoelcaaGreat
open Go Go.RowKit
attribute [local go_sem] Oper.semAt_some
structure YnAt (w : World) (b N : Nat) (E : List Edg) (s t : Nat) (Ag : Option Addr) (cg : Nat) (At : Option Addr) (ct : Nat) (rsT : List Rt) (T : List (List Nat)) (Aw : Option Addr) (cw : Nat) (rsW : List Rt) (W : List (List Nat)) : Prop where
  box : Arr w b 130 [.int .i64 (N : Int), .slice Ag E.length cg, .int .i64 (s : Int), .int .i64 (t : Int), .slice At rsT.length ct, .slice Aw rsW.length cw]
  gr : Own w 0 84 3 Ag E.length cg (esCells E)
  told : RtsAt w 0 At ct rsT (rtW E T)
  waits : RtsAt w 0 Aw cw rsW (rtW E W)
  sep : ∀ p q, At = some p → Aw = some q → p.block ≠ q.block
theorem RtsAt.touch {w w' : World} {B : Nat} {A : Option Addr} {c : Nat} {rs : List Rt} {ps : List (List Nat × Nat)} {S : Nat → Prop} (h : RtsAt w B A c rs ps) (ht : Touch S w w') (h1 : ∀ p, A = some p → ¬ S p.block) (h2 : ∀ r, r ∈ rs → ∀ p, r.1 = some p → ¬ S p.block) : RtsAt w' B A c rs ps :=
  ⟨h.own.touch ht h1, fun r hr => (h.rows r hr).touch ht (h2 r hr), h.eqs⟩
theorem Own.not_own {w : World} {B B2 n c size n2 c2 size2 : Nat} {e t : TypeId} {A A2 : Option Addr} {xs ys : List Value} (h : Own w B e size A n c xs) (k : Own w B2 t size2 A2 n2 c2 ys) (hne : e ≠ t) : ∀ p q, A = some p → A2 = some q → p.block ≠ q.block := by
  rintro p q rfl rfl he
  have h1 := (h.ty p rfl).2
  have h2 := (k.ty q rfl).2
  rw [he] at h1
  exact hne (h1.one h2)
theorem Own.ltB {w : World} {B n c size : Nat} {e : TypeId} {A : Option Addr} {xs : List Value} (h : Own w B e size A n c xs) : ∀ p, A = some p → p.block < w.heap.size := fun p hp => by
  subst hp
  exact (World.ownsRow.lt h p.block rfl).2
theorem YnAt.grow {w w' : World} {b N : Nat} {E : List Edg} {s t : Nat} {Ag : Option Addr} {cg : Nat} {At : Option Addr} {ct : Nat} {rsT : List Rt} {T : List (List Nat)} {Aw : Option Addr} {cw : Nat} {rsW : List Rt} {W : List (List Nat)} (h : YnAt w b N E s t Ag cg At ct rsT T Aw cw rsW W) (hg : Grows w w') : YnAt w' b N E s t Ag cg At ct rsT T Aw cw rsW W :=
  ⟨h.box.grow hg, h.gr.grows hg, h.told.grows hg, h.waits.grows hg, h.sep⟩
theorem YnAt.touch {w w' : World} {b N : Nat} {E : List Edg} {s t : Nat} {Ag : Option Addr} {cg : Nat} {At : Option Addr} {ct : Nat} {rsT : List Rt} {T : List (List Nat)} {Aw : Option Addr} {cw : Nat} {rsW : List Rt} {W : List (List Nat)} {S : Nat → Prop} (h : YnAt w b N E s t Ag cg At ct rsT T Aw cw rsW W) (ht : Touch S w w') (hb : ¬ S b) (hg : ∀ p, Ag = some p → ¬ S p.block) (h1 : ∀ p, At = some p → ¬ S p.block) (h2 : ∀ p, Aw = some p → ¬ S p.block) (h3 : ∀ r, (r ∈ rsT ∨ r ∈ rsW) → ∀ p, r.1 = some p → ¬ S p.block) : YnAt w' b N E s t Ag cg At ct rsT T Aw cw rsW W :=
  ⟨h.box.touch ht hb, h.gr.touch ht hg, h.told.touch ht h1 (fun r hr => h3 r (.inl hr)), h.waits.touch ht h2 (fun r hr => h3 r (.inr hr)), h.sep⟩
theorem rts_ins {E : List Edg} {W : List (List Nat)} {rs : List Rt} {Ar : Option Addr} {cr k : Nat} {l : List Nat} (he : rs.map (fun r => (r.2.2.1, r.2.2.2)) = rtW E W) (hk : k ≤ rs.length) :
    (rs.take k ++ (Ar, cr, l, wE E l) :: rs.drop k).flatMap rtC = (rs.flatMap rtC).take (k * 2) ++ [.slice Ar l.length cr, .int .u64 (wE E l : Int)] ++ (rs.flatMap rtC).drop (k * 2) ∧
    (rs.take k ++ (Ar, cr, l, wE E l) :: rs.drop k).map (fun r => (r.2.2.1, r.2.2.2)) = rtW E (W.take k ++ l :: W.drop k) := by
  have hfl : ∀ q : List Rt, (q.flatMap rtC).length = q.length * 2 := fun q => by
    induction q with
    | nil => rfl
    | cons a q ih => rw [List.flatMap_cons, List.length_append, ih, List.length_cons, show (rtC a).length = 2 from rfl]; omega
  constructor
  · have e1 : rs.flatMap rtC = (rs.take k).flatMap rtC ++ (rs.drop k).flatMap rtC := by rw [← List.flatMap_append, List.take_append_drop]
    have l1 : ((rs.take k).flatMap rtC).length = k * 2 := by rw [hfl, List.length_take, Nat.min_eq_left hk]
    rw [e1, List.take_left' l1, List.drop_left' l1, List.flatMap_append, List.flatMap_cons]
    simp [rtC]
  · rw [List.map_append, List.map_cons, List.map_take, List.map_drop, he]
    simp [rtW, List.map_take, List.map_drop]
theorem YnAt.put {w w1 w2 : World} {b N : Nat} {E : List Edg} {s t : Nat} {Ag : Option Addr} {cg : Nat} {At : Option Addr} {ct : Nat} {rsT : List Rt} {T : List (List Nat)} {Aw : Option Addr} {cw : Nat} {rsW : List Rt} {W : List (List Nat)} {Ar : Option Addr} {cr k : Nat} {l : List Nat} {Aw' : Option Addr} {cw' : Nat}
    (h : YnAt w b N E s t Ag cg At ct rsT T Aw cw rsW W) (hg : Grows w w1) (hr : Own w 0 3 1 Ar l.length cr (nv l)) (hk : k ≤ rsW.length)
    (ho : Own w2 0 53 2 Aw' (rsW.length + 1) cw' ((rsW.flatMap rtC).take (k * 2) ++ [.slice Ar l.length cr, .int .u64 (wE E l : Int)] ++ (rsW.flatMap rtC).drop (k * 2))) (ht : Touch (fun j => ∃ p, Aw = some p ∧ p.block = j) w1 w2) (hn : ∀ p, Aw' = some p → (∃ q, Aw = some q ∧ q.block = p.block) ∨ New w1 w2 p.block) :
    ∃ rsW', rsW'.length = rsW.length + 1 ∧ YnAt (w2.setCell ⟨b, 5, none⟩ (.slice Aw' (rsW.length + 1) cw')) b N E s t Ag cg At ct rsT T Aw' cw' rsW' (W.take k ++ l :: W.drop k) ∧ Touch (fun j => j = b ∨ ∃ p, Aw = some p ∧ p.block = j) w (w2.setCell ⟨b, 5, none⟩ (.slice Aw' (rsW.length + 1) cw')) ∧ (∀ p, Aw' = some p → (∃ q, Aw = some q ∧ q.block = p.block) ∨ New w (w2.setCell ⟨b, 5, none⟩ (.slice Aw' (rsW.length + 1) cw')) p.block) := by
  obtain ⟨i1, i2⟩ := rts_ins (Ar := Ar) (cr := cr) (l := l) h.waits.eqs hk
  have hlen : (rsW.take k ++ (Ar, cr, l, wE E l) :: rsW.drop k).length = rsW.length + 1 := by simp; omega
  have h1 := h.grow hg
  have nb : ∀ p, Aw = some p → p.block ≠ b := fun p hp => h1.waits.own.not_arr h1.box (by decide) p hp
  have ni : ∀ {B n c : Nat} {A : Option Addr} {xs : List Value}, Own w1 B 3 1 A n c xs → ∀ p, A = some p → ¬ ∃ q, Aw = some q ∧ q.block = p.block := fun ho p hp ⟨q, hq, he⟩ => ho.not_own h1.waits.own (by decide) p q hp hq he.symm
  have hbox : Arr w2 b 130 [.int .i64 (N : Int), .slice Ag E.length cg, .int .i64 (s : Int), .int .i64 (t : Int), .slice At rsT.length ct, .slice Aw rsW.length cw] := h1.box.touch ht (fun ⟨p, hp, he⟩ => nb p hp he)
  have ho' : ∀ {B n c size : Nat} {e : TypeId} {A : Option Addr} {xs : List Value}, Own w2 B e size A n c xs → e ≠ 130 → Own (w2.setCell ⟨b, 5, none⟩ (.slice Aw' (rsW.length + 1) cw')) B e size A n c xs := fun ho hne =>
    ho.touch (((Touch.refl (fun j => j = b) w2).set (p := ⟨b, 5, none⟩) (.inl rfl) _)) (fun p hp he => ho.not_arr hbox hne p hp he)
  have row : ∀ r : Rt, Own w1 0 3 1 r.1 r.2.2.1.length r.2.1 (nv r.2.2.1) → Own (w2.setCell ⟨b, 5, none⟩ (.slice Aw' (rsW.length + 1) cw')) 0 3 1 r.1 r.2.2.1.length r.2.1 (nv r.2.2.1) := fun r hr => ho' (hr.touch ht (fun p hp => ni hr p hp)) (by decide)
  refine ⟨_, hlen, ⟨?_, ho' (h1.gr.touch ht (fun p hp ⟨q, hq, he⟩ => h1.gr.not_own h1.waits.own (by decide) p q hp hq he.symm)) (by decide), ⟨?_, fun r hr => row r (h1.told.rows r hr), h1.told.eqs⟩, ⟨?_, fun r hrm => ?_, i2⟩, fun p q hp hq => ?_⟩, ?_, fun p hp => ?_⟩
  · rw [hlen]
    exact hbox.set 5 _
  · exact ho' (h1.told.own.touch ht (fun p hp ⟨q, hq, he⟩ => h1.sep p q hp hq he.symm)) (by decide)
  · rw [hlen, i1]
    exact ho' ho (by decide)
  · rcases List.mem_append.1 hrm with hm | hm
    · exact row r (h1.waits.rows r (List.mem_of_mem_take hm))
    · rcases List.mem_cons.1 hm with hm | hm
      · rw [hm]
        exact row _ (hr.grows hg)
      · exact row r (h1.waits.rows r (List.mem_of_mem_drop hm))
  · rcases hn q hq with ⟨q', h3, h4⟩ | h3
    · rw [← h4]
      exact h.sep p q' hp h3
    · have := h1.told.own.ltB p hp
      have h4 := h3.1
      omega
  · exact ((hg.touch _).trans (ht.mono (fun j hj => .inr hj))).set (.inl (.inl rfl)) _
  · rcases hn p hp with h3 | h3
    · exact .inl h3
    · refine .inr ⟨Nat.le_trans hg.size h3.1, ?_⟩
      rw [size_setCell]
      exact h3.2
end Go.Proofs.YtgplpgldhoelcaaGreat

namespace Go.Proofs.YtgplpgldhoelcaaGreat
open Go Go.RowKit
attribute [local go_sem] Oper.semAt_some
theorem RtsAt.box {w w' : World} {B b : Nat} {A : Option Addr} {c : Nat} {rs : List Rt} {ps : List (List Nat × Nat)} {t : TypeId} {cs : List Value} (h : RtsAt w B A c rs ps) (k : Arr w b t cs) (ht0 : 3 ≠ t) (hb : b < B) (ht : Touch (fun k => k = b) w w') : RtsAt w' B A c rs ps :=
  ⟨h.own.noBox (fun k hk => by omega) ht, fun r hr => (h.rows r hr).touch ht (fun p hp e => (h.rows r hr).not_arr k ht0 p hp e), h.eqs⟩
theorem RtsAt.more {B : Nat} {w w1 w2 : World} {ps : List (List Nat × Nat)} {A A' Ar : Option Addr} {c c' cr : Nat} {rs : List Rt} {r : List Nat} {f : Nat} (ho : RtsAt w B A c rs ps) (hg : Grows w w1) (hr : Own w1 0 3 1 Ar r.length cr (nv r))
    (hO : Own w2 B 53 2 A' (rs.length + 1) c' (rs.flatMap rtC ++ [.slice Ar r.length cr, .int .u64 (f : Int)])) (hT : Touch (fun k => ∃ p, A = some p ∧ p.block = k) w1 w2) :
    RtsAt w2 B A' c' (rs ++ [(Ar, cr, r, f)]) (ps ++ [(r, f)]) := by
  have ho1 := ho.grows hg
  refine ⟨?_, fun x hx => ?_, ?_⟩
  · rw [List.length_append, List.length_singleton, List.flatMap_append]
    exact hO
  · rcases List.mem_append.1 hx with hx | hx
    · exact (ho1.rows x hx).touch hT (fun p hp ⟨q, hq, e⟩ => (ho1.rows x hx).not_own ho1.own (by decide) p q hp hq e.symm)
    · rw [List.mem_singleton.1 hx]
      exact hr.touch hT (fun p hp ⟨q, hq, e⟩ => hr.not_own ho1.own (by decide) p q hp hq e.symm)
  · rw [List.map_append, ho.eqs]
    rfl
structure TrI (B b : Nat) (W P : Nat → List Nat) (V : Nat → Nat) (k : Nat) (wr : World) (A8 : Option Addr) (c8 : Nat) (rs : List Rt) (Al : Option Addr) (cl : Nat) (Aw : Option Addr) (cw : Nat) : Prop where
  box : Arr wr b 53 [.slice Al (P k).length cl, .int .u64 (V k : Int)]
  last : Own wr 0 3 1 Al (P k).length cl (nv (P k))
  wts : Own wr 0 41 1 Aw (W k).length cw (wv (W k))
  out : RtsAt wr B A8 c8 rs (pthK (fun j => (P j, V j)) (k + 1))
  lt : B ≤ wr.heap.size
structure TrJ (B b : Nat) (W P : Nat → List Nat) (V : Nat → Nat) (k : Nat) (v : Value) (wr : World) (A8 : Option Addr) (c8 : Nat) (rs : List Rt) (Al : Option Addr) (cl : Nat) (Aw : Option Addr) (cw : Nat) : Prop where
  box : Arr wr b 53 [.slice Al (P (k + 1)).length cl, v]
  last : Own wr 0 3 1 Al (P (k + 1)).length cl (nv (P (k + 1)))
  wts : Own wr 0 41 1 Aw (W (k + 1)).length cw (wv (W (k + 1)))
  out : RtsAt wr B A8 c8 rs (pthK (fun j => (P j, V j)) (k + 1))
  lt : B ≤ wr.heap.size
  bB : b < B
section
variable {B b k c8 cl cw cl' cw' : Nat} {W P : Nat → List Nat} {V : Nat → Nat} {y z X w8 : World} {A8 Al Aw Al' Aw' : Option Addr} {rs : List Rt} {v v' : Value}
theorem TrI.next (h : TrI B b W P V k y A8 c8 rs Al cl Aw cw) (hb : b < B) (hg : Grows y z) (hl : Own z 0 3 1 Al' (P (k + 1)).length cl' (nv (P (k + 1)))) (hw : Own z 0 41 1 Aw' (W (k + 1)).length cw' (wv (W (k + 1))))
    (hx : Arr X b 53 [.slice Al' (P (k + 1)).length cl', v]) (ht : Touch (fun j => j = b) z X) : TrJ B b W P V k v X A8 c8 rs Al' cl' Aw' cw' := by
  have a := h.box.grow hg
  exact ⟨hx, hl.touch ht (fun p hp e => hl.not_arr a (by decide) p hp e), hw.touch ht (fun p hp e => hw.not_arr a (by decide) p hp e), (h.out.grows hg).box a (by decide) hb ht, Nat.le_trans h.lt (Nat.le_trans hg.size ht.size), hb⟩
theorem TrJ.again (h : TrJ B b W P V k v y A8 c8 rs Al cl Aw cw) (hg : Grows y z) (hx : Arr X b 53 [.slice Al (P (k + 1)).length cl, v']) (ht : Touch (fun j => j = b) z X) : TrJ B b W P V k v' X A8 c8 rs Al cl Aw cw := by
  have a := h.box.grow hg
  have hl := h.last.grows hg
  have hw := h.wts.grows hg
  exact ⟨hx, hl.touch ht (fun p hp e => hl.not_arr a (by decide) p hp e), hw.touch ht (fun p hp e => hw.not_arr a (by decide) p hp e), (h.out.grows hg).box a (by decide) h.bB ht, Nat.le_trans h.lt (Nat.le_trans hg.size ht.size), h.bB⟩
theorem TrJ.app (h : TrJ B b W P V k (.int .u64 (V (k + 1) : Int)) y A8 c8 rs Al cl Aw cw) (hg : Grows y z) {A9 : Option Addr} {c9 : Nat}
    (hO : Own w8 B 53 2 A9 (rs.length + 1) c9 (rs.flatMap rtC ++ [.slice Al (P (k + 1)).length cl, .int .u64 (V (k + 1) : Int)])) (ht : Touch (fun j => ∃ p, A8 = some p ∧ p.block = j) z w8) :
    TrI B b W P V (k + 1) w8 A9 c9 (rs ++ [(Al, cl, P (k + 1), V (k + 1))]) Al cl Aw cw := by
  have a := h.box.grow hg
  have hl := h.last.grows hg
  have hw := h.wts.grows hg
  have ho := h.out.grows hg
  refine ⟨a.touch ht (fun ⟨p, hp, e⟩ => ?_), hl.touch ht (fun p hp ⟨q, hq, e⟩ => hl.not_own ho.own (by decide) p q hp hq e.symm), hw.touch ht (fun p hp ⟨q, hq, e⟩ => hw.not_own ho.own (by decide) p q hp hq e.symm), ?_, Nat.le_trans h.lt (Nat.le_trans hg.size ht.size)⟩
  · have h1 := (ho.own.ty p hp).1
    have h2 := h.bB
    omega
  · rw [pthK_succ]
    exact h.out.more hg hl hO ht
end
def GiveTr (w : World) (po : Bool) (r R : Int) (P : Nat → List Nat) (V : Nat → Nat) (e : Ending) (w' : World) : Prop :=
  if po = false then e = .returned (.tuple #[.slice none 0 0, .int .i64 1]) ∧ Grows w w' else if r ≠ 0 then e = .returned (.tuple #[.slice none 0 0, .int .i64 r]) ∧ Grows w w' else ∃ A c rs, e = .returned (.tuple #[.slice A rs.length c, .int .i64 0]) ∧ RtsAt w' w.heap.size A c rs (pthK (fun j => (P j, V j)) (R.toNat + 1)) ∧ Grows w w'
set_option maxRecDepth 20000 in
set_option maxHeartbeats 16000000 in
theorem penTries (N s t : Int) (A : Option Addr) (c : Nat) (E : List Edg) (o : PO) (W P : Nat → List Nat) (V : Nat → Nat) (r : Int) (w : World) (h : Rd w A 3 E.length (esCells E)) (hE : E.length ≤ 1000000) (hT : TrOk N s t E o.f1 o.f2 W P V) (hr : IsPath E (freeO []) N s t (P 0) (V 0) r) :
    Calls Tryz.prog 38 #[.agg #[.int .i64 N, .slice A E.length c], .int .i64 s, .int .i64 t, poV o] w (GiveTr w (poB o) r o.r P V) := by
  have h0 : Rd w none 1 0 [] := ⟨by simp, fun h => absurd h (by simp)⟩
  have hw0 : Rd w none 1 0 (wv []) := ⟨by simp [wv], fun h => absurd h (by simp)⟩
  have C1 := hide (fun (X : World) => penRight o X)
  have C2 := hide (fun (X : World) (g : Grows w X) => show Calls Tryz.prog 79 #[.agg #[.int .i64 N, .slice A E.length c], .int .i64 s, .int .i64 t, .agg #[.bool false, .slice none 0 0, .slice none 0 0, .slice none 0 0, .int .u64 0]] X fun e w' =>
      ∃ A' c', e = .returned (.tuple #[.agg #[.slice A' (P 0).length c', .int .u64 (V 0 : Int)], .int .i64 r]) ∧ Own w' X.heap.size 3 1 A' (P 0).length c' (nv (P 0)) ∧ Grows X w' from
    caPath N s t A c E (freeO []) none none none 0 0 0 (P 0) (V 0) r X (h.grows g) (h0.grows g) (h0.grows g) (hw0.grows g) hE (show (0 : Nat) ≤ 1000000 by omega) hr)
  have C3 := hide (fun (X : World) (g : Grows w X) => show Calls Tryz.prog 86 #[.agg #[.int .i64 N, .slice A E.length c], .agg #[.bool false, .slice none 0 0, .slice none 0 0, .slice none 0 0, .int .u64 0]] X fun e w' => ∃ A' c', e = .returned (.slice A' (W 0).length c') ∧ Own w' X.heap.size 41 1 A' (W 0).length c' (wv (W 0)) ∧ Grows X w' from by
    rw [hT.w0]
    exact djWeights N A E.length c E false (.slice none 0 0) (.slice none 0 0) none 0 0 0 [] X (h.grows g) (hw0.grows g) hE (by omega))
  have C4 := hide (fun (k : Nat) (X : World) (Aw Al : Option Addr) (cw cl : Nat) (h1 : Rd X Aw 1 (W k).length (wv (W k))) (h2 : Rd X Al 1 (P k).length (nv (P k))) => show Calls Tryz.prog 45 #[.slice Aw (W k).length cw, .slice Al (P k).length cl, .agg #[.int .u64 o.f1, .int .u64 o.f2]] X fun e w' => ∃ A' c', e = .returned (.slice A' (W (k + 1)).length c') ∧ Own w' X.heap.size 41 1 A' (W (k + 1)).length c' (wv (W (k + 1))) ∧ Grows X w' from by
    rw [hT.ws]
    exact penRaise Aw _ cw (W k) Al _ cl (icL (P k)) o.f1 o.f2 X h1 (by have := hT.wlen k; omega) (by rw [← icL_nv]; exact h2) (by have := hT.short k; omega) (hT.wbound k))
  have C5 := hide (fun (k : Nat) (X : World) (g : Grows w X) (Aw : Option Addr) (cw : Nat) (h1 : Rd X Aw 1 (W (k + 1)).length (wv (W (k + 1)))) => show Calls Tryz.prog 79 #[.agg #[.int .i64 N, .slice A E.length c], .int .i64 s, .int .i64 t, .agg #[.bool false, .slice none 0 0, .slice none 0 0, .slice Aw (W (k + 1)).length cw, .int .u64 0]] X fun e w' =>
      ∃ A' c' f' r', e = .returned (.tuple #[.agg #[.slice A' (P (k + 1)).length c', .int .u64 f'], .int .i64 r']) ∧ Own w' X.heap.size 3 1 A' (P (k + 1)).length c' (nv (P (k + 1))) ∧ Grows X w' from by
    obtain ⟨f', r', hp⟩ := hT.ps k
    exact (caPath N s t A c E (freeO (W (k + 1))) none none Aw 0 0 cw (P (k + 1)) f' r' X (h.grows g) (h0.grows g) (h0.grows g) h1 hE (show (W (k + 1)).length ≤ 1000000 by have := hT.wlen (k + 1); omega) hp).mono (fun e w' hh => by
      obtain ⟨A', c', e1, e2, e3⟩ := hh
      exact ⟨A', c', (f' : Int), r', e1, e2, e3⟩))
  have C6 := hide (fun (k : Nat) (X : World) (g : Grows w X) (Al : Option Addr) (cl : Nat) (h2 : Rd X Al 1 (P (k + 1)).length (nv (P (k + 1)))) => show Calls Tryz.prog 87 #[.agg #[.int .i64 N, .slice A E.length c], .slice Al (P (k + 1)).length cl] X fun e w' => e = .returned (.tuple #[.int .u64 (V (k + 1) : Int), .bool (edgesB N E (icL (P (k + 1))))]) ∧ Grows X w' from by
    rw [hT.vs]
    exact pWeight N A E.length c E Al _ cl (icL (P (k + 1))) X (h.grows g) hE (by rw [← icL_nv]; exact h2) (by have := hT.short (k + 1); omega))
  have hR : poB o = true → 0 ≤ o.r ∧ o.r ≤ 100 := fun hp => by
    unfold poB inB at hp
    simp only [Bool.and_eq_true, decide_eq_true_eq] at hp
    omega
  have HSH := hide (fun k => hT.short k)
  have HR := hide hR
  clear hT hr h h0 hw0 hE hR
  have e2_ : r ≠ 0 → ∀ e w', (e = .returned (.tuple #[.slice none 0 0, .int .i64 r]) ∧ Grows w w') → GiveTr w true r o.r P V e w' := fun h e w' hh => by unfold GiveTr; rw [if_neg (by decide), if_pos h]; exact hh
  have e3_ : r = 0 → ∀ e w', (∃ A c rs, e = .returned (.tuple #[.slice A rs.length c, .int .i64 0]) ∧ RtsAt w' w.heap.size A c rs (pthK (fun j => (P j, V j)) (o.r.toNat + 1)) ∧ Grows w w') → GiveTr w true r o.r P V e w' := fun h e w' hh => by unfold GiveTr; rw [if_neg (by decide), if_neg (by omega)]; exact hh
  have E2 := hide e2_
  have E3 := hide e3_
  clear e2_ e3_
  generalize poB o = po at *
  generalize E.length = m at *
  obtain ⟨ok_, or_, f1, f2, a1, a2, e1, e2, g1, g2⟩ := o
  unfold poV at C1 ⊢
  dsimp only at C1 C4 HR E2 E3 ⊢
  cases po with
  | false =>
    go_enter Tryz.func38, Tryz.ntmps38
    go_wp2_with (go_at_call 40; refine (C1.out _).mono ?_; rintro e w' ⟨rfl, hg⟩; obtain ⟨x1, rfl⟩ := hg.later; clear hg)
    refine bodyPost_ret (v := .tuple #[.slice none 0 0, .int .i64 1]) (by simp (maxDischargeDepth := 6) [results, Tryz.results38, go_sem, *]) rfl ?_
    show GiveTr w false _ _ _ _ _ _
    unfold GiveTr
    rw [if_pos rfl]
    exact ⟨rfl, GG⟩
  | true =>
  obtain ⟨hr1, hr2⟩ := HR.out rfl
  obtain ⟨R, rfl⟩ : ∃ R : Nat, or_ = (R : Int) := ⟨or_.toNat, by omega⟩
  clear HR
  go_enter Tryz.func38, Tryz.ntmps38
  go_upto_region 1 with fail
  obtain ⟨w0, hw0⟩ : ∃ W, W = (w.alloc (.cells #[.int .i64 N, .slice A m c] 35)).alloc (.cells #[.int .i64 ok_, .int .i64 (R : Int), .int .u64 f1, .int .u64 f2, .int .u64 a1, .int .u64 a2, .int .u64 e1, .int .u64 e2, .int .u64 g1, .int .u64 g2] 73) := ⟨_, rfl⟩
  have hg0 : Grows w w0 := by rw [hw0]; exact ((Grows.refl _).new _).new _
  have a4 : Arr w0 w.heap.size 35 [.int .i64 N, .slice A m c] := by rw [hw0]; exact (Arr.make w _ _).grow ((Grows.refl _).new _)
  have a7 : Arr w0 (w.heap.size + 1) 73 [.int .i64 ok_, .int .i64 (R : Int), .int .u64 f1, .int .u64 f2, .int .u64 a1, .int .u64 a2, .int .u64 e1, .int .u64 e2, .int .u64 g1, .int .u64 g2] := by
    rw [hw0]
    have h := Arr.make (w.alloc (.cells #[.int .i64 N, .slice A m c] 35)) [.int .i64 ok_, .int .i64 (R : Int), .int .u64 f1, .int .u64 f2, .int .u64 a1, .int .u64 a2, .int .u64 e1, .int .u64 e2, .int .u64 g1, .int .u64 g2] 73
    have e : (w.alloc (.cells #[.int .i64 N, .slice A m c] 35)).heap.size = w.heap.size + 1 := by simp
    rwa [e] at h
  rw [← hw0]
  clear hw0
  generalize w.heap.size + 1 = b7 at *
  obtain ⟨b4, hb4⟩ : ∃ b, b = w.heap.size := ⟨_, rfl⟩
  rw [← hb4] at a4 ⊢
  have hsw := hg0.size
  clear hb4
  have m6 := a7.mine 6 rfl
  have m7 := a7.mine 7 rfl
  have m8 := a7.mine 8 rfl
  have m9 := a7.mine 9 rfl
  go_upto_region 4 with (first
    | (go_at_call 40; refine (C1.out _).mono ?_; rintro e w' ⟨rfl, hg⟩; obtain ⟨x1, rfl⟩ := hg.later; clear hg)
    | (go_at_call 79; refine (C2.out _ (hg0.trans GG)).mono ?_; rintro e w' ⟨A1, c1, rfl, ho, hg⟩; obtain ⟨x2, rfl⟩ := hg.later; have HO := hide ho; clear hg ho))
  obtain ⟨wb, hwb⟩ : ∃ W, W = x2.now.alloc (.cells #[.slice A1 (P 0).length c1, .int .u64 (V 0 : Int)] 53) := ⟨_, rfl⟩
  have g2b : Grows x2.now wb := by rw [hwb]; exact (Grows.refl _).new _
  have hg2 : Grows w0 x2.now := GG
  have hgb : Grows w0 wb := hg2.trans g2b
  have a10 : Arr wb x2.now.heap.size 53 [.slice A1 (P 0).length c1, .int .u64 (V 0 : Int)] := by rw [hwb]; exact Arr.make _ _ _
  have hO1 : Own wb 0 3 1 A1 (P 0).length c1 (nv (P 0)) := (HO.out.base (Nat.zero_le _)).grows g2b
  have hb1 : x2.now.heap.size < wb.heap.size := by rw [hwb]; simp
  have hb2 : w0.heap.size ≤ x2.now.heap.size := hg2.size
  rw [← hwb]
  clear hwb HO C2
  generalize x2.now.heap.size = b10 at *
  clear g2b hg2 x2
  have kb0 := a10.mine 0 rfl
  have kb1 := a10.mine 1 rfl
  obtain ⟨xb, rfl⟩ := hgb.later
  by_cases hr : r = 0
  rotate_left
  · have hrb : (r != 0) = true := by simpa using hr
    go_wp2_with fail
    refine bodyPost_ret (v := .tuple #[.slice none 0 0, .int .i64 r]) (by simp (maxDischargeDepth := 6) [results, Tryz.results38, go_sem, *]) rfl ?_
    exact E2.out hr _ _ ⟨rfl, hg0.trans GG⟩
  · subst hr
    have HO1 := hide hO1
    clear hO1
    go_upto_region 8 with (first
      | (go_at_call 86; refine (C3.out _ (hg0.trans GG)).mono ?_; rintro e w' ⟨A2, c2, rfl, ho, hg⟩; obtain ⟨x3, rfl⟩ := hg.later; have HW := hide ho; clear hg ho)
      | (at_builtin; refine wp_appT elemRoute rfl _ _ rfl xb.now.heap.size (show Grows xb.now _ from GG).size 0 0 none [] rfl (Own.nil _ _ _ _) _ _ [.slice A1 (P 0).length c1, .int .u64 (V 0 : Int)] rfl rfl (fun j u hu => by
              match j, hu with
              | 0, hu => simp at hu; subst hu; simp [go_sem]
              | 1, hu => simp at hu; subst hu; simp [go_sem]) (fun u hu => by simp at hu; rcases hu with rfl | rfl <;> rfl) (by omega) ?_; intro A5 c5 w5 hown5 ht5 hn5; have HR5 := hide (RtsAt.more (RtsAt.nil xb.now xb.now.heap.size) (show Grows xb.now _ from GG) (HO1.out.grows (show Grows xb.now _ from GG)) hown5 ht5); have hg5 := ht5.later (show Grows x3.now _ from GG) (fun k hk => by obtain ⟨p, hp, _⟩ := hk; cases hp); obtain ⟨x5, rfl⟩ := hg5.later; clear hown5 ht5 hn5 hg5))
    have HTR := hide (show TrI xb.now.heap.size b10 W P V 0 x5.now A5 c5 [(A1, c1, P 0, V 0)] A1 c1 A2 c2 from ⟨a10.grow GG, HO1.out.grows GG, (HW.out.base (Nat.zero_le _)).grows x5.grows, by rw [pthK_succ]; exact HR5.out, (show Grows xb.now x5.now from GG).size⟩)
    have hg5 : Grows w0 x5.now := GG
    clear a10 kb0 kb1 HO1 HW HR5 C1 C3
    generalize xb.now.heap.size = B at *
    generalize x5.now = w5 at *
    generalize x3.now.heap.size = bq at *
    clear x5
    obtain ⟨y5, rfl⟩ := hg5.later
    go_wp2_with fail
    go_loopw [8, 11, 35] (fun out wt tk wr => ∃ (k : Nat) (A8 : Option Addr) (c8 : Nat) (rs : List Rt) (Al : Option Addr) (cl : Nat) (Aw : Option Addr) (cw : Nat), k ≤ R ∧ tk = .int .i64 (k : Int) ∧ out = .slice A8 rs.length c8 ∧ wt = .slice Aw (W k).length cw ∧ ∃ y : Later w0, wr = y.now ∧ TrI B b10 W P V k y.now A8 c8 rs Al cl Aw cw) (fun _ _ tk _ => R - (Go.RowKit.intOf tk).toNat)
    case atStart => exact ⟨0, A5, c5, _, A1, c1, A2, c2, Nat.zero_le _, by go_num, rfl, rfl, y5, rfl, HTR.out⟩
    case round =>
      clear HTR hg5
      obtain ⟨k, A8, c8, rs, Al, cl, Aw, cw, hk, rfl, rfl, rfl, y, rfl, hI⟩ := hrel
      have hlen : rs.length ≤ 1000000 := by
        have := hI.out.len
        simp [pthK] at this
        omega
      have HI := hide hI
      have a10 := hI.box
      clear hI
      by_cases hlt : k < R
      · have hltb : (decide (k < R)) = true := decide_eq_true hlt
        go_upto_region 11 with (go_at_call 45; refine (C4.out k _ Aw Al cw cl ((HI.out.wts.grows GG).rd) ((HI.out.last.grows GG).rd)).mono ?_; rintro e w' ⟨A2, c2, rfl, ho, hg⟩; obtain ⟨z1, rfl⟩ := hg.later; have HW1 := hide ho; clear hg ho)
        go_upto_region 12 with (go_at_call 79; refine (C5.out k _ (hg0.trans GG) A2 c2 ((HW1.out.grows GG).rd)).mono ?_; rintro e w' ⟨A3, c3, f3, r3, rfl, ho, hg⟩; obtain ⟨z2, rfl⟩ := hg.later; have HL2 := hide ho; clear hg ho)
        obtain ⟨W6, hW6⟩ : ∃ X, X = (z2.now.setCell ⟨b10, 0, none⟩ (.slice A3 (P (k + 1)).length c3)).setCell ⟨b10, 1, none⟩ (.int .u64 f3) := ⟨_, rfl⟩
        have hg6 : Grows w0 W6 := by rw [hW6]; exact GG
        have ht6 : Touch (fun j => j = b10) z2.now W6 := by rw [hW6]; exact ((Touch.refl (fun j => j = b10) z2.now).set (p := ⟨b10, 0, none⟩) (.inl rfl) _).set (p := ⟨b10, 1, none⟩) (.inl rfl) _
        have b6 : Arr W6 b10 53 [.slice A3 (P (k + 1)).length c3, .int .u64 f3] := by rw [hW6]; exact ((a10.grow (show Grows y.now z2.now from GG)).set 0 _).set 1 _
        have HJ := hide (HI.out.next hb1 (show Grows y.now z2.now from GG) ((HL2.out.base (Nat.zero_le _))) ((HW1.out.base (Nat.zero_le _)).grows z2.grows) b6 ht6)
        rw [← hW6]
        clear hW6 ht6 HL2 HW1 HI a10
        obtain ⟨y6, rfl⟩ := hg6.later
        clear hg6
        go_upto_region 13 with (go_at_call 87; refine (C6.out k _ (hg0.trans GG) A3 c3 ((HJ.out.last.grows GG).rd)).mono ?_; rintro e w' ⟨rfl, hg⟩; obtain ⟨z7, rfl⟩ := hg.later; clear hg)
        obtain ⟨W7, hW7⟩ : ∃ X, X = z7.now.setCell ⟨b10, 1, none⟩ (.int .u64 (V (k + 1) : Int)) := ⟨_, rfl⟩
        have hg7 : Grows w0 W7 := by rw [hW7]; exact GG
        have ht7 : Touch (fun j => j = b10) z7.now W7 := by rw [hW7]; exact (Touch.refl (fun j => j = b10) z7.now).set (p := ⟨b10, 1, none⟩) (.inl rfl) _
        have b7' : Arr W7 b10 53 [.slice A3 (P (k + 1)).length c3, .int .u64 (V (k + 1) : Int)] := by rw [hW7]; exact (b6.grow z7.grows).set 1 _
        have HJ7 := hide (HJ.out.again z7.grows b7' ht7)
        rw [← hW7]
        clear hW7 ht7 HJ b6
        obtain ⟨y7, rfl⟩ := hg7.later
        clear hg7
        have q0 := b7'.mine 0 rfl
        have q1 := b7'.mine 1 rfl
        go_wp2_with (at_builtin; refine wp_appT elemRoute rfl _ _ rfl B (Nat.le_trans HJ7.out.lt (show Grows y7.now _ from GG).size) rs.length c8 A8 _ rfl (HJ7.out.out.own.grows (show Grows y7.now _ from GG)) _ _ [.slice A3 (P (k + 1)).length c3, .int .u64 (V (k + 1) : Int)] rfl rfl (fun j u hu => by
              match j, hu with
              | 0, hu => simp at hu; subst hu; simp [go_sem]
              | 1, hu => simp at hu; subst hu; simp [go_sem]) (fun u hu => by simp at hu; rcases hu with rfl | rfl <;> rfl) (by omega) ?_; intro A9 c9 w8 hown8 ht8 hn8; have HT8 := hide (HJ7.out.app (show Grows y7.now _ from GG) hown8 ht8); have hg8 := ht8.later (show Grows w0 _ from GG) (fun j hj => by obtain ⟨p, hp, e⟩ := hj; have := (HJ7.out.out.own.ty p hp).1; omega); obtain ⟨y8, rfl⟩ := hg8.later; clear hown8 ht8 hn8 hg8)
        go_roundw
        case measure => simp [Go.RowKit.intOf]; omega
        case rel => exact ⟨k + 1, A9, c9, _, A3, c3, A2, c2, by omega, by go_num, by rw [List.length_append, List.length_singleton], rfl, y8, rfl, HT8.out⟩
      · obtain rfl : k = R := by omega
        go_wp2_with fail
        refine bodyPost_ret (v := .tuple #[.slice A8 rs.length c8, .int .i64 0]) (by simp (maxDischargeDepth := 6) [results, Tryz.results38, go_sem, *]) rfl ?_
        exact E3.out trivial _ _ ⟨A8, c8, rs, rfl, ⟨HI.out.out.own.base (by omega), HI.out.out.rows, by rw [Int.toNat_natCast]; exact HI.out.out.eqs⟩, hg0.trans GG⟩
end Go.Proofs.YtgplpgldhoelcaaGreat

namespace Go.Proofs.YtgplpgldhoelcaaGreat
open Go Go.RowKit
attribute [local go_sem] Oper.semAt_some
theorem wv_snocT {L : List Nat} {i : Nat} (h : i < L.length) : wv (L.take (i + 1)) = wv (L.take i) ++ [.int .u64 (gn L i : Int)] := by
  unfold wv
  rw [List.take_succ_eq_append_getElem h, List.map_append]
  congr 1
  simp [gn, h]
set_option maxRecDepth 20000 in
set_option maxHeartbeats 8000000 in
theorem r32Raise (A : Option Addr) (n c : Nat) (W : List Nat) (B : Option Addr) (m d : Nat) (l : List Int) (f1 f2 : Int) (w : World) (h : Rd w A 1 n (wv W)) (hn : n ≤ 1000000) (h2 : Rd w B 1 m (l.map (.int .i64))) (hm : m ≤ 1000000) (hW : ∀ i, gn W i < 18446744073709551616) (hu : U64 f1) :
    Calls Tryz.prog 46 #[.slice A n c, .slice B m d, .agg #[.int .u64 f1, .int .u64 f2]] w (GiveU w (raiseL W l f1 f2)) := by
  have hlen : W.length = n := h.wlen
  unfold GiveU
  have hrl : (raiseL W l f1 f2).length = n := by unfold raiseL; rw [rsK_len, hlen]
  rw [hrl]
  have C1 := hide (fun (X : World) (g : Grows w X) (v : Int) => r1Has B m d l v X (h2.grows g) hm)
  have C2 := hide (fun (X : World) => rRight f1 f2 X hu)
  have CU := hide (fun (X : World) (i : Nat) => show Calls Tryz.prog 117 #[.int .u64 (gn W i : Int), .agg #[.int .u64 f1, .int .u64 f2], .int .u64 17592186044416] X fun e w' => e = .returned (.int .u64 (upV (gn W i) f1 f2 maxPen : Int)) ∧ Grows X w' from rUp (gn W i) f1 f2 maxPen (hW i) (by decide) hu X)
  have HR := hide h
  have HLEN := hide hlen
  have HRL := hide hrl
  have HAT := hide (fun (i : Nat) (hi : i < n) => show gn (raiseL W l f1 f2) i = if decide ((i : Int) ∈ l) && rrB f1 f2 then upV (gn W i) f1 f2 maxPen else gn W i from raiseL_at (by rw [hlen]; exact hi))
  obtain ⟨L, hL⟩ : ∃ L, L = raiseL W l f1 f2 := ⟨_, rfl⟩
  rw [← hL] at HRL HAT ⊢
  clear h h2 hlen hrl hW hu hL
  generalize rrB f1 f2 = rr at *
  go_enter Tryz.func46, Tryz.ntmps46
  go_upto_region 1 with fail
  obtain ⟨wg, hwg⟩ : ∃ wg, wg = w.alloc (.cells #[.int .u64 f1, .int .u64 f2] 71) := ⟨_, rfl⟩
  have hgg : Grows w wg := by rw [hwg]; exact (Grows.refl _).new _
  have a1 : Arr wg w.heap.size 71 [.int .u64 f1, .int .u64 f2] := by rw [hwg]; exact Arr.make _ _ _
  rw [← hwg]
  clear hwg
  obtain ⟨b5, hb5⟩ : ∃ b, b = w.heap.size := ⟨_, rfl⟩
  rw [← hb5] at a1 ⊢
  clear hb5
  go_wp2_with fail
  go_loopw [7, 8] (fun out tk wr => ∃ (i : Nat) (A8 : Option Addr) (c8 : Nat), i ≤ n ∧ out = .slice A8 i c8 ∧ tk = .int .i64 (i : Int) ∧ ∃ y : Later wg, wr = y.now ∧ Hid (Own y.now wg.heap.size 41 1 A8 i c8 (wv (L.take i)))) (fun _ tk _ => n - (Go.RowKit.intOf tk).toNat)
  case atStart => exact ⟨0, none, 0, by omega, rfl, by go_num, ⟨wg, Grows.refl _⟩, rfl, hide (Own.nil _ _ _ _)⟩
  case round =>
    obtain ⟨i, A8, c8, hi, rfl, rfl, y, rfl, HO⟩ := hrel
    by_cases hlt : i < n
    · obtain ⟨b, off, rfl, hcW⟩ := (HR.out.grows hgg).natsU (by omega)
      have kW := hcW i hlt
      clear hcW
      have CH := hide (fun (X : World) (g : Grows wg X) => C1.out X (hgg.trans g) (i : Int))
      have CV := hide (fun (X : World) => CU.out X i)
      have HA := hide (HAT.out i hlt)
      have HSN := hide (wv_snocT (L := L) (i := i) (by have := HRL.out; omega))
      generalize decide ((i : Int) ∈ l) = hb at *
      generalize upV (gn W i) f1 f2 maxPen = v at *
      generalize gn W i = x at *
      have hcs : (hb = true ∧ rr = true) ∨ (hb = true ∧ rr = false) ∨ hb = false := by cases hb <;> cases rr <;> simp
      have a2 := a1.grow y.grows
      rcases hcs with ⟨rfl, rfl⟩ | ⟨rfl, rfl⟩ | rfl
      · have HV := hide (show gn L i = v by rw [HA.out]; simp)
        clear HA
        go_wp2_with (first
          | (go_at_call 57; refine (CH.out _ GG).mono ?_; rintro e w' ⟨rfl, rfl⟩)
          | (go_at_call 94; refine (C2.out _).mono ?_; rintro e w' ⟨rfl, hg⟩; obtain ⟨x2, rfl⟩ := hg.later; clear hg)
          | (go_at_call 117; refine (CV.out _).mono ?_; rintro e w' ⟨rfl, hg⟩; obtain ⟨x3, rfl⟩ := hg.later; clear hg)
          | (at_builtin; refine wp_app1 elemU64.elem rfl _ _ rfl wg GG i c8 A8 _ rfl (HO.out.grows (show Grows y.now _ from GG)) _ _ (.int .u64 (v : Int)) rfl inferInstance rfl (by omega) ?_; intro A5 c5 y5 hown5; have HO5 := hide hown5; clear hown5))
        go_roundw
        case measure => simp [Go.RowKit.intOf]; omega
        case rel => exact ⟨i + 1, A5, c5, by omega, rfl, by go_num, y5, rfl, hide (by rw [HSN.out, HV.out]; exact HO5.out)⟩
      · have HV := hide (show gn L i = x by rw [HA.out]; simp)
        clear HA
        go_wp2_with (first
          | (go_at_call 57; refine (CH.out _ GG).mono ?_; rintro e w' ⟨rfl, rfl⟩)
          | (go_at_call 94; refine (C2.out _).mono ?_; rintro e w' ⟨rfl, hg⟩; obtain ⟨x2, rfl⟩ := hg.later; clear hg)
          | (at_builtin; refine wp_app1 elemU64.elem rfl _ _ rfl wg GG i c8 A8 _ rfl (HO.out.grows (show Grows y.now _ from GG)) _ _ (.int .u64 (x : Int)) rfl inferInstance rfl (by omega) ?_; intro A5 c5 y5 hown5; have HO5 := hide hown5; clear hown5))
        go_roundw
        case measure => simp [Go.RowKit.intOf]; omega
        case rel => exact ⟨i + 1, A5, c5, by omega, rfl, by go_num, y5, rfl, hide (by rw [HSN.out, HV.out]; exact HO5.out)⟩
      · have HV := hide (show gn L i = x by rw [HA.out]; simp)
        clear HA
        go_wp2_with (first
          | (go_at_call 57; refine (CH.out _ GG).mono ?_; rintro e w' ⟨rfl, rfl⟩)
          | (at_builtin; refine wp_app1 elemU64.elem rfl _ _ rfl wg GG i c8 A8 _ rfl (HO.out.grows (show Grows y.now _ from GG)) _ _ (.int .u64 (x : Int)) rfl inferInstance rfl (by omega) ?_; intro A5 c5 y5 hown5; have HO5 := hide hown5; clear hown5))
        go_roundw
        case measure => simp [Go.RowKit.intOf]; omega
        case rel => exact ⟨i + 1, A5, c5, by omega, rfl, by go_num, y5, rfl, hide (by rw [HSN.out, HV.out]; exact HO5.out)⟩
    · obtain rfl : i = n := by omega
      go_wp2_with fail
      go_ret
      exact ⟨A8, c8, rfl, by
        have h5 := HO.out.base (B' := w.heap.size) hgg.size
        rw [List.take_of_length_le (by have := HRL.out; omega)] at h5
        exact h5, hgg.trans y.grows⟩
end Go.Proofs.YtgplpgldhoelcaaGreat

