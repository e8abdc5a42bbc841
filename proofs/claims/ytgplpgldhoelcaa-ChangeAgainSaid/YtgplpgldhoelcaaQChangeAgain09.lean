/- How far one node is; and the law DijkAll, walked: how far all nodes are, with whatever counts, or why that is not told. -/
import Derived.Test.YtgplpgldhoelcaaQChangeAgain07
import Derived.Test.YtgplpgldhoelcaaQChangeAgain08
import Derived.Test.YtgplpgldhoelcaaQChangeAgain06
import Derived.Test.YtgplpgldhoelcaaQChangeAgain04
import Derived.Test.YtgplpgldhoelcaaQChangeAgain01
import Derived.WideKeyPair
import Derived.Lib.SlKeysI
import Derived.Test.YtgplpgldhoelcaaQChangeAgain00
namespace Go.Proofs.Ytgplpgldhoelcaa
open Go Go.RowKit
attribute [local go_sem] Oper.semAt_some
section
end
end Go.Proofs.Ytgplpgldhoelcaa

namespace Go.Proofs.Ytgplpgldhoelcaa
open Go Go.RowKit
abbrev noO (ne : List Int) : DOpt := ⟨false, [], ne, [], 0⟩
theorem noO_ok {N s : Nat} {E : List Edg} {ne : List Int} (hr : rightF N E = 0) (hs : s < N) (hn : ne.length ≤ 1000000) : WalkOk N s E (noO ne) :=
  ⟨hr, hs, .inl rfl, by show 0 < _; omega, by show ([] : List Int).length ≤ _; simp, hn⟩
theorem noO_w {N : Nat} {E : List Edg} (hr : rightF N E = 0) (i : Nat) (hi : i < E.length) : 1 ≤ gn (wtF N E []) i ∧ gn (wtF N E []) i ≤ 17592186044416 := by
  obtain ⟨r1, r2, r3, r4, r5⟩ := right_in hr
  have := r5 i hi
  have e : gn (wtF N E []) i = (ge E i).w.toNat := by
    unfold wtF
    rw [if_neg (by omega), if_neg (by simp), if_neg (by simp)]
    simp [gn, eW, ge, hi]
  rw [e]
  omega
end Go.Proofs.Ytgplpgldhoelcaa

namespace Go.Proofs.Ytgplpgldhoelcaa
open Go Go.RowKit
theorem short_is {N s : Nat} {E : List Edg} {o : DOpt} (hok : WalkOk N s E o) (hW : o.W = []) (hn : o.nn = []) (hm : o.most = 0) {v : Nat} (hv : v < N) :
    (gn (refL (srchOf N E o) s) v < farV ∧ Way (srchOf N E o) s v (gn (refL (srchOf N E o) s) v) ∧ ∀ g, Way (srchOf N E o) s v g → gn (refL (srchOf N E o) s) v ≤ g) ∨
    (gn (refL (srchOf N E o) s) v = farV ∧ ∀ g, ¬ Way (srchOf N E o) s v g) := by
  have hr := hok.right
  obtain ⟨r1, r2, r3, r4, r5⟩ := right_in hok.right
  rw [Int.toNat_natCast] at r4
  have hb : N * 17592186044416 < farV := by
    have : N * 17592186044416 ≤ 4096 * 17592186044416 := Nat.mul_le_mul_right _ (by omega)
    unfold farV; omega
  have hw : ∀ i, i < E.length → 1 ≤ gn (wtF N E o.W) i ∧ gn (wtF N E o.W) i ≤ 17592186044416 := fun i hi => by rw [hW]; exact noO_w hr (i := i) hi
  have hnn : ¬ (s : Int) ∈ o.nn := by rw [hn]; simp
  obtain ⟨xs, h1, h2, h3⟩ := walk_is hok hw (Nat.le_refl _) hnn
  have hs2 := hok.srch
  have hin : SrchIn (srchOf N E o) 17592186044416 := ⟨fun i hi => by
    have h1 := hs2.ends.f i hi
    have h2 := hs2.ends.t i hi
    unfold toE
    split
    · exact h1.1
    · exact h2.1, fun i hi => (hw i hi).1, fun i hi => (hw i hi).2⟩
  obtain ⟨ys, h4, h5⟩ := trace_whole (x := freeX (srchOf N E o)) (s := s) (mw := 17592186044416) ⟨hin.ends, hin.low, hin.high⟩ hs2.nodes hok.node (by omega)
  have e : refL (srchOf N E o) s = outL N xs := refL_is h2 h5 hin hb hok.node (decide_eq_false hnn) (fun i hi => by
    have h1 := hs2.ends.f i hi
    have h2 := hs2.ends.t i hi
    unfold nN
    split
    · exact h2.1
    · exact h1.1)
  rw [e]
  rcases outL_cases h2 hb (v := v) hv with ⟨a, b⟩ | ⟨a, b⟩
  · exact .inl ⟨b, (h2.way _ _ a).2.1, fun g hg => by
      obtain ⟨g', h6, h7⟩ := h2.all v g hg (fun h => absurd hm (by have : 0 < o.most := h; omega))
      have e2 := outL_at h2.nodup (N := N) hv h6
      rw [e2]; exact h7⟩
  · exact .inr ⟨a, fun g hg => by
      obtain ⟨g', h6, _⟩ := h2.all v g hg (fun h => absurd hm (by have : 0 < o.most := h; omega))
      exact b g' h6⟩
abbrev fX (N : Nat) (E : List Edg) : Srch := srchOf N E (noO [])
theorem fX_step {N s i f : Nat} {E : List Edg} (h : Way (fX N E) s (fN E i) f) (hi : i < E.length) : Way (fX N E) s (tN E i) (f + gn (wtF N E []) i) := Way.step (x := fX N E) h hi (by simp [cntE, srchOf])
def dF (N : Nat) (E : List Edg) (a b : Nat) : Nat := gn (refL (fX N E) a) b
theorem dF_is {N a b : Nat} {E : List Edg} (hr : rightF N E = 0) (ha : a < N) (hb : b < N) : (dF N E a b < farV ∧ Way (fX N E) a b (dF N E a b) ∧ ∀ g, Way (fX N E) a b g → dF N E a b ≤ g) ∨ (dF N E a b = farV ∧ ∀ g, ¬ Way (fX N E) a b g) :=
  short_is (noO_ok hr ha (by simp)) rfl rfl rfl hb
theorem dF_le {N a b g : Nat} {E : List Edg} (hr : rightF N E = 0) (ha : a < N) (hb : b < N) (h : Way (fX N E) a b g) : dF N E a b ≤ g ∧ Way (fX N E) a b (dF N E a b) ∧ dF N E a b < farV := by
  rcases dF_is hr ha hb with ⟨h1, h2, h3⟩ | ⟨_, h2⟩
  · exact ⟨h3 g h, h2, h1⟩
  · exact absurd h (h2 g)
section
variable {N s t i : Nat} {E : List Edg}
end
end Go.Proofs.Ytgplpgldhoelcaa

namespace Go.Proofs.Ytgplpgldhoelcaa
open Go Go.RowKit
abbrev LM := Nat → Option Nat
def lgLess (m : LM) (u w : Nat) : Bool := match m u with | none => true | some was => decide (w < was)
def lgPut (G : List Bool) (v : Nat) (m : LM) (u w : Nat) : LM := if u ≠ v ∧ bb G u = false ∧ lgLess m u w = true then fun z => if z = u then some w else m z else m
def lgArc (G : List Bool) (v u : Nat) (m : LM × LM) (a : Itm) : LM × LM :=
  if v = u then (m.1, lgPut G v m.2 a.1 a.2) else if v = a.1 then (lgPut G v m.1 u a.2, m.2) else m
def lgRow (G : List Bool) (v u : Nat) (l : List Itm) (m : LM × LM) : LM × LM := l.foldl (lgArc G v u) m
theorem lgRow_snoc (G : List Bool) (v u : Nat) (l : List Itm) (a : Itm) (m : LM × LM) : lgRow G v u (l ++ [a]) m = lgArc G v u (lgRow G v u l m) a := by
  unfold lgRow
  rw [List.foldl_append]
  rfl
def lgAll (O : NetO) (G : List Bool) (v : Nat) : Nat → LM × LM
  | 0 => (fun _ => none, fun _ => none)
  | u + 1 => lgRow G v u (ga O u) (lgAll O G v u)
def lightest (O : NetO) (G : List Bool) (v : Nat) : LM × LM := lgAll O G v O.length
structure LgOk (P : Nat → Nat → Prop) (G : List Bool) (v : Nat) (m : LM) : Prop where
  is : ∀ u a, m u = some a → u ≠ v ∧ bb G u = false ∧ P u a
  all : ∀ u a, u ≠ v → bb G u = false → P u a → ∃ b, m u = some b ∧ b ≤ a
theorem LgOk.put {P : Nat → Nat → Prop} {G : List Bool} {v : Nat} {m : LM} (h : LgOk P G v m) (u w : Nat) : LgOk (fun x a => P x a ∨ (x = u ∧ a = w)) G v (lgPut G v m u w) := by
  unfold lgPut
  split
  · rename_i hc
    obtain ⟨h1, h2, h3⟩ := hc
    constructor
    · intro x a hx
      split at hx
      · rename_i e
        injection hx with hx
        subst e hx
        exact ⟨h1, h2, .inr ⟨rfl, rfl⟩⟩
      · obtain ⟨q1, q2, q3⟩ := h.is x a hx
        exact ⟨q1, q2, .inl q3⟩
    · intro x a hx hg hp
      by_cases e : x = u
      · subst e
        rw [if_pos rfl]
        refine ⟨w, rfl, ?_⟩
        rcases hp with hp | ⟨_, hp⟩
        · obtain ⟨b, q1, q2⟩ := h.all x a hx hg hp
          unfold lgLess at h3
          rw [q1] at h3
          have := of_decide_eq_true h3
          omega
        · omega
      · rw [if_neg e]
        rcases hp with hp | ⟨hp, _⟩
        · exact h.all x a hx hg hp
        · exact absurd hp e
  · rename_i hc
    constructor
    · intro x a hx
      obtain ⟨q1, q2, q3⟩ := h.is x a hx
      exact ⟨q1, q2, .inl q3⟩
    · intro x a hx hg hp
      rcases hp with hp | ⟨rfl, rfl⟩
      · exact h.all x a hx hg hp
      · cases hm : m x with
        | none => exact absurd ⟨hx, hg, by unfold lgLess; rw [hm]⟩ hc
        | some b =>
          refine ⟨b, rfl, ?_⟩
          rcases Nat.lt_or_ge a b with h1 | h1
          · exact absurd ⟨hx, hg, by unfold lgLess; rw [hm]; exact decide_eq_true h1⟩ hc
          · exact h1
theorem LgOk.congr {P Q : Nat → Nat → Prop} {G : List Bool} {v : Nat} {m : LM} (h : LgOk P G v m) (e : ∀ u a, u ≠ v → (P u a ↔ Q u a)) : LgOk Q G v m :=
  ⟨fun u a hu => by obtain ⟨q1, q2, q3⟩ := h.is u a hu; exact ⟨q1, q2, (e u a q1).1 q3⟩, fun u a h1 h2 h3 => h.all u a h1 h2 ((e u a h1).2 h3)⟩
theorem lgRow_ok {G : List Bool} {v u : Nat} (l : List Itm) : ∀ {P Q : Nat → Nat → Prop} {m : LM × LM}, LgOk P G v m.1 → LgOk Q G v m.2 →
    LgOk (fun x a => P x a ∨ (x = u ∧ v ≠ u ∧ (v, a) ∈ l)) G v (lgRow G v u l m).1 ∧ LgOk (fun x a => Q x a ∨ (v = u ∧ (x, a) ∈ l)) G v (lgRow G v u l m).2 := by
  induction l with
  | nil => exact fun h1 h2 => ⟨h1.congr fun _ _ _ => by simp, h2.congr fun _ _ _ => by simp⟩
  | cons a l ih =>
    intro P Q m h1 h2
    unfold lgRow
    rw [List.foldl_cons]
    by_cases e1 : v = u
    · have e : lgArc G v u m a = (m.1, lgPut G v m.2 a.1 a.2) := by unfold lgArc; rw [if_pos e1]
      rw [e]
      obtain ⟨k1, k2⟩ := ih (m := (m.1, lgPut G v m.2 a.1 a.2)) h1 (h2.put a.1 a.2)
      refine ⟨k1.congr fun x b _ => ?_, k2.congr fun x b _ => ?_⟩
      · simp [e1]
      · rw [List.mem_cons]
        constructor
        · rintro ((h | ⟨rfl, rfl⟩) | ⟨h3, h4⟩)
          · exact .inl h
          · exact .inr ⟨e1, .inl rfl⟩
          · exact .inr ⟨h3, .inr h4⟩
        · rintro (h | ⟨h3, h4 | h4⟩)
          · exact .inl (.inl h)
          · subst h4; exact .inl (.inr ⟨rfl, rfl⟩)
          · exact .inr ⟨h3, h4⟩
    · by_cases e2 : v = a.1
      · have e : lgArc G v u m a = (lgPut G v m.1 u a.2, m.2) := by unfold lgArc; rw [if_neg e1, if_pos e2]
        rw [e]
        obtain ⟨k1, k2⟩ := ih (m := (lgPut G v m.1 u a.2, m.2)) (h1.put u a.2) h2
        refine ⟨k1.congr fun x b _ => ?_, k2.congr fun x b _ => ?_⟩
        · rw [List.mem_cons]
          constructor
          · rintro ((h | ⟨rfl, rfl⟩) | ⟨h3, h4, h5⟩)
            · exact .inl h
            · exact .inr ⟨rfl, e1, .inl (by rw [e2])⟩
            · exact .inr ⟨h3, h4, .inr h5⟩
          · rintro (h | ⟨h3, h4, h5 | h5⟩)
            · exact .inl (.inl h)
            · rw [← h5]; exact .inl (.inr ⟨h3, rfl⟩)
            · exact .inr ⟨h3, h4, h5⟩
        · simp [e1]
      · have e : lgArc G v u m a = m := by unfold lgArc; rw [if_neg e1, if_neg e2]
        rw [e]
        obtain ⟨k1, k2⟩ := ih (m := m) h1 h2
        refine ⟨k1.congr fun x b _ => ?_, k2.congr fun x b _ => ?_⟩
        · rw [List.mem_cons]
          constructor
          · rintro (h | ⟨h3, h4, h5⟩)
            · exact .inl h
            · exact .inr ⟨h3, h4, .inr h5⟩
          · rintro (h | ⟨h3, h4, h5 | h5⟩)
            · exact .inl h
            · exact absurd (by rw [← h5]) e2
            · exact .inr ⟨h3, h4, h5⟩
        · simp [e1]
theorem lgAll_ok (O : NetO) (G : List Bool) (v n : Nat) : LgOk (fun u a => u < n ∧ (v, a) ∈ ga O u) G v (lgAll O G v n).1 ∧ LgOk (fun u a => v < n ∧ (u, a) ∈ ga O v) G v (lgAll O G v n).2 := by
  induction n with
  | zero => exact ⟨⟨fun u a h => absurd h (by simp [lgAll]), fun u a _ _ h => absurd h.1 (by omega)⟩, ⟨fun u a h => absurd h (by simp [lgAll]), fun u a _ _ h => absurd h.1 (by omega)⟩⟩
  | succ n ih =>
    obtain ⟨k1, k2⟩ := lgRow_ok (u := n) (ga O n) ih.1 ih.2
    refine ⟨k1.congr fun u a hu => ?_, k2.congr fun u a hu => ?_⟩
    · constructor
      · rintro (⟨h1, h2⟩ | ⟨rfl, h2, h3⟩)
        · exact ⟨by omega, h2⟩
        · exact ⟨by omega, h3⟩
      · rintro ⟨h1, h2⟩
        rcases Nat.lt_or_ge u n with h | h
        · exact .inl ⟨h, h2⟩
        · have e : u = n := by omega
          subst e
          exact .inr ⟨rfl, fun e => hu e.symm, h2⟩
    · constructor
      · rintro (⟨h1, h2⟩ | ⟨rfl, h2⟩)
        · exact ⟨by omega, h2⟩
        · exact ⟨by omega, h2⟩
      · rintro ⟨h1, h2⟩
        rcases Nat.lt_or_ge v n with h | h
        · exact .inl ⟨h, h2⟩
        · have e : v = n := by omega
          subst e
          exact .inr ⟨rfl, h2⟩
abbrev Kp := Nat × Nat × Nat
def kpW (O : NetO) (G : List Bool) (hops settles : Nat) (fr : LM) (u a w : Nat) (acc : List Kp) : List Kp :=
  match fr w with
  | none => acc
  | some b => if u = w then acc else if (wsFind O G u w (a + b) hops settles).isSome = true then acc else acc ++ [(u, w, a + b)]
def kpIn (O : NetO) (G : List Bool) (hops settles : Nat) (fr : LM) (u a : Nat) : Nat → List Kp → List Kp
  | 0, acc => acc
  | w + 1, acc => kpW O G hops settles fr u a w (kpIn O G hops settles fr u a w acc)
def kpAll (O : NetO) (G : List Bool) (hops settles : Nat) (tf : LM × LM) (N : Nat) : Nat → List Kp
  | 0 => []
  | u + 1 => match tf.1 u with
    | none => kpAll O G hops settles tf N u
    | some a => kpIn O G hops settles tf.2 u a N (kpAll O G hops settles tf N u)
def keptL (O : NetO) (G : List Bool) (hops settles v : Nat) : List Kp := kpAll O (G.set v true) hops settles (lightest O G v) O.length O.length
theorem kpW_mem {O : NetO} {G : List Bool} {hops settles u a w : Nat} {fr : LM} {acc : List Kp} {x : Kp} : x ∈ kpW O G hops settles fr u a w acc ↔ x ∈ acc ∨ ∃ b, fr w = some b ∧ u ≠ w ∧ wsFind O G u w (a + b) hops settles = none ∧ x = (u, w, a + b) := by
  unfold kpW
  cases hf : fr w with
  | none => simp
  | some b =>
    simp only
    by_cases e : u = w
    · simp [e]
    · rw [if_neg e]
      cases hs : wsFind O G u w (a + b) hops settles with
      | none => simp [e, hs]
      | some d => simp [e, hs]
theorem kpIn_mem {O : NetO} {G : List Bool} {hops settles u a : Nat} {fr : LM} {acc : List Kp} {x : Kp} (n : Nat) : x ∈ kpIn O G hops settles fr u a n acc ↔ x ∈ acc ∨ ∃ w b, w < n ∧ fr w = some b ∧ u ≠ w ∧ wsFind O G u w (a + b) hops settles = none ∧ x = (u, w, a + b) := by
  induction n with
  | zero => simp [kpIn]
  | succ n ih =>
    show x ∈ kpW O G hops settles fr u a n (kpIn O G hops settles fr u a n acc) ↔ _
    rw [kpW_mem, ih]
    constructor
    · rintro ((h | ⟨w, b, h1, h2⟩) | ⟨b, h2⟩)
      · exact .inl h
      · exact .inr ⟨w, b, by omega, h2⟩
      · exact .inr ⟨n, b, by omega, h2⟩
    · rintro (h | ⟨w, b, h1, h2⟩)
      · exact .inl (.inl h)
      · rcases Nat.lt_or_ge w n with h | h
        · exact .inl (.inr ⟨w, b, h, h2⟩)
        · have e : w = n := by omega
          subst e
          exact .inr ⟨b, h2⟩
theorem kpAll_mem {O : NetO} {G : List Bool} {hops settles N : Nat} {tf : LM × LM} {x : Kp} (n : Nat) : x ∈ kpAll O G hops settles tf N n ↔ ∃ u a w b, u < n ∧ tf.1 u = some a ∧ w < N ∧ tf.2 w = some b ∧ u ≠ w ∧ wsFind O G u w (a + b) hops settles = none ∧ x = (u, w, a + b) := by
  induction n with
  | zero => simp [kpAll]
  | succ n ih =>
    unfold kpAll
    cases hm : tf.1 n with
    | none =>
      simp only
      rw [ih]
      constructor
      · rintro ⟨u, a, w, b, h1, h2⟩
        exact ⟨u, a, w, b, by omega, h2⟩
      · rintro ⟨u, a, w, b, h1, h2, h3⟩
        refine ⟨u, a, w, b, ?_, h2, h3⟩
        rcases Nat.lt_or_ge u n with h | h
        · exact h
        · have e : u = n := by omega
          subst e
          rw [hm] at h2
          cases h2
    | some a0 =>
      simp only
      rw [kpIn_mem, ih]
      constructor
      · rintro (⟨u, a, w, b, h1, h2⟩ | ⟨w, b, h1, h2⟩)
        · exact ⟨u, a, w, b, by omega, h2⟩
        · exact ⟨n, a0, w, b, by omega, hm, h1, h2⟩
      · rintro ⟨u, a, w, b, h1, h2, h3, h4⟩
        rcases Nat.lt_or_ge u n with h | h
        · exact .inl ⟨u, a, w, b, h, h2, h3, h4⟩
        · have e : u = n := by omega
          subst e
          rw [hm] at h2
          injection h2 with h2
          subst h2
          exact .inr ⟨w, b, h3, h4⟩
end Go.Proofs.Ytgplpgldhoelcaa

namespace Go.Proofs.Ytgplpgldhoelcaa
open Go Go.RowKit
structure Sc where
  f : Nat
  t : Nat
  w : Nat
  e : Int
  a : Int
  b : Int
def sc0 : Sc := ⟨0, 0, 0, 0, 0, 0⟩
def gs (S : List Sc) (i : Nat) : Sc := S.getD i sc0
theorem gs_app {S : List Sc} {x : Sc} {i : Nat} (h : i < S.length) : gs (S ++ [x]) i = gs S i := by simp [gs, List.getElem?_append_left h, List.getD_eq_getElem?_getD]
theorem gs_end (S : List Sc) (x : Sc) : gs (S ++ [x]) S.length = x := by simp [gs, List.getD_eq_getElem?_getD]
structure Ctr where
  O : NetO
  G : List Bool
  at_ : Nat → Nat → Option Nat
  S : List Sc
  D : List Nat
def Ctr.has (c : Ctr) (u t w : Nat) : Bool := match c.at_ u t with | none => false | some i => decide ((gs c.S i).w ≤ w)
def Ctr.add (c : Ctr) (x : Sc) : Ctr :=
  if c.has x.f x.t x.w = true then c else
    ⟨c.O.set x.f ((ga c.O x.f).filter (fun a => !decide (a.1 = x.t)) ++ [(x.t, x.w)]), c.G, fun p q => if p = x.f ∧ q = x.t then some c.S.length else c.at_ p q, c.S ++ [x], c.D⟩
theorem Ctr.add_yes {c : Ctr} {x : Sc} (h : c.has x.f x.t x.w = true) : c.add x = c := if_pos h
theorem Ctr.add_no {c : Ctr} {x : Sc} (h : ¬ c.has x.f x.t x.w = true) : c.add x = ⟨c.O.set x.f ((ga c.O x.f).filter (fun a => !decide (a.1 = x.t)) ++ [(x.t, x.w)]), c.G, fun p q => if p = x.f ∧ q = x.t then some c.S.length else c.at_ p q, c.S ++ [x], c.D⟩ := if_neg h
theorem ga_set {O : NetO} {u x : Nat} {l : List Itm} (hu : u < O.length) : ga (O.set u l) x = if x = u then l else ga O x := by
  unfold ga
  by_cases e : x = u
  · subst e; simp [hu]
  · simp [e, Ne.symm e]
structure CtN (N : Nat) (c : Ctr) : Prop where
  olen : c.O.length = N
  glen : c.G.length = N
  dlen : c.D.length = N
  arcs : ∀ u, u < N → ∀ t w, (t, w) ∈ ga c.O u ↔ ∃ i, c.at_ u t = some i ∧ (gs c.S i).w = w
  at_in : ∀ u t i, c.at_ u t = some i → i < c.S.length ∧ (gs c.S i).f = u ∧ (gs c.S i).t = t
  ends : ∀ i, i < c.S.length → (gs c.S i).f < N ∧ (gs c.S i).t < N ∧ (gs c.S i).f ≠ (gs c.S i).t
theorem CtN.nin {N : Nat} {c : Ctr} (h : CtN N c) : NIn c.O := by
  intro v a ha
  by_cases hv : v < N
  · obtain ⟨i, h1, _⟩ := (h.arcs v hv a.1 a.2).1 ha
    obtain ⟨h2, _, h3⟩ := h.at_in _ _ _ h1
    have := (h.ends i h2).2.1
    rw [h3] at this
    rw [h.olen]; exact this
  · have : ga c.O v = [] := by unfold ga; rw [List.getD_eq_getElem?_getD, List.getElem?_eq_none (by rw [h.olen]; omega)]; rfl
    rw [this] at ha
    cases ha
theorem CtN.add {N : Nat} {c : Ctr} {x : Sc} (h : CtN N c) (h1 : x.f < N) (h2 : x.t < N) (h3 : x.f ≠ x.t) : CtN N (c.add x) := by
  by_cases hh : c.has x.f x.t x.w = true
  · rw [Ctr.add_yes hh]; exact h
  · rw [Ctr.add_no hh]
    refine ⟨by simp [h.olen], h.glen, h.dlen, fun u hu t w => ?_, fun u t i hi => ?_, fun i hi => ?_⟩
    · show (t, w) ∈ ga (c.O.set x.f _) u ↔ ∃ i, (if u = x.f ∧ t = x.t then some c.S.length else c.at_ u t) = some i ∧ (gs (c.S ++ [x]) i).w = w
      rw [ga_set (by rw [h.olen]; exact h1)]
      by_cases e : u = x.f
      · subst e
        rw [if_pos rfl, List.mem_append, List.mem_filter]
        by_cases e2 : t = x.t
        · subst e2
          rw [if_pos ⟨rfl, rfl⟩]
          constructor
          · rintro (⟨_, h5⟩ | h5)
            · simp at h5
            · rw [List.mem_singleton] at h5
              injection h5 with _ h5
              exact ⟨_, rfl, by rw [gs_end, h5]⟩
          · rintro ⟨i, h5, h6⟩
            injection h5 with h5
            subst h5
            rw [gs_end] at h6
            exact .inr (by rw [h6]; simp)
        · rw [if_neg (fun h => e2 h.2)]
          constructor
          · rintro (⟨h5, _⟩ | h5)
            · obtain ⟨i, h6, h7⟩ := (h.arcs _ hu t w).1 h5
              exact ⟨i, h6, by rw [gs_app (h.at_in _ _ _ h6).1]; exact h7⟩
            · rw [List.mem_singleton] at h5
              injection h5 with h5
              exact absurd h5 e2
          · rintro ⟨i, h6, h7⟩
            rw [gs_app (h.at_in _ _ _ h6).1] at h7
            exact .inl ⟨(h.arcs _ hu t w).2 ⟨i, h6, h7⟩, by simp [e2]⟩
      · rw [if_neg e, if_neg (fun h => e h.1), h.arcs u hu t w]
        constructor
        · rintro ⟨i, h6, h7⟩
          exact ⟨i, h6, by rw [gs_app (h.at_in _ _ _ h6).1]; exact h7⟩
        · rintro ⟨i, h6, h7⟩
          rw [gs_app (h.at_in _ _ _ h6).1] at h7
          exact ⟨i, h6, h7⟩
    · have hi' : (if u = x.f ∧ t = x.t then some c.S.length else c.at_ u t) = some i := hi
      show i < (c.S ++ [x]).length ∧ (gs (c.S ++ [x]) i).f = u ∧ (gs (c.S ++ [x]) i).t = t
      by_cases e : u = x.f ∧ t = x.t
      · rw [if_pos e] at hi'
        injection hi' with hi'
        subst hi'
        rw [gs_end]
        exact ⟨by simp, e.1.symm, e.2.symm⟩
      · rw [if_neg e] at hi'
        obtain ⟨q1, q2, q3⟩ := h.at_in _ _ _ hi'
        rw [gs_app q1]
        exact ⟨by simp; omega, q2, q3⟩
    · have hi' : i < (c.S ++ [x]).length := hi
      show (gs (c.S ++ [x]) i).f < N ∧ (gs (c.S ++ [x]) i).t < N ∧ (gs (c.S ++ [x]) i).f ≠ (gs (c.S ++ [x]) i).t
      rw [List.length_append, List.length_singleton] at hi'
      rcases Nat.lt_or_ge i c.S.length with h5 | h5
      · rw [gs_app h5]; exact h.ends i h5
      · have e : i = c.S.length := by omega
        subst e
        rw [gs_end]
        exact ⟨h1, h2, h3⟩
theorem Ctr.add_all {c : Ctr} {x : Sc} {P : Nat → Sc → Prop} (h : ∀ i, i < c.S.length → P i (gs c.S i)) (hx : P c.S.length x) : ∀ i, i < (c.add x).S.length → P i (gs (c.add x).S i) := by
  by_cases hh : c.has x.f x.t x.w = true
  · rw [Ctr.add_yes hh]; exact h
  · rw [Ctr.add_no hh]
    intro i hi
    have hi' : i < (c.S ++ [x]).length := hi
    show P i (gs (c.S ++ [x]) i)
    rw [List.length_append, List.length_singleton] at hi'
    rcases Nat.lt_or_ge i c.S.length with h5 | h5
    · rw [gs_app h5]; exact h i h5
    · have e : i = c.S.length := by omega
      subst e
      rw [gs_end]
      exact hx
structure CtLe (c d : Ctr) : Prop where
  len : c.S.length ≤ d.S.length
  old : ∀ i, i < c.S.length → gs d.S i = gs c.S i
  less : ∀ u t i, c.at_ u t = some i → ∃ j, d.at_ u t = some j ∧ (gs d.S j).w ≤ (gs c.S i).w
theorem CtLe.refl (c : Ctr) : CtLe c c := ⟨Nat.le_refl _, fun _ _ => rfl, fun _ _ i h => ⟨i, h, Nat.le_refl _⟩⟩
theorem CtLe.trans {c d e : Ctr} (h : CtLe c d) (k : CtLe d e) : CtLe c e :=
  ⟨Nat.le_trans h.len k.len, fun i hi => (k.old i (Nat.lt_of_lt_of_le hi h.len)).trans (h.old i hi), fun u t i hi => by
    obtain ⟨j, h1, h2⟩ := h.less u t i hi
    obtain ⟨m, h3, h4⟩ := k.less u t j h1
    exact ⟨m, h3, Nat.le_trans h4 h2⟩⟩
theorem CtLe.add {N : Nat} {c : Ctr} (h : CtN N c) (x : Sc) : CtLe c (c.add x) ∧ ∃ j, (c.add x).at_ x.f x.t = some j ∧ (gs (c.add x).S j).w ≤ x.w := by
  by_cases hh : c.has x.f x.t x.w = true
  · rw [Ctr.add_yes hh]
    refine ⟨CtLe.refl c, ?_⟩
    unfold Ctr.has at hh
    cases hm : c.at_ x.f x.t with
    | none => rw [hm] at hh; cases hh
    | some i => rw [hm] at hh; exact ⟨i, rfl, of_decide_eq_true hh⟩
  · rw [Ctr.add_no hh]
    refine ⟨⟨by simp, fun i hi => gs_app hi, fun u t i hi => ?_⟩, c.S.length, if_pos ⟨rfl, rfl⟩, by show (gs (c.S ++ [x]) c.S.length).w ≤ x.w; rw [gs_end]; exact Nat.le_refl _⟩
    show ∃ j, (if u = x.f ∧ t = x.t then some c.S.length else c.at_ u t) = some j ∧ (gs (c.S ++ [x]) j).w ≤ (gs c.S i).w
    by_cases e : u = x.f ∧ t = x.t
    · rw [if_pos e]
      refine ⟨_, rfl, ?_⟩
      rw [gs_end]
      rw [e.1, e.2] at hi
      unfold Ctr.has at hh
      rw [hi] at hh
      simp at hh
      omega
    · rw [if_neg e]
      exact ⟨i, hi, by rw [gs_app (h.at_in _ _ _ hi).1]; exact Nat.le_refl _⟩
theorem Ctr.add_at {c : Ctr} {x : Sc} {u t : Nat} (h : ¬ (u = x.f ∧ t = x.t)) : (c.add x).at_ u t = c.at_ u t := by
  by_cases hh : c.has x.f x.t x.w = true
  · rw [Ctr.add_yes hh]
  · rw [Ctr.add_no hh]
    exact if_neg h
theorem Ctr.add_G (c : Ctr) (x : Sc) : (c.add x).G = c.G ∧ (c.add x).D = c.D := by
  unfold Ctr.add
  split <;> exact ⟨rfl, rfl⟩
def kpSc (c : Ctr) (v : Nat) (k : Kp) : Sc := ⟨k.1, k.2.1, k.2.2, -1, ((c.at_ k.1 v).getD 0 : Nat), ((c.at_ v k.2.1).getD 0 : Nat)⟩
def Ctr.adds (v : Nat) (l : List Kp) (c : Ctr) : Ctr := l.foldl (fun c k => c.add (kpSc c v k)) c
theorem Ctr.adds_snoc (v : Nat) (l : List Kp) (k : Kp) (c : Ctr) : Ctr.adds v (l ++ [k]) c = (Ctr.adds v l c).add (kpSc (Ctr.adds v l c) v k) := by
  unfold Ctr.adds
  rw [List.foldl_append]
  rfl
def deepL (D : List Nat) (tf : LM × LM) (v : Nat) : List Nat := (List.range D.length).map fun u => if (tf.1 u).isSome = true ∨ (tf.2 u).isSome = true then max (gn D u) (gn D v + 1) else gn D u
def Ctr.go (hops settles : Nat) (c : Ctr) (v : Nat) : Ctr :=
  let d := Ctr.adds v (keptL c.O c.G hops settles v) c
  ⟨d.O, d.G.set v true, d.at_, d.S, deepL d.D (lightest c.O c.G v) v⟩
def Ctr.edges (E : List Edg) : Nat → Ctr → Ctr
  | 0, c => c
  | i + 1, c => (Ctr.edges E i c).add ⟨fN E i, tN E i, (ge E i).w.toNat, (i : Int), -1, -1⟩
def ctr0 (N : Nat) : Ctr := ⟨List.replicate N [], List.replicate N false, fun _ _ => none, [], List.replicate N 0⟩
def ctrG (N : Nat) (E : List Edg) : Ctr := Ctr.edges E E.length (ctr0 N)
end Go.Proofs.Ytgplpgldhoelcaa

namespace Go.Proofs.Ytgplpgldhoelcaa
open Go Go.RowKit
attribute [local go_sem] Oper.semAt_some
def NetRd (w : World) (Ao Ag : Option Addr) (O : NetO) (G : List Bool) : Prop :=
  (∃ (Af : Nat → Option Addr) (cf : Nat → Nat), Rd w Ao 1 O.length ((List.range O.length).map fun x => .slice (Af x) (ga O x).length (cf x)) ∧ ∀ x, x < O.length → Rd w (Af x) 2 (ga O x).length (its (ga O x))) ∧ Rd w Ag 1 O.length (G.map .bool)
theorem NetRd.grows {w w' : World} {Ao Ag : Option Addr} {O : NetO} {G : List Bool} (h : NetRd w Ao Ag O G) (hg : Grows w w') : NetRd w' Ao Ag O G := by
  obtain ⟨⟨Af, cf, h1, h2⟩, h3⟩ := h
  exact ⟨⟨Af, cf, h1.grows hg, fun x hx => (h2 x hx).grows hg⟩, h3.grows hg⟩
theorem NetRd.row {w : World} {Ao Ag : Option Addr} {O : NetO} {G : List Bool} (h : NetRd w Ao Ag O G) {x : Nat} (hx : x < O.length) :
    ∃ bo oo, Ao = some ⟨bo, oo, none⟩ ∧ ∃ A c, Holds w ⟨bo, oo + x, none⟩ (.slice A (ga O x).length c) ∧ Rd w A 2 (ga O x).length (its (ga O x)) := by
  obtain ⟨⟨Af, cf, h1, h2⟩, h3⟩ := h
  obtain ⟨b, off, e, hc⟩ := h1.at_ (by omega)
  exact ⟨b, off, e, Af x, cf x, ⟨hc x _ (by simp [hx])⟩, h2 x hx⟩
theorem NetRd.base {w : World} {Ao Ag : Option Addr} {O : NetO} {G : List Bool} (h : NetRd w Ao Ag O G) (h0 : 0 < O.length) :
    ∃ bo oo, Ao = some ⟨bo, oo, none⟩ ∧ ∃ bg og, Ag = some ⟨bg, og, none⟩ ∧ (∀ x, x < O.length → Holds w ⟨bg, og + x, none⟩ (.bool (bb G x))) := by
  obtain ⟨⟨Af, cf, h1, _⟩, h3⟩ := h
  obtain ⟨b, off, e, _⟩ := h1.at_ h0
  obtain ⟨b2, off2, e2, hc⟩ := h3.at_ h0
  have hl : G.length = O.length := by have := h3.len; simpa using this
  exact ⟨b, off, e, b2, off2, e2, fun x hx => ⟨hc x _ (by simp [bb, show x < G.length by omega])⟩⟩
theorem Rd.itemH {w : World} {A : Option Addr} {n : Nat} {L : List Itm} (h : Rd w A 2 n (its L)) (hn : 0 < n) (hl : L.length = n) :
    ∃ b off, A = some ⟨b, off, none⟩ ∧ ∀ k, k < n → Holds w ⟨b, off + k * 2, none⟩ (.int .i64 ((gi2 L k).1 : Int)) ∧ Holds w ⟨b, off + k * 2 + 1, none⟩ (.int .u64 ((gi2 L k).2 : Int)) := by
  obtain ⟨b, off, e, hc⟩ := h.2 hn (by omega)
  refine ⟨b, off, e, fun k hk => ⟨⟨?_⟩, ⟨?_⟩⟩⟩
  · have := hc (k * 2 + 0) _ ((its_at L k 0 (by omega) (by omega)).trans rfl)
    simpa using this
  · have := hc (k * 2 + 1) _ ((its_at L k 1 (by omega) (by omega)).trans rfl)
    rw [← Nat.add_assoc] at this
    exact this
structure WsC (w0 : World) (bf gf bs bh : Nat) (st : WS) (w : World) : Prop where
  later : ∃ y : Later w0, w = y.now
  stamp : ∃ m, StL w bf gf st.L m
  steps : Arr w bs 3 (nv st.k)
  heap : ∃ S2 : Nat → Prop, HpAt w S2 bh st.s ∧ ∀ k, S2 k → w0.heap.size ≤ k ∧ k < w.heap.size ∧ k ≠ bf ∧ k ≠ gf ∧ k ≠ bs
  low : w0.heap.size ≤ bf ∧ w0.heap.size ≤ gf ∧ w0.heap.size ≤ bs ∧ bs ≠ bf ∧ bs ≠ gf
section
variable {w0 w w' : World} {bf gf bs bh : Nat} {st : WS}
theorem WsC.grow (h : WsC w0 bf gf bs bh st w) (hg : Grows w w') : WsC w0 bf gf bs bh st w' := by
  obtain ⟨⟨y, rfl⟩, ⟨m, h2⟩, h3, ⟨S2, h4, h5⟩, h6⟩ := h
  exact ⟨⟨⟨_, y.grows.trans hg⟩, rfl⟩, ⟨m, h2.grow hg⟩, h3.grow hg, ⟨S2, h4.grow hg, fun k hk => ⟨(h5 k hk).1, Nat.lt_of_lt_of_le (h5 k hk).2.1 hg.size, (h5 k hk).2.2⟩⟩, h6⟩
theorem WsC.popped (h : WsC w0 bf gf bs bh st w) {S2 : Nat → Prop} (hS : ∀ k, S2 k → w0.heap.size ≤ k ∧ k < w.heap.size ∧ k ≠ bf ∧ k ≠ gf ∧ k ≠ bs) {s' : HS} (hp : HpAt w' S2 bh s') (ht : Touch S2 w w') : WsC w0 bf gf bs bh ⟨st.L, s', st.k⟩ w' := by
  obtain ⟨⟨y, rfl⟩, ⟨m, h2⟩, h3, _, h6⟩ := h
  exact ⟨⟨⟨_, ht.later y.grows (fun k hk => (hS k hk).1)⟩, rfl⟩, ⟨m, h2.touch ht (fun e => (hS _ e).2.2.1 rfl) (fun e => (hS _ e).2.2.2.1 rfl)⟩, h3.touch ht (fun e => (hS _ e).2.2.2.2 rfl), ⟨S2, hp, fun k hk => ⟨(hS k hk).1, Nat.lt_of_lt_of_le (hS k hk).2.1 ht.size, (hS k hk).2.2⟩⟩, h6⟩
theorem WsC.stamped (h : WsC w0 bf gf bs bh st w) {L' : List (Nat × Nat)} (hs : ∃ m, StL w' bf gf L' m) (ht : Touch (fun k => k = bf ∨ k = gf) w w') : WsC w0 bf gf bs bh ⟨L', st.s, st.k⟩ w' := by
  obtain ⟨⟨y, rfl⟩, _, h3, ⟨S2, h4, h5⟩, h6⟩ := h
  refine ⟨⟨⟨_, ht.later y.grows (fun k hk => by rcases hk with rfl | rfl; exact h6.1; exact h6.2.1)⟩, rfl⟩, hs, h3.touch ht (fun e => by rcases e with e | e; exact h6.2.2.2.1 e; exact h6.2.2.2.2 e), ⟨S2, h4.touch ht (fun k hk e => by rcases e with e | e; exact (h5 k hk).2.2.1 e; exact (h5 k hk).2.2.2.1 e), fun k hk => ⟨(h5 k hk).1, Nat.lt_of_lt_of_le (h5 k hk).2.1 ht.size, (h5 k hk).2.2⟩⟩, h6⟩
theorem WsC.put (h : WsC w0 bf gf bs bh st w) {S2 : Nat → Prop} (hS : ∀ k, S2 k → w0.heap.size ≤ k ∧ k < w.heap.size ∧ k ≠ bf ∧ k ≠ gf ∧ k ≠ bs) {s' : HS} (hp : HpAt w' (fun k => S2 k ∨ New w w' k) bh s') (ht : Touch S2 w w') : WsC w0 bf gf bs bh ⟨st.L, s', st.k⟩ w' := by
  obtain ⟨⟨y, rfl⟩, ⟨m, h2⟩, h3, _, h6⟩ := h
  have l1 := h2.row.lt
  have l2 := h2.cells.lt
  have l3 := h3.lt
  have hy := y.size
  refine ⟨⟨⟨_, ht.later y.grows (fun k hk => (hS k hk).1)⟩, rfl⟩, ⟨m, h2.touch ht (fun e => (hS _ e).2.2.1 rfl) (fun e => (hS _ e).2.2.2.1 rfl)⟩, h3.touch ht (fun e => (hS _ e).2.2.2.2 rfl), ⟨_, hp, fun k hk => ?_⟩, h6⟩
  rcases hk with hk | ⟨hk, hk2⟩
  · exact ⟨(hS k hk).1, Nat.lt_of_lt_of_le (hS k hk).2.1 ht.size, (hS k hk).2.2⟩
  · exact ⟨by omega, hk2, by omega, by omega, by omega⟩
theorem WsC.stepped (h : WsC w0 bf gf bs bh st w) (j u : Nat) : WsC w0 bf gf bs bh ⟨st.L, st.s, st.k.set j u⟩ (w.setCell ⟨bs, j, none⟩ (.int .i64 (u : Int))) := by
  obtain ⟨⟨y, rfl⟩, ⟨m, h2⟩, h3, ⟨S2, h4, h5⟩, h6⟩ := h
  have ht : Touch (fun k => k = bs) y.now (y.now.setCell ⟨bs, j, none⟩ (.int .i64 (u : Int))) := (Touch.refl (fun k => k = bs) y.now).set (p := ⟨bs, j, none⟩) (.inl rfl) _
  refine ⟨⟨⟨_, ht.later y.grows (fun k hk => by rw [hk]; exact h6.2.2.1)⟩, rfl⟩, ⟨m, h2.touch ht (fun e => h6.2.2.2.1 e.symm) (fun e => h6.2.2.2.2 e.symm)⟩, ?_, ⟨S2, h4.touch ht (fun k hk e => (h5 k hk).2.2.2.2 e), fun k hk => by rw [size_setCell]; exact h5 k hk⟩, h6⟩
  have e : nv (st.k.set j u) = (nv st.k).set j (.int .i64 (u : Int)) := by unfold nv; rw [List.map_set]
  rw [e]
  exact h3.set j _
end
end Go.Proofs.Ytgplpgldhoelcaa

namespace Go.Proofs.Ytgplpgldhoelcaa
open Go Go.RowKit Go.Maps Go.WideMaps
theorem arrP : ArrKey Try.prog 189 3 2 := ⟨Try.underlying189, by kernel_rfl, by kernel_rfl, by kernel_rfl⟩
theorem keyedP : Keyed Try.prog 189 := Keyed.of_law arrP.law
theorem typesP : ∃ m, Try.prog.types.size = m + 1 := ⟨Try.prog.types.size - 1, by decide +kernel⟩
def kP (a b : Int) : Lit := .string (keyBytes [.int .i64 a, .int .i64 b])
theorem keyLitP (a b : Int) : WideAt.IsKeyLit (kP a b) := by trivial
theorem keyOfP {a b : Int} (wa : I64 a) (wb : I64 b) : keyOf Try.prog 189 (.agg #[.int .i64 a, .int .i64 b]) = some (kP a b) := keyOf_pair arrP Try.underlying3 typesP (i64_wf wa) (i64_wf wb)
theorem kP_inj {a b c d : Int} (wa : I64 a) (wb : I64 b) (wc : I64 c) (wd : I64 d) (h : kP a b = kP c d) : a = c ∧ b = d := by
  have h1 := keyOfP wa wb
  rw [h] at h1
  have := keyedP.inj h1 (keyOfP wc wd)
  injection this with this
  injection this with this
  injection this with h2 h3
  injection h2 with _ h2
  injection h3 with h3
  injection h3 with _ h3
  exact ⟨h2, h3⟩
def MapPI (w : World) (b n : Nat) (f : Int → Int → Bool) : Prop :=
  ∃ D : DataW Unit, w.ownsMap Try.prog 189 (plainElem Try.prog 3) b n D ∧ (∀ x y, I64 x → I64 y → Maps.has D (kP x y) = f x y)
theorem MapPI.made (w : World) : MapPI (w.alloc (.map #[] 0)) w.heap.size 0 (fun _ _ => false) :=
  ⟨.map [], World.ownsMap_made _ _ _ _, fun _ _ _ _ => rfl⟩
theorem MapPI.grows {w w' : World} {b n : Nat} {f : Int → Int → Bool} (h : MapPI w b n f) (hg : Grows w w') : MapPI w' b n f := by
  obtain ⟨D, h1, h2⟩ := h
  exact ⟨D, h1.kept (row := none) ⟨hg.os, hg.tape, hg.output, hg.size, fun i hi _ => hg.block i hi⟩ (by simp), h2⟩
theorem MapPI.row {w w' : World} {b n B n' c size : Nat} {f : Int → Int → Bool} {e : TypeId} {A : Option Addr} {xs : List Value} (h : MapPI w b n f) (ho : Own w B e size A n' c xs) (hg : w.grownBy w' (Value.slice A n' c).ownBlock) : MapPI w' b n f := by
  obtain ⟨D, h1, h2⟩ := h
  refine ⟨D, h1.kept hg ?_, h2⟩
  obtain ⟨es, clock, hb, _⟩ := h1
  intro hc
  rcases ho.2 with ⟨h3, _⟩ | ⟨g, cap, cur, h3, _, h4, _⟩
  · injection h3 with h3
    subst h3
    simp [Value.ownBlock] at hc
  · injection h3 with h3
    subst h3
    simp [Value.ownBlock] at hc
    subst hc
    rw [hb] at h4
    cases h4
section
variable {w : World} {ops : Array Oper} {rest : List Oper} {o : Oper} {a : Act} {Q : Exit → Act → World → Prop}
end
end Go.Proofs.Ytgplpgldhoelcaa

namespace Go.Proofs.Ytgplpgldhoelcaa
open Go Go.RowKit Go.Maps
theorem u64_wf {n : Int} (h : U64 n) : (Lit.int .u64 n).wf = true := by
  unfold U64 at h
  simp [Lit.wf, IntKind.min, IntKind.max, IntKind.bits, IntKind.signed]
  omega
def MapIU (w : World) (b n s : Nat) (f : Int → Option Int) : Prop :=
  ∃ D : DataW Unit, w.ownsMap Try.prog 3 (plainElem Try.prog 38) b n D ∧ Maps.size D = s ∧ (∀ k, Maps.has D (.int .i64 k) = (f k).isSome) ∧
    ∀ k, D.atKey (.int .i64 k) (.lit (.int .u64 0)) = .lit (.int .u64 ((f k).getD 0))
theorem zeroU (w : World) : (zeroValue 38).run Try.prog w = .ok (.int .u64 0) w := by kernel_rfl
theorem MapIU.made (w : World) : MapIU (w.alloc (.map #[] 0)) w.heap.size 0 0 (fun _ => none) :=
  ⟨.map [], World.ownsMap_made _ _ _ _, rfl, fun _ => rfl, fun _ => rfl⟩
theorem MapIU.grows {w w' : World} {b n s : Nat} {f : Int → Option Int} (h : MapIU w b n s f) (hg : Grows w w') : MapIU w' b n s f := by
  obtain ⟨D, h1, h2⟩ := h
  exact ⟨D, h1.kept (row := none) ⟨hg.os, hg.tape, hg.output, hg.size, fun i hi _ => hg.block i hi⟩ (by simp), h2⟩
section
variable {w : World} {ops : Array Oper} {rest : List Oper} {o : Oper} {a : Act} {Q : Exit → Act → World → Prop}
theorem wp_mapPutU (hg : o.guard = none) (m x v : Operand) (hop : o.op = Op.mapUpdate 152 m x v) (b n s : Nat) (f : Int → Option Int) (hm : a.eval m = .map (some b)) (hown : MapIU w b n s f) (hn : n < maxLen)
    (k y : Int) (hx : a.eval x = .int .i64 k) (hv : a.eval v = .int .u64 y) (wk : I64 k) (wy : U64 y)
    (hK : ∀ w', MapIU w' b (n + 1) (if (f k).isSome then s else s + 1) (fun z => if z = k then some y else f z) → w.grownBy w' (some b) → wpList Try.prog ops Q rest (a.put o.dst undef) w') :
    wpList Try.prog ops Q (o :: rest) a w := by
  obtain ⟨D, h1, h2, h3, h4⟩ := hown
  refine wpList_mapUpdate_own w hg m x v 152 hop 3 38 keyedI Try.underlying152 (plainElem Try.prog 38) b n D hm h1 hn _ _ (.int .i64 k) hx hv (keyOf_int_mk Try.underlying3 (i64_wf wk)) (.lit (.int .u64 y)) [] (plainElem_int Try.underlying38 (u64_wf wy)) ?_
  intro w' h' hgr
  refine hK w' ⟨_, h', ?_, fun z => ?_, fun z => ?_⟩ hgr
  · rw [Maps.size_put (h1.tidy keyedI), h2, h3]
  · by_cases e : z = k
    · subst e; rw [Maps.has_put_same (h1.isMap) (keyLit z)]; simp
    · rw [Maps.has_put_other (by intro h; injection h with _ h; exact e h), h3]; simp [e]
  · by_cases e : z = k
    · subst e; rw [Maps.atKey_put_same (h1.isMap) (keyLit z)]; simp
    · rw [Maps.atKey_put_other (by intro h; injection h with _ h; exact e h), h4]; simp [e]
end
theorem MapIU.row {w w' : World} {b n s B n' c size : Nat} {f : Int → Option Int} {e : TypeId} {A : Option Addr} {xs : List Value} (h : MapIU w b n s f) (ho : w.ownsRow B e size (.slice A n' c) n' xs) (hg : w.grownBy w' (Value.slice A n' c).ownBlock) : MapIU w' b n s f := by
  obtain ⟨D, h1, h2⟩ := h
  refine ⟨D, h1.kept hg ?_, h2⟩
  obtain ⟨es, clock, hb, _⟩ := h1
  intro hc
  rcases ho.2 with ⟨h3, _⟩ | ⟨g, cap, cur, h3, _, h4, _⟩
  · injection h3 with h3
    subst h3
    simp [Value.ownBlock] at hc
  · injection h3 with h3
    subst h3
    simp [Value.ownBlock] at hc
    subst hc
    rw [hb] at h4
    cases h4
end Go.Proofs.Ytgplpgldhoelcaa

namespace Go.Proofs.Ytgplpgldhoelcaa
open Go Go.RowKit Go.Maps Go.WideMaps
def MapPV (w : World) (b n : Nat) (f : Int → Int → Option Int) : Prop :=
  ∃ D : DataW Unit, w.ownsMap Try.prog 189 (plainElem Try.prog 3) b n D ∧ (∀ x y, I64 x → I64 y → Maps.has D (kP x y) = (f x y).isSome) ∧ ∀ x y, I64 x → I64 y → D.atKey (kP x y) (.lit (.int .i64 0)) = .lit (.int .i64 ((f x y).getD 0))
theorem MapPV.made (w : World) : MapPV (w.alloc (.map #[] 0)) w.heap.size 0 (fun _ _ => none) :=
  ⟨.map [], World.ownsMap_made _ _ _ _, fun _ _ _ _ => rfl, fun _ _ _ _ => rfl⟩
theorem MapPV.touch {w w' : World} {b n : Nat} {f : Int → Int → Option Int} {S : Nat → Prop} (h : MapPV w b n f) (ht : Touch S w w') (hs : ¬ S b) : MapPV w' b n f := by
  obtain ⟨D, ⟨es, clock, hb, h2⟩, h3⟩ := h
  exact ⟨D, ⟨es, clock, ht.at hs hb, h2⟩, h3⟩
theorem MapPV.lt {w : World} {b n : Nat} {f : Int → Int → Option Int} (h : MapPV w b n f) : b < w.heap.size := by
  obtain ⟨D, ⟨es, clock, hb, h2⟩, h3⟩ := h
  exact (Array.getElem?_eq_some_iff.1 hb).1
theorem MapPV.mono {w : World} {b n m : Nat} {f : Int → Int → Option Int} (h : MapPV w b n f) (hn : n ≤ m) : MapPV w b m f := by
  obtain ⟨D, h1, h3⟩ := h
  exact ⟨D, h1.mono hn, h3⟩
theorem MapIU.touch {w w' : World} {b n s : Nat} {f : Int → Option Int} {S : Nat → Prop} (h : MapIU w b n s f) (ht : Touch S w w') (hs : ¬ S b) : MapIU w' b n s f := by
  obtain ⟨D, ⟨es, clock, hb, h2⟩, h3⟩ := h
  exact ⟨D, ⟨es, clock, ht.at hs hb, h2⟩, h3⟩
theorem MapIU.lt {w : World} {b n s : Nat} {f : Int → Option Int} (h : MapIU w b n s f) : b < w.heap.size := by
  obtain ⟨D, ⟨es, clock, hb, h2⟩, h3⟩ := h
  exact (Array.getElem?_eq_some_iff.1 hb).1
section
variable {w : World} {ops : Array Oper} {rest : List Oper} {o : Oper} {a : Act} {Q : Exit → Act → World → Prop}
theorem wp_mapPutV (hg : o.guard = none) (m x v : Operand) (hop : o.op = Op.mapUpdate 148 m x v) (b n : Nat) (f : Int → Int → Option Int) (hm : a.eval m = .map (some b)) (hown : MapPV w b n f) (hn : n < maxLen)
    (k1 k2 y : Int) (hx : a.eval x = .agg #[.int .i64 k1, .int .i64 k2]) (hv : a.eval v = .int .i64 y) (w1 : I64 k1) (w2 : I64 k2) (wy : I64 y)
    (hK : ∀ w', MapPV w' b (n + 1) (fun p q => if p = k1 ∧ q = k2 then some y else f p q) → Touch (fun k => k = b) w w' → wpList Try.prog ops Q rest (a.put o.dst undef) w') :
    wpList Try.prog ops Q (o :: rest) a w := by
  obtain ⟨D, h1, h3, h4⟩ := hown
  refine wpList_mapUpdate_own w hg m x v 148 hop 189 3 keyedP Try.underlying148 (plainElem Try.prog 3) b n D hm h1 hn _ _ (kP k1 k2) hx hv (keyOfP w1 w2) (.lit (.int .i64 y)) [] (plainElem_int Try.underlying3 (i64_wf wy)) ?_
  intro w' h' hgr
  refine hK w' ⟨_, h', fun p q wp wq => ?_, fun p q wp wq => ?_⟩ ((Touch.refl _ w).grown hgr fun k hk => .inl (by simpa using hk.symm))
  · by_cases e : p = k1 ∧ q = k2
    · obtain ⟨rfl, rfl⟩ := e
      rw [Maps.has_put_same (h1.isMap) (keyLitP p q)]; simp
    · rw [Maps.has_put_other (by intro h; exact e (kP_inj wp wq w1 w2 h)), h3 p q wp wq]; simp [e]
  · by_cases e : p = k1 ∧ q = k2
    · obtain ⟨rfl, rfl⟩ := e
      rw [Maps.atKey_put_same (h1.isMap) (keyLitP p q)]; simp
    · rw [Maps.atKey_put_other (by intro h; exact e (kP_inj wp wq w1 w2 h)), h4 p q wp wq]; simp [e]
theorem wp_mapGetOkU (hg : o.guard = none) (m x : Operand) (hop : o.op = Op.lookup 152 m x true) (b n s : Nat) (f : Int → Option Int) (hm : a.eval m = .map (some b)) (hown : MapIU w b n s f)
    (k : Int) (hx : a.eval x = .int .i64 k) (wk : I64 k)
    (hK : wpList Try.prog ops Q rest (a.put o.dst (.tuple #[.int .u64 ((f k).getD 0), .bool (f k).isSome])) w) : wpList Try.prog ops Q (o :: rest) a w := by
  obtain ⟨D, h1, h2, h3, h4⟩ := hown
  refine wpList_lookup_own_ok_int w hg m x 152 hop 3 38 .u64 keyedI Try.underlying152 Try.underlying38 (zeroU w) b n D hm h1 _ (.int .i64 k) hx (keyOf_int_mk Try.underlying3 (i64_wf wk)) ?_
  intro c hc _
  rw [h4] at hc
  injection hc with hc
  injection hc with _ hc
  rw [← hc, h3]
  exact hK
theorem wp_mapPutUT (hg : o.guard = none) (m x v : Operand) (hop : o.op = Op.mapUpdate 152 m x v) (b n s : Nat) (f : Int → Option Int) (hm : a.eval m = .map (some b)) (hown : MapIU w b n s f) (hn : n < maxLen)
    (k y : Int) (hx : a.eval x = .int .i64 k) (hv : a.eval v = .int .u64 y) (wk : I64 k) (wy : U64 y)
    (hK : ∀ w', MapIU w' b (n + 1) (if (f k).isSome then s else s + 1) (fun z => if z = k then some y else f z) → Touch (fun k => k = b) w w' → wpList Try.prog ops Q rest (a.put o.dst undef) w') :
    wpList Try.prog ops Q (o :: rest) a w :=
  wp_mapPutU hg m x v hop b n s f hm hown hn k y hx hv wk wy fun w' h hgr => hK w' h ((Touch.refl _ w).grown hgr fun k hk => .inl (by simpa using hk.symm))
end
end Go.Proofs.Ytgplpgldhoelcaa

