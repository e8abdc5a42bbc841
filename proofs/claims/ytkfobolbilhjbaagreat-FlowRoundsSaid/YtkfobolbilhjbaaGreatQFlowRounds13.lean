/- Plain law: the way that is followed from a node on, by the least edge that leads nearer. -/
import Derived.Test.YtkfobolbilhjbaaGreatQFlowRounds10
import Derived.Test.YtkfobolbilhjbaaGreatQFlowRounds11
import Derived.Test.YtkfobolbilhjbaaGreatQFlowRounds12
namespace Go.Proofs.YtkfobolbilhjbaaGreat
open Go Go.RowKit
def nearB (x : Srch) (d : List Nat) (v i : Nat) : Bool := decide (gn d (tN x.E i) < farV) && decide (gn d (tN x.E i) + gn x.W i = gn d v) && !x.ne i
inductive Fol (x : Srch) (d : List Nat) (t : Nat) : Nat → List Nat → Prop
  | here : Fol x d t t []
  | step {v i : Nat} {l : List Nat} : v ≠ t → i < x.E.length → fN x.E i = v → nearB x d v i = true → (∀ j, j < i → fN x.E j = v → nearB x d v j = false) → Fol x d t (tN x.E i) l → Fol x d t v (i :: l)
structure Near (x : Srch) (d : List Nat) (t : Nat) : Prop where
  ends : ∀ i, i < x.E.length → fN x.E i < x.N ∧ tN x.E i < x.N
  low : ∀ i, i < x.E.length → 1 ≤ gn x.W i
  zero : gn d t = 0
  by_ : ∀ v, v < x.N → v ≠ t → gn d v < farV → ∃ i, i < x.E.length ∧ fN x.E i = v ∧ nearB x d v i = true
  edge : ∀ i, i < x.E.length → cntE x i = true → gn d (tN x.E i) < farV → gn d (fN x.E i) ≤ gn d (tN x.E i) + gn x.W i
  clean : ∀ v, v < x.N → gn d v < farV → x.nn v = false
theorem least_of {p : Nat → Bool} : ∀ {n : Nat}, (∃ i, i < n ∧ p i = true) → ∃ i, i < n ∧ p i = true ∧ ∀ j, j < i → p j = false := by
  intro n
  induction n with
  | zero => rintro ⟨i, hi, _⟩; omega
  | succ n ih =>
    rintro ⟨i, hi, hp⟩
    by_cases h : ∃ j, j < n ∧ p j = true
    · obtain ⟨j, h1, h2, h3⟩ := ih h
      exact ⟨j, by omega, h2, h3⟩
    · have hn : ∀ j, j < n → p j = false := fun j hj => by
        cases hq : p j with
        | false => rfl
        | true => exact absurd ⟨j, hj, hq⟩ h
      have e : i = n := by
        rcases Nat.lt_or_ge i n with h1 | h1
        · rw [hn i h1] at hp; cases hp
        · omega
      subst e
      exact ⟨i, hi, hp, hn⟩
theorem nearB_yes {x : Srch} {d : List Nat} {v i : Nat} (h : nearB x d v i = true) : gn d (tN x.E i) < farV ∧ gn d (tN x.E i) + gn x.W i = gn d v ∧ x.ne i = false := by
  unfold nearB at h
  simp only [Bool.and_eq_true, decide_eq_true_eq, Bool.not_eq_true'] at h
  exact ⟨h.1.1, h.1.2, h.2⟩
theorem Near.fol {x : Srch} {d : List Nat} {t : Nat} (h : Near x d t) : ∀ (n v : Nat), gn d v ≤ n → v < x.N → gn d v < farV → ∃ l, Fol x d t v l := by
  intro n
  induction n with
  | zero =>
    intro v hn hv hf
    by_cases e : v = t
    · subst e; exact ⟨[], .here⟩
    · obtain ⟨i, hi, hfi, hb⟩ := h.by_ v hv e hf
      have h1 := (nearB_yes hb).2.1
      have h2 := h.low i hi
      omega
  | succ n ih =>
    intro v hn hv hf
    by_cases e : v = t
    · subst e; exact ⟨[], .here⟩
    · obtain ⟨i0, hi0, hfi0, hb0⟩ := h.by_ v hv e hf
      obtain ⟨i, hi, hp, hl⟩ := least_of (p := fun i => decide (fN x.E i = v) && nearB x d v i) (n := x.E.length) ⟨i0, hi0, by rw [hb0, decide_eq_true hfi0]; rfl⟩
      simp only [Bool.and_eq_true, decide_eq_true_eq] at hp
      have h1 := nearB_yes hp.2
      have h2 := h.low i hi
      obtain ⟨l, hfol⟩ := ih (tN x.E i) (by omega) (h.ends i hi).2 h1.1
      refine ⟨i :: l, .step e hi hp.1 hp.2 (fun j hj hfj => ?_) hfol⟩
      have := hl j hj
      rw [decide_eq_true hfj, Bool.true_and] at this
      exact this
theorem Fol.one {x : Srch} {d : List Nat} {t v : Nat} {l k : List Nat} (h : Fol x d t v l) (h2 : Fol x d t v k) : l = k := by
  induction h generalizing k with
  | here =>
    cases h2 with
    | here => rfl
    | step hne => exact absurd rfl hne
  | @step v i l hne hi hfi hb hl hfol ih =>
    cases h2 with
    | here => exact absurd rfl hne
    | @step _ j l2 _ hj hfj hb2 hl2 hfol2 =>
      have e : i = j := by
        rcases Nat.lt_trichotomy i j with h | h | h
        · rw [hl2 i h hfi] at hb; cases hb
        · exact h
        · rw [hl j h hfj] at hb2; cases hb2
      subst e
      rw [ih hfol2]
theorem Fol.down {x : Srch} {d : List Nat} {t v : Nat} {l : List Nat} (hn : Near x d t) (h : Fol x d t v l) (hv : v < x.N) : (v :: l.map (tN x.E)).Pairwise (fun a b => gn d b < gn d a) ∧ ∀ u, u ∈ v :: l.map (tN x.E) → u < x.N := by
  induction h with
  | here => exact ⟨by simp, fun u hu => by rw [List.mem_singleton.1 hu]; exact hv⟩
  | @step v i l hne hi hfi hb hl hfol ih =>
    obtain ⟨h1, h2⟩ := ih (hn.ends i hi).2
    have hlt : gn d (tN x.E i) < gn d v := by
      have h3 := (nearB_yes hb).2.1
      have h4 := hn.low i hi
      omega
    refine ⟨?_, fun u hu => ?_⟩
    · rw [List.map_cons]
      refine List.Pairwise.cons (fun u hu => ?_) h1
      rcases List.mem_cons.1 hu with e | e
      · rw [e]; exact hlt
      · exact Nat.lt_trans ((List.pairwise_cons.1 h1).1 u e) hlt
    · rw [List.map_cons] at hu
      rcases List.mem_cons.1 hu with e | e
      · rw [e]; exact hv
      · exact h2 u e
theorem Fol.nodup {x : Srch} {d : List Nat} {t v : Nat} {l : List Nat} (hn : Near x d t) (h : Fol x d t v l) (hv : v < x.N) : (v :: l.map (tN x.E)).Nodup :=
  (h.down hn hv).1.imp fun {a b} hab e => by rw [e] at hab; exact Nat.lt_irrefl _ hab
theorem Fol.short {x : Srch} {d : List Nat} {t v : Nat} {l : List Nat} (hn : Near x d t) (h : Fol x d t v l) (hv : v < x.N) : l.length < x.N := by
  have h1 := List.Nodup.length_le_of_subset (h.nodup hn hv) (l₂ := List.range x.N) (fun u hu => List.mem_range.2 ((h.down hn hv).2 u hu))
  simp at h1
  omega
theorem Fol.edges {x : Srch} {d : List Nat} {t v : Nat} {l : List Nat} (h : Fol x d t v l) : ∀ i ∈ l, i < x.E.length := by
  induction h with
  | here => intro i hi; cases hi
  | step hne hi hfi hb hl hfol ih =>
    intro j hj
    rcases List.mem_cons.1 hj with e | e
    · rw [e]; exact hi
    · exact ih j e
theorem Fol.next {x : Srch} {d : List Nat} {t v : Nat} {l : List Nat} (h : Fol x d t v l) (hne : v ≠ t) : ∃ i l', l = i :: l' ∧ i < x.E.length ∧ fN x.E i = v ∧ nearB x d v i = true ∧ (∀ j, j < i → fN x.E j = v → nearB x d v j = false) ∧ Fol x d t (tN x.E i) l' := by
  cases h with
  | here => exact absurd rfl hne
  | step h1 h2 h3 h4 h5 h6 => exact ⟨_, _, rfl, h2, h3, h4, h5, h6⟩
theorem Fol.end_ {x : Srch} {d : List Nat} {t : Nat} {l : List Nat} (h : Fol x d t t l) : l = [] := h.one .here
theorem Near.pos {x : Srch} {d : List Nat} {t v : Nat} (h : Near x d t) (hv : v < x.N) (hne : v ≠ t) : 0 < gn d v := by
  rcases Nat.lt_or_ge (gn d v) farV with hf | hf
  · obtain ⟨i, hi, _, hb⟩ := h.by_ v hv hne hf
    have h1 := (nearB_yes hb).2.1
    have h2 := h.low i hi
    omega
  · unfold farV at hf; omega
theorem Near.same {x : Srch} {d : List Nat} {t v i : Nat} (h : Near x d t) (hi : i < x.E.length) (hfi : fN x.E i = v) (hv : gn d v < farV) :
    (cnt2 x i && decide (gn d (tN x.E i) < farV) && decide (gn x.W i + gn d (tN x.E i) = gn d v)) = nearB x d v i := by
  unfold nearB cnt2
  have hfN := (h.ends i hi).1
  have htN := (h.ends i hi).2
  have c1 := h.clean (fN x.E i) hfN (by rw [hfi]; exact hv)
  rw [c1]
  by_cases hf : gn d (tN x.E i) < farV
  · rw [h.clean _ htN hf, decide_eq_true hf, Nat.add_comm]
    cases x.ne i <;> simp
  · rw [decide_eq_false hf]
    simp
theorem Near.of {x : Srch} {t mw : Nat} {xs : List (Nat × Nat)} (h : Far x t mw xs) (hx : SrchIn x mw) (hb : x.N * mw < farV) (hm : x.most = 0) (hk : x.back = true) (ends : ∀ i, i < x.E.length → fN x.E i < x.N ∧ tN x.E i < x.N) (ht : t < x.N) (hnt : x.nn t = false) : Near x (outL x.N xs) t := by
  have e1 : ∀ i, nN x.E x.back i = tN x.E i := fun i => by rw [hk]; rfl
  have e2 : ∀ i, toE x i = fN x.E i := fun i => by unfold toE; rw [hk]; rfl
  refine ⟨ends, hx.low, h.begin_ ht, fun v hv hvs hf => ?_, fun i hi hc hf => ?_, fun v hv hf => ?_⟩
  · rcases outL_cases h hb hv with ⟨h1, _⟩ | ⟨h1, _⟩
    · obtain ⟨f, hfe⟩ : ∃ f, gn (outL x.N xs) v = f := ⟨_, rfl⟩
      rw [hfe] at h1 hf
      have hw := (h.way _ _ h1).2.1
      cases hw with
      | here => exact absurd rfl hvs
      | @step f' i hw hi hc =>
        obtain ⟨g, hg, hle⟩ := h.all _ _ hw (fun h => by omega)
        have hwg := (h.way _ _ hg).2.1
        obtain ⟨g2, hg2, hle2⟩ := h.all _ _ (hwg.step hi hc) (fun h => by omega)
        have e := h.one hg2 h1
        have e3 := outL_at h.nodup (v := nN x.E x.back i) (by rw [e1]; exact (ends i hi).2) hg
        refine ⟨i, hi, (e2 i).symm, ?_⟩
        rw [e1] at e3
        unfold nearB
        unfold cntE at hc
        simp only [Bool.and_eq_true, Bool.not_eq_true'] at hc
        rw [e3, hc.1, hfe, decide_eq_true (show g < farV by omega), decide_eq_true (show g + gn x.W i = f' + gn x.W i by omega)]
        rfl
    · omega
  · have := h.edge hb hm (i := i) (by rw [e1]; exact (ends i hi).2) (by rw [e2]; exact (ends i hi).1) hi hc (by rw [e1]; exact hf)
    rw [e1, e2] at this
    exact this
  · rcases outL_cases h hb hv with ⟨h1, _⟩ | ⟨h1, _⟩
    · exact (h.way _ _ h1).2.1.clean hnt
    · omega
end Go.Proofs.YtkfobolbilhjbaaGreat

namespace Go.Proofs.YtkfobolbilhjbaaGreat
open Go Go.RowKit
def backO (o : DOpt) : DOpt := ⟨true, o.nn, o.ne, o.W, 0⟩
structure PathOk (NN sN tN : Nat) (E : List Edg) (o : DOpt) (xs : List (Nat × Nat)) : Prop where
  ok : WalkOk NN tN E (backO o)
  dc : dcF NN tN E o.W = 0
  dcs : dcF NN sN E o.W = 0
  node : sN < NN
  tr : if (tN : Int) ∈ o.nn then xs = [] else Trace (srchOf NN E (backO o)) (reachS 0 (st0 NN) tN 0) xs
  lt : ∀ p, p ∈ xs → p.1 < NN
  ref : refL (srchOf NN E (backO o)) tN = outL NN xs
  wb : ∀ i, i < E.length → 1 ≤ gn (wtF NN E o.W) i ∧ gn (wtF NN E o.W) i ≤ 17592186044416
  far : (tN : Int) ∉ o.nn → Far (srchOf NN E (backO o)) tN 17592186044416 xs
inductive IsPath (E : List Edg) (o : DOpt) (N s t : Int) : List Nat → Nat → Int → Prop
  | bad : dcF N s E o.W ≠ 0 → IsPath E o N s t [] 0 (dcF N s E o.W)
  | noNode : dcF N s E o.W = 0 → ¬ (0 ≤ t ∧ t < N) → IsPath E o N s t [] 0 7
  | noPath (NN sN tN : Nat) (xs : List (Nat × Nat)) : N = NN → s = sN → t = tN → PathOk NN sN tN E o xs → gn (outL NN xs) sN = farV → IsPath E o N s t [] 0 9
  | way (NN sN tN : Nat) (xs : List (Nat × Nat)) (l : List Nat) : N = NN → s = sN → t = tN → PathOk NN sN tN E o xs → gn (outL NN xs) sN < farV → Near (srchOf NN E (backO o)) (outL NN xs) tN → Fol (srchOf NN E (backO o)) (outL NN xs) tN sN l →
      IsPath E o N s t l (gn (outL NN xs) sN) 0
theorem dc_node {N s t : Int} {E : List Edg} {W : List Nat} (h : dcF N s E W = 0) (ht : 0 ≤ t ∧ t < N) : dcF N t E W = 0 := by
  unfold dcF at h ⊢
  split at h
  · cases h
  split at h
  · cases h
  rename_i h1 h2
  rw [if_neg h1, if_neg (by unfold nodeB; simp; omega)]
  exact h
theorem path_walk {NN sN tN : Nat} {E : List Edg} {o : DOpt} (hd : dcF NN sN E o.W = 0) (ht : tN < NN) (hnn : o.nn.length ≤ 1000000) (hne : o.ne.length ≤ 1000000) : ∃ xs, PathOk NN sN tN E o xs := by
  obtain ⟨rr, hs0, hsN, hwt, hwb⟩ := dc_ok hd
  obtain ⟨r1, r2, r3, r4, r5⟩ := right_in rr
  rw [Int.toNat_natCast] at r4
  have hok : WalkOk NN tN E (backO o) := ⟨rr, ht, hwt, by show (0 : Nat) < _; omega, hnn, hne⟩
  have hdt : dcF NN tN E o.W = 0 := dc_node hd ⟨by omega, by omega⟩
  have hb : NN * 17592186044416 < farV := by
    have : NN * 17592186044416 ≤ 4096 * 17592186044416 := Nat.mul_le_mul_right _ (by omega)
    unfold farV; omega
  by_cases hn : (tN : Int) ∈ o.nn
  · refine ⟨[], hok, hdt, hd, by omega, by rw [if_pos hn], fun p hp => (by cases hp), ?_, hwb, fun h => absurd hn h⟩
    unfold refL
    rw [if_pos (show (srchOf NN E (backO o)).nn tN = true from decide_eq_true hn)]
    rfl
  · obtain ⟨xs, h1, h2, h3⟩ := walk_is hok hwb (Nat.le_refl _) hn
    have hs := hok.srch
    have hin : SrchIn (srchOf NN E (backO o)) 17592186044416 := ⟨fun i hi => by
      have h1 := hs.ends.f i hi
      have h2 := hs.ends.t i hi
      unfold toE
      split
      · exact h1.1
      · exact h2.1, fun i hi => (hwb i hi).1, fun i hi => (hwb i hi).2⟩
    obtain ⟨ys, h4, h5⟩ := trace_whole (x := freeX (srchOf NN E (backO o))) (s := tN) (mw := 17592186044416) ⟨hin.ends, hin.low, hin.high⟩ hs.nodes hok.node (by omega)
    refine ⟨xs, hok, hdt, hd, by omega, h1, h3, refL_is h2 h5 hin hb hok.node (decide_eq_false hn) (fun i hi => ?_), hwb, fun _ => h2⟩
    have h1 := hs.ends.f i hi
    have h2 := hs.ends.t i hi
    unfold nN
    split
    · exact h2.1
    · exact h1.1
theorem PathOk.bound {NN sN tN : Nat} {E : List Edg} {o : DOpt} {xs : List (Nat × Nat)} (h : PathOk NN sN tN E o xs) : NN * 17592186044416 < farV ∧ NN ≤ 4096 ∧ E.length ≤ 16384 := by
  obtain ⟨r1, r2, r3, r4, r5⟩ := right_in h.ok.right
  have : NN * 17592186044416 ≤ 4096 * 17592186044416 := Nat.mul_le_mul_right _ (by omega)
  unfold farV
  exact ⟨by omega, by omega, r3⟩
theorem PathOk.near {NN sN tN : Nat} {E : List Edg} {o : DOpt} {xs : List (Nat × Nat)} (h : PathOk NN sN tN E o xs) (hn : (tN : Int) ∉ o.nn) : Near (srchOf NN E (backO o)) (outL NN xs) tN := by
  have hs := h.ok.srch
  have hin : SrchIn (srchOf NN E (backO o)) 17592186044416 := ⟨fun i hi => by
    have h1 := hs.ends.f i hi
    have h2 := hs.ends.t i hi
    unfold toE
    split
    · exact h1.1
    · exact h2.1, fun i hi => (h.wb i hi).1, fun i hi => (h.wb i hi).2⟩
  exact Near.of (x := srchOf NN E (backO o)) (h.far hn) hin h.bound.1 rfl rfl (fun i hi => ⟨(hs.ends.f i hi).1, (hs.ends.t i hi).1⟩) h.ok.node (decide_eq_false hn)
theorem isPath_any (E : List Edg) (o : DOpt) (N s t : Int) (hnn : o.nn.length ≤ 1000000) (hne : o.ne.length ≤ 1000000) : ∃ l f r, IsPath E o N s t l f r := by
  by_cases hd : dcF N s E o.W = 0
  · by_cases ht : 0 ≤ t ∧ t < N
    · obtain ⟨rr, hs0, hsN, _, _⟩ := dc_ok hd
      obtain ⟨NN, rfl⟩ : ∃ NN : Nat, N = (NN : Int) := ⟨N.toNat, by omega⟩
      obtain ⟨sN, rfl⟩ : ∃ sN : Nat, s = (sN : Int) := ⟨s.toNat, by omega⟩
      obtain ⟨tN, rfl⟩ : ∃ tN : Nat, t = (tN : Int) := ⟨t.toNat, by omega⟩
      obtain ⟨xs, hx⟩ := path_walk (tN := tN) (o := o) hd (by omega) hnn hne
      by_cases hn : (tN : Int) ∈ o.nn
      · have hxs : xs = [] := by have := hx.tr; rwa [if_pos hn] at this
        exact ⟨_, _, _, .noPath NN sN tN xs rfl rfl rfl hx (by rw [hxs]; exact outL_no hx.node (by simp))⟩
      · rcases outL_cases (x := srchOf NN E (backO o)) (hx.far hn) hx.bound.1 hx.node with ⟨_, h1⟩ | ⟨h1, _⟩
        · obtain ⟨l, hl⟩ := (hx.near hn).fol _ sN (Nat.le_refl _) hx.node h1
          exact ⟨_, _, _, .way NN sN tN xs l rfl rfl rfl hx h1 (hx.near hn) hl⟩
        · exact ⟨_, _, _, .noPath NN sN tN xs rfl rfl rfl hx h1⟩
    · exact ⟨_, _, _, .noNode hd ht⟩
  · exact ⟨_, _, _, .bad hd⟩
theorem IsPath.short {E : List Edg} {o : DOpt} {N s t r : Int} {l : List Nat} {f : Nat} (h : IsPath E o N s t l f r) : l.length ≤ 4096 ∧ f < farV := by
  cases h with
  | bad => exact ⟨Nat.zero_le _, by unfold farV; omega⟩
  | noNode => exact ⟨Nat.zero_le _, by unfold farV; omega⟩
  | noPath => exact ⟨Nat.zero_le _, by unfold farV; omega⟩
  | way NN sN tN xs l hN hs ht hok hf hn hl =>
    have h1 := hl.short hn hok.node
    have h2 := hok.bound.2.1
    have h3 : l.length < NN := h1
    exact ⟨by omega, hf⟩
end Go.Proofs.YtkfobolbilhjbaaGreat

namespace Go.Proofs.YtkfobolbilhjbaaGreat
open Go Go.RowKit
theorem IsPath.edges {E : List Edg} {o : DOpt} {N s t : Int} {l : List Nat} {f : Nat} {r : Int} (h : IsPath E o N s t l f r) : ∀ i ∈ l, i < E.length := by
  cases h with
  | bad => intro i hi; cases hi
  | noNode => intro i hi; cases hi
  | noPath => intro i hi; cases hi
  | way NN sN tN xs l hN hs ht hok hf hn hl => exact hl.edges
def addOne (n : Int) (L : List Int) (e : Nat) : List Int := L.set e (IntKind.u64.wrap (gi L e + n))
def addAt (L : List Int) (n : Int) (es : List Nat) : List Int := es.foldl (addOne n) L
theorem addOne_len (n : Int) (L : List Int) (e : Nat) : (addOne n L e).length = L.length := by simp [addOne]
theorem addAt_len (n : Int) (es : List Nat) : ∀ L : List Int, (addAt L n es).length = L.length := by
  induction es with
  | nil => intro L; rfl
  | cons e es ih => intro L; exact (ih _).trans (addOne_len n L e)
theorem addAt_succ (L : List Int) (n : Int) (es : List Nat) (k : Nat) (hk : k < es.length) : addAt L n (es.take (k + 1)) = addOne n (addAt L n (es.take k)) (gn es k) := by
  have e1 : es.take (k + 1) = es.take k ++ [gn es k] := by
    rw [List.take_succ_eq_append_getElem hk]
    have : gn es k = es[k] := by simp [gn, hk]
    rw [this]
  unfold addAt
  rw [e1, List.foldl_append]
  rfl
abbrev Ways := Nat → List Nat × Nat × Int
def asgS (D : List Edg) (P : Ways) (m : Nat) : Nat → List Int × Int
  | 0 => (List.replicate m 0, 0)
  | k + 1 => if (P k).2.2 = 0 then (addAt (asgS D P m k).1 (ge D k).w (P k).1, (asgS D P m k).2) else ((asgS D P m k).1, IntKind.u64.wrap ((asgS D P m k).2 + (ge D k).w))
theorem asgS_len (D : List Edg) (P : Ways) (m k : Nat) : (asgS D P m k).1.length = m := by
  induction k with
  | zero => simp [asgS]
  | succ k ih =>
    unfold asgS
    split
    · rw [addAt_len]; exact ih
    · exact ih
def WaysOf (E : List Edg) (o : DOpt) (N : Int) (D : List Edg) (P : Ways) : Prop := ∀ k, k < D.length → IsPath E o N (ge D k).f (ge D k).t (P k).1 (P k).2.1 (P k).2.2
theorem ways_any (E : List Edg) (o : DOpt) (N : Int) (D : List Edg) (hnn : o.nn.length ≤ 1000000) (hne : o.ne.length ≤ 1000000) : ∃ P, WaysOf E o N D P := by
  have h : ∀ k : Nat, ∃ p : List Nat × Nat × Int, IsPath E o N (ge D k).f (ge D k).t p.1 p.2.1 p.2.2 := fun k => by
    obtain ⟨l, f, r, hp⟩ := isPath_any E o N (ge D k).f (ge D k).t hnn hne
    exact ⟨(l, f, r), hp⟩
  exact ⟨fun k => Classical.choose (h k), fun k _ => Classical.choose_spec (h k)⟩
end Go.Proofs.YtkfobolbilhjbaaGreat

namespace Go.Proofs.YtkfobolbilhjbaaGreat
open Go Go.RowKit
attribute [local go_sem] Oper.semAt_some
set_option maxHeartbeats 1000000 in
theorem slIndex (A : Option Addr) (n c : Nat) (l : List Int) (v : Int) (w : World) (h : Rd w A 1 n (l.map (.int .i64))) (hn : n ≤ 1000000) :
    Calls Tryz.prog 85 #[.slice A n c, .int .i64 v] w fun e w' => (∃ k : Int, e = .returned (.int .i64 k) ∧ -1 ≤ k ∧ k ≤ n ∧ (0 ≤ k ↔ v ∈ l)) ∧ w = w' := by
  have HL := hide (show l.length = n by simpa using h.len)
  have HR := hide h
  clear h
  go_enter Tryz.func85, Tryz.ntmps85
  go_wp2
  go_loop [8] (fun i => ∃ k : Nat, k ≤ n ∧ i = .int .i64 (k : Int) ∧ ∀ j, j < k → gi l j ≠ v) (fun i => n - (intOf i).toNat)
  case atStart => exact ⟨0, by omega, by go_num, fun j h1 => by omega⟩
  case round =>
    obtain ⟨q, hq, rfl, hall⟩ := hrel
    have HA := hide hall
    clear hall
    by_cases hend : n ≤ q
    · go_wp2
      go_ret
      refine ⟨⟨-1, rfl, by omega, by omega, ?_⟩, rfl⟩
      refine ⟨fun h => by omega, fun hm => ?_⟩
      obtain ⟨j, hj, e⟩ := mem_gi hm
      exact absurd e (HA.out j (by have := HL.out; omega))
    · obtain ⟨b, off, rfl, hc⟩ := HR.out.ints (by omega)
      have hc1 := hc q (by omega)
      clear hc
      by_cases hv : v = gi l q
      · have HV := hide (show v ∈ l from hv ▸ gi_mem (by have := HL.out; omega))
        have hd : (v == gi l q) = true := by simpa using hv
        clear hv
        go_wp2
        go_ret
        refine ⟨⟨q, rfl, by omega, by omega, ?_⟩, rfl⟩
        exact ⟨fun _ => HV.out, fun _ => by omega⟩
      · have HV := hide (fun e => hv (Eq.symm e))
        have hd : (v == gi l q) = false := by simpa using hv
        clear hv
        go_wp2
        go_round
        case measure => simp [intOf]; omega
        case rel =>
          refine ⟨q + 1, by omega, by go_num, fun j h1 => ?_⟩
          by_cases hj : j = q
          · rw [hj]; exact HV.out
          · exact HA.out j (by omega)
theorem slContains (A : Option Addr) (n c : Nat) (l : List Int) (v : Int) (w : World) (h : Rd w A 1 n (l.map (.int .i64))) (hn : n ≤ 1000000) :
    Calls Tryz.prog 69 #[.slice A n c, .int .i64 v] w fun e w' => e = .returned (.bool (decide (v ∈ l))) ∧ w = w' := by
  have HC := hide (slIndex A n c l v w h hn)
  clear h
  go_enter Tryz.func69, Tryz.ntmps69
  go_wp2_with (go_at_call 85; refine HC.out.mono ?_; rintro e w' ⟨⟨k, rfl, h1, h2, h3⟩, rfl⟩)
  go_ret
  exact ⟨ret_bool (by simp), rfl⟩
set_option maxRecDepth 20000 in
set_option maxHeartbeats 4000000 in
theorem caNear (NN : Nat) (E : List Edg) (o : DOpt) (d : List Nat) (v i b6 b7 b8 b9 : Nat) (Af Aw Ae : Option Addr) (cf cw ce : Nat) (z0 z1 z3 z4 : Value) (w : World)
    (hE : InN NN E) (hi : i < E.length) (hiE : E.length ≤ 1000000) (hv : v < NN) (hN : NN ≤ 1000000) (hdl : d.length = NN) (hwl : (wtF NN E o.W).length = E.length) (hw2 : gn (wtF NN E o.W) i ≤ 17592186044416) (hne : o.ne.length ≤ 1000000)
    (h6 : Arr w b6 3 [.int .i64 (v : Int)]) (h7 : Arr w b7 29 [.slice Af NN cf]) (h8 : Arr w b8 29 [.slice Aw E.length cw]) (h9 : Arr w b9 50 [z0, z1, .slice Ae o.ne.length ce, z3, z4])
    (rf : Rd w Af 1 NN (wv d)) (rw_ : Rd w Aw 1 E.length (wv (wtF NN E o.W))) (re : Rd w Ae 1 o.ne.length (o.ne.map (.int .i64))) :
    Calls Tryz.prog 68 #[.int .i64 (i : Int), eVal (ge E i), .pointer (some ⟨b7, 0, none⟩), .pointer (some ⟨b8, 0, none⟩), .pointer (some ⟨b6, 0, none⟩), .pointer (some ⟨b9, 0, none⟩)] w fun e w' => e = .returned (.bool (nearB (srchOf NN E o) d v i)) ∧ Grows w w' := by
  have C1 := hide (fun (W1 : World) (g : Grows w W1) => slContains Ae o.ne.length ce o.ne (i : Int) W1 (re.grows g) hne)
  have ht := hE.t i hi
  unfold eVal
  rw [ht.2]
  have hne2 : (srchOf NN E o).ne i = decide ((i : Int) ∈ o.ne) := rfl
  have hu : tN E i < NN := ht.1
  obtain ⟨bf, of, rfl, hcf⟩ := rf.at_ (by omega)
  obtain ⟨bw, ow, rfl, hcw⟩ := rw_.at_ (by omega)
  have k1 : Holds w ⟨bf, of + tN E i, none⟩ (.int .u64 (gn d (tN E i) : Int)) := ⟨hcf _ _ (wv_at (by omega))⟩
  have k2 : Holds w ⟨bf, of + v, none⟩ (.int .u64 (gn d v : Int)) := ⟨hcf _ _ (wv_at (by omega))⟩
  have k3 : Holds w ⟨bw, ow + i, none⟩ (.int .u64 (gn (wtF NN E o.W) i : Int)) := ⟨hcw _ _ (wv_at (by omega))⟩
  have hB : nearB (srchOf NN E o) d v i = (decide (gn d (tN E i) < farV) && decide (gn d (tN E i) + gn (wtF NN E o.W) i = gn d v) && !decide ((i : Int) ∈ o.ne)) := rfl
  rw [hB]
  clear hcf hcw rf rw_ re hE ht hne2 hB hwl hdl
  generalize decide ((i : Int) ∈ o.ne) = q at *
  generalize gn (wtF NN E o.W) i = wi at *
  generalize tN E i = u at *
  generalize gn d u = du at *
  generalize gn d v = dv at *
  unfold farV
  by_cases h1 : du < 4611686018427387904
  · have hb1 : decide ((du : Int) < 4611686018427387904) = true := decide_eq_true (by omega)
    by_cases h2 : du + wi = dv
    · have hb2 : ((du : Int) + (wi : Int) == (dv : Int)) = true := by simpa using (by omega : (du : Int) + (wi : Int) = (dv : Int))
      rw [decide_eq_true h1, decide_eq_true h2]
      have HX := hide h2
      clear h2
      go_enter Tryz.func68, Tryz.ntmps68
      go_wp2_with fail
      ((first | refine wp_region_gen2 (by kernel_rfl) (by kernel_rfl) ?_ | refine wp_region_gen (by kernel_rfl) (by kernel_rfl) ?_); (repeat' ((first | refine gLex_val0 rfl (by kernel_rfl) (fun K hK => ?_) | refine gLex_undef rfl rfl rfl (by kernel_rfl) (fun K hK => ?_) | (refine gLex_ask rfl rfl rfl ?_; first | (apply gAsk_yes; kernel_rfl; intro K hK) | ((first | apply gAsk_no1 | apply gAsk_no2); kernel_rfl; intro K hK) | (apply gAsk_part; kernel_rfl; all_goals (intro h K hK; (try simp only [Bool.not_true] at h); (try simp only [Bool.not_false] at h); (try simp only [decide_eq_true_eq] at h); (try simp only [decide_eq_false_iff_not] at h); try (exfalso; first | contradiction | omega))))) <;> (go_simp; (try (simp only [↓IntWalk.iteOmega]; try go_simp)); (try simp (disch := omega) only [IntWalk.i64_in]); (try simp (disch := omega) only [IntWalk.u64_in]); first | (refine hK _ ?_; clear hK K) | (apply Exists.intro; refine ⟨fun x => ?_, hK _ ?_⟩; (first | (go_at_call 69; exact calls_same (C1.out _ GG))); clear hK K)))); all_goals ((apply gLex_end); intro y))
      go_wp2_with fail
      go_ret
      exact ⟨rfl, GG⟩
    · have hb2 : ((du : Int) + (wi : Int) == (dv : Int)) = false := beq_eq_false_iff_ne.2 (by omega)
      rw [decide_eq_false h2, Bool.and_false, Bool.false_and]
      clear h2
      go_enter Tryz.func68, Tryz.ntmps68
      go_wp2_with fail
      ((first | refine wp_region_gen2 (by kernel_rfl) (by kernel_rfl) ?_ | refine wp_region_gen (by kernel_rfl) (by kernel_rfl) ?_); (repeat' ((first | refine gLex_val0 rfl (by kernel_rfl) (fun K hK => ?_) | refine gLex_undef rfl rfl rfl (by kernel_rfl) (fun K hK => ?_) | (refine gLex_ask rfl rfl rfl ?_; first | (apply gAsk_yes; kernel_rfl; intro K hK) | ((first | apply gAsk_no1 | apply gAsk_no2); kernel_rfl; intro K hK) | (apply gAsk_part; kernel_rfl; all_goals (intro h K hK; (try simp only [Bool.not_true] at h); (try simp only [Bool.not_false] at h); (try simp only [decide_eq_true_eq] at h); (try simp only [decide_eq_false_iff_not] at h); try (exfalso; first | contradiction | omega))))) <;> (go_simp; (try (simp only [↓IntWalk.iteOmega]; try go_simp)); (try simp (disch := omega) only [IntWalk.i64_in]); (try simp (disch := omega) only [IntWalk.u64_in]); refine hK _ ?_; clear hK K))); all_goals ((apply gLex_end); intro y))
      go_wp2_with fail
      go_ret
      exact ⟨rfl, GG⟩
  · have hb1 : decide ((du : Int) < 4611686018427387904) = false := decide_eq_false (by omega)
    rw [decide_eq_false h1, Bool.false_and, Bool.false_and]
    clear h1
    go_enter Tryz.func68, Tryz.ntmps68
    go_wp2_with fail
    ((first | refine wp_region_gen2 (by kernel_rfl) (by kernel_rfl) ?_ | refine wp_region_gen (by kernel_rfl) (by kernel_rfl) ?_); (repeat' ((first | refine gLex_val0 rfl (by kernel_rfl) (fun K hK => ?_) | refine gLex_undef rfl rfl rfl (by kernel_rfl) (fun K hK => ?_) | (refine gLex_ask rfl rfl rfl ?_; first | (apply gAsk_yes; kernel_rfl; intro K hK) | ((first | apply gAsk_no1 | apply gAsk_no2); kernel_rfl; intro K hK) | (apply gAsk_part; kernel_rfl; all_goals (intro h K hK; (try simp only [Bool.not_true] at h); (try simp only [Bool.not_false] at h); (try simp only [decide_eq_true_eq] at h); (try simp only [decide_eq_false_iff_not] at h); try (exfalso; first | contradiction | omega))))) <;> (go_simp; (try (simp only [↓IntWalk.iteOmega]; try go_simp)); (try simp (disch := omega) only [IntWalk.i64_in]); (try simp (disch := omega) only [IntWalk.u64_in]); refine hK _ ?_; clear hK K))); all_goals ((apply gLex_end); intro y))
    go_wp2_with fail
    go_ret
    exact ⟨rfl, GG⟩
end Go.Proofs.YtkfobolbilhjbaaGreat

namespace Go.Proofs.YtkfobolbilhjbaaGreat
open Go Go.RowKit
attribute [local go_sem] Oper.semAt_some
section
variable {F : Fence} {m : Nat} {w : World} {e : TypeId} {ops : Array Oper} {rest : List Oper} {o : Oper} {a : Act} {Q : Exit → Act → World → Prop}
theorem wp_appIn {t : TypeId} (E : Elem t e 1) (hgd : o.guard = none) (s x : Operand) (ho : o.op = .call { callee := .builtin .append, args := #[s, x], argTypes := #[t, t] })
    (lo : Nat) (hlo : lo ≤ w.heap.size) (n c : Nat) (A : Option Addr) (xs : List Value) (hs : a.eval s = .slice A n c) (hown : Own w lo e 1 A n c xs) (g c' : Nat) (v : Value) (hx : a.eval x = .slice (some ⟨g, 0, none⟩) 1 c')
    (hv : Holds w ⟨g, 0, none⟩ v) (h1 : v.oneCell' = true) (hnm : n + 1 ≤ 1000000000000)
    (h : ∀ A' c'' w', Own w' lo e 1 A' (n + 1) c'' (xs ++ [v]) → Touch (fun k => ∃ p, A = some p ∧ p.block = k) w w' → (∀ p, A' = some p → (∃ q, A = some q ∧ q.block = p.block) ∨ New w w' p.block) → wpListIn F m Tryz.prog ops Q rest (a.put o.dst (.slice A' (n + 1) c'')) w') :
    wpListIn F m Tryz.prog ops Q (o :: rest) a w := by
  obtain ⟨i, z, bytes, hi, hz, hsz, hby, hzs, hb64⟩ := E.info
  refine wpListIn_plain hgd fun K hK' => ?_
  obtain ⟨v', w', hr, hown', hgr, _, hat⟩ := run_append_own_at (P := Tryz.prog) w lo t o.type e i z 1 bytes E.under hi hz hsz hby hzs E.pos (.slice A n c) n xs hown ⟨g, 0, none⟩ 1 c' [v] rfl (fun j u hu => by
    have hj : j = 0 := by
      have := (List.getElem?_eq_some_iff.1 hu).1
      simpa using this
    subst hj
    simp at hu
    subst hu
    simpa [Addr.add] using hv.cell) (by intro u hu; simp at hu; rw [hu]; exact h1) (by unfold maxLen; omega) (Nat.le_trans (Nat.mul_le_mul hnm hb64) (by omega)) hlo
  obtain ⟨A', c'', rfl⟩ := own_form hown'
  have ht : Touch (fun k => ∃ p, A = some p ∧ p.block = k) w w' := (Touch.refl _ w).grown hgr fun k hk => .inl (by
    cases A with
    | none => simp [Value.ownBlock] at hk
    | some p => simp [Value.ownBlock] at hk; exact ⟨p, rfl, hk⟩)
  have hloc : ∀ p, A' = some p → (∃ q, A = some q ∧ q.block = p.block) ∨ New w w' p.block := fun p hp => by
    have hlt := (hown'.lt p.block (by subst hp; rfl)).2
    subst hp
    simp only [Value.ownBlock] at hat
    rcases hat with hat | hat
    · left
      cases A with
      | none => simp at hat
      | some q => exact ⟨q, rfl, by simpa using hat.symm⟩
    · right
      have e9 : p.block = w.heap.size := by simpa using hat
      exact ⟨Nat.le_of_eq e9.symm, hlt⟩
  unfold Oper.wpIn
  refine ⟨?_, ?_⟩
  · simp [Oper.about, ho, resolve, Target.leads, Sem.run_pure]
  · rw [Oper.semAt_plain F _ _ (by rw [ho]; intro c hc'; cases hc')]
    simp [execOp, ho, resolve, invoke, builtin, hs, hx, hr, Result.andThen]
    exact hK' _ _ (h A' c'' w' hown' ht hloc)
end
def ordL (xs : List (Nat × Nat)) : List Int := xs.map fun p => (p.1 : Int)
def OrdI (w : World) (lo b6 : Nat) (p : List (Nat × Nat)) (Mi : Nat → Prop) (W : World) : Prop :=
  ∃ A c, (∃ y : Later w, W = y.now) ∧ Arr W b6 48 [.slice A p.length c] ∧ Own W lo 3 1 A p.length c ((ordL p).map (.int .i64)) ∧ (∀ q, A = some q → ¬ Mi q.block) ∧ (∀ k, Mi k → lo ≤ k ∧ k < W.heap.size) ∧ lo ≤ W.heap.size
theorem OrdI.yields {w : World} {lo b6 : Nat} (h1 : b6 < lo) (hlo : w.heap.size ≤ lo) : Yields' (OrdI w lo b6) := by
  rintro p Mi W Mi' W' ⟨A, c, ⟨y, rfl⟩, a1, a2, a3, a4, a5⟩ ht hM'
  refine ⟨A, c, ⟨⟨W', ht.later y.grows (fun k hk => Nat.le_trans hlo (a4 k hk).1)⟩, rfl⟩, a1.touch ht (fun e => by have := (a4 _ e).1; omega), a2.touch ht a3, fun q hq e => ?_, fun k hk => ?_, Nat.le_trans a5 ht.size⟩
  · rcases (hM' _ e).1 with h | h
    · exact a3 q hq h
    · have := (a2.ty q hq).2.lt; omega
  · obtain ⟨h | h, h'⟩ := hM' k hk
    · exact ⟨(a4 k h).1, h'⟩
    · exact ⟨by omega, h'⟩
end Go.Proofs.YtkfobolbilhjbaaGreat

