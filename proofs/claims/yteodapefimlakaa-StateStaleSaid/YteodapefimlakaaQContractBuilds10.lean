/- Contracts: a search's iterator is made; how far all nodes are. -/
import Derived.Test.YteodapefimlakaaQContractBuilds09
import Derived.Test.YteodapefimlakaaQContractBuilds01
import Derived.Test.YteodapefimlakaaQContractBuilds06
/- Contracts: a search's iterator is made; how far all nodes are. -/
namespace Go.Proofs.Yteodapefimlakaa
open Go Go.RowKit
attribute [local go_sem] Oper.semAt_some
abbrev farV : Nat := 4611686018427387904
def outL (N : Nat) (xs : List (Nat × Nat)) : List Nat := xs.foldl (fun L p => L.set p.1 p.2) (List.replicate N farV)
theorem outL_snoc (N : Nat) (xs : List (Nat × Nat)) (p : Nat × Nat) : outL N (xs ++ [p]) = (outL N xs).set p.1 p.2 := by simp [outL, List.foldl_append]
theorem outL_len (N : Nat) (xs : List (Nat × Nat)) : (outL N xs).length = N := by
  unfold outL
  suffices h : ∀ L : List Nat, (xs.foldl (fun L p => L.set p.1 p.2) L).length = L.length by rw [h]; simp
  induction xs with
  | nil => intro L; rfl
  | cons p xs ih => intro L; rw [List.foldl_cons, ih, List.length_set]
def AllI (w : World) (lo b9 go N : Nat) (p : List (Nat × Nat)) (Mi : Nat → Prop) (W : World) : Prop :=
  (∃ y : Later w, W = y.now) ∧ Arr W b9 115 [.slice (some ⟨go, 0, none⟩) N N] ∧ Row1 W go 43 1 N N (wv (outL N p)) ∧ (∀ k, Mi k → lo ≤ k ∧ k < W.heap.size) ∧ lo ≤ W.heap.size
theorem AllI.yields {w : World} {lo b9 go N : Nat} (h1 : b9 < lo) (h2 : go < lo) (hlo : w.heap.size ≤ lo) : Yields' (AllI w lo b9 go N) := by
  rintro p Mi W Mi' W' ⟨⟨y, rfl⟩, a1, a2, a3, a4⟩ ht hM'
  refine ⟨⟨⟨W', ht.later y.grows (fun k hk => Nat.le_trans hlo (a3 k hk).1)⟩, rfl⟩, a1.touch ht (fun e => by have := (a3 _ e).1; omega), a2.touch ht (fun e => by have := (a3 _ e).1; omega), fun k hk => ?_, Nat.le_trans a4 ht.size⟩
  obtain ⟨h | h, h'⟩ := hM' k hk
  · exact ⟨(a3 k h).1, h'⟩
  · exact ⟨by omega, h'⟩
def FrameAll (b9 v far : Nat) (a' : Act) : Prop := ∃ u0 u1 u2 u3 u4 u5 u6 u7 u8 u12 u13 u14 u15 u16 u17 u18 u19 u20 u21 u22 u23 u24 u25 u26 u27 u28 u29 u30 u31 u32 u33 : Value, a' = { tmps := #[u0, u1, u2, u3, u4, u5, u6, u7, u8, .pointer (some ⟨b9, 0, none⟩), .int .i64 (v : Int), .int .u64 (far : Int), u12, u13, u14, u15, u16, u17, u18, u19, u20, u21, u22, u23, u24, u25, u26, u27, u28, u29, u30, u31, u32, u33], defers := [] }
def AllB (w : World) (lo b9 go N : Nat) (x : Nat × Nat) (a' : Act) (p : List (Nat × Nat)) (Mi : Nat → Prop) (W : World) : Prop := FrameAll b9 x.1 x.2 a' ∧ AllI w lo b9 go N p Mi W
end Go.Proofs.Yteodapefimlakaa

/- Plain law: how far all nodes are: no edge leads nearer than its end is, each node is reached by one that leads just there, and it is as far the other way round. -/
namespace Go.Proofs.Yteodapefimlakaa
open Go Go.RowKit
theorem set_fold (xs : List (Nat × Nat)) : ∀ (L : List Nat) (v f : Nat), v < L.length → (xs.map Prod.fst).Nodup → (v, f) ∈ xs → gn (xs.foldl (fun L p => L.set p.1 p.2) L) v = f := by
  suffices keep : ∀ (xs : List (Nat × Nat)) (L : List Nat) (v : Nat), v ∉ xs.map Prod.fst → gn (xs.foldl (fun L p => L.set p.1 p.2) L) v = gn L v by
    induction xs with
    | nil => intro L v f _ _ h; cases h
    | cons p xs ih =>
      intro L v f hv hn hm
      rw [List.map_cons, List.nodup_cons] at hn
      rw [List.foldl_cons]
      rcases List.mem_cons.1 hm with h | h
      · rw [keep xs _ v (by have := hn.1; rw [← h] at this; exact this), ← h]
        simp [gn, hv]
      · exact ih _ v f (by simpa using hv) hn.2 h
  intro xs
  induction xs with
  | nil => intro L v _; rfl
  | cons p xs ih =>
    intro L v hv
    rw [List.map_cons, List.mem_cons, not_or] at hv
    rw [List.foldl_cons, ih _ v hv.2]
    simp [gn, Ne.symm hv.1]
theorem outL_at {N v f : Nat} {xs : List (Nat × Nat)} (hn : (xs.map Prod.fst).Nodup) (hv : v < N) (h : (v, f) ∈ xs) : gn (outL N xs) v = f := set_fold xs _ v f (by simpa using hv) hn h
theorem outL_no {N v : Nat} {xs : List (Nat × Nat)} (hv : v < N) (h : v ∉ xs.map Prod.fst) : gn (outL N xs) v = farV := by
  unfold outL
  suffices keep : ∀ (xs : List (Nat × Nat)) (L : List Nat) (v : Nat), v ∉ xs.map Prod.fst → gn (xs.foldl (fun L p => L.set p.1 p.2) L) v = gn L v by
    rw [keep xs _ v h]
    simp [gn, hv]
  intro xs
  induction xs with
  | nil => intro L v _; rfl
  | cons p xs ih =>
    intro L v hv
    rw [List.map_cons, List.mem_cons, not_or] at hv
    rw [List.foldl_cons, ih _ v hv.2]
    simp [gn, Ne.symm hv.1]
theorem outL_cases {x : Srch} {s mw v : Nat} {xs : List (Nat × Nat)} (h : Far x s mw xs) (hb : x.N * mw < farV) (hv : v < x.N) :
    ((v, gn (outL x.N xs) v) ∈ xs ∧ gn (outL x.N xs) v < farV) ∨ (gn (outL x.N xs) v = farV ∧ ∀ f, (v, f) ∉ xs) := by
  by_cases hm : v ∈ xs.map Prod.fst
  · obtain ⟨⟨u, f⟩, hp, rfl⟩ := List.mem_map.1 hm
    have e := outL_at h.nodup hv hp
    simp only at e
    refine .inl ?_
    simp only
    rw [e]
    exact ⟨hp, by have := (h.way _ _ hp).2.2.2; omega⟩
  · exact .inr ⟨outL_no hv hm, fun f hf => hm (List.mem_map.2 ⟨_, hf, rfl⟩)⟩
theorem Far.one {x : Srch} {s mw v f g : Nat} {xs : List (Nat × Nat)} (h : Far x s mw xs) (h1 : (v, f) ∈ xs) (h2 : (v, g) ∈ xs) : f = g := by
  have hv := (h.way _ _ h1).1
  rw [← outL_at h.nodup hv h1, ← outL_at h.nodup hv h2]
theorem Far.edge {x : Srch} {s mw i : Nat} {xs : List (Nat × Nat)} (h : Far x s mw xs) (hb : x.N * mw < farV) (hm : x.most = 0) (hu : nN x.E x.back i < x.N) (ht : toE x i < x.N) (hi : i < x.E.length) (hc : cntE x i = true) (hf : gn (outL x.N xs) (nN x.E x.back i) < farV) :
    gn (outL x.N xs) (toE x i) ≤ gn (outL x.N xs) (nN x.E x.back i) + gn x.W i := by
  rcases outL_cases h hb hu with ⟨h1, _⟩ | ⟨h1, _⟩
  · have hw := (h.way _ _ h1).2.1
    obtain ⟨g, hg, hle⟩ := h.all _ _ (hw.step hi hc) (fun h => by omega)
    rw [outL_at h.nodup ht hg]
    exact hle
  · omega
theorem Far.by_ {x : Srch} {s mw v : Nat} {xs : List (Nat × Nat)} (h : Far x s mw xs) (hb : x.N * mw < farV) (hm : x.most = 0) (hn : ∀ i, i < x.E.length → nN x.E x.back i < x.N) (hv : v < x.N) (hvs : v ≠ s) (hf : gn (outL x.N xs) v < farV) :
    ∃ i, i < x.E.length ∧ toE x i = v ∧ gn (outL x.N xs) (nN x.E x.back i) < farV ∧ gn (outL x.N xs) v = gn (outL x.N xs) (nN x.E x.back i) + gn x.W i := by
  rcases outL_cases h hb hv with ⟨h1, _⟩ | ⟨h1, _⟩
  · obtain ⟨f, hfe⟩ : ∃ f, gn (outL x.N xs) v = f := ⟨_, rfl⟩
    rw [hfe] at h1 hf ⊢
    have hw := (h.way _ _ h1).2.1
    cases hw with
    | here => exact absurd rfl hvs
    | @step f' i hw hi hc =>
      obtain ⟨g, hg, hle⟩ := h.all _ _ hw (fun h => by omega)
      have hwg := (h.way _ _ hg).2.1
      obtain ⟨g2, hg2, hle2⟩ := h.all _ _ (hwg.step hi hc) (fun h => by omega)
      have e := h.one hg2 h1
      have e2 := outL_at h.nodup (hn i hi) hg
      exact ⟨i, hi, rfl, by rw [e2]; omega, by rw [e2]; omega⟩
  · omega
theorem Far.begin_ {x : Srch} {s mw : Nat} {xs : List (Nat × Nat)} (h : Far x s mw xs) (hs : s < x.N) : gn (outL x.N xs) s = 0 := by
  obtain ⟨g, hg, hle⟩ := h.all s 0 .here (fun _ => Nat.zero_le _)
  rw [outL_at h.nodup hs hg]
  omega
theorem Way.trans {x : Srch} {a b c f g : Nat} (h : Way x a b f) (k : Way x b c g) : Way x a c (f + g) := by
  induction k with
  | here => exact h
  | step k hi hc ih =>
    rw [← Nat.add_assoc]
    exact ih.step hi hc
def turnX (x : Srch) : Srch := { x with back := !x.back }
theorem Way.turned {x : Srch} (hc : ∀ i, i < x.E.length → cntE (turnX x) i = true) {a b f : Nat} (h : Way x a b f) : Way (turnX x) b a f := by
  induction h with
  | here => exact .here
  | @step f i h hi hcn ih =>
    have h1 : nN (turnX x).E (turnX x).back i = toE x i := by
      unfold nN toE turnX
      cases x.back <;> rfl
    have h2 : toE (turnX x) i = nN x.E x.back i := by
      unfold nN toE turnX
      cases x.back <;> rfl
    have h3 := Way.step (x := turnX x) (s := toE x i) (f := 0) (i := i) (by rw [h1]; exact .here) hi (hc i hi)
    rw [h2, Nat.zero_add] at h3
    have := h3.trans ih
    rw [Nat.add_comm] at this
    exact this
theorem Far.turned {x : Srch} {s t mw : Nat} {xs ys : List (Nat × Nat)} (h : Far x s mw xs) (k : Far (turnX x) t mw ys) (hb : x.N * mw < farV) (hm : x.most = 0) (hc : ∀ i, i < x.E.length → cntE (turnX x) i = true) (hc2 : ∀ i, i < x.E.length → cntE x i = true) (hs : s < x.N) (ht : t < x.N) :
    gn (outL x.N ys) s = gn (outL x.N xs) t := by
  have tt : turnX (turnX x) = x := by unfold turnX; cases x; simp
  have back : ∀ {f}, Way (turnX x) t s f → Way x s t f := fun {f} h => by
    have := Way.turned (x := turnX x) (by rw [tt]; exact hc2) h
    rw [tt] at this
    exact this
  have hm2 : (turnX x).most = 0 := hm
  rcases outL_cases h hb ht with ⟨h1, h2⟩ | ⟨h1, h2⟩
  · have hw := (h.way _ _ h1).2.1
    obtain ⟨g, hg, hle⟩ := k.all _ _ (Way.turned hc hw) (fun h => by omega)
    have hw2 := back (k.way _ _ hg).2.1
    obtain ⟨g2, hg2, hle2⟩ := h.all _ _ hw2 (fun h => by omega)
    have e := h.one hg2 h1
    have e2 := outL_at (N := x.N) k.nodup hs hg
    omega
  · rw [h1]
    refine outL_no hs (fun hmem => ?_)
    obtain ⟨⟨u, f⟩, hp, rfl⟩ := List.mem_map.1 hmem
    have hw2 := back (k.way _ _ hp).2.1
    obtain ⟨g2, hg2, _⟩ := h.all _ _ hw2 (fun h => by omega)
    exact h2 g2 hg2
theorem Way.ge {x : Srch} {s : Nat} (d : Nat → Nat) (h0 : d s = 0) (hd : ∀ i, i < x.E.length → d (toE x i) ≤ d (nN x.E x.back i) + gn x.W i) {v f : Nat} (h : Way x s v f) : d v ≤ f := by
  induction h with
  | here => omega
  | step h hi hc ih =>
    have := hd _ hi
    omega
end Go.Proofs.Yteodapefimlakaa

/- Contracts: which graphs may be gone through. -/
namespace Go.Proofs.Yteodapefimlakaa
open Go Go.RowKit
def lightG (N : Int) (n : Nat) : Bool := decide ((N ≤ 100 ∨ 4096 < N) ∧ n ≤ 300)
set_option maxHeartbeats 400000 in
theorem lLight (N : Int) (A : Option Addr) (n c : Nat) (w : World) : Calls Try.prog 50 #[.agg #[.int .i64 N, .slice A n c]] w fun e w' => e = .returned (.bool (lightG N n)) ∧ Grows w w' := by
  go_enter Try.func50, Try.ntmps50
  go_wp2
  all_goals go_ret
  all_goals exact ⟨ret_bool (bool_ext (by unfold lightG; simp; try omega)), GG⟩

end Go.Proofs.Yteodapefimlakaa

/- Contracts: the chapter's example; may a graph and what counts be gone through? -/
namespace Go.Proofs.Yteodapefimlakaa
open Go Go.RowKit
theorem Far.is {x : Srch} {s mw v f : Nat} {xs : List (Nat × Nat)} (h : Far x s mw xs) (hm : x.most = 0) (hv : v < x.N) (h1 : Way x s v f) (h2 : ∀ g, Way x s v g → f ≤ g) : gn (outL x.N xs) v = f := by
  obtain ⟨g, hg, hle⟩ := h.all _ _ h1 (fun h => by omega)
  have := h2 g (h.way _ _ hg).2.1
  rw [outL_at h.nodup hv hg]
  omega
theorem walk_is {N s mw : Nat} {E : List Edg} {o : DOpt} (hok : WalkOk N s E o) (hw : ∀ i, i < E.length → 1 ≤ gn (wtF N E o.W) i ∧ gn (wtF N E o.W) i ≤ mw) (hmw : mw ≤ 17592186044416) (hnn : (s : Int) ∉ o.nn) :
    ∃ xs, (if (s : Int) ∈ o.nn then xs = [] else Trace (srchOf N E o) (reachS o.most (st0 N) s 0) xs) ∧ Far (srchOf N E o) s mw xs ∧ ∀ p, p ∈ xs → p.1 < N := by
  have hs := hok.srch
  have hin : SrchIn (srchOf N E o) mw := ⟨fun i hi => by
    have h1 := hs.ends.f i hi
    have h2 := hs.ends.t i hi
    unfold toE
    split
    · exact h1.1
    · exact h2.1, fun i hi => (hw i hi).1, fun i hi => (hw i hi).2⟩
  obtain ⟨xs, h1, h2⟩ := trace_whole (x := srchOf N E o) (s := s) hin hs.nodes hok.node (by omega)
  refine ⟨xs, by rw [if_neg hnn]; exact h1, h2, fun p hp => ?_⟩
  obtain ⟨v, f⟩ := p
  exact (h2.way v f hp).1
def exE : List Edg := [⟨0, 1, 2⟩, ⟨1, 2, 3⟩, ⟨0, 2, 9⟩]
def exO : DOpt := ⟨false, [], [], [], 0⟩
theorem exOk : WalkOk 3 0 exE exO := ⟨by decide +kernel, by omega, .inl rfl, by show 0 < _; omega, by show 0 ≤ _; omega, by show 0 ≤ _; omega⟩
def exD (v : Nat) : Nat := if v = 0 then 0 else if v = 1 then 2 else 5
theorem exIs : ∃ xs, (if ((0 : Nat) : Int) ∈ exO.nn then xs = [] else Trace (srchOf 3 exE exO) (reachS exO.most (st0 3) 0 0) xs) ∧ (∀ p, p ∈ xs → p.1 < 3) ∧ outL 3 xs = [0, 2, 5] := by
  have hw : wtF ((3 : Nat) : Int) exE exO.W = [2, 3, 9] := by decide +kernel
  obtain ⟨xs, h1, h2, h3⟩ := walk_is (mw := 9) exOk (fun i hi => by
    have hi : i < 3 := hi
    rw [hw]
    match i, hi with
    | 0, _ => exact ⟨by decide, by decide⟩
    | 1, _ => exact ⟨by decide, by decide⟩
    | 2, _ => exact ⟨by decide, by decide⟩) (by omega) (by simp [exO])
  refine ⟨xs, h1, h3, ?_⟩
  have e0 : ∀ f, Way (srchOf 3 exE exO) 0 0 f → 0 ≤ f := fun f _ => Nat.zero_le f
  have ge : ∀ {v f}, Way (srchOf 3 exE exO) 0 v f → exD v ≤ f := fun {v f} h => Way.ge (x := srchOf 3 exE exO) exD rfl (fun i hi => by
    have hi : i < 3 := hi
    have hww : ∀ j, gn (srchOf 3 exE exO).W j = gn [2, 3, 9] j := fun j => by show gn (wtF ((3 : Nat) : Int) exE exO.W) j = _; rw [hw]
    rw [hww]
    match i, hi with
    | 0, _ => decide
    | 1, _ => decide
    | 2, _ => decide) h
  have hww : ∀ j, gn (srchOf 3 exE exO).W j = gn [2, 3, 9] j := fun j => by show gn (wtF ((3 : Nat) : Int) exE exO.W) j = _; rw [hw]
  have w1 : Way (srchOf 3 exE exO) 0 1 2 := by
    have := Way.step (x := srchOf 3 exE exO) (s := 0) (f := 0) (i := 0) (by exact Way.here) (by decide) (by decide)
    rw [hww] at this
    exact this
  have w2 : Way (srchOf 3 exE exO) 0 2 5 := by
    have := Way.step (x := srchOf 3 exE exO) (s := 0) (f := 2) (i := 1) (by exact w1) (by decide) (by decide)
    rw [hww] at this
    exact this
  have g0 := h2.is (v := 0) rfl (by show 0 < 3; omega) .here e0
  have g1 := h2.is (v := 1) rfl (by show 1 < 3; omega) w1 (fun g hg => ge hg)
  have g2 := h2.is (v := 2) rfl (by show 2 < 3; omega) w2 (fun g hg => ge hg)
  have hl := outL_len 3 xs
  change gn (outL 3 xs) 0 = 0 at g0
  change gn (outL 3 xs) 1 = 2 at g1
  change gn (outL 3 xs) 2 = 5 at g2
  generalize outL 3 xs = L at *
  match L, hl with
  | [a, b, c], _ =>
    simp [gn] at g0 g1 g2
    rw [g0, g1, g2]
def light14 (N : Int) (n : Nat) (a b c : Nat) : Bool := lightG N n && decide (a ≤ 100) && decide (b ≤ 100) && decide (c ≤ 400)
end Go.Proofs.Yteodapefimlakaa

/- What an argument that can be read is: what counts for a search. -/
namespace Go.Proofs.Yteodapefimlakaa
open Go Go.ChangeShapes Go.WideShapes Go.ChangeAt Go.RowKit Go.Deep
theorem wv_of {z : List Int} (h : ∀ x ∈ z, (Lit.int .u64 x).wf = true) : z.map (Value.int .u64) = wv (z.map Int.toNat) := by
  unfold wv
  rw [List.map_map]
  refine List.map_congr_left fun x hx => ?_
  have := wf_u64 (h x hx)
  unfold U64 at this
  show Value.int .u64 x = .int .u64 ((x.toNat : Nat) : Int)
  rw [Int.toNat_of_nonneg this.1]
theorem dc_ok {N s : Int} {E : List Edg} {W : List Nat} (h : dcF N s E W = 0) : rightF N E = 0 ∧ 0 ≤ s ∧ s < N ∧ (W.length = 0 ∨ W.length = E.length) ∧ ∀ i, i < E.length → 1 ≤ gn (wtF N E W) i ∧ gn (wtF N E W) i ≤ 17592186044416 := by
  unfold dcF at h
  split at h
  · cases h
  split at h
  · cases h
  split at h
  · cases h
  split at h
  · cases h
  rename_i h1 h2 h3 h4
  have h1 : rightF N E = 0 := by omega
  have hb : nodeB N s = true := by cases hb : nodeB N s with | false => exact absurd hb h2 | true => rfl
  unfold nodeB at hb
  have hs := of_decide_eq_true hb
  obtain ⟨r1, r2, r3, r4, r5⟩ := right_in h1
  refine ⟨h1, hs.1, hs.2, by omega, fun i hi => ?_⟩
  unfold wtF
  rw [if_neg (by omega), if_neg h3]
  split
  · have hl : i < W.length := by omega
    have hm : gn W i ∈ W := by unfold gn; rw [List.getD_eq_getElem?_getD, List.getElem?_eq_getElem hl]; exact List.getElem_mem hl
    have : penB (gn W i) = false := by
      cases hp : penB (gn W i) with
      | false => rfl
      | true => exact absurd (List.any_eq_true.2 ⟨_, hm, hp⟩) h4
    unfold penB at this
    have := of_decide_eq_false this
    omega
  · have := r5 i hi
    have h2 : gn (eW E) i = (ge E i).w.toNat := by simp [gn, eW, ge, hi]
    rw [h2]
    omega
section
variable {H : Type} {enc : TypeId × Value → H} {P : Program} {w : World} {base b0 : Nat} {held : Bool} {r : Reach} {t : TypeId} {v : Value} {d : DataW H} {p : List MemPlace}
theorem open_numsF {e : TypeId} {k : IntKind} {fuel : Nat} {x : DataW H × List MemPlace} {cs : List Value} (ht : P.underlying t = some (.slice e)) (he : P.underlying e = some (.int k)) (hc : P.cellsOf e = 1)
    (h : DataW.trod enc P w base (fun _ => true) held fuel t cs = some x) :
    ∃ (A : Option Addr) (n c : Nat) (zs : List Int), cs = [.slice A n c] ∧ n ≤ c ∧ Rd w A 1 n (zs.map (.int k)) ∧ ∀ z ∈ zs, (Lit.int k z).wf = true := by
  obtain ⟨A, n, c, F, rfl, hl, _, hr, hF⟩ := open_elems ht hc (by omega) h
  have hE : ∀ i, i < n → ∃ z : Int, F i = [.int k z] ∧ (Lit.int k z).wf = true := fun i hi => by
    obtain ⟨_, m, y, hy⟩ := hF i hi
    obtain ⟨z, hz, _, hw⟩ := DataW.trod_int he hy
    exact ⟨z, hz, hw⟩
  obtain ⟨f, hf⟩ := Deep.choose_lt (α := Option Int) (p := fun i o => ∃ z, o = some z ∧ F i = [.int k z] ∧ (Lit.int k z).wf = true) (fun i hi => by obtain ⟨z, h⟩ := hE i hi; exact ⟨some z, z, rfl, h⟩)
  have hf' : ∀ i, i < n → F i = [.int k ((f i).getD 0)] ∧ (Lit.int k ((f i).getD 0)).wf = true := fun i hi => by
    obtain ⟨z, h1, h2⟩ := hf i hi
    rw [h1]
    exact h2
  refine ⟨A, n, c, (List.range n).map fun i => (f i).getD 0, rfl, hl, ?_, fun z hz => ?_⟩
  · have e : ((List.range n).map fun i => (f i).getD 0).map (Value.int k) = (List.range n).flatMap F := by
      rw [List.map_map, List.flatMap_def]
      have h2 : (List.range n).map F = (List.range n).map fun i => [Value.int k ((f i).getD 0)] := List.map_congr_left fun i hi => (hf' i (List.mem_range.1 hi)).1
      rw [h2, ← List.flatMap_def]
      clear h2 hr hF hE hf hf' h
      generalize List.range n = l
      induction l with
      | nil => rfl
      | cons a l ih => rw [List.map_cons, List.flatMap_cons, ih]; rfl
    rw [e]
    exact hr
  · obtain ⟨i, hi, rfl⟩ := List.mem_map.1 hz
    exact (hf' i (List.mem_range.1 hi)).2
theorem open_opt {f0 f1 f2 f3 f4 : Field} {ei eu : TypeId} (hs : P.underlying t = some (.struct #[f0, f1, f2, f3, f4])) (k0 : P.underlying f0.type = some .bool) (k1 : P.underlying f1.type = some (.slice ei)) (k2 : P.underlying f2.type = some (.slice ei)) (k3 : P.underlying f3.type = some (.slice eu)) (k4 : P.underlying f4.type = some (.int .u64))
    (hi : P.underlying ei = some (.int .i64)) (hu : P.underlying eu = some (.int .u64)) (hci : P.cellsOf ei = 1) (hcu : P.cellsOf eu = 1) (hone : oneCellFields P #[f0, f1, f2, f3, f4] = true) (hC : P.cellsOf t = 5)
    (hv : Value.okWide P w r b0 t v) (h : DataW.Trod enc P w base (fun _ => true) held t v d p) :
    ∃ (back : Bool) (A1 : Option Addr) (n1 c1 : Nat) (z1 : List Int) (A2 : Option Addr) (n2 c2 : Nat) (z2 : List Int) (A3 : Option Addr) (n3 c3 : Nat) (z3 : List Int) (most : Int), v = .agg #[.bool back, .slice A1 n1 c1, .slice A2 n2 c2, .slice A3 n3 c3, .int .u64 most] ∧
      (Rd w A1 1 n1 (z1.map (.int .i64)) ∧ ∀ z ∈ z1, (Lit.int .i64 z).wf = true) ∧ (Rd w A2 1 n2 (z2.map (.int .i64)) ∧ ∀ z ∈ z2, (Lit.int .i64 z).wf = true) ∧ (Rd w A3 1 n3 (z3.map (.int .u64)) ∧ ∀ z ∈ z3, (Lit.int .u64 z).wf = true) ∧ U64 most := by
  obtain ⟨cs, rfl, hsz⟩ := okWide_struct hs hv
  obtain ⟨l⟩ := cs
  match l, hsz.trans hC with
  | [c0, c1, c2, c3, c4], _ =>
    obtain ⟨fuel, hf⟩ := h
    obtain ⟨xs, n, _, hx, _, hlen, hg⟩ := DataW.trod_struct hs hf
    obtain ⟨o0, m0⟩ := hone_of hone 0 f0 rfl
    obtain ⟨o1, m1⟩ := hone_of hone 1 f1 rfl
    obtain ⟨o2, m2⟩ := hone_of hone 2 f2 rfl
    obtain ⟨o3, m3⟩ := hone_of hone 3 f3 rfl
    obtain ⟨o4, m4⟩ := hone_of hone 4 f4 rfl
    match xs, hlen with
    | [y0, y1, y2, y3, y4], _ =>
      have t0 : DataW.trod enc P w base (fun _ => true) held n f0.type [c0] = some y0 := by simpa [Value.cells, o0, m0] using hg 0 f0 rfl
      have t1 : DataW.trod enc P w base (fun _ => true) held n f1.type [c1] = some y1 := by simpa [Value.cells, o1, m1] using hg 1 f1 rfl
      have t2 : DataW.trod enc P w base (fun _ => true) held n f2.type [c2] = some y2 := by simpa [Value.cells, o2, m2] using hg 2 f2 rfl
      have t3 : DataW.trod enc P w base (fun _ => true) held n f3.type [c3] = some y3 := by simpa [Value.cells, o3, m3] using hg 3 f3 rfl
      have t4 : DataW.trod enc P w base (fun _ => true) held n f4.type [c4] = some y4 := by simpa [Value.cells, o4, m4] using hg 4 f4 rfl
      obtain ⟨b, hb, _⟩ := DataW.trod_bool k0 t0
      obtain ⟨A1, n1, d1, z1, e1, _, r1, w1⟩ := open_numsF k1 hi hci t1
      obtain ⟨A2, n2, d2, z2, e2, _, r2, w2⟩ := open_numsF k2 hi hci t2
      obtain ⟨A3, n3, d3, z3, e3, _, r3, w3⟩ := open_numsF k3 hu hcu t3
      obtain ⟨mo, em, _, wm⟩ := DataW.trod_int k4 t4
      simp at hb e1 e2 e3 em
      subst hb e1 e2 e3 em
      exact ⟨b, A1, n1, d1, z1, A2, n2, d2, z2, A3, n3, d3, z3, mo, rfl, ⟨r1, w1⟩, ⟨r2, w2⟩, ⟨r3, w3⟩, wf_u64 wm⟩
end
end Go.Proofs.Yteodapefimlakaa

/- Contracts: the answer's rows of edges; whether a number is there. -/
namespace Go.Proofs.Yteodapefimlakaa
open Go Go.RowKit
set_option maxHeartbeats 1000000 in
theorem r1Has (A : Option Addr) (n c : Nat) (l : List Int) (v : Int) (w : World) (h : Rd w A 1 n (l.map (.int .i64))) (hn : n ≤ 1000000) :
    Calls Try.prog 72 #[.slice A n c, .int .i64 v] w fun e w' => e = .returned (.bool (decide (v ∈ l))) ∧ w = w' := by
  have HL := hide (show l.length = n by simpa using h.len)
  have HR := hide h
  clear h
  go_enter Try.func72, Try.ntmps72
  go_wp2
  go_loop [5] (fun i => ∃ k : Nat, k ≤ n ∧ i = .int .i64 (k : Int) ∧ ∀ j, j < k → gi l j ≠ v) (fun i => n - (intOf i).toNat)
  case atStart => exact ⟨0, by omega, by go_num, fun j h1 => by omega⟩
  case round =>
    obtain ⟨q, hq, rfl, hall⟩ := hrel
    have HA := hide hall
    clear hall
    by_cases hend : n ≤ q
    · go_wp2
      go_ret
      refine ⟨ret_bool (decide_eq_false fun hm => ?_).symm, rfl⟩
      obtain ⟨j, hj, e⟩ := mem_gi hm
      exact HA.out j (by have := HL.out; omega) e
    · obtain ⟨b, off, rfl, hc⟩ := HR.out.ints (by omega)
      have hc1 := hc q (by omega)
      clear hc
      by_cases hv : gi l q = v
      · have HV := hide (show v ∈ l from hv ▸ gi_mem (by have := HL.out; omega))
        have hd : (gi l q == v) = true := by simpa using hv
        clear hv
        go_wp2
        go_ret
        exact ⟨ret_bool (decide_eq_true HV.out).symm, rfl⟩
      · have HV := hide hv
        have hd : (gi l q == v) = false := by simpa using hv
        clear hv
        go_wp2
        go_round
        case measure => simp [intOf]; omega
        case rel =>
          refine ⟨q + 1, by omega, by go_num, fun j h1 => ?_⟩
          by_cases hj : j = q
          · rw [hj]; exact HV.out
          · exact HA.out j (by omega)

theorem anyI_false {l : List Int} {p : Int → Bool} {n : Nat} (hl : l.length = n) (h : ∀ j, j < n → p (gi l j) = false) : l.any p = false := by
  rw [List.any_eq_false]
  intro e he
  obtain ⟨j, hj, rfl⟩ := mem_gi he
  rw [h j (by omega)]
  simp
theorem anyI_true {l : List Int} {p : Int → Bool} {j : Nat} (hj : j < l.length) (h : p (gi l j) = true) : l.any p = true := by
  rw [List.any_eq_true]
  exact ⟨gi l j, gi_mem hj, h⟩

end Go.Proofs.Yteodapefimlakaa
