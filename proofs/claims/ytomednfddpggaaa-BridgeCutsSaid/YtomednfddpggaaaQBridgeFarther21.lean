/- Plain law: how far all nodes are: no edge leads nearer than its end is, each node is reached by one that leads just there, and it is as far the other way round. -/
import Derived.Test.YtomednfddpggaaaQBridgeFarther20
import Derived.Test.YtomednfddpggaaaQBridgeFarther15
import Derived.Test.YtomednfddpggaaaQBridgeFarther02
/- Plain law: how far all nodes are: no edge leads nearer than its end is, each node is reached by one that leads just there, and it is as far the other way round. -/
namespace Go.Proofs.Ytomednfddpggaaa
open Go Go.RowKit
theorem set_fold (xs : List (Nat × Nat)) : ∀ (L : List Nat) (v f : Nat), v < L.length → (xs.map Prod.fst).Nodup → (v, f) ∈ xs → gn (xs.foldl (fun L p => L.set p.1 p.2) L) v = f := by
  suffices keep : ∀ (xs : List (Nat × Nat)) (L : List Nat) (v : Nat), v ∉ xs.map Prod.fst → gn (xs.foldl (fun L p => L.set p.1 p.2) L) v = gn L v by
    induction xs with
    | nil => intro L v f _ _ h; cases h
    | cons p xs ih =>
      intro L v f hv hn hm
      rw [List.map_cons, List.nodup_cons] at hn
      rw [List.foldl_cons]
      rcases List.mem_cons.1 hm with h | h
      · rw [keep xs _ v (by have := hn.1; rw [← h] at this; exact this), ← h]
        simp [gn, hv]
      · exact ih _ v f (by simpa using hv) hn.2 h
  intro xs
  induction xs with
  | nil => intro L v _; rfl
  | cons p xs ih =>
    intro L v hv
    rw [List.map_cons, List.mem_cons, not_or] at hv
    rw [List.foldl_cons, ih _ v hv.2]
    simp [gn, Ne.symm hv.1]
theorem outL_at {N v f : Nat} {xs : List (Nat × Nat)} (hn : (xs.map Prod.fst).Nodup) (hv : v < N) (h : (v, f) ∈ xs) : gn (outL N xs) v = f := set_fold xs _ v f (by simpa using hv) hn h
theorem outL_no {N v : Nat} {xs : List (Nat × Nat)} (hv : v < N) (h : v ∉ xs.map Prod.fst) : gn (outL N xs) v = farV := by
  unfold outL
  suffices keep : ∀ (xs : List (Nat × Nat)) (L : List Nat) (v : Nat), v ∉ xs.map Prod.fst → gn (xs.foldl (fun L p => L.set p.1 p.2) L) v = gn L v by
    rw [keep xs _ v h]
    simp [gn, hv]
  intro xs
  induction xs with
  | nil => intro L v _; rfl
  | cons p xs ih =>
    intro L v hv
    rw [List.map_cons, List.mem_cons, not_or] at hv
    rw [List.foldl_cons, ih _ v hv.2]
    simp [gn, Ne.symm hv.1]
/-- How far a node is: it came, or it is nowhere. -/
theorem outL_cases {x : Srch} {s mw v : Nat} {xs : List (Nat × Nat)} (h : Far x s mw xs) (hb : x.N * mw < farV) (hv : v < x.N) :
    ((v, gn (outL x.N xs) v) ∈ xs ∧ gn (outL x.N xs) v < farV) ∨ (gn (outL x.N xs) v = farV ∧ ∀ f, (v, f) ∉ xs) := by
  by_cases hm : v ∈ xs.map Prod.fst
  · obtain ⟨⟨u, f⟩, hp, rfl⟩ := List.mem_map.1 hm
    have e := outL_at h.nodup hv hp
    simp only at e
    refine .inl ?_
    simp only
    rw [e]
    exact ⟨hp, by have := (h.way _ _ hp).2.2.2; omega⟩
  · exact .inr ⟨outL_no hv hm, fun f hf => hm (List.mem_map.2 ⟨_, hf, rfl⟩)⟩
theorem Far.one {x : Srch} {s mw v f g : Nat} {xs : List (Nat × Nat)} (h : Far x s mw xs) (h1 : (v, f) ∈ xs) (h2 : (v, g) ∈ xs) : f = g := by
  have hv := (h.way _ _ h1).1
  rw [← outL_at h.nodup hv h1, ← outL_at h.nodup hv h2]
theorem Far.edge {x : Srch} {s mw i : Nat} {xs : List (Nat × Nat)} (h : Far x s mw xs) (hb : x.N * mw < farV) (hm : x.most = 0) (hu : nN x.E x.back i < x.N) (ht : toE x i < x.N) (hi : i < x.E.length) (hc : cntE x i = true) (hf : gn (outL x.N xs) (nN x.E x.back i) < farV) :
    gn (outL x.N xs) (toE x i) ≤ gn (outL x.N xs) (nN x.E x.back i) + gn x.W i := by
  rcases outL_cases h hb hu with ⟨h1, _⟩ | ⟨h1, _⟩
  · have hw := (h.way _ _ h1).2.1
    obtain ⟨g, hg, hle⟩ := h.all _ _ (hw.step hi hc) (fun h => by omega)
    rw [outL_at h.nodup ht hg]
    exact hle
  · omega
theorem Far.by_ {x : Srch} {s mw v : Nat} {xs : List (Nat × Nat)} (h : Far x s mw xs) (hb : x.N * mw < farV) (hm : x.most = 0) (hn : ∀ i, i < x.E.length → nN x.E x.back i < x.N) (hv : v < x.N) (hvs : v ≠ s) (hf : gn (outL x.N xs) v < farV) :
    ∃ i, i < x.E.length ∧ toE x i = v ∧ gn (outL x.N xs) (nN x.E x.back i) < farV ∧ gn (outL x.N xs) v = gn (outL x.N xs) (nN x.E x.back i) + gn x.W i := by
  rcases outL_cases h hb hv with ⟨h1, _⟩ | ⟨h1, _⟩
  · obtain ⟨f, hfe⟩ : ∃ f, gn (outL x.N xs) v = f := ⟨_, rfl⟩
    rw [hfe] at h1 hf ⊢
    have hw := (h.way _ _ h1).2.1
    cases hw with
    | here => exact absurd rfl hvs
    | @step f' i hw hi hc =>
      obtain ⟨g, hg, hle⟩ := h.all _ _ hw (fun h => by omega)
      have hwg := (h.way _ _ hg).2.1
      obtain ⟨g2, hg2, hle2⟩ := h.all _ _ (hwg.step hi hc) (fun h => by omega)
      have e := h.one hg2 h1
      have e2 := outL_at h.nodup (hn i hi) hg
      exact ⟨i, hi, rfl, by rw [e2]; omega, by rw [e2]; omega⟩
  · omega
theorem Far.begin_ {x : Srch} {s mw : Nat} {xs : List (Nat × Nat)} (h : Far x s mw xs) (hs : s < x.N) : gn (outL x.N xs) s = 0 := by
  obtain ⟨g, hg, hle⟩ := h.all s 0 .here (fun _ => Nat.zero_le _)
  rw [outL_at h.nodup hs hg]
  omega
theorem Way.trans {x : Srch} {a b c f g : Nat} (h : Way x a b f) (k : Way x b c g) : Way x a c (f + g) := by
  induction k with
  | here => exact h
  | step k hi hc ih =>
    rw [← Nat.add_assoc]
    exact ih.step hi hc
/-- The same, turned round. -/
def turnX (x : Srch) : Srch := { x with back := !x.back }
theorem Way.turned {x : Srch} (hc : ∀ i, i < x.E.length → cntE (turnX x) i = true) {a b f : Nat} (h : Way x a b f) : Way (turnX x) b a f := by
  induction h with
  | here => exact .here
  | @step f i h hi hcn ih =>
    have h1 : nN (turnX x).E (turnX x).back i = toE x i := by
      unfold nN toE turnX
      cases x.back <;> rfl
    have h2 : toE (turnX x) i = nN x.E x.back i := by
      unfold nN toE turnX
      cases x.back <;> rfl
    have h3 := Way.step (x := turnX x) (s := toE x i) (f := 0) (i := i) (by rw [h1]; exact .here) hi (hc i hi)
    rw [h2, Nat.zero_add] at h3
    have := h3.trans ih
    rw [Nat.add_comm] at this
    exact this
theorem Far.turned {x : Srch} {s t mw : Nat} {xs ys : List (Nat × Nat)} (h : Far x s mw xs) (k : Far (turnX x) t mw ys) (hb : x.N * mw < farV) (hm : x.most = 0) (hc : ∀ i, i < x.E.length → cntE (turnX x) i = true) (hc2 : ∀ i, i < x.E.length → cntE x i = true) (hs : s < x.N) (ht : t < x.N) :
    gn (outL x.N ys) s = gn (outL x.N xs) t := by
  have tt : turnX (turnX x) = x := by unfold turnX; cases x; simp
  have back : ∀ {f}, Way (turnX x) t s f → Way x s t f := fun {f} h => by
    have := Way.turned (x := turnX x) (by rw [tt]; exact hc2) h
    rw [tt] at this
    exact this
  have hm2 : (turnX x).most = 0 := hm
  rcases outL_cases h hb ht with ⟨h1, h2⟩ | ⟨h1, h2⟩
  · have hw := (h.way _ _ h1).2.1
    obtain ⟨g, hg, hle⟩ := k.all _ _ (Way.turned hc hw) (fun h => by omega)
    have hw2 := back (k.way _ _ hg).2.1
    obtain ⟨g2, hg2, hle2⟩ := h.all _ _ hw2 (fun h => by omega)
    have e := h.one hg2 h1
    have e2 := outL_at (N := x.N) k.nodup hs hg
    omega
  · rw [h1]
    refine outL_no hs (fun hmem => ?_)
    obtain ⟨⟨u, f⟩, hp, rfl⟩ := List.mem_map.1 hmem
    have hw2 := back (k.way _ _ hp).2.1
    obtain ⟨g2, hg2, _⟩ := h.all _ _ hw2 (fun h => by omega)
    exact h2 g2 hg2
/-- No way is shorter than numbers that no edge undercuts. -/
theorem Way.ge {x : Srch} {s : Nat} (d : Nat → Nat) (h0 : d s = 0) (hd : ∀ i, i < x.E.length → d (toE x i) ≤ d (nN x.E x.back i) + gn x.W i) {v f : Nat} (h : Way x s v f) : d v ≤ f := by
  induction h with
  | here => omega
  | step h hi hc ih =>
    have := hd _ hi
    omega
end Go.Proofs.Ytomednfddpggaaa

/- Contracts: the chapter's example; may a graph and what counts be gone through? -/
namespace Go.Proofs.Ytomednfddpggaaa
open Go Go.RowKit
theorem Far.is {x : Srch} {s mw v f : Nat} {xs : List (Nat × Nat)} (h : Far x s mw xs) (hm : x.most = 0) (hv : v < x.N) (h1 : Way x s v f) (h2 : ∀ g, Way x s v g → f ≤ g) : gn (outL x.N xs) v = f := by
  obtain ⟨g, hg, hle⟩ := h.all _ _ h1 (fun h => by omega)
  have := h2 g (h.way _ _ hg).2.1
  rw [outL_at h.nodup hv hg]
  omega
/-- The trace of a search that may be. -/
theorem walk_is {N s mw : Nat} {E : List Edg} {o : DOpt} (hok : WalkOk N s E o) (hw : ∀ i, i < E.length → 1 ≤ gn (wtF N E o.W) i ∧ gn (wtF N E o.W) i ≤ mw) (hmw : mw ≤ 17592186044416) (hnn : (s : Int) ∉ o.nn) :
    ∃ xs, (if (s : Int) ∈ o.nn then xs = [] else Trace (srchOf N E o) (reachS o.most (st0 N) s 0) xs) ∧ Far (srchOf N E o) s mw xs ∧ ∀ p, p ∈ xs → p.1 < N := by
  have hs := hok.srch
  have hin : SrchIn (srchOf N E o) mw := ⟨fun i hi => by
    have h1 := hs.ends.f i hi
    have h2 := hs.ends.t i hi
    unfold toE
    split
    · exact h1.1
    · exact h2.1, fun i hi => (hw i hi).1, fun i hi => (hw i hi).2⟩
  obtain ⟨xs, h1, h2⟩ := trace_whole (x := srchOf N E o) (s := s) hin hs.nodes hok.node (by omega)
  refine ⟨xs, by rw [if_neg hnn]; exact h1, h2, fun p hp => ?_⟩
  obtain ⟨v, f⟩ := p
  exact (h2.way v f hp).1
def exE : List Edg := [⟨0, 1, 2⟩, ⟨1, 2, 3⟩, ⟨0, 2, 9⟩]
def exO : DOpt := ⟨false, [], [], [], 0⟩
theorem exOk : WalkOk 3 0 exE exO := ⟨by decide +kernel, by omega, .inl rfl, by show 0 < _; omega, by show 0 ≤ _; omega, by show 0 ≤ _; omega⟩
def exD (v : Nat) : Nat := if v = 0 then 0 else if v = 1 then 2 else 5
theorem exIs : ∃ xs, (if ((0 : Nat) : Int) ∈ exO.nn then xs = [] else Trace (srchOf 3 exE exO) (reachS exO.most (st0 3) 0 0) xs) ∧ (∀ p, p ∈ xs → p.1 < 3) ∧ outL 3 xs = [0, 2, 5] := by
  have hw : wtF ((3 : Nat) : Int) exE exO.W = [2, 3, 9] := by decide +kernel
  obtain ⟨xs, h1, h2, h3⟩ := walk_is (mw := 9) exOk (fun i hi => by
    have hi : i < 3 := hi
    rw [hw]
    match i, hi with
    | 0, _ => exact ⟨by decide, by decide⟩
    | 1, _ => exact ⟨by decide, by decide⟩
    | 2, _ => exact ⟨by decide, by decide⟩) (by omega) (by simp [exO])
  refine ⟨xs, h1, h3, ?_⟩
  have e0 : ∀ f, Way (srchOf 3 exE exO) 0 0 f → 0 ≤ f := fun f _ => Nat.zero_le f
  have ge : ∀ {v f}, Way (srchOf 3 exE exO) 0 v f → exD v ≤ f := fun {v f} h => Way.ge (x := srchOf 3 exE exO) exD rfl (fun i hi => by
    have hi : i < 3 := hi
    have hww : ∀ j, gn (srchOf 3 exE exO).W j = gn [2, 3, 9] j := fun j => by show gn (wtF ((3 : Nat) : Int) exE exO.W) j = _; rw [hw]
    rw [hww]
    match i, hi with
    | 0, _ => decide
    | 1, _ => decide
    | 2, _ => decide) h
  have hww : ∀ j, gn (srchOf 3 exE exO).W j = gn [2, 3, 9] j := fun j => by show gn (wtF ((3 : Nat) : Int) exE exO.W) j = _; rw [hw]
  have w1 : Way (srchOf 3 exE exO) 0 1 2 := by
    have := Way.step (x := srchOf 3 exE exO) (s := 0) (f := 0) (i := 0) (by exact Way.here) (by decide) (by decide)
    rw [hww] at this
    exact this
  have w2 : Way (srchOf 3 exE exO) 0 2 5 := by
    have := Way.step (x := srchOf 3 exE exO) (s := 0) (f := 2) (i := 1) (by exact w1) (by decide) (by decide)
    rw [hww] at this
    exact this
  have g0 := h2.is (v := 0) rfl (by show 0 < 3; omega) .here e0
  have g1 := h2.is (v := 1) rfl (by show 1 < 3; omega) w1 (fun g hg => ge hg)
  have g2 := h2.is (v := 2) rfl (by show 2 < 3; omega) w2 (fun g hg => ge hg)
  have hl := outL_len 3 xs
  change gn (outL 3 xs) 0 = 0 at g0
  change gn (outL 3 xs) 1 = 2 at g1
  change gn (outL 3 xs) 2 = 5 at g2
  generalize outL 3 xs = L at *
  match L, hl with
  | [a, b, c], _ =>
    simp [gn] at g0 g1 g2
    rw [g0, g1, g2]
/-- May a graph, and what counts, be gone through? -/
def light14 (N : Int) (n : Nat) (a b c : Nat) : Bool := lightG N n && decide (a ≤ 100) && decide (b ≤ 100) && decide (c ≤ 400)
end Go.Proofs.Ytomednfddpggaaa

/- Contracts: the answer's rows of edges; whether a number is there. -/
namespace Go.Proofs.Ytomednfddpggaaa
open Go Go.RowKit
set_option maxHeartbeats 1000000 in
theorem r1Has (A : Option Addr) (n c : Nat) (l : List Int) (v : Int) (w : World) (h : Rd w A 1 n (l.map (.int .i64))) (hn : n ≤ 1000000) :
    Calls Try.prog 29 #[.slice A n c, .int .i64 v] w fun e w' => e = .returned (.bool (decide (v ∈ l))) ∧ w = w' := by
  have HL := hide (show l.length = n by simpa using h.len)
  have HR := hide h
  clear h
  go_enter Try.func29, Try.ntmps29
  go_wp2
  go_loop [5] (fun i => ∃ k : Nat, k ≤ n ∧ i = .int .i64 (k : Int) ∧ ∀ j, j < k → gi l j ≠ v) (fun i => n - (intOf i).toNat)
  case atStart => exact ⟨0, by omega, by go_num, fun j h1 => by omega⟩
  case round =>
    obtain ⟨q, hq, rfl, hall⟩ := hrel
    have HA := hide hall
    clear hall
    by_cases hend : n ≤ q
    · go_wp2
      go_ret
      refine ⟨ret_bool (decide_eq_false fun hm => ?_).symm, rfl⟩
      obtain ⟨j, hj, e⟩ := mem_gi hm
      exact HA.out j (by have := HL.out; omega) e
    · obtain ⟨b, off, rfl, hc⟩ := HR.out.ints (by omega)
      have hc1 := hc q (by omega)
      clear hc
      by_cases hv : gi l q = v
      · have HV := hide (show v ∈ l from hv ▸ gi_mem (by have := HL.out; omega))
        have hd : (gi l q == v) = true := by simpa using hv
        clear hv
        go_wp2
        go_ret
        exact ⟨ret_bool (decide_eq_true HV.out).symm, rfl⟩
      · have HV := hide hv
        have hd : (gi l q == v) = false := by simpa using hv
        clear hv
        go_wp2
        go_round
        case measure => simp [intOf]; omega
        case rel =>
          refine ⟨q + 1, by omega, by go_num, fun j h1 => ?_⟩
          by_cases hj : j = q
          · rw [hj]; exact HV.out
          · exact HA.out j (by omega)

theorem anyI_false {l : List Int} {p : Int → Bool} {n : Nat} (hl : l.length = n) (h : ∀ j, j < n → p (gi l j) = false) : l.any p = false := by
  rw [List.any_eq_false]
  intro e he
  obtain ⟨j, hj, rfl⟩ := mem_gi he
  rw [h j (by omega)]
  simp
theorem anyI_true {l : List Int} {p : Int → Bool} {j : Nat} (hj : j < l.length) (h : p (gi l j) = true) : l.any p = true := by
  rw [List.any_eq_true]
  exact ⟨gi l j, gi_mem hj, h⟩

set_option maxHeartbeats 2000000 in
theorem r8edges (N : Int) (A : Option Addr) (m c : Nat) (E : List Edg) (B : Option Addr) (n d : Nat) (l : List Int) (w : World) (h : Rd w A 3 m (esCells E)) (hm : m ≤ 1000000) (h' : Rd w B 1 n (l.map (.int .i64))) (hn : n ≤ 1000000) :
    Calls Try.prog 96 #[.agg #[.int .i64 N, .slice A m c], .slice B n d] w fun e w' => e = .returned (.bool (edgesB N E l)) ∧ Grows w w' := by
  have HL := hide h.elen
  have HL' := hide (show l.length = n by simpa using h'.len)
  have HR := hide h
  have HS := hide (h'.new (.cells #[.int .i64 N, .slice A m c] 24))
  clear h h'
  have C1 := fun (W : World) (g : Grows w W) => r5Right N A m c E W (HR.out.grows g) hm
  by_cases h0 : rightF N E = 0
  · have HW : Hid (edgesB N E l = !l.any fun e => !edgeB m e) := by unfold edgesB; rw [HL.out, decide_eq_true h0]; rfl
    rw [h0] at C1
    have H1 := hide C1
    clear C1 h0
    go_enter Try.func96, Try.ntmps96
    go_wp2_with (first | (go_at_call 31; refine (H1.out _ (by repeat (first | exact Grows.refl _ | refine Grows.now ?_ _ | refine Grows.new ?_ _ | refine Grows.drewN ?_ _ | refine Grows.drew ?_ | assumption | (refine Grows.set ?_ (by first | omega | (simp; done) | (simp; omega)) _)))).mono ?_; rintro e w' ⟨rfl, hg⟩; (first | obtain ⟨x, rfl⟩ := Grows.later2 hg | obtain ⟨x, rfl⟩ := Grows.later hg); clear hg))
    go_loopw [5] (fun i wr => ∃ k : Nat, k ≤ n ∧ i = .int .i64 (k : Int) ∧ (∃ x : Later (w.alloc (.cells #[.int .i64 N, .slice A m c] 24)), wr = x.now) ∧ ∀ j, j < k → (!edgeB m (gi l j)) = false) (fun i _ => n - (intOf i).toNat)
    case atStart => exact ⟨0, by omega, by go_num, ⟨_, rfl⟩, fun j h1 => by omega⟩
    case round =>
      obtain ⟨q, hq, rfl, ⟨y, rfl⟩, hall⟩ := hrel
      have HA := hide hall
      clear hall
      by_cases hend : n ≤ q
      · go_wp2
        go_ret
        refine ⟨ret_bool ?_, (by repeat (first | exact Grows.refl _ | refine Grows.now ?_ _ | refine Grows.new ?_ _ | refine Grows.drewN ?_ _ | refine Grows.drew ?_ | assumption | (refine Grows.set ?_ (by first | omega | (simp; done) | (simp; omega)) _)))⟩
        rw [HW.out, anyI_false (p := fun e => !edgeB m e) HL'.out fun j hj => HA.out j (by omega)]
        rfl
      · obtain ⟨b, off, rfl, hc⟩ := HS.out.ints (by omega)
        have hc1 := hc q (by omega)
        clear hc
        cases hp : edgeB m (gi l q) with
        | true =>
          have HP : Hid ((!edgeB m (gi l q)) = false) := by rw [show Hid ((!edgeB m (gi l q)) = false) = ((!edgeB m (gi l q)) = false) from rfl, hp]; rfl
          have hp' : 0 ≤ gi l q ∧ gi l q < m := by simpa [edgeB] using hp
          obtain ⟨hp1, hp2⟩ := hp'
          clear hp
          go_wp2_with fail
          ((first | refine wp_region_gen2 (by kernel_rfl) (by kernel_rfl) ?_ | refine wp_region_gen (by kernel_rfl) (by kernel_rfl) ?_); (repeat' (first | (refine gLex_val0 rfl (by kernel_rfl) (fun K hK => ?_); (go_simp; (try (simp only [↓IntWalk.iteOmega]; try go_simp)); (try simp (disch := omega) only [IntWalk.i64_in]); (try simp (disch := omega) only [IntWalk.u64_in]); first | (refine hK _ ?_; clear hK K) | (apply Exists.intro; refine ⟨fun x => ?_, hK _ ?_⟩; (first | fail); clear hK K))) | (refine gLex_undef rfl rfl rfl (by kernel_rfl) (fun K hK => ?_); go_simp; refine hK _ ?_; clear hK K) | (refine gLex_ask rfl rfl rfl ?_; first | (apply gAsk_yes; kernel_rfl; intro K hK; (go_simp; (try (simp only [↓IntWalk.iteOmega]; try go_simp)); (try simp (disch := omega) only [IntWalk.i64_in]); (try simp (disch := omega) only [IntWalk.u64_in]); first | (refine hK _ ?_; clear hK K) | (apply Exists.intro; refine ⟨fun x => ?_, hK _ ?_⟩; (first | fail); clear hK K))) | ((first | apply gAsk_no1 | apply gAsk_no2); kernel_rfl; intro K hK; simp [go_sem]; refine hK _ ?_; clear hK K) | (apply gAsk_part; kernel_rfl; all_goals (intro h K hK; (try simp only [Bool.not_true] at h); (try simp only [Bool.not_false] at h); (try simp only [decide_eq_true_eq] at h); (try simp only [decide_eq_false_iff_not] at h); first | (exfalso; first | contradiction | omega) | (go_simp; (try (simp only [↓IntWalk.iteOmega]; try go_simp)); (try simp (disch := omega) only [IntWalk.i64_in]); (try simp (disch := omega) only [IntWalk.u64_in]); first | (refine hK _ ?_; clear hK K) | (apply Exists.intro; refine ⟨fun x => ?_, hK _ ?_⟩; (first | fail); clear hK K))))))); all_goals ((apply gLex_end); intro x))
          go_wp2
          go_roundw
          case measure => simp [intOf]; omega
          case rel =>
            refine ⟨q + 1, by omega, by go_num, ⟨_, rfl⟩, fun j h1 => ?_⟩
            by_cases hj : j = q
            · rw [hj]; exact HP.out
            · exact HA.out j (by omega)
        | false =>
          have HW2 : Hid (edgesB N E l = false) := by
            rw [show Hid (edgesB N E l = false) = (edgesB N E l = false) from rfl, HW.out, anyI_true (p := fun e => !edgeB m e) (l := l) (j := q) (by have := HL'.out; omega) (by simp [hp])]; rfl
          have hp' : gi l q < 0 ∨ (m : Int) ≤ gi l q := by
            have : ¬ (0 ≤ gi l q ∧ gi l q < m) := by simpa [edgeB] using hp
            omega
          clear hp HW
          rcases hp' with hp | hp
          all_goals
            go_wp2_with fail
            ((first | refine wp_region_gen2 (by kernel_rfl) (by kernel_rfl) ?_ | refine wp_region_gen (by kernel_rfl) (by kernel_rfl) ?_); (repeat' (first | (refine gLex_val0 rfl (by kernel_rfl) (fun K hK => ?_); (go_simp; (try (simp only [↓IntWalk.iteOmega]; try go_simp)); (try simp (disch := omega) only [IntWalk.i64_in]); (try simp (disch := omega) only [IntWalk.u64_in]); first | (refine hK _ ?_; clear hK K) | (apply Exists.intro; refine ⟨fun x => ?_, hK _ ?_⟩; (first | fail); clear hK K))) | (refine gLex_undef rfl rfl rfl (by kernel_rfl) (fun K hK => ?_); go_simp; refine hK _ ?_; clear hK K) | (refine gLex_ask rfl rfl rfl ?_; first | (apply gAsk_yes; kernel_rfl; intro K hK; (go_simp; (try (simp only [↓IntWalk.iteOmega]; try go_simp)); (try simp (disch := omega) only [IntWalk.i64_in]); (try simp (disch := omega) only [IntWalk.u64_in]); first | (refine hK _ ?_; clear hK K) | (apply Exists.intro; refine ⟨fun x => ?_, hK _ ?_⟩; (first | fail); clear hK K))) | ((first | apply gAsk_no1 | apply gAsk_no2); kernel_rfl; intro K hK; simp [go_sem]; refine hK _ ?_; clear hK K) | (apply gAsk_part; kernel_rfl; all_goals (intro h K hK; (try simp only [Bool.not_true] at h); (try simp only [Bool.not_false] at h); (try simp only [decide_eq_true_eq] at h); (try simp only [decide_eq_false_iff_not] at h); first | (exfalso; first | contradiction | omega) | (go_simp; (try (simp only [↓IntWalk.iteOmega]; try go_simp)); (try simp (disch := omega) only [IntWalk.i64_in]); (try simp (disch := omega) only [IntWalk.u64_in]); first | (refine hK _ ?_; clear hK K) | (apply Exists.intro; refine ⟨fun x => ?_, hK _ ?_⟩; (first | fail); clear hK K))))))); all_goals ((apply gLex_end); intro x))
            go_wp2
            go_ret
            exact ⟨ret_bool HW2.out.symm, (by repeat (first | exact Grows.refl _ | refine Grows.now ?_ _ | refine Grows.new ?_ _ | refine Grows.drewN ?_ _ | refine Grows.drew ?_ | assumption | (refine Grows.set ?_ (by first | omega | (simp; done) | (simp; omega)) _)))⟩
  · have HW : Hid (edgesB N E l = false) := by unfold edgesB; rw [decide_eq_false h0]; rfl
    have hd : (rightF N E != 0) = true := by simpa using h0
    have H1 := hide C1
    clear C1 h0
    go_enter Try.func96, Try.ntmps96
    go_wp2_with (first | (go_at_call 31; refine (H1.out _ (by repeat (first | exact Grows.refl _ | refine Grows.now ?_ _ | refine Grows.new ?_ _ | refine Grows.drewN ?_ _ | refine Grows.drew ?_ | assumption | (refine Grows.set ?_ (by first | omega | (simp; done) | (simp; omega)) _)))).mono ?_; rintro e w' ⟨rfl, hg⟩; (first | obtain ⟨x, rfl⟩ := Grows.later2 hg | obtain ⟨x, rfl⟩ := Grows.later hg); clear hg))
    go_ret
    exact ⟨ret_bool HW.out.symm, (by repeat (first | exact Grows.refl _ | refine Grows.now ?_ _ | refine Grows.new ?_ _ | refine Grows.drewN ?_ _ | refine Grows.drew ?_ | assumption | (refine Grows.set ?_ (by first | omega | (simp; done) | (simp; omega)) _)))⟩

end Go.Proofs.Ytomednfddpggaaa
