/- Contract: how far one node is, by the shortest way's own answer. -/
import Derived.Test.YthjcbboignmknaaQCanonAll15
import Derived.Test.YthjcbboignmknaaQCanonAll14
import Derived.Test.YthjcbboignmknaaQFlowBalance00
/- How far one node is; and the law DijkAll, walked: how far all nodes are, with whatever counts, or why that is not told. -/
namespace Go.Proofs.Ythjcbboignmknaa
open Go Go.RowKit
attribute [local go_sem] Oper.semAt_some
/-- Between two nodes: the one that is sought has not come. -/
def OneI (w : World) (lo b6 b8 b9 t : Nat) (z8 z9 : Value) (p : List (Nat × Nat)) (Mi : Nat → Prop) (W : World) : Prop :=
  (∃ y : Later w, W = y.now) ∧ (Arr W b6 3 [.int .i64 (t : Int)] ∧ Arr W b8 37 [z8] ∧ Arr W b9 42 [z9]) ∧ (t ∉ p.map Prod.fst) ∧ (∀ k, Mi k → lo ≤ k ∧ k < W.heap.size) ∧ lo ≤ W.heap.size
theorem OneI.yields {w : World} {lo b6 b8 b9 t : Nat} {z8 z9 : Value} (h1 : b6 < lo) (h2 : b8 < lo) (h3 : b9 < lo) (hlo : w.heap.size ≤ lo) : Yields' (OneI w lo b6 b8 b9 t z8 z9) := by
  rintro p Mi W Mi' W' ⟨⟨y, rfl⟩, ⟨a1, a2, a3⟩, a4, a5, a6⟩ ht hM'
  have nb : ∀ k, k < lo → ¬ Mi k := fun k hk e => by have := (a5 _ e).1; omega
  refine ⟨⟨⟨W', ht.later y.grows (fun k hk => Nat.le_trans hlo (a5 k hk).1)⟩, rfl⟩, ⟨a1.touch ht (nb _ h1), a2.touch ht (nb _ h2), a3.touch ht (nb _ h3)⟩, a4, fun k hk => ?_, Nat.le_trans a6 ht.size⟩
  obtain ⟨h | h, h'⟩ := hM' k hk
  · exact ⟨(a5 k h).1, h'⟩
  · exact ⟨by omega, h'⟩
/-- It has come. -/
def OneX (w : World) (lo b6 b8 b9 t : Nat) (xs : List (Nat × Nat)) (c : Code) (p : List (Nat × Nat)) (Mi : Nat → Prop) (W : World) : Prop :=
  c = .ret ∧ ∃ f, (t, f) ∈ xs ∧ (∃ y : Later w, W = y.now) ∧ (Arr W b8 37 [.int .u64 (f : Int)] ∧ Arr W b9 42 [.int .i64 0]) ∧ (∀ k, Mi k → lo ≤ k ∧ k < W.heap.size) ∧ lo ≤ W.heap.size
theorem OneX.yields {w : World} {lo b6 b8 b9 t : Nat} {xs : List (Nat × Nat)} (h2 : b8 < lo) (h3 : b9 < lo) (hlo : w.heap.size ≤ lo) (c : Code) : Yields' (OneX w lo b6 b8 b9 t xs c) := by
  rintro p Mi W Mi' W' ⟨e, f, a0, ⟨y, rfl⟩, ⟨a2, a3⟩, a5, a6⟩ ht hM'
  have nb : ∀ k, k < lo → ¬ Mi k := fun k hk e => by have := (a5 _ e).1; omega
  refine ⟨e, f, a0, ⟨⟨W', ht.later y.grows (fun k hk => Nat.le_trans hlo (a5 k hk).1)⟩, rfl⟩, ⟨a2.touch ht (nb _ h2), a3.touch ht (nb _ h3)⟩, fun k hk => ?_, Nat.le_trans a6 ht.size⟩
  obtain ⟨h | h, h'⟩ := hM' k hk
  · exact ⟨(a5 k h).1, h'⟩
  · exact ⟨by omega, h'⟩
def FrameOne (b6 b8 b9 v far : Nat) (a' : Act) : Prop := ∃ u0 u1 u2 u3 u4 u5 u7 u10 u13 u14 u15 u16 u17 u18 u19 u20 u21 u22 u23 u24 u25 u26 u27 u28 u29 u30 u31 u32 u33 : Value, a' = { tmps := #[u0, u1, u2, u3, u4, u5, .pointer (some ⟨b6, 0, none⟩), u7, .pointer (some ⟨b8, 0, none⟩), .pointer (some ⟨b9, 0, none⟩), u10, .int .i64 (v : Int), .int .u64 (far : Int), u13, u14, u15, u16, u17, u18, u19, u20, u21, u22, u23, u24, u25, u26, u27, u28, u29, u30, u31, u32, u33], defers := [] }
def OneB (w : World) (lo b6 b8 b9 t : Nat) (z8 z9 : Value) (x : Nat × Nat) (a' : Act) (p : List (Nat × Nat)) (Mi : Nat → Prop) (W : World) : Prop := FrameOne b6 b8 b9 x.1 x.2 a' ∧ OneI w lo b6 b8 b9 t z8 z9 p Mi W
/-- What comes of it: the number, or that there is no way. -/
def OneP (w : World) (xs : List (Nat × Nat)) (t : Nat) (e : Ending) (w' : World) : Prop :=
  ((∃ f, (t, f) ∈ xs ∧ e = .returned (.tuple #[.int .u64 (f : Int), .int .i64 0])) ∨ (t ∉ xs.map Prod.fst ∧ e = .returned (.tuple #[.int .u64 0, .int .i64 9]))) ∧ Grows w w'
set_option maxRecDepth 40000 in
set_option maxHeartbeats 8000000 in
theorem djOne (N s t : Nat) (A : Option Addr) (c : Nat) (E : List Edg) (o : DOpt) (An Ae Aw : Option Addr) (cn ce cw : Nat) (xs : List (Nat × Nat)) (w : World) (h : Rd w A 3 E.length (esCells E)) (h2 : Rd w An 1 o.nn.length (o.nn.map (.int .i64))) (h3 : Rd w Ae 1 o.ne.length (o.ne.map (.int .i64))) (h4 : Rd w Aw 1 o.W.length (wv o.W))
    (hok : WalkOk N s E o) (hd : dcF N s E o.W = 0) (hxs : if (s : Int) ∈ o.nn then xs = [] else Trace (srchOf N E o) (reachS o.most (st0 N) s 0) xs) (ht : t < N) :
    Calls Try.prog 31 #[.agg #[.int .i64 (N : Int), .slice A E.length c], .int .i64 (s : Int), .int .i64 (t : Int), oVal o.back (.slice An o.nn.length cn) (.slice Ae o.ne.length ce) Aw o.W.length cw o.most] w (OneP w xs t) := by
  unfold oVal
  obtain ⟨r1, r2, r3, r4, r5⟩ := right_in hok.right
  have C1 := hide (fun (W : World) (g : Grows w W) => djCheck (N : Int) s A E.length c E o.back (.slice An o.nn.length cn) (.slice Ae o.ne.length ce) Aw o.W.length cw o.most o.W W (h.grows g) (h4.grows g) (by omega) (by have := hok.wts; omega))
  rw [hd] at C1
  unfold oVal at C1
  have C2 := hide (fun (W : World) => gNode (N : Int) (t : Int) (.slice A E.length c) W)
  have hb : nodeB (N : Int) (t : Int) = true := decide_eq_true ⟨by omega, by omega⟩
  rw [hb] at C2
  have C3 := hide (fun (W : World) => djWalk (.agg #[.int .i64 (N : Int), .slice A E.length c]) (.int .i64 (s : Int)) (.agg #[.bool o.back, .slice An o.nn.length cn, .slice Ae o.ne.length ce, .slice Aw o.W.length cw, .int .u64 (o.most : Int)]) (N : Int) (.slice A E.length c) rfl (s : Int) rfl _ _ _ _ _ rfl W)
  have HM := hide (And.intro h (And.intro h2 (And.intro h3 h4)))
  have HOK := hide hok
  have HXS := hide hxs
  clear h h2 h3 h4 hok hxs hd r1 r2 r3 r4 r5 hb
  refine calls_of_marks Try.func31 rfl ?_
  simp only [Try.ntmps31, List.size_toArray, List.length_cons, List.length_nil, Nat.reduceAdd, Nat.reduceSub, Array.replicate_succ, Array.replicate_zero, List.push_toArray, List.append_toArray, List.nil_append, List.cons_append]
  go_wp2_with fail
  refine (C1.out _ (by repeat (first | exact Grows.refl _ | refine Grows.now ?_ _ | refine Grows.new ?_ _ | refine Grows.drewN ?_ _ | refine Grows.drew ?_ | assumption | (refine Grows.set ?_ (by first | omega | (simp; done) | (simp; omega)) _)))).mono ?_; rintro e w' ⟨rfl, hg⟩; obtain ⟨x1, rfl⟩ := hg.later; clear hg
  go_wp2_with fail
  refine (C2.out _).mono ?_; rintro e w' ⟨rfl, hg⟩; obtain ⟨x2, rfl⟩ := Grows.later2 hg; clear hg
  go_wp2_with fail
  refine (C3.out _).mono ?_; rintro e W0 ⟨b, rfl, hb, z1, z2, z3, hg⟩
  have hx2 := x2.size
  have hs5 : w.heap.size + 1 + 1 + 1 + 1 < b := by rw [← hb]; simp at hx2; omega
  have q6 : Arr W0 (w.heap.size + 1) 3 [.int .i64 (t : Int)] := Arr.grow ⟨by simp [heap_push, Array.getElem_push, Array.getElem?_push, eq_add2]⟩ (x2.grows.trans hg)
  have q8 : Arr W0 (w.heap.size + 1 + 1 + 1) 37 [.int .u64 0] := Arr.grow ⟨by simp [heap_push, Array.getElem_push, Array.getElem?_push, eq_add2]⟩ (x2.grows.trans hg)
  have q9 : Arr W0 (w.heap.size + 1 + 1 + 1 + 1) 42 [.int .i64 0] := Arr.grow ⟨by simp [heap_push, Array.getElem_push, Array.getElem?_push, eq_add2]⟩ (x2.grows.trans hg)
  have hgw : Grows w W0 := Grows.trans (by show Grows w x2.now; exact (by repeat (first | exact Grows.refl _ | refine Grows.now ?_ _ | refine Grows.new ?_ _ | refine Grows.drewN ?_ _ | refine Grows.drew ?_ | assumption | (refine Grows.set ?_ (by first | omega | (simp; done) | (simp; omega)) _)))) hg
  have hW0 := z3.lt
  have hsz0 := hgw.size
  have g6 : w.heap.size ≤ w.heap.size + 1 := by omega
  have g8 : w.heap.size ≤ w.heap.size + 1 + 1 + 1 := by omega
  have g9 : w.heap.size ≤ w.heap.size + 1 + 1 + 1 + 1 := by omega
  have n89 : w.heap.size + 1 + 1 + 1 ≠ w.heap.size + 1 + 1 + 1 + 1 := by omega
  have l6 : w.heap.size + 1 < b := by omega
  have l8 : w.heap.size + 1 + 1 + 1 < b := by omega
  have l9 : w.heap.size + 1 + 1 + 1 + 1 < b := hs5
  clear hb hg C1 C2 C3 hx2 hs5
  generalize w.heap.size + 1 + 1 + 1 + 1 = b9 at *
  generalize w.heap.size + 1 + 1 + 1 = b8 at *
  generalize w.heap.size + 1 + 1 = b7 at *
  generalize w.heap.size + 1 = b6 at *
  have hwalk : WalkAt (fun k => k < w.heap.size ∨ (b ≤ k ∧ k ≤ b + 1 + 1)) W0 b (b + 1 + 1) (b + 1) N s E o := by
    obtain ⟨h1, h2, h3, h4⟩ := HM.out
    exact ⟨A, c, An, cn, Ae, ce, Aw, cw, z1, z3, z2, h1.grows hgw, h2.grows hgw, h3.grows hgw, h4.grows hgw, .inr ⟨by omega, by omega⟩, .inr ⟨by omega, by omega⟩, .inr ⟨by omega, by omega⟩, fun h p hp => .inl (h1.block_lt (by omega) h p hp), fun h p hp => .inl (h2.block_lt (by omega) h p hp), fun h p hp => .inl (h3.block_lt (by omega) h p hp), fun h p hp => .inl (h4.block_lt (by omega) h p hp)⟩
  have hBW : ∀ k, (k < w.heap.size ∨ (b ≤ k ∧ k ≤ b + 1 + 1)) → k < W0.heap.size := fun k hk => by rcases hk with hk | hk <;> omega
  have hGV := djWalk1 (fun k => k < w.heap.size ∨ (b ≤ k ∧ k ≤ b + 1 + 1)) (fun k => k < w.heap.size ∨ (b ≤ k ∧ k ≤ b + 1 + 1)) (fun _ => False) b (b + 1 + 1) (b + 1) N s E o xs W0 hwalk (fun k hk => .inl hk) (fun k hk => hk.elim) hBW HOK.out HXS.out
  have h0 : OneI w W0.heap.size b6 b8 b9 t (.int .u64 0) (.int .i64 0) [] (fun _ => False) W0 := ⟨⟨⟨W0, hgw⟩, rfl⟩, ⟨q6, q8, q9⟩, by simp, fun k hk => hk.elim, Nat.le_refl _⟩
  have hIy := OneI.yields (w := w) (lo := W0.heap.size) (b6 := b6) (b8 := b8) (b9 := b9) (t := t) (z8 := .int .u64 0) (z9 := .int .i64 0) (by omega) (by omega) (by omega) hsz0
  have hXy := OneX.yields (w := w) (lo := W0.heap.size) (b6 := b6) (b8 := b8) (b9 := b9) (t := t) (xs := xs) (by omega) (by omega) hsz0
  have HGV := hide hGV
  have H0 := hide h0
  clear hGV h0 hwalk q6 q8 q9 z1 z2 z3 HM HXS HOK
  go_wp2_with fail
  refine (wpIn_wide (n := 0)).1 ?_
  have hGV := HGV.out
  have h0 := H0.out
  clear HGV H0
  refine wp_rangeG (w0 := W0) (gf := 142) rfl (enters_of Try.func142 (by kernel_rfl) rfl) hGV (Keeps.refl _ _ _) hBW (fun k hk => hk.elim) (fun _ => rfl)
    (OneI w W0.heap.size b6 b8 b9 t (.int .u64 0) (.int .i64 0)) (OneX w W0.heap.size b6 b8 b9 t xs) hIy hXy h0 (OneB w W0.heap.size b6 b8 b9 t (.int .u64 0) (.int .i64 0)) ?hIb ?assign ?body ?done ?stop
  case hIb =>
    rintro x a' p Mi W1 Mi' W' ⟨hf, hI⟩ ht hM'
    exact ⟨hf, hIy p Mi W1 Mi' W' hI ht hM'⟩
  case assign =>
    intro l2 p x rest Mi W1 hsp hI
    have HI := hide hI
    clear hI
    unfold encD
    gi_wp2
    refine ⟨⟨?_, HI.out⟩, Keeps.refl _ _ _⟩
    unfold FrameOne
    (repeat apply Exists.intro)
    rfl
  case body =>
    rintro l2 p ⟨v, far⟩ rest Mi a' W1 hsp hl2 hMl hrec ⟨⟨u0, u1, u2, u3, u4, u5, u7, u10, u13, u14, u15, u16, u17, u18, u19, u20, u21, u22, u23, u24, u25, u26, u27, u28, u29, u30, u31, u32, u33, rfl⟩, ⟨⟨y, rfl⟩, ⟨q6, q8, q9⟩, hnt, hm, hlo⟩⟩
    have HMEM := hide (show (v, far) ∈ xs from by rw [hsp]; simp)
    have HMM := hide hm
    have HNT := hide hnt
    clear hsp hl2 hMl hrec hm h0 hIy hXy hGV hnt
    simp only
    have HKN : ∀ k, (k = b8 ∨ k = b9) → ¬ ((k < w.heap.size ∨ (b ≤ k ∧ k ≤ b + 1 + 1)) ∨ Mi k) := fun k hk e => by
      rcases e with (e | e) | e
      · rcases hk with rfl | rfl <;> omega
      · rcases hk with rfl | rfl <;> omega
      · have := (HMM.out _ e).1
        rcases hk with rfl | rfl <;> omega
    have HKN2 := hide HKN
    clear HKN
    by_cases hvt : v = t
    · subst hvt
      gi_wp2
      have e8 : Arr ((y.now.setCell ⟨b8, 0, none⟩ (.int .u64 (far : Int))).setCell ⟨b9, 0, none⟩ (.int .i64 0)) b8 37 [.int .u64 (far : Int)] := (q8.set 0 _).other (Ne.symm n89) _
      have e9 : Arr ((y.now.setCell ⟨b8, 0, none⟩ (.int .u64 (far : Int))).setCell ⟨b9, 0, none⟩ (.int .i64 0)) b9 42 [.int .i64 0] := (q9.other n89 _).set 0 _
      refine ⟨((Touch.refl _ _).set (.inl (HKN2.out _ (.inl rfl))) _).set (.inl (HKN2.out _ (.inr rfl))) _, rfl, far, HMEM.out, ⟨⟨_, (y.grows.set g8 _).set g9 _⟩, rfl⟩, ⟨e8, e9⟩, fun k hk => ?_, ?_⟩
      · rw [size_setCell, size_setCell]; exact HMM.out k hk
      · rw [size_setCell, size_setCell]; exact hlo
    · have hb1 : ((v : Int) == (t : Int)) = false := beq_eq_false_iff_ne.2 (by omega)
      have HVT := hide hvt
      clear hvt
      gi_wp2
      refine ⟨Keeps.refl _ _ _, ⟨y, rfl⟩, ⟨q6, q8, q9⟩, ?_, HMM.out, hlo⟩
      rw [List.map_append, List.mem_append]
      rintro (h | h)
      · exact HNT.out h
      · have h : t = v := by simpa using h
        exact HVT.out h.symm
  case done =>
    intro D Mi W1 hlD hMD hI hDW
    obtain ⟨⟨y, rfl⟩, ⟨q6, q8, q9⟩, hnt, hm, hlo⟩ := hI
    have HMM := hide hm
    have HNT := hide hnt
    have HDW := hide hDW
    clear hm hDW hIy hXy h0 hGV hnt
    gi_wp2
    go_wp2_with fail
    have e8 : Arr ((y.now.setCell ⟨b8, 0, none⟩ (.int .u64 0)).setCell ⟨b9, 0, none⟩ (.int .i64 9)) b8 37 [.int .u64 0] := (q8.set 0 _).other (Ne.symm n89) _
    have e9 : Arr ((y.now.setCell ⟨b8, 0, none⟩ (.int .u64 0)).setCell ⟨b9, 0, none⟩ (.int .i64 9)) b9 42 [.int .i64 9] := (q9.other n89 _).set 0 _
    have hDl : w.heap.size ≤ D ∧ b8 ≠ D ∧ b9 ≠ D := by omega
    have hyg : Grows w ((y.now.setCell ⟨b8, 0, none⟩ (.int .u64 0)).setCell ⟨b9, 0, none⟩ (.int .i64 9)) := (y.grows.set g8 _).set g9 _
    have hD3 : ((y.now.setCell ⟨b8, 0, none⟩ (.int .u64 0)).setCell ⟨b9, 0, none⟩ (.int .i64 9)).heap[D]? = some (.deferred (some [])) := by
      rw [heap_setCell _ _ _ _ (Ne.symm hDl.2.2), heap_setCell _ _ _ _ (Ne.symm hDl.2.1)]
      exact HDW.out
    refine marks_ret [D] rfl ((Marks.nil _).cons hD3 (by simp)) (fun W' htt => ?_)
    have k8 := (e8.touch htt (fun e => hDl.2.1 (List.mem_singleton.1 e))).cell 0
    have k9 := (e9.touch htt (fun e => hDl.2.2 (List.mem_singleton.1 e))).cell 0
    refine ⟨.tuple #[.int .u64 0, .int .i64 9], by simp (maxDischargeDepth := 6) [results, Try.results31, go_sem, k8, k9], .inr ⟨HNT.out, rfl⟩, htt.later hyg (fun k hk => by rw [List.mem_singleton.1 hk]; exact hDl.1)⟩
  case stop =>
    intro D c' p i rest Mi W1 hlD hMD _ hX hDW
    obtain ⟨rfl, f, hf, ⟨y, rfl⟩, ⟨q8, q9⟩, hm, hlo⟩ := hX
    have HF := hide hf
    have HDW := hide hDW
    clear hf hDW hIy hXy h0 hGV hm
    gi_wp2
    have hDl : w.heap.size ≤ D ∧ b8 ≠ D ∧ b9 ≠ D := by omega
    refine marks_ret [D] rfl ((Marks.nil _).cons HDW.out (by simp)) (fun W' htt => ?_)
    have k8 := (q8.touch htt (fun e => hDl.2.1 (List.mem_singleton.1 e))).cell 0
    have k9 := (q9.touch htt (fun e => hDl.2.2 (List.mem_singleton.1 e))).cell 0
    refine ⟨.tuple #[.int .u64 (f : Int), .int .i64 0], by simp (maxDischargeDepth := 6) [results, Try.results31, go_sem, k8, k9], .inl ⟨f, HF.out, rfl⟩, htt.later y.grows (fun k hk => by rw [List.mem_singleton.1 hk]; exact hDl.1)⟩
section
theorem nodup_fst {x : Srch} {s mw : Nat} {xs : List (Nat × Nat)} (h : Far x s mw xs) : (xs.map Prod.fst).Nodup := h.nodup
/-- A search that may be, and the answer's reckoning of it. -/
theorem walk_ref {N s : Nat} {E : List Edg} {o : DOpt} (hok : WalkOk N s E o) (hw : ∀ i, i < E.length → 1 ≤ gn (wtF N E o.W) i ∧ gn (wtF N E o.W) i ≤ 17592186044416) :
    ∃ xs, (if (s : Int) ∈ o.nn then xs = [] else Trace (srchOf N E o) (reachS o.most (st0 N) s 0) xs) ∧ (∀ p, p ∈ xs → p.1 < N) ∧ (xs.map Prod.fst).Nodup ∧ refL (srchOf N E o) s = outL N xs ∧ (∀ v f, (v, f) ∈ xs → f < farV) := by
  obtain ⟨r1, r2, r3, r4, r5⟩ := right_in hok.right
  rw [Int.toNat_natCast] at r4
  have hb : N * 17592186044416 < farV := by
    have : N * 17592186044416 ≤ 4096 * 17592186044416 := Nat.mul_le_mul_right _ (by omega)
    unfold farV; omega
  by_cases hnn : (s : Int) ∈ o.nn
  · refine ⟨[], by rw [if_pos hnn], fun p hp => (by cases hp), by simp, ?_, fun v f h => by cases h⟩
    unfold refL
    rw [if_pos (show (srchOf N E o).nn s = true from decide_eq_true hnn)]
    rfl
  · obtain ⟨xs, h1, h2, h3⟩ := walk_is hok hw (Nat.le_refl _) hnn
    have hs := hok.srch
    have hin : SrchIn (srchOf N E o) 17592186044416 := ⟨fun i hi => by
      have h1 := hs.ends.f i hi
      have h2 := hs.ends.t i hi
      unfold toE
      split
      · exact h1.1
      · exact h2.1, fun i hi => (hw i hi).1, fun i hi => (hw i hi).2⟩
    obtain ⟨ys, h4, h5⟩ := trace_whole (x := freeX (srchOf N E o)) (s := s) (mw := 17592186044416) ⟨hin.ends, hin.low, hin.high⟩ hs.nodes hok.node (by omega)
    refine ⟨xs, h1, h3, h2.nodup, refL_is h2 h5 hin hb hok.node (decide_eq_false hnn) (fun i hi => ?_), fun v f hf => by have h9 := (h2.way v f hf).2.2.2; have h10 : f ≤ N * 17592186044416 := h9; omega⟩
    have h1 := hs.ends.f i hi
    have h2 := hs.ends.t i hi
    unfold nN
    split
    · exact h2.1
    · exact h1.1
set_option maxRecDepth 20000 in
set_option maxHeartbeats 8000000 in
theorem djOneNo (N s t : Int) (A : Option Addr) (n c : Nat) (E : List Edg) (back : Bool) (nn ne : Value) (Aw : Option Addr) (nw cw most : Nat) (W : List Nat) (w : World) (h : Rd w A 3 n (esCells E)) (hW : Rd w Aw 1 nw (wv W)) (hn : n ≤ 1000000) (hnw : nw ≤ 1000000) (hd : dcF N s E W ≠ 0) :
    Calls Try.prog 31 #[.agg #[.int .i64 N, .slice A n c], .int .i64 s, .int .i64 t, oVal back nn ne Aw nw cw most] w fun e w' => e = .returned (.tuple #[.int .u64 0, .int .i64 (dcF N s E W)]) ∧ Grows w w' := by
  unfold oVal
  have C1 := hide (fun (W1 : World) (g : Grows w W1) => djCheck N s A n c E back nn ne Aw nw cw most W W1 (h.grows g) (hW.grows g) hn hnw)
  unfold oVal at C1
  have hr2 : (dcF N s E W == 0) = false := beq_eq_false_iff_ne.2 hd
  clear h hW
  generalize dcF N s E W = r at *
  go_enter Try.func31, Try.ntmps31
  go_wp2_with (go_at_call 82; refine (C1.out _ (by repeat (first | exact Grows.refl _ | refine Grows.now ?_ _ | refine Grows.new ?_ _ | refine Grows.drewN ?_ _ | refine Grows.drew ?_ | assumption | (refine Grows.set ?_ (by first | omega | (simp; done) | (simp; omega)) _)))).mono ?_; rintro e w' ⟨rfl, hg⟩; obtain ⟨x1, rfl⟩ := hg.later; clear hg)
  refine bodyPost_ret (v := .tuple #[.int .u64 0, .int .i64 r]) (by simp (maxDischargeDepth := 6) [results, Try.results31, go_sem, *]) rfl ?_
  exact ⟨rfl, (by repeat (first | exact Grows.refl _ | refine Grows.now ?_ _ | refine Grows.new ?_ _ | refine Grows.drewN ?_ _ | refine Grows.drew ?_ | assumption | (refine Grows.set ?_ (by first | omega | (simp; done) | (simp; omega)) _)))⟩
set_option maxRecDepth 20000 in
set_option maxHeartbeats 8000000 in
theorem djOneOut (N s t : Int) (A : Option Addr) (n c : Nat) (E : List Edg) (back : Bool) (nn ne : Value) (Aw : Option Addr) (nw cw most : Nat) (W : List Nat) (w : World) (h : Rd w A 3 n (esCells E)) (hW : Rd w Aw 1 nw (wv W)) (hn : n ≤ 1000000) (hnw : nw ≤ 1000000) (hd : dcF N s E W = 0) (ht : ¬ (0 ≤ t ∧ t < N)) :
    Calls Try.prog 31 #[.agg #[.int .i64 N, .slice A n c], .int .i64 s, .int .i64 t, oVal back nn ne Aw nw cw most] w fun e w' => e = .returned (.tuple #[.int .u64 0, .int .i64 7]) ∧ Grows w w' := by
  unfold oVal
  have C1 := hide (fun (W1 : World) (g : Grows w W1) => djCheck N s A n c E back nn ne Aw nw cw most W W1 (h.grows g) (hW.grows g) hn hnw)
  unfold oVal at C1
  rw [hd] at C1
  have C2 := hide (fun (W : World) => gNode N t (.slice A n c) W)
  have hb : nodeB N t = false := decide_eq_false ht
  rw [hb] at C2
  clear h hW hd hb ht
  go_enter Try.func31, Try.ntmps31
  go_wp2_with fail
  refine (C1.out _ (by repeat (first | exact Grows.refl _ | refine Grows.now ?_ _ | refine Grows.new ?_ _ | refine Grows.drewN ?_ _ | refine Grows.drew ?_ | assumption | (refine Grows.set ?_ (by first | omega | (simp; done) | (simp; omega)) _)))).mono ?_; rintro e w' ⟨rfl, hg⟩; obtain ⟨x1, rfl⟩ := hg.later; clear hg
  go_wp2_with fail
  refine (C2.out _).mono ?_; rintro e w' ⟨rfl, hg⟩; obtain ⟨x2, rfl⟩ := Grows.later2 hg; clear hg
  go_wp2_with fail
  refine bodyPost_ret (v := .tuple #[.int .u64 0, .int .i64 7]) (by simp (maxDischargeDepth := 6) [results, Try.results31, go_sem, *]) rfl ?_
  exact ⟨rfl, (by repeat (first | exact Grows.refl _ | refine Grows.now ?_ _ | refine Grows.new ?_ _ | refine Grows.drewN ?_ _ | refine Grows.drew ?_ | assumption | (refine Grows.set ?_ (by first | omega | (simp; done) | (simp; omega)) _)))⟩
theorem gLex_propG {P : Program} {w0 : World} {ops : Array Oper} {Q : Act → Env → Prop} {a : Act} {G : Env} {o : Oper} {rest : List Oper} {t : Tmp} (hw : Region.wanted o (yielded ops a.tmps) = true) (hp : plainB ops o G = true) (hd : o.dst = some t) (hlt : t < a.tmps.size)
    (p : Pr) (hl : Lasts p) (hr : ∀ x : Later w0, runsTo P (fun u w' => Grows x.now w' ∧ p u w') ((execOp a.eval o).run P x.now))
    (h : gLex P ops w0 Q rest a (G.upd t p)) : gLex P ops w0 Q (o :: rest) a G := by
  obtain ⟨h1, h2, h3, h4⟩ := plain_spec hp
  refine ⟨.inr p, ⟨h1, h2, .inl ⟨hw, hl, ⟨t, hd, hlt⟩, fun w hw a' ha' => ?_⟩⟩, ?_⟩
  · rw [exec_same h4 h3 ha']
    exact hr ⟨w, hw⟩
  · rw [hd]
    exact h
end
end Go.Proofs.Ythjcbboignmknaa

/- Contract: how far one node is, by the shortest way's own answer. -/
namespace Go.Proofs.Ythjcbboignmknaa
open Go Go.RowKit
theorem djOneU {NN sN tN u : Nat} {E : List Edg} {W : List Nat} {ys : List (Nat × Nat)} (hx : PathOk NN sN tN E (freeO W) ys) (hu : u < NN) (A : Option Addr) (c : Nat) (Aw : Option Addr) (cw : Nat) (w : World) (h : Rd w A 3 E.length (esCells E)) (h4 : Rd w Aw 1 W.length (wv W)) (h0 : Rd w none 1 0 []) :
    Calls Try.prog 31 #[.agg #[.int .i64 (NN : Int), .slice A E.length c], .int .i64 (u : Int), .int .i64 (tN : Int), .agg #[.bool false, .slice none 0 0, .slice none 0 0, .slice Aw W.length cw, .int .u64 0]] w fun e w' =>
      e = .returned (if gn (outL NN ys) u < farV then .tuple #[.int .u64 (gn (outL NN ys) u : Int), .int .i64 0] else .tuple #[.int .u64 0, .int .i64 9]) ∧ Grows w w' := by
  obtain ⟨xs, hok, hd, htr, hnd, hin, hout⟩ := one_turned hx hu
  refine (djOne NN u tN A c E (freeO W) none none Aw 0 0 cw xs w h h0 h0 h4 hok hd htr hx.ok.node).mono ?_
  rintro e w' ⟨h1 | h1, hg⟩
  · obtain ⟨f, hf, rfl⟩ := h1
    obtain ⟨e1, e2⟩ := hin f hf
    rw [← e1, if_pos e2]
    exact ⟨rfl, hg⟩
  · obtain ⟨hn, rfl⟩ := h1
    rw [hout hn, if_neg (Nat.lt_irrefl _)]
    exact ⟨rfl, hg⟩
/-- Where there is no way, One says the same. -/
theorem djOneUNo {E : List Edg} {W : List Nat} {N s t : Int} {l : List Nat} {f : Nat} {r : Int} (hp : IsPath E (freeO W) N s t l f r) (hr : r ≠ 0) (A : Option Addr) (c : Nat) (Aw : Option Addr) (cw : Nat) (w : World) (h : Rd w A 3 E.length (esCells E)) (h4 : Rd w Aw 1 W.length (wv W)) (h0 : Rd w none 1 0 []) (hn : E.length ≤ 1000000) (hn3 : W.length ≤ 1000000) :
    Calls Try.prog 31 #[.agg #[.int .i64 N, .slice A E.length c], .int .i64 s, .int .i64 t, .agg #[.bool false, .slice none 0 0, .slice none 0 0, .slice Aw W.length cw, .int .u64 0]] w fun e w' =>
      e = .returned (.tuple #[.int .u64 0, .int .i64 r]) ∧ Grows w w' := by
  cases hp with
  | bad hd => exact djOneNo N s t A E.length c E false (.slice none 0 0) (.slice none 0 0) Aw W.length cw 0 W w h h4 hn hn3 hd
  | noNode hd ht => exact djOneOut N s t A E.length c E false (.slice none 0 0) (.slice none 0 0) Aw W.length cw 0 W w h h4 hn hn3 hd ht
  | noPath NN sN tN xs hN hs ht hok hf =>
    subst hN hs ht
    have := djOneU hok hok.node A c Aw cw w h h4 h0
    rw [hf, if_neg (Nat.lt_irrefl _)] at this
    exact this
  | way => exact absurd rfl hr
theorem IsPath.zeroU {E : List Edg} {o : DOpt} {N s t : Int} {l : List Nat} {f : Nat} {r : Int} (hp : IsPath E o N s t l f r) (hr : r ≠ 0) : l = [] ∧ f = 0 := by
  cases hp with
  | bad => exact ⟨rfl, rfl⟩
  | noNode => exact ⟨rfl, rfl⟩
  | noPath => exact ⟨rfl, rfl⟩
  | way => exact absurd rfl hr
theorem IsPath.waysU {E : List Edg} {o : DOpt} {N s t : Int} {l : List Nat} {f : Nat} {r : Int} (hp : IsPath E o N s t l f r) (hr : r = 0) : ∃ (NN sN tN : Nat) (ys : List (Nat × Nat)), N = NN ∧ s = sN ∧ t = tN ∧ PathOk NN sN tN E o ys ∧ f = gn (outL NN ys) sN ∧ gn (outL NN ys) sN < farV ∧ Near (srchOf NN E (backO o)) (outL NN ys) tN ∧ Fol (srchOf NN E (backO o)) (outL NN ys) tN sN l := by
  cases hp with
  | bad hd => exact absurd hr hd
  | noNode => cases hr
  | noPath => cases hr
  | way NN sN tN xs l hN hs ht hok hf hn hl => exact ⟨NN, sN, tN, xs, hN, hs, ht, hok, rfl, hf, hn, hl⟩
/-- One tells what the shortest way weighs, and its fault. -/
theorem djOneD {E : List Edg} {W : List Nat} {N s t : Int} {l : List Nat} {f : Nat} {r : Int} (hp : IsPath E (freeO W) N s t l f r) (A : Option Addr) (c : Nat) (Aw : Option Addr) (cw : Nat) (w : World) (h : Rd w A 3 E.length (esCells E)) (h4 : Rd w Aw 1 W.length (wv W)) (h0 : Rd w none 1 0 []) (hn : E.length ≤ 1000000) (hn3 : W.length ≤ 1000000) :
    Calls Try.prog 31 #[.agg #[.int .i64 N, .slice A E.length c], .int .i64 s, .int .i64 t, .agg #[.bool false, .slice none 0 0, .slice none 0 0, .slice Aw W.length cw, .int .u64 0]] w fun e w' =>
      e = .returned (.tuple #[.int .u64 (f : Int), .int .i64 r]) ∧ Grows w w' := by
  by_cases hr : r = 0
  · obtain ⟨NN, sN, tN, ys, hN, hs, ht, hok, hff, hfar, hnear, hfol⟩ := hp.waysU hr
    subst hN hs ht hr
    have := djOneU hok hok.node A c Aw cw w h h4 h0
    rw [if_pos hfar, ← hff] at this
    exact this
  · obtain ⟨_, hf⟩ := hp.zeroU hr
    subst hf
    exact djOneUNo hp hr A c Aw cw w h h4 h0 hn hn3
end Go.Proofs.Ythjcbboignmknaa
