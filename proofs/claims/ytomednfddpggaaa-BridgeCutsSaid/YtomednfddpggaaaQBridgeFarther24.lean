/- The law BridgeFarther: for every input it returns true, and each argument reads as before. No condition. -/
import Derived.Test.YtomednfddpggaaaQBridgeFarther23
import Derived.Test.YtomednfddpggaaaQBridgeFarther22
import Derived.Test.YtomednfddpggaaaQBridgeFarther17
/- How far one node is; and the law DijkAll, walked: how far all nodes are, with whatever counts, or why that is not told. -/
namespace Go.Proofs.Ytomednfddpggaaa
open Go Go.RowKit
attribute [local go_sem] Oper.semAt_some
/-- Between two nodes: the one that is sought has not come. -/
def OneI (w : World) (lo b6 b8 b9 t : Nat) (z8 z9 : Value) (p : List (Nat × Nat)) (Mi : Nat → Prop) (W : World) : Prop :=
  (∃ y : Later w, W = y.now) ∧ (Arr W b6 3 [.int .i64 (t : Int)] ∧ Arr W b8 38 [z8] ∧ Arr W b9 27 [z9]) ∧ (t ∉ p.map Prod.fst) ∧ (∀ k, Mi k → lo ≤ k ∧ k < W.heap.size) ∧ lo ≤ W.heap.size
theorem OneI.yields {w : World} {lo b6 b8 b9 t : Nat} {z8 z9 : Value} (h1 : b6 < lo) (h2 : b8 < lo) (h3 : b9 < lo) (hlo : w.heap.size ≤ lo) : Yields' (OneI w lo b6 b8 b9 t z8 z9) := by
  rintro p Mi W Mi' W' ⟨⟨y, rfl⟩, ⟨a1, a2, a3⟩, a4, a5, a6⟩ ht hM'
  have nb : ∀ k, k < lo → ¬ Mi k := fun k hk e => by have := (a5 _ e).1; omega
  refine ⟨⟨⟨W', ht.later y.grows (fun k hk => Nat.le_trans hlo (a5 k hk).1)⟩, rfl⟩, ⟨a1.touch ht (nb _ h1), a2.touch ht (nb _ h2), a3.touch ht (nb _ h3)⟩, a4, fun k hk => ?_, Nat.le_trans a6 ht.size⟩
  obtain ⟨h | h, h'⟩ := hM' k hk
  · exact ⟨(a5 k h).1, h'⟩
  · exact ⟨by omega, h'⟩
/-- It has come. -/
def OneX (w : World) (lo b6 b8 b9 t : Nat) (xs : List (Nat × Nat)) (c : Code) (p : List (Nat × Nat)) (Mi : Nat → Prop) (W : World) : Prop :=
  c = .ret ∧ ∃ f, (t, f) ∈ xs ∧ (∃ y : Later w, W = y.now) ∧ (Arr W b8 38 [.int .u64 (f : Int)] ∧ Arr W b9 27 [.int .i64 0]) ∧ (∀ k, Mi k → lo ≤ k ∧ k < W.heap.size) ∧ lo ≤ W.heap.size
theorem OneX.yields {w : World} {lo b6 b8 b9 t : Nat} {xs : List (Nat × Nat)} (h2 : b8 < lo) (h3 : b9 < lo) (hlo : w.heap.size ≤ lo) (c : Code) : Yields' (OneX w lo b6 b8 b9 t xs c) := by
  rintro p Mi W Mi' W' ⟨e, f, a0, ⟨y, rfl⟩, ⟨a2, a3⟩, a5, a6⟩ ht hM'
  have nb : ∀ k, k < lo → ¬ Mi k := fun k hk e => by have := (a5 _ e).1; omega
  refine ⟨e, f, a0, ⟨⟨W', ht.later y.grows (fun k hk => Nat.le_trans hlo (a5 k hk).1)⟩, rfl⟩, ⟨a2.touch ht (nb _ h2), a3.touch ht (nb _ h3)⟩, fun k hk => ?_, Nat.le_trans a6 ht.size⟩
  obtain ⟨h | h, h'⟩ := hM' k hk
  · exact ⟨(a5 k h).1, h'⟩
  · exact ⟨by omega, h'⟩
def FrameOne (b6 b8 b9 v far : Nat) (a' : Act) : Prop := ∃ u0 u1 u2 u3 u4 u5 u7 u10 u13 u14 u15 u16 u17 u18 u19 u20 u21 u22 u23 u24 u25 u26 u27 u28 u29 u30 u31 u32 u33 : Value, a' = { tmps := #[u0, u1, u2, u3, u4, u5, .pointer (some ⟨b6, 0, none⟩), u7, .pointer (some ⟨b8, 0, none⟩), .pointer (some ⟨b9, 0, none⟩), u10, .int .i64 (v : Int), .int .u64 (far : Int), u13, u14, u15, u16, u17, u18, u19, u20, u21, u22, u23, u24, u25, u26, u27, u28, u29, u30, u31, u32, u33], defers := [] }
def OneB (w : World) (lo b6 b8 b9 t : Nat) (z8 z9 : Value) (x : Nat × Nat) (a' : Act) (p : List (Nat × Nat)) (Mi : Nat → Prop) (W : World) : Prop := FrameOne b6 b8 b9 x.1 x.2 a' ∧ OneI w lo b6 b8 b9 t z8 z9 p Mi W
/-- What comes of it: the number, or that there is no way. -/
def OneP (w : World) (xs : List (Nat × Nat)) (t : Nat) (e : Ending) (w' : World) : Prop :=
  ((∃ f, (t, f) ∈ xs ∧ e = .returned (.tuple #[.int .u64 (f : Int), .int .i64 0])) ∨ (t ∉ xs.map Prod.fst ∧ e = .returned (.tuple #[.int .u64 0, .int .i64 9]))) ∧ Grows w w'
set_option maxRecDepth 40000 in
set_option maxHeartbeats 8000000 in
theorem djOne (N s t : Nat) (A : Option Addr) (c : Nat) (E : List Edg) (o : DOpt) (An Ae Aw : Option Addr) (cn ce cw : Nat) (xs : List (Nat × Nat)) (w : World) (h : Rd w A 3 E.length (esCells E)) (h2 : Rd w An 1 o.nn.length (o.nn.map (.int .i64))) (h3 : Rd w Ae 1 o.ne.length (o.ne.map (.int .i64))) (h4 : Rd w Aw 1 o.W.length (wv o.W))
    (hok : WalkOk N s E o) (hd : dcF N s E o.W = 0) (hxs : if (s : Int) ∈ o.nn then xs = [] else Trace (srchOf N E o) (reachS o.most (st0 N) s 0) xs) (ht : t < N) :
    Calls Try.prog 35 #[.agg #[.int .i64 (N : Int), .slice A E.length c], .int .i64 (s : Int), .int .i64 (t : Int), oVal o.back (.slice An o.nn.length cn) (.slice Ae o.ne.length ce) Aw o.W.length cw o.most] w (OneP w xs t) := by
  unfold oVal
  obtain ⟨r1, r2, r3, r4, r5⟩ := right_in hok.right
  have C1 := hide (fun (W : World) (g : Grows w W) => djCheck (N : Int) s A E.length c E o.back (.slice An o.nn.length cn) (.slice Ae o.ne.length ce) Aw o.W.length cw o.most o.W W (h.grows g) (h4.grows g) (by omega) (by have := hok.wts; omega))
  rw [hd] at C1
  unfold oVal at C1
  have C2 := hide (fun (W : World) => gNode (N : Int) (t : Int) (.slice A E.length c) W)
  have hb : nodeB (N : Int) (t : Int) = true := decide_eq_true ⟨by omega, by omega⟩
  rw [hb] at C2
  have C3 := hide (fun (W : World) => djWalk (.agg #[.int .i64 (N : Int), .slice A E.length c]) (.int .i64 (s : Int)) (.agg #[.bool o.back, .slice An o.nn.length cn, .slice Ae o.ne.length ce, .slice Aw o.W.length cw, .int .u64 (o.most : Int)]) (N : Int) (.slice A E.length c) rfl (s : Int) rfl _ _ _ _ _ rfl W)
  have HM := hide (And.intro h (And.intro h2 (And.intro h3 h4)))
  have HOK := hide hok
  have HXS := hide hxs
  clear h h2 h3 h4 hok hxs hd r1 r2 r3 r4 r5 hb
  refine calls_of_marks Try.func35 rfl ?_
  simp only [Try.ntmps35, List.size_toArray, List.length_cons, List.length_nil, Nat.reduceAdd, Nat.reduceSub, Array.replicate_succ, Array.replicate_zero, List.push_toArray, List.append_toArray, List.nil_append, List.cons_append]
  go_wp2_with fail
  refine (C1.out _ (by repeat (first | exact Grows.refl _ | refine Grows.now ?_ _ | refine Grows.new ?_ _ | refine Grows.drewN ?_ _ | refine Grows.drew ?_ | assumption | (refine Grows.set ?_ (by first | omega | (simp; done) | (simp; omega)) _)))).mono ?_; rintro e w' ⟨rfl, hg⟩; obtain ⟨x1, rfl⟩ := hg.later; clear hg
  go_wp2_with fail
  refine (C2.out _).mono ?_; rintro e w' ⟨rfl, hg⟩; obtain ⟨x2, rfl⟩ := Grows.later2 hg; clear hg
  go_wp2_with fail
  refine (C3.out _).mono ?_; rintro e W0 ⟨b, rfl, hb, z1, z2, z3, hg⟩
  have hx2 := x2.size
  have hs5 : w.heap.size + 1 + 1 + 1 + 1 < b := by rw [← hb]; simp at hx2; omega
  have q6 : Arr W0 (w.heap.size + 1) 3 [.int .i64 (t : Int)] := Arr.grow ⟨by simp [heap_push, Array.getElem_push, Array.getElem?_push, eq_add2]⟩ (x2.grows.trans hg)
  have q8 : Arr W0 (w.heap.size + 1 + 1 + 1) 38 [.int .u64 0] := Arr.grow ⟨by simp [heap_push, Array.getElem_push, Array.getElem?_push, eq_add2]⟩ (x2.grows.trans hg)
  have q9 : Arr W0 (w.heap.size + 1 + 1 + 1 + 1) 27 [.int .i64 0] := Arr.grow ⟨by simp [heap_push, Array.getElem_push, Array.getElem?_push, eq_add2]⟩ (x2.grows.trans hg)
  have hgw : Grows w W0 := Grows.trans (by show Grows w x2.now; exact (by repeat (first | exact Grows.refl _ | refine Grows.now ?_ _ | refine Grows.new ?_ _ | refine Grows.drewN ?_ _ | refine Grows.drew ?_ | assumption | (refine Grows.set ?_ (by first | omega | (simp; done) | (simp; omega)) _)))) hg
  have hW0 := z3.lt
  have hsz0 := hgw.size
  have g6 : w.heap.size ≤ w.heap.size + 1 := by omega
  have g8 : w.heap.size ≤ w.heap.size + 1 + 1 + 1 := by omega
  have g9 : w.heap.size ≤ w.heap.size + 1 + 1 + 1 + 1 := by omega
  have n89 : w.heap.size + 1 + 1 + 1 ≠ w.heap.size + 1 + 1 + 1 + 1 := by omega
  have l6 : w.heap.size + 1 < b := by omega
  have l8 : w.heap.size + 1 + 1 + 1 < b := by omega
  have l9 : w.heap.size + 1 + 1 + 1 + 1 < b := hs5
  clear hb hg C1 C2 C3 hx2 hs5
  generalize w.heap.size + 1 + 1 + 1 + 1 = b9 at *
  generalize w.heap.size + 1 + 1 + 1 = b8 at *
  generalize w.heap.size + 1 + 1 = b7 at *
  generalize w.heap.size + 1 = b6 at *
  have hwalk : WalkAt (fun k => k < w.heap.size ∨ (b ≤ k ∧ k ≤ b + 1 + 1)) W0 b (b + 1 + 1) (b + 1) N s E o := by
    obtain ⟨h1, h2, h3, h4⟩ := HM.out
    exact ⟨A, c, An, cn, Ae, ce, Aw, cw, z1, z3, z2, h1.grows hgw, h2.grows hgw, h3.grows hgw, h4.grows hgw, .inr ⟨by omega, by omega⟩, .inr ⟨by omega, by omega⟩, .inr ⟨by omega, by omega⟩, fun h p hp => .inl (h1.block_lt (by omega) h p hp), fun h p hp => .inl (h2.block_lt (by omega) h p hp), fun h p hp => .inl (h3.block_lt (by omega) h p hp), fun h p hp => .inl (h4.block_lt (by omega) h p hp)⟩
  have hBW : ∀ k, (k < w.heap.size ∨ (b ≤ k ∧ k ≤ b + 1 + 1)) → k < W0.heap.size := fun k hk => by rcases hk with hk | hk <;> omega
  have hGV := djWalk1 (fun k => k < w.heap.size ∨ (b ≤ k ∧ k ≤ b + 1 + 1)) (fun k => k < w.heap.size ∨ (b ≤ k ∧ k ≤ b + 1 + 1)) (fun _ => False) b (b + 1 + 1) (b + 1) N s E o xs W0 hwalk (fun k hk => .inl hk) (fun k hk => hk.elim) hBW HOK.out HXS.out
  have h0 : OneI w W0.heap.size b6 b8 b9 t (.int .u64 0) (.int .i64 0) [] (fun _ => False) W0 := ⟨⟨⟨W0, hgw⟩, rfl⟩, ⟨q6, q8, q9⟩, by simp, fun k hk => hk.elim, Nat.le_refl _⟩
  have hIy := OneI.yields (w := w) (lo := W0.heap.size) (b6 := b6) (b8 := b8) (b9 := b9) (t := t) (z8 := .int .u64 0) (z9 := .int .i64 0) (by omega) (by omega) (by omega) hsz0
  have hXy := OneX.yields (w := w) (lo := W0.heap.size) (b6 := b6) (b8 := b8) (b9 := b9) (t := t) (xs := xs) (by omega) (by omega) hsz0
  have HGV := hide hGV
  have H0 := hide h0
  clear hGV h0 hwalk q6 q8 q9 z1 z2 z3 HM HXS HOK
  go_wp2_with fail
  refine (wpIn_wide (n := 0)).1 ?_
  have hGV := HGV.out
  have h0 := H0.out
  clear HGV H0
  refine wp_rangeG (w0 := W0) (gf := 106) rfl (enters_of Try.func106 (by kernel_rfl) rfl) hGV (Keeps.refl _ _ _) hBW (fun k hk => hk.elim) (fun _ => rfl)
    (OneI w W0.heap.size b6 b8 b9 t (.int .u64 0) (.int .i64 0)) (OneX w W0.heap.size b6 b8 b9 t xs) hIy hXy h0 (OneB w W0.heap.size b6 b8 b9 t (.int .u64 0) (.int .i64 0)) ?hIb ?assign ?body ?done ?stop
  case hIb =>
    rintro x a' p Mi W1 Mi' W' ⟨hf, hI⟩ ht hM'
    exact ⟨hf, hIy p Mi W1 Mi' W' hI ht hM'⟩
  case assign =>
    intro l2 p x rest Mi W1 hsp hI
    have HI := hide hI
    clear hI
    unfold encD
    gi_wp2
    refine ⟨⟨?_, HI.out⟩, Keeps.refl _ _ _⟩
    unfold FrameOne
    (repeat apply Exists.intro)
    rfl
  case body =>
    rintro l2 p ⟨v, far⟩ rest Mi a' W1 hsp hl2 hMl hrec ⟨⟨u0, u1, u2, u3, u4, u5, u7, u10, u13, u14, u15, u16, u17, u18, u19, u20, u21, u22, u23, u24, u25, u26, u27, u28, u29, u30, u31, u32, u33, rfl⟩, ⟨⟨y, rfl⟩, ⟨q6, q8, q9⟩, hnt, hm, hlo⟩⟩
    have HMEM := hide (show (v, far) ∈ xs from by rw [hsp]; simp)
    have HMM := hide hm
    have HNT := hide hnt
    clear hsp hl2 hMl hrec hm h0 hIy hXy hGV hnt
    simp only
    have HKN : ∀ k, (k = b8 ∨ k = b9) → ¬ ((k < w.heap.size ∨ (b ≤ k ∧ k ≤ b + 1 + 1)) ∨ Mi k) := fun k hk e => by
      rcases e with (e | e) | e
      · rcases hk with rfl | rfl <;> omega
      · rcases hk with rfl | rfl <;> omega
      · have := (HMM.out _ e).1
        rcases hk with rfl | rfl <;> omega
    have HKN2 := hide HKN
    clear HKN
    by_cases hvt : v = t
    · subst hvt
      gi_wp2
      have e8 : Arr ((y.now.setCell ⟨b8, 0, none⟩ (.int .u64 (far : Int))).setCell ⟨b9, 0, none⟩ (.int .i64 0)) b8 38 [.int .u64 (far : Int)] := (q8.set 0 _).other (Ne.symm n89) _
      have e9 : Arr ((y.now.setCell ⟨b8, 0, none⟩ (.int .u64 (far : Int))).setCell ⟨b9, 0, none⟩ (.int .i64 0)) b9 27 [.int .i64 0] := (q9.other n89 _).set 0 _
      refine ⟨((Touch.refl _ _).set (.inl (HKN2.out _ (.inl rfl))) _).set (.inl (HKN2.out _ (.inr rfl))) _, rfl, far, HMEM.out, ⟨⟨_, (y.grows.set g8 _).set g9 _⟩, rfl⟩, ⟨e8, e9⟩, fun k hk => ?_, ?_⟩
      · rw [size_setCell, size_setCell]; exact HMM.out k hk
      · rw [size_setCell, size_setCell]; exact hlo
    · have hb1 : ((v : Int) == (t : Int)) = false := beq_eq_false_iff_ne.2 (by omega)
      have HVT := hide hvt
      clear hvt
      gi_wp2
      refine ⟨Keeps.refl _ _ _, ⟨y, rfl⟩, ⟨q6, q8, q9⟩, ?_, HMM.out, hlo⟩
      rw [List.map_append, List.mem_append]
      rintro (h | h)
      · exact HNT.out h
      · have h : t = v := by simpa using h
        exact HVT.out h.symm
  case done =>
    intro D Mi W1 hlD hMD hI hDW
    obtain ⟨⟨y, rfl⟩, ⟨q6, q8, q9⟩, hnt, hm, hlo⟩ := hI
    have HMM := hide hm
    have HNT := hide hnt
    have HDW := hide hDW
    clear hm hDW hIy hXy h0 hGV hnt
    gi_wp2
    go_wp2_with fail
    have e8 : Arr ((y.now.setCell ⟨b8, 0, none⟩ (.int .u64 0)).setCell ⟨b9, 0, none⟩ (.int .i64 9)) b8 38 [.int .u64 0] := (q8.set 0 _).other (Ne.symm n89) _
    have e9 : Arr ((y.now.setCell ⟨b8, 0, none⟩ (.int .u64 0)).setCell ⟨b9, 0, none⟩ (.int .i64 9)) b9 27 [.int .i64 9] := (q9.other n89 _).set 0 _
    have hDl : w.heap.size ≤ D ∧ b8 ≠ D ∧ b9 ≠ D := by omega
    have hyg : Grows w ((y.now.setCell ⟨b8, 0, none⟩ (.int .u64 0)).setCell ⟨b9, 0, none⟩ (.int .i64 9)) := (y.grows.set g8 _).set g9 _
    have hD3 : ((y.now.setCell ⟨b8, 0, none⟩ (.int .u64 0)).setCell ⟨b9, 0, none⟩ (.int .i64 9)).heap[D]? = some (.deferred (some [])) := by
      rw [heap_setCell _ _ _ _ (Ne.symm hDl.2.2), heap_setCell _ _ _ _ (Ne.symm hDl.2.1)]
      exact HDW.out
    refine marks_ret [D] rfl ((Marks.nil _).cons hD3 (by simp)) (fun W' htt => ?_)
    have k8 := (e8.touch htt (fun e => hDl.2.1 (List.mem_singleton.1 e))).cell 0
    have k9 := (e9.touch htt (fun e => hDl.2.2 (List.mem_singleton.1 e))).cell 0
    refine ⟨.tuple #[.int .u64 0, .int .i64 9], by simp (maxDischargeDepth := 6) [results, Try.results35, go_sem, k8, k9], .inr ⟨HNT.out, rfl⟩, htt.later hyg (fun k hk => by rw [List.mem_singleton.1 hk]; exact hDl.1)⟩
  case stop =>
    intro D c' p i rest Mi W1 hlD hMD _ hX hDW
    obtain ⟨rfl, f, hf, ⟨y, rfl⟩, ⟨q8, q9⟩, hm, hlo⟩ := hX
    have HF := hide hf
    have HDW := hide hDW
    clear hf hDW hIy hXy h0 hGV hm
    gi_wp2
    have hDl : w.heap.size ≤ D ∧ b8 ≠ D ∧ b9 ≠ D := by omega
    refine marks_ret [D] rfl ((Marks.nil _).cons HDW.out (by simp)) (fun W' htt => ?_)
    have k8 := (q8.touch htt (fun e => hDl.2.1 (List.mem_singleton.1 e))).cell 0
    have k9 := (q9.touch htt (fun e => hDl.2.2 (List.mem_singleton.1 e))).cell 0
    refine ⟨.tuple #[.int .u64 (f : Int), .int .i64 0], by simp (maxDischargeDepth := 6) [results, Try.results35, go_sem, k8, k9], .inl ⟨f, HF.out, rfl⟩, htt.later y.grows (fun k hk => by rw [List.mem_singleton.1 hk]; exact hDl.1)⟩
section
theorem nodup_fst {x : Srch} {s mw : Nat} {xs : List (Nat × Nat)} (h : Far x s mw xs) : (xs.map Prod.fst).Nodup := h.nodup
/-- A search that may be, and the answer's reckoning of it. -/
theorem walk_ref {N s : Nat} {E : List Edg} {o : DOpt} (hok : WalkOk N s E o) (hw : ∀ i, i < E.length → 1 ≤ gn (wtF N E o.W) i ∧ gn (wtF N E o.W) i ≤ 17592186044416) :
    ∃ xs, (if (s : Int) ∈ o.nn then xs = [] else Trace (srchOf N E o) (reachS o.most (st0 N) s 0) xs) ∧ (∀ p, p ∈ xs → p.1 < N) ∧ (xs.map Prod.fst).Nodup ∧ refL (srchOf N E o) s = outL N xs ∧ (∀ v f, (v, f) ∈ xs → f < farV) := by
  obtain ⟨r1, r2, r3, r4, r5⟩ := right_in hok.right
  rw [Int.toNat_natCast] at r4
  have hb : N * 17592186044416 < farV := by
    have : N * 17592186044416 ≤ 4096 * 17592186044416 := Nat.mul_le_mul_right _ (by omega)
    unfold farV; omega
  by_cases hnn : (s : Int) ∈ o.nn
  · refine ⟨[], by rw [if_pos hnn], fun p hp => (by cases hp), by simp, ?_, fun v f h => by cases h⟩
    unfold refL
    rw [if_pos (show (srchOf N E o).nn s = true from decide_eq_true hnn)]
    rfl
  · obtain ⟨xs, h1, h2, h3⟩ := walk_is hok hw (Nat.le_refl _) hnn
    have hs := hok.srch
    have hin : SrchIn (srchOf N E o) 17592186044416 := ⟨fun i hi => by
      have h1 := hs.ends.f i hi
      have h2 := hs.ends.t i hi
      unfold toE
      split
      · exact h1.1
      · exact h2.1, fun i hi => (hw i hi).1, fun i hi => (hw i hi).2⟩
    obtain ⟨ys, h4, h5⟩ := trace_whole (x := freeX (srchOf N E o)) (s := s) (mw := 17592186044416) ⟨hin.ends, hin.low, hin.high⟩ hs.nodes hok.node (by omega)
    refine ⟨xs, h1, h3, h2.nodup, refL_is h2 h5 hin hb hok.node (decide_eq_false hnn) (fun i hi => ?_), fun v f hf => by have h9 := (h2.way v f hf).2.2.2; have h10 : f ≤ N * 17592186044416 := h9; omega⟩
    have h1 := hs.ends.f i hi
    have h2 := hs.ends.t i hi
    unfold nN
    split
    · exact h2.1
    · exact h1.1
set_option maxRecDepth 20000 in
set_option maxHeartbeats 8000000 in
theorem djOneNo (N s t : Int) (A : Option Addr) (n c : Nat) (E : List Edg) (back : Bool) (nn ne : Value) (Aw : Option Addr) (nw cw most : Nat) (W : List Nat) (w : World) (h : Rd w A 3 n (esCells E)) (hW : Rd w Aw 1 nw (wv W)) (hn : n ≤ 1000000) (hnw : nw ≤ 1000000) (hd : dcF N s E W ≠ 0) :
    Calls Try.prog 35 #[.agg #[.int .i64 N, .slice A n c], .int .i64 s, .int .i64 t, oVal back nn ne Aw nw cw most] w fun e w' => e = .returned (.tuple #[.int .u64 0, .int .i64 (dcF N s E W)]) ∧ Grows w w' := by
  unfold oVal
  have C1 := hide (fun (W1 : World) (g : Grows w W1) => djCheck N s A n c E back nn ne Aw nw cw most W W1 (h.grows g) (hW.grows g) hn hnw)
  unfold oVal at C1
  have hr2 : (dcF N s E W == 0) = false := beq_eq_false_iff_ne.2 hd
  clear h hW
  generalize dcF N s E W = r at *
  go_enter Try.func35, Try.ntmps35
  go_wp2_with (go_at_call 40; refine (C1.out _ (by repeat (first | exact Grows.refl _ | refine Grows.now ?_ _ | refine Grows.new ?_ _ | refine Grows.drewN ?_ _ | refine Grows.drew ?_ | assumption | (refine Grows.set ?_ (by first | omega | (simp; done) | (simp; omega)) _)))).mono ?_; rintro e w' ⟨rfl, hg⟩; obtain ⟨x1, rfl⟩ := hg.later; clear hg)
  refine bodyPost_ret (v := .tuple #[.int .u64 0, .int .i64 r]) (by simp (maxDischargeDepth := 6) [results, Try.results35, go_sem, *]) rfl ?_
  exact ⟨rfl, (by repeat (first | exact Grows.refl _ | refine Grows.now ?_ _ | refine Grows.new ?_ _ | refine Grows.drewN ?_ _ | refine Grows.drew ?_ | assumption | (refine Grows.set ?_ (by first | omega | (simp; done) | (simp; omega)) _)))⟩
set_option maxRecDepth 20000 in
set_option maxHeartbeats 8000000 in
theorem djOneOut (N s t : Int) (A : Option Addr) (n c : Nat) (E : List Edg) (back : Bool) (nn ne : Value) (Aw : Option Addr) (nw cw most : Nat) (W : List Nat) (w : World) (h : Rd w A 3 n (esCells E)) (hW : Rd w Aw 1 nw (wv W)) (hn : n ≤ 1000000) (hnw : nw ≤ 1000000) (hd : dcF N s E W = 0) (ht : ¬ (0 ≤ t ∧ t < N)) :
    Calls Try.prog 35 #[.agg #[.int .i64 N, .slice A n c], .int .i64 s, .int .i64 t, oVal back nn ne Aw nw cw most] w fun e w' => e = .returned (.tuple #[.int .u64 0, .int .i64 7]) ∧ Grows w w' := by
  unfold oVal
  have C1 := hide (fun (W1 : World) (g : Grows w W1) => djCheck N s A n c E back nn ne Aw nw cw most W W1 (h.grows g) (hW.grows g) hn hnw)
  unfold oVal at C1
  rw [hd] at C1
  have C2 := hide (fun (W : World) => gNode N t (.slice A n c) W)
  have hb : nodeB N t = false := decide_eq_false ht
  rw [hb] at C2
  clear h hW hd hb ht
  go_enter Try.func35, Try.ntmps35
  go_wp2_with fail
  refine (C1.out _ (by repeat (first | exact Grows.refl _ | refine Grows.now ?_ _ | refine Grows.new ?_ _ | refine Grows.drewN ?_ _ | refine Grows.drew ?_ | assumption | (refine Grows.set ?_ (by first | omega | (simp; done) | (simp; omega)) _)))).mono ?_; rintro e w' ⟨rfl, hg⟩; obtain ⟨x1, rfl⟩ := hg.later; clear hg
  go_wp2_with fail
  refine (C2.out _).mono ?_; rintro e w' ⟨rfl, hg⟩; obtain ⟨x2, rfl⟩ := Grows.later2 hg; clear hg
  go_wp2_with fail
  refine bodyPost_ret (v := .tuple #[.int .u64 0, .int .i64 7]) (by simp (maxDischargeDepth := 6) [results, Try.results35, go_sem, *]) rfl ?_
  exact ⟨rfl, (by repeat (first | exact Grows.refl _ | refine Grows.now ?_ _ | refine Grows.new ?_ _ | refine Grows.drewN ?_ _ | refine Grows.drew ?_ | assumption | (refine Grows.set ?_ (by first | omega | (simp; done) | (simp; omega)) _)))⟩
theorem gLex_propGd {P : Program} {w0 : World} {ops : Array Oper} {Q : Act → Env → Prop} {a : Act} {G : Env} {o : Oper} {rest : List Oper} {t : Tmp} (hw : Region.wanted o (yielded ops a.tmps) = true) (hp : plainB ops o G = true) (hd : o.dst = some t) (hlt : t < a.tmps.size)
    (p : Pr) (hl : Lasts p) (hr : ∀ x : Later w0, runsTo P (fun u w' => Grows x.now w' ∧ p u w') ((execOp a.eval o).run P x.now))
    (h : gLex P ops w0 Q rest a (G.upd t p)) : gLex P ops w0 Q (o :: rest) a G := by
  obtain ⟨h1, h2, h3, h4⟩ := plain_spec hp
  refine ⟨.inr p, ⟨h1, h2, .inl ⟨hw, hl, ⟨t, hd, hlt⟩, fun w hw a' ha' => ?_⟩⟩, ?_⟩
  · rw [exec_same h4 h3 ha']
    exact hr ⟨w, hw⟩
  · rw [hd]
    exact h
end
end Go.Proofs.Ytomednfddpggaaa

/- Contract: how far one node is, by the shortest way's own answer. -/
namespace Go.Proofs.Ytomednfddpggaaa
open Go Go.RowKit
theorem djOneU {NN sN tN u : Nat} {E : List Edg} {W : List Nat} {ys : List (Nat × Nat)} (hx : PathOk NN sN tN E (freeO W) ys) (hu : u < NN) (A : Option Addr) (c : Nat) (Aw : Option Addr) (cw : Nat) (w : World) (h : Rd w A 3 E.length (esCells E)) (h4 : Rd w Aw 1 W.length (wv W)) (h0 : Rd w none 1 0 []) :
    Calls Try.prog 35 #[.agg #[.int .i64 (NN : Int), .slice A E.length c], .int .i64 (u : Int), .int .i64 (tN : Int), .agg #[.bool false, .slice none 0 0, .slice none 0 0, .slice Aw W.length cw, .int .u64 0]] w fun e w' =>
      e = .returned (if gn (outL NN ys) u < farV then .tuple #[.int .u64 (gn (outL NN ys) u : Int), .int .i64 0] else .tuple #[.int .u64 0, .int .i64 9]) ∧ Grows w w' := by
  obtain ⟨xs, hok, hd, htr, hnd, hin, hout⟩ := one_turned hx hu
  refine (djOne NN u tN A c E (freeO W) none none Aw 0 0 cw xs w h h0 h0 h4 hok hd htr hx.ok.node).mono ?_
  rintro e w' ⟨h1 | h1, hg⟩
  · obtain ⟨f, hf, rfl⟩ := h1
    obtain ⟨e1, e2⟩ := hin f hf
    rw [← e1, if_pos e2]
    exact ⟨rfl, hg⟩
  · obtain ⟨hn, rfl⟩ := h1
    rw [hout hn, if_neg (Nat.lt_irrefl _)]
    exact ⟨rfl, hg⟩
/-- Where there is no way, One says the same. -/
theorem djOneUNo {E : List Edg} {W : List Nat} {N s t : Int} {l : List Nat} {f : Nat} {r : Int} (hp : IsPath E (freeO W) N s t l f r) (hr : r ≠ 0) (A : Option Addr) (c : Nat) (Aw : Option Addr) (cw : Nat) (w : World) (h : Rd w A 3 E.length (esCells E)) (h4 : Rd w Aw 1 W.length (wv W)) (h0 : Rd w none 1 0 []) (hn : E.length ≤ 1000000) (hn3 : W.length ≤ 1000000) :
    Calls Try.prog 35 #[.agg #[.int .i64 N, .slice A E.length c], .int .i64 s, .int .i64 t, .agg #[.bool false, .slice none 0 0, .slice none 0 0, .slice Aw W.length cw, .int .u64 0]] w fun e w' =>
      e = .returned (.tuple #[.int .u64 0, .int .i64 r]) ∧ Grows w w' := by
  cases hp with
  | bad hd => exact djOneNo N s t A E.length c E false (.slice none 0 0) (.slice none 0 0) Aw W.length cw 0 W w h h4 hn hn3 hd
  | noNode hd ht => exact djOneOut N s t A E.length c E false (.slice none 0 0) (.slice none 0 0) Aw W.length cw 0 W w h h4 hn hn3 hd ht
  | noPath NN sN tN xs hN hs ht hok hf =>
    subst hN hs ht
    have := djOneU hok hok.node A c Aw cw w h h4 h0
    rw [hf, if_neg (Nat.lt_irrefl _)] at this
    exact this
  | way => exact absurd rfl hr
theorem IsPath.zeroU {E : List Edg} {o : DOpt} {N s t : Int} {l : List Nat} {f : Nat} {r : Int} (hp : IsPath E o N s t l f r) (hr : r ≠ 0) : l = [] ∧ f = 0 := by
  cases hp with
  | bad => exact ⟨rfl, rfl⟩
  | noNode => exact ⟨rfl, rfl⟩
  | noPath => exact ⟨rfl, rfl⟩
  | way => exact absurd rfl hr
theorem IsPath.waysU {E : List Edg} {o : DOpt} {N s t : Int} {l : List Nat} {f : Nat} {r : Int} (hp : IsPath E o N s t l f r) (hr : r = 0) : ∃ (NN sN tN : Nat) (ys : List (Nat × Nat)), N = NN ∧ s = sN ∧ t = tN ∧ PathOk NN sN tN E o ys ∧ f = gn (outL NN ys) sN ∧ gn (outL NN ys) sN < farV ∧ Near (srchOf NN E (backO o)) (outL NN ys) tN ∧ Fol (srchOf NN E (backO o)) (outL NN ys) tN sN l := by
  cases hp with
  | bad hd => exact absurd hr hd
  | noNode => cases hr
  | noPath => cases hr
  | way NN sN tN xs l hN hs ht hok hf hn hl => exact ⟨NN, sN, tN, xs, hN, hs, ht, hok, rfl, hf, hn, hl⟩
/-- One tells what the shortest way weighs, and its fault. -/
theorem djOneD {E : List Edg} {W : List Nat} {N s t : Int} {l : List Nat} {f : Nat} {r : Int} (hp : IsPath E (freeO W) N s t l f r) (A : Option Addr) (c : Nat) (Aw : Option Addr) (cw : Nat) (w : World) (h : Rd w A 3 E.length (esCells E)) (h4 : Rd w Aw 1 W.length (wv W)) (h0 : Rd w none 1 0 []) (hn : E.length ≤ 1000000) (hn3 : W.length ≤ 1000000) :
    Calls Try.prog 35 #[.agg #[.int .i64 N, .slice A E.length c], .int .i64 s, .int .i64 t, .agg #[.bool false, .slice none 0 0, .slice none 0 0, .slice Aw W.length cw, .int .u64 0]] w fun e w' =>
      e = .returned (.tuple #[.int .u64 (f : Int), .int .i64 r]) ∧ Grows w w' := by
  by_cases hr : r = 0
  · obtain ⟨NN, sN, tN, ys, hN, hs, ht, hok, hff, hfar, hnear, hfol⟩ := hp.waysU hr
    subst hN hs ht hr
    have := djOneU hok hok.node A c Aw cw w h h4 h0
    rw [if_pos hfar, ← hff] at this
    exact this
  · obtain ⟨_, hf⟩ := hp.zeroU hr
    subst hf
    exact djOneUNo hp hr A c Aw cw w h h4 h0 hn hn3
end Go.Proofs.Ytomednfddpggaaa

/- Plain law: how far it is without an edge. -/
namespace Go.Proofs.Ytomednfddpggaaa
open Go Go.RowKit
/-- The search from the end, turned round. -/
abbrev bkX (N : Nat) (E : List Edg) : Srch := srchOf N E (backO (freeO []))
theorem bkX_cnt (N : Nat) (E : List Edg) (i : Nat) : cntE (bkX N E) i = true := by simp [cntE, srchOf, backO, freeO]
theorem bkX_w {N : Nat} {E : List Edg} (hr : rightF N E = 0) {i : Nat} (hi : i < E.length) : gn (bkX N E).W i = (ge E i).w.toNat := by
  show gn (wtF N E []) i = _
  unfold wtF
  rw [if_neg (by omega), if_neg (by simp), if_neg (by simp)]
  simp [gn, eW, ge, hi]
theorem erase_any {p : Edg → Bool} {E : List Edg} (e : Nat) (h : E.any p = false) : (E.eraseIdx e).any p = false := by
  rw [List.any_eq_false] at h ⊢
  exact fun x hx => h x (List.mem_of_mem_eraseIdx hx)
theorem right_erase {N : Int} {E : List Edg} (e : Nat) (h : rightF N E = 0) : rightF N (E.eraseIdx e) = 0 := by
  have hl : (E.eraseIdx e).length ≤ E.length := List.length_eraseIdx_le E e
  unfold rightF at h ⊢
  split at h
  · cases h
  rename_i h1
  split at h
  · cases h
  rename_i h2
  split at h
  · cases h
  rename_i h3
  split at h
  · cases h
  rename_i h4
  rw [if_neg h1, if_neg (by omega), if_neg (by rw [erase_any e (by simpa using h3)]; simp), if_neg (by rw [erase_any e (by simpa using h4)]; simp)]
theorem ge_erase {E : List Edg} {e i : Nat} (he : e < E.length) (hi : i < (E.eraseIdx e).length) : ge (E.eraseIdx e) i = ge E (if i < e then i else i + 1) := by
  unfold ge
  rw [List.getD_eq_getElem?_getD, List.getD_eq_getElem?_getD, List.getElem?_eraseIdx]
  split <;> rfl
theorem way_back {N : Nat} {E : List Edg} {e t v f : Nat} (hr : rightF N E = 0) (he : e < E.length) (h : Way (bkX N (E.eraseIdx e)) t v f) : Way (bkX N E) t v f := by
  induction h with
  | here => exact .here
  | @step f i h hi hc ih =>
    have hi' : i < (E.eraseIdx e).length := hi
    have hl : (E.eraseIdx e).length = E.length - 1 := List.length_eraseIdx_of_lt he
    have hg := ge_erase he hi'
    have hj : (if i < e then i else i + 1) < E.length := by split <;> omega
    have e1 : nN (E.eraseIdx e) true i = nN E true (if i < e then i else i + 1) := by show tN _ _ = tN _ _; unfold tN; rw [hg]
    have e2 : toE (bkX N (E.eraseIdx e)) i = toE (bkX N E) (if i < e then i else i + 1) := by show (ge (E.eraseIdx e) i).f.toNat = (ge E _).f.toNat; rw [hg]
    have e3 : gn (bkX N (E.eraseIdx e)).W i = gn (bkX N E).W (if i < e then i else i + 1) := by rw [bkX_w (right_erase e hr) hi', bkX_w hr hj, hg]
    rw [e2, e3]
    refine Way.step (x := bkX N E) ?_ hj (bkX_cnt N E _)
    have : Way (bkX N E) t (nN (E.eraseIdx e) true i) f := ih
    rwa [e1] at this
theorem way_out {N : Nat} {E : List Edg} {e t v f : Nat} (hr : rightF N E = 0) (he : e < E.length) (h : Way (bkX N E) t v f) :
    Way (bkX N (E.eraseIdx e)) t v f ∨ ∃ f1 f2, Way (bkX N E) t (tN E e) f1 ∧ Way (bkX N E) (fN E e) v f2 ∧ f = f1 + (ge E e).w.toNat + f2 := by
  induction h with
  | here => exact .inl .here
  | @step f i h hi hc ih =>
    have hi' : i < E.length := hi
    have hw := bkX_w hr hi'
    by_cases hie : i = e
    · subst hie
      exact .inr ⟨f, 0, h, .here, by rw [hw]; rfl⟩
    · rcases ih with ih | ⟨f1, f2, h1, h2, h3⟩
      · refine .inl ?_
        have hl : (E.eraseIdx e).length = E.length - 1 := List.length_eraseIdx_of_lt he
        obtain ⟨j, hj, hji⟩ : ∃ j, j < (E.eraseIdx e).length ∧ (if j < e then j else j + 1) = i := by
          by_cases h : i < e
          · exact ⟨i, by omega, if_pos h⟩
          · exact ⟨i - 1, by omega, by rw [if_neg (by omega)]; omega⟩
        have hg := ge_erase he hj
        rw [hji] at hg
        have e1 : nN E true i = nN (E.eraseIdx e) true j := by show tN _ _ = tN _ _; unfold tN; rw [hg]
        have e2 : toE (bkX N E) i = toE (bkX N (E.eraseIdx e)) j := by show (ge E i).f.toNat = (ge (E.eraseIdx e) j).f.toNat; rw [hg]
        have e3 : gn (bkX N E).W i = gn (bkX N (E.eraseIdx e)).W j := by rw [bkX_w (right_erase e hr) hj, hw, hg]
        rw [e2, e3]
        refine Way.step (x := bkX N (E.eraseIdx e)) ?_ hj (bkX_cnt N _ _)
        have : Way (bkX N (E.eraseIdx e)) t (nN E true i) f := ih
        rwa [e1] at this
      · exact .inr ⟨f1, f2 + gn (bkX N E).W i, h1, Way.step (x := bkX N E) h2 hi hc, by omega⟩
/-- What One tells, by ways. -/
theorem isp_cases {E : List Edg} {NN : Nat} {s t r : Int} {l : List Nat} {f : Nat} (hp : IsPath E (freeO []) NN s t l f r) (hr : rightF NN E = 0) :
    (¬ (0 ≤ s ∧ s < NN) ∧ r = 7) ∨ ((0 ≤ s ∧ s < NN) ∧ ¬ (0 ≤ t ∧ t < NN) ∧ r = 7) ∨
    ((0 ≤ s ∧ s < NN) ∧ (0 ≤ t ∧ t < NN) ∧ ((r = 0 ∧ f < farV ∧ Way (bkX NN E) t.toNat s.toNat f ∧ ∀ g, Way (bkX NN E) t.toNat s.toNat g → f ≤ g) ∨ (r = 9 ∧ ∀ g, ¬ Way (bkX NN E) t.toNat s.toNat g))) := by
  have hdc : dcF NN s E [] = if nodeB NN s = false then 7 else 0 := by
    unfold dcF
    rw [if_neg (by omega)]
    split
    · rfl
    · rw [if_neg (by simp)]; rfl
  have hsn : dcF NN s E [] = 0 → 0 ≤ s ∧ s < NN := by
    rw [hdc]
    split
    · intro h; cases h
    · rename_i h; intro _; simpa [nodeB] using h
  cases hp with
  | bad h =>
    have h' : dcF NN s E [] ≠ 0 := h
    rw [hdc] at h'
    split at h'
    · rename_i h2
      refine .inl ⟨by simpa [nodeB] using h2, ?_⟩
      show dcF NN s E [] = 7
      rw [hdc, if_pos h2]
    · exact absurd rfl h'
  | noNode h ht => exact .inr (.inl ⟨hsn h, ht, rfl⟩)
  | noPath N2 sN tN xs hN hs ht hok hf =>
    obtain rfl : NN = N2 := by omega
    subst hs ht
    have hnode : tN < NN := hok.ok.node
    have hsN := hok.node
    refine .inr (.inr ⟨⟨by omega, by omega⟩, ⟨by omega, by omega⟩, .inr ⟨rfl, fun g hg => ?_⟩⟩)
    obtain ⟨g', h1, h2⟩ := (hok.far (by simp [freeO])).all _ _ hg (fun h => absurd h (by simp [srchOf, backO]))
    rcases outL_cases (hok.far (by simp [freeO])) hok.bound.1 (v := sN) hsN with ⟨h3, h4⟩ | ⟨_, h3⟩
    · have : gn (outL NN xs) sN < farV := h4
      omega
    · exact h3 g' h1
  | way N2 sN tN xs l hN hs ht hok hf hn hl =>
    obtain rfl : NN = N2 := by omega
    subst hs ht
    have hnode : tN < NN := hok.ok.node
    have hsN := hok.node
    have hfar := hok.far (by simp [freeO])
    refine .inr (.inr ⟨⟨by omega, by omega⟩, ⟨by omega, by omega⟩, .inl ⟨rfl, hf, ?_, fun g hg => ?_⟩⟩)
    · rcases outL_cases hfar hok.bound.1 (v := sN) hsN with ⟨h3, h4⟩ | ⟨h3, _⟩
      · exact (hfar.way _ _ h3).2.1
      · have : gn (outL NN xs) sN = farV := h3
        omega
    · obtain ⟨g', h1, h2⟩ := hfar.all _ _ hg (fun h => absurd h (by simp [srchOf, backO]))
      have h5 : gn (outL NN xs) sN = g' := outL_at hfar.nodup (N := NN) hsN h1
      rw [h5]; exact h2
/-- Without an edge. -/
theorem without_law {E : List Edg} {NN e : Nat} {s t : Int} {l1 l2 l3 l4 : List Nat} {a b p q : Nat} {h k u v : Int} (hr : rightF NN E = 0) (he : e < E.length)
    (h1 : IsPath E (freeO []) NN s t l1 a h) (h2 : IsPath (E.eraseIdx e) (freeO []) NN s t l2 b k) (h3 : IsPath E (freeO []) NN s (ge E e).f l3 p u) (h4 : IsPath E (freeO []) NN (ge E e).t t l4 q v) :
    (h ≠ 0 → k = h) ∧ (h = 0 → (k = 0 → a ≤ b) ∧ ((u = 0 ∧ v = 0 ∧ p + (ge E e).w.toNat + q = a) ∨ (k = 0 ∧ b = a))) := by
  obtain ⟨r1, r2, r3, r4, r5⟩ := right_in hr
  rw [Int.toNat_natCast] at r4
  obtain ⟨n1, n2⟩ := r4 e he
  have hr' := right_erase e hr
  rcases isp_cases h1 hr with ⟨c1, c2⟩ | ⟨c1, c2, c3⟩ | ⟨c1, c2, c3⟩
  · rcases isp_cases h2 hr' with ⟨d1, d2⟩ | ⟨d1, _⟩ | ⟨d1, _⟩
    · exact ⟨fun _ => by omega, fun h => by omega⟩
    · exact absurd d1 c1
    · exact absurd d1 c1
  · rcases isp_cases h2 hr' with ⟨d1, d2⟩ | ⟨d1, _, d3⟩ | ⟨_, d1, _⟩
    · exact absurd c1 d1
    · exact ⟨fun _ => by omega, fun h => by omega⟩
    · exact absurd d1 c2
  · rcases isp_cases h2 hr' with ⟨d1, d2⟩ | ⟨_, d1, d3⟩ | ⟨_, _, d3⟩
    · exact absurd c1 d1
    · exact absurd c2 d1
    · rcases c3 with ⟨rfl, c4, c5, c6⟩ | ⟨rfl, c4⟩
      · refine ⟨fun h => absurd rfl h, fun _ => ?_⟩
        constructor
        · intro hk
          rcases d3 with ⟨_, _, d5, _⟩ | ⟨d4, _⟩
          · exact c6 _ (way_back hr he d5)
          · omega
        · rcases way_out hr he c5 with w1 | ⟨f1, f2, w1, w2, w3⟩
          · refine .inr ?_
            rcases d3 with ⟨d4, _, d5, d6⟩ | ⟨_, d4⟩
            · have := d6 _ w1
              have := c6 _ (way_back hr he d5)
              exact ⟨d4, by omega⟩
            · exact absurd w1 (d4 _)
          · refine .inl ?_
            have e1 : fN E e = (ge E e).f.toNat := rfl
            have e2 : tN E e = (ge E e).t.toNat := rfl
            rw [e2] at w1
            rw [e1] at w2
            have hw : gn (bkX NN E).W e = (ge E e).w.toNat := bkX_w hr he
            rcases isp_cases h3 hr with ⟨d1, _⟩ | ⟨_, d1, _⟩ | ⟨_, _, d3⟩
            · exact absurd c1 d1
            · exact absurd (by rw [show NN = NN from rfl]; exact n1) d1
            · rcases isp_cases h4 hr with ⟨d4, _⟩ | ⟨_, d4, _⟩ | ⟨_, _, d4⟩
              · exact absurd n2 d4
              · exact absurd c2 d4
              · rcases d3 with ⟨rfl, _, p1, p2⟩ | ⟨_, p1⟩
                · rcases d4 with ⟨rfl, _, q1, q2⟩ | ⟨_, q1⟩
                  · have hpf := p2 _ w2
                    have hqf := q2 _ w1
                    have hall : Way (bkX NN E) t.toNat s.toNat (q + (ge E e).w.toNat + p) := by
                      have s1 : Way (bkX NN E) t.toNat (toE (bkX NN E) e) (q + gn (bkX NN E).W e) := Way.step (x := bkX NN E) q1 he (bkX_cnt NN E e)
                      rw [hw] at s1
                      exact s1.trans p1
                    have := c6 _ hall
                    exact ⟨rfl, rfl, by omega⟩
                  · exact absurd w1 (q1 _)
                · exact absurd w2 (p1 _)
      · refine ⟨fun _ => ?_, fun h => absurd h (by decide)⟩
        rcases d3 with ⟨_, _, d5, _⟩ | ⟨d4, _⟩
        · exact absurd (way_back hr he d5) (c4 _)
        · exact d4
end Go.Proofs.Ytomednfddpggaaa

/- The law BridgeFarther, walked: without an edge it is never nearer, and just as far if the edge is on no way that weighs least. -/
namespace Go.Proofs.Ytomednfddpggaaa
open Go Go.RowKit
attribute [local go_sem] Oper.semAt_some
set_option maxRecDepth 40000 in
set_option maxHeartbeats 8000000 in
theorem bridgeFartherW (N : Int) (A : Option Addr) (n c : Nat) (E : List Edg) (s t e : Int) (w : World) (_ : I64 N) (_ : n ≤ c) (h : Rd w A 3 n (esCells E)) (_ : ∀ k, k < n → edgOk (ge E k)) (_ : I64 s) (_ : I64 t) (_ : I64 e) :
    Calls Try.prog 6 #[.agg #[.int .i64 N, .slice A n c], .int .i64 s, .int .i64 t, .int .i64 e] w fun e w' => e = .returned (.bool true) ∧ Grows w w' := by
  have CL := hide (fun (W : World) => lLight48 N A n c W)
  have CA := hide (fun (W : World) => alive48 W)
  have hel := h.elen
  subst hel
  cases hq : light48 N E.length with
  | false =>
    rw [hq] at CL
    clear hq h
    go_enter Try.func6, Try.ntmps6
    go_wp2_with (first | (go_at_call 7; refine (CL.out _).mono ?_; rintro e w' ⟨rfl, hg⟩; obtain ⟨x1, rfl⟩ := hg.later; clear hg) | (go_at_call 8; refine (CA.out _).mono ?_; rintro e w' ⟨rfl, hg⟩; obtain ⟨x2, rfl⟩ := hg.later; clear hg))
    go_ret
    exact ⟨rfl, (by repeat (first | exact Grows.refl _ | refine Grows.now ?_ _ | refine Grows.new ?_ _ | refine Grows.drewN ?_ _ | refine Grows.drew ?_ | assumption | (refine Grows.set ?_ (by first | omega | (simp; done) | (simp; omega)) _)))⟩
  | true =>
    rw [hq] at CL
    have hn : E.length ≤ 40 := by
      unfold light48 at hq
      simp only [Bool.and_eq_true, decide_eq_true_eq] at hq
      exact hq.2
    clear hq
    by_cases hgood : rightF N E = 0 ∧ 0 ≤ e ∧ e < E.length
    · obtain ⟨hr, he0, heN⟩ := hgood
      obtain ⟨r1, r2, r3, r4, r5⟩ := right_in hr
      obtain ⟨N', rfl⟩ : ∃ k : Nat, N = (k : Int) := ⟨N.toNat, by omega⟩
      obtain ⟨e', rfl⟩ : ∃ k : Nat, e = (k : Int) := ⟨e.toNat, by omega⟩
      have he : e' < E.length := by omega
      obtain ⟨l1, a, hh, i1⟩ := isPath_any E (freeO []) N' s t (by simp [freeO]) (by simp [freeO])
      obtain ⟨l2, b, k, i2⟩ := isPath_any (E.eraseIdx e') (freeO []) N' s t (by simp [freeO]) (by simp [freeO])
      obtain ⟨l3, p, u, i3⟩ := isPath_any E (freeO []) N' s (ge E e').f (by simp [freeO]) (by simp [freeO])
      obtain ⟨l4, q, v, i4⟩ := isPath_any E (freeO []) N' (ge E e').t t (by simp [freeO]) (by simp [freeO])
      have LAW := hide (without_law hr he i1 i2 i3 i4)
      have hel : (E.eraseIdx e').length ≤ 1000000 := by have := List.length_eraseIdx_le E e'; omega
      have h0 : Rd w none 1 0 [] := ⟨by simp, fun h => absurd h (by simp)⟩
      have h4 : Rd w none 1 0 (wv []) := ⟨by simp [wv], fun h => absurd h (by simp)⟩
      have hE6 : E.length ≤ 1000000 := by omega
      have CW := hide (fun (W : World) (g : Grows w W) => withoutW N' A c E e' W (h.grows g) hr he)
      have C1 := hide (fun (W : World) (g : Grows w W) => by have := djOneD i1 A c none 0 W (h.grows g) (h4.grows g) (h0.grows g) hE6 (by simp); simp only [List.length_nil] at this; exact this)
      have C2 := hide (fun (W : World) (g : Grows w W) (A' : Option Addr) (c' : Nat) (h' : Rd W A' 3 (E.eraseIdx e').length (esCells (E.eraseIdx e'))) => by have := djOneD i2 A' c' none 0 W h' (h4.grows g) (h0.grows g) hel (by simp); simp only [List.length_nil] at this; exact this)
      have C3 := hide (fun (W : World) (g : Grows w W) => by have := djOneD i3 A c none 0 W (h.grows g) (h4.grows g) (h0.grows g) hE6 (by simp); simp only [List.length_nil] at this; exact this)
      have C4 := hide (fun (W : World) (g : Grows w W) => by have := djOneD i4 A c none 0 W (h.grows g) (h4.grows g) (h0.grows g) hE6 (by simp); simp only [List.length_nil] at this; exact this)
      obtain ⟨bE, off, rfl, hc⟩ := h.edgesH (by omega)
      obtain ⟨cf, ct, cw⟩ := hc e' he
      have hpf := (i3.short).2
      have hqf := (i4.short).2
      obtain ⟨w1, w2⟩ := r5 e' he
      unfold farV at hpf hqf
      have hs1 : IntKind.u64.wrap ((p : Int) + (ge E e').w) = (p : Int) + (ge E e').w := IntWalk.u64_in _ (by omega)
      have hs2 : IntKind.u64.wrap ((p : Int) + (ge E e').w + (q : Int)) = (p : Int) + (ge E e').w + (q : Int) := IntWalk.u64_in _ (by omega)
      have HW := hide (show ((ge E e').w.toNat : Int) = (ge E e').w by omega)
      clear h hr he0 heN r1 r2 r3 r4 r5 hpf hqf w1 w2 hn hc i1 i2 i3 i4 h0 h4
      generalize (ge E e').f = ef at *
      generalize (ge E e').t = et at *
      generalize (ge E e').w = ew at *
      go_enter Try.func6, Try.ntmps6
      go_upto_region 6 with (first | (go_at_call 7; refine (CL.out _).mono ?_; rintro e w' ⟨rfl, hg⟩; obtain ⟨x1, rfl⟩ := hg.later; clear hg) | (go_at_call 9; refine (CW.out _ (by repeat (first | exact Grows.refl _ | refine Grows.now ?_ _ | refine Grows.new ?_ _ | refine Grows.drewN ?_ _ | refine Grows.drew ?_ | assumption | (refine Grows.set ?_ (by first | omega | (simp; done) | (simp; omega)) _)))).mono ?_; rintro e w' ⟨A2, c2, rfl, hr2, hg⟩; obtain ⟨x2, rfl⟩ := hg.later; have HR2 := hide hr2; clear hg hr2))
      go_wp2_with fail
      refine (C1.out _ (by repeat (first | exact Grows.refl _ | refine Grows.now ?_ _ | refine Grows.new ?_ _ | refine Grows.drewN ?_ _ | refine Grows.drew ?_ | assumption | (refine Grows.set ?_ (by first | omega | (simp; done) | (simp; omega)) _)))).mono ?_
      rintro e w' ⟨rfl, hg⟩
      obtain ⟨x3, rfl⟩ := hg.later
      clear hg
      go_wp2_with fail
      refine (C2.out _ (by repeat (first | exact Grows.refl _ | refine Grows.now ?_ _ | refine Grows.new ?_ _ | refine Grows.drewN ?_ _ | refine Grows.drew ?_ | assumption | (refine Grows.set ?_ (by first | omega | (simp; done) | (simp; omega)) _))) A2 c2 (HR2.out.grows (by repeat (first | exact Grows.refl _ | refine Grows.now ?_ _ | refine Grows.new ?_ _ | refine Grows.drewN ?_ _ | refine Grows.drew ?_ | assumption | (refine Grows.set ?_ (by first | omega | (simp; done) | (simp; omega)) _))))).mono ?_
      rintro e w' ⟨rfl, hg⟩
      obtain ⟨x4, rfl⟩ := hg.later
      clear hg
      go_upto_region 10 with (go_at_call 8; refine (CA.out _).mono ?_; rintro e w' ⟨rfl, hg⟩; obtain ⟨x5, rfl⟩ := hg.later; clear hg)
      · go_ret
        exact ⟨rfl, (by repeat (first | exact Grows.refl _ | refine Grows.now ?_ _ | refine Grows.new ?_ _ | refine Grows.drewN ?_ _ | refine Grows.drew ?_ | assumption | (refine Grows.set ?_ (by first | omega | (simp; done) | (simp; omega)) _)))⟩
      · rename_i h1 h2
        exact absurd (LAW.out.1 (by simpa using h1)) h2
      have LAW2 := hide (LAW.out.2 (by simpa using ‹(hh != 0) = false›))
      clear LAW
      go_upto_region 12 with fail
      · exact absurd (LAW2.out.1 ‹k = 0›) (by omega)
      all_goals ((first | refine wp_region_gen (by kernel_rfl) (by kernel_rfl) ?_); (repeat' (first | (refine gLex_val0 rfl (by kernel_rfl) (fun K hK => ?_); (go_simp; (try (simp only [↓IntWalk.iteOmega]; try go_simp)); (try simp (disch := omega) only [IntWalk.i64_in]); (try simp (disch := omega) only [IntWalk.u64_in]); first | (refine hK _ ?_; clear hK K) | (apply Exists.intro; refine ⟨fun x => ?_, hK _ ?_⟩; (first | (go_at_call 35; exact C3.out _ (by repeat (first | exact Grows.refl _ | refine Grows.now ?_ _ | refine Grows.new ?_ _ | refine Grows.drewN ?_ _ | refine Grows.drew ?_ | assumption | (refine Grows.set ?_ (by first | omega | (simp; done) | (simp; omega)) _))))); clear hK K))) | (refine gLex_undef rfl rfl rfl (by kernel_rfl) (fun K hK => ?_); go_simp; refine hK _ ?_; clear hK K) | (refine gLex_ask rfl rfl rfl ?_; first | (apply gAsk_yes; kernel_rfl; intro K hK; (go_simp; (try (simp only [↓IntWalk.iteOmega]; try go_simp)); (try simp (disch := omega) only [IntWalk.i64_in]); (try simp (disch := omega) only [IntWalk.u64_in]); first | (refine hK _ ?_; clear hK K) | (apply Exists.intro; refine ⟨fun x => ?_, hK _ ?_⟩; (first | (go_at_call 35; exact C3.out _ (by repeat (first | exact Grows.refl _ | refine Grows.now ?_ _ | refine Grows.new ?_ _ | refine Grows.drewN ?_ _ | refine Grows.drew ?_ | assumption | (refine Grows.set ?_ (by first | omega | (simp; done) | (simp; omega)) _))))); clear hK K))) | ((first | apply gAsk_no1 | apply gAsk_no2); kernel_rfl; intro K hK; simp [go_sem]; refine hK _ ?_; clear hK K) | (apply gAsk_part; kernel_rfl; all_goals (intro h K hK; (try simp only [Bool.not_true] at h); (try simp only [Bool.not_false] at h); (try simp only [decide_eq_true_eq] at h); (try simp only [decide_eq_false_iff_not] at h); first | (exfalso; first | contradiction | omega) | (go_simp; (try (simp only [↓IntWalk.iteOmega]; try go_simp)); (try simp (disch := omega) only [IntWalk.i64_in]); (try simp (disch := omega) only [IntWalk.u64_in]); first | (refine hK _ ?_; clear hK K) | (apply Exists.intro; refine ⟨fun x => ?_, hK _ ?_⟩; (first | (go_at_call 35; exact C3.out _ (by repeat (first | exact Grows.refl _ | refine Grows.now ?_ _ | refine Grows.new ?_ _ | refine Grows.drewN ?_ _ | refine Grows.drew ?_ | assumption | (refine Grows.set ?_ (by first | omega | (simp; done) | (simp; omega)) _))))); clear hK K))))))); all_goals ((apply gLex_end); intro x5))
      all_goals go_wp2_with fail
      all_goals ((first | refine wp_region_gen (by kernel_rfl) (by kernel_rfl) ?_); (repeat' (first | (refine gLex_val0 rfl (by kernel_rfl) (fun K hK => ?_); (go_simp; (try (simp only [↓IntWalk.iteOmega]; try go_simp)); (try simp (disch := omega) only [IntWalk.i64_in]); (try simp (disch := omega) only [IntWalk.u64_in]); first | (refine hK _ ?_; clear hK K) | (apply Exists.intro; refine ⟨fun x => ?_, hK _ ?_⟩; (first | (go_at_call 35; exact C4.out _ (by repeat (first | exact Grows.refl _ | refine Grows.now ?_ _ | refine Grows.new ?_ _ | refine Grows.drewN ?_ _ | refine Grows.drew ?_ | assumption | (refine Grows.set ?_ (by first | omega | (simp; done) | (simp; omega)) _))))); clear hK K))) | (refine gLex_undef rfl rfl rfl (by kernel_rfl) (fun K hK => ?_); go_simp; refine hK _ ?_; clear hK K) | (refine gLex_ask rfl rfl rfl ?_; first | (apply gAsk_yes; kernel_rfl; intro K hK; (go_simp; (try (simp only [↓IntWalk.iteOmega]; try go_simp)); (try simp (disch := omega) only [IntWalk.i64_in]); (try simp (disch := omega) only [IntWalk.u64_in]); first | (refine hK _ ?_; clear hK K) | (apply Exists.intro; refine ⟨fun x => ?_, hK _ ?_⟩; (first | (go_at_call 35; exact C4.out _ (by repeat (first | exact Grows.refl _ | refine Grows.now ?_ _ | refine Grows.new ?_ _ | refine Grows.drewN ?_ _ | refine Grows.drew ?_ | assumption | (refine Grows.set ?_ (by first | omega | (simp; done) | (simp; omega)) _))))); clear hK K))) | ((first | apply gAsk_no1 | apply gAsk_no2); kernel_rfl; intro K hK; simp [go_sem]; refine hK _ ?_; clear hK K) | (apply gAsk_part; kernel_rfl; all_goals (intro h K hK; (try simp only [Bool.not_true] at h); (try simp only [Bool.not_false] at h); (try simp only [decide_eq_true_eq] at h); (try simp only [decide_eq_false_iff_not] at h); first | (exfalso; first | contradiction | omega) | (go_simp; (try (simp only [↓IntWalk.iteOmega]; try go_simp)); (try simp (disch := omega) only [IntWalk.i64_in]); (try simp (disch := omega) only [IntWalk.u64_in]); first | (refine hK _ ?_; clear hK K) | (apply Exists.intro; refine ⟨fun x => ?_, hK _ ?_⟩; (first | (go_at_call 35; exact C4.out _ (by repeat (first | exact Grows.refl _ | refine Grows.now ?_ _ | refine Grows.new ?_ _ | refine Grows.drewN ?_ _ | refine Grows.drew ?_ | assumption | (refine Grows.set ?_ (by first | omega | (simp; done) | (simp; omega)) _))))); clear hK K))))))); all_goals ((apply gLex_end); intro x6))
      all_goals go_wp2_with (go_at_call 8; refine (CA.out _).mono ?_; rintro e w' ⟨rfl, hg⟩; obtain ⟨x7, rfl⟩ := hg.later; clear hg)
      all_goals first
        | (exfalso; have l1 := LAW2.out; have l2 := HW.out; omega)
        | (go_ret; exact ⟨rfl, (by repeat (first | exact Grows.refl _ | refine Grows.now ?_ _ | refine Grows.new ?_ _ | refine Grows.drewN ?_ _ | refine Grows.drew ?_ | assumption | (refine Grows.set ?_ (by first | omega | (simp; done) | (simp; omega)) _)))⟩)
    · have hno : rightF N E ≠ 0 ∨ ¬ (0 ≤ e ∧ e < E.length) := by omega
      have CW := hide (fun (W : World) (g : Grows w W) => withoutNo N A c E e W (h.grows g) (by omega) hno)
      clear h hno hgood hn
      go_enter Try.func6, Try.ntmps6
      go_upto_region 4 with (first | (go_at_call 7; refine (CL.out _).mono ?_; rintro e w' ⟨rfl, hg⟩; obtain ⟨x1, rfl⟩ := hg.later; clear hg) | (go_at_call 9; refine (CW.out _ (by repeat (first | exact Grows.refl _ | refine Grows.now ?_ _ | refine Grows.new ?_ _ | refine Grows.drewN ?_ _ | refine Grows.drew ?_ | assumption | (refine Grows.set ?_ (by first | omega | (simp; done) | (simp; omega)) _)))).mono ?_; rintro e w' ⟨f, hf, rfl, hg⟩; obtain ⟨x2, rfl⟩ := hg.later; have hfb : (f != 0) = true := (by simpa using hf); clear hg hf))
      go_wp2_with (go_at_call 8; refine (CA.out _).mono ?_; rintro e w' ⟨rfl, hg⟩; obtain ⟨x7, rfl⟩ := hg.later; clear hg)
      go_ret
      exact ⟨rfl, (by repeat (first | exact Grows.refl _ | refine Grows.now ?_ _ | refine Grows.new ?_ _ | refine Grows.drewN ?_ _ | refine Grows.drew ?_ | assumption | (refine Grows.set ?_ (by first | omega | (simp; done) | (simp; omega)) _)))⟩
end Go.Proofs.Ytomednfddpggaaa

/- The law BridgeFarther: for every input it returns true, and each argument reads as before. No condition. -/
namespace Go.Proofs.Ytomednfddpggaaa.lawBridgeFarther
open Go Go.ChangeShapes Go.WideShapes Go.ChangeAt Go.RowKit Go.Proofs.Ytomednfddpggaaa

theorem own : ownKnob Try.prog.godebug = none := by kernel_rfl
theorem laidOut : laidOutB Try.prog = true := by kernel_rfl

set_option maxRecDepth 100000 in
theorem lifted (os : Os) (started : os.Started) (H : Type) (enc : TypeId × Value → H) :
    ReturnsInHanded {} Try.checked os 6 .any (Rows.bridgeFartherSpec.pre6 enc Try.prog Try.f6 Rows.bridgeFartherRow.domain false) (Rows.bridgeFartherSpec.post enc Try.prog Try.f6 false true false false) := by
  refine returnsInHanded_of_change (C := Try.checked) own started (by kernel_rfl) Try.func6
    (ChangeSpec.witness6 (enc := enc) (C := Try.checked) false ⟨#[], #[.agg #[.int .i64 0, .slice none 0 0], .int .i64 0, .int .i64 0, .int .i64 0], []⟩ 8 (by kernel_rfl) (by kernel_rfl) (by kernel_rfl) (by kernel_rfl)) ?_
  intro W base args ds gs before hval0 hW hcnd _
  have hval : ∀ (j : Nat) t v, Try.f6.params[j]? = some t → args[j]? = some v → Value.okWide Try.prog W .any base t v := hval0
  have hW' := hW
  obtain ⟨p, q, hA0, hV, rfl, hfz, hnd⟩ := hW
  have hA : DataW.TrodAll enc Try.prog W 0 (fun _ => true) true Try.f6.params.toList args.toList ds p := hA0
  rw [Try.params6] at hA hval
  obtain ⟨v0, vs0, d0, ds0, p0, q0, hargs, rfl, rfl, h0, r0⟩ := trodAll_cons hA
  obtain ⟨v1, vs1, d1, ds1, p1, q1, rfl, rfl, rfl, h1, r1⟩ := trodAll_cons r0
  obtain ⟨v2, vs2, d2, ds2, p2, q2, rfl, rfl, rfl, h2, r2⟩ := trodAll_cons r1
  obtain ⟨v3, vs3, d3, ds3, p3, q3, rfl, rfl, rfl, h3, r3⟩ := trodAll_cons r2
  obtain ⟨rfl, rfl, rfl⟩ := trodAll_nil r3
  obtain rfl : args = #[v0, v1, v2, v3] := by cases args; simp_all
  obtain ⟨rfl, rfl⟩ := trodVars_none hV
  have k0 := h0
  have lt0 : ∀ x ∈ p0, x.block < W.heap.size := by obtain ⟨m, hm⟩ := k0; exact DataW.trod_lt m _ _ _ hm
  obtain ⟨a0, A0, n0, c0, z0, rfl, x0, l0, w0, u0⟩ := open_graph Try.underlying24 Try.underlying3 Try.underlying22 Try.underlying68 Try.underlying3 Try.underlying3 Try.underlying38 ⟨rfl, rfl, rfl⟩ ⟨by kernel_rfl, by kernel_rfl, by kernel_rfl⟩ (by kernel_rfl) (by kernel_rfl) (by kernel_rfl) (hval 0 24 v0 rfl rfl) h0
  have k1 := h1
  have lt1 : ∀ x ∈ p1, x.block < W.heap.size := by obtain ⟨m, hm⟩ := k1; exact DataW.trod_lt m _ _ _ hm
  obtain ⟨a1, rfl, w1⟩ := open_i64 Try.underlying3 (hval 1 3 v1 rfl rfl) h1
  have k2 := h2
  have lt2 : ∀ x ∈ p2, x.block < W.heap.size := by obtain ⟨m, hm⟩ := k2; exact DataW.trod_lt m _ _ _ hm
  obtain ⟨a2, rfl, w2⟩ := open_i64 Try.underlying3 (hval 2 3 v2 rfl rfl) h2
  have k3 := h3
  have lt3 : ∀ x ∈ p3, x.block < W.heap.size := by obtain ⟨m, hm⟩ := k3; exact DataW.trod_lt m _ _ _ hm
  obtain ⟨a3, rfl, w3⟩ := open_i64 Try.underlying3 (hval 3 3 v3 rfl rfl) h3
  clear hA0 hval0
  refine (bridgeFartherW a0 A0 n0 c0 z0 a1 a2 a3 W x0 l0 w0 u0 w1 w2 w3).mono fun e W' ⟨he, bel⟩ => ?_
  subst he
  exact ⟨_, rfl, _, _, _, [], _, [], hW', trodAll_mk1 (shut_bool Try.underlying4 _), (trodAll_cons_mk (Below.trod laidOut (by kernel_rfl) (of_decide_eq_true (by kernel_rfl)) k0 bel lt0) (trodAll_cons_mk (Below.trod laidOut (by kernel_rfl) (of_decide_eq_true (by kernel_rfl)) k1 bel lt1) (trodAll_cons_mk (Below.trod laidOut (by kernel_rfl) (of_decide_eq_true (by kernel_rfl)) k2 bel lt2) (trodAll_cons_mk (Below.trod laidOut (by kernel_rfl) (of_decide_eq_true (by kernel_rfl)) k3 bel lt3) trodAll_mk0)))), rfl, Below.frame bel _, fun h => by cases h⟩

theorem over : Rows.bridgeFartherRow.holds Try.pinned (OpenSpec.ofChange Rows.bridgeFartherSpec) :=
  OpenClaim.holds_of_wide 6 Try.f6 rfl rfl rfl rfl rfl rfl rfl ⟨rfl, rfl, rfl, rfl, rfl⟩ rfl rfl rfl rfl rfl (by kernel_rfl) Try.func6 (by kernel_rfl)
    (of_decide_eq_true (by kernel_rfl)) (by unfold Func.isWrapper; first | (rw [if_pos (by decide +kernel)]; kernel_rfl) | (rw [if_neg (by decide +kernel)]; exact ⟨rfl, rfl⟩))
    (fun os started H enc _ => lifted os started H enc)

end Go.Proofs.Ytomednfddpggaaa.lawBridgeFarther
namespace Go.Proofs.Ytomednfddpggaaa
/-- The statement. -/
theorem bridgeFarther_proved : Rows.BridgeFartherSaid := lawBridgeFarther.over
#print axioms bridgeFarther_proved
end Go.Proofs.Ytomednfddpggaaa
