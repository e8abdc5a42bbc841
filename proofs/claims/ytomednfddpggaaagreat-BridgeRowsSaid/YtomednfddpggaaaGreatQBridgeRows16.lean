/- How far one node is; and the law DijkAll, walked: how far all nodes are, with whatever counts, or why that is not told. -/
import Derived.Test.YtomednfddpggaaaGreatQBridgeRows14
import Derived.Test.YtomednfddpggaaaGreatQBridgeRows15
/- How far one node is; and the law DijkAll, walked: how far all nodes are, with whatever counts, or why that is not told. -/
namespace Go.Proofs.YtomednfddpggaaaGreat
open Go Go.RowKit
attribute [local go_sem] Oper.semAt_some
def OneI (w : World) (lo b6 b8 b9 t : Nat) (z8 z9 : Value) (p : List (Nat × Nat)) (Mi : Nat → Prop) (W : World) : Prop :=
  (∃ y : Later w, W = y.now) ∧ (Arr W b6 3 [.int .i64 (t : Int)] ∧ Arr W b8 38 [z8] ∧ Arr W b9 28 [z9]) ∧ (t ∉ p.map Prod.fst) ∧ (∀ k, Mi k → lo ≤ k ∧ k < W.heap.size) ∧ lo ≤ W.heap.size
theorem OneI.yields {w : World} {lo b6 b8 b9 t : Nat} {z8 z9 : Value} (h1 : b6 < lo) (h2 : b8 < lo) (h3 : b9 < lo) (hlo : w.heap.size ≤ lo) : Yields' (OneI w lo b6 b8 b9 t z8 z9) := by
  rintro p Mi W Mi' W' ⟨⟨y, rfl⟩, ⟨a1, a2, a3⟩, a4, a5, a6⟩ ht hM'
  have nb : ∀ k, k < lo → ¬ Mi k := fun k hk e => by have := (a5 _ e).1; omega
  refine ⟨⟨⟨W', ht.later y.grows (fun k hk => Nat.le_trans hlo (a5 k hk).1)⟩, rfl⟩, ⟨a1.touch ht (nb _ h1), a2.touch ht (nb _ h2), a3.touch ht (nb _ h3)⟩, a4, fun k hk => ?_, Nat.le_trans a6 ht.size⟩
  obtain ⟨h | h, h'⟩ := hM' k hk
  · exact ⟨(a5 k h).1, h'⟩
  · exact ⟨by omega, h'⟩
def OneX (w : World) (lo b6 b8 b9 t : Nat) (xs : List (Nat × Nat)) (c : Code) (p : List (Nat × Nat)) (Mi : Nat → Prop) (W : World) : Prop :=
  c = .ret ∧ ∃ f, (t, f) ∈ xs ∧ (∃ y : Later w, W = y.now) ∧ (Arr W b8 38 [.int .u64 (f : Int)] ∧ Arr W b9 28 [.int .i64 0]) ∧ (∀ k, Mi k → lo ≤ k ∧ k < W.heap.size) ∧ lo ≤ W.heap.size
theorem OneX.yields {w : World} {lo b6 b8 b9 t : Nat} {xs : List (Nat × Nat)} (h2 : b8 < lo) (h3 : b9 < lo) (hlo : w.heap.size ≤ lo) (c : Code) : Yields' (OneX w lo b6 b8 b9 t xs c) := by
  rintro p Mi W Mi' W' ⟨e, f, a0, ⟨y, rfl⟩, ⟨a2, a3⟩, a5, a6⟩ ht hM'
  have nb : ∀ k, k < lo → ¬ Mi k := fun k hk e => by have := (a5 _ e).1; omega
  refine ⟨e, f, a0, ⟨⟨W', ht.later y.grows (fun k hk => Nat.le_trans hlo (a5 k hk).1)⟩, rfl⟩, ⟨a2.touch ht (nb _ h2), a3.touch ht (nb _ h3)⟩, fun k hk => ?_, Nat.le_trans a6 ht.size⟩
  obtain ⟨h | h, h'⟩ := hM' k hk
  · exact ⟨(a5 k h).1, h'⟩
  · exact ⟨by omega, h'⟩
def FrameOne (b6 b8 b9 v far : Nat) (a' : Act) : Prop := ∃ u0 u1 u2 u3 u4 u5 u7 u10 u13 u14 u15 u16 u17 u18 u19 u20 u21 u22 u23 u24 u25 u26 u27 u28 u29 u30 u31 u32 u33 : Value, a' = { tmps := #[u0, u1, u2, u3, u4, u5, .pointer (some ⟨b6, 0, none⟩), u7, .pointer (some ⟨b8, 0, none⟩), .pointer (some ⟨b9, 0, none⟩), u10, .int .i64 (v : Int), .int .u64 (far : Int), u13, u14, u15, u16, u17, u18, u19, u20, u21, u22, u23, u24, u25, u26, u27, u28, u29, u30, u31, u32, u33], defers := [] }
def OneB (w : World) (lo b6 b8 b9 t : Nat) (z8 z9 : Value) (x : Nat × Nat) (a' : Act) (p : List (Nat × Nat)) (Mi : Nat → Prop) (W : World) : Prop := FrameOne b6 b8 b9 x.1 x.2 a' ∧ OneI w lo b6 b8 b9 t z8 z9 p Mi W
def OneP (w : World) (xs : List (Nat × Nat)) (t : Nat) (e : Ending) (w' : World) : Prop :=
  ((∃ f, (t, f) ∈ xs ∧ e = .returned (.tuple #[.int .u64 (f : Int), .int .i64 0])) ∨ (t ∉ xs.map Prod.fst ∧ e = .returned (.tuple #[.int .u64 0, .int .i64 9]))) ∧ Grows w w'
set_option maxRecDepth 40000 in
set_option maxHeartbeats 8000000 in
theorem djOne (N s t : Nat) (A : Option Addr) (c : Nat) (E : List Edg) (o : DOpt) (An Ae Aw : Option Addr) (cn ce cw : Nat) (xs : List (Nat × Nat)) (w : World) (h : Rd w A 3 E.length (esCells E)) (h2 : Rd w An 1 o.nn.length (o.nn.map (.int .i64))) (h3 : Rd w Ae 1 o.ne.length (o.ne.map (.int .i64))) (h4 : Rd w Aw 1 o.W.length (wv o.W))
    (hok : WalkOk N s E o) (hd : dcF N s E o.W = 0) (hxs : if (s : Int) ∈ o.nn then xs = [] else Trace (srchOf N E o) (reachS o.most (st0 N) s 0) xs) (ht : t < N) :
    Calls Tryz.prog 52 #[.agg #[.int .i64 (N : Int), .slice A E.length c], .int .i64 (s : Int), .int .i64 (t : Int), oVal o.back (.slice An o.nn.length cn) (.slice Ae o.ne.length ce) Aw o.W.length cw o.most] w (OneP w xs t) := by
  unfold oVal
  obtain ⟨r1, r2, r3, r4, r5⟩ := right_in hok.right
  have C1 := hide (fun (W : World) (g : Grows w W) => djCheck (N : Int) s A E.length c E o.back (.slice An o.nn.length cn) (.slice Ae o.ne.length ce) Aw o.W.length cw o.most o.W W (h.grows g) (h4.grows g) (by omega) (by have := hok.wts; omega))
  rw [hd] at C1
  unfold oVal at C1
  have C2 := hide (fun (W : World) => gNode (N : Int) (t : Int) (.slice A E.length c) W)
  have hb : nodeB (N : Int) (t : Int) = true := decide_eq_true ⟨by omega, by omega⟩
  rw [hb] at C2
  have C3 := hide (fun (W : World) => djWalk (.agg #[.int .i64 (N : Int), .slice A E.length c]) (.int .i64 (s : Int)) (.agg #[.bool o.back, .slice An o.nn.length cn, .slice Ae o.ne.length ce, .slice Aw o.W.length cw, .int .u64 (o.most : Int)]) (N : Int) (.slice A E.length c) rfl (s : Int) rfl _ _ _ _ _ rfl W)
  have HM := hide (And.intro h (And.intro h2 (And.intro h3 h4)))
  have HOK := hide hok
  have HXS := hide hxs
  clear h h2 h3 h4 hok hxs hd r1 r2 r3 r4 r5 hb
  refine calls_of_marks Tryz.func52 rfl ?_
  simp only [Tryz.ntmps52, List.size_toArray, List.length_cons, List.length_nil, Nat.reduceAdd, Nat.reduceSub, Array.replicate_succ, Array.replicate_zero, List.push_toArray, List.append_toArray, List.nil_append, List.cons_append]
  go_wp2_with fail
  refine (C1.out _ GG).mono ?_; rintro e w' ⟨rfl, hg⟩; obtain ⟨x1, rfl⟩ := hg.later; clear hg
  go_wp2_with fail
  refine (C2.out _).mono ?_; rintro e w' ⟨rfl, hg⟩; obtain ⟨x2, rfl⟩ := Grows.later2 hg; clear hg
  go_wp2_with fail
  refine (C3.out _).mono ?_; rintro e W0 ⟨b, rfl, hb, z1, z2, z3, hg⟩
  have hx2 := x2.size
  have hs5 : w.heap.size + 1 + 1 + 1 + 1 < b := by rw [← hb]; simp at hx2; omega
  have q6 : Arr W0 (w.heap.size + 1) 3 [.int .i64 (t : Int)] := Arr.grow ⟨by simp [heap_push, Array.getElem_push, Array.getElem?_push, eq_add2]⟩ (x2.grows.trans hg)
  have q8 : Arr W0 (w.heap.size + 1 + 1 + 1) 38 [.int .u64 0] := Arr.grow ⟨by simp [heap_push, Array.getElem_push, Array.getElem?_push, eq_add2]⟩ (x2.grows.trans hg)
  have q9 : Arr W0 (w.heap.size + 1 + 1 + 1 + 1) 28 [.int .i64 0] := Arr.grow ⟨by simp [heap_push, Array.getElem_push, Array.getElem?_push, eq_add2]⟩ (x2.grows.trans hg)
  have hgw : Grows w W0 := Grows.trans (by show Grows w x2.now; exact GG) hg
  have hW0 := z3.lt
  have hsz0 := hgw.size
  have g6 : w.heap.size ≤ w.heap.size + 1 := by omega
  have g8 : w.heap.size ≤ w.heap.size + 1 + 1 + 1 := by omega
  have g9 : w.heap.size ≤ w.heap.size + 1 + 1 + 1 + 1 := by omega
  have n89 : w.heap.size + 1 + 1 + 1 ≠ w.heap.size + 1 + 1 + 1 + 1 := by omega
  have l6 : w.heap.size + 1 < b := by omega
  have l8 : w.heap.size + 1 + 1 + 1 < b := by omega
  have l9 : w.heap.size + 1 + 1 + 1 + 1 < b := hs5
  clear hb hg C1 C2 C3 hx2 hs5
  generalize w.heap.size + 1 + 1 + 1 + 1 = b9 at *
  generalize w.heap.size + 1 + 1 + 1 = b8 at *
  generalize w.heap.size + 1 + 1 = b7 at *
  generalize w.heap.size + 1 = b6 at *
  have hwalk : WalkAt (fun k => k < w.heap.size ∨ (b ≤ k ∧ k ≤ b + 1 + 1)) W0 b (b + 1 + 1) (b + 1) N s E o := by
    obtain ⟨h1, h2, h3, h4⟩ := HM.out
    exact ⟨A, c, An, cn, Ae, ce, Aw, cw, z1, z3, z2, h1.grows hgw, h2.grows hgw, h3.grows hgw, h4.grows hgw, .inr ⟨by omega, by omega⟩, .inr ⟨by omega, by omega⟩, .inr ⟨by omega, by omega⟩, fun h p hp => .inl (h1.block_lt (by omega) h p hp), fun h p hp => .inl (h2.block_lt (by omega) h p hp), fun h p hp => .inl (h3.block_lt (by omega) h p hp), fun h p hp => .inl (h4.block_lt (by omega) h p hp)⟩
  have hBW : ∀ k, (k < w.heap.size ∨ (b ≤ k ∧ k ≤ b + 1 + 1)) → k < W0.heap.size := fun k hk => by rcases hk with hk | hk <;> omega
  have hGV := djWalk1 (fun k => k < w.heap.size ∨ (b ≤ k ∧ k ≤ b + 1 + 1)) (fun k => k < w.heap.size ∨ (b ≤ k ∧ k ≤ b + 1 + 1)) (fun _ => False) b (b + 1 + 1) (b + 1) N s E o xs W0 hwalk (fun k hk => .inl hk) (fun k hk => hk.elim) hBW HOK.out HXS.out
  have h0 : OneI w W0.heap.size b6 b8 b9 t (.int .u64 0) (.int .i64 0) [] (fun _ => False) W0 := ⟨⟨⟨W0, hgw⟩, rfl⟩, ⟨q6, q8, q9⟩, by simp, fun k hk => hk.elim, Nat.le_refl _⟩
  have hIy := OneI.yields (w := w) (lo := W0.heap.size) (b6 := b6) (b8 := b8) (b9 := b9) (t := t) (z8 := .int .u64 0) (z9 := .int .i64 0) (by omega) (by omega) (by omega) hsz0
  have hXy := OneX.yields (w := w) (lo := W0.heap.size) (b6 := b6) (b8 := b8) (b9 := b9) (t := t) (xs := xs) (by omega) (by omega) hsz0
  have HGV := hide hGV
  have H0 := hide h0
  clear hGV h0 hwalk q6 q8 q9 z1 z2 z3 HM HXS HOK
  go_wp2_with fail
  refine (wpIn_wide (n := 0)).1 ?_
  have hGV := HGV.out
  have h0 := H0.out
  clear HGV H0
  refine wp_rangeG (w0 := W0) (gf := 102) rfl (enters_of Tryz.func102 (by kernel_rfl) rfl) hGV (Keeps.refl _ _ _) hBW (fun k hk => hk.elim) (fun _ => rfl)
    (OneI w W0.heap.size b6 b8 b9 t (.int .u64 0) (.int .i64 0)) (OneX w W0.heap.size b6 b8 b9 t xs) hIy hXy h0 (OneB w W0.heap.size b6 b8 b9 t (.int .u64 0) (.int .i64 0)) ?hIb ?assign ?body ?done ?stop
  case hIb =>
    rintro x a' p Mi W1 Mi' W' ⟨hf, hI⟩ ht hM'
    exact ⟨hf, hIy p Mi W1 Mi' W' hI ht hM'⟩
  case assign =>
    intro l2 p x rest Mi W1 hsp hI
    have HI := hide hI
    clear hI
    unfold encD
    gi_wp2
    refine ⟨⟨?_, HI.out⟩, Keeps.refl _ _ _⟩
    unfold FrameOne
    (repeat apply Exists.intro)
    rfl
  case body =>
    rintro l2 p ⟨v, far⟩ rest Mi a' W1 hsp hl2 hMl hrec ⟨⟨u0, u1, u2, u3, u4, u5, u7, u10, u13, u14, u15, u16, u17, u18, u19, u20, u21, u22, u23, u24, u25, u26, u27, u28, u29, u30, u31, u32, u33, rfl⟩, ⟨⟨y, rfl⟩, ⟨q6, q8, q9⟩, hnt, hm, hlo⟩⟩
    have HMEM := hide (show (v, far) ∈ xs from by rw [hsp]; simp)
    have HMM := hide hm
    have HNT := hide hnt
    clear hsp hl2 hMl hrec hm h0 hIy hXy hGV hnt
    simp only
    have HKN : ∀ k, (k = b8 ∨ k = b9) → ¬ ((k < w.heap.size ∨ (b ≤ k ∧ k ≤ b + 1 + 1)) ∨ Mi k) := fun k hk e => by
      rcases e with (e | e) | e
      · rcases hk with rfl | rfl <;> omega
      · rcases hk with rfl | rfl <;> omega
      · have := (HMM.out _ e).1
        rcases hk with rfl | rfl <;> omega
    have HKN2 := hide HKN
    clear HKN
    by_cases hvt : v = t
    · subst hvt
      gi_wp2
      have e8 : Arr ((y.now.setCell ⟨b8, 0, none⟩ (.int .u64 (far : Int))).setCell ⟨b9, 0, none⟩ (.int .i64 0)) b8 38 [.int .u64 (far : Int)] := (q8.set 0 _).other (Ne.symm n89) _
      have e9 : Arr ((y.now.setCell ⟨b8, 0, none⟩ (.int .u64 (far : Int))).setCell ⟨b9, 0, none⟩ (.int .i64 0)) b9 28 [.int .i64 0] := (q9.other n89 _).set 0 _
      refine ⟨((Touch.refl _ _).set (.inl (HKN2.out _ (.inl rfl))) _).set (.inl (HKN2.out _ (.inr rfl))) _, rfl, far, HMEM.out, ⟨⟨_, (y.grows.set g8 _).set g9 _⟩, rfl⟩, ⟨e8, e9⟩, fun k hk => ?_, ?_⟩
      · rw [size_setCell, size_setCell]; exact HMM.out k hk
      · rw [size_setCell, size_setCell]; exact hlo
    · have hb1 : ((v : Int) == (t : Int)) = false := beq_eq_false_iff_ne.2 (by omega)
      have HVT := hide hvt
      clear hvt
      gi_wp2
      refine ⟨Keeps.refl _ _ _, ⟨y, rfl⟩, ⟨q6, q8, q9⟩, ?_, HMM.out, hlo⟩
      rw [List.map_append, List.mem_append]
      rintro (h | h)
      · exact HNT.out h
      · have h : t = v := by simpa using h
        exact HVT.out h.symm
  case done =>
    intro D Mi W1 hlD hMD hI hDW
    obtain ⟨⟨y, rfl⟩, ⟨q6, q8, q9⟩, hnt, hm, hlo⟩ := hI
    have HMM := hide hm
    have HNT := hide hnt
    have HDW := hide hDW
    clear hm hDW hIy hXy h0 hGV hnt
    gi_wp2
    go_wp2_with fail
    have e8 : Arr ((y.now.setCell ⟨b8, 0, none⟩ (.int .u64 0)).setCell ⟨b9, 0, none⟩ (.int .i64 9)) b8 38 [.int .u64 0] := (q8.set 0 _).other (Ne.symm n89) _
    have e9 : Arr ((y.now.setCell ⟨b8, 0, none⟩ (.int .u64 0)).setCell ⟨b9, 0, none⟩ (.int .i64 9)) b9 28 [.int .i64 9] := (q9.other n89 _).set 0 _
    have hDl : w.heap.size ≤ D ∧ b8 ≠ D ∧ b9 ≠ D := by omega
    have hyg : Grows w ((y.now.setCell ⟨b8, 0, none⟩ (.int .u64 0)).setCell ⟨b9, 0, none⟩ (.int .i64 9)) := (y.grows.set g8 _).set g9 _
    have hD3 : ((y.now.setCell ⟨b8, 0, none⟩ (.int .u64 0)).setCell ⟨b9, 0, none⟩ (.int .i64 9)).heap[D]? = some (.deferred (some [])) := by
      rw [heap_setCell _ _ _ _ (Ne.symm hDl.2.2), heap_setCell _ _ _ _ (Ne.symm hDl.2.1)]
      exact HDW.out
    refine marks_ret [D] rfl ((Marks.nil _).cons hD3 (by simp)) (fun W' htt => ?_)
    have k8 := (e8.touch htt (fun e => hDl.2.1 (List.mem_singleton.1 e))).cell 0
    have k9 := (e9.touch htt (fun e => hDl.2.2 (List.mem_singleton.1 e))).cell 0
    refine ⟨.tuple #[.int .u64 0, .int .i64 9], by simp (maxDischargeDepth := 6) [results, Tryz.results52, go_sem, k8, k9], .inr ⟨HNT.out, rfl⟩, htt.later hyg (fun k hk => by rw [List.mem_singleton.1 hk]; exact hDl.1)⟩
  case stop =>
    intro D c' p i rest Mi W1 hlD hMD _ hX hDW
    obtain ⟨rfl, f, hf, ⟨y, rfl⟩, ⟨q8, q9⟩, hm, hlo⟩ := hX
    have HF := hide hf
    have HDW := hide hDW
    clear hf hDW hIy hXy h0 hGV hm
    gi_wp2
    have hDl : w.heap.size ≤ D ∧ b8 ≠ D ∧ b9 ≠ D := by omega
    refine marks_ret [D] rfl ((Marks.nil _).cons HDW.out (by simp)) (fun W' htt => ?_)
    have k8 := (q8.touch htt (fun e => hDl.2.1 (List.mem_singleton.1 e))).cell 0
    have k9 := (q9.touch htt (fun e => hDl.2.2 (List.mem_singleton.1 e))).cell 0
    refine ⟨.tuple #[.int .u64 (f : Int), .int .i64 0], by simp (maxDischargeDepth := 6) [results, Tryz.results52, go_sem, k8, k9], .inl ⟨f, HF.out, rfl⟩, htt.later y.grows (fun k hk => by rw [List.mem_singleton.1 hk]; exact hDl.1)⟩
section
theorem nodup_fst {x : Srch} {s mw : Nat} {xs : List (Nat × Nat)} (h : Far x s mw xs) : (xs.map Prod.fst).Nodup := h.nodup
theorem walk_ref {N s : Nat} {E : List Edg} {o : DOpt} (hok : WalkOk N s E o) (hw : ∀ i, i < E.length → 1 ≤ gn (wtF N E o.W) i ∧ gn (wtF N E o.W) i ≤ 17592186044416) :
    ∃ xs, (if (s : Int) ∈ o.nn then xs = [] else Trace (srchOf N E o) (reachS o.most (st0 N) s 0) xs) ∧ (∀ p, p ∈ xs → p.1 < N) ∧ (xs.map Prod.fst).Nodup ∧ refL (srchOf N E o) s = outL N xs ∧ (∀ v f, (v, f) ∈ xs → f < farV) := by
  obtain ⟨r1, r2, r3, r4, r5⟩ := right_in hok.right
  rw [Int.toNat_natCast] at r4
  have hb : N * 17592186044416 < farV := by
    have : N * 17592186044416 ≤ 4096 * 17592186044416 := Nat.mul_le_mul_right _ (by omega)
    unfold farV; omega
  by_cases hnn : (s : Int) ∈ o.nn
  · refine ⟨[], by rw [if_pos hnn], fun p hp => (by cases hp), by simp, ?_, fun v f h => by cases h⟩
    unfold refL
    rw [if_pos (show (srchOf N E o).nn s = true from decide_eq_true hnn)]
    rfl
  · obtain ⟨xs, h1, h2, h3⟩ := walk_is hok hw (Nat.le_refl _) hnn
    have hs := hok.srch
    have hin : SrchIn (srchOf N E o) 17592186044416 := ⟨fun i hi => by
      have h1 := hs.ends.f i hi
      have h2 := hs.ends.t i hi
      unfold toE
      split
      · exact h1.1
      · exact h2.1, fun i hi => (hw i hi).1, fun i hi => (hw i hi).2⟩
    obtain ⟨ys, h4, h5⟩ := trace_whole (x := freeX (srchOf N E o)) (s := s) (mw := 17592186044416) ⟨hin.ends, hin.low, hin.high⟩ hs.nodes hok.node (by omega)
    refine ⟨xs, h1, h3, h2.nodup, refL_is h2 h5 hin hb hok.node (decide_eq_false hnn) (fun i hi => ?_), fun v f hf => by have h9 := (h2.way v f hf).2.2.2; have h10 : f ≤ N * 17592186044416 := h9; omega⟩
    have h1 := hs.ends.f i hi
    have h2 := hs.ends.t i hi
    unfold nN
    split
    · exact h2.1
    · exact h1.1
set_option maxRecDepth 20000 in
set_option maxHeartbeats 8000000 in
theorem djOneNo (N s t : Int) (A : Option Addr) (n c : Nat) (E : List Edg) (back : Bool) (nn ne : Value) (Aw : Option Addr) (nw cw most : Nat) (W : List Nat) (w : World) (h : Rd w A 3 n (esCells E)) (hW : Rd w Aw 1 nw (wv W)) (hn : n ≤ 1000000) (hnw : nw ≤ 1000000) (hd : dcF N s E W ≠ 0) :
    Calls Tryz.prog 52 #[.agg #[.int .i64 N, .slice A n c], .int .i64 s, .int .i64 t, oVal back nn ne Aw nw cw most] w fun e w' => e = .returned (.tuple #[.int .u64 0, .int .i64 (dcF N s E W)]) ∧ Grows w w' := by
  unfold oVal
  have C1 := hide (fun (W1 : World) (g : Grows w W1) => djCheck N s A n c E back nn ne Aw nw cw most W W1 (h.grows g) (hW.grows g) hn hnw)
  unfold oVal at C1
  have hr2 : (dcF N s E W == 0) = false := beq_eq_false_iff_ne.2 hd
  clear h hW
  generalize dcF N s E W = r at *
  go_enter Tryz.func52, Tryz.ntmps52
  go_wp2_with (go_at_call 67; refine (C1.out _ GG).mono ?_; rintro e w' ⟨rfl, hg⟩; obtain ⟨x1, rfl⟩ := hg.later; clear hg)
  refine bodyPost_ret (v := .tuple #[.int .u64 0, .int .i64 r]) (by simp (maxDischargeDepth := 6) [results, Tryz.results52, go_sem, *]) rfl ?_
  exact ⟨rfl, GG⟩
set_option maxRecDepth 20000 in
set_option maxHeartbeats 8000000 in
theorem djOneOut (N s t : Int) (A : Option Addr) (n c : Nat) (E : List Edg) (back : Bool) (nn ne : Value) (Aw : Option Addr) (nw cw most : Nat) (W : List Nat) (w : World) (h : Rd w A 3 n (esCells E)) (hW : Rd w Aw 1 nw (wv W)) (hn : n ≤ 1000000) (hnw : nw ≤ 1000000) (hd : dcF N s E W = 0) (ht : ¬ (0 ≤ t ∧ t < N)) :
    Calls Tryz.prog 52 #[.agg #[.int .i64 N, .slice A n c], .int .i64 s, .int .i64 t, oVal back nn ne Aw nw cw most] w fun e w' => e = .returned (.tuple #[.int .u64 0, .int .i64 7]) ∧ Grows w w' := by
  unfold oVal
  have C1 := hide (fun (W1 : World) (g : Grows w W1) => djCheck N s A n c E back nn ne Aw nw cw most W W1 (h.grows g) (hW.grows g) hn hnw)
  unfold oVal at C1
  rw [hd] at C1
  have C2 := hide (fun (W : World) => gNode N t (.slice A n c) W)
  have hb : nodeB N t = false := decide_eq_false ht
  rw [hb] at C2
  clear h hW hd hb ht
  go_enter Tryz.func52, Tryz.ntmps52
  go_wp2_with fail
  refine (C1.out _ GG).mono ?_; rintro e w' ⟨rfl, hg⟩; obtain ⟨x1, rfl⟩ := hg.later; clear hg
  go_wp2_with fail
  refine (C2.out _).mono ?_; rintro e w' ⟨rfl, hg⟩; obtain ⟨x2, rfl⟩ := Grows.later2 hg; clear hg
  go_wp2_with fail
  refine bodyPost_ret (v := .tuple #[.int .u64 0, .int .i64 7]) (by simp (maxDischargeDepth := 6) [results, Tryz.results52, go_sem, *]) rfl ?_
  exact ⟨rfl, GG⟩
theorem gLex_propGd {P : Program} {w0 : World} {ops : Array Oper} {Q : Act → Env → Prop} {a : Act} {G : Env} {o : Oper} {rest : List Oper} {t : Tmp} (hw : Region.wanted o (yielded ops a.tmps) = true) (hp : plainB ops o G = true) (hd : o.dst = some t) (hlt : t < a.tmps.size)
    (p : Pr) (hl : Lasts p) (hr : ∀ x : Later w0, runsTo P (fun u w' => Grows x.now w' ∧ p u w') ((execOp a.eval o).run P x.now))
    (h : gLex P ops w0 Q rest a (G.upd t p)) : gLex P ops w0 Q (o :: rest) a G := by
  obtain ⟨h1, h2, h3, h4⟩ := plain_spec hp
  refine ⟨.inr p, ⟨h1, h2, .inl ⟨hw, hl, ⟨t, hd, hlt⟩, fun w hw a' ha' => ?_⟩⟩, ?_⟩
  · rw [exec_same h4 h3 ha']
    exact hr ⟨w, hw⟩
  · rw [hd]
    exact h
end
end Go.Proofs.YtomednfddpggaaaGreat

/- Searches without options but edges that do not count (plain). -/
namespace Go.Proofs.YtomednfddpggaaaGreat
open Go Go.RowKit
abbrev noO (ne : List Int) : DOpt := ⟨false, [], ne, [], 0⟩
theorem noO_ok {N s : Nat} {E : List Edg} {ne : List Int} (hr : rightF N E = 0) (hs : s < N) (hn : ne.length ≤ 1000000) : WalkOk N s E (noO ne) :=
  ⟨hr, hs, .inl rfl, by show 0 < _; omega, by show ([] : List Int).length ≤ _; simp, hn⟩
theorem noO_w {N : Nat} {E : List Edg} (hr : rightF N E = 0) (i : Nat) (hi : i < E.length) : 1 ≤ gn (wtF N E []) i ∧ gn (wtF N E []) i ≤ 17592186044416 := by
  obtain ⟨r1, r2, r3, r4, r5⟩ := right_in hr
  have := r5 i hi
  have e : gn (wtF N E []) i = (ge E i).w.toNat := by
    unfold wtF
    rw [if_neg (by omega), if_neg (by simp), if_neg (by simp)]
    simp [gn, eW, ge, hi]
  rw [e]
  omega
theorem dc_none {N s : Nat} {E : List Edg} (hr : rightF N E = 0) (hs : s < N) : dcF N s E [] = 0 := by
  unfold dcF
  rw [if_neg (by omega), if_neg (by simp [nodeB]; omega), if_neg (by simp)]
  rfl
end Go.Proofs.YtomednfddpggaaaGreat

/- Plain law: the way that is followed from a node on, by the least edge that leads nearer. -/
namespace Go.Proofs.YtomednfddpggaaaGreat
open Go Go.RowKit
def nearB (x : Srch) (d : List Nat) (v i : Nat) : Bool := decide (gn d (tN x.E i) < farV) && decide (gn d (tN x.E i) + gn x.W i = gn d v) && !x.ne i
inductive Fol (x : Srch) (d : List Nat) (t : Nat) : Nat → List Nat → Prop
  | here : Fol x d t t []
  | step {v i : Nat} {l : List Nat} : v ≠ t → i < x.E.length → fN x.E i = v → nearB x d v i = true → (∀ j, j < i → fN x.E j = v → nearB x d v j = false) → Fol x d t (tN x.E i) l → Fol x d t v (i :: l)
structure Near (x : Srch) (d : List Nat) (t : Nat) : Prop where
  ends : ∀ i, i < x.E.length → fN x.E i < x.N ∧ tN x.E i < x.N
  low : ∀ i, i < x.E.length → 1 ≤ gn x.W i
  zero : gn d t = 0
  by_ : ∀ v, v < x.N → v ≠ t → gn d v < farV → ∃ i, i < x.E.length ∧ fN x.E i = v ∧ nearB x d v i = true
  edge : ∀ i, i < x.E.length → cntE x i = true → gn d (tN x.E i) < farV → gn d (fN x.E i) ≤ gn d (tN x.E i) + gn x.W i
  clean : ∀ v, v < x.N → gn d v < farV → x.nn v = false
theorem least_of {p : Nat → Bool} : ∀ {n : Nat}, (∃ i, i < n ∧ p i = true) → ∃ i, i < n ∧ p i = true ∧ ∀ j, j < i → p j = false := by
  intro n
  induction n with
  | zero => rintro ⟨i, hi, _⟩; omega
  | succ n ih =>
    rintro ⟨i, hi, hp⟩
    by_cases h : ∃ j, j < n ∧ p j = true
    · obtain ⟨j, h1, h2, h3⟩ := ih h
      exact ⟨j, by omega, h2, h3⟩
    · have hn : ∀ j, j < n → p j = false := fun j hj => by
        cases hq : p j with
        | false => rfl
        | true => exact absurd ⟨j, hj, hq⟩ h
      have e : i = n := by
        rcases Nat.lt_or_ge i n with h1 | h1
        · rw [hn i h1] at hp; cases hp
        · omega
      subst e
      exact ⟨i, hi, hp, hn⟩
theorem nearB_yes {x : Srch} {d : List Nat} {v i : Nat} (h : nearB x d v i = true) : gn d (tN x.E i) < farV ∧ gn d (tN x.E i) + gn x.W i = gn d v ∧ x.ne i = false := by
  unfold nearB at h
  simp only [Bool.and_eq_true, decide_eq_true_eq, Bool.not_eq_true'] at h
  exact ⟨h.1.1, h.1.2, h.2⟩
theorem Near.fol {x : Srch} {d : List Nat} {t : Nat} (h : Near x d t) : ∀ (n v : Nat), gn d v ≤ n → v < x.N → gn d v < farV → ∃ l, Fol x d t v l := by
  intro n
  induction n with
  | zero =>
    intro v hn hv hf
    by_cases e : v = t
    · subst e; exact ⟨[], .here⟩
    · obtain ⟨i, hi, hfi, hb⟩ := h.by_ v hv e hf
      have h1 := (nearB_yes hb).2.1
      have h2 := h.low i hi
      omega
  | succ n ih =>
    intro v hn hv hf
    by_cases e : v = t
    · subst e; exact ⟨[], .here⟩
    · obtain ⟨i0, hi0, hfi0, hb0⟩ := h.by_ v hv e hf
      obtain ⟨i, hi, hp, hl⟩ := least_of (p := fun i => decide (fN x.E i = v) && nearB x d v i) (n := x.E.length) ⟨i0, hi0, by rw [hb0, decide_eq_true hfi0]; rfl⟩
      simp only [Bool.and_eq_true, decide_eq_true_eq] at hp
      have h1 := nearB_yes hp.2
      have h2 := h.low i hi
      obtain ⟨l, hfol⟩ := ih (tN x.E i) (by omega) (h.ends i hi).2 h1.1
      refine ⟨i :: l, .step e hi hp.1 hp.2 (fun j hj hfj => ?_) hfol⟩
      have := hl j hj
      rw [decide_eq_true hfj, Bool.true_and] at this
      exact this
theorem Fol.one {x : Srch} {d : List Nat} {t v : Nat} {l k : List Nat} (h : Fol x d t v l) (h2 : Fol x d t v k) : l = k := by
  induction h generalizing k with
  | here =>
    cases h2 with
    | here => rfl
    | step hne => exact absurd rfl hne
  | @step v i l hne hi hfi hb hl hfol ih =>
    cases h2 with
    | here => exact absurd rfl hne
    | @step _ j l2 _ hj hfj hb2 hl2 hfol2 =>
      have e : i = j := by
        rcases Nat.lt_trichotomy i j with h | h | h
        · rw [hl2 i h hfi] at hb; cases hb
        · exact h
        · rw [hl j h hfj] at hb2; cases hb2
      subst e
      rw [ih hfol2]
theorem Fol.down {x : Srch} {d : List Nat} {t v : Nat} {l : List Nat} (hn : Near x d t) (h : Fol x d t v l) (hv : v < x.N) : (v :: l.map (tN x.E)).Pairwise (fun a b => gn d b < gn d a) ∧ ∀ u, u ∈ v :: l.map (tN x.E) → u < x.N := by
  induction h with
  | here => exact ⟨by simp, fun u hu => by rw [List.mem_singleton.1 hu]; exact hv⟩
  | @step v i l hne hi hfi hb hl hfol ih =>
    obtain ⟨h1, h2⟩ := ih (hn.ends i hi).2
    have hlt : gn d (tN x.E i) < gn d v := by
      have h3 := (nearB_yes hb).2.1
      have h4 := hn.low i hi
      omega
    refine ⟨?_, fun u hu => ?_⟩
    · rw [List.map_cons]
      refine List.Pairwise.cons (fun u hu => ?_) h1
      rcases List.mem_cons.1 hu with e | e
      · rw [e]; exact hlt
      · exact Nat.lt_trans ((List.pairwise_cons.1 h1).1 u e) hlt
    · rw [List.map_cons] at hu
      rcases List.mem_cons.1 hu with e | e
      · rw [e]; exact hv
      · exact h2 u e
theorem Fol.nodup {x : Srch} {d : List Nat} {t v : Nat} {l : List Nat} (hn : Near x d t) (h : Fol x d t v l) (hv : v < x.N) : (v :: l.map (tN x.E)).Nodup :=
  (h.down hn hv).1.imp fun {a b} hab e => by rw [e] at hab; exact Nat.lt_irrefl _ hab
theorem Fol.short {x : Srch} {d : List Nat} {t v : Nat} {l : List Nat} (hn : Near x d t) (h : Fol x d t v l) (hv : v < x.N) : l.length < x.N := by
  have h1 := List.Nodup.length_le_of_subset (h.nodup hn hv) (l₂ := List.range x.N) (fun u hu => List.mem_range.2 ((h.down hn hv).2 u hu))
  simp at h1
  omega
theorem Fol.edges {x : Srch} {d : List Nat} {t v : Nat} {l : List Nat} (h : Fol x d t v l) : ∀ i ∈ l, i < x.E.length := by
  induction h with
  | here => intro i hi; cases hi
  | step hne hi hfi hb hl hfol ih =>
    intro j hj
    rcases List.mem_cons.1 hj with e | e
    · rw [e]; exact hi
    · exact ih j e
theorem Fol.next {x : Srch} {d : List Nat} {t v : Nat} {l : List Nat} (h : Fol x d t v l) (hne : v ≠ t) : ∃ i l', l = i :: l' ∧ i < x.E.length ∧ fN x.E i = v ∧ nearB x d v i = true ∧ (∀ j, j < i → fN x.E j = v → nearB x d v j = false) ∧ Fol x d t (tN x.E i) l' := by
  cases h with
  | here => exact absurd rfl hne
  | step h1 h2 h3 h4 h5 h6 => exact ⟨_, _, rfl, h2, h3, h4, h5, h6⟩
theorem Fol.end_ {x : Srch} {d : List Nat} {t : Nat} {l : List Nat} (h : Fol x d t t l) : l = [] := h.one .here
theorem Near.pos {x : Srch} {d : List Nat} {t v : Nat} (h : Near x d t) (hv : v < x.N) (hne : v ≠ t) : 0 < gn d v := by
  rcases Nat.lt_or_ge (gn d v) farV with hf | hf
  · obtain ⟨i, hi, _, hb⟩ := h.by_ v hv hne hf
    have h1 := (nearB_yes hb).2.1
    have h2 := h.low i hi
    omega
  · unfold farV at hf; omega
theorem Near.iff {x : Srch} {d : List Nat} {t v : Nat} (h : Near x d t) (hv : v < x.N) : gn d v = 0 ↔ v = t := by
  constructor
  · intro e
    apply Classical.byContradiction
    intro hne
    have := h.pos hv hne
    omega
  · intro e; rw [e]; exact h.zero
theorem Near.same {x : Srch} {d : List Nat} {t v i : Nat} (h : Near x d t) (hi : i < x.E.length) (hfi : fN x.E i = v) (hv : gn d v < farV) :
    (cnt2 x i && decide (gn d (tN x.E i) < farV) && decide (gn x.W i + gn d (tN x.E i) = gn d v)) = nearB x d v i := by
  unfold nearB cnt2
  have hfN := (h.ends i hi).1
  have htN := (h.ends i hi).2
  have c1 := h.clean (fN x.E i) hfN (by rw [hfi]; exact hv)
  rw [c1]
  by_cases hf : gn d (tN x.E i) < farV
  · rw [h.clean _ htN hf, decide_eq_true hf, Nat.add_comm]
    cases x.ne i <;> simp
  · rw [decide_eq_false hf]
    simp
theorem Near.of {x : Srch} {t mw : Nat} {xs : List (Nat × Nat)} (h : Far x t mw xs) (hx : SrchIn x mw) (hb : x.N * mw < farV) (hm : x.most = 0) (hk : x.back = true) (ends : ∀ i, i < x.E.length → fN x.E i < x.N ∧ tN x.E i < x.N) (ht : t < x.N) (hnt : x.nn t = false) : Near x (outL x.N xs) t := by
  have e1 : ∀ i, nN x.E x.back i = tN x.E i := fun i => by rw [hk]; rfl
  have e2 : ∀ i, toE x i = fN x.E i := fun i => by unfold toE; rw [hk]; rfl
  refine ⟨ends, hx.low, h.begin_ ht, fun v hv hvs hf => ?_, fun i hi hc hf => ?_, fun v hv hf => ?_⟩
  · rcases outL_cases h hb hv with ⟨h1, _⟩ | ⟨h1, _⟩
    · obtain ⟨f, hfe⟩ : ∃ f, gn (outL x.N xs) v = f := ⟨_, rfl⟩
      rw [hfe] at h1 hf
      have hw := (h.way _ _ h1).2.1
      cases hw with
      | here => exact absurd rfl hvs
      | @step f' i hw hi hc =>
        obtain ⟨g, hg, hle⟩ := h.all _ _ hw (fun h => by omega)
        have hwg := (h.way _ _ hg).2.1
        obtain ⟨g2, hg2, hle2⟩ := h.all _ _ (hwg.step hi hc) (fun h => by omega)
        have e := h.one hg2 h1
        have e3 := outL_at h.nodup (v := nN x.E x.back i) (by rw [e1]; exact (ends i hi).2) hg
        refine ⟨i, hi, (e2 i).symm, ?_⟩
        rw [e1] at e3
        unfold nearB
        unfold cntE at hc
        simp only [Bool.and_eq_true, Bool.not_eq_true'] at hc
        rw [e3, hc.1, hfe, decide_eq_true (show g < farV by omega), decide_eq_true (show g + gn x.W i = f' + gn x.W i by omega)]
        rfl
    · omega
  · have := h.edge hb hm (i := i) (by rw [e1]; exact (ends i hi).2) (by rw [e2]; exact (ends i hi).1) hi hc (by rw [e1]; exact hf)
    rw [e1, e2] at this
    exact this
  · rcases outL_cases h hb hv with ⟨h1, _⟩ | ⟨h1, _⟩
    · exact (h.way _ _ h1).2.1.clean hnt
    · omega
end Go.Proofs.YtomednfddpggaaaGreat

/- What the shortest way is, by the search turned round; and that there is but one answer. -/
namespace Go.Proofs.YtomednfddpggaaaGreat
open Go Go.RowKit
def backO (o : DOpt) : DOpt := ⟨true, o.nn, o.ne, o.W, 0⟩
structure PathOk (NN sN tN : Nat) (E : List Edg) (o : DOpt) (xs : List (Nat × Nat)) : Prop where
  ok : WalkOk NN tN E (backO o)
  dc : dcF NN tN E o.W = 0
  dcs : dcF NN sN E o.W = 0
  node : sN < NN
  tr : if (tN : Int) ∈ o.nn then xs = [] else Trace (srchOf NN E (backO o)) (reachS 0 (st0 NN) tN 0) xs
  lt : ∀ p, p ∈ xs → p.1 < NN
  ref : refL (srchOf NN E (backO o)) tN = outL NN xs
  wb : ∀ i, i < E.length → 1 ≤ gn (wtF NN E o.W) i ∧ gn (wtF NN E o.W) i ≤ 17592186044416
  far : (tN : Int) ∉ o.nn → Far (srchOf NN E (backO o)) tN 17592186044416 xs
inductive IsPath (E : List Edg) (o : DOpt) (N s t : Int) : List Nat → Nat → Int → Prop
  | bad : dcF N s E o.W ≠ 0 → IsPath E o N s t [] 0 (dcF N s E o.W)
  | noNode : dcF N s E o.W = 0 → ¬ (0 ≤ t ∧ t < N) → IsPath E o N s t [] 0 7
  | noPath (NN sN tN : Nat) (xs : List (Nat × Nat)) : N = NN → s = sN → t = tN → PathOk NN sN tN E o xs → gn (outL NN xs) sN = farV → IsPath E o N s t [] 0 9
  | way (NN sN tN : Nat) (xs : List (Nat × Nat)) (l : List Nat) : N = NN → s = sN → t = tN → PathOk NN sN tN E o xs → gn (outL NN xs) sN < farV → Near (srchOf NN E (backO o)) (outL NN xs) tN → Fol (srchOf NN E (backO o)) (outL NN xs) tN sN l →
      IsPath E o N s t l (gn (outL NN xs) sN) 0
theorem dc_node {N s t : Int} {E : List Edg} {W : List Nat} (h : dcF N s E W = 0) (ht : 0 ≤ t ∧ t < N) : dcF N t E W = 0 := by
  unfold dcF at h ⊢
  split at h
  · cases h
  split at h
  · cases h
  rename_i h1 h2
  rw [if_neg h1, if_neg (by unfold nodeB; simp; omega)]
  exact h
theorem path_walk {NN sN tN : Nat} {E : List Edg} {o : DOpt} (hd : dcF NN sN E o.W = 0) (ht : tN < NN) (hnn : o.nn.length ≤ 1000000) (hne : o.ne.length ≤ 1000000) : ∃ xs, PathOk NN sN tN E o xs := by
  obtain ⟨rr, hs0, hsN, hwt, hwb⟩ := dc_ok hd
  obtain ⟨r1, r2, r3, r4, r5⟩ := right_in rr
  rw [Int.toNat_natCast] at r4
  have hok : WalkOk NN tN E (backO o) := ⟨rr, ht, hwt, by show (0 : Nat) < _; omega, hnn, hne⟩
  have hdt : dcF NN tN E o.W = 0 := dc_node hd ⟨by omega, by omega⟩
  have hb : NN * 17592186044416 < farV := by
    have : NN * 17592186044416 ≤ 4096 * 17592186044416 := Nat.mul_le_mul_right _ (by omega)
    unfold farV; omega
  by_cases hn : (tN : Int) ∈ o.nn
  · refine ⟨[], hok, hdt, hd, by omega, by rw [if_pos hn], fun p hp => (by cases hp), ?_, hwb, fun h => absurd hn h⟩
    unfold refL
    rw [if_pos (show (srchOf NN E (backO o)).nn tN = true from decide_eq_true hn)]
    rfl
  · obtain ⟨xs, h1, h2, h3⟩ := walk_is hok hwb (Nat.le_refl _) hn
    have hs := hok.srch
    have hin : SrchIn (srchOf NN E (backO o)) 17592186044416 := ⟨fun i hi => by
      have h1 := hs.ends.f i hi
      have h2 := hs.ends.t i hi
      unfold toE
      split
      · exact h1.1
      · exact h2.1, fun i hi => (hwb i hi).1, fun i hi => (hwb i hi).2⟩
    obtain ⟨ys, h4, h5⟩ := trace_whole (x := freeX (srchOf NN E (backO o))) (s := tN) (mw := 17592186044416) ⟨hin.ends, hin.low, hin.high⟩ hs.nodes hok.node (by omega)
    refine ⟨xs, hok, hdt, hd, by omega, h1, h3, refL_is h2 h5 hin hb hok.node (decide_eq_false hn) (fun i hi => ?_), hwb, fun _ => h2⟩
    have h1 := hs.ends.f i hi
    have h2 := hs.ends.t i hi
    unfold nN
    split
    · exact h2.1
    · exact h1.1
theorem PathOk.bound {NN sN tN : Nat} {E : List Edg} {o : DOpt} {xs : List (Nat × Nat)} (h : PathOk NN sN tN E o xs) : NN * 17592186044416 < farV ∧ NN ≤ 4096 ∧ E.length ≤ 16384 := by
  obtain ⟨r1, r2, r3, r4, r5⟩ := right_in h.ok.right
  have : NN * 17592186044416 ≤ 4096 * 17592186044416 := Nat.mul_le_mul_right _ (by omega)
  unfold farV
  exact ⟨by omega, by omega, r3⟩
theorem PathOk.near {NN sN tN : Nat} {E : List Edg} {o : DOpt} {xs : List (Nat × Nat)} (h : PathOk NN sN tN E o xs) (hn : (tN : Int) ∉ o.nn) : Near (srchOf NN E (backO o)) (outL NN xs) tN := by
  have hs := h.ok.srch
  have hin : SrchIn (srchOf NN E (backO o)) 17592186044416 := ⟨fun i hi => by
    have h1 := hs.ends.f i hi
    have h2 := hs.ends.t i hi
    unfold toE
    split
    · exact h1.1
    · exact h2.1, fun i hi => (h.wb i hi).1, fun i hi => (h.wb i hi).2⟩
  exact Near.of (x := srchOf NN E (backO o)) (h.far hn) hin h.bound.1 rfl rfl (fun i hi => ⟨(hs.ends.f i hi).1, (hs.ends.t i hi).1⟩) h.ok.node (decide_eq_false hn)
theorem isPath_any (E : List Edg) (o : DOpt) (N s t : Int) (hnn : o.nn.length ≤ 1000000) (hne : o.ne.length ≤ 1000000) : ∃ l f r, IsPath E o N s t l f r := by
  by_cases hd : dcF N s E o.W = 0
  · by_cases ht : 0 ≤ t ∧ t < N
    · obtain ⟨rr, hs0, hsN, _, _⟩ := dc_ok hd
      obtain ⟨NN, rfl⟩ : ∃ NN : Nat, N = (NN : Int) := ⟨N.toNat, by omega⟩
      obtain ⟨sN, rfl⟩ : ∃ sN : Nat, s = (sN : Int) := ⟨s.toNat, by omega⟩
      obtain ⟨tN, rfl⟩ : ∃ tN : Nat, t = (tN : Int) := ⟨t.toNat, by omega⟩
      obtain ⟨xs, hx⟩ := path_walk (tN := tN) (o := o) hd (by omega) hnn hne
      by_cases hn : (tN : Int) ∈ o.nn
      · have hxs : xs = [] := by have := hx.tr; rwa [if_pos hn] at this
        exact ⟨_, _, _, .noPath NN sN tN xs rfl rfl rfl hx (by rw [hxs]; exact outL_no hx.node (by simp))⟩
      · rcases outL_cases (x := srchOf NN E (backO o)) (hx.far hn) hx.bound.1 hx.node with ⟨_, h1⟩ | ⟨h1, _⟩
        · obtain ⟨l, hl⟩ := (hx.near hn).fol _ sN (Nat.le_refl _) hx.node h1
          exact ⟨_, _, _, .way NN sN tN xs l rfl rfl rfl hx h1 (hx.near hn) hl⟩
        · exact ⟨_, _, _, .noPath NN sN tN xs rfl rfl rfl hx h1⟩
    · exact ⟨_, _, _, .noNode hd ht⟩
  · exact ⟨_, _, _, .bad hd⟩
theorem IsPath.short {E : List Edg} {o : DOpt} {N s t r : Int} {l : List Nat} {f : Nat} (h : IsPath E o N s t l f r) : l.length ≤ 4096 ∧ f < farV := by
  cases h with
  | bad => exact ⟨Nat.zero_le _, by unfold farV; omega⟩
  | noNode => exact ⟨Nat.zero_le _, by unfold farV; omega⟩
  | noPath => exact ⟨Nat.zero_le _, by unfold farV; omega⟩
  | way NN sN tN xs l hN hs ht hok hf hn hl =>
    have h1 := hl.short hn hok.node
    have h2 := hok.bound.2.1
    have h3 : l.length < NN := h1
    exact ⟨by omega, hf⟩
end Go.Proofs.YtomednfddpggaaaGreat

/- Contracts: is a number in a row (of slices); does an edge lead nearer. -/
namespace Go.Proofs.YtomednfddpggaaaGreat
open Go Go.RowKit
attribute [local go_sem] Oper.semAt_some
set_option maxHeartbeats 1000000 in
theorem slIndex (A : Option Addr) (n c : Nat) (l : List Int) (v : Int) (w : World) (h : Rd w A 1 n (l.map (.int .i64))) (hn : n ≤ 1000000) :
    Calls Tryz.prog 151 #[.slice A n c, .int .i64 v] w fun e w' => (∃ k : Int, e = .returned (.int .i64 k) ∧ -1 ≤ k ∧ k ≤ n ∧ (0 ≤ k ↔ v ∈ l)) ∧ w = w' := by
  have HL := hide (show l.length = n by simpa using h.len)
  have HR := hide h
  clear h
  go_enter Tryz.func151, Tryz.ntmps151
  go_wp2
  go_loop [8] (fun i => ∃ k : Nat, k ≤ n ∧ i = .int .i64 (k : Int) ∧ ∀ j, j < k → gi l j ≠ v) (fun i => n - (intOf i).toNat)
  case atStart => exact ⟨0, by omega, by go_num, fun j h1 => by omega⟩
  case round =>
    obtain ⟨q, hq, rfl, hall⟩ := hrel
    have HA := hide hall
    clear hall
    by_cases hend : n ≤ q
    · go_wp2
      go_ret
      refine ⟨⟨-1, rfl, by omega, by omega, ?_⟩, rfl⟩
      refine ⟨fun h => by omega, fun hm => ?_⟩
      obtain ⟨j, hj, e⟩ := mem_gi hm
      exact absurd e (HA.out j (by have := HL.out; omega))
    · obtain ⟨b, off, rfl, hc⟩ := HR.out.ints (by omega)
      have hc1 := hc q (by omega)
      clear hc
      by_cases hv : v = gi l q
      · have HV := hide (show v ∈ l from hv ▸ gi_mem (by have := HL.out; omega))
        have hd : (v == gi l q) = true := by simpa using hv
        clear hv
        go_wp2
        go_ret
        refine ⟨⟨q, rfl, by omega, by omega, ?_⟩, rfl⟩
        exact ⟨fun _ => HV.out, fun _ => by omega⟩
      · have HV := hide (fun e => hv (Eq.symm e))
        have hd : (v == gi l q) = false := by simpa using hv
        clear hv
        go_wp2
        go_round
        case measure => simp [intOf]; omega
        case rel =>
          refine ⟨q + 1, by omega, by go_num, fun j h1 => ?_⟩
          by_cases hj : j = q
          · rw [hj]; exact HV.out
          · exact HA.out j (by omega)
theorem slContains (A : Option Addr) (n c : Nat) (l : List Int) (v : Int) (w : World) (h : Rd w A 1 n (l.map (.int .i64))) (hn : n ≤ 1000000) :
    Calls Tryz.prog 129 #[.slice A n c, .int .i64 v] w fun e w' => e = .returned (.bool (decide (v ∈ l))) ∧ w = w' := by
  have HC := hide (slIndex A n c l v w h hn)
  clear h
  go_enter Tryz.func129, Tryz.ntmps129
  go_wp2_with (go_at_call 151; refine HC.out.mono ?_; rintro e w' ⟨⟨k, rfl, h1, h2, h3⟩, rfl⟩)
  go_ret
  exact ⟨ret_bool (by simp), rfl⟩
set_option maxRecDepth 20000 in
set_option maxHeartbeats 4000000 in
theorem caNear (NN : Nat) (E : List Edg) (o : DOpt) (d : List Nat) (v i b6 b7 b8 b9 : Nat) (Af Aw Ae : Option Addr) (cf cw ce : Nat) (z0 z1 z3 z4 : Value) (w : World)
    (hE : InN NN E) (hi : i < E.length) (hiE : E.length ≤ 1000000) (hv : v < NN) (hN : NN ≤ 1000000) (hdl : d.length = NN) (hwl : (wtF NN E o.W).length = E.length) (hw2 : gn (wtF NN E o.W) i ≤ 17592186044416) (hne : o.ne.length ≤ 1000000)
    (h6 : Arr w b6 3 [.int .i64 (v : Int)]) (h7 : Arr w b7 31 [.slice Af NN cf]) (h8 : Arr w b8 31 [.slice Aw E.length cw]) (h9 : Arr w b9 71 [z0, z1, .slice Ae o.ne.length ce, z3, z4])
    (rf : Rd w Af 1 NN (wv d)) (rw_ : Rd w Aw 1 E.length (wv (wtF NN E o.W))) (re : Rd w Ae 1 o.ne.length (o.ne.map (.int .i64))) :
    Calls Tryz.prog 128 #[.int .i64 (i : Int), eVal (ge E i), .pointer (some ⟨b7, 0, none⟩), .pointer (some ⟨b8, 0, none⟩), .pointer (some ⟨b6, 0, none⟩), .pointer (some ⟨b9, 0, none⟩)] w fun e w' => e = .returned (.bool (nearB (srchOf NN E o) d v i)) ∧ Grows w w' := by
  have C1 := hide (fun (W1 : World) (g : Grows w W1) => slContains Ae o.ne.length ce o.ne (i : Int) W1 (re.grows g) hne)
  have ht := hE.t i hi
  unfold eVal
  rw [ht.2]
  have hne2 : (srchOf NN E o).ne i = decide ((i : Int) ∈ o.ne) := rfl
  have hu : tN E i < NN := ht.1
  obtain ⟨bf, of, rfl, hcf⟩ := rf.at_ (by omega)
  obtain ⟨bw, ow, rfl, hcw⟩ := rw_.at_ (by omega)
  have k1 : Holds w ⟨bf, of + tN E i, none⟩ (.int .u64 (gn d (tN E i) : Int)) := ⟨hcf _ _ (wv_at (by omega))⟩
  have k2 : Holds w ⟨bf, of + v, none⟩ (.int .u64 (gn d v : Int)) := ⟨hcf _ _ (wv_at (by omega))⟩
  have k3 : Holds w ⟨bw, ow + i, none⟩ (.int .u64 (gn (wtF NN E o.W) i : Int)) := ⟨hcw _ _ (wv_at (by omega))⟩
  have hB : nearB (srchOf NN E o) d v i = (decide (gn d (tN E i) < farV) && decide (gn d (tN E i) + gn (wtF NN E o.W) i = gn d v) && !decide ((i : Int) ∈ o.ne)) := rfl
  rw [hB]
  clear hcf hcw rf rw_ re hE ht hne2 hB hwl hdl
  generalize decide ((i : Int) ∈ o.ne) = q at *
  generalize gn (wtF NN E o.W) i = wi at *
  generalize tN E i = u at *
  generalize gn d u = du at *
  generalize gn d v = dv at *
  unfold farV
  by_cases h1 : du < 4611686018427387904
  · have hb1 : decide ((du : Int) < 4611686018427387904) = true := decide_eq_true (by omega)
    by_cases h2 : du + wi = dv
    · have hb2 : ((du : Int) + (wi : Int) == (dv : Int)) = true := by simpa using (by omega : (du : Int) + (wi : Int) = (dv : Int))
      rw [decide_eq_true h1, decide_eq_true h2]
      have HX := hide h2
      clear h2
      go_enter Tryz.func128, Tryz.ntmps128
      go_wp2_with fail
      ((first | refine wp_region_gen2 (by kernel_rfl) (by kernel_rfl) ?_ | refine wp_region_gen (by kernel_rfl) (by kernel_rfl) ?_); (repeat' (first | (refine gLex_val0 rfl (by kernel_rfl) (fun K hK => ?_); (go_simp; (try (simp only [↓IntWalk.iteOmega]; try go_simp)); (try simp (disch := omega) only [IntWalk.i64_in]); (try simp (disch := omega) only [IntWalk.u64_in]); first | (refine hK _ ?_; clear hK K) | (apply Exists.intro; refine ⟨fun x => ?_, hK _ ?_⟩; (first | (go_at_call 129; exact calls_same (C1.out _ GG))); clear hK K))) | (refine gLex_undef rfl rfl rfl (by kernel_rfl) (fun K hK => ?_); go_simp; refine hK _ ?_; clear hK K) | (refine gLex_ask rfl rfl rfl ?_; first | (apply gAsk_yes; kernel_rfl; intro K hK; (go_simp; (try (simp only [↓IntWalk.iteOmega]; try go_simp)); (try simp (disch := omega) only [IntWalk.i64_in]); (try simp (disch := omega) only [IntWalk.u64_in]); first | (refine hK _ ?_; clear hK K) | (apply Exists.intro; refine ⟨fun x => ?_, hK _ ?_⟩; (first | (go_at_call 129; exact calls_same (C1.out _ GG))); clear hK K))) | ((first | apply gAsk_no1 | apply gAsk_no2); kernel_rfl; intro K hK; simp [go_sem]; refine hK _ ?_; clear hK K) | (apply gAsk_part; kernel_rfl; all_goals (intro h K hK; (try simp only [Bool.not_true] at h); (try simp only [Bool.not_false] at h); (try simp only [decide_eq_true_eq] at h); (try simp only [decide_eq_false_iff_not] at h); first | (exfalso; first | contradiction | omega) | (go_simp; (try (simp only [↓IntWalk.iteOmega]; try go_simp)); (try simp (disch := omega) only [IntWalk.i64_in]); (try simp (disch := omega) only [IntWalk.u64_in]); first | (refine hK _ ?_; clear hK K) | (apply Exists.intro; refine ⟨fun x => ?_, hK _ ?_⟩; (first | (go_at_call 129; exact calls_same (C1.out _ GG))); clear hK K))))))); all_goals ((apply gLex_end); intro y))
      go_wp2_with fail
      go_ret
      exact ⟨rfl, GG⟩
    · have hb2 : ((du : Int) + (wi : Int) == (dv : Int)) = false := beq_eq_false_iff_ne.2 (by omega)
      rw [decide_eq_false h2, Bool.and_false, Bool.false_and]
      clear h2
      go_enter Tryz.func128, Tryz.ntmps128
      go_wp2_with fail
      ((first | refine wp_region_gen2 (by kernel_rfl) (by kernel_rfl) ?_ | refine wp_region_gen (by kernel_rfl) (by kernel_rfl) ?_); (repeat' (first | (refine gLex_val0 rfl (by kernel_rfl) (fun K hK => ?_); (go_simp; (try (simp only [↓IntWalk.iteOmega]; try go_simp)); (try simp (disch := omega) only [IntWalk.i64_in]); (try simp (disch := omega) only [IntWalk.u64_in]); first | (refine hK _ ?_; clear hK K) | (apply Exists.intro; refine ⟨fun x => ?_, hK _ ?_⟩; (first | fail); clear hK K))) | (refine gLex_undef rfl rfl rfl (by kernel_rfl) (fun K hK => ?_); go_simp; refine hK _ ?_; clear hK K) | (refine gLex_ask rfl rfl rfl ?_; first | (apply gAsk_yes; kernel_rfl; intro K hK; (go_simp; (try (simp only [↓IntWalk.iteOmega]; try go_simp)); (try simp (disch := omega) only [IntWalk.i64_in]); (try simp (disch := omega) only [IntWalk.u64_in]); first | (refine hK _ ?_; clear hK K) | (apply Exists.intro; refine ⟨fun x => ?_, hK _ ?_⟩; (first | fail); clear hK K))) | ((first | apply gAsk_no1 | apply gAsk_no2); kernel_rfl; intro K hK; simp [go_sem]; refine hK _ ?_; clear hK K) | (apply gAsk_part; kernel_rfl; all_goals (intro h K hK; (try simp only [Bool.not_true] at h); (try simp only [Bool.not_false] at h); (try simp only [decide_eq_true_eq] at h); (try simp only [decide_eq_false_iff_not] at h); first | (exfalso; first | contradiction | omega) | (go_simp; (try (simp only [↓IntWalk.iteOmega]; try go_simp)); (try simp (disch := omega) only [IntWalk.i64_in]); (try simp (disch := omega) only [IntWalk.u64_in]); first | (refine hK _ ?_; clear hK K) | (apply Exists.intro; refine ⟨fun x => ?_, hK _ ?_⟩; (first | fail); clear hK K))))))); all_goals ((apply gLex_end); intro y))
      go_wp2_with fail
      go_ret
      exact ⟨rfl, GG⟩
  · have hb1 : decide ((du : Int) < 4611686018427387904) = false := decide_eq_false (by omega)
    rw [decide_eq_false h1, Bool.false_and, Bool.false_and]
    clear h1
    go_enter Tryz.func128, Tryz.ntmps128
    go_wp2_with fail
    ((first | refine wp_region_gen2 (by kernel_rfl) (by kernel_rfl) ?_ | refine wp_region_gen (by kernel_rfl) (by kernel_rfl) ?_); (repeat' (first | (refine gLex_val0 rfl (by kernel_rfl) (fun K hK => ?_); (go_simp; (try (simp only [↓IntWalk.iteOmega]; try go_simp)); (try simp (disch := omega) only [IntWalk.i64_in]); (try simp (disch := omega) only [IntWalk.u64_in]); first | (refine hK _ ?_; clear hK K) | (apply Exists.intro; refine ⟨fun x => ?_, hK _ ?_⟩; (first | fail); clear hK K))) | (refine gLex_undef rfl rfl rfl (by kernel_rfl) (fun K hK => ?_); go_simp; refine hK _ ?_; clear hK K) | (refine gLex_ask rfl rfl rfl ?_; first | (apply gAsk_yes; kernel_rfl; intro K hK; (go_simp; (try (simp only [↓IntWalk.iteOmega]; try go_simp)); (try simp (disch := omega) only [IntWalk.i64_in]); (try simp (disch := omega) only [IntWalk.u64_in]); first | (refine hK _ ?_; clear hK K) | (apply Exists.intro; refine ⟨fun x => ?_, hK _ ?_⟩; (first | fail); clear hK K))) | ((first | apply gAsk_no1 | apply gAsk_no2); kernel_rfl; intro K hK; simp [go_sem]; refine hK _ ?_; clear hK K) | (apply gAsk_part; kernel_rfl; all_goals (intro h K hK; (try simp only [Bool.not_true] at h); (try simp only [Bool.not_false] at h); (try simp only [decide_eq_true_eq] at h); (try simp only [decide_eq_false_iff_not] at h); first | (exfalso; first | contradiction | omega) | (go_simp; (try (simp only [↓IntWalk.iteOmega]; try go_simp)); (try simp (disch := omega) only [IntWalk.i64_in]); (try simp (disch := omega) only [IntWalk.u64_in]); first | (refine hK _ ?_; clear hK K) | (apply Exists.intro; refine ⟨fun x => ?_, hK _ ?_⟩; (first | fail); clear hK K))))))); all_goals ((apply gLex_end); intro y))
    go_wp2_with fail
    go_ret
    exact ⟨rfl, GG⟩
end Go.Proofs.YtomednfddpggaaaGreat
