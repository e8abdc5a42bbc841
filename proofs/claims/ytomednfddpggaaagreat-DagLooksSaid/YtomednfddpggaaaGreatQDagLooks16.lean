/- How far one node is; and the law DijkAll, walked: how far all nodes are, with whatever counts, or why that is not told. -/
import Derived.Test.YtomednfddpggaaaGreatQDagLooks14
import Derived.Test.YtomednfddpggaaaGreatQDagLooks15
import Derived.Test.YtomednfddpggaaaGreatQDagLooks07
import Derived.Test.YtomednfddpggaaaGreatQDagLooks08
import Derived.Test.YtomednfddpggaaaGreatQDagLooks04
/- How far one node is; and the law DijkAll, walked: how far all nodes are, with whatever counts, or why that is not told. -/
namespace Go.Proofs.YtomednfddpggaaaGreat
open Go Go.RowKit
attribute [local go_sem] Oper.semAt_some
def OneI (w : World) (lo b6 b8 b9 t : Nat) (z8 z9 : Value) (p : List (Nat × Nat)) (Mi : Nat → Prop) (W : World) : Prop :=
  (∃ y : Later w, W = y.now) ∧ (Arr W b6 3 [.int .i64 (t : Int)] ∧ Arr W b8 38 [z8] ∧ Arr W b9 28 [z9]) ∧ (t ∉ p.map Prod.fst) ∧ (∀ k, Mi k → lo ≤ k ∧ k < W.heap.size) ∧ lo ≤ W.heap.size
theorem OneI.yields {w : World} {lo b6 b8 b9 t : Nat} {z8 z9 : Value} (h1 : b6 < lo) (h2 : b8 < lo) (h3 : b9 < lo) (hlo : w.heap.size ≤ lo) : Yields' (OneI w lo b6 b8 b9 t z8 z9) := by
  rintro p Mi W Mi' W' ⟨⟨y, rfl⟩, ⟨a1, a2, a3⟩, a4, a5, a6⟩ ht hM'
  have nb : ∀ k, k < lo → ¬ Mi k := fun k hk e => by have := (a5 _ e).1; omega
  refine ⟨⟨⟨W', ht.later y.grows (fun k hk => Nat.le_trans hlo (a5 k hk).1)⟩, rfl⟩, ⟨a1.touch ht (nb _ h1), a2.touch ht (nb _ h2), a3.touch ht (nb _ h3)⟩, a4, fun k hk => ?_, Nat.le_trans a6 ht.size⟩
  obtain ⟨h | h, h'⟩ := hM' k hk
  · exact ⟨(a5 k h).1, h'⟩
  · exact ⟨by omega, h'⟩
def OneX (w : World) (lo b6 b8 b9 t : Nat) (xs : List (Nat × Nat)) (c : Code) (p : List (Nat × Nat)) (Mi : Nat → Prop) (W : World) : Prop :=
  c = .ret ∧ ∃ f, (t, f) ∈ xs ∧ (∃ y : Later w, W = y.now) ∧ (Arr W b8 38 [.int .u64 (f : Int)] ∧ Arr W b9 28 [.int .i64 0]) ∧ (∀ k, Mi k → lo ≤ k ∧ k < W.heap.size) ∧ lo ≤ W.heap.size
theorem OneX.yields {w : World} {lo b6 b8 b9 t : Nat} {xs : List (Nat × Nat)} (h2 : b8 < lo) (h3 : b9 < lo) (hlo : w.heap.size ≤ lo) (c : Code) : Yields' (OneX w lo b6 b8 b9 t xs c) := by
  rintro p Mi W Mi' W' ⟨e, f, a0, ⟨y, rfl⟩, ⟨a2, a3⟩, a5, a6⟩ ht hM'
  have nb : ∀ k, k < lo → ¬ Mi k := fun k hk e => by have := (a5 _ e).1; omega
  refine ⟨e, f, a0, ⟨⟨W', ht.later y.grows (fun k hk => Nat.le_trans hlo (a5 k hk).1)⟩, rfl⟩, ⟨a2.touch ht (nb _ h2), a3.touch ht (nb _ h3)⟩, fun k hk => ?_, Nat.le_trans a6 ht.size⟩
  obtain ⟨h | h, h'⟩ := hM' k hk
  · exact ⟨(a5 k h).1, h'⟩
  · exact ⟨by omega, h'⟩
def FrameOne (b6 b8 b9 v far : Nat) (a' : Act) : Prop := ∃ u0 u1 u2 u3 u4 u5 u7 u10 u13 u14 u15 u16 u17 u18 u19 u20 u21 u22 u23 u24 u25 u26 u27 u28 u29 u30 u31 u32 u33 : Value, a' = { tmps := #[u0, u1, u2, u3, u4, u5, .pointer (some ⟨b6, 0, none⟩), u7, .pointer (some ⟨b8, 0, none⟩), .pointer (some ⟨b9, 0, none⟩), u10, .int .i64 (v : Int), .int .u64 (far : Int), u13, u14, u15, u16, u17, u18, u19, u20, u21, u22, u23, u24, u25, u26, u27, u28, u29, u30, u31, u32, u33], defers := [] }
def OneB (w : World) (lo b6 b8 b9 t : Nat) (z8 z9 : Value) (x : Nat × Nat) (a' : Act) (p : List (Nat × Nat)) (Mi : Nat → Prop) (W : World) : Prop := FrameOne b6 b8 b9 x.1 x.2 a' ∧ OneI w lo b6 b8 b9 t z8 z9 p Mi W
def OneP (w : World) (xs : List (Nat × Nat)) (t : Nat) (e : Ending) (w' : World) : Prop :=
  ((∃ f, (t, f) ∈ xs ∧ e = .returned (.tuple #[.int .u64 (f : Int), .int .i64 0])) ∨ (t ∉ xs.map Prod.fst ∧ e = .returned (.tuple #[.int .u64 0, .int .i64 9]))) ∧ Grows w w'
set_option maxRecDepth 40000 in
set_option maxHeartbeats 8000000 in
theorem djOne (N s t : Nat) (A : Option Addr) (c : Nat) (E : List Edg) (o : DOpt) (An Ae Aw : Option Addr) (cn ce cw : Nat) (xs : List (Nat × Nat)) (w : World) (h : Rd w A 3 E.length (esCells E)) (h2 : Rd w An 1 o.nn.length (o.nn.map (.int .i64))) (h3 : Rd w Ae 1 o.ne.length (o.ne.map (.int .i64))) (h4 : Rd w Aw 1 o.W.length (wv o.W))
    (hok : WalkOk N s E o) (hd : dcF N s E o.W = 0) (hxs : if (s : Int) ∈ o.nn then xs = [] else Trace (srchOf N E o) (reachS o.most (st0 N) s 0) xs) (ht : t < N) :
    Calls Tryz.prog 52 #[.agg #[.int .i64 (N : Int), .slice A E.length c], .int .i64 (s : Int), .int .i64 (t : Int), oVal o.back (.slice An o.nn.length cn) (.slice Ae o.ne.length ce) Aw o.W.length cw o.most] w (OneP w xs t) := by
  unfold oVal
  obtain ⟨r1, r2, r3, r4, r5⟩ := right_in hok.right
  have C1 := hide (fun (W : World) (g : Grows w W) => djCheck (N : Int) s A E.length c E o.back (.slice An o.nn.length cn) (.slice Ae o.ne.length ce) Aw o.W.length cw o.most o.W W (h.grows g) (h4.grows g) (by omega) (by have := hok.wts; omega))
  rw [hd] at C1
  unfold oVal at C1
  have C2 := hide (fun (W : World) => gNode (N : Int) (t : Int) (.slice A E.length c) W)
  have hb : nodeB (N : Int) (t : Int) = true := decide_eq_true ⟨by omega, by omega⟩
  rw [hb] at C2
  have C3 := hide (fun (W : World) => djWalk (.agg #[.int .i64 (N : Int), .slice A E.length c]) (.int .i64 (s : Int)) (.agg #[.bool o.back, .slice An o.nn.length cn, .slice Ae o.ne.length ce, .slice Aw o.W.length cw, .int .u64 (o.most : Int)]) (N : Int) (.slice A E.length c) rfl (s : Int) rfl _ _ _ _ _ rfl W)
  have HM := hide (And.intro h (And.intro h2 (And.intro h3 h4)))
  have HOK := hide hok
  have HXS := hide hxs
  clear h h2 h3 h4 hok hxs hd r1 r2 r3 r4 r5 hb
  refine calls_of_marks Tryz.func52 rfl ?_
  simp only [Tryz.ntmps52, List.size_toArray, List.length_cons, List.length_nil, Nat.reduceAdd, Nat.reduceSub, Array.replicate_succ, Array.replicate_zero, List.push_toArray, List.append_toArray, List.nil_append, List.cons_append]
  go_wp2_with fail
  refine (C1.out _ GG).mono ?_; rintro e w' ⟨rfl, hg⟩; obtain ⟨x1, rfl⟩ := hg.later; clear hg
  go_wp2_with fail
  refine (C2.out _).mono ?_; rintro e w' ⟨rfl, hg⟩; obtain ⟨x2, rfl⟩ := Grows.later2 hg; clear hg
  go_wp2_with fail
  refine (C3.out _).mono ?_; rintro e W0 ⟨b, rfl, hb, z1, z2, z3, hg⟩
  have hx2 := x2.size
  have hs5 : w.heap.size + 1 + 1 + 1 + 1 < b := by rw [← hb]; simp at hx2; omega
  have q6 : Arr W0 (w.heap.size + 1) 3 [.int .i64 (t : Int)] := Arr.grow ⟨by simp [heap_push, Array.getElem_push, Array.getElem?_push, eq_add2]⟩ (x2.grows.trans hg)
  have q8 : Arr W0 (w.heap.size + 1 + 1 + 1) 38 [.int .u64 0] := Arr.grow ⟨by simp [heap_push, Array.getElem_push, Array.getElem?_push, eq_add2]⟩ (x2.grows.trans hg)
  have q9 : Arr W0 (w.heap.size + 1 + 1 + 1 + 1) 28 [.int .i64 0] := Arr.grow ⟨by simp [heap_push, Array.getElem_push, Array.getElem?_push, eq_add2]⟩ (x2.grows.trans hg)
  have hgw : Grows w W0 := Grows.trans (by show Grows w x2.now; exact GG) hg
  have hW0 := z3.lt
  have hsz0 := hgw.size
  have g6 : w.heap.size ≤ w.heap.size + 1 := by omega
  have g8 : w.heap.size ≤ w.heap.size + 1 + 1 + 1 := by omega
  have g9 : w.heap.size ≤ w.heap.size + 1 + 1 + 1 + 1 := by omega
  have n89 : w.heap.size + 1 + 1 + 1 ≠ w.heap.size + 1 + 1 + 1 + 1 := by omega
  have l6 : w.heap.size + 1 < b := by omega
  have l8 : w.heap.size + 1 + 1 + 1 < b := by omega
  have l9 : w.heap.size + 1 + 1 + 1 + 1 < b := hs5
  clear hb hg C1 C2 C3 hx2 hs5
  generalize w.heap.size + 1 + 1 + 1 + 1 = b9 at *
  generalize w.heap.size + 1 + 1 + 1 = b8 at *
  generalize w.heap.size + 1 + 1 = b7 at *
  generalize w.heap.size + 1 = b6 at *
  have hwalk : WalkAt (fun k => k < w.heap.size ∨ (b ≤ k ∧ k ≤ b + 1 + 1)) W0 b (b + 1 + 1) (b + 1) N s E o := by
    obtain ⟨h1, h2, h3, h4⟩ := HM.out
    exact ⟨A, c, An, cn, Ae, ce, Aw, cw, z1, z3, z2, h1.grows hgw, h2.grows hgw, h3.grows hgw, h4.grows hgw, .inr ⟨by omega, by omega⟩, .inr ⟨by omega, by omega⟩, .inr ⟨by omega, by omega⟩, fun h p hp => .inl (h1.block_lt (by omega) h p hp), fun h p hp => .inl (h2.block_lt (by omega) h p hp), fun h p hp => .inl (h3.block_lt (by omega) h p hp), fun h p hp => .inl (h4.block_lt (by omega) h p hp)⟩
  have hBW : ∀ k, (k < w.heap.size ∨ (b ≤ k ∧ k ≤ b + 1 + 1)) → k < W0.heap.size := fun k hk => by rcases hk with hk | hk <;> omega
  have hGV := djWalk1 (fun k => k < w.heap.size ∨ (b ≤ k ∧ k ≤ b + 1 + 1)) (fun k => k < w.heap.size ∨ (b ≤ k ∧ k ≤ b + 1 + 1)) (fun _ => False) b (b + 1 + 1) (b + 1) N s E o xs W0 hwalk (fun k hk => .inl hk) (fun k hk => hk.elim) hBW HOK.out HXS.out
  have h0 : OneI w W0.heap.size b6 b8 b9 t (.int .u64 0) (.int .i64 0) [] (fun _ => False) W0 := ⟨⟨⟨W0, hgw⟩, rfl⟩, ⟨q6, q8, q9⟩, by simp, fun k hk => hk.elim, Nat.le_refl _⟩
  have hIy := OneI.yields (w := w) (lo := W0.heap.size) (b6 := b6) (b8 := b8) (b9 := b9) (t := t) (z8 := .int .u64 0) (z9 := .int .i64 0) (by omega) (by omega) (by omega) hsz0
  have hXy := OneX.yields (w := w) (lo := W0.heap.size) (b6 := b6) (b8 := b8) (b9 := b9) (t := t) (xs := xs) (by omega) (by omega) hsz0
  have HGV := hide hGV
  have H0 := hide h0
  clear hGV h0 hwalk q6 q8 q9 z1 z2 z3 HM HXS HOK
  go_wp2_with fail
  refine (wpIn_wide (n := 0)).1 ?_
  have hGV := HGV.out
  have h0 := H0.out
  clear HGV H0
  refine wp_rangeG (w0 := W0) (gf := 102) rfl (enters_of Tryz.func102 (by kernel_rfl) rfl) hGV (Keeps.refl _ _ _) hBW (fun k hk => hk.elim) (fun _ => rfl)
    (OneI w W0.heap.size b6 b8 b9 t (.int .u64 0) (.int .i64 0)) (OneX w W0.heap.size b6 b8 b9 t xs) hIy hXy h0 (OneB w W0.heap.size b6 b8 b9 t (.int .u64 0) (.int .i64 0)) ?hIb ?assign ?body ?done ?stop
  case hIb =>
    rintro x a' p Mi W1 Mi' W' ⟨hf, hI⟩ ht hM'
    exact ⟨hf, hIy p Mi W1 Mi' W' hI ht hM'⟩
  case assign =>
    intro l2 p x rest Mi W1 hsp hI
    have HI := hide hI
    clear hI
    unfold encD
    gi_wp2
    refine ⟨⟨?_, HI.out⟩, Keeps.refl _ _ _⟩
    unfold FrameOne
    (repeat apply Exists.intro)
    rfl
  case body =>
    rintro l2 p ⟨v, far⟩ rest Mi a' W1 hsp hl2 hMl hrec ⟨⟨u0, u1, u2, u3, u4, u5, u7, u10, u13, u14, u15, u16, u17, u18, u19, u20, u21, u22, u23, u24, u25, u26, u27, u28, u29, u30, u31, u32, u33, rfl⟩, ⟨⟨y, rfl⟩, ⟨q6, q8, q9⟩, hnt, hm, hlo⟩⟩
    have HMEM := hide (show (v, far) ∈ xs from by rw [hsp]; simp)
    have HMM := hide hm
    have HNT := hide hnt
    clear hsp hl2 hMl hrec hm h0 hIy hXy hGV hnt
    simp only
    have HKN : ∀ k, (k = b8 ∨ k = b9) → ¬ ((k < w.heap.size ∨ (b ≤ k ∧ k ≤ b + 1 + 1)) ∨ Mi k) := fun k hk e => by
      rcases e with (e | e) | e
      · rcases hk with rfl | rfl <;> omega
      · rcases hk with rfl | rfl <;> omega
      · have := (HMM.out _ e).1
        rcases hk with rfl | rfl <;> omega
    have HKN2 := hide HKN
    clear HKN
    by_cases hvt : v = t
    · subst hvt
      gi_wp2
      have e8 : Arr ((y.now.setCell ⟨b8, 0, none⟩ (.int .u64 (far : Int))).setCell ⟨b9, 0, none⟩ (.int .i64 0)) b8 38 [.int .u64 (far : Int)] := (q8.set 0 _).other (Ne.symm n89) _
      have e9 : Arr ((y.now.setCell ⟨b8, 0, none⟩ (.int .u64 (far : Int))).setCell ⟨b9, 0, none⟩ (.int .i64 0)) b9 28 [.int .i64 0] := (q9.other n89 _).set 0 _
      refine ⟨((Touch.refl _ _).set (.inl (HKN2.out _ (.inl rfl))) _).set (.inl (HKN2.out _ (.inr rfl))) _, rfl, far, HMEM.out, ⟨⟨_, (y.grows.set g8 _).set g9 _⟩, rfl⟩, ⟨e8, e9⟩, fun k hk => ?_, ?_⟩
      · rw [size_setCell, size_setCell]; exact HMM.out k hk
      · rw [size_setCell, size_setCell]; exact hlo
    · have hb1 : ((v : Int) == (t : Int)) = false := beq_eq_false_iff_ne.2 (by omega)
      have HVT := hide hvt
      clear hvt
      gi_wp2
      refine ⟨Keeps.refl _ _ _, ⟨y, rfl⟩, ⟨q6, q8, q9⟩, ?_, HMM.out, hlo⟩
      rw [List.map_append, List.mem_append]
      rintro (h | h)
      · exact HNT.out h
      · have h : t = v := by simpa using h
        exact HVT.out h.symm
  case done =>
    intro D Mi W1 hlD hMD hI hDW
    obtain ⟨⟨y, rfl⟩, ⟨q6, q8, q9⟩, hnt, hm, hlo⟩ := hI
    have HMM := hide hm
    have HNT := hide hnt
    have HDW := hide hDW
    clear hm hDW hIy hXy h0 hGV hnt
    gi_wp2
    go_wp2_with fail
    have e8 : Arr ((y.now.setCell ⟨b8, 0, none⟩ (.int .u64 0)).setCell ⟨b9, 0, none⟩ (.int .i64 9)) b8 38 [.int .u64 0] := (q8.set 0 _).other (Ne.symm n89) _
    have e9 : Arr ((y.now.setCell ⟨b8, 0, none⟩ (.int .u64 0)).setCell ⟨b9, 0, none⟩ (.int .i64 9)) b9 28 [.int .i64 9] := (q9.other n89 _).set 0 _
    have hDl : w.heap.size ≤ D ∧ b8 ≠ D ∧ b9 ≠ D := by omega
    have hyg : Grows w ((y.now.setCell ⟨b8, 0, none⟩ (.int .u64 0)).setCell ⟨b9, 0, none⟩ (.int .i64 9)) := (y.grows.set g8 _).set g9 _
    have hD3 : ((y.now.setCell ⟨b8, 0, none⟩ (.int .u64 0)).setCell ⟨b9, 0, none⟩ (.int .i64 9)).heap[D]? = some (.deferred (some [])) := by
      rw [heap_setCell _ _ _ _ (Ne.symm hDl.2.2), heap_setCell _ _ _ _ (Ne.symm hDl.2.1)]
      exact HDW.out
    refine marks_ret [D] rfl ((Marks.nil _).cons hD3 (by simp)) (fun W' htt => ?_)
    have k8 := (e8.touch htt (fun e => hDl.2.1 (List.mem_singleton.1 e))).cell 0
    have k9 := (e9.touch htt (fun e => hDl.2.2 (List.mem_singleton.1 e))).cell 0
    refine ⟨.tuple #[.int .u64 0, .int .i64 9], by simp (maxDischargeDepth := 6) [results, Tryz.results52, go_sem, k8, k9], .inr ⟨HNT.out, rfl⟩, htt.later hyg (fun k hk => by rw [List.mem_singleton.1 hk]; exact hDl.1)⟩
  case stop =>
    intro D c' p i rest Mi W1 hlD hMD _ hX hDW
    obtain ⟨rfl, f, hf, ⟨y, rfl⟩, ⟨q8, q9⟩, hm, hlo⟩ := hX
    have HF := hide hf
    have HDW := hide hDW
    clear hf hDW hIy hXy h0 hGV hm
    gi_wp2
    have hDl : w.heap.size ≤ D ∧ b8 ≠ D ∧ b9 ≠ D := by omega
    refine marks_ret [D] rfl ((Marks.nil _).cons HDW.out (by simp)) (fun W' htt => ?_)
    have k8 := (q8.touch htt (fun e => hDl.2.1 (List.mem_singleton.1 e))).cell 0
    have k9 := (q9.touch htt (fun e => hDl.2.2 (List.mem_singleton.1 e))).cell 0
    refine ⟨.tuple #[.int .u64 (f : Int), .int .i64 0], by simp (maxDischargeDepth := 6) [results, Tryz.results52, go_sem, k8, k9], .inl ⟨f, HF.out, rfl⟩, htt.later y.grows (fun k hk => by rw [List.mem_singleton.1 hk]; exact hDl.1)⟩
section
theorem nodup_fst {x : Srch} {s mw : Nat} {xs : List (Nat × Nat)} (h : Far x s mw xs) : (xs.map Prod.fst).Nodup := h.nodup
theorem walk_ref {N s : Nat} {E : List Edg} {o : DOpt} (hok : WalkOk N s E o) (hw : ∀ i, i < E.length → 1 ≤ gn (wtF N E o.W) i ∧ gn (wtF N E o.W) i ≤ 17592186044416) :
    ∃ xs, (if (s : Int) ∈ o.nn then xs = [] else Trace (srchOf N E o) (reachS o.most (st0 N) s 0) xs) ∧ (∀ p, p ∈ xs → p.1 < N) ∧ (xs.map Prod.fst).Nodup ∧ refL (srchOf N E o) s = outL N xs ∧ (∀ v f, (v, f) ∈ xs → f < farV) := by
  obtain ⟨r1, r2, r3, r4, r5⟩ := right_in hok.right
  rw [Int.toNat_natCast] at r4
  have hb : N * 17592186044416 < farV := by
    have : N * 17592186044416 ≤ 4096 * 17592186044416 := Nat.mul_le_mul_right _ (by omega)
    unfold farV; omega
  by_cases hnn : (s : Int) ∈ o.nn
  · refine ⟨[], by rw [if_pos hnn], fun p hp => (by cases hp), by simp, ?_, fun v f h => by cases h⟩
    unfold refL
    rw [if_pos (show (srchOf N E o).nn s = true from decide_eq_true hnn)]
    rfl
  · obtain ⟨xs, h1, h2, h3⟩ := walk_is hok hw (Nat.le_refl _) hnn
    have hs := hok.srch
    have hin : SrchIn (srchOf N E o) 17592186044416 := ⟨fun i hi => by
      have h1 := hs.ends.f i hi
      have h2 := hs.ends.t i hi
      unfold toE
      split
      · exact h1.1
      · exact h2.1, fun i hi => (hw i hi).1, fun i hi => (hw i hi).2⟩
    obtain ⟨ys, h4, h5⟩ := trace_whole (x := freeX (srchOf N E o)) (s := s) (mw := 17592186044416) ⟨hin.ends, hin.low, hin.high⟩ hs.nodes hok.node (by omega)
    refine ⟨xs, h1, h3, h2.nodup, refL_is h2 h5 hin hb hok.node (decide_eq_false hnn) (fun i hi => ?_), fun v f hf => by have h9 := (h2.way v f hf).2.2.2; have h10 : f ≤ N * 17592186044416 := h9; omega⟩
    have h1 := hs.ends.f i hi
    have h2 := hs.ends.t i hi
    unfold nN
    split
    · exact h2.1
    · exact h1.1
set_option maxRecDepth 20000 in
set_option maxHeartbeats 8000000 in
theorem djOneNo (N s t : Int) (A : Option Addr) (n c : Nat) (E : List Edg) (back : Bool) (nn ne : Value) (Aw : Option Addr) (nw cw most : Nat) (W : List Nat) (w : World) (h : Rd w A 3 n (esCells E)) (hW : Rd w Aw 1 nw (wv W)) (hn : n ≤ 1000000) (hnw : nw ≤ 1000000) (hd : dcF N s E W ≠ 0) :
    Calls Tryz.prog 52 #[.agg #[.int .i64 N, .slice A n c], .int .i64 s, .int .i64 t, oVal back nn ne Aw nw cw most] w fun e w' => e = .returned (.tuple #[.int .u64 0, .int .i64 (dcF N s E W)]) ∧ Grows w w' := by
  unfold oVal
  have C1 := hide (fun (W1 : World) (g : Grows w W1) => djCheck N s A n c E back nn ne Aw nw cw most W W1 (h.grows g) (hW.grows g) hn hnw)
  unfold oVal at C1
  have hr2 : (dcF N s E W == 0) = false := beq_eq_false_iff_ne.2 hd
  clear h hW
  generalize dcF N s E W = r at *
  go_enter Tryz.func52, Tryz.ntmps52
  go_wp2_with (go_at_call 67; refine (C1.out _ GG).mono ?_; rintro e w' ⟨rfl, hg⟩; obtain ⟨x1, rfl⟩ := hg.later; clear hg)
  refine bodyPost_ret (v := .tuple #[.int .u64 0, .int .i64 r]) (by simp (maxDischargeDepth := 6) [results, Tryz.results52, go_sem, *]) rfl ?_
  exact ⟨rfl, GG⟩
set_option maxRecDepth 20000 in
set_option maxHeartbeats 8000000 in
theorem djOneOut (N s t : Int) (A : Option Addr) (n c : Nat) (E : List Edg) (back : Bool) (nn ne : Value) (Aw : Option Addr) (nw cw most : Nat) (W : List Nat) (w : World) (h : Rd w A 3 n (esCells E)) (hW : Rd w Aw 1 nw (wv W)) (hn : n ≤ 1000000) (hnw : nw ≤ 1000000) (hd : dcF N s E W = 0) (ht : ¬ (0 ≤ t ∧ t < N)) :
    Calls Tryz.prog 52 #[.agg #[.int .i64 N, .slice A n c], .int .i64 s, .int .i64 t, oVal back nn ne Aw nw cw most] w fun e w' => e = .returned (.tuple #[.int .u64 0, .int .i64 7]) ∧ Grows w w' := by
  unfold oVal
  have C1 := hide (fun (W1 : World) (g : Grows w W1) => djCheck N s A n c E back nn ne Aw nw cw most W W1 (h.grows g) (hW.grows g) hn hnw)
  unfold oVal at C1
  rw [hd] at C1
  have C2 := hide (fun (W : World) => gNode N t (.slice A n c) W)
  have hb : nodeB N t = false := decide_eq_false ht
  rw [hb] at C2
  clear h hW hd hb ht
  go_enter Tryz.func52, Tryz.ntmps52
  go_wp2_with fail
  refine (C1.out _ GG).mono ?_; rintro e w' ⟨rfl, hg⟩; obtain ⟨x1, rfl⟩ := hg.later; clear hg
  go_wp2_with fail
  refine (C2.out _).mono ?_; rintro e w' ⟨rfl, hg⟩; obtain ⟨x2, rfl⟩ := Grows.later2 hg; clear hg
  go_wp2_with fail
  refine bodyPost_ret (v := .tuple #[.int .u64 0, .int .i64 7]) (by simp (maxDischargeDepth := 6) [results, Tryz.results52, go_sem, *]) rfl ?_
  exact ⟨rfl, GG⟩
theorem gLex_propGd {P : Program} {w0 : World} {ops : Array Oper} {Q : Act → Env → Prop} {a : Act} {G : Env} {o : Oper} {rest : List Oper} {t : Tmp} (hw : Region.wanted o (yielded ops a.tmps) = true) (hp : plainB ops o G = true) (hd : o.dst = some t) (hlt : t < a.tmps.size)
    (p : Pr) (hl : Lasts p) (hr : ∀ x : Later w0, runsTo P (fun u w' => Grows x.now w' ∧ p u w') ((execOp a.eval o).run P x.now))
    (h : gLex P ops w0 Q rest a (G.upd t p)) : gLex P ops w0 Q (o :: rest) a G := by
  obtain ⟨h1, h2, h3, h4⟩ := plain_spec hp
  refine ⟨.inr p, ⟨h1, h2, .inl ⟨hw, hl, ⟨t, hd, hlt⟩, fun w hw a' ha' => ?_⟩⟩, ?_⟩
  · rw [exec_same h4 h3 ha']
    exact hr ⟨w, hw⟩
  · rw [hd]
    exact h
end
end Go.Proofs.YtomednfddpggaaaGreat

/- Searches without options but edges that do not count (plain). -/
namespace Go.Proofs.YtomednfddpggaaaGreat
open Go Go.RowKit
abbrev noO (ne : List Int) : DOpt := ⟨false, [], ne, [], 0⟩
theorem noO_ok {N s : Nat} {E : List Edg} {ne : List Int} (hr : rightF N E = 0) (hs : s < N) (hn : ne.length ≤ 1000000) : WalkOk N s E (noO ne) :=
  ⟨hr, hs, .inl rfl, by show 0 < _; omega, by show ([] : List Int).length ≤ _; simp, hn⟩
theorem noO_w {N : Nat} {E : List Edg} (hr : rightF N E = 0) (i : Nat) (hi : i < E.length) : 1 ≤ gn (wtF N E []) i ∧ gn (wtF N E []) i ≤ 17592186044416 := by
  obtain ⟨r1, r2, r3, r4, r5⟩ := right_in hr
  have := r5 i hi
  have e : gn (wtF N E []) i = (ge E i).w.toNat := by
    unfold wtF
    rw [if_neg (by omega), if_neg (by simp), if_neg (by simp)]
    simp [gn, eW, ge, hi]
  rw [e]
  omega
theorem dc_none {N s : Nat} {E : List Edg} (hr : rightF N E = 0) (hs : s < N) : dcF N s E [] = 0 := by
  unfold dcF
  rw [if_neg (by omega), if_neg (by simp [nodeB]; omega), if_neg (by simp)]
  rfl
end Go.Proofs.YtomednfddpggaaaGreat

/- Contracts: what lies in a Dag; how far, which edges and nodes are on some shortest way. -/
namespace Go.Proofs.YtomednfddpggaaaGreat
open Go Go.RowKit
attribute [local go_sem] Oper.semAt_some
theorem Rd.wvH {w : World} {A : Option Addr} {n : Nat} {L : List Nat} (h : Rd w A 1 n (wv L)) (hn : 0 < n) : L.length = n ∧ ∃ b off, A = some ⟨b, off, none⟩ ∧ ∀ v, v < n → Holds w ⟨b, off + v, none⟩ (.int .u64 (gn L v : Int)) := by
  have hl := h.wlen
  obtain ⟨b, off, e, hc⟩ := h.at_ hn
  exact ⟨hl, b, off, e, fun v hv => ⟨hc v _ (wv_at (by omega))⟩⟩
def DgAt (w : World) (b N s t : Nat) (E : List Edg) (T F : List Nat) (ol : List Int) : Prop :=
  ∃ ba A1 c1 A2 c2 A3 c3, Arr w b 65 [.pointer (some ⟨ba, 0, none⟩), .int .i64 (s : Int), .int .i64 (t : Int), .slice A1 N c1, .slice A2 N c2, .slice A3 ol.length c3] ∧ AdjAt (fun k => k < w.heap.size) w ba N E ∧ Rd w A1 1 N (wv T) ∧ Rd w A2 1 N (wv F) ∧ Rd w A3 1 ol.length (ol.map (.int .i64))
theorem DgAt.grow {w w' : World} {b N s t : Nat} {E : List Edg} {T F : List Nat} {ol : List Int} (h : DgAt w b N s t E T F ol) (hg : Grows w w') : DgAt w' b N s t E T F ol := by
  obtain ⟨ba, A1, c1, A2, c2, A3, c3, h1, h2, h3, h4, h5⟩ := h
  exact ⟨ba, A1, c1, A2, c2, A3, c3, h1.grow hg, (h2.grows hg).mono (fun k hk => Nat.lt_of_lt_of_le hk hg.size), h3.grows hg, h4.grows hg, h5.grows hg⟩
set_option maxHeartbeats 2000000 in
theorem dagFar (b N s t : Nat) (E : List Edg) (T F : List Nat) (ol : List Int) (w : World) (h : DgAt w b N s t E T F ol) (ht : t < N) :
    Calls Tryz.prog 12 #[.pointer (some ⟨b, 0, none⟩)] w fun e w' => e = .returned (.int .u64 (gn T t : Int)) ∧ Grows w w' := by
  obtain ⟨ba, A1, c1, A2, c2, A3, c3, a1, _, h3, _, _⟩ := h
  obtain ⟨_, b1, o1, rfl, hc⟩ := h3.wvH (by omega)
  have m1 := hc t ht
  clear hc h3
  go_enter Tryz.func12, Tryz.ntmps12
  go_wp2_with fail
  ((first | refine wp_region_gen (by kernel_rfl) (by kernel_rfl) ?_); (repeat' (first | (refine gLex_val0 rfl (by kernel_rfl) (fun K hK => ?_); (go_simp; (try (simp only [↓IntWalk.iteOmega]; try go_simp)); (try simp (disch := omega) only [IntWalk.i64_in]); (try simp (disch := omega) only [IntWalk.u64_in]); first | (refine hK _ ?_; clear hK K) | (apply Exists.intro; refine ⟨fun x => ?_, hK _ ?_⟩; (first | fail); clear hK K))) | (refine gLex_undef rfl rfl rfl (by kernel_rfl) (fun K hK => ?_); go_simp; refine hK _ ?_; clear hK K) | (refine gLex_ask rfl rfl rfl ?_; first | (apply gAsk_yes; kernel_rfl; intro K hK; (go_simp; (try (simp only [↓IntWalk.iteOmega]; try go_simp)); (try simp (disch := omega) only [IntWalk.i64_in]); (try simp (disch := omega) only [IntWalk.u64_in]); first | (refine hK _ ?_; clear hK K) | (apply Exists.intro; refine ⟨fun x => ?_, hK _ ?_⟩; (first | fail); clear hK K))) | ((first | apply gAsk_no1 | apply gAsk_no2); kernel_rfl; intro K hK; simp [go_sem]; refine hK _ ?_; clear hK K) | (apply gAsk_part; kernel_rfl; all_goals (intro h K hK; (try simp only [Bool.not_true] at h); (try simp only [Bool.not_false] at h); (try simp only [decide_eq_true_eq] at h); (try simp only [decide_eq_false_iff_not] at h); first | (exfalso; first | contradiction | omega) | (go_simp; (try (simp only [↓IntWalk.iteOmega]; try go_simp)); (try simp (disch := omega) only [IntWalk.i64_in]); (try simp (disch := omega) only [IntWalk.u64_in]); first | (refine hK _ ?_; clear hK K) | (apply Exists.intro; refine ⟨fun x => ?_, hK _ ?_⟩; (first | fail); clear hK K))))))); all_goals ((apply gLex_end); intro x))
  go_wp2_with fail
  go_ret
  exact ⟨rfl, GG⟩
set_option maxHeartbeats 2000000 in
theorem adjEdgesN {FF : Nat → Prop} (b N : Nat) (E : List Edg) (w : World) (h : AdjAt FF w b N E) :
    Calls Tryz.prog 76 #[.pointer (some ⟨b, 0, none⟩)] w fun e w' => e = .returned (.int .i64 (E.length : Int)) ∧ Grows w w' := by
  obtain ⟨A, c, g1, g2, g3, g4, a1, _⟩ := h
  go_enter Tryz.func76, Tryz.ntmps76
  go_wp2_with fail
  go_ret
  exact ⟨rfl, GG⟩
set_option maxHeartbeats 4000000 in
theorem adjEdge {FF : Nat → Prop} (b N i : Nat) (E : List Edg) (w : World) (h : AdjAt FF w b N E) (hi : i < E.length) :
    Calls Tryz.prog 39 #[.pointer (some ⟨b, 0, none⟩), .int .i64 (i : Int)] w fun e w' => e = .returned (.tuple #[eVal (ge E i), .bool true]) ∧ Grows w w' := by
  have C1 := hide (fun (W : World) (g : Grows w W) => adjEdgesN b N E W (h.grows g))
  obtain ⟨A, c, g1, g2, g3, g4, a1, h2, _⟩ := h
  obtain ⟨bE, off, rfl, hc⟩ := h2.edgesH (by omega)
  obtain ⟨m1, m2, m3⟩ := hc i hi
  clear hc h2
  unfold eVal
  generalize (ge E i).f = ef at *
  generalize (ge E i).t = et at *
  generalize (ge E i).w = ew at *
  go_enter Tryz.func39, Tryz.ntmps39
  have hlt : (i : Int) < (E.length : Int) := by omega
  have HA := hide (show Arr (w.alloc (.cells #[.int .i64 0, .int .i64 0, .int .u64 0] 59)) w.heap.size 59 [.int .i64 0, .int .i64 0, .int .u64 0] from Arr.make w _ _)
  generalize hb : w.heap.size = b4 at *
  go_wp2_with (go_at_call 76; refine (C1.out _ GG).mono ?_; rintro e w' ⟨rfl, hg⟩; obtain ⟨x1, rfl⟩ := hg.later; clear hg)
  have hb2 : w.heap.size ≤ b4 := by omega
  have a4 : Arr (((x1.now.setCell ⟨b4, 0, none⟩ (.int .i64 ef)).setCell ⟨b4, 1, none⟩ (.int .i64 et)).setCell ⟨b4, 2, none⟩ (.int .u64 ew)) b4 59 [.int .i64 ef, .int .i64 et, .int .u64 ew] := (((HA.out.grow x1.grows).set 0 _).set 1 _).set 2 _
  have t0 := a4.mine 0 rfl
  have t1 := a4.mine 1 rfl
  have t2 := a4.mine 2 rfl
  have hg : Grows w (((x1.now.setCell ⟨b4, 0, none⟩ (.int .i64 ef)).setCell ⟨b4, 1, none⟩ (.int .i64 et)).setCell ⟨b4, 2, none⟩ (.int .u64 ew)) := (((show Grows w x1.now from GG).set (p := ⟨b4, 0, none⟩) hb2 _).set (p := ⟨b4, 1, none⟩) hb2 _).set (p := ⟨b4, 2, none⟩) hb2 _
  generalize ((x1.now.setCell ⟨b4, 0, none⟩ (.int .i64 ef)).setCell ⟨b4, 1, none⟩ (.int .i64 et)).setCell ⟨b4, 2, none⟩ (.int .u64 ew) = W9 at *
  clear hb
  refine bodyPost_ret (v := .tuple #[.agg #[.int .i64 ef, .int .i64 et, .int .u64 ew], .bool true]) (by simp (maxDischargeDepth := 6) [results, Tryz.results39, go_sem, *]) rfl ⟨rfl, hg⟩
def onB (T F : List Nat) (t f u wg : Nat) : Bool := decide (gn T f + wg + gn F u = gn T t)
set_option maxHeartbeats 4000000 in
theorem dagOn (b N s t f u wg : Nat) (E : List Edg) (T F : List Nat) (ol : List Int) (w : World) (h : DgAt w b N s t E T F ol) (ht : t < N) (hf : f < N) (hu : u < N) (hT : gn T f ≤ farV) (hF : gn F u ≤ farV) (hw : wg ≤ 17592186044416) :
    Calls Tryz.prog 40 #[.pointer (some ⟨b, 0, none⟩), .agg #[.int .i64 (f : Int), .int .i64 (u : Int), .int .u64 (wg : Int)]] w fun e w' => e = .returned (.bool (onB T F t f u wg)) ∧ Grows w w' := by
  have CF := hide (fun (W : World) (g : Grows w W) => dagFar b N s t E T F ol W (h.grow g) ht)
  have HB := hide (show (onB T F t f u wg) = ((gn T f + wg + gn F u : Nat) == gn T t) from by unfold onB; by_cases e : gn T f + wg + gn F u = gn T t <;> simp [e])
  obtain ⟨ba, A1, c1, A2, c2, A3, c3, a1, _, h3, h4, _⟩ := h
  obtain ⟨_, b1, o1, rfl, hc1⟩ := h3.wvH (by omega)
  obtain ⟨_, b2, o2, rfl, hc2⟩ := h4.wvH (by omega)
  have m1 := hc1 f hf
  have m2 := hc2 u hu
  unfold farV at hT hF
  have hs1 : IntKind.u64.wrap ((gn T f : Int) + (wg : Int)) = (gn T f : Int) + (wg : Int) := IntWalk.u64_in _ (by omega)
  have hs2 : IntKind.u64.wrap ((gn T f : Int) + (wg : Int) + (gn F u : Int)) = (gn T f : Int) + (wg : Int) + (gn F u : Int) := IntWalk.u64_in _ (by omega)
  have hcmp : ((gn T f : Int) + (wg : Int) + (gn F u : Int) == (gn T t : Int)) = onB T F t f u wg := by
    rw [HB.out]
    by_cases e : gn T f + wg + gn F u = gn T t
    · rw [beq_iff_eq.2 e, beq_iff_eq.2 (by omega)]
    · rw [beq_eq_false_iff_ne.2 e, beq_eq_false_iff_ne.2 (by omega)]
  clear hc1 hc2 h3 h4 HB hT hF hw
  generalize onB T F t f u wg = r at *
  go_enter Tryz.func40, Tryz.ntmps40
  go_wp2_with fail
  ((first | refine wp_region_gen (by kernel_rfl) (by kernel_rfl) ?_); (repeat' (first | (refine gLex_val0 rfl (by kernel_rfl) (fun K hK => ?_); (go_simp; (try (simp only [↓IntWalk.iteOmega]; try go_simp)); (try simp (disch := omega) only [IntWalk.i64_in]); (try simp (disch := omega) only [IntWalk.u64_in]); first | (refine hK _ ?_; clear hK K) | (apply Exists.intro; refine ⟨fun x => ?_, hK _ ?_⟩; (first | (go_at_call 12; exact CF.out _ GG)); clear hK K))) | (refine gLex_undef rfl rfl rfl (by kernel_rfl) (fun K hK => ?_); go_simp; refine hK _ ?_; clear hK K) | (refine gLex_ask rfl rfl rfl ?_; first | (apply gAsk_yes; kernel_rfl; intro K hK; (go_simp; (try (simp only [↓IntWalk.iteOmega]; try go_simp)); (try simp (disch := omega) only [IntWalk.i64_in]); (try simp (disch := omega) only [IntWalk.u64_in]); first | (refine hK _ ?_; clear hK K) | (apply Exists.intro; refine ⟨fun x => ?_, hK _ ?_⟩; (first | (go_at_call 12; exact CF.out _ GG)); clear hK K))) | ((first | apply gAsk_no1 | apply gAsk_no2); kernel_rfl; intro K hK; simp [go_sem]; refine hK _ ?_; clear hK K) | (apply gAsk_part; kernel_rfl; all_goals (intro h K hK; (try simp only [Bool.not_true] at h); (try simp only [Bool.not_false] at h); (try simp only [decide_eq_true_eq] at h); (try simp only [decide_eq_false_iff_not] at h); first | (exfalso; first | contradiction | omega) | (go_simp; (try (simp only [↓IntWalk.iteOmega]; try go_simp)); (try simp (disch := omega) only [IntWalk.i64_in]); (try simp (disch := omega) only [IntWalk.u64_in]); first | (refine hK _ ?_; clear hK K) | (apply Exists.intro; refine ⟨fun x => ?_, hK _ ?_⟩; (first | (go_at_call 12; exact CF.out _ GG)); clear hK K))))))); all_goals ((apply gLex_end); intro x))
  go_wp2_with fail
  go_ret
  exact ⟨rfl, GG⟩
def thB (N : Nat) (T F : List Nat) (t : Nat) (v : Int) : Bool := decide (0 ≤ v ∧ v < N) && decide (gn T v.toNat + gn F v.toNat = gn T t)
set_option maxHeartbeats 4000000 in
theorem dagThrough (b N s t : Nat) (v : Int) (E : List Edg) (T F : List Nat) (ol : List Int) (w : World) (h : DgAt w b N s t E T F ol) (ht : t < N) (hT : ∀ v, gn T v ≤ farV) (hF : ∀ v, gn F v ≤ farV) :
    Calls Tryz.prog 16 #[.pointer (some ⟨b, 0, none⟩), .int .i64 v] w fun e w' => e = .returned (.bool (thB N T F t v)) ∧ Grows w w' := by
  have CF := hide (fun (W : World) (g : Grows w W) => dagFar b N s t E T F ol W (h.grow g) ht)
  obtain ⟨ba, A1, c1, A2, c2, A3, c3, a1, _, h3, h4, _⟩ := h
  obtain ⟨_, b1, o1, rfl, hc1⟩ := h3.wvH (by omega)
  obtain ⟨_, b2, o2, rfl, hc2⟩ := h4.wvH (by omega)
  by_cases hv : 0 ≤ v ∧ v < N
  · obtain ⟨k, rfl⟩ : ∃ k : Nat, v = (k : Int) := ⟨v.toNat, by omega⟩
    have hk : k < N := by omega
    have m1 := hc1 k hk
    have m2 := hc2 k hk
    have hT := hT k
    have hF := hF k
    unfold farV at hT hF
    have hs1 : IntKind.u64.wrap ((gn T k : Int) + (gn F k : Int)) = (gn T k : Int) + (gn F k : Int) := IntWalk.u64_in _ (by omega)
    have hr : thB N T F t (k : Int) = ((gn T k : Int) + (gn F k : Int) == (gn T t : Int)) := by
      unfold thB
      rw [decide_eq_true hv, Bool.true_and, Int.toNat_natCast]
      by_cases e : gn T k + gn F k = gn T t
      · rw [decide_eq_true e, beq_iff_eq.2 (by omega)]
      · rw [decide_eq_false e, beq_eq_false_iff_ne.2 (by omega)]
    rw [hr]
    have h0 : (0 : Int) ≤ (k : Int) := hv.1
    clear hc1 hc2 h3 h4 hT hF hr
    go_enter Tryz.func16, Tryz.ntmps16
    go_wp2_with fail
    ((first | refine wp_region_gen (by kernel_rfl) (by kernel_rfl) ?_); (repeat' (first | (refine gLex_val0 rfl (by kernel_rfl) (fun K hK => ?_); (go_simp; (try (simp only [↓IntWalk.iteOmega]; try go_simp)); (try simp (disch := omega) only [IntWalk.i64_in]); (try simp (disch := omega) only [IntWalk.u64_in]); first | (refine hK _ ?_; clear hK K) | (apply Exists.intro; refine ⟨fun x => ?_, hK _ ?_⟩; (first | (go_at_call 12; exact CF.out _ GG)); clear hK K))) | (refine gLex_undef rfl rfl rfl (by kernel_rfl) (fun K hK => ?_); go_simp; refine hK _ ?_; clear hK K) | (refine gLex_ask rfl rfl rfl ?_; first | (apply gAsk_yes; kernel_rfl; intro K hK; (go_simp; (try (simp only [↓IntWalk.iteOmega]; try go_simp)); (try simp (disch := omega) only [IntWalk.i64_in]); (try simp (disch := omega) only [IntWalk.u64_in]); first | (refine hK _ ?_; clear hK K) | (apply Exists.intro; refine ⟨fun x => ?_, hK _ ?_⟩; (first | (go_at_call 12; exact CF.out _ GG)); clear hK K))) | ((first | apply gAsk_no1 | apply gAsk_no2); kernel_rfl; intro K hK; simp [go_sem]; refine hK _ ?_; clear hK K) | (apply gAsk_part; kernel_rfl; all_goals (intro h K hK; (try simp only [Bool.not_true] at h); (try simp only [Bool.not_false] at h); (try simp only [decide_eq_true_eq] at h); (try simp only [decide_eq_false_iff_not] at h); first | (exfalso; first | contradiction | omega) | (go_simp; (try (simp only [↓IntWalk.iteOmega]; try go_simp)); (try simp (disch := omega) only [IntWalk.i64_in]); (try simp (disch := omega) only [IntWalk.u64_in]); first | (refine hK _ ?_; clear hK K) | (apply Exists.intro; refine ⟨fun x => ?_, hK _ ?_⟩; (first | (go_at_call 12; exact CF.out _ GG)); clear hK K))))))); all_goals ((apply gLex_end); intro x))
    go_wp2_with fail
    go_ret
    exact ⟨rfl, GG⟩
  · have hr : thB N T F t v = false := by unfold thB; rw [decide_eq_false hv]; rfl
    rw [hr]
    clear hc1 hc2 h3 h4 hT hF hr CF
    by_cases h0 : 0 ≤ v
    · have h1 : ¬ v < (N : Int) := fun h => hv ⟨h0, h⟩
      clear hv
      go_enter Tryz.func16, Tryz.ntmps16
      go_wp2_with fail
      ((first | refine wp_region_gen (by kernel_rfl) (by kernel_rfl) ?_); (repeat' (first | (refine gLex_val0 rfl (by kernel_rfl) (fun K hK => ?_); (go_simp; (try (simp only [↓IntWalk.iteOmega]; try go_simp)); (try simp (disch := omega) only [IntWalk.i64_in]); (try simp (disch := omega) only [IntWalk.u64_in]); first | (refine hK _ ?_; clear hK K) | (apply Exists.intro; refine ⟨fun x => ?_, hK _ ?_⟩; (first | fail); clear hK K))) | (refine gLex_undef rfl rfl rfl (by kernel_rfl) (fun K hK => ?_); go_simp; refine hK _ ?_; clear hK K) | (refine gLex_ask rfl rfl rfl ?_; first | (apply gAsk_yes; kernel_rfl; intro K hK; (go_simp; (try (simp only [↓IntWalk.iteOmega]; try go_simp)); (try simp (disch := omega) only [IntWalk.i64_in]); (try simp (disch := omega) only [IntWalk.u64_in]); first | (refine hK _ ?_; clear hK K) | (apply Exists.intro; refine ⟨fun x => ?_, hK _ ?_⟩; (first | fail); clear hK K))) | ((first | apply gAsk_no1 | apply gAsk_no2); kernel_rfl; intro K hK; simp [go_sem]; refine hK _ ?_; clear hK K) | (apply gAsk_part; kernel_rfl; all_goals (intro h K hK; (try simp only [Bool.not_true] at h); (try simp only [Bool.not_false] at h); (try simp only [decide_eq_true_eq] at h); (try simp only [decide_eq_false_iff_not] at h); first | (exfalso; first | contradiction | omega) | (go_simp; (try (simp only [↓IntWalk.iteOmega]; try go_simp)); (try simp (disch := omega) only [IntWalk.i64_in]); (try simp (disch := omega) only [IntWalk.u64_in]); first | (refine hK _ ?_; clear hK K) | (apply Exists.intro; refine ⟨fun x => ?_, hK _ ?_⟩; (first | fail); clear hK K))))))); all_goals ((apply gLex_end); intro x))
      go_wp2_with fail
      go_ret
      exact ⟨rfl, GG⟩
    · clear hv
      go_enter Tryz.func16, Tryz.ntmps16
      go_wp2_with fail
      ((first | refine wp_region_gen (by kernel_rfl) (by kernel_rfl) ?_); (repeat' (first | (refine gLex_val0 rfl (by kernel_rfl) (fun K hK => ?_); (go_simp; (try (simp only [↓IntWalk.iteOmega]; try go_simp)); (try simp (disch := omega) only [IntWalk.i64_in]); (try simp (disch := omega) only [IntWalk.u64_in]); first | (refine hK _ ?_; clear hK K) | (apply Exists.intro; refine ⟨fun x => ?_, hK _ ?_⟩; (first | fail); clear hK K))) | (refine gLex_undef rfl rfl rfl (by kernel_rfl) (fun K hK => ?_); go_simp; refine hK _ ?_; clear hK K) | (refine gLex_ask rfl rfl rfl ?_; first | (apply gAsk_yes; kernel_rfl; intro K hK; (go_simp; (try (simp only [↓IntWalk.iteOmega]; try go_simp)); (try simp (disch := omega) only [IntWalk.i64_in]); (try simp (disch := omega) only [IntWalk.u64_in]); first | (refine hK _ ?_; clear hK K) | (apply Exists.intro; refine ⟨fun x => ?_, hK _ ?_⟩; (first | fail); clear hK K))) | ((first | apply gAsk_no1 | apply gAsk_no2); kernel_rfl; intro K hK; simp [go_sem]; refine hK _ ?_; clear hK K) | (apply gAsk_part; kernel_rfl; all_goals (intro h K hK; (try simp only [Bool.not_true] at h); (try simp only [Bool.not_false] at h); (try simp only [decide_eq_true_eq] at h); (try simp only [decide_eq_false_iff_not] at h); first | (exfalso; first | contradiction | omega) | (go_simp; (try (simp only [↓IntWalk.iteOmega]; try go_simp)); (try simp (disch := omega) only [IntWalk.i64_in]); (try simp (disch := omega) only [IntWalk.u64_in]); first | (refine hK _ ?_; clear hK K) | (apply Exists.intro; refine ⟨fun x => ?_, hK _ ?_⟩; (first | fail); clear hK K))))))); all_goals ((apply gLex_end); intro x))
      go_wp2_with fail
      go_ret
      exact ⟨rfl, GG⟩
set_option maxHeartbeats 2000000 in
theorem dagEdgesN (b N s t : Nat) (E : List Edg) (T F : List Nat) (ol : List Int) (w : World) (h : DgAt w b N s t E T F ol) :
    Calls Tryz.prog 38 #[.pointer (some ⟨b, 0, none⟩)] w fun e w' => e = .returned (.int .i64 (E.length : Int)) ∧ Grows w w' := by
  obtain ⟨ba, A1, c1, A2, c2, A3, c3, a1, h2, _, _, _⟩ := h
  have C1 := hide (fun (W : World) (g : Grows w W) => adjEdgesN ba N E W (h2.grows g))
  clear h2
  go_enter Tryz.func38, Tryz.ntmps38
  go_wp2_with (go_at_call 76; refine (C1.out _ GG).mono ?_; rintro e w' ⟨rfl, hg⟩; obtain ⟨x1, rfl⟩ := hg.later; clear hg)
  go_ret
  exact ⟨rfl, GG⟩
end Go.Proofs.YtomednfddpggaaaGreat

/- The first ones of each kind in a row of numbers (plain). -/
namespace Go.Proofs.YtomednfddpggaaaGreat
open Go Go.RowKit
theorem len_le_of_sub : ∀ (a b : List Int), a.Nodup → (∀ x ∈ a, x ∈ b) → a.length ≤ b.length
  | [], _, _, _ => Nat.zero_le _
  | x :: a, b, hn, hs => by
    rw [List.nodup_cons] at hn
    have hx : x ∈ b := hs x (by simp)
    have h1 := len_le_of_sub a (b.erase x) hn.2 (fun y hy => by
      have hne : y ≠ x := fun e => hn.1 (e ▸ hy)
      exact (List.mem_erase_of_ne hne).2 (hs y (by simp [hy])))
    have h2 := List.length_erase_of_mem hx
    have h3 : 0 < b.length := List.length_pos_of_mem hx
    simp only [List.length_cons]
    omega
theorem len_eq_of_mem {a b : List Int} (ha : a.Nodup) (hb : b.Nodup) (h : ∀ x, x ∈ a ↔ x ∈ b) : a.length = b.length :=
  Nat.le_antisymm (len_le_of_sub a b ha fun x hx => (h x).1 hx) (len_le_of_sub b a hb fun x hx => (h x).2 hx)
def fsts (l : List Int) : Nat → List Int
  | 0 => []
  | k + 1 => if gi l k ∈ l.take k then fsts l k else fsts l k ++ [gi l k]
theorem take_mem1 {l : List Int} {k : Nat} (hk : k < l.length) (x : Int) : x ∈ l.take (k + 1) ↔ x ∈ l.take k ∨ x = gi l k := by
  have e : gi l k = l[k] := by simp [gi, hk]
  rw [List.take_succ_eq_append_getElem hk, e, List.mem_append, List.mem_singleton]
theorem fsts_is (l : List Int) : ∀ k, k ≤ l.length → (fsts l k).Nodup ∧ ∀ x, x ∈ fsts l k ↔ x ∈ l.take k
  | 0, _ => by simp [fsts]
  | k + 1, hk => by
    obtain ⟨h1, h2⟩ := fsts_is l k (by omega)
    have h3 := take_mem1 (l := l) (k := k) (by omega)
    unfold fsts
    split
    · rename_i h
      refine ⟨h1, fun x => ?_⟩
      rw [h2, h3]
      exact ⟨.inl, fun e => e.elim id (fun e => e ▸ h)⟩
    · rename_i h
      refine ⟨?_, fun x => ?_⟩
      · rw [List.nodup_append]
        refine ⟨h1, by simp, fun a ha b hb e => ?_⟩
        simp only [List.mem_singleton] at hb
        subst hb e
        exact h ((h2 _).1 ha)
      · rw [List.mem_append, h2, h3, List.mem_singleton]
end Go.Proofs.YtomednfddpggaaaGreat

/- Those of the first ones that are so (plain). -/
namespace Go.Proofs.YtomednfddpggaaaGreat
open Go Go.RowKit
def fltL (p : Nat → Bool) (k : Nat) : List Int := ((List.range k).filter p).map fun (i : Nat) => (i : Int)
theorem fltL_next (p : Nat → Bool) (k : Nat) : fltL p (k + 1) = if p k = true then fltL p k ++ [(k : Int)] else fltL p k := by
  unfold fltL
  rw [List.range_succ, List.filter_append]
  by_cases h : p k = true <;> simp [h]
theorem fltL_len (p : Nat → Bool) (k : Nat) : (fltL p k).length ≤ k := by
  unfold fltL
  have := List.length_filter_le p (List.range k)
  simpa using this
theorem fltL_yes {p : Nat → Bool} {k : Nat} (h : p k = true) : fltL p (k + 1) = fltL p k ++ [(k : Int)] := by rw [fltL_next, if_pos h]
theorem fltL_no {p : Nat → Bool} {k : Nat} (h : p k = false) : fltL p (k + 1) = fltL p k := by rw [fltL_next, if_neg (by rw [h]; exact Bool.false_ne_true)]
end Go.Proofs.YtomednfddpggaaaGreat

/- Contracts: the edges of all shortest ways, by the program. -/
namespace Go.Proofs.YtomednfddpggaaaGreat
open Go Go.RowKit
attribute [local go_sem] Oper.semAt_some
def onP (N : Nat) (E : List Edg) (T F : List Nat) (t : Nat) (i : Nat) : Bool := onB T F t (fN E i) (tN E i) (gn (wtF N E []) i)
set_option maxHeartbeats 2000000 in
theorem dagOnE (b N s t i : Nat) (E : List Edg) (T F : List Nat) (ol : List Int) (w : World) (h : DgAt w b N s t E T F ol) (hr : rightF N E = 0) (hi : i < E.length) (ht : t < N) (hT : ∀ v, gn T v ≤ farV) (hF : ∀ v, gn F v ≤ farV) :
    Calls Tryz.prog 40 #[.pointer (some ⟨b, 0, none⟩), eVal (ge E i)] w fun e w' => e = .returned (.bool (onP N E T F t i)) ∧ Grows w w' := by
  obtain ⟨r1, r2, _, r4, r5⟩ := right_in hr
  rw [Int.toNat_natCast] at r4
  have n1 := r4.f i hi
  have n2 := r4.t i hi
  have e3 : gn (wtF N E []) i = (ge E i).w.toNat := by
    unfold wtF
    rw [if_neg (by omega), if_neg (by simp), if_neg (by simp)]
    simp [gn, eW, ge, hi]
  have hw5 := r5 i hi
  have f1 : (ge E i).f = (fN E i : Int) := by unfold fN; omega
  have f2 : (ge E i).t = (tN E i : Int) := by unfold tN; omega
  have f3 : (ge E i).w = (gn (wtF N E []) i : Int) := by rw [e3]; omega
  unfold eVal onP
  rw [f1, f2, f3]
  exact dagOn b N s t (fN E i) (tN E i) (gn (wtF N E []) i) E T F ol w h ht (by omega) (by omega) (hT _) (hF _) (noO_w hr i hi).2
set_option maxRecDepth 40000 in
set_option maxHeartbeats 8000000 in
theorem dagEdges (b N s t : Nat) (E : List Edg) (T F : List Nat) (ol : List Int) (w : World) (h : DgAt w b N s t E T F ol) (hr : rightF N E = 0) (ht : t < N) (hT : ∀ v, gn T v ≤ farV) (hF : ∀ v, gn F v ≤ farV) :
    Calls Tryz.prog 14 #[.pointer (some ⟨b, 0, none⟩)] w fun e w' => ∃ A' c', e = .returned (.slice A' (fltL (onP N E T F t) E.length).length c') ∧ Rd w' A' 1 (fltL (onP N E T F t) E.length).length ((fltL (onP N E T F t) E.length).map (.int .i64)) ∧ Grows w w' := by
  have hEl : E.length ≤ 16384 := (right_in hr).2.2.1
  have CO := hide (fun (i : Nat) (hi : i < E.length) (W : World) (g : Grows w W) => dagOnE b N s t i E T F ol W (h.grow g) hr hi ht hT hF)
  have CN := hide (fun (W : World) (g : Grows w W) => dagEdgesN b N s t E T F ol W (h.grow g))
  obtain ⟨ba, A1, c1, A2, c2, A3, c3, a1, h2, _, _, _⟩ := h
  have CE := hide (fun (i : Nat) (hi : i < E.length) (W : World) (g : Grows w W) => adjEdge ba N i E W (h2.grows g) hi)
  clear h2 hr ht hT hF
  generalize onP N E T F t = p at *
  go_enter Tryz.func14, Tryz.ntmps14
  go_wp2_with (go_at_call 38; refine (CN.out _ GG).mono ?_; rintro e w' ⟨rfl, hg⟩; obtain ⟨x0, rfl⟩ := hg.later; clear hg)
  go_loopw [8, 2] (fun i u wr => ∃ k : Nat, k ≤ E.length ∧ i = .int .i64 (k : Int) ∧ ∃ y : Later x0.now, wr = y.now ∧ ∃ A1 c1 s1, u = .slice A1 s1 c1 ∧ Hid (s1 = (fltL p k).length) ∧ Own y.now x0.now.heap.size 3 1 A1 s1 c1 ((fltL p k).map (.int .i64))) (fun i _ _ => E.length - (Go.RowKit.intOf i).toNat)
  case atStart => exact ⟨0, by omega, by go_num, ⟨_, Grows.refl _⟩, rfl, none, 0, 0, rfl, rfl, Own.nil _ _ _ _⟩
  case round =>
    obtain ⟨k, hk, rfl, y, rfl, B1, d1, s1, rfl, HS1, hown⟩ := hrel
    have HO := hide hown
    clear hown
    by_cases hlt : k < E.length
    · have hs1 : s1 ≤ 1000000 := by have := HS1.out; have := fltL_len p k; omega
      have CEk := hide (CE.out k hlt)
      have COk := hide (CO.out k hlt)
      unfold eVal at CEk COk
      generalize (ge E k).f = ef at *
      generalize (ge E k).t = et at *
      generalize (ge E k).w = ew at *
      cases hd : p k with
      | true =>
        have HNX := hide (fltL_yes hd)
        rw [hd] at COk
        clear hd
        go_wp2_with (first
          | (go_at_call 39; refine (CEk.out _ GG).mono ?_; rintro e w' ⟨rfl, hg⟩; obtain ⟨y1, rfl⟩ := hg.later; clear hg)
          | (go_at_call 40; refine (COk.out _ GG).mono ?_; rintro e w' ⟨rfl, hg⟩; obtain ⟨y2, rfl⟩ := hg.later; clear hg)
          | (at_builtin; refine wp_app1M elemInt rfl _ _ rfl x0.now GG s1 d1 B1 _ rfl (HO.out.grows GG) _ _ _ rfl inferInstance rfl (by omega) ?_; intro A6 c6 y6 hown6 hgr6; have HO6 := hide hown6; clear hown6 hgr6))
        go_roundw
        case measure => simp [Go.RowKit.intOf]; omega
        case rel => exact ⟨k + 1, by omega, by go_num, y6, rfl, A6, c6, s1 + 1, rfl, by show s1 + 1 = _; rw [HNX.out, List.length_append, ← HS1.out]; rfl, by rw [HNX.out, List.map_append]; exact HO6.out⟩
      | false =>
        have HNX := hide (fltL_no hd)
        rw [hd] at COk
        clear hd
        go_wp2_with (first
          | (go_at_call 39; refine (CEk.out _ GG).mono ?_; rintro e w' ⟨rfl, hg⟩; obtain ⟨y1, rfl⟩ := hg.later; clear hg)
          | (go_at_call 40; refine (COk.out _ GG).mono ?_; rintro e w' ⟨rfl, hg⟩; obtain ⟨y2, rfl⟩ := hg.later; clear hg))
        obtain ⟨y6, hy6⟩ := (y.grows.trans (show Grows y.now y2.now from GG)).later
        refine ⟨⟨k + 1, by omega, by go_num, y6, hy6, B1, d1, s1, rfl, by show s1 = _; rw [HNX.out]; exact HS1.out, ?_⟩, by simp [Go.RowKit.intOf]; omega⟩
        rw [← hy6, HNX.out]
        exact HO.out.grows (show Grows y.now y2.now from GG)
    · obtain rfl : E.length = k := by omega
      go_wp2_with fail
      rw [← HS1.out]
      go_ret
      exact ⟨B1, d1, rfl, HO.out.rd, (show Grows w x0.now from GG).trans y.grows⟩
end Go.Proofs.YtomednfddpggaaaGreat

/- Of each node how many shortest ways there are up to it, by the program (plain, and what stands between two edges). -/
namespace Go.Proofs.YtomednfddpggaaaGreat
open Go Go.RowKit
attribute [local go_sem] Oper.semAt_some
def hdL (E : List Edg) (v : Nat) (n : List Nat) (i : Nat) : List Nat := n.set (tN E i) (min (gn n (tN E i) + gn n v) farV)
def ctR (E : List Edg) (p : Nat → Bool) (v : Nat) (is : List Nat) (n : List Nat) : List Nat := is.foldl (fun n i => if p i = true then hdL E v n i else n) n
theorem ctR_snoc (E : List Edg) (p : Nat → Bool) (v : Nat) (is : List Nat) (i : Nat) (n : List Nat) : ctR E p v (is ++ [i]) n = if p i = true then hdL E v (ctR E p v is n) i else ctR E p v is n := by
  unfold ctR
  rw [List.foldl_append]
  rfl
def ctL (N : Nat) (E : List Edg) (p : Nat → Bool) (vs : List Nat) (n : List Nat) : List Nat := vs.foldl (fun n v => ctR E p v (rowN (nN E false) E.length v) n) n
theorem ctL_snoc (N : Nat) (E : List Edg) (p : Nat → Bool) (vs : List Nat) (v : Nat) (n : List Nat) : ctL N E p (vs ++ [v]) n = ctR E p v (rowN (nN E false) E.length v) (ctL N E p vs n) := by
  unfold ctL
  rw [List.foldl_append]
  rfl
structure CtOk (N : Nat) (n : List Nat) : Prop where
  len : n.length = N
  le : ∀ v, gn n v ≤ farV
theorem CtOk.hd {N v i : Nat} {E : List Edg} {n : List Nat} (h : CtOk N n) : CtOk N (hdL E v n i) := by
  refine ⟨by unfold hdL; rw [List.length_set]; exact h.len, fun u => ?_⟩
  have := h.le u
  unfold hdL gn at *
  rw [List.getD_eq_getElem?_getD, List.getElem?_set]
  by_cases e : tN E i = u
  · rw [if_pos e]
    split
    · exact Nat.min_le_right _ _
    · exact Nat.zero_le _
  · rw [if_neg e, ← List.getD_eq_getElem?_getD]
    exact this
theorem CtOk.row {N v : Nat} {E : List Edg} {p : Nat → Bool} {is n : List Nat} (h : CtOk N n) : CtOk N (ctR E p v is n) := by
  unfold ctR
  induction is generalizing n with
  | nil => exact h
  | cons i is ih =>
    rw [List.foldl_cons]
    refine ih ?_
    split
    · exact h.hd
    · exact h
theorem CtOk.all {N : Nat} {E : List Edg} {p : Nat → Bool} {vs n : List Nat} (h : CtOk N n) : CtOk N (ctL N E p vs n) := by
  unfold ctL
  induction vs generalizing n with
  | nil => exact h
  | cons v vs ih =>
    rw [List.foldl_cons]
    exact ih h.row
def ct0 (N s : Nat) : List Nat := (List.replicate N 0).set s 1
theorem CtOk.zero (N s : Nat) : CtOk N (ct0 N s) := by
  refine ⟨by simp [ct0], fun v => ?_⟩
  unfold ct0 gn farV
  rw [List.getD_eq_getElem?_getD, List.getElem?_set]
  split
  · split <;> simp
  · simp [List.getElem?_replicate]
    split <;> simp
def CtJ (E : List Edg) (p : Nat → Bool) (v : Nat) (n0 : List Nat) (g : Nat) (w W3 : World) (pre : List Nat) (M : Nat → Prop) (W : World) : Prop :=
  (∃ y : Later w, W = y.now) ∧ Arr W g 38 (wv (ctR E p v pre n0)) ∧ Touch (fun k => k = g) W3 W ∧ (∀ k, M k → W3.heap.size ≤ k ∧ k < W.heap.size) ∧ g < W3.heap.size
theorem CtJ.yields {E : List Edg} {p : Nat → Bool} {v : Nat} {n0 : List Nat} {g : Nat} {w W3 : World} (hw : w.heap.size ≤ W3.heap.size) : Yields' (CtJ E p v n0 g w W3) := by
  rintro pre M W M' W' ⟨⟨y, rfl⟩, a1, a2, a3, a4⟩ ht hM
  refine ⟨⟨⟨W', ht.later y.grows (fun k hk => Nat.le_trans hw (a3 k hk).1)⟩, rfl⟩, a1.touch ht (fun e => by have := (a3 _ e).1; omega), a2.trans2 ht (fun k hk => .inr (a3 k hk).1), fun k hk => ?_, a4⟩
  obtain ⟨h | h, h'⟩ := hM k hk
  · exact ⟨(a3 k h).1, h'⟩
  · exact ⟨Nat.le_trans a2.size h, h'⟩
end Go.Proofs.YtomednfddpggaaaGreat
