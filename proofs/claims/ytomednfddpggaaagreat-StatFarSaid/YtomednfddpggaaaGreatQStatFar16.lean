/- How far one node is; and the law DijkAll, walked: how far all nodes are, with whatever counts, or why that is not told. -/
import Derived.Test.YtomednfddpggaaaGreatQStatFar14
import Derived.Test.YtomednfddpggaaaGreatQStatFar15
import Derived.Test.YtomednfddpggaaaGreatQStatFar07
import Derived.Test.YtomednfddpggaaaGreatQStatFar03
/- How far one node is; and the law DijkAll, walked: how far all nodes are, with whatever counts, or why that is not told. -/
namespace Go.Proofs.YtomednfddpggaaaGreat
open Go Go.RowKit
attribute [local go_sem] Oper.semAt_some
def OneI (w : World) (lo b6 b8 b9 t : Nat) (z8 z9 : Value) (p : List (Nat × Nat)) (Mi : Nat → Prop) (W : World) : Prop :=
  (∃ y : Later w, W = y.now) ∧ (Arr W b6 3 [.int .i64 (t : Int)] ∧ Arr W b8 38 [z8] ∧ Arr W b9 28 [z9]) ∧ (t ∉ p.map Prod.fst) ∧ (∀ k, Mi k → lo ≤ k ∧ k < W.heap.size) ∧ lo ≤ W.heap.size
theorem OneI.yields {w : World} {lo b6 b8 b9 t : Nat} {z8 z9 : Value} (h1 : b6 < lo) (h2 : b8 < lo) (h3 : b9 < lo) (hlo : w.heap.size ≤ lo) : Yields' (OneI w lo b6 b8 b9 t z8 z9) := by
  rintro p Mi W Mi' W' ⟨⟨y, rfl⟩, ⟨a1, a2, a3⟩, a4, a5, a6⟩ ht hM'
  have nb : ∀ k, k < lo → ¬ Mi k := fun k hk e => by have := (a5 _ e).1; omega
  refine ⟨⟨⟨W', ht.later y.grows (fun k hk => Nat.le_trans hlo (a5 k hk).1)⟩, rfl⟩, ⟨a1.touch ht (nb _ h1), a2.touch ht (nb _ h2), a3.touch ht (nb _ h3)⟩, a4, fun k hk => ?_, Nat.le_trans a6 ht.size⟩
  obtain ⟨h | h, h'⟩ := hM' k hk
  · exact ⟨(a5 k h).1, h'⟩
  · exact ⟨by omega, h'⟩
def OneX (w : World) (lo b6 b8 b9 t : Nat) (xs : List (Nat × Nat)) (c : Code) (p : List (Nat × Nat)) (Mi : Nat → Prop) (W : World) : Prop :=
  c = .ret ∧ ∃ f, (t, f) ∈ xs ∧ (∃ y : Later w, W = y.now) ∧ (Arr W b8 38 [.int .u64 (f : Int)] ∧ Arr W b9 28 [.int .i64 0]) ∧ (∀ k, Mi k → lo ≤ k ∧ k < W.heap.size) ∧ lo ≤ W.heap.size
theorem OneX.yields {w : World} {lo b6 b8 b9 t : Nat} {xs : List (Nat × Nat)} (h2 : b8 < lo) (h3 : b9 < lo) (hlo : w.heap.size ≤ lo) (c : Code) : Yields' (OneX w lo b6 b8 b9 t xs c) := by
  rintro p Mi W Mi' W' ⟨e, f, a0, ⟨y, rfl⟩, ⟨a2, a3⟩, a5, a6⟩ ht hM'
  have nb : ∀ k, k < lo → ¬ Mi k := fun k hk e => by have := (a5 _ e).1; omega
  refine ⟨e, f, a0, ⟨⟨W', ht.later y.grows (fun k hk => Nat.le_trans hlo (a5 k hk).1)⟩, rfl⟩, ⟨a2.touch ht (nb _ h2), a3.touch ht (nb _ h3)⟩, fun k hk => ?_, Nat.le_trans a6 ht.size⟩
  obtain ⟨h | h, h'⟩ := hM' k hk
  · exact ⟨(a5 k h).1, h'⟩
  · exact ⟨by omega, h'⟩
def FrameOne (b6 b8 b9 v far : Nat) (a' : Act) : Prop := ∃ u0 u1 u2 u3 u4 u5 u7 u10 u13 u14 u15 u16 u17 u18 u19 u20 u21 u22 u23 u24 u25 u26 u27 u28 u29 u30 u31 u32 u33 : Value, a' = { tmps := #[u0, u1, u2, u3, u4, u5, .pointer (some ⟨b6, 0, none⟩), u7, .pointer (some ⟨b8, 0, none⟩), .pointer (some ⟨b9, 0, none⟩), u10, .int .i64 (v : Int), .int .u64 (far : Int), u13, u14, u15, u16, u17, u18, u19, u20, u21, u22, u23, u24, u25, u26, u27, u28, u29, u30, u31, u32, u33], defers := [] }
def OneB (w : World) (lo b6 b8 b9 t : Nat) (z8 z9 : Value) (x : Nat × Nat) (a' : Act) (p : List (Nat × Nat)) (Mi : Nat → Prop) (W : World) : Prop := FrameOne b6 b8 b9 x.1 x.2 a' ∧ OneI w lo b6 b8 b9 t z8 z9 p Mi W
def OneP (w : World) (xs : List (Nat × Nat)) (t : Nat) (e : Ending) (w' : World) : Prop :=
  ((∃ f, (t, f) ∈ xs ∧ e = .returned (.tuple #[.int .u64 (f : Int), .int .i64 0])) ∨ (t ∉ xs.map Prod.fst ∧ e = .returned (.tuple #[.int .u64 0, .int .i64 9]))) ∧ Grows w w'
set_option maxRecDepth 40000 in
set_option maxHeartbeats 8000000 in
theorem djOne (N s t : Nat) (A : Option Addr) (c : Nat) (E : List Edg) (o : DOpt) (An Ae Aw : Option Addr) (cn ce cw : Nat) (xs : List (Nat × Nat)) (w : World) (h : Rd w A 3 E.length (esCells E)) (h2 : Rd w An 1 o.nn.length (o.nn.map (.int .i64))) (h3 : Rd w Ae 1 o.ne.length (o.ne.map (.int .i64))) (h4 : Rd w Aw 1 o.W.length (wv o.W))
    (hok : WalkOk N s E o) (hd : dcF N s E o.W = 0) (hxs : if (s : Int) ∈ o.nn then xs = [] else Trace (srchOf N E o) (reachS o.most (st0 N) s 0) xs) (ht : t < N) :
    Calls Tryz.prog 52 #[.agg #[.int .i64 (N : Int), .slice A E.length c], .int .i64 (s : Int), .int .i64 (t : Int), oVal o.back (.slice An o.nn.length cn) (.slice Ae o.ne.length ce) Aw o.W.length cw o.most] w (OneP w xs t) := by
  unfold oVal
  obtain ⟨r1, r2, r3, r4, r5⟩ := right_in hok.right
  have C1 := hide (fun (W : World) (g : Grows w W) => djCheck (N : Int) s A E.length c E o.back (.slice An o.nn.length cn) (.slice Ae o.ne.length ce) Aw o.W.length cw o.most o.W W (h.grows g) (h4.grows g) (by omega) (by have := hok.wts; omega))
  rw [hd] at C1
  unfold oVal at C1
  have C2 := hide (fun (W : World) => gNode (N : Int) (t : Int) (.slice A E.length c) W)
  have hb : nodeB (N : Int) (t : Int) = true := decide_eq_true ⟨by omega, by omega⟩
  rw [hb] at C2
  have C3 := hide (fun (W : World) => djWalk (.agg #[.int .i64 (N : Int), .slice A E.length c]) (.int .i64 (s : Int)) (.agg #[.bool o.back, .slice An o.nn.length cn, .slice Ae o.ne.length ce, .slice Aw o.W.length cw, .int .u64 (o.most : Int)]) (N : Int) (.slice A E.length c) rfl (s : Int) rfl _ _ _ _ _ rfl W)
  have HM := hide (And.intro h (And.intro h2 (And.intro h3 h4)))
  have HOK := hide hok
  have HXS := hide hxs
  clear h h2 h3 h4 hok hxs hd r1 r2 r3 r4 r5 hb
  refine calls_of_marks Tryz.func52 rfl ?_
  simp only [Tryz.ntmps52, List.size_toArray, List.length_cons, List.length_nil, Nat.reduceAdd, Nat.reduceSub, Array.replicate_succ, Array.replicate_zero, List.push_toArray, List.append_toArray, List.nil_append, List.cons_append]
  go_wp2_with fail
  refine (C1.out _ GG).mono ?_; rintro e w' ⟨rfl, hg⟩; obtain ⟨x1, rfl⟩ := hg.later; clear hg
  go_wp2_with fail
  refine (C2.out _).mono ?_; rintro e w' ⟨rfl, hg⟩; obtain ⟨x2, rfl⟩ := Grows.later2 hg; clear hg
  go_wp2_with fail
  refine (C3.out _).mono ?_; rintro e W0 ⟨b, rfl, hb, z1, z2, z3, hg⟩
  have hx2 := x2.size
  have hs5 : w.heap.size + 1 + 1 + 1 + 1 < b := by rw [← hb]; simp at hx2; omega
  have q6 : Arr W0 (w.heap.size + 1) 3 [.int .i64 (t : Int)] := Arr.grow ⟨by simp [heap_push, Array.getElem_push, Array.getElem?_push, eq_add2]⟩ (x2.grows.trans hg)
  have q8 : Arr W0 (w.heap.size + 1 + 1 + 1) 38 [.int .u64 0] := Arr.grow ⟨by simp [heap_push, Array.getElem_push, Array.getElem?_push, eq_add2]⟩ (x2.grows.trans hg)
  have q9 : Arr W0 (w.heap.size + 1 + 1 + 1 + 1) 28 [.int .i64 0] := Arr.grow ⟨by simp [heap_push, Array.getElem_push, Array.getElem?_push, eq_add2]⟩ (x2.grows.trans hg)
  have hgw : Grows w W0 := Grows.trans (by show Grows w x2.now; exact GG) hg
  have hW0 := z3.lt
  have hsz0 := hgw.size
  have g6 : w.heap.size ≤ w.heap.size + 1 := by omega
  have g8 : w.heap.size ≤ w.heap.size + 1 + 1 + 1 := by omega
  have g9 : w.heap.size ≤ w.heap.size + 1 + 1 + 1 + 1 := by omega
  have n89 : w.heap.size + 1 + 1 + 1 ≠ w.heap.size + 1 + 1 + 1 + 1 := by omega
  have l6 : w.heap.size + 1 < b := by omega
  have l8 : w.heap.size + 1 + 1 + 1 < b := by omega
  have l9 : w.heap.size + 1 + 1 + 1 + 1 < b := hs5
  clear hb hg C1 C2 C3 hx2 hs5
  generalize w.heap.size + 1 + 1 + 1 + 1 = b9 at *
  generalize w.heap.size + 1 + 1 + 1 = b8 at *
  generalize w.heap.size + 1 + 1 = b7 at *
  generalize w.heap.size + 1 = b6 at *
  have hwalk : WalkAt (fun k => k < w.heap.size ∨ (b ≤ k ∧ k ≤ b + 1 + 1)) W0 b (b + 1 + 1) (b + 1) N s E o := by
    obtain ⟨h1, h2, h3, h4⟩ := HM.out
    exact ⟨A, c, An, cn, Ae, ce, Aw, cw, z1, z3, z2, h1.grows hgw, h2.grows hgw, h3.grows hgw, h4.grows hgw, .inr ⟨by omega, by omega⟩, .inr ⟨by omega, by omega⟩, .inr ⟨by omega, by omega⟩, fun h p hp => .inl (h1.block_lt (by omega) h p hp), fun h p hp => .inl (h2.block_lt (by omega) h p hp), fun h p hp => .inl (h3.block_lt (by omega) h p hp), fun h p hp => .inl (h4.block_lt (by omega) h p hp)⟩
  have hBW : ∀ k, (k < w.heap.size ∨ (b ≤ k ∧ k ≤ b + 1 + 1)) → k < W0.heap.size := fun k hk => by rcases hk with hk | hk <;> omega
  have hGV := djWalk1 (fun k => k < w.heap.size ∨ (b ≤ k ∧ k ≤ b + 1 + 1)) (fun k => k < w.heap.size ∨ (b ≤ k ∧ k ≤ b + 1 + 1)) (fun _ => False) b (b + 1 + 1) (b + 1) N s E o xs W0 hwalk (fun k hk => .inl hk) (fun k hk => hk.elim) hBW HOK.out HXS.out
  have h0 : OneI w W0.heap.size b6 b8 b9 t (.int .u64 0) (.int .i64 0) [] (fun _ => False) W0 := ⟨⟨⟨W0, hgw⟩, rfl⟩, ⟨q6, q8, q9⟩, by simp, fun k hk => hk.elim, Nat.le_refl _⟩
  have hIy := OneI.yields (w := w) (lo := W0.heap.size) (b6 := b6) (b8 := b8) (b9 := b9) (t := t) (z8 := .int .u64 0) (z9 := .int .i64 0) (by omega) (by omega) (by omega) hsz0
  have hXy := OneX.yields (w := w) (lo := W0.heap.size) (b6 := b6) (b8 := b8) (b9 := b9) (t := t) (xs := xs) (by omega) (by omega) hsz0
  have HGV := hide hGV
  have H0 := hide h0
  clear hGV h0 hwalk q6 q8 q9 z1 z2 z3 HM HXS HOK
  go_wp2_with fail
  refine (wpIn_wide (n := 0)).1 ?_
  have hGV := HGV.out
  have h0 := H0.out
  clear HGV H0
  refine wp_rangeG (w0 := W0) (gf := 102) rfl (enters_of Tryz.func102 (by kernel_rfl) rfl) hGV (Keeps.refl _ _ _) hBW (fun k hk => hk.elim) (fun _ => rfl)
    (OneI w W0.heap.size b6 b8 b9 t (.int .u64 0) (.int .i64 0)) (OneX w W0.heap.size b6 b8 b9 t xs) hIy hXy h0 (OneB w W0.heap.size b6 b8 b9 t (.int .u64 0) (.int .i64 0)) ?hIb ?assign ?body ?done ?stop
  case hIb =>
    rintro x a' p Mi W1 Mi' W' ⟨hf, hI⟩ ht hM'
    exact ⟨hf, hIy p Mi W1 Mi' W' hI ht hM'⟩
  case assign =>
    intro l2 p x rest Mi W1 hsp hI
    have HI := hide hI
    clear hI
    unfold encD
    gi_wp2
    refine ⟨⟨?_, HI.out⟩, Keeps.refl _ _ _⟩
    unfold FrameOne
    (repeat apply Exists.intro)
    rfl
  case body =>
    rintro l2 p ⟨v, far⟩ rest Mi a' W1 hsp hl2 hMl hrec ⟨⟨u0, u1, u2, u3, u4, u5, u7, u10, u13, u14, u15, u16, u17, u18, u19, u20, u21, u22, u23, u24, u25, u26, u27, u28, u29, u30, u31, u32, u33, rfl⟩, ⟨⟨y, rfl⟩, ⟨q6, q8, q9⟩, hnt, hm, hlo⟩⟩
    have HMEM := hide (show (v, far) ∈ xs from by rw [hsp]; simp)
    have HMM := hide hm
    have HNT := hide hnt
    clear hsp hl2 hMl hrec hm h0 hIy hXy hGV hnt
    simp only
    have HKN : ∀ k, (k = b8 ∨ k = b9) → ¬ ((k < w.heap.size ∨ (b ≤ k ∧ k ≤ b + 1 + 1)) ∨ Mi k) := fun k hk e => by
      rcases e with (e | e) | e
      · rcases hk with rfl | rfl <;> omega
      · rcases hk with rfl | rfl <;> omega
      · have := (HMM.out _ e).1
        rcases hk with rfl | rfl <;> omega
    have HKN2 := hide HKN
    clear HKN
    by_cases hvt : v = t
    · subst hvt
      gi_wp2
      have e8 : Arr ((y.now.setCell ⟨b8, 0, none⟩ (.int .u64 (far : Int))).setCell ⟨b9, 0, none⟩ (.int .i64 0)) b8 38 [.int .u64 (far : Int)] := (q8.set 0 _).other (Ne.symm n89) _
      have e9 : Arr ((y.now.setCell ⟨b8, 0, none⟩ (.int .u64 (far : Int))).setCell ⟨b9, 0, none⟩ (.int .i64 0)) b9 28 [.int .i64 0] := (q9.other n89 _).set 0 _
      refine ⟨((Touch.refl _ _).set (.inl (HKN2.out _ (.inl rfl))) _).set (.inl (HKN2.out _ (.inr rfl))) _, rfl, far, HMEM.out, ⟨⟨_, (y.grows.set g8 _).set g9 _⟩, rfl⟩, ⟨e8, e9⟩, fun k hk => ?_, ?_⟩
      · rw [size_setCell, size_setCell]; exact HMM.out k hk
      · rw [size_setCell, size_setCell]; exact hlo
    · have hb1 : ((v : Int) == (t : Int)) = false := beq_eq_false_iff_ne.2 (by omega)
      have HVT := hide hvt
      clear hvt
      gi_wp2
      refine ⟨Keeps.refl _ _ _, ⟨y, rfl⟩, ⟨q6, q8, q9⟩, ?_, HMM.out, hlo⟩
      rw [List.map_append, List.mem_append]
      rintro (h | h)
      · exact HNT.out h
      · have h : t = v := by simpa using h
        exact HVT.out h.symm
  case done =>
    intro D Mi W1 hlD hMD hI hDW
    obtain ⟨⟨y, rfl⟩, ⟨q6, q8, q9⟩, hnt, hm, hlo⟩ := hI
    have HMM := hide hm
    have HNT := hide hnt
    have HDW := hide hDW
    clear hm hDW hIy hXy h0 hGV hnt
    gi_wp2
    go_wp2_with fail
    have e8 : Arr ((y.now.setCell ⟨b8, 0, none⟩ (.int .u64 0)).setCell ⟨b9, 0, none⟩ (.int .i64 9)) b8 38 [.int .u64 0] := (q8.set 0 _).other (Ne.symm n89) _
    have e9 : Arr ((y.now.setCell ⟨b8, 0, none⟩ (.int .u64 0)).setCell ⟨b9, 0, none⟩ (.int .i64 9)) b9 28 [.int .i64 9] := (q9.other n89 _).set 0 _
    have hDl : w.heap.size ≤ D ∧ b8 ≠ D ∧ b9 ≠ D := by omega
    have hyg : Grows w ((y.now.setCell ⟨b8, 0, none⟩ (.int .u64 0)).setCell ⟨b9, 0, none⟩ (.int .i64 9)) := (y.grows.set g8 _).set g9 _
    have hD3 : ((y.now.setCell ⟨b8, 0, none⟩ (.int .u64 0)).setCell ⟨b9, 0, none⟩ (.int .i64 9)).heap[D]? = some (.deferred (some [])) := by
      rw [heap_setCell _ _ _ _ (Ne.symm hDl.2.2), heap_setCell _ _ _ _ (Ne.symm hDl.2.1)]
      exact HDW.out
    refine marks_ret [D] rfl ((Marks.nil _).cons hD3 (by simp)) (fun W' htt => ?_)
    have k8 := (e8.touch htt (fun e => hDl.2.1 (List.mem_singleton.1 e))).cell 0
    have k9 := (e9.touch htt (fun e => hDl.2.2 (List.mem_singleton.1 e))).cell 0
    refine ⟨.tuple #[.int .u64 0, .int .i64 9], by simp (maxDischargeDepth := 6) [results, Tryz.results52, go_sem, k8, k9], .inr ⟨HNT.out, rfl⟩, htt.later hyg (fun k hk => by rw [List.mem_singleton.1 hk]; exact hDl.1)⟩
  case stop =>
    intro D c' p i rest Mi W1 hlD hMD _ hX hDW
    obtain ⟨rfl, f, hf, ⟨y, rfl⟩, ⟨q8, q9⟩, hm, hlo⟩ := hX
    have HF := hide hf
    have HDW := hide hDW
    clear hf hDW hIy hXy h0 hGV hm
    gi_wp2
    have hDl : w.heap.size ≤ D ∧ b8 ≠ D ∧ b9 ≠ D := by omega
    refine marks_ret [D] rfl ((Marks.nil _).cons HDW.out (by simp)) (fun W' htt => ?_)
    have k8 := (q8.touch htt (fun e => hDl.2.1 (List.mem_singleton.1 e))).cell 0
    have k9 := (q9.touch htt (fun e => hDl.2.2 (List.mem_singleton.1 e))).cell 0
    refine ⟨.tuple #[.int .u64 (f : Int), .int .i64 0], by simp (maxDischargeDepth := 6) [results, Tryz.results52, go_sem, k8, k9], .inl ⟨f, HF.out, rfl⟩, htt.later y.grows (fun k hk => by rw [List.mem_singleton.1 hk]; exact hDl.1)⟩
section
theorem nodup_fst {x : Srch} {s mw : Nat} {xs : List (Nat × Nat)} (h : Far x s mw xs) : (xs.map Prod.fst).Nodup := h.nodup
theorem walk_ref {N s : Nat} {E : List Edg} {o : DOpt} (hok : WalkOk N s E o) (hw : ∀ i, i < E.length → 1 ≤ gn (wtF N E o.W) i ∧ gn (wtF N E o.W) i ≤ 17592186044416) :
    ∃ xs, (if (s : Int) ∈ o.nn then xs = [] else Trace (srchOf N E o) (reachS o.most (st0 N) s 0) xs) ∧ (∀ p, p ∈ xs → p.1 < N) ∧ (xs.map Prod.fst).Nodup ∧ refL (srchOf N E o) s = outL N xs ∧ (∀ v f, (v, f) ∈ xs → f < farV) := by
  obtain ⟨r1, r2, r3, r4, r5⟩ := right_in hok.right
  rw [Int.toNat_natCast] at r4
  have hb : N * 17592186044416 < farV := by
    have : N * 17592186044416 ≤ 4096 * 17592186044416 := Nat.mul_le_mul_right _ (by omega)
    unfold farV; omega
  by_cases hnn : (s : Int) ∈ o.nn
  · refine ⟨[], by rw [if_pos hnn], fun p hp => (by cases hp), by simp, ?_, fun v f h => by cases h⟩
    unfold refL
    rw [if_pos (show (srchOf N E o).nn s = true from decide_eq_true hnn)]
    rfl
  · obtain ⟨xs, h1, h2, h3⟩ := walk_is hok hw (Nat.le_refl _) hnn
    have hs := hok.srch
    have hin : SrchIn (srchOf N E o) 17592186044416 := ⟨fun i hi => by
      have h1 := hs.ends.f i hi
      have h2 := hs.ends.t i hi
      unfold toE
      split
      · exact h1.1
      · exact h2.1, fun i hi => (hw i hi).1, fun i hi => (hw i hi).2⟩
    obtain ⟨ys, h4, h5⟩ := trace_whole (x := freeX (srchOf N E o)) (s := s) (mw := 17592186044416) ⟨hin.ends, hin.low, hin.high⟩ hs.nodes hok.node (by omega)
    refine ⟨xs, h1, h3, h2.nodup, refL_is h2 h5 hin hb hok.node (decide_eq_false hnn) (fun i hi => ?_), fun v f hf => by have h9 := (h2.way v f hf).2.2.2; have h10 : f ≤ N * 17592186044416 := h9; omega⟩
    have h1 := hs.ends.f i hi
    have h2 := hs.ends.t i hi
    unfold nN
    split
    · exact h2.1
    · exact h1.1
set_option maxRecDepth 20000 in
set_option maxHeartbeats 8000000 in
theorem djOneNo (N s t : Int) (A : Option Addr) (n c : Nat) (E : List Edg) (back : Bool) (nn ne : Value) (Aw : Option Addr) (nw cw most : Nat) (W : List Nat) (w : World) (h : Rd w A 3 n (esCells E)) (hW : Rd w Aw 1 nw (wv W)) (hn : n ≤ 1000000) (hnw : nw ≤ 1000000) (hd : dcF N s E W ≠ 0) :
    Calls Tryz.prog 52 #[.agg #[.int .i64 N, .slice A n c], .int .i64 s, .int .i64 t, oVal back nn ne Aw nw cw most] w fun e w' => e = .returned (.tuple #[.int .u64 0, .int .i64 (dcF N s E W)]) ∧ Grows w w' := by
  unfold oVal
  have C1 := hide (fun (W1 : World) (g : Grows w W1) => djCheck N s A n c E back nn ne Aw nw cw most W W1 (h.grows g) (hW.grows g) hn hnw)
  unfold oVal at C1
  have hr2 : (dcF N s E W == 0) = false := beq_eq_false_iff_ne.2 hd
  clear h hW
  generalize dcF N s E W = r at *
  go_enter Tryz.func52, Tryz.ntmps52
  go_wp2_with (go_at_call 67; refine (C1.out _ GG).mono ?_; rintro e w' ⟨rfl, hg⟩; obtain ⟨x1, rfl⟩ := hg.later; clear hg)
  refine bodyPost_ret (v := .tuple #[.int .u64 0, .int .i64 r]) (by simp (maxDischargeDepth := 6) [results, Tryz.results52, go_sem, *]) rfl ?_
  exact ⟨rfl, GG⟩
set_option maxRecDepth 20000 in
set_option maxHeartbeats 8000000 in
theorem djOneOut (N s t : Int) (A : Option Addr) (n c : Nat) (E : List Edg) (back : Bool) (nn ne : Value) (Aw : Option Addr) (nw cw most : Nat) (W : List Nat) (w : World) (h : Rd w A 3 n (esCells E)) (hW : Rd w Aw 1 nw (wv W)) (hn : n ≤ 1000000) (hnw : nw ≤ 1000000) (hd : dcF N s E W = 0) (ht : ¬ (0 ≤ t ∧ t < N)) :
    Calls Tryz.prog 52 #[.agg #[.int .i64 N, .slice A n c], .int .i64 s, .int .i64 t, oVal back nn ne Aw nw cw most] w fun e w' => e = .returned (.tuple #[.int .u64 0, .int .i64 7]) ∧ Grows w w' := by
  unfold oVal
  have C1 := hide (fun (W1 : World) (g : Grows w W1) => djCheck N s A n c E back nn ne Aw nw cw most W W1 (h.grows g) (hW.grows g) hn hnw)
  unfold oVal at C1
  rw [hd] at C1
  have C2 := hide (fun (W : World) => gNode N t (.slice A n c) W)
  have hb : nodeB N t = false := decide_eq_false ht
  rw [hb] at C2
  clear h hW hd hb ht
  go_enter Tryz.func52, Tryz.ntmps52
  go_wp2_with fail
  refine (C1.out _ GG).mono ?_; rintro e w' ⟨rfl, hg⟩; obtain ⟨x1, rfl⟩ := hg.later; clear hg
  go_wp2_with fail
  refine (C2.out _).mono ?_; rintro e w' ⟨rfl, hg⟩; obtain ⟨x2, rfl⟩ := Grows.later2 hg; clear hg
  go_wp2_with fail
  refine bodyPost_ret (v := .tuple #[.int .u64 0, .int .i64 7]) (by simp (maxDischargeDepth := 6) [results, Tryz.results52, go_sem, *]) rfl ?_
  exact ⟨rfl, GG⟩
theorem gLex_propGd {P : Program} {w0 : World} {ops : Array Oper} {Q : Act → Env → Prop} {a : Act} {G : Env} {o : Oper} {rest : List Oper} {t : Tmp} (hw : Region.wanted o (yielded ops a.tmps) = true) (hp : plainB ops o G = true) (hd : o.dst = some t) (hlt : t < a.tmps.size)
    (p : Pr) (hl : Lasts p) (hr : ∀ x : Later w0, runsTo P (fun u w' => Grows x.now w' ∧ p u w') ((execOp a.eval o).run P x.now))
    (h : gLex P ops w0 Q rest a (G.upd t p)) : gLex P ops w0 Q (o :: rest) a G := by
  obtain ⟨h1, h2, h3, h4⟩ := plain_spec hp
  refine ⟨.inr p, ⟨h1, h2, .inl ⟨hw, hl, ⟨t, hd, hlt⟩, fun w hw a' ha' => ?_⟩⟩, ?_⟩
  · rw [exec_same h4 h3 ha']
    exact hr ⟨w, hw⟩
  · rw [hd]
    exact h
end
end Go.Proofs.YtomednfddpggaaaGreat

/- Searches without options but edges that do not count (plain). -/
namespace Go.Proofs.YtomednfddpggaaaGreat
open Go Go.RowKit
abbrev noO (ne : List Int) : DOpt := ⟨false, [], ne, [], 0⟩
theorem noO_ok {N s : Nat} {E : List Edg} {ne : List Int} (hr : rightF N E = 0) (hs : s < N) (hn : ne.length ≤ 1000000) : WalkOk N s E (noO ne) :=
  ⟨hr, hs, .inl rfl, by show 0 < _; omega, by show ([] : List Int).length ≤ _; simp, hn⟩
theorem noO_w {N : Nat} {E : List Edg} (hr : rightF N E = 0) (i : Nat) (hi : i < E.length) : 1 ≤ gn (wtF N E []) i ∧ gn (wtF N E []) i ≤ 17592186044416 := by
  obtain ⟨r1, r2, r3, r4, r5⟩ := right_in hr
  have := r5 i hi
  have e : gn (wtF N E []) i = (ge E i).w.toNat := by
    unfold wtF
    rw [if_neg (by omega), if_neg (by simp), if_neg (by simp)]
    simp [gn, eW, ge, hi]
  rw [e]
  omega
theorem dc_none {N s : Nat} {E : List Edg} (hr : rightF N E = 0) (hs : s < N) : dcF N s E [] = 0 := by
  unfold dcF
  rw [if_neg (by omega), if_neg (by simp [nodeB]; omega), if_neg (by simp)]
  rfl
end Go.Proofs.YtomednfddpggaaaGreat

/- Contracts: which two nodes lie farthest apart, by the program and by the document's answer. -/
namespace Go.Proofs.YtomednfddpggaaaGreat
open Go Go.RowKit
attribute [local go_sem] Oper.semAt_some
structure Fr where
  a : Nat
  b : Nat
  m : Nat
def frU (D : List Nat) (v : Nat) : Nat → Fr → Fr
  | 0, s => s
  | u + 1, s => if gn D u < farV ∧ (frU D v u s).m < gn D u then ⟨v, u, gn D u⟩ else frU D v u s
def frV (Ds : Nat → List Nat) (N : Nat) : Nat → Fr
  | 0 => ⟨0, 0, 0⟩
  | v + 1 => frU (Ds v) v N (frV Ds N v)
def DsF (N : Nat) (E : List Edg) (v : Nat) : List Nat := refL (srchOf N E (noO [])) v
def farF (N : Nat) (E : List Edg) : Fr := frV (DsF N E) N N
theorem frU_yes {D : List Nat} {v u : Nat} {s : Fr} (h1 : gn D u < farV) (h2 : (frU D v u s).m < gn D u) : frU D v (u + 1) s = ⟨v, u, gn D u⟩ := by
  show (if _ then _ else _) = _
  rw [if_pos ⟨h1, h2⟩]
theorem frU_no {D : List Nat} {v u : Nat} {s : Fr} (h : ¬ (gn D u < farV ∧ (frU D v u s).m < gn D u)) : frU D v (u + 1) s = frU D v u s := by
  show (if _ then _ else _) = _
  rw [if_neg h]
theorem djAllR (N s : Nat) (A : Option Addr) (c : Nat) (E : List Edg) (w : World) (h : Rd w A 3 E.length (esCells E)) (hr : rightF N E = 0) (hs : s < N) :
    Calls Tryz.prog 34 #[.agg #[.int .i64 (N : Int), .slice A E.length c], .int .i64 (s : Int), .agg #[.bool false, .slice none 0 0, .slice none 0 0, .slice none 0 0, .int .u64 0]] w fun e w' => ∃ go, e = .returned (.tuple #[.slice (some ⟨go, 0, none⟩) N N, .int .i64 0]) ∧ Row1 w' go 38 1 N N (wv (DsF N E s)) ∧ Grows w w' := by
  have hok := noO_ok (ne := []) hr hs (by simp)
  obtain ⟨xs, h1, h2, _, h4, _⟩ := walk_ref hok (fun i hi => noO_w hr i hi)
  have h0 : Rd w none 1 0 [] := ⟨by simp, fun h => absurd h (by simp)⟩
  have hw0 : Rd w none 1 0 (wv []) := ⟨by simp [wv], fun h => absurd h (by simp)⟩
  refine (djAll N s A c E (noO []) none none none 0 0 0 xs w h h0 h0 hw0 hok (dc_none hr hs) h1 h2).mono ?_
  rintro e w' ⟨go, rfl, h5, _, hg⟩
  unfold DsF
  rw [h4]
  exact ⟨go, rfl, h5, hg⟩
theorem r14AllR (N s : Nat) (A : Option Addr) (c : Nat) (E : List Edg) (w : World) (h : Rd w A 3 E.length (esCells E)) (hr : rightF N E = 0) (hs : s < N) :
    Calls Tryz.prog 37 #[.agg #[.int .i64 (N : Int), .slice A E.length c], .int .i64 (s : Int), .agg #[.bool false, .slice none 0 0, .slice none 0 0, .slice none 0 0, .int .u64 0]] w fun e w' => ∃ gd, e = .returned (.slice (some ⟨gd, 0, none⟩) N N) ∧ Row1 w' gd 38 1 N N (wv (DsF N E s)) ∧ Grows w w' := by
  have h0 : Rd w none 1 0 [] := ⟨by simp, fun h => absurd h (by simp)⟩
  have hw0 : Rd w none 1 0 (wv []) := ⟨by simp [wv], fun h => absurd h (by simp)⟩
  exact r14All N s A c E (noO []) none none none 0 0 0 w h h0 h0 hw0 (noO_ok hr hs (by simp)) (fun i hi => (noO_w hr i hi).2)
set_option maxRecDepth 40000 in
set_option maxHeartbeats 8000000 in
theorem stFar (N : Nat) (A : Option Addr) (c : Nat) (E : List Edg) (w : World) (h : Rd w A 3 E.length (esCells E)) (hr : rightF N E = 0) :
    Calls Tryz.prog 21 #[.agg #[.int .i64 (N : Int), .slice A E.length c]] w fun e w' => e = .returned (.tuple #[.int .i64 (farF N E).a, .int .i64 (farF N E).b, .int .u64 (farF N E).m, .bool true]) ∧ Grows w w' := by
  obtain ⟨r1, r2, r3, r4, r5⟩ := right_in hr
  have C0 := hide (fun (W : World) (g : Grows w W) => by have := gRight N A E.length c E W (h.grows g) (by omega); rw [hr] at this; exact this)
  have C1 := hide (fun (s : Nat) (hs : s < N) (W : World) (g : Grows w W) => djAllR N s A c E W (h.grows g) hr hs)
  have hN : N ≤ 4096 := by omega
  have HF := hide (show farF N E = frV (DsF N E) N N from rfl)
  have HV := hide (fun v => show frV (DsF N E) N (v + 1) = frU (DsF N E v) v N (frV (DsF N E) N v) from rfl)
  rw [HF.out]
  clear h hr r1 r2 r3 r4 r5
  go_enter Tryz.func21, Tryz.ntmps21
  go_upto_region 4 with (go_at_call 31; refine (C0.out _ GG).mono ?_; rintro e w' ⟨rfl, hg⟩; obtain ⟨x0, rfl⟩ := hg.later; clear hg)
  have hgw : Grows w x0.now := GG
  have z1 : Arr x0.now w.heap.size 24 [.int .i64 (N : Int), .slice A E.length c] := (Arr.make w _ _).grow x0.grows
  clear C0
  generalize w.heap.size = b1 at *
  go_loopw [16, 2, 3, 4] (fun i s2 s3 s4 wr => ∃ v : Nat, v ≤ N ∧ i = .int .i64 (v : Int) ∧ s2 = .int .i64 ((frV (DsF N E) N v).a : Int) ∧ s3 = .int .i64 ((frV (DsF N E) N v).b : Int) ∧ s4 = .int .u64 ((frV (DsF N E) N v).m : Int) ∧ ∃ y : Later x0.now, wr = y.now) (fun i _ _ _ _ => N - (Go.RowKit.intOf i).toNat)
  case atStart => exact ⟨0, by omega, by go_num, rfl, rfl, rfl, ⟨_, Grows.refl _⟩, rfl⟩
  case round =>
    obtain ⟨v, hv, rfl, rfl, rfl, rfl, y, rfl⟩ := hrel
    by_cases hlt : v < N
    · have C1v := hide (C1.out v hlt)
      have HVv := hide (HV.out v)
      clear C1 HV
      generalize DsF N E v = D at *
      generalize frV (DsF N E) N v = s0 at *
      go_upto_region 7 with (go_at_call 34; refine (C1v.out _ (hgw.trans GG)).mono ?_; rintro e w' ⟨go, rfl, ha, hg⟩; obtain ⟨y1, rfl⟩ := hg.later; have HA := hide ha; clear hg ha)
      have hlD : D.length = N := by have := HA.out.len; simpa [wv] using this
      go_wp2_with fail
      go_loopw [28, 2, 3, 4] (fun i s2 s3 s4 wr => ∃ u : Nat, u ≤ N ∧ i = .int .i64 (u : Int) ∧ s2 = .int .i64 ((frU D v u s0).a : Int) ∧ s3 = .int .i64 ((frU D v u s0).b : Int) ∧ s4 = .int .u64 ((frU D v u s0).m : Int) ∧ wr = y1.now) (fun i _ _ _ _ => N - (Go.RowKit.intOf i).toNat)
      case atStart => exact ⟨0, by omega, by go_num, rfl, rfl, rfl, rfl⟩
      case round =>
        obtain ⟨u, hu, rfl, rfl, rfl, rfl, rfl⟩ := hrel
        by_cases hlu : u < N
        · have m1 := HA.out.mine (wv_at (W := D) (j := u) (by omega))
          obtain ⟨xa, hxa⟩ : ∃ x : Int, (gn D u : Int) = x := ⟨_, rfl⟩
          obtain ⟨xm, hxm⟩ : ∃ x : Int, ((frU D v u s0).m : Int) = x := ⟨_, rfl⟩
          obtain ⟨p, hp⟩ : ∃ p, decide (xa < 4611686018427387904) = p := ⟨_, rfl⟩
          obtain ⟨q, hq⟩ : ∃ q, decide (xm < xa) = q := ⟨_, rfl⟩
          have HY := hide (fun (h1 : p = true) (h2 : q = true) => show frU D v (u + 1) s0 = ⟨v, u, gn D u⟩ from frU_yes (by have := of_decide_eq_true (hp.trans h1); unfold farV; omega) (by have := of_decide_eq_true (hq.trans h2); omega))
          have HN := hide (fun (h1 : p = false ∨ q = false) => show frU D v (u + 1) s0 = frU D v u s0 from frU_no (fun ⟨k1, k2⟩ => by
            rcases h1 with h1 | h1
            · have := of_decide_eq_false (hp.trans h1); unfold farV at k1; omega
            · have := of_decide_eq_false (hq.trans h1); omega))
          have HXA := hide hxa
          have HXM := hide hxm
          rw [hxa] at m1
          rw [hxm]
          clear hxa hxm
          cases p with
          | false =>
            go_wp2_with fail
            go_roundw
            case measure => simp [Go.RowKit.intOf]; omega
            case rel => exact ⟨u + 1, by omega, by go_num, by rw [HN.out (.inl rfl)], by rw [HN.out (.inl rfl)], by rw [HN.out (.inl rfl), HXM.out], by first | rfl | trivial⟩
          | true =>
            cases q with
            | false =>
              go_wp2_with fail
              go_roundw
              case measure => simp [Go.RowKit.intOf]; omega
              case rel => exact ⟨u + 1, by omega, by go_num, by rw [HN.out (.inr rfl)], by rw [HN.out (.inr rfl)], by rw [HN.out (.inr rfl), HXM.out], by first | rfl | trivial⟩
            | true =>
              go_wp2_with fail
              go_roundw
              case measure => simp [Go.RowKit.intOf]; omega
              case rel => exact ⟨u + 1, by omega, by go_num, by rw [HY.out rfl rfl], by rw [HY.out rfl rfl], by rw [HY.out rfl rfl]; show _ = Value.int .u64 (gn D u : Int); rw [HXA.out], by first | rfl | trivial⟩
        · obtain rfl : N = u := by omega
          go_wp2_with fail
          go_roundw
          case measure => simp [Go.RowKit.intOf]; omega
          case rel => exact ⟨v + 1, by omega, by go_num, by rw [HVv.out], by rw [HVv.out], by rw [HVv.out], ⟨_, show Grows x0.now y1.now from GG⟩, rfl⟩
    · obtain rfl : N = v := by omega
      go_wp2_with fail
      generalize frV (DsF N E) N N = F at *
      refine bodyPost_ret (v := .tuple #[.int .i64 (F.a : Int), .int .i64 (F.b : Int), .int .u64 (F.m : Int), .bool true]) (by simp (maxDischargeDepth := 6) [results, Tryz.results21, go_sem, *]) rfl ⟨rfl, hgw.trans y.grows⟩
set_option maxRecDepth 40000 in
set_option maxHeartbeats 8000000 in
theorem r38Far (N : Nat) (A : Option Addr) (c : Nat) (E : List Edg) (w : World) (h : Rd w A 3 E.length (esCells E)) (hr : rightF N E = 0) :
    Calls Tryz.prog 22 #[.agg #[.int .i64 (N : Int), .slice A E.length c]] w fun e w' => e = .returned (.tuple #[.int .i64 (farF N E).a, .int .i64 (farF N E).b, .int .u64 (farF N E).m, .bool true]) ∧ Grows w w' := by
  obtain ⟨r1, r2, r3, r4, r5⟩ := right_in hr
  have C0 := hide (fun (W : World) (g : Grows w W) => by have := r5Right N A E.length c E W (h.grows g) (by omega); rw [hr] at this; exact this)
  have C1 := hide (fun (s : Nat) (hs : s < N) (W : World) (g : Grows w W) => r14AllR N s A c E W (h.grows g) hr hs)
  have hN : N ≤ 4096 := by omega
  have HF := hide (show farF N E = frV (DsF N E) N N from rfl)
  have HV := hide (fun v => show frV (DsF N E) N (v + 1) = frU (DsF N E v) v N (frV (DsF N E) N v) from rfl)
  rw [HF.out]
  clear h hr r1 r2 r3 r4 r5
  go_enter Tryz.func22, Tryz.ntmps22
  go_upto_region 5 with (go_at_call 36; refine (C0.out _ GG).mono ?_; rintro e w' ⟨rfl, hg⟩; obtain ⟨x0, rfl⟩ := hg.later; clear hg)
  have hgw : Grows w x0.now := GG
  have z1 : Arr x0.now w.heap.size 24 [.int .i64 (N : Int), .slice A E.length c] := (Arr.make w _ _).grow x0.grows
  clear C0
  generalize w.heap.size = b1 at *
  go_loopw [9, 6, 7, 8] (fun i s2 s3 s4 wr => ∃ v : Nat, v ≤ N ∧ i = .int .i64 (v : Int) ∧ s2 = .int .i64 ((frV (DsF N E) N v).a : Int) ∧ s3 = .int .i64 ((frV (DsF N E) N v).b : Int) ∧ s4 = .int .u64 ((frV (DsF N E) N v).m : Int) ∧ ∃ y : Later x0.now, wr = y.now) (fun i _ _ _ _ => N - (Go.RowKit.intOf i).toNat)
  case atStart => exact ⟨0, by omega, by go_num, rfl, rfl, rfl, ⟨_, Grows.refl _⟩, rfl⟩
  case round =>
    obtain ⟨v, hv, rfl, rfl, rfl, rfl, y, rfl⟩ := hrel
    by_cases hlt : v < N
    · have C1v := hide (C1.out v hlt)
      have HVv := hide (HV.out v)
      clear C1 HV
      generalize DsF N E v = D at *
      generalize frV (DsF N E) N v = s0 at *
      go_upto_region 8 with (go_at_call 37; refine (C1v.out _ (hgw.trans GG)).mono ?_; rintro e w' ⟨go, rfl, ha, hg⟩; obtain ⟨y1, rfl⟩ := hg.later; have HA := hide ha; clear hg ha)
      have hlD : D.length = N := by have := HA.out.len; simpa [wv] using this
      go_wp2_with fail
      go_loopw [11, 6, 7, 8] (fun i s2 s3 s4 wr => ∃ u : Nat, u ≤ N ∧ i = .int .i64 (u : Int) ∧ s2 = .int .i64 ((frU D v u s0).a : Int) ∧ s3 = .int .i64 ((frU D v u s0).b : Int) ∧ s4 = .int .u64 ((frU D v u s0).m : Int) ∧ wr = y1.now) (fun i _ _ _ _ => N - (Go.RowKit.intOf i).toNat)
      case atStart => exact ⟨0, by omega, by go_num, rfl, rfl, rfl, rfl⟩
      case round =>
        obtain ⟨u, hu, rfl, rfl, rfl, rfl, rfl⟩ := hrel
        by_cases hlu : u < N
        · have m1 := HA.out.mine (wv_at (W := D) (j := u) (by omega))
          obtain ⟨xa, hxa⟩ : ∃ x : Int, (gn D u : Int) = x := ⟨_, rfl⟩
          obtain ⟨xm, hxm⟩ : ∃ x : Int, ((frU D v u s0).m : Int) = x := ⟨_, rfl⟩
          obtain ⟨p, hp⟩ : ∃ p, decide (xa < 4611686018427387904) = p := ⟨_, rfl⟩
          obtain ⟨q, hq⟩ : ∃ q, decide (xm < xa) = q := ⟨_, rfl⟩
          have HY := hide (fun (h1 : p = true) (h2 : q = true) => show frU D v (u + 1) s0 = ⟨v, u, gn D u⟩ from frU_yes (by have := of_decide_eq_true (hp.trans h1); unfold farV; omega) (by have := of_decide_eq_true (hq.trans h2); omega))
          have HN := hide (fun (h1 : p = false ∨ q = false) => show frU D v (u + 1) s0 = frU D v u s0 from frU_no (fun ⟨k1, k2⟩ => by
            rcases h1 with h1 | h1
            · have := of_decide_eq_false (hp.trans h1); unfold farV at k1; omega
            · have := of_decide_eq_false (hq.trans h1); omega))
          have HXA := hide hxa
          have HXM := hide hxm
          rw [hxa] at m1
          rw [hxm]
          clear hxa hxm
          cases p with
          | false =>
            go_wp2_with fail
            go_roundw
            case measure => simp [Go.RowKit.intOf]; omega
            case rel => exact ⟨u + 1, by omega, by go_num, by rw [HN.out (.inl rfl)], by rw [HN.out (.inl rfl)], by rw [HN.out (.inl rfl), HXM.out], by first | rfl | trivial⟩
          | true =>
            cases q with
            | false =>
              go_wp2_with fail
              go_roundw
              case measure => simp [Go.RowKit.intOf]; omega
              case rel => exact ⟨u + 1, by omega, by go_num, by rw [HN.out (.inr rfl)], by rw [HN.out (.inr rfl)], by rw [HN.out (.inr rfl), HXM.out], by first | rfl | trivial⟩
            | true =>
              go_wp2_with fail
              go_roundw
              case measure => simp [Go.RowKit.intOf]; omega
              case rel => exact ⟨u + 1, by omega, by go_num, by rw [HY.out rfl rfl], by rw [HY.out rfl rfl], by rw [HY.out rfl rfl]; show _ = Value.int .u64 (gn D u : Int); rw [HXA.out], by first | rfl | trivial⟩
        · obtain rfl : N = u := by omega
          go_wp2_with fail
          go_roundw
          case measure => simp [Go.RowKit.intOf]; omega
          case rel => exact ⟨v + 1, by omega, by go_num, by rw [HVv.out], by rw [HVv.out], by rw [HVv.out], ⟨_, show Grows x0.now y1.now from GG⟩, rfl⟩
    · obtain rfl : N = v := by omega
      go_wp2_with fail
      generalize frV (DsF N E) N N = F at *
      refine bodyPost_ret (v := .tuple #[.int .i64 (F.a : Int), .int .i64 (F.b : Int), .int .u64 (F.m : Int), .bool true]) (by simp (maxDischargeDepth := 6) [results, Tryz.results22, go_sem, *]) rfl ⟨rfl, hgw.trans y.grows⟩
end Go.Proofs.YtomednfddpggaaaGreat

/- The first ones of each kind in a row of numbers (plain). -/
namespace Go.Proofs.YtomednfddpggaaaGreat
open Go Go.RowKit
theorem len_le_of_sub : ∀ (a b : List Int), a.Nodup → (∀ x ∈ a, x ∈ b) → a.length ≤ b.length
  | [], _, _, _ => Nat.zero_le _
  | x :: a, b, hn, hs => by
    rw [List.nodup_cons] at hn
    have hx : x ∈ b := hs x (by simp)
    have h1 := len_le_of_sub a (b.erase x) hn.2 (fun y hy => by
      have hne : y ≠ x := fun e => hn.1 (e ▸ hy)
      exact (List.mem_erase_of_ne hne).2 (hs y (by simp [hy])))
    have h2 := List.length_erase_of_mem hx
    have h3 : 0 < b.length := List.length_pos_of_mem hx
    simp only [List.length_cons]
    omega
theorem len_eq_of_mem {a b : List Int} (ha : a.Nodup) (hb : b.Nodup) (h : ∀ x, x ∈ a ↔ x ∈ b) : a.length = b.length :=
  Nat.le_antisymm (len_le_of_sub a b ha fun x hx => (h x).1 hx) (len_le_of_sub b a hb fun x hx => (h x).2 hx)
def fsts (l : List Int) : Nat → List Int
  | 0 => []
  | k + 1 => if gi l k ∈ l.take k then fsts l k else fsts l k ++ [gi l k]
theorem take_mem1 {l : List Int} {k : Nat} (hk : k < l.length) (x : Int) : x ∈ l.take (k + 1) ↔ x ∈ l.take k ∨ x = gi l k := by
  have e : gi l k = l[k] := by simp [gi, hk]
  rw [List.take_succ_eq_append_getElem hk, e, List.mem_append, List.mem_singleton]
theorem fsts_is (l : List Int) : ∀ k, k ≤ l.length → (fsts l k).Nodup ∧ ∀ x, x ∈ fsts l k ↔ x ∈ l.take k
  | 0, _ => by simp [fsts]
  | k + 1, hk => by
    obtain ⟨h1, h2⟩ := fsts_is l k (by omega)
    have h3 := take_mem1 (l := l) (k := k) (by omega)
    unfold fsts
    split
    · rename_i h
      refine ⟨h1, fun x => ?_⟩
      rw [h2, h3]
      exact ⟨.inl, fun e => e.elim id (fun e => e ▸ h)⟩
    · rename_i h
      refine ⟨?_, fun x => ?_⟩
      · rw [List.nodup_append]
        refine ⟨h1, by simp, fun a ha b hb e => ?_⟩
        simp only [List.mem_singleton] at hb
        subst hb e
        exact h ((h2 _).1 ha)
      · rw [List.mem_append, h2, h3, List.mem_singleton]
end Go.Proofs.YtomednfddpggaaaGreat

/- Who comes to whom (Tarjan), as functions. -/
namespace Go.Proofs.YtomednfddpggaaaGreat
open Go Go.RowKit
structure TjS where
  (met low part : List Int)
  stk : List Nat
  now : Int
  und : List Bool
def gbo (l : List Bool) (i : Nat) : Bool := l.getD i false
def ixOf (l : List Nat) (v : Nat) : Nat := l.findIdx (· == v)
def minT (l : List Nat) : Nat → Nat
  | 0 => gn l 0
  | k + 1 => min (minT l k) (gn l k)
def minL (l : List Nat) : Nat := minT l l.length
def setAll {α : Type} (p : List α) (l : List Nat) (x : α) : List α := l.foldl (fun p u => p.set u x) p
def TjS.enter (s : TjS) (v : Nat) : TjS := { s with now := s.now + 1, met := s.met.set v (s.now + 1), low := s.low.set v (s.now + 1), stk := s.stk ++ [v], und := s.und.set v true }
def TjS.lower (s : TjS) (v : Nat) (x : Int) : TjS := { s with low := s.low.set v (min (gi s.low v) x) }
def TjS.edge (rec : Nat → TjS → TjS) (v u : Nat) (s : TjS) : TjS :=
  if gi s.met u = 0 then (rec u s).lower v (gi (rec u s).low u)
  else if gbo s.und u = true then s.lower v (gi s.met u) else s
def TjS.cut (s : TjS) (v : Nat) : TjS :=
  { s with part := setAll s.part (s.stk.drop (ixOf s.stk v)) (minL (s.stk.drop (ixOf s.stk v)) : Int), und := setAll s.und (s.stk.drop (ixOf s.stk v)) false, stk := s.stk.take (ixOf s.stk v) }
def TjS.close (s : TjS) (v : Nat) : TjS := if gi s.low v < gi s.met v then s else s.cut v
def tj (row : Nat → List Nat) : Nat → Nat → TjS → TjS
  | 0, _, s => s
  | n + 1, v, s => ((row v).foldl (fun s u => s.edge (tj row n) v u) (s.enter v)).close v
structure TjOk (N : Nat) (s : TjS) : Prop where
  m : s.met.length = N
  l : s.low.length = N
  p : s.part.length = N
  u : s.und.length = N
  stk : ∀ u ∈ s.stk, u < N ∧ gi s.met u ≠ 0
  len : (s.stk.length : Int) ≤ s.now
  now : s.now + (s.met.count 0 : Nat) = N
theorem TjOk.le {N : Nat} {s : TjS} (h : TjOk N s) : 0 ≤ s.now ∧ s.now ≤ N := by
  have h1 := h.now
  have h2 : s.met.count 0 ≤ s.met.length := List.count_le_length
  rw [h.m] at h2
  omega
structure TjX (s s' : TjS) : Prop where
  met : ∀ u, gi s.met u ≠ 0 → gi s'.met u = gi s.met u
  stk : s.stk <+: s'.stk
  cnt : s'.met.count 0 ≤ s.met.count 0
theorem TjX.refl (s : TjS) : TjX s s := ⟨fun _ _ => rfl, List.prefix_refl _, Nat.le_refl _⟩
theorem TjX.trans {a b c : TjS} (h : TjX a b) (k : TjX b c) : TjX a c :=
  ⟨fun u hu => by rw [k.met u (by rw [h.met u hu]; exact hu), h.met u hu], h.stk.trans k.stk, Nat.le_trans k.cnt h.cnt⟩
theorem gi_set2 (ys : List Int) (j k : Nat) (v : Int) (hj : j < ys.length) : gi (ys.set j v) k = if k = j then v else gi ys k := by
  unfold gi
  by_cases h : k = j
  · subst h; simp [hj]
  · rw [if_neg h]
    simp [List.getElem?_set, Ne.symm h]
theorem TjOk.enter {N : Nat} {s : TjS} (h : TjOk N s) {v : Nat} (hv : v < N) (h0 : gi s.met v = 0) : TjOk N (s.enter v) ∧ (s.enter v).met.count 0 + 1 = s.met.count 0 := by
  have hvl : v < s.met.length := by rw [h.m]; exact hv
  have e0 : s.met[v] = 0 := by simpa [gi, hvl] using h0
  have hle := h.le
  have hn : s.now + 1 ≠ 0 := by omega
  have hpos : 0 < s.met.count 0 := List.count_pos_iff.2 (by rw [← e0]; exact List.getElem_mem _)
  have hc : (s.met.set v (s.now + 1)).count 0 + 1 = s.met.count 0 := by
    rw [List.count_set hvl, e0]
    have e : (s.now + 1 == 0) = false := by simpa using hn
    simp only [e, beq_self_eq_true, if_true, Bool.false_eq_true, if_false]
    omega
  refine ⟨⟨by simp [TjS.enter, h.m], by simp [TjS.enter, h.l], h.p, by simp [TjS.enter, h.u], fun u hu => ?_, ?_, ?_⟩, hc⟩
  · show u < N ∧ gi (s.met.set v (s.now + 1)) u ≠ 0
    rw [gi_set2 _ _ _ _ hvl]
    rcases List.mem_append.1 hu with hu | hu
    · refine ⟨(h.stk u hu).1, ?_⟩
      split
      · exact hn
      · exact (h.stk u hu).2
    · rw [List.mem_singleton.1 hu, if_pos rfl]
      exact ⟨hv, hn⟩
  · have := h.len
    show ((s.stk ++ [v]).length : Int) ≤ s.now + 1
    simp only [List.length_append, List.length_singleton]
    omega
  · have := h.now
    show s.now + 1 + ((s.met.set v (s.now + 1)).count 0 : Nat) = N
    omega
theorem TjX.enter {N : Nat} {s : TjS} (h : TjOk N s) {v : Nat} (hv : v < N) (h0 : gi s.met v = 0) : TjX s (s.enter v) := by
  have hvl : v < s.met.length := by rw [h.m]; exact hv
  refine ⟨fun u hu => ?_, List.prefix_append _ _, by have := (h.enter hv h0).2; omega⟩
  show gi (s.met.set v (s.now + 1)) u = _
  rw [gi_set2 _ _ _ _ hvl, if_neg (fun e => by subst e; exact hu h0)]
theorem TjOk.lower {N : Nat} {s : TjS} (h : TjOk N s) (v : Nat) (x : Int) : TjOk N (s.lower v x) := ⟨h.m, by simp [TjS.lower, h.l], h.p, h.u, h.stk, h.len, h.now⟩
theorem TjX.lower (s : TjS) (v : Nat) (x : Int) : TjX s (s.lower v x) := ⟨fun _ _ => rfl, List.prefix_refl _, Nat.le_refl _⟩
theorem setAll_len {α : Type} (l : List Nat) (x : α) : ∀ p : List α, (setAll p l x).length = p.length := by
  induction l with
  | nil => exact fun _ => rfl
  | cons u l ih => intro p; exact (ih (p.set u x)).trans (by simp)
theorem TjOk.close {N : Nat} {s : TjS} (h : TjOk N s) (v : Nat) : TjOk N (s.close v) := by
  unfold TjS.close
  split
  · exact h
  · refine ⟨h.m, h.l, by show (setAll _ _ _).length = N; rw [setAll_len]; exact h.p, by show (setAll _ _ _).length = N; rw [setAll_len]; exact h.u, fun u hu => h.stk u (List.mem_of_mem_take hu), ?_, h.now⟩
    have := h.len
    show ((s.stk.take (ixOf s.stk v)).length : Int) ≤ s.now
    rw [List.length_take]
    omega
theorem ixOf_lt {l : List Nat} {v : Nat} (h : v ∈ l) : ixOf l v < l.length := List.findIdx_lt_length_of_exists ⟨v, h, by simp⟩
theorem ixOf_at {l : List Nat} {v : Nat} (h : v ∈ l) : l[ixOf l v]'(ixOf_lt h) = v := by
  have := List.findIdx_getElem (xs := l) (p := (· == v)) (w := ixOf_lt h)
  exact LawfulBEq.eq_of_beq this
theorem ixOf_pre {l : List Nat} {v j : Nat} (hj : j < ixOf l v) : gn l j ≠ v := by
  intro e
  have hlt : j < l.length := Nat.lt_of_lt_of_le hj List.findIdx_le_length
  have := List.not_of_lt_findIdx (p := (· == v)) hj
  have e2 : l[j] = v := by simpa [gn, hlt] using e
  simp [e2] at this
theorem TjX.close {s0 s : TjS} (v : Nat) (hx : TjX s0 s) (hv : v ∉ s0.stk) (hin : v ∈ s.stk) : TjX s0 (s.close v) := by
  unfold TjS.close
  split
  · exact hx
  · refine ⟨hx.met, ?_, hx.cnt⟩
    show s0.stk <+: s.stk.take (ixOf s.stk v)
    refine List.prefix_take_iff.2 ⟨hx.stk, ?_⟩
    rcases Nat.lt_or_ge (ixOf s.stk v) s0.stk.length with hlt | hge
    · exfalso
      have e1 := ixOf_at hin
      have e2 := hx.stk.getElem hlt
      exact hv (by rw [← e1, ← e2]; exact List.getElem_mem _)
    · exact hge
theorem fold_ok {N : Nat} {rec : Nat → TjS → TjS} {v n : Nat} (hr : ∀ u s, TjOk N s → u < N → gi s.met u = 0 → s.met.count 0 ≤ n → TjOk N (rec u s) ∧ TjX s (rec u s)) :
    ∀ (l : List Nat) (s : TjS), (∀ u ∈ l, u < N) → TjOk N s → s.met.count 0 ≤ n → TjOk N (l.foldl (fun s u => s.edge rec v u) s) ∧ TjX s (l.foldl (fun s u => s.edge rec v u) s)
  | [], s, _, h, _ => ⟨h, TjX.refl s⟩
  | u :: l, s, hl, h, hc => by
    have h1 : TjOk N (s.edge rec v u) ∧ TjX s (s.edge rec v u) := by
      unfold TjS.edge
      split
      · rename_i h0
        obtain ⟨a, b⟩ := hr u s h (hl u (by simp)) h0 hc
        exact ⟨a.lower _ _, b.trans (TjX.lower _ _ _)⟩
      · split
        · exact ⟨h.lower _ _, TjX.lower _ _ _⟩
        · exact ⟨h, TjX.refl s⟩
    obtain ⟨a, b⟩ := fold_ok hr l (s.edge rec v u) (fun x hx => hl x (by simp [hx])) h1.1 (Nat.le_trans h1.2.cnt hc)
    exact ⟨a, h1.2.trans b⟩
theorem tj_ok {N : Nat} {row : Nat → List Nat} (hrow : ∀ v, ∀ u ∈ row v, u < N) : ∀ n v s, TjOk N s → v < N → gi s.met v = 0 → s.met.count 0 ≤ n → TjOk N (tj row n v s) ∧ TjX s (tj row n v s)
  | 0, v, s, h, hv, h0, hc => by
    exfalso
    have hvl : v < s.met.length := by rw [h.m]; exact hv
    have e0 : s.met[v] = 0 := by simpa [gi, hvl] using h0
    have hpos : 0 < s.met.count 0 := List.count_pos_iff.2 (by rw [← e0]; exact List.getElem_mem _)
    omega
  | n + 1, v, s, h, hv, h0, hc => by
    obtain ⟨h1, h2⟩ := h.enter hv h0
    obtain ⟨a, b⟩ := fold_ok (v := v) (fun u s h hu h0 hc => tj_ok hrow n u s h hu h0 hc) (row v) (s.enter v) (hrow v) h1 (by omega)
    have hx := (TjX.enter h hv h0).trans b
    exact ⟨a.close v, hx.close v (fun e => (h.stk v e).2 h0) (b.stk.subset (by simp [TjS.enter]))⟩
end Go.Proofs.YtomednfddpggaaaGreat
