/- Contracts: a search's iterator is made; how far all nodes are. -/
import Derived.Test.YtpnncadglhlclaaWalk
import Derived.Test.YtpnncadglhlclaaRepeat
namespace Go.Proofs.Ytpnncadglhlclaa
open Go Go.RowKit
attribute [local go_sem] Oper.semAt_some
set_option maxHeartbeats 1000000 in
theorem djWalk (g s o : Value) (N : Int) (A : Value) (hg : g = .agg #[.int .i64 N, A]) (s' : Int) (hs : s = .int .i64 s') (o1 o2 o3 o4 o5 : Value) (ho : o = .agg #[o1, o2, o3, o4, o5]) (w : World) : Calls Try.prog 81 #[g, s, o] w fun e w' =>
    ∃ b, e = .returned (.func (.func 116) #[] #[.pointer (some ⟨b, 0, none⟩), .pointer (some ⟨b + 1 + 1, 0, none⟩), .pointer (some ⟨b + 1, 0, none⟩)]) ∧ w.heap.size = b ∧
      Arr w' b 24 [.int .i64 N, A] ∧ Arr w' (b + 1) 3 [.int .i64 s'] ∧ Arr w' (b + 1 + 1) 39 [o1, o2, o3, o4, o5] ∧ Grows w w' := by
  subst hg hs ho
  go_enter Try.func81, Try.ntmps81
  go_wp2
  go_ret
  refine ⟨w.heap.size, rfl, rfl, ⟨by simp [heap_push, Array.getElem_push, Array.getElem?_push, eq_add2]⟩, ⟨by simp [heap_push, Array.getElem_push, Array.getElem?_push, eq_add2]⟩, ⟨by simp [heap_push, Array.getElem_push, Array.getElem?_push, eq_add2]⟩, (by repeat (first | exact Grows.refl _ | refine Grows.now ?_ _ | refine Grows.new ?_ _ | refine Grows.drewN ?_ _ | refine Grows.drew ?_ | assumption | (refine Grows.set ?_ (by first | omega | (simp; done) | (simp; omega)) _)))⟩
abbrev farV : Nat := 4611686018427387904
/-- How far all nodes are, of those that came. -/
def outL (N : Nat) (xs : List (Nat × Nat)) : List Nat := xs.foldl (fun L p => L.set p.1 p.2) (List.replicate N farV)
theorem outL_snoc (N : Nat) (xs : List (Nat × Nat)) (p : Nat × Nat) : outL N (xs ++ [p]) = (outL N xs).set p.1 p.2 := by simp [outL, List.foldl_append]
theorem outL_len (N : Nat) (xs : List (Nat × Nat)) : (outL N xs).length = N := by
  unfold outL
  suffices h : ∀ L : List Nat, (xs.foldl (fun L p => L.set p.1 p.2) L).length = L.length by rw [h]; simp
  induction xs with
  | nil => intro L; rfl
  | cons p xs ih => intro L; rw [List.foldl_cons, ih, List.length_set]
/-- Between two nodes. -/
def AllI (w : World) (lo b9 go N : Nat) (p : List (Nat × Nat)) (Mi : Nat → Prop) (W : World) : Prop :=
  (∃ y : Later w, W = y.now) ∧ Arr W b9 36 [.slice (some ⟨go, 0, none⟩) N N] ∧ Row1 W go 37 1 N N (wv (outL N p)) ∧ (∀ k, Mi k → lo ≤ k ∧ k < W.heap.size) ∧ lo ≤ W.heap.size
theorem AllI.yields {w : World} {lo b9 go N : Nat} (h1 : b9 < lo) (h2 : go < lo) (hlo : w.heap.size ≤ lo) : Yields' (AllI w lo b9 go N) := by
  rintro p Mi W Mi' W' ⟨⟨y, rfl⟩, a1, a2, a3, a4⟩ ht hM'
  refine ⟨⟨⟨W', ht.later y.grows (fun k hk => Nat.le_trans hlo (a3 k hk).1)⟩, rfl⟩, a1.touch ht (fun e => by have := (a3 _ e).1; omega), a2.touch ht (fun e => by have := (a3 _ e).1; omega), fun k hk => ?_, Nat.le_trans a4 ht.size⟩
  obtain ⟨h | h, h'⟩ := hM' k hk
  · exact ⟨(a3 k h).1, h'⟩
  · exact ⟨by omega, h'⟩
def FrameAll (b9 v far : Nat) (a' : Act) : Prop := ∃ u0 u1 u2 u3 u4 u5 u6 u7 u8 u12 u13 u14 u15 u16 u17 u18 u19 u20 u21 u22 u23 u24 u25 u26 u27 u28 u29 u30 u31 u32 u33 : Value, a' = { tmps := #[u0, u1, u2, u3, u4, u5, u6, u7, u8, .pointer (some ⟨b9, 0, none⟩), .int .i64 (v : Int), .int .u64 (far : Int), u12, u13, u14, u15, u16, u17, u18, u19, u20, u21, u22, u23, u24, u25, u26, u27, u28, u29, u30, u31, u32, u33], defers := [] }
def AllB (w : World) (lo b9 go N : Nat) (x : Nat × Nat) (a' : Act) (p : List (Nat × Nat)) (Mi : Nat → Prop) (W : World) : Prop := FrameAll b9 x.1 x.2 a' ∧ AllI w lo b9 go N p Mi W
set_option maxRecDepth 40000 in
set_option maxHeartbeats 8000000 in
theorem djAll (N s : Nat) (A : Option Addr) (c : Nat) (E : List Edg) (o : DOpt) (An Ae Aw : Option Addr) (cn ce cw : Nat) (xs : List (Nat × Nat)) (w : World) (h : Rd w A 3 E.length (esCells E)) (h2 : Rd w An 1 o.nn.length (o.nn.map (.int .i64))) (h3 : Rd w Ae 1 o.ne.length (o.ne.map (.int .i64))) (h4 : Rd w Aw 1 o.W.length (wv o.W))
    (hok : WalkOk N s E o) (hd : dcF N s E o.W = 0) (hxs : if (s : Int) ∈ o.nn then xs = [] else Trace (srchOf N E o) (reachS o.most (st0 N) s 0) xs) (hx : ∀ p, p ∈ xs → p.1 < N) :
    Calls Try.prog 26 #[.agg #[.int .i64 (N : Int), .slice A E.length c], .int .i64 (s : Int), oVal o.back (.slice An o.nn.length cn) (.slice Ae o.ne.length ce) Aw o.W.length cw o.most] w fun e w' =>
      ∃ go, e = .returned (.tuple #[.slice (some ⟨go, 0, none⟩) N N, .int .i64 0]) ∧ Row1 w' go 37 1 N N (wv (outL N xs)) ∧ w.heap.size ≤ go ∧ Grows w w' := by
  unfold oVal
  obtain ⟨r1, r2, r3, r4, r5⟩ := right_in hok.right
  have r2' : N ≤ 4096 := by omega
  have r1' : 1 ≤ N := by omega
  have C1 := hide (fun (W : World) (g : Grows w W) => djCheck (N : Int) s A E.length c E o.back (.slice An o.nn.length cn) (.slice Ae o.ne.length ce) Aw o.W.length cw o.most o.W W (h.grows g) (h4.grows g) (by omega) (by have := hok.wts; omega))
  rw [hd] at C1
  unfold oVal at C1
  have C2 := hide (fun (W : World) (g : Nat) (hh : Holds W ⟨g, 0, none⟩ (.int .u64 ((4611686018427387904 : Nat) : Int))) => repeatU g 1 4611686018427387904 N W hh r1' (by omega))
  have C3 := hide (fun (W : World) => djWalk (.agg #[.int .i64 (N : Int), .slice A E.length c]) (.int .i64 (s : Int)) (.agg #[.bool o.back, .slice An o.nn.length cn, .slice Ae o.ne.length ce, .slice Aw o.W.length cw, .int .u64 (o.most : Int)]) (N : Int) (.slice A E.length c) rfl (s : Int) rfl _ _ _ _ _ rfl W)
  have HM := hide (And.intro h (And.intro h2 (And.intro h3 h4)))
  have HOK := hide hok
  have HXS := hide hxs
  have HX := hide hx
  clear h h2 h3 h4 hok hxs hx hd r1 r2 r3 r4 r5
  refine calls_of_marks Try.func26 rfl ?_
  simp only [Try.ntmps26, List.size_toArray, List.length_cons, List.length_nil, Nat.reduceAdd, Nat.reduceSub, Array.replicate_succ, Array.replicate_zero, List.push_toArray, List.append_toArray, List.nil_append, List.cons_append]
  go_wp2_with fail
  refine (C1.out _ (by repeat (first | exact Grows.refl _ | refine Grows.now ?_ _ | refine Grows.new ?_ _ | refine Grows.drewN ?_ _ | refine Grows.drew ?_ | assumption | (refine Grows.set ?_ (by first | omega | (simp; done) | (simp; omega)) _)))).mono ?_; rintro e w' ⟨rfl, hg⟩; obtain ⟨x1, rfl⟩ := hg.later; clear hg
  go_wp2_with fail
  refine (C2.out _ _ inferInstance).mono ?_; rintro e w' ⟨go, rfl, hrow, hgo, hg⟩; obtain ⟨x2, rfl⟩ := Grows.later2 (((Grows.refl x1.now).new _).trans hg); have HROW := hide hrow; clear hrow hg
  go_wp2_with fail
  refine (C3.out _).mono ?_; rintro e W0 ⟨b, rfl, hb, z1, z2, z3, hg⟩
  obtain ⟨b9, hb9⟩ : ∃ b9, x2.now.heap.size = b9 := ⟨_, rfl⟩
  have hbb : b = b9 + 1 := by rw [← hb]; simp [hb9]
  have q9 : Arr W0 b9 36 [.slice (some ⟨go, 0, none⟩) N N] := by rw [← hb9]; exact (Arr.make _ _ _).grow hg
  have qgo : Row1 W0 go 37 1 N N (wv (outL N [])) := (HROW.out.grow ((Grows.refl _).new _)).grow hg
  have hgo1 : w.heap.size ≤ go := by have := x1.size; simp at this hgo; omega
  have hgo2 : go < b9 := by rw [← hb9]; exact HROW.out.lt
  have hgw : Grows w W0 := Grows.trans (Grows.trans (by show Grows w x2.now; exact (by repeat (first | exact Grows.refl _ | refine Grows.now ?_ _ | refine Grows.new ?_ _ | refine Grows.drewN ?_ _ | refine Grows.drew ?_ | assumption | (refine Grows.set ?_ (by first | omega | (simp; done) | (simp; omega)) _)))) ((Grows.refl _).new _)) hg
  have hW0 := z3.lt
  rw [hb9]
  have hsz0 := hgw.size
  clear hb hg HROW hgo hb9 C1 C2 C3
  have hwalk : WalkAt (fun k => k < w.heap.size ∨ (b ≤ k ∧ k ≤ b + 1 + 1)) W0 b (b + 1 + 1) (b + 1) N s E o := by
    obtain ⟨h1, h2, h3, h4⟩ := HM.out
    exact ⟨A, c, An, cn, Ae, ce, Aw, cw, z1, z3, z2, h1.grows hgw, h2.grows hgw, h3.grows hgw, h4.grows hgw, .inr ⟨by omega, by omega⟩, .inr ⟨by omega, by omega⟩, .inr ⟨by omega, by omega⟩, fun h p hp => .inl (h1.block_lt (by omega) h p hp), fun h p hp => .inl (h2.block_lt (by omega) h p hp), fun h p hp => .inl (h3.block_lt (by omega) h p hp), fun h p hp => .inl (h4.block_lt (by omega) h p hp)⟩
  have HGV := hide (djWalk1 (fun k => k < w.heap.size ∨ (b ≤ k ∧ k ≤ b + 1 + 1)) (fun k => k < w.heap.size ∨ (b ≤ k ∧ k ≤ b + 1 + 1)) (fun _ => False) b (b + 1 + 1) (b + 1) N s E o xs W0 hwalk (fun k hk => .inl hk) (fun k hk => hk.elim) (fun k hk => by rcases hk with hk | hk <;> omega) HOK.out HXS.out)
  have H0 := hide (show AllI w W0.heap.size b9 go N [] (fun _ => False) W0 from ⟨⟨⟨W0, hgw⟩, rfl⟩, q9, qgo, fun k hk => hk.elim, Nat.le_refl _⟩)
  have hIy := AllI.yields (w := w) (lo := W0.heap.size) (b9 := b9) (go := go) (N := N) (by omega) (by omega) hsz0
  have hbg : go < b := by omega
  have hBW : ∀ k, (k < w.heap.size ∨ (b ≤ k ∧ k ≤ b + 1 + 1)) → k < W0.heap.size := fun k hk => by rcases hk with hk | hk <;> omega
  clear hwalk q9 qgo z1 z2 z3 HM HXS HOK hbb
  go_wp2_with fail
  refine (wpIn_wide (n := 0)).1 ?_
  have hGV := HGV.out
  have h0 := H0.out
  clear HGV H0
  refine wp_rangeG (w0 := W0) (gf := 116) rfl (enters_of Try.func116 (by kernel_rfl) rfl) hGV (Keeps.refl _ _ _) hBW (fun k hk => hk.elim) (fun _ => rfl)
    (AllI w W0.heap.size b9 go N) (fun _ _ _ _ => False) hIy (fun c _ _ _ _ _ h _ _ => h.elim) h0 (AllB w W0.heap.size b9 go N) ?hIb ?assign ?body ?done ?stop
  case hIb =>
    rintro x a' p Mi W1 Mi' W' ⟨hf, hI⟩ ht hM'
    exact ⟨hf, hIy p Mi W1 Mi' W' hI ht hM'⟩
  case assign =>
    intro l2 p x rest Mi W1 hsp hI
    have HI := hide hI
    clear hI
    unfold encD
    gi_wp2
    refine ⟨⟨?_, HI.out⟩, Keeps.refl _ _ _⟩
    unfold FrameAll
    (repeat apply Exists.intro)
    rfl
  case body =>
    rintro l2 p ⟨v, far⟩ rest Mi a' W1 hsp hl2 hMl hrec ⟨⟨u0, u1, u2, u3, u4, u5, u6, u7, u8, u12, u13, u14, u15, u16, u17, u18, u19, u20, u21, u22, u23, u24, u25, u26, u27, u28, u29, u30, u31, u32, u33, rfl⟩, ⟨⟨y, rfl⟩, ha, hr, hm, hlo⟩⟩
    have hv : v < N := HX.out (v, far) (by rw [hsp]; simp)
    have m0 : Mine y.now ⟨go, v, none⟩ (.int .u64 (gn (outL N p) v : Int)) := hr.mine (wv_at (by rw [outL_len]; exact hv))
    have HR := hide hr
    have HMM := hide hm
    have HSN := hide (outL_snoc N p (v, far))
    clear hsp hl2 hMl hrec hr hm h0 hIy hGV HX
    simp only at ha m0 ⊢
    generalize gn (outL N p) v = old at *
    gi_wp2
    have hne : b9 ≠ go := by omega
    refine ⟨((Touch.refl _ _).set (.inl ?_) _), ⟨⟨_, y.grows.set hgo1 _⟩, rfl⟩, ha.other (Ne.symm hne) _, ?_, fun k hk => ?_, ?_⟩
    · rintro ((h | h) | h)
      · have h : go < w.heap.size := h
        omega
      · have h : b ≤ go ∧ go ≤ b + 1 + 1 := h
        omega
      · have h : W0.heap.size ≤ go := (HMM.out _ h).1
        omega
    · rw [HSN.out, ← wv_set]
      exact HR.out.set _ _
    · rw [size_setCell]; exact HMM.out k hk
    · rw [size_setCell]; exact hlo
  case done =>
    intro D Mi W1 hlD hMD hI hDW
    obtain ⟨⟨y, rfl⟩, ha, hr, hm, hlo⟩ := hI
    have HR := hide hr
    have HMM := hide hm
    have HDW := hide hDW
    clear hr hm hDW hIy h0 hGV
    gi_wp2
    go_wp2_with fail
    refine marks_ret [D] rfl ((Marks.nil _).cons HDW.out (by simp)) (fun W' htt => ⟨_, results_tmp2 rfl _ _ _, go, rfl, HR.out.touch htt (fun e => ?_), hgo1, htt.later y.grows (fun k hk => ?_)⟩)
    · have := List.mem_singleton.1 e
      omega
    · have := List.mem_singleton.1 hk
      omega
  case stop =>
    intro D c p i rest Mi W1 _ _ _ h _
    exact h.elim
set_option maxRecDepth 20000 in
set_option maxHeartbeats 4000000 in
theorem djAllNo (N s : Int) (A : Option Addr) (n c : Nat) (E : List Edg) (back : Bool) (nn ne : Value) (Aw : Option Addr) (nw cw most : Nat) (W : List Nat) (w : World) (h : Rd w A 3 n (esCells E)) (hW : Rd w Aw 1 nw (wv W)) (hn : n ≤ 1000000) (hnw : nw ≤ 1000000) (hd : dcF N s E W ≠ 0) :
    Calls Try.prog 26 #[.agg #[.int .i64 N, .slice A n c], .int .i64 s, oVal back nn ne Aw nw cw most] w fun e w' => e = .returned (.tuple #[.slice none 0 0, .int .i64 (dcF N s E W)]) ∧ Grows w w' := by
  unfold oVal
  have C1 := hide (fun (W1 : World) (g : Grows w W1) => djCheck N s A n c E back nn ne Aw nw cw most W W1 (h.grows g) (hW.grows g) hn hnw)
  unfold oVal at C1
  have hr2 : (dcF N s E W == 0) = false := beq_eq_false_iff_ne.2 hd
  clear h hW
  generalize dcF N s E W = r at *
  go_enter Try.func26, Try.ntmps26
  go_wp2_with (go_at_call 35; refine (C1.out _ (by repeat (first | exact Grows.refl _ | refine Grows.now ?_ _ | refine Grows.new ?_ _ | refine Grows.drewN ?_ _ | refine Grows.drew ?_ | assumption | (refine Grows.set ?_ (by first | omega | (simp; done) | (simp; omega)) _)))).mono ?_; rintro e w' ⟨rfl, hg⟩; obtain ⟨x1, rfl⟩ := hg.later; clear hg)
  go_ret2
  exact ⟨rfl, (by repeat (first | exact Grows.refl _ | refine Grows.now ?_ _ | refine Grows.new ?_ _ | refine Grows.drewN ?_ _ | refine Grows.drew ?_ | assumption | (refine Grows.set ?_ (by first | omega | (simp; done) | (simp; omega)) _)))⟩
end Go.Proofs.Ytpnncadglhlclaa
