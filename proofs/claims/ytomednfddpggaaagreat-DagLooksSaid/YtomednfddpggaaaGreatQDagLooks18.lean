/- The nodes, by how far they are; and the answer's: each put behind all that are no farther. -/
import Derived.Test.YtomednfddpggaaaGreatQDagLooks14
import Derived.Test.YtomednfddpggaaaGreatQDagLooks15
import Derived.Test.YtomednfddpggaaaGreatQDagLooks16
import Derived.Test.YtomednfddpggaaaGreatQDagLooks00
/- The nodes, by how far they are; and the answer's: each put behind all that are no farther. -/
namespace Go.Proofs.YtomednfddpggaaaGreat
open Go Go.RowKit
attribute [local go_sem] Oper.semAt_some
section
variable {F : Fence} {m : Nat} {w : World} {e : TypeId} {ops : Array Oper} {rest : List Oper} {o : Oper} {a : Act} {Q : Exit → Act → World → Prop}
theorem wp_appIn {t : TypeId} (E : Elem t e 1) (hgd : o.guard = none) (s x : Operand) (ho : o.op = .call { callee := .builtin .append, args := #[s, x], argTypes := #[t, t] })
    (lo : Nat) (hlo : lo ≤ w.heap.size) (n c : Nat) (A : Option Addr) (xs : List Value) (hs : a.eval s = .slice A n c) (hown : Own w lo e 1 A n c xs) (g c' : Nat) (v : Value) (hx : a.eval x = .slice (some ⟨g, 0, none⟩) 1 c')
    (hv : Holds w ⟨g, 0, none⟩ v) (h1 : v.oneCell' = true) (hnm : n + 1 ≤ 1000000000000)
    (h : ∀ A' c'' w', Own w' lo e 1 A' (n + 1) c'' (xs ++ [v]) → Touch (fun k => ∃ p, A = some p ∧ p.block = k) w w' → (∀ p, A' = some p → (∃ q, A = some q ∧ q.block = p.block) ∨ New w w' p.block) → wpListIn F m Tryz.prog ops Q rest (a.put o.dst (.slice A' (n + 1) c'')) w') :
    wpListIn F m Tryz.prog ops Q (o :: rest) a w := by
  obtain ⟨i, z, bytes, hi, hz, hsz, hby, hzs, hb64⟩ := E.info
  refine wpListIn_plain hgd fun K hK' => ?_
  obtain ⟨v', w', hr, hown', hgr, _, hat⟩ := run_append_own_at (P := Tryz.prog) w lo t o.type e i z 1 bytes E.under hi hz hsz hby hzs E.pos (.slice A n c) n xs hown ⟨g, 0, none⟩ 1 c' [v] rfl (fun j u hu => by
    have hj : j = 0 := by
      have := (List.getElem?_eq_some_iff.1 hu).1
      simpa using this
    subst hj
    simp at hu
    subst hu
    simpa [Addr.add] using hv.cell) (by intro u hu; simp at hu; rw [hu]; exact h1) (by unfold maxLen; omega) (Nat.le_trans (Nat.mul_le_mul hnm hb64) (by omega)) hlo
  obtain ⟨A', c'', rfl⟩ := own_form hown'
  have ht : Touch (fun k => ∃ p, A = some p ∧ p.block = k) w w' := (Touch.refl _ w).grown hgr fun k hk => .inl (by
    cases A with
    | none => simp [Value.ownBlock] at hk
    | some p => simp [Value.ownBlock] at hk; exact ⟨p, rfl, hk⟩)
  have hloc : ∀ p, A' = some p → (∃ q, A = some q ∧ q.block = p.block) ∨ New w w' p.block := fun p hp => by
    have hlt := (hown'.lt p.block (by subst hp; rfl)).2
    subst hp
    simp only [Value.ownBlock] at hat
    rcases hat with hat | hat
    · left
      cases A with
      | none => simp at hat
      | some q => exact ⟨q, rfl, by simpa using hat.symm⟩
    · right
      have e9 : p.block = w.heap.size := by simpa using hat
      exact ⟨Nat.le_of_eq e9.symm, hlt⟩
  unfold Oper.wpIn
  refine ⟨?_, ?_⟩
  · simp [Oper.about, ho, resolve, Target.leads, Sem.run_pure]
  · rw [Oper.semAt_plain F _ _ (by rw [ho]; intro c hc'; cases hc')]
    simp [execOp, ho, resolve, invoke, builtin, hs, hx, hr, Result.andThen]
    exact hK' _ _ (h A' c'' w' hown' ht hloc)
end
def ordL (xs : List (Nat × Nat)) : List Int := xs.map fun p => (p.1 : Int)
theorem ordL_snoc (xs : List (Nat × Nat)) (p : Nat × Nat) : ordL (xs ++ [p]) = ordL xs ++ [(p.1 : Int)] := by simp [ordL]
def OrdI (w : World) (lo b6 : Nat) (p : List (Nat × Nat)) (Mi : Nat → Prop) (W : World) : Prop :=
  ∃ A c, (∃ y : Later w, W = y.now) ∧ Arr W b6 36 [.slice A p.length c] ∧ Own W lo 3 1 A p.length c ((ordL p).map (.int .i64)) ∧ (∀ q, A = some q → ¬ Mi q.block) ∧ (∀ k, Mi k → lo ≤ k ∧ k < W.heap.size) ∧ lo ≤ W.heap.size
theorem OrdI.yields {w : World} {lo b6 : Nat} (h1 : b6 < lo) (hlo : w.heap.size ≤ lo) : Yields' (OrdI w lo b6) := by
  rintro p Mi W Mi' W' ⟨A, c, ⟨y, rfl⟩, a1, a2, a3, a4, a5⟩ ht hM'
  refine ⟨A, c, ⟨⟨W', ht.later y.grows (fun k hk => Nat.le_trans hlo (a4 k hk).1)⟩, rfl⟩, a1.touch ht (fun e => by have := (a4 _ e).1; omega), a2.touch ht a3, fun q hq e => ?_, fun k hk => ?_, Nat.le_trans a5 ht.size⟩
  · rcases (hM' _ e).1 with h | h
    · exact a3 q hq h
    · have := (a2.ty q hq).2.lt; omega
  · obtain ⟨h | h, h'⟩ := hM' k hk
    · exact ⟨(a4 k h).1, h'⟩
    · exact ⟨by omega, h'⟩
def FrameOrd (b6 v : Nat) (a' : Act) : Prop := ∃ u0 u1 u2 u3 u4 u5 u7 u8 u10 u11 u12 u13 u14 u15 u16 u17 u18 u19 u20 u21 u22 u23 u24 u25 u26 u27 : Value, a' = { tmps := #[u0, u1, u2, u3, u4, u5, .pointer (some ⟨b6, 0, none⟩), u7, u8, .int .i64 (v : Int), u10, u11, u12, u13, u14, u15, u16, u17, u18, u19, u20, u21, u22, u23, u24, u25, u26, u27], defers := [] }
def OrdB (w : World) (lo b6 : Nat) (x : Nat × Nat) (a' : Act) (p : List (Nat × Nat)) (Mi : Nat → Prop) (W : World) : Prop := FrameOrd b6 x.1 a' ∧ OrdI w lo b6 p Mi W
set_option maxRecDepth 40000 in
set_option maxHeartbeats 8000000 in
theorem djOrderF (N s : Nat) (A : Option Addr) (c : Nat) (E : List Edg) (o : DOpt) (An Ae Aw : Option Addr) (cn ce cw : Nat) (xs : List (Nat × Nat)) (w : World) (h : Rd w A 3 E.length (esCells E)) (h2 : Rd w An 1 o.nn.length (o.nn.map (.int .i64))) (h3 : Rd w Ae 1 o.ne.length (o.ne.map (.int .i64))) (h4 : Rd w Aw 1 o.W.length (wv o.W))
    (hok : WalkOk N s E o) (hd : dcF N s E o.W = 0) (hxs : if (s : Int) ∈ o.nn then xs = [] else Trace (srchOf N E o) (reachS o.most (st0 N) s 0) xs) (hxl : xs.length ≤ 1000000) :
    Calls Tryz.prog 35 #[.agg #[.int .i64 (N : Int), .slice A E.length c], .int .i64 (s : Int), oVal o.back (.slice An o.nn.length cn) (.slice Ae o.ne.length ce) Aw o.W.length cw o.most] w fun e w' =>
      ∃ A' c', e = .returned (.tuple #[.slice A' xs.length c', .int .i64 0]) ∧ Rd w' A' 1 xs.length ((ordL xs).map (.int .i64)) ∧ (∀ p, A' = some p → w.heap.size ≤ p.block) ∧ Grows w w' := by
  unfold oVal
  obtain ⟨r1, r2, r3, r4, r5⟩ := right_in hok.right
  have C1 := hide (fun (W : World) (g : Grows w W) => djCheck (N : Int) s A E.length c E o.back (.slice An o.nn.length cn) (.slice Ae o.ne.length ce) Aw o.W.length cw o.most o.W W (h.grows g) (h4.grows g) (by omega) (by have := hok.wts; omega))
  rw [hd] at C1
  unfold oVal at C1
  have C3 := hide (fun (W : World) => djWalk (.agg #[.int .i64 (N : Int), .slice A E.length c]) (.int .i64 (s : Int)) (.agg #[.bool o.back, .slice An o.nn.length cn, .slice Ae o.ne.length ce, .slice Aw o.W.length cw, .int .u64 (o.most : Int)]) (N : Int) (.slice A E.length c) rfl (s : Int) rfl _ _ _ _ _ rfl W)
  have HM := hide (And.intro h (And.intro h2 (And.intro h3 h4)))
  have HOK := hide hok
  have HXS := hide hxs
  clear h h2 h3 h4 hok hxs hd r1 r2 r3 r4 r5
  refine calls_of_marks Tryz.func35 rfl ?_
  simp only [Tryz.ntmps35, List.size_toArray, List.length_cons, List.length_nil, Nat.reduceAdd, Nat.reduceSub, Array.replicate_succ, Array.replicate_zero, List.push_toArray, List.append_toArray, List.nil_append, List.cons_append]
  go_wp2_with fail
  refine (C1.out _ GG).mono ?_; rintro e w' ⟨rfl, hg⟩; obtain ⟨x1, rfl⟩ := hg.later; clear hg
  go_wp2_with fail
  refine (C3.out _).mono ?_; rintro e W0 ⟨b, rfl, hb, z1, z2, z3, hg⟩
  have hx2 := x1.size
  have hs5 : w.heap.size + 1 + 1 < b := by rw [← hb]; simp at hx2; omega
  have q6 : Arr W0 (w.heap.size + 1 + 1) 36 [.slice none 0 0] := Arr.grow ⟨by simp [heap_push, Array.getElem_push]⟩ (x1.grows.trans hg)
  have hgw : Grows w W0 := Grows.trans (by show Grows w x1.now; exact GG) hg
  have hW0 := z3.lt
  have hsz0 := hgw.size
  have g6 : w.heap.size ≤ w.heap.size + 1 + 1 := by omega
  clear hb hg C1 C3 hx2
  generalize w.heap.size + 1 + 1 = b6 at *
  generalize w.heap.size + 1 = b5 at *
  have hwalk : WalkAt (fun k => k < w.heap.size ∨ (b ≤ k ∧ k ≤ b + 1 + 1)) W0 b (b + 1 + 1) (b + 1) N s E o := by
    obtain ⟨h1, h2, h3, h4⟩ := HM.out
    exact ⟨A, c, An, cn, Ae, ce, Aw, cw, z1, z3, z2, h1.grows hgw, h2.grows hgw, h3.grows hgw, h4.grows hgw, .inr ⟨by omega, by omega⟩, .inr ⟨by omega, by omega⟩, .inr ⟨by omega, by omega⟩, fun h p hp => .inl (h1.block_lt (by omega) h p hp), fun h p hp => .inl (h2.block_lt (by omega) h p hp), fun h p hp => .inl (h3.block_lt (by omega) h p hp), fun h p hp => .inl (h4.block_lt (by omega) h p hp)⟩
  have hBW : ∀ k, (k < w.heap.size ∨ (b ≤ k ∧ k ≤ b + 1 + 1)) → k < W0.heap.size := fun k hk => by rcases hk with hk | hk <;> omega
  have hGV := djWalk1 (fun k => k < w.heap.size ∨ (b ≤ k ∧ k ≤ b + 1 + 1)) (fun k => k < w.heap.size ∨ (b ≤ k ∧ k ≤ b + 1 + 1)) (fun _ => False) b (b + 1 + 1) (b + 1) N s E o xs W0 hwalk (fun k hk => .inl hk) (fun k hk => hk.elim) hBW HOK.out HXS.out
  have h0 : OrdI w W0.heap.size b6 [] (fun _ => False) W0 := ⟨none, 0, ⟨⟨W0, hgw⟩, rfl⟩, q6, Own.nil _ _ _ _, fun q hq => (by cases hq), fun k hk => hk.elim, Nat.le_refl _⟩
  have hIy := OrdI.yields (w := w) (lo := W0.heap.size) (b6 := b6) (by omega) hsz0
  have HGV := hide hGV
  have H0 := hide h0
  have HXL := hide hxl
  clear hGV h0 hwalk q6 z1 z2 z3 HM HXS HOK hxl
  go_wp2_with fail
  refine (wpIn_wide (n := 0)).1 ?_
  have hGV := HGV.out
  have h0 := H0.out
  clear HGV H0
  refine wp_rangeG (w0 := W0) (gf := 102) rfl (enters_of Tryz.func102 (by kernel_rfl) rfl) hGV (Keeps.refl _ _ _) hBW (fun k hk => hk.elim) (fun _ => rfl)
    (OrdI w W0.heap.size b6) (fun _ _ _ _ => False) hIy (fun c _ _ _ _ _ h _ _ => h.elim) h0 (OrdB w W0.heap.size b6) ?hIb ?assign ?body ?done ?stop
  case hIb =>
    rintro x a' p Mi W1 Mi' W' ⟨hf, hI⟩ ht hM'
    exact ⟨hf, hIy p Mi W1 Mi' W' hI ht hM'⟩
  case assign =>
    intro l2 p x rest Mi W1 hsp hI
    have HI := hide hI
    clear hI
    unfold encD
    gi_wp2
    refine ⟨⟨?_, HI.out⟩, Keeps.refl _ _ _⟩
    unfold FrameOrd
    (repeat apply Exists.intro)
    rfl
  case body =>
    rintro l2 p ⟨v, far⟩ rest Mi a' W1 hsp hl2 hMl hrec ⟨⟨u0, u1, u2, u3, u4, u5, u7, u8, u10, u11, u12, u13, u14, u15, u16, u17, u18, u19, u20, u21, u22, u23, u24, u25, u26, u27, rfl⟩, ⟨A9, c9, ⟨y, rfl⟩, q6, ho, hnM, hm, hlo⟩⟩
    have hpl : p.length < 1000000 := by
      have := HXL.out
      rw [hsp] at this
      simp at this
      omega
    have HO := hide ho
    have HNM := hide hnM
    have HMM := hide hm
    have HSN := hide (ordL_snoc p (v, far))
    clear hsp hl2 hMl hrec hm h0 hIy hGV ho hnM
    simp only
    have HNB : Hid (∀ q, A9 = some q → q.block ≠ b6) := fun q hq e => by
      have h1 := (HO.out.ty q hq).2.one (by rw [e]; exact q6.ty)
      exact absurd h1 (by decide)
    have hyo : W0.heap.size ≤ (y.now.alloc (.cells #[.int .i64 (v : Int)] 3)).heap.size := by simp; omega
    gi_wp2_with (refine wp_appIn elemInt rfl _ _ rfl W0.heap.size hyo p.length c9 A9 _ rfl (HO.out.new _) _ _ _ rfl inferInstance rfl (by omega) ?_; intro A3 c3 w3 ho3 ht3 hn3; have q63 : Arr w3 b6 36 [.slice A9 p.length c9] := (q6.grow ((Grows.refl _).new _)).touch ht3 (fun e => by obtain ⟨q, hq, e2⟩ := e; exact HNB.out q hq e2); have HO3 := hide ho3; have HT3 := hide ht3; have HN3 := hide hn3; clear ho3 ht3 hn3)
    have htt : Touch (fun k => ¬ ((k < w.heap.size ∨ (b ≤ k ∧ k ≤ b + 1 + 1)) ∨ Mi k)) y.now w3 := Touch.trans2 (((Grows.refl y.now).new _).touch _) HT3.out (fun k hk => by
      obtain ⟨q, hq, e2⟩ := hk
      have h1 := (HO.out.ty q hq).1
      refine .inl (fun e => ?_)
      rcases e with (e | e) | e
      · omega
      · omega
      · exact HNM.out q hq (by rw [e2]; exact e))
    have hsz3 := htt.size
    have hyg3 : Grows w w3 := htt.later y.grows (fun k hk => by
      rcases Nat.lt_or_ge k w.heap.size with h | h
      · exact absurd (.inl (.inl h)) hk
      · exact h)
    have hb6n : ¬ ((b6 < w.heap.size ∨ (b ≤ b6 ∧ b6 ≤ b + 1 + 1)) ∨ Mi b6) := fun e => by
      rcases e with (e | e) | e
      · omega
      · omega
      · have := (HMM.out _ e).1; omega
    refine ⟨htt.set (.inl hb6n) _, A3, c3, ⟨⟨_, hyg3.set g6 _⟩, rfl⟩, ?_, ?_, fun q hq e => ?_, fun k hk => ?_, ?_⟩
    · have := q63.set 0 (.slice A3 (p.length + 1) c3)
      rw [List.length_append, List.length_singleton]
      exact this
    · rw [HSN.out, List.length_append, List.length_singleton, List.map_append]
      exact HO3.out.low (q := ⟨b6, 0, none⟩) (by show b6 < _; omega) _
    · rcases HN3.out q hq with ⟨q2, hq2, e2⟩ | hnew
      · exact HNM.out q2 hq2 (by rw [e2]; exact e)
      · have h1 := (HMM.out _ e).2
        have h2 := hnew.1
        simp at h2
        omega
    · rw [size_setCell]
      have := HMM.out k hk
      exact ⟨this.1, by omega⟩
    · rw [size_setCell]; omega
  case done =>
    intro D Mi W1 hlD hMD hI hDW
    obtain ⟨A9, c9, ⟨y, rfl⟩, q6, ho, hnM, hm, hlo⟩ := hI
    have HO := hide ho
    have HDW := hide hDW
    have HNB : Hid (∀ q, A9 = some q → q.block ≠ D) := fun q hq e => hnM q hq (by rw [e]; exact hMD)
    clear hm hDW hIy h0 hGV ho hnM
    gi_wp2
    go_wp2_with fail
    have hDl : w.heap.size ≤ D ∧ b6 ≠ D := by omega
    have e6 : Arr (y.now.setCell ⟨b6, 0, none⟩ (.slice A9 xs.length c9)) b6 36 [.slice A9 xs.length c9] := q6.set 0 _
    have hyg : Grows w (y.now.setCell ⟨b6, 0, none⟩ (.slice A9 xs.length c9)) := y.grows.set g6 _
    have hD3 : (y.now.setCell ⟨b6, 0, none⟩ (.slice A9 xs.length c9)).heap[D]? = some (.deferred (some [])) := by
      rw [heap_setCell _ _ _ _ (Ne.symm hDl.2)]
      exact HDW.out
    have ho2 := HO.out.low (q := ⟨b6, 0, none⟩) (by show b6 < _; omega) (.slice A9 xs.length c9)
    refine marks_ret [D] rfl ((Marks.nil _).cons hD3 (by simp)) (fun W' htt => ?_)
    have k6 := (e6.touch htt (fun e => hDl.2 (List.mem_singleton.1 e))).cell 0
    refine ⟨.tuple #[.slice A9 xs.length c9, .int .i64 0], by simp (maxDischargeDepth := 6) [results, Tryz.results35, go_sem, k6], A9, c9, rfl, ?_, fun p hp => by have := (ho2.ty p hp).1; omega, htt.later hyg (fun k hk => by rw [List.mem_singleton.1 hk]; exact hDl.1)⟩
    exact ho2.rd.touch htt (fun q hq e => HNB.out q hq (List.mem_singleton.1 e))
  case stop =>
    intro D c' p i rest Mi W1 _ _ _ h _
    exact h.elim
theorem djOrder (N s : Nat) (A : Option Addr) (c : Nat) (E : List Edg) (o : DOpt) (An Ae Aw : Option Addr) (cn ce cw : Nat) (xs : List (Nat × Nat)) (w : World) (h : Rd w A 3 E.length (esCells E)) (h2 : Rd w An 1 o.nn.length (o.nn.map (.int .i64))) (h3 : Rd w Ae 1 o.ne.length (o.ne.map (.int .i64))) (h4 : Rd w Aw 1 o.W.length (wv o.W))
    (hok : WalkOk N s E o) (hd : dcF N s E o.W = 0) (hxs : if (s : Int) ∈ o.nn then xs = [] else Trace (srchOf N E o) (reachS o.most (st0 N) s 0) xs) (hxl : xs.length ≤ 1000000) :
    Calls Tryz.prog 35 #[.agg #[.int .i64 (N : Int), .slice A E.length c], .int .i64 (s : Int), oVal o.back (.slice An o.nn.length cn) (.slice Ae o.ne.length ce) Aw o.W.length cw o.most] w fun e w' =>
      ∃ A' c', e = .returned (.tuple #[.slice A' xs.length c', .int .i64 0]) ∧ Rd w' A' 1 xs.length ((ordL xs).map (.int .i64)) ∧ Grows w w' :=
  (djOrderF N s A c E o An Ae Aw cn ce cw xs w h h2 h3 h4 hok hd hxs hxl).mono fun e w' ⟨A', c', h1, h2, _, h3⟩ => ⟨A', c', h1, h2, h3⟩
theorem djOrderNo (N s : Int) (A : Option Addr) (n c : Nat) (E : List Edg) (back : Bool) (nn ne : Value) (Aw : Option Addr) (nw cw most : Nat) (W : List Nat) (w : World) (h : Rd w A 3 n (esCells E)) (hW : Rd w Aw 1 nw (wv W)) (hn : n ≤ 1000000) (hnw : nw ≤ 1000000) (hd : dcF N s E W ≠ 0) :
    Calls Tryz.prog 35 #[.agg #[.int .i64 N, .slice A n c], .int .i64 s, oVal back nn ne Aw nw cw most] w fun e w' => e = .returned (.tuple #[.slice none 0 0, .int .i64 (dcF N s E W)]) ∧ Grows w w' := by
  unfold oVal
  have C1 := hide (fun (W1 : World) (g : Grows w W1) => djCheck N s A n c E back nn ne Aw nw cw most W W1 (h.grows g) (hW.grows g) hn hnw)
  unfold oVal at C1
  have hr2 : (dcF N s E W == 0) = false := beq_eq_false_iff_ne.2 hd
  clear h hW
  generalize dcF N s E W = r at *
  go_enter Tryz.func35, Tryz.ntmps35
  go_wp2_with (go_at_call 67; refine (C1.out _ GG).mono ?_; rintro e w' ⟨rfl, hg⟩; obtain ⟨x1, rfl⟩ := hg.later; clear hg)
  refine bodyPost_ret (v := .tuple #[.slice none 0 0, .int .i64 r]) (by simp (maxDischargeDepth := 6) [results, Tryz.results35, go_sem, *]) rfl ?_
  exact ⟨rfl, GG⟩
end Go.Proofs.YtomednfddpggaaaGreat

/- Contracts: which two nodes lie farthest apart, by the program and by the document's answer. -/
namespace Go.Proofs.YtomednfddpggaaaGreat
open Go Go.RowKit
attribute [local go_sem] Oper.semAt_some
structure Fr where
  a : Nat
  b : Nat
  m : Nat
def frU (D : List Nat) (v : Nat) : Nat → Fr → Fr
  | 0, s => s
  | u + 1, s => if gn D u < farV ∧ (frU D v u s).m < gn D u then ⟨v, u, gn D u⟩ else frU D v u s
def frV (Ds : Nat → List Nat) (N : Nat) : Nat → Fr
  | 0 => ⟨0, 0, 0⟩
  | v + 1 => frU (Ds v) v N (frV Ds N v)
def DsF (N : Nat) (E : List Edg) (v : Nat) : List Nat := refL (srchOf N E (noO [])) v
def farF (N : Nat) (E : List Edg) : Fr := frV (DsF N E) N N
theorem frU_yes {D : List Nat} {v u : Nat} {s : Fr} (h1 : gn D u < farV) (h2 : (frU D v u s).m < gn D u) : frU D v (u + 1) s = ⟨v, u, gn D u⟩ := by
  show (if _ then _ else _) = _
  rw [if_pos ⟨h1, h2⟩]
theorem frU_no {D : List Nat} {v u : Nat} {s : Fr} (h : ¬ (gn D u < farV ∧ (frU D v u s).m < gn D u)) : frU D v (u + 1) s = frU D v u s := by
  show (if _ then _ else _) = _
  rw [if_neg h]
theorem djAllR (N s : Nat) (A : Option Addr) (c : Nat) (E : List Edg) (w : World) (h : Rd w A 3 E.length (esCells E)) (hr : rightF N E = 0) (hs : s < N) :
    Calls Tryz.prog 34 #[.agg #[.int .i64 (N : Int), .slice A E.length c], .int .i64 (s : Int), .agg #[.bool false, .slice none 0 0, .slice none 0 0, .slice none 0 0, .int .u64 0]] w fun e w' => ∃ go, e = .returned (.tuple #[.slice (some ⟨go, 0, none⟩) N N, .int .i64 0]) ∧ Row1 w' go 38 1 N N (wv (DsF N E s)) ∧ Grows w w' := by
  have hok := noO_ok (ne := []) hr hs (by simp)
  obtain ⟨xs, h1, h2, _, h4, _⟩ := walk_ref hok (fun i hi => noO_w hr i hi)
  have h0 : Rd w none 1 0 [] := ⟨by simp, fun h => absurd h (by simp)⟩
  have hw0 : Rd w none 1 0 (wv []) := ⟨by simp [wv], fun h => absurd h (by simp)⟩
  refine (djAll N s A c E (noO []) none none none 0 0 0 xs w h h0 h0 hw0 hok (dc_none hr hs) h1 h2).mono ?_
  rintro e w' ⟨go, rfl, h5, _, hg⟩
  unfold DsF
  rw [h4]
  exact ⟨go, rfl, h5, hg⟩
theorem r14AllR (N s : Nat) (A : Option Addr) (c : Nat) (E : List Edg) (w : World) (h : Rd w A 3 E.length (esCells E)) (hr : rightF N E = 0) (hs : s < N) :
    Calls Tryz.prog 37 #[.agg #[.int .i64 (N : Int), .slice A E.length c], .int .i64 (s : Int), .agg #[.bool false, .slice none 0 0, .slice none 0 0, .slice none 0 0, .int .u64 0]] w fun e w' => ∃ gd, e = .returned (.slice (some ⟨gd, 0, none⟩) N N) ∧ Row1 w' gd 38 1 N N (wv (DsF N E s)) ∧ Grows w w' := by
  have h0 : Rd w none 1 0 [] := ⟨by simp, fun h => absurd h (by simp)⟩
  have hw0 : Rd w none 1 0 (wv []) := ⟨by simp [wv], fun h => absurd h (by simp)⟩
  exact r14All N s A c E (noO []) none none none 0 0 0 w h h0 h0 hw0 (noO_ok hr hs (by simp)) (fun i hi => (noO_w hr i hi).2)
set_option maxRecDepth 40000 in
set_option maxHeartbeats 8000000 in
theorem stFar (N : Nat) (A : Option Addr) (c : Nat) (E : List Edg) (w : World) (h : Rd w A 3 E.length (esCells E)) (hr : rightF N E = 0) :
    Calls Tryz.prog 21 #[.agg #[.int .i64 (N : Int), .slice A E.length c]] w fun e w' => e = .returned (.tuple #[.int .i64 (farF N E).a, .int .i64 (farF N E).b, .int .u64 (farF N E).m, .bool true]) ∧ Grows w w' := by
  obtain ⟨r1, r2, r3, r4, r5⟩ := right_in hr
  have C0 := hide (fun (W : World) (g : Grows w W) => by have := gRight N A E.length c E W (h.grows g) (by omega); rw [hr] at this; exact this)
  have C1 := hide (fun (s : Nat) (hs : s < N) (W : World) (g : Grows w W) => djAllR N s A c E W (h.grows g) hr hs)
  have hN : N ≤ 4096 := by omega
  have HF := hide (show farF N E = frV (DsF N E) N N from rfl)
  have HV := hide (fun v => show frV (DsF N E) N (v + 1) = frU (DsF N E v) v N (frV (DsF N E) N v) from rfl)
  rw [HF.out]
  clear h hr r1 r2 r3 r4 r5
  go_enter Tryz.func21, Tryz.ntmps21
  go_upto_region 4 with (go_at_call 31; refine (C0.out _ GG).mono ?_; rintro e w' ⟨rfl, hg⟩; obtain ⟨x0, rfl⟩ := hg.later; clear hg)
  have hgw : Grows w x0.now := GG
  have z1 : Arr x0.now w.heap.size 24 [.int .i64 (N : Int), .slice A E.length c] := (Arr.make w _ _).grow x0.grows
  clear C0
  generalize w.heap.size = b1 at *
  go_loopw [16, 2, 3, 4] (fun i s2 s3 s4 wr => ∃ v : Nat, v ≤ N ∧ i = .int .i64 (v : Int) ∧ s2 = .int .i64 ((frV (DsF N E) N v).a : Int) ∧ s3 = .int .i64 ((frV (DsF N E) N v).b : Int) ∧ s4 = .int .u64 ((frV (DsF N E) N v).m : Int) ∧ ∃ y : Later x0.now, wr = y.now) (fun i _ _ _ _ => N - (Go.RowKit.intOf i).toNat)
  case atStart => exact ⟨0, by omega, by go_num, rfl, rfl, rfl, ⟨_, Grows.refl _⟩, rfl⟩
  case round =>
    obtain ⟨v, hv, rfl, rfl, rfl, rfl, y, rfl⟩ := hrel
    by_cases hlt : v < N
    · have C1v := hide (C1.out v hlt)
      have HVv := hide (HV.out v)
      clear C1 HV
      generalize DsF N E v = D at *
      generalize frV (DsF N E) N v = s0 at *
      go_upto_region 7 with (go_at_call 34; refine (C1v.out _ (hgw.trans GG)).mono ?_; rintro e w' ⟨go, rfl, ha, hg⟩; obtain ⟨y1, rfl⟩ := hg.later; have HA := hide ha; clear hg ha)
      have hlD : D.length = N := by have := HA.out.len; simpa [wv] using this
      go_wp2_with fail
      go_loopw [28, 2, 3, 4] (fun i s2 s3 s4 wr => ∃ u : Nat, u ≤ N ∧ i = .int .i64 (u : Int) ∧ s2 = .int .i64 ((frU D v u s0).a : Int) ∧ s3 = .int .i64 ((frU D v u s0).b : Int) ∧ s4 = .int .u64 ((frU D v u s0).m : Int) ∧ wr = y1.now) (fun i _ _ _ _ => N - (Go.RowKit.intOf i).toNat)
      case atStart => exact ⟨0, by omega, by go_num, rfl, rfl, rfl, rfl⟩
      case round =>
        obtain ⟨u, hu, rfl, rfl, rfl, rfl, rfl⟩ := hrel
        by_cases hlu : u < N
        · have m1 := HA.out.mine (wv_at (W := D) (j := u) (by omega))
          obtain ⟨xa, hxa⟩ : ∃ x : Int, (gn D u : Int) = x := ⟨_, rfl⟩
          obtain ⟨xm, hxm⟩ : ∃ x : Int, ((frU D v u s0).m : Int) = x := ⟨_, rfl⟩
          obtain ⟨p, hp⟩ : ∃ p, decide (xa < 4611686018427387904) = p := ⟨_, rfl⟩
          obtain ⟨q, hq⟩ : ∃ q, decide (xm < xa) = q := ⟨_, rfl⟩
          have HY := hide (fun (h1 : p = true) (h2 : q = true) => show frU D v (u + 1) s0 = ⟨v, u, gn D u⟩ from frU_yes (by have := of_decide_eq_true (hp.trans h1); unfold farV; omega) (by have := of_decide_eq_true (hq.trans h2); omega))
          have HN := hide (fun (h1 : p = false ∨ q = false) => show frU D v (u + 1) s0 = frU D v u s0 from frU_no (fun ⟨k1, k2⟩ => by
            rcases h1 with h1 | h1
            · have := of_decide_eq_false (hp.trans h1); unfold farV at k1; omega
            · have := of_decide_eq_false (hq.trans h1); omega))
          have HXA := hide hxa
          have HXM := hide hxm
          rw [hxa] at m1
          rw [hxm]
          clear hxa hxm
          cases p with
          | false =>
            go_wp2_with fail
            go_roundw
            case measure => simp [Go.RowKit.intOf]; omega
            case rel => exact ⟨u + 1, by omega, by go_num, by rw [HN.out (.inl rfl)], by rw [HN.out (.inl rfl)], by rw [HN.out (.inl rfl), HXM.out], by first | rfl | trivial⟩
          | true =>
            cases q with
            | false =>
              go_wp2_with fail
              go_roundw
              case measure => simp [Go.RowKit.intOf]; omega
              case rel => exact ⟨u + 1, by omega, by go_num, by rw [HN.out (.inr rfl)], by rw [HN.out (.inr rfl)], by rw [HN.out (.inr rfl), HXM.out], by first | rfl | trivial⟩
            | true =>
              go_wp2_with fail
              go_roundw
              case measure => simp [Go.RowKit.intOf]; omega
              case rel => exact ⟨u + 1, by omega, by go_num, by rw [HY.out rfl rfl], by rw [HY.out rfl rfl], by rw [HY.out rfl rfl]; show _ = Value.int .u64 (gn D u : Int); rw [HXA.out], by first | rfl | trivial⟩
        · obtain rfl : N = u := by omega
          go_wp2_with fail
          go_roundw
          case measure => simp [Go.RowKit.intOf]; omega
          case rel => exact ⟨v + 1, by omega, by go_num, by rw [HVv.out], by rw [HVv.out], by rw [HVv.out], ⟨_, show Grows x0.now y1.now from GG⟩, rfl⟩
    · obtain rfl : N = v := by omega
      go_wp2_with fail
      generalize frV (DsF N E) N N = F at *
      refine bodyPost_ret (v := .tuple #[.int .i64 (F.a : Int), .int .i64 (F.b : Int), .int .u64 (F.m : Int), .bool true]) (by simp (maxDischargeDepth := 6) [results, Tryz.results21, go_sem, *]) rfl ⟨rfl, hgw.trans y.grows⟩
set_option maxRecDepth 40000 in
set_option maxHeartbeats 8000000 in
theorem r38Far (N : Nat) (A : Option Addr) (c : Nat) (E : List Edg) (w : World) (h : Rd w A 3 E.length (esCells E)) (hr : rightF N E = 0) :
    Calls Tryz.prog 22 #[.agg #[.int .i64 (N : Int), .slice A E.length c]] w fun e w' => e = .returned (.tuple #[.int .i64 (farF N E).a, .int .i64 (farF N E).b, .int .u64 (farF N E).m, .bool true]) ∧ Grows w w' := by
  obtain ⟨r1, r2, r3, r4, r5⟩ := right_in hr
  have C0 := hide (fun (W : World) (g : Grows w W) => by have := r5Right N A E.length c E W (h.grows g) (by omega); rw [hr] at this; exact this)
  have C1 := hide (fun (s : Nat) (hs : s < N) (W : World) (g : Grows w W) => r14AllR N s A c E W (h.grows g) hr hs)
  have hN : N ≤ 4096 := by omega
  have HF := hide (show farF N E = frV (DsF N E) N N from rfl)
  have HV := hide (fun v => show frV (DsF N E) N (v + 1) = frU (DsF N E v) v N (frV (DsF N E) N v) from rfl)
  rw [HF.out]
  clear h hr r1 r2 r3 r4 r5
  go_enter Tryz.func22, Tryz.ntmps22
  go_upto_region 5 with (go_at_call 36; refine (C0.out _ GG).mono ?_; rintro e w' ⟨rfl, hg⟩; obtain ⟨x0, rfl⟩ := hg.later; clear hg)
  have hgw : Grows w x0.now := GG
  have z1 : Arr x0.now w.heap.size 24 [.int .i64 (N : Int), .slice A E.length c] := (Arr.make w _ _).grow x0.grows
  clear C0
  generalize w.heap.size = b1 at *
  go_loopw [9, 6, 7, 8] (fun i s2 s3 s4 wr => ∃ v : Nat, v ≤ N ∧ i = .int .i64 (v : Int) ∧ s2 = .int .i64 ((frV (DsF N E) N v).a : Int) ∧ s3 = .int .i64 ((frV (DsF N E) N v).b : Int) ∧ s4 = .int .u64 ((frV (DsF N E) N v).m : Int) ∧ ∃ y : Later x0.now, wr = y.now) (fun i _ _ _ _ => N - (Go.RowKit.intOf i).toNat)
  case atStart => exact ⟨0, by omega, by go_num, rfl, rfl, rfl, ⟨_, Grows.refl _⟩, rfl⟩
  case round =>
    obtain ⟨v, hv, rfl, rfl, rfl, rfl, y, rfl⟩ := hrel
    by_cases hlt : v < N
    · have C1v := hide (C1.out v hlt)
      have HVv := hide (HV.out v)
      clear C1 HV
      generalize DsF N E v = D at *
      generalize frV (DsF N E) N v = s0 at *
      go_upto_region 8 with (go_at_call 37; refine (C1v.out _ (hgw.trans GG)).mono ?_; rintro e w' ⟨go, rfl, ha, hg⟩; obtain ⟨y1, rfl⟩ := hg.later; have HA := hide ha; clear hg ha)
      have hlD : D.length = N := by have := HA.out.len; simpa [wv] using this
      go_wp2_with fail
      go_loopw [11, 6, 7, 8] (fun i s2 s3 s4 wr => ∃ u : Nat, u ≤ N ∧ i = .int .i64 (u : Int) ∧ s2 = .int .i64 ((frU D v u s0).a : Int) ∧ s3 = .int .i64 ((frU D v u s0).b : Int) ∧ s4 = .int .u64 ((frU D v u s0).m : Int) ∧ wr = y1.now) (fun i _ _ _ _ => N - (Go.RowKit.intOf i).toNat)
      case atStart => exact ⟨0, by omega, by go_num, rfl, rfl, rfl, rfl⟩
      case round =>
        obtain ⟨u, hu, rfl, rfl, rfl, rfl, rfl⟩ := hrel
        by_cases hlu : u < N
        · have m1 := HA.out.mine (wv_at (W := D) (j := u) (by omega))
          obtain ⟨xa, hxa⟩ : ∃ x : Int, (gn D u : Int) = x := ⟨_, rfl⟩
          obtain ⟨xm, hxm⟩ : ∃ x : Int, ((frU D v u s0).m : Int) = x := ⟨_, rfl⟩
          obtain ⟨p, hp⟩ : ∃ p, decide (xa < 4611686018427387904) = p := ⟨_, rfl⟩
          obtain ⟨q, hq⟩ : ∃ q, decide (xm < xa) = q := ⟨_, rfl⟩
          have HY := hide (fun (h1 : p = true) (h2 : q = true) => show frU D v (u + 1) s0 = ⟨v, u, gn D u⟩ from frU_yes (by have := of_decide_eq_true (hp.trans h1); unfold farV; omega) (by have := of_decide_eq_true (hq.trans h2); omega))
          have HN := hide (fun (h1 : p = false ∨ q = false) => show frU D v (u + 1) s0 = frU D v u s0 from frU_no (fun ⟨k1, k2⟩ => by
            rcases h1 with h1 | h1
            · have := of_decide_eq_false (hp.trans h1); unfold farV at k1; omega
            · have := of_decide_eq_false (hq.trans h1); omega))
          have HXA := hide hxa
          have HXM := hide hxm
          rw [hxa] at m1
          rw [hxm]
          clear hxa hxm
          cases p with
          | false =>
            go_wp2_with fail
            go_roundw
            case measure => simp [Go.RowKit.intOf]; omega
            case rel => exact ⟨u + 1, by omega, by go_num, by rw [HN.out (.inl rfl)], by rw [HN.out (.inl rfl)], by rw [HN.out (.inl rfl), HXM.out], by first | rfl | trivial⟩
          | true =>
            cases q with
            | false =>
              go_wp2_with fail
              go_roundw
              case measure => simp [Go.RowKit.intOf]; omega
              case rel => exact ⟨u + 1, by omega, by go_num, by rw [HN.out (.inr rfl)], by rw [HN.out (.inr rfl)], by rw [HN.out (.inr rfl), HXM.out], by first | rfl | trivial⟩
            | true =>
              go_wp2_with fail
              go_roundw
              case measure => simp [Go.RowKit.intOf]; omega
              case rel => exact ⟨u + 1, by omega, by go_num, by rw [HY.out rfl rfl], by rw [HY.out rfl rfl], by rw [HY.out rfl rfl]; show _ = Value.int .u64 (gn D u : Int); rw [HXA.out], by first | rfl | trivial⟩
        · obtain rfl : N = u := by omega
          go_wp2_with fail
          go_roundw
          case measure => simp [Go.RowKit.intOf]; omega
          case rel => exact ⟨v + 1, by omega, by go_num, by rw [HVv.out], by rw [HVv.out], by rw [HVv.out], ⟨_, show Grows x0.now y1.now from GG⟩, rfl⟩
    · obtain rfl : N = v := by omega
      go_wp2_with fail
      generalize frV (DsF N E) N N = F at *
      refine bodyPost_ret (v := .tuple #[.int .i64 (F.a : Int), .int .i64 (F.b : Int), .int .u64 (F.m : Int), .bool true]) (by simp (maxDischargeDepth := 6) [results, Tryz.results22, go_sem, *]) rfl ⟨rfl, hgw.trans y.grows⟩
end Go.Proofs.YtomednfddpggaaaGreat

/- A region that draws its order, by an invariant: what is known while some of its operations are done. -/
namespace Go.Proofs.YtomednfddpggaaaGreat
open Go
section
variable {P : Program}
theorem ready_mem {md : Region.Mode} {ops : Array Oper} {listed : Array Bool} {i : Nat} : i ∈ Region.ready md ops listed ↔ i < ops.size ∧ listed.getD i true = false ∧ ∃ o, ops[i]? = some o ∧ ∀ e ∈ o.after, Region.binds md e = true → listed.getD e.on false = true := by
  unfold Region.ready
  rw [List.mem_filter, List.mem_range]
  constructor
  · rintro ⟨h1, h2⟩
    rw [Bool.and_eq_true, Bool.not_eq_true'] at h2
    refine ⟨h1, h2.1, ops[i], by simp [h1], fun e he hb => ?_⟩
    have h3 := h2.2
    simp only [Array.getElem?_eq_getElem h1, Option.map_some, Option.getD_some, Array.all_eq_true'] at h3
    have := h3 e he
    rw [hb] at this
    simpa using this
  · rintro ⟨h1, h2, o, h3, h4⟩
    refine ⟨h1, ?_⟩
    rw [h2, h3]
    simp only [Bool.not_false, Bool.true_and, Option.map_some, Option.getD_some, Array.all_eq_true']
    intro e he
    cases hb : Region.binds md e
    · rfl
    · simpa using h4 e he hb
def backB (l : List Oper) : Bool := (List.range l.length).all fun i => match l[i]? with | some o => o.after.all fun e => !Region.binds .any e || decide (e.on < i) | none => true
theorem backB_spec {l : List Oper} (h : backB l = true) {i : Nat} {o : Oper} (ho : l[i]? = some o) {e : Edge} (he : e ∈ o.after) (hb : Region.binds .any e = true) : e.on < i := by
  unfold backB at h
  rw [List.all_eq_true] at h
  have hi : i < l.length := (List.getElem?_eq_some_iff.1 ho).1
  have := h i (by simpa using hi)
  rw [ho] at this
  simp only [Array.all_eq_true'] at this
  have := this e he
  rw [hb] at this
  simpa using this
theorem all_listed {l : List Oper} (hB : backB l = true) {listed : Array Bool} (hs : listed.size = l.length) (h : Region.ready .any l.toArray listed = []) : ∀ n j, j < n → j < l.length → listed.getD j true = true := by
  intro n
  induction n with
  | zero => intro j hj; omega
  | succ n ih =>
    intro j hj hl
    by_cases hjn : j < n
    · exact ih j hjn hl
    · cases hd : listed.getD j true with
      | true => rfl
      | false =>
        exfalso
        have : j ∈ Region.ready .any l.toArray listed := ready_mem.2 ⟨by simpa using hl, hd, l[j], by simp [hl], fun e he hb => by
          have h1 := backB_spec hB (i := j) (o := l[j]) (by simp [hl]) he hb
          have h2 := ih e.on (by omega) (by omega)
          have h3 : e.on < listed.size := by omega
          simp only [Array.getD, h3, dite_true] at h2 ⊢
          exact h2⟩
        rw [h] at this
        cases this
variable {l : List Oper} {Q : Exit → Act → World → Prop}
theorem set_getD (listed : Array Bool) (i : Nat) (hi : i < listed.size) : (fun j => (listed.setIfInBounds i true).getD j true) = fun j => if j = i then true else listed.getD j true := by
  funext j
  by_cases h : j = i
  · subst h; simp [Array.getD, hi]
  · rw [if_neg h]
    simp only [Array.getD, Array.size_setIfInBounds]
    by_cases hj : j < listed.size
    · simp [hj, Ne.symm h]
    · simp [hj]
theorem wpAny_inv (hB : backB l = true) (I : (Nat → Bool) → Act → World → Prop)
    (hs : ∀ D a w, I D a w → ∀ i o, l[i]? = some o → D i = false → (∀ e ∈ o.after, Region.binds .any e = true → D e.on = true) → ∀ K : Act → World → Prop, (∀ a' w', I (fun j => if j = i then true else D j) a' w' → K a' w') →
      if Region.wanted o (yielded l.toArray a.tmps) = true then Oper.wp P o a w K Q else K (a.put o.dst undef) w)
    (he : ∀ D a w, I D a w → (∀ j, j < l.length → D j = true) → Q .normal a w) :
    ∀ (fuel : Nat) (listed : Array Bool) (a : Act) (w : World), listed.size = l.length → listed.toList.count false ≤ fuel → I (fun j => listed.getD j true) a w → wpAny P .any l.toArray Q fuel listed a w
  | 0, listed, a, w, hl, hc, hI => by
    have hall : ∀ j, j < l.length → listed.getD j true = true := fun j hj => by
      have h0 : listed.toList.count false = 0 := by omega
      rw [List.count_eq_zero] at h0
      have h1 : j < listed.size := by omega
      cases hd : listed.getD j true with
      | true => rfl
      | false =>
        exfalso
        simp only [Array.getD, h1, dite_true] at hd
        exact h0 (by rw [← hd]; simp)
    refine ⟨?_, he _ a w hI hall⟩
    rw [List.eq_nil_iff_forall_not_mem]
    intro i hi
    obtain ⟨h1, h2, _⟩ := ready_mem.1 hi
    rw [hall i (by simpa using h1)] at h2
    cases h2
  | fuel + 1, listed, a, w, hl, hc, hI => by
    refine ⟨fun hn => he _ a w hI fun j hj => all_listed hB hl hn (j + 1) j (by omega) hj, fun i hi => ?_⟩
    obtain ⟨h1, h2, o, h3, h4⟩ := ready_mem.1 hi
    have hil : i < listed.size := by rw [hl]; simpa using h1
    have hst := hs _ a w hI i o (by simpa using h3) h2 (fun e he hb => by
      have := h4 e he hb
      by_cases hj : e.on < listed.size
      · simp only [Array.getD, hj, dite_true] at this ⊢; exact this
      · simp [Array.getD, hj]) (wpAny P .any l.toArray Q fuel (listed.setIfInBounds i true)) (fun a' w' hI' => by
      refine wpAny_inv hB I hs he fuel _ a' w' (by simpa using hl) ?_ (by rw [set_getD listed i hil]; exact hI')
      have hd : listed[i] = false := by have h9 := h2; simp only [Array.getD, hil, dite_true] at h9; exact h9
      have : (listed.setIfInBounds i true).toList = listed.toList.set i true := by simp
      rw [this, List.count_set (by simpa using hil)]
      have e1 : listed.toList[i]'(by simpa using hil) = false := by simpa using hd
      rw [e1]
      have : 0 < listed.toList.count false := List.count_pos_iff.2 (by rw [← e1]; exact List.getElem_mem _)
      simp
      simp at hc this
      omega)
    unfold wpOp
    rw [h3]
    simp only
    split
    · rename_i hw
      rw [if_pos hw] at hst
      exact .inl hst
    · rename_i hw
      rw [if_neg hw] at hst
      exact hst
theorem wp_region_inv {id : Nat} {a : Act} {w : World} (hm : P.follows .mixedOrders = true) (hB : backB l = true) (I : (Nat → Bool) → Act → World → Prop) (h0 : I (fun j => decide (l.length ≤ j)) a w.drew)
    (hs : ∀ D a w, I D a w → ∀ i o, l[i]? = some o → D i = false → (∀ e ∈ o.after, Region.binds .any e = true → D e.on = true) → ∀ K : Act → World → Prop, (∀ a' w', I (fun j => if j = i then true else D j) a' w' → K a' w') →
      if Region.wanted o (yielded l.toArray a.tmps) = true then Oper.wp P o a w K Q else K (a.put o.dst undef) w)
    (he : ∀ D a w, I D a w → (∀ j, j < l.length → D j = true) → Q .normal a w) : (Code.region id l.toArray true).wp P Q a w := by
  refine wp_region_any hm ?_
  refine wpAny_inv hB I hs he _ _ a _ (by simp) (by simp) ?_
  have : (fun j => (Array.replicate l.toArray.size false).getD j true) = fun j => decide (l.length ≤ j) := by
    funext j
    by_cases hj : j < l.length
    · simp [Array.getD, hj]
    · simp [Array.getD, hj]; omega
  rw [this]
  exact h0
def dstOf (l : List Oper) (j : Nat) : Option Tmp := (l[j]?).bind (·.dst)
def injB (l : List Oper) : Bool := (List.range l.length).all fun i => (List.range l.length).all fun j => decide (i = j) || decide (dstOf l i = none) || decide (dstOf l i ≠ dstOf l j)
theorem injB_spec (h : injB l = true) {i j : Nat} {t : Tmp} (hi : dstOf l i = some t) (hj : dstOf l j = some t) : i = j := by
  have lt : ∀ {k : Nat}, dstOf l k = some t → k < l.length := fun {k} hk => by
    rcases Nat.lt_or_ge k l.length with h | h
    · exact h
    · rw [dstOf, List.getElem?_eq_none h] at hk; cases hk
  unfold injB at h
  rw [List.all_eq_true] at h
  have h1 := h i (by simpa using lt hi)
  rw [List.all_eq_true] at h1
  have h2 := h1 j (by simpa using lt hj)
  simp only [Bool.or_eq_true, decide_eq_true_eq] at h2
  rcases h2 with (h2 | h2) | h2
  · exact h2
  · rw [hi] at h2; cases h2
  · rw [hi, hj] at h2; exact absurd rfl h2
structure TabI (l : List Oper) (a0 : Act) (D : Nat → Bool) (g : Nat → Value) (a : Act) : Prop where
  d : a.defers = a0.defers
  n : a.tmps.size = a0.tmps.size
  out : ∀ t, (∀ j, dstOf l j ≠ some t) → a.eval (.tmp t) = a0.eval (.tmp t)
  at_ : ∀ j t, dstOf l j = some t → D j = true → a.eval (.tmp t) = g j
theorem put_eval (a : Act) (t s : Tmp) (v : Value) (ht : t < a.tmps.size) : (a.put (some t) v).eval (.tmp s) = if s = t then v else a.eval (.tmp s) := by
  show (a.tmps.setIfInBounds t v).getD s undef = if s = t then v else a.tmps.getD s undef
  by_cases h : s = t
  · subst h
    simp [Array.getD, ht]
  · rw [if_neg h]
    simp only [Array.getD, Array.size_setIfInBounds]
    by_cases hs : s < a.tmps.size
    · simp [hs, Ne.symm h]
    · simp [hs]
def updG (g : Nat → Value) (i : Nat) (v : Value) : Nat → Value := fun j => if j = i then v else g j
theorem TabI.put {a0 : Act} {D : Nat → Bool} {g : Nat → Value} {a : Act} (hJ : injB l = true) (h : TabI l a0 D g a) {i : Nat} {o : Oper} (ho : l[i]? = some o) (hsz : ∀ t, o.dst = some t → t < a0.tmps.size) (v : Value) :
    TabI l a0 (fun j => if j = i then true else D j) (updG g i v) (a.put o.dst v) := by
  have hd : dstOf l i = o.dst := by simp [dstOf, ho]
  cases hdst : o.dst with
  | none =>
    refine ⟨h.d, h.n, h.out, fun j t hj hD => ?_⟩
    have hji : j ≠ i := fun e => by rw [e, hd, hdst] at hj; cases hj
    simp only [updG, if_neg hji] at hD ⊢
    exact h.at_ j t hj hD
  | some s =>
    have hs : s < a.tmps.size := by rw [h.n]; exact hsz s hdst
    refine ⟨h.d, by simpa [Act.put] using h.n, fun t ht => ?_, fun j t hj hD => ?_⟩
    · rw [put_eval _ _ _ _ hs, if_neg (fun e => by subst e; exact ht i (by rw [hd, hdst]))]
      exact h.out t ht
    · rw [put_eval _ _ _ _ hs]
      by_cases hji : j = i
      · subst hji
        rw [hd, hdst] at hj
        injection hj with hj
        rw [if_pos hj.symm]
        simp [updG]
      · simp only [updG, if_neg hji] at hD ⊢
        rw [if_neg (fun e => by subst e; exact hji (injB_spec hJ hj (by rw [hd, hdst])))]
        exact h.at_ j t hj hD
def putAll (l : List Oper) (g : Nat → Value) (a0 : Act) : Nat → Act
  | 0 => a0
  | k + 1 => (putAll l g a0 k).put (dstOf l k) (g k)
theorem putAll_size (l : List Oper) (g : Nat → Value) (a0 : Act) : ∀ k, (putAll l g a0 k).tmps.size = a0.tmps.size
  | 0 => rfl
  | k + 1 => by
    have ih := putAll_size l g a0 k
    simp only [putAll]
    cases dstOf l k with
    | none => exact ih
    | some t => simpa [Act.put] using ih
theorem putAll_defers (l : List Oper) (g : Nat → Value) (a0 : Act) : ∀ k, (putAll l g a0 k).defers = a0.defers
  | 0 => rfl
  | k + 1 => by
    have ih := putAll_defers l g a0 k
    simp only [putAll]
    cases dstOf l k with
    | none => exact ih
    | some t => exact ih
theorem putAll_eval (hJ : injB l = true) (g : Nat → Value) (a0 : Act) (hsz : ∀ j t, dstOf l j = some t → t < a0.tmps.size) (t : Tmp) : ∀ k, (∀ j, j < k → dstOf l j = some t → (putAll l g a0 k).eval (.tmp t) = g j) ∧ ((∀ j, j < k → dstOf l j ≠ some t) → (putAll l g a0 k).eval (.tmp t) = a0.eval (.tmp t))
  | 0 => ⟨fun j hj => absurd hj (by omega), fun _ => rfl⟩
  | k + 1 => by
    obtain ⟨ih1, ih2⟩ := putAll_eval hJ g a0 hsz t k
    simp only [putAll]
    cases hk : dstOf l k with
    | none =>
      refine ⟨fun j hj hd => ?_, fun h => ih2 fun j hj => h j (by omega)⟩
      by_cases e : j = k
      · subst e; rw [hk] at hd; cases hd
      · exact ih1 j (by omega) hd
    | some s =>
      have hs : s < (putAll l g a0 k).tmps.size := by rw [putAll_size]; exact hsz k s hk
      refine ⟨fun j hj hd => ?_, fun h => ?_⟩
      · rw [put_eval _ _ _ _ hs]
        by_cases e : j = k
        · subst e
          rw [hk] at hd
          injection hd with hd
          rw [if_pos hd.symm]
        · rw [if_neg (fun e2 => by subst e2; exact e (injB_spec hJ hd hk))]
          exact ih1 j (by omega) hd
      · rw [put_eval _ _ _ _ hs, if_neg (fun e => by subst e; exact h k (by omega) hk)]
        exact ih2 fun j hj => h j (by omega)
theorem TabI.all {a0 : Act} {D : Nat → Bool} {g : Nat → Value} {a : Act} (hJ : injB l = true) (h : TabI l a0 D g a) (hD : ∀ j, j < l.length → D j = true) (hsz : ∀ j t, dstOf l j = some t → t < a0.tmps.size) : a = putAll l g a0 l.length := by
  have key : ∀ t : Nat, a.eval (.tmp t) = (putAll l g a0 l.length).eval (.tmp t) := fun t => by
    obtain ⟨h1, h2⟩ := putAll_eval hJ g a0 hsz t l.length
    by_cases hj : ∃ j, j < l.length ∧ dstOf l j = some t
    · obtain ⟨j, hj, hd⟩ := hj
      rw [h1 j hj hd]
      exact h.at_ j t hd (hD j hj)
    · have hn : ∀ j, dstOf l j ≠ some t := fun j hd => hj ⟨j, (by
        rcases Nat.lt_or_ge j l.length with h | h
        · exact h
        · rw [dstOf, List.getElem?_eq_none h] at hd; cases hd), hd⟩
      rw [h2 fun j _ => hn j]
      exact h.out t hn
  have e1 : a.tmps = (putAll l g a0 l.length).tmps := by
    refine Array.ext (by rw [h.n, putAll_size]) fun t h1 h2 => ?_
    have := key t
    simp only [Act.eval, Array.getD, h1, h2, dite_true] at this
    exact this
  have e2 : a.defers = (putAll l g a0 l.length).defers := by rw [h.d, putAll_defers]
  cases a
  simp only at e1 e2
  subst e1 e2
  rfl
def waitB (l : List Oper) (i j : Nat) : Bool := match l[i]? with | some o => o.after.any fun e => decide (e.on = j) && Region.binds .any e | none => false
theorem waitB_spec {i j : Nat} {o : Oper} (ho : l[i]? = some o) (h : waitB l i j = true) : ∃ e ∈ o.after, e.on = j ∧ Region.binds .any e = true := by
  unfold waitB at h
  rw [ho] at h
  simp only [Array.any_eq_true'] at h
  obtain ⟨e, he, h⟩ := h
  rw [Bool.and_eq_true, decide_eq_true_eq] at h
  exact ⟨e, he, h.1, h.2⟩
theorem wp_region_tab {id : Nat} {a0 : Act} {w : World} (hm : P.follows .mixedOrders = true) (hB : backB l = true) (hJ : injB l = true) (hsz : ((List.range l.length).all fun j => match dstOf l j with | some t => decide (t < a0.tmps.size) | none => true) = true)
    (J : (Nat → Bool) → (Nat → Value) → World → Prop) (h0 : J (fun j => decide (l.length ≤ j)) (fun _ => undef) w.drew)
    (hs : ∀ D g a w, TabI l a0 D g a → J D g w → (∀ i j, D i = true → waitB l i j = true → D j = true) → ∀ i o, l[i]? = some o → D i = false → (∀ j, waitB l i j = true → D j = true) → ∀ K : Act → World → Prop, (∀ v w', J (fun j => if j = i then true else D j) (updG g i v) w' → K (a.put o.dst v) w') →
      if Region.wanted o (yielded l.toArray a.tmps) = true then Oper.wp P o a w K Q else K (a.put o.dst undef) w)
    (he : ∀ D g w, J D g w → (∀ j, j < l.length → D j = true) → Q .normal (putAll l g a0 l.length) w) : (Code.region id l.toArray true).wp P Q a0 w := by
  have hsz' : ∀ j t, dstOf l j = some t → t < a0.tmps.size := fun j t hd => by
    have hj : j < l.length := by
      rcases Nat.lt_or_ge j l.length with h | h
      · exact h
      · rw [dstOf, List.getElem?_eq_none h] at hd; cases hd
    rw [List.all_eq_true] at hsz
    have := hsz j (by simpa using hj)
    rw [hd] at this
    simpa using this
  refine wp_region_inv hm hB (fun D a w => (∃ g, TabI l a0 D g a ∧ J D g w) ∧ ∀ i j, D i = true → waitB l i j = true → D j = true) ⟨⟨fun _ => undef, ⟨rfl, rfl, fun _ _ => rfl, fun j t hd hD => ?_⟩, h0⟩, fun i j hD hE => ?_⟩ ?_ ?_
  · exfalso
    rw [decide_eq_true_eq] at hD
    rw [dstOf, List.getElem?_eq_none hD] at hd
    cases hd
  · exfalso
    rw [decide_eq_true_eq] at hD
    unfold waitB at hE
    rw [List.getElem?_eq_none hD] at hE
    cases hE
  · rintro D a w ⟨⟨g, ht, hj⟩, hcl⟩ i o ho hD hpre K hK
    have hpre' : ∀ j, waitB l i j = true → D j = true := fun j hE => by
      obtain ⟨e, he, rfl, hb⟩ := waitB_spec ho hE
      exact hpre e he hb
    refine hs D g a w ht hj hcl i o ho hD hpre' K fun v w' hj' => hK _ _ ⟨⟨_, ht.put hJ ho (fun t hd => hsz' i t (by simp [dstOf, ho, hd])) v, hj'⟩, fun i' j hDi hE => ?_⟩
    show (if j = i then true else D j) = true
    by_cases e : j = i
    · rw [if_pos e]
    · rw [if_neg e]
      by_cases e2 : i' = i
      · subst e2; exact hpre' j hE
      · have hDi' : (if i' = i then true else D i') = true := hDi
        rw [if_neg e2] at hDi'
        exact hcl i' j hDi' hE
  · rintro D a w ⟨⟨g, ht, hj⟩, _⟩ hD
    rw [ht.all hJ hD hsz']
    exact he D g w hj hD
end
end Go.Proofs.YtomednfddpggaaaGreat
