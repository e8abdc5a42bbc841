/- The nodes, by how far they are; and the answer's: each put behind all that are no farther. -/
import Derived.Test.YtomednfddpggaaaGreatQBridgeRows14
import Derived.Test.YtomednfddpggaaaGreatQBridgeRows15
/- The nodes, by how far they are; and the answer's: each put behind all that are no farther. -/
namespace Go.Proofs.YtomednfddpggaaaGreat
open Go Go.RowKit
attribute [local go_sem] Oper.semAt_some
section
variable {F : Fence} {m : Nat} {w : World} {e : TypeId} {ops : Array Oper} {rest : List Oper} {o : Oper} {a : Act} {Q : Exit → Act → World → Prop}
theorem wp_appIn {t : TypeId} (E : Elem t e 1) (hgd : o.guard = none) (s x : Operand) (ho : o.op = .call { callee := .builtin .append, args := #[s, x], argTypes := #[t, t] })
    (lo : Nat) (hlo : lo ≤ w.heap.size) (n c : Nat) (A : Option Addr) (xs : List Value) (hs : a.eval s = .slice A n c) (hown : Own w lo e 1 A n c xs) (g c' : Nat) (v : Value) (hx : a.eval x = .slice (some ⟨g, 0, none⟩) 1 c')
    (hv : Holds w ⟨g, 0, none⟩ v) (h1 : v.oneCell' = true) (hnm : n + 1 ≤ 1000000000000)
    (h : ∀ A' c'' w', Own w' lo e 1 A' (n + 1) c'' (xs ++ [v]) → Touch (fun k => ∃ p, A = some p ∧ p.block = k) w w' → (∀ p, A' = some p → (∃ q, A = some q ∧ q.block = p.block) ∨ New w w' p.block) → wpListIn F m Tryz.prog ops Q rest (a.put o.dst (.slice A' (n + 1) c'')) w') :
    wpListIn F m Tryz.prog ops Q (o :: rest) a w := by
  obtain ⟨i, z, bytes, hi, hz, hsz, hby, hzs, hb64⟩ := E.info
  refine wpListIn_plain hgd fun K hK' => ?_
  obtain ⟨v', w', hr, hown', hgr, _, hat⟩ := run_append_own_at (P := Tryz.prog) w lo t o.type e i z 1 bytes E.under hi hz hsz hby hzs E.pos (.slice A n c) n xs hown ⟨g, 0, none⟩ 1 c' [v] rfl (fun j u hu => by
    have hj : j = 0 := by
      have := (List.getElem?_eq_some_iff.1 hu).1
      simpa using this
    subst hj
    simp at hu
    subst hu
    simpa [Addr.add] using hv.cell) (by intro u hu; simp at hu; rw [hu]; exact h1) (by unfold maxLen; omega) (Nat.le_trans (Nat.mul_le_mul hnm hb64) (by omega)) hlo
  obtain ⟨A', c'', rfl⟩ := own_form hown'
  have ht : Touch (fun k => ∃ p, A = some p ∧ p.block = k) w w' := (Touch.refl _ w).grown hgr fun k hk => .inl (by
    cases A with
    | none => simp [Value.ownBlock] at hk
    | some p => simp [Value.ownBlock] at hk; exact ⟨p, rfl, hk⟩)
  have hloc : ∀ p, A' = some p → (∃ q, A = some q ∧ q.block = p.block) ∨ New w w' p.block := fun p hp => by
    have hlt := (hown'.lt p.block (by subst hp; rfl)).2
    subst hp
    simp only [Value.ownBlock] at hat
    rcases hat with hat | hat
    · left
      cases A with
      | none => simp at hat
      | some q => exact ⟨q, rfl, by simpa using hat.symm⟩
    · right
      have e9 : p.block = w.heap.size := by simpa using hat
      exact ⟨Nat.le_of_eq e9.symm, hlt⟩
  unfold Oper.wpIn
  refine ⟨?_, ?_⟩
  · simp [Oper.about, ho, resolve, Target.leads, Sem.run_pure]
  · rw [Oper.semAt_plain F _ _ (by rw [ho]; intro c hc'; cases hc')]
    simp [execOp, ho, resolve, invoke, builtin, hs, hx, hr, Result.andThen]
    exact hK' _ _ (h A' c'' w' hown' ht hloc)
end
def ordL (xs : List (Nat × Nat)) : List Int := xs.map fun p => (p.1 : Int)
theorem ordL_snoc (xs : List (Nat × Nat)) (p : Nat × Nat) : ordL (xs ++ [p]) = ordL xs ++ [(p.1 : Int)] := by simp [ordL]
def OrdI (w : World) (lo b6 : Nat) (p : List (Nat × Nat)) (Mi : Nat → Prop) (W : World) : Prop :=
  ∃ A c, (∃ y : Later w, W = y.now) ∧ Arr W b6 36 [.slice A p.length c] ∧ Own W lo 3 1 A p.length c ((ordL p).map (.int .i64)) ∧ (∀ q, A = some q → ¬ Mi q.block) ∧ (∀ k, Mi k → lo ≤ k ∧ k < W.heap.size) ∧ lo ≤ W.heap.size
theorem OrdI.yields {w : World} {lo b6 : Nat} (h1 : b6 < lo) (hlo : w.heap.size ≤ lo) : Yields' (OrdI w lo b6) := by
  rintro p Mi W Mi' W' ⟨A, c, ⟨y, rfl⟩, a1, a2, a3, a4, a5⟩ ht hM'
  refine ⟨A, c, ⟨⟨W', ht.later y.grows (fun k hk => Nat.le_trans hlo (a4 k hk).1)⟩, rfl⟩, a1.touch ht (fun e => by have := (a4 _ e).1; omega), a2.touch ht a3, fun q hq e => ?_, fun k hk => ?_, Nat.le_trans a5 ht.size⟩
  · rcases (hM' _ e).1 with h | h
    · exact a3 q hq h
    · have := (a2.ty q hq).2.lt; omega
  · obtain ⟨h | h, h'⟩ := hM' k hk
    · exact ⟨(a4 k h).1, h'⟩
    · exact ⟨by omega, h'⟩
def FrameOrd (b6 v : Nat) (a' : Act) : Prop := ∃ u0 u1 u2 u3 u4 u5 u7 u8 u10 u11 u12 u13 u14 u15 u16 u17 u18 u19 u20 u21 u22 u23 u24 u25 u26 u27 : Value, a' = { tmps := #[u0, u1, u2, u3, u4, u5, .pointer (some ⟨b6, 0, none⟩), u7, u8, .int .i64 (v : Int), u10, u11, u12, u13, u14, u15, u16, u17, u18, u19, u20, u21, u22, u23, u24, u25, u26, u27], defers := [] }
def OrdB (w : World) (lo b6 : Nat) (x : Nat × Nat) (a' : Act) (p : List (Nat × Nat)) (Mi : Nat → Prop) (W : World) : Prop := FrameOrd b6 x.1 a' ∧ OrdI w lo b6 p Mi W
set_option maxRecDepth 40000 in
set_option maxHeartbeats 8000000 in
theorem djOrder (N s : Nat) (A : Option Addr) (c : Nat) (E : List Edg) (o : DOpt) (An Ae Aw : Option Addr) (cn ce cw : Nat) (xs : List (Nat × Nat)) (w : World) (h : Rd w A 3 E.length (esCells E)) (h2 : Rd w An 1 o.nn.length (o.nn.map (.int .i64))) (h3 : Rd w Ae 1 o.ne.length (o.ne.map (.int .i64))) (h4 : Rd w Aw 1 o.W.length (wv o.W))
    (hok : WalkOk N s E o) (hd : dcF N s E o.W = 0) (hxs : if (s : Int) ∈ o.nn then xs = [] else Trace (srchOf N E o) (reachS o.most (st0 N) s 0) xs) (hxl : xs.length ≤ 1000000) :
    Calls Tryz.prog 35 #[.agg #[.int .i64 (N : Int), .slice A E.length c], .int .i64 (s : Int), oVal o.back (.slice An o.nn.length cn) (.slice Ae o.ne.length ce) Aw o.W.length cw o.most] w fun e w' =>
      ∃ A' c', e = .returned (.tuple #[.slice A' xs.length c', .int .i64 0]) ∧ Rd w' A' 1 xs.length ((ordL xs).map (.int .i64)) ∧ Grows w w' := by
  unfold oVal
  obtain ⟨r1, r2, r3, r4, r5⟩ := right_in hok.right
  have C1 := hide (fun (W : World) (g : Grows w W) => djCheck (N : Int) s A E.length c E o.back (.slice An o.nn.length cn) (.slice Ae o.ne.length ce) Aw o.W.length cw o.most o.W W (h.grows g) (h4.grows g) (by omega) (by have := hok.wts; omega))
  rw [hd] at C1
  unfold oVal at C1
  have C3 := hide (fun (W : World) => djWalk (.agg #[.int .i64 (N : Int), .slice A E.length c]) (.int .i64 (s : Int)) (.agg #[.bool o.back, .slice An o.nn.length cn, .slice Ae o.ne.length ce, .slice Aw o.W.length cw, .int .u64 (o.most : Int)]) (N : Int) (.slice A E.length c) rfl (s : Int) rfl _ _ _ _ _ rfl W)
  have HM := hide (And.intro h (And.intro h2 (And.intro h3 h4)))
  have HOK := hide hok
  have HXS := hide hxs
  clear h h2 h3 h4 hok hxs hd r1 r2 r3 r4 r5
  refine calls_of_marks Tryz.func35 rfl ?_
  simp only [Tryz.ntmps35, List.size_toArray, List.length_cons, List.length_nil, Nat.reduceAdd, Nat.reduceSub, Array.replicate_succ, Array.replicate_zero, List.push_toArray, List.append_toArray, List.nil_append, List.cons_append]
  go_wp2_with fail
  refine (C1.out _ GG).mono ?_; rintro e w' ⟨rfl, hg⟩; obtain ⟨x1, rfl⟩ := hg.later; clear hg
  go_wp2_with fail
  refine (C3.out _).mono ?_; rintro e W0 ⟨b, rfl, hb, z1, z2, z3, hg⟩
  have hx2 := x1.size
  have hs5 : w.heap.size + 1 + 1 < b := by rw [← hb]; simp at hx2; omega
  have q6 : Arr W0 (w.heap.size + 1 + 1) 36 [.slice none 0 0] := Arr.grow ⟨by simp [heap_push, Array.getElem_push]⟩ (x1.grows.trans hg)
  have hgw : Grows w W0 := Grows.trans (by show Grows w x1.now; exact GG) hg
  have hW0 := z3.lt
  have hsz0 := hgw.size
  have g6 : w.heap.size ≤ w.heap.size + 1 + 1 := by omega
  clear hb hg C1 C3 hx2
  generalize w.heap.size + 1 + 1 = b6 at *
  generalize w.heap.size + 1 = b5 at *
  have hwalk : WalkAt (fun k => k < w.heap.size ∨ (b ≤ k ∧ k ≤ b + 1 + 1)) W0 b (b + 1 + 1) (b + 1) N s E o := by
    obtain ⟨h1, h2, h3, h4⟩ := HM.out
    exact ⟨A, c, An, cn, Ae, ce, Aw, cw, z1, z3, z2, h1.grows hgw, h2.grows hgw, h3.grows hgw, h4.grows hgw, .inr ⟨by omega, by omega⟩, .inr ⟨by omega, by omega⟩, .inr ⟨by omega, by omega⟩, fun h p hp => .inl (h1.block_lt (by omega) h p hp), fun h p hp => .inl (h2.block_lt (by omega) h p hp), fun h p hp => .inl (h3.block_lt (by omega) h p hp), fun h p hp => .inl (h4.block_lt (by omega) h p hp)⟩
  have hBW : ∀ k, (k < w.heap.size ∨ (b ≤ k ∧ k ≤ b + 1 + 1)) → k < W0.heap.size := fun k hk => by rcases hk with hk | hk <;> omega
  have hGV := djWalk1 (fun k => k < w.heap.size ∨ (b ≤ k ∧ k ≤ b + 1 + 1)) (fun k => k < w.heap.size ∨ (b ≤ k ∧ k ≤ b + 1 + 1)) (fun _ => False) b (b + 1 + 1) (b + 1) N s E o xs W0 hwalk (fun k hk => .inl hk) (fun k hk => hk.elim) hBW HOK.out HXS.out
  have h0 : OrdI w W0.heap.size b6 [] (fun _ => False) W0 := ⟨none, 0, ⟨⟨W0, hgw⟩, rfl⟩, q6, Own.nil _ _ _ _, fun q hq => (by cases hq), fun k hk => hk.elim, Nat.le_refl _⟩
  have hIy := OrdI.yields (w := w) (lo := W0.heap.size) (b6 := b6) (by omega) hsz0
  have HGV := hide hGV
  have H0 := hide h0
  have HXL := hide hxl
  clear hGV h0 hwalk q6 z1 z2 z3 HM HXS HOK hxl
  go_wp2_with fail
  refine (wpIn_wide (n := 0)).1 ?_
  have hGV := HGV.out
  have h0 := H0.out
  clear HGV H0
  refine wp_rangeG (w0 := W0) (gf := 102) rfl (enters_of Tryz.func102 (by kernel_rfl) rfl) hGV (Keeps.refl _ _ _) hBW (fun k hk => hk.elim) (fun _ => rfl)
    (OrdI w W0.heap.size b6) (fun _ _ _ _ => False) hIy (fun c _ _ _ _ _ h _ _ => h.elim) h0 (OrdB w W0.heap.size b6) ?hIb ?assign ?body ?done ?stop
  case hIb =>
    rintro x a' p Mi W1 Mi' W' ⟨hf, hI⟩ ht hM'
    exact ⟨hf, hIy p Mi W1 Mi' W' hI ht hM'⟩
  case assign =>
    intro l2 p x rest Mi W1 hsp hI
    have HI := hide hI
    clear hI
    unfold encD
    gi_wp2
    refine ⟨⟨?_, HI.out⟩, Keeps.refl _ _ _⟩
    unfold FrameOrd
    (repeat apply Exists.intro)
    rfl
  case body =>
    rintro l2 p ⟨v, far⟩ rest Mi a' W1 hsp hl2 hMl hrec ⟨⟨u0, u1, u2, u3, u4, u5, u7, u8, u10, u11, u12, u13, u14, u15, u16, u17, u18, u19, u20, u21, u22, u23, u24, u25, u26, u27, rfl⟩, ⟨A9, c9, ⟨y, rfl⟩, q6, ho, hnM, hm, hlo⟩⟩
    have hpl : p.length < 1000000 := by
      have := HXL.out
      rw [hsp] at this
      simp at this
      omega
    have HO := hide ho
    have HNM := hide hnM
    have HMM := hide hm
    have HSN := hide (ordL_snoc p (v, far))
    clear hsp hl2 hMl hrec hm h0 hIy hGV ho hnM
    simp only
    have HNB : Hid (∀ q, A9 = some q → q.block ≠ b6) := fun q hq e => by
      have h1 := (HO.out.ty q hq).2.one (by rw [e]; exact q6.ty)
      exact absurd h1 (by decide)
    have hyo : W0.heap.size ≤ (y.now.alloc (.cells #[.int .i64 (v : Int)] 3)).heap.size := by simp; omega
    gi_wp2_with (refine wp_appIn elemInt rfl _ _ rfl W0.heap.size hyo p.length c9 A9 _ rfl (HO.out.new _) _ _ _ rfl inferInstance rfl (by omega) ?_; intro A3 c3 w3 ho3 ht3 hn3; have q63 : Arr w3 b6 36 [.slice A9 p.length c9] := (q6.grow ((Grows.refl _).new _)).touch ht3 (fun e => by obtain ⟨q, hq, e2⟩ := e; exact HNB.out q hq e2); have HO3 := hide ho3; have HT3 := hide ht3; have HN3 := hide hn3; clear ho3 ht3 hn3)
    have htt : Touch (fun k => ¬ ((k < w.heap.size ∨ (b ≤ k ∧ k ≤ b + 1 + 1)) ∨ Mi k)) y.now w3 := Touch.trans2 (((Grows.refl y.now).new _).touch _) HT3.out (fun k hk => by
      obtain ⟨q, hq, e2⟩ := hk
      have h1 := (HO.out.ty q hq).1
      refine .inl (fun e => ?_)
      rcases e with (e | e) | e
      · omega
      · omega
      · exact HNM.out q hq (by rw [e2]; exact e))
    have hsz3 := htt.size
    have hyg3 : Grows w w3 := htt.later y.grows (fun k hk => by
      rcases Nat.lt_or_ge k w.heap.size with h | h
      · exact absurd (.inl (.inl h)) hk
      · exact h)
    have hb6n : ¬ ((b6 < w.heap.size ∨ (b ≤ b6 ∧ b6 ≤ b + 1 + 1)) ∨ Mi b6) := fun e => by
      rcases e with (e | e) | e
      · omega
      · omega
      · have := (HMM.out _ e).1; omega
    refine ⟨htt.set (.inl hb6n) _, A3, c3, ⟨⟨_, hyg3.set g6 _⟩, rfl⟩, ?_, ?_, fun q hq e => ?_, fun k hk => ?_, ?_⟩
    · have := q63.set 0 (.slice A3 (p.length + 1) c3)
      rw [List.length_append, List.length_singleton]
      exact this
    · rw [HSN.out, List.length_append, List.length_singleton, List.map_append]
      exact HO3.out.low (q := ⟨b6, 0, none⟩) (by show b6 < _; omega) _
    · rcases HN3.out q hq with ⟨q2, hq2, e2⟩ | hnew
      · exact HNM.out q2 hq2 (by rw [e2]; exact e)
      · have h1 := (HMM.out _ e).2
        have h2 := hnew.1
        simp at h2
        omega
    · rw [size_setCell]
      have := HMM.out k hk
      exact ⟨this.1, by omega⟩
    · rw [size_setCell]; omega
  case done =>
    intro D Mi W1 hlD hMD hI hDW
    obtain ⟨A9, c9, ⟨y, rfl⟩, q6, ho, hnM, hm, hlo⟩ := hI
    have HO := hide ho
    have HDW := hide hDW
    have HNB : Hid (∀ q, A9 = some q → q.block ≠ D) := fun q hq e => hnM q hq (by rw [e]; exact hMD)
    clear hm hDW hIy h0 hGV ho hnM
    gi_wp2
    go_wp2_with fail
    have hDl : w.heap.size ≤ D ∧ b6 ≠ D := by omega
    have e6 : Arr (y.now.setCell ⟨b6, 0, none⟩ (.slice A9 xs.length c9)) b6 36 [.slice A9 xs.length c9] := q6.set 0 _
    have hyg : Grows w (y.now.setCell ⟨b6, 0, none⟩ (.slice A9 xs.length c9)) := y.grows.set g6 _
    have hD3 : (y.now.setCell ⟨b6, 0, none⟩ (.slice A9 xs.length c9)).heap[D]? = some (.deferred (some [])) := by
      rw [heap_setCell _ _ _ _ (Ne.symm hDl.2)]
      exact HDW.out
    have ho2 := HO.out.low (q := ⟨b6, 0, none⟩) (by show b6 < _; omega) (.slice A9 xs.length c9)
    refine marks_ret [D] rfl ((Marks.nil _).cons hD3 (by simp)) (fun W' htt => ?_)
    have k6 := (e6.touch htt (fun e => hDl.2 (List.mem_singleton.1 e))).cell 0
    refine ⟨.tuple #[.slice A9 xs.length c9, .int .i64 0], by simp (maxDischargeDepth := 6) [results, Tryz.results35, go_sem, k6], A9, c9, rfl, ?_, htt.later hyg (fun k hk => by rw [List.mem_singleton.1 hk]; exact hDl.1)⟩
    exact ho2.rd.touch htt (fun q hq e => HNB.out q hq (List.mem_singleton.1 e))
  case stop =>
    intro D c' p i rest Mi W1 _ _ _ h _
    exact h.elim
theorem djOrderNo (N s : Int) (A : Option Addr) (n c : Nat) (E : List Edg) (back : Bool) (nn ne : Value) (Aw : Option Addr) (nw cw most : Nat) (W : List Nat) (w : World) (h : Rd w A 3 n (esCells E)) (hW : Rd w Aw 1 nw (wv W)) (hn : n ≤ 1000000) (hnw : nw ≤ 1000000) (hd : dcF N s E W ≠ 0) :
    Calls Tryz.prog 35 #[.agg #[.int .i64 N, .slice A n c], .int .i64 s, oVal back nn ne Aw nw cw most] w fun e w' => e = .returned (.tuple #[.slice none 0 0, .int .i64 (dcF N s E W)]) ∧ Grows w w' := by
  unfold oVal
  have C1 := hide (fun (W1 : World) (g : Grows w W1) => djCheck N s A n c E back nn ne Aw nw cw most W W1 (h.grows g) (hW.grows g) hn hnw)
  unfold oVal at C1
  have hr2 : (dcF N s E W == 0) = false := beq_eq_false_iff_ne.2 hd
  clear h hW
  generalize dcF N s E W = r at *
  go_enter Tryz.func35, Tryz.ntmps35
  go_wp2_with (go_at_call 67; refine (C1.out _ GG).mono ?_; rintro e w' ⟨rfl, hg⟩; obtain ⟨x1, rfl⟩ := hg.later; clear hg)
  refine bodyPost_ret (v := .tuple #[.slice none 0 0, .int .i64 r]) (by simp (maxDischargeDepth := 6) [results, Tryz.results35, go_sem, *]) rfl ?_
  exact ⟨rfl, GG⟩
end Go.Proofs.YtomednfddpggaaaGreat
