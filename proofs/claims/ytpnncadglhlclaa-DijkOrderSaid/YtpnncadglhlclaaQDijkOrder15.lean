/- The nodes, by how far they are; and the answer's: each put behind all that are no farther. -/
import Derived.Test.YtpnncadglhlclaaQDijkOrder13
import Derived.Test.YtpnncadglhlclaaQDijkOrder14
/- The nodes, by how far they are; and the answer's: each put behind all that are no farther. -/
namespace Go.Proofs.Ytpnncadglhlclaa
open Go Go.RowKit
attribute [local go_sem] Oper.semAt_some
section
variable {F : Fence} {m : Nat} {w : World} {e : TypeId} {ops : Array Oper} {rest : List Oper} {o : Oper} {a : Act} {Q : Exit → Act → World → Prop}
/-- append of one element of one cell, inside a round; where the row lies behind it. -/
theorem wp_appIn {t : TypeId} (E : Elem t e 1) (hgd : o.guard = none) (s x : Operand) (ho : o.op = .call { callee := .builtin .append, args := #[s, x], argTypes := #[t, t] })
    (lo : Nat) (hlo : lo ≤ w.heap.size) (n c : Nat) (A : Option Addr) (xs : List Value) (hs : a.eval s = .slice A n c) (hown : Own w lo e 1 A n c xs) (g c' : Nat) (v : Value) (hx : a.eval x = .slice (some ⟨g, 0, none⟩) 1 c')
    (hv : Holds w ⟨g, 0, none⟩ v) (h1 : v.oneCell' = true) (hnm : n + 1 ≤ 1000000000000)
    (h : ∀ A' c'' w', Own w' lo e 1 A' (n + 1) c'' (xs ++ [v]) → Touch (fun k => ∃ p, A = some p ∧ p.block = k) w w' → (∀ p, A' = some p → (∃ q, A = some q ∧ q.block = p.block) ∨ New w w' p.block) → wpListIn F m Try.prog ops Q rest (a.put o.dst (.slice A' (n + 1) c'')) w') :
    wpListIn F m Try.prog ops Q (o :: rest) a w := by
  obtain ⟨i, z, bytes, hi, hz, hsz, hby, hzs, hb64⟩ := E.info
  refine wpListIn_plain hgd fun K hK' => ?_
  obtain ⟨v', w', hr, hown', hgr, _, hat⟩ := run_append_own_at (P := Try.prog) w lo t o.type e i z 1 bytes E.under hi hz hsz hby hzs E.pos (.slice A n c) n xs hown ⟨g, 0, none⟩ 1 c' [v] rfl (fun j u hu => by
    have hj : j = 0 := by
      have := (List.getElem?_eq_some_iff.1 hu).1
      simpa using this
    subst hj
    simp at hu
    subst hu
    simpa [Addr.add] using hv.cell) (by intro u hu; simp at hu; rw [hu]; exact h1) (by unfold maxLen; omega) (Nat.le_trans (Nat.mul_le_mul hnm hb64) (by omega)) hlo
  obtain ⟨A', c'', rfl⟩ := own_form hown'
  have ht : Touch (fun k => ∃ p, A = some p ∧ p.block = k) w w' := (Touch.refl _ w).grown hgr fun k hk => .inl (by
    cases A with
    | none => simp [Value.ownBlock] at hk
    | some p => simp [Value.ownBlock] at hk; exact ⟨p, rfl, hk⟩)
  have hloc : ∀ p, A' = some p → (∃ q, A = some q ∧ q.block = p.block) ∨ New w w' p.block := fun p hp => by
    have hlt := (hown'.lt p.block (by subst hp; rfl)).2
    subst hp
    simp only [Value.ownBlock] at hat
    rcases hat with hat | hat
    · left
      cases A with
      | none => simp at hat
      | some q => exact ⟨q, rfl, by simpa using hat.symm⟩
    · right
      have e9 : p.block = w.heap.size := by simpa using hat
      exact ⟨Nat.le_of_eq e9.symm, hlt⟩
  unfold Oper.wpIn
  refine ⟨?_, ?_⟩
  · simp [Oper.about, ho, resolve, Target.leads, Sem.run_pure]
  · rw [Oper.semAt_plain F _ _ (by rw [ho]; intro c hc'; cases hc')]
    simp [execOp, ho, resolve, invoke, builtin, hs, hx, hr, Result.andThen]
    exact hK' _ _ (h A' c'' w' hown' ht hloc)
end
def ordL (xs : List (Nat × Nat)) : List Int := xs.map fun p => (p.1 : Int)
theorem ordL_snoc (xs : List (Nat × Nat)) (p : Nat × Nat) : ordL (xs ++ [p]) = ordL xs ++ [(p.1 : Int)] := by simp [ordL]
/-- Between two nodes. -/
def OrdI (w : World) (lo b6 : Nat) (p : List (Nat × Nat)) (Mi : Nat → Prop) (W : World) : Prop :=
  ∃ A c, (∃ y : Later w, W = y.now) ∧ Arr W b6 31 [.slice A p.length c] ∧ Own W lo 3 1 A p.length c ((ordL p).map (.int .i64)) ∧ (∀ q, A = some q → ¬ Mi q.block) ∧ (∀ k, Mi k → lo ≤ k ∧ k < W.heap.size) ∧ lo ≤ W.heap.size
theorem OrdI.yields {w : World} {lo b6 : Nat} (h1 : b6 < lo) (hlo : w.heap.size ≤ lo) : Yields' (OrdI w lo b6) := by
  rintro p Mi W Mi' W' ⟨A, c, ⟨y, rfl⟩, a1, a2, a3, a4, a5⟩ ht hM'
  refine ⟨A, c, ⟨⟨W', ht.later y.grows (fun k hk => Nat.le_trans hlo (a4 k hk).1)⟩, rfl⟩, a1.touch ht (fun e => by have := (a4 _ e).1; omega), a2.touch ht a3, fun q hq e => ?_, fun k hk => ?_, Nat.le_trans a5 ht.size⟩
  · rcases (hM' _ e).1 with h | h
    · exact a3 q hq h
    · have := (a2.ty q hq).2.lt; omega
  · obtain ⟨h | h, h'⟩ := hM' k hk
    · exact ⟨(a4 k h).1, h'⟩
    · exact ⟨by omega, h'⟩
def FrameOrd (b6 v : Nat) (a' : Act) : Prop := ∃ u0 u1 u2 u3 u4 u5 u7 u8 u10 u11 u12 u13 u14 u15 u16 u17 u18 u19 u20 u21 u22 u23 u24 u25 u26 u27 : Value, a' = { tmps := #[u0, u1, u2, u3, u4, u5, .pointer (some ⟨b6, 0, none⟩), u7, u8, .int .i64 (v : Int), u10, u11, u12, u13, u14, u15, u16, u17, u18, u19, u20, u21, u22, u23, u24, u25, u26, u27], defers := [] }
def OrdB (w : World) (lo b6 : Nat) (x : Nat × Nat) (a' : Act) (p : List (Nat × Nat)) (Mi : Nat → Prop) (W : World) : Prop := FrameOrd b6 x.1 a' ∧ OrdI w lo b6 p Mi W
set_option maxRecDepth 40000 in
set_option maxHeartbeats 8000000 in
theorem djOrder (N s : Nat) (A : Option Addr) (c : Nat) (E : List Edg) (o : DOpt) (An Ae Aw : Option Addr) (cn ce cw : Nat) (xs : List (Nat × Nat)) (w : World) (h : Rd w A 3 E.length (esCells E)) (h2 : Rd w An 1 o.nn.length (o.nn.map (.int .i64))) (h3 : Rd w Ae 1 o.ne.length (o.ne.map (.int .i64))) (h4 : Rd w Aw 1 o.W.length (wv o.W))
    (hok : WalkOk N s E o) (hd : dcF N s E o.W = 0) (hxs : if (s : Int) ∈ o.nn then xs = [] else Trace (srchOf N E o) (reachS o.most (st0 N) s 0) xs) (hxl : xs.length ≤ 1000000) :
    Calls Try.prog 30 #[.agg #[.int .i64 (N : Int), .slice A E.length c], .int .i64 (s : Int), oVal o.back (.slice An o.nn.length cn) (.slice Ae o.ne.length ce) Aw o.W.length cw o.most] w fun e w' =>
      ∃ A' c', e = .returned (.tuple #[.slice A' xs.length c', .int .i64 0]) ∧ Rd w' A' 1 xs.length ((ordL xs).map (.int .i64)) ∧ Grows w w' := by
  unfold oVal
  obtain ⟨r1, r2, r3, r4, r5⟩ := right_in hok.right
  have C1 := hide (fun (W : World) (g : Grows w W) => djCheck (N : Int) s A E.length c E o.back (.slice An o.nn.length cn) (.slice Ae o.ne.length ce) Aw o.W.length cw o.most o.W W (h.grows g) (h4.grows g) (by omega) (by have := hok.wts; omega))
  rw [hd] at C1
  unfold oVal at C1
  have C3 := hide (fun (W : World) => djWalk (.agg #[.int .i64 (N : Int), .slice A E.length c]) (.int .i64 (s : Int)) (.agg #[.bool o.back, .slice An o.nn.length cn, .slice Ae o.ne.length ce, .slice Aw o.W.length cw, .int .u64 (o.most : Int)]) (N : Int) (.slice A E.length c) rfl (s : Int) rfl _ _ _ _ _ rfl W)
  have HM := hide (And.intro h (And.intro h2 (And.intro h3 h4)))
  have HOK := hide hok
  have HXS := hide hxs
  clear h h2 h3 h4 hok hxs hd r1 r2 r3 r4 r5
  refine calls_of_marks Try.func30 rfl ?_
  simp only [Try.ntmps30, List.size_toArray, List.length_cons, List.length_nil, Nat.reduceAdd, Nat.reduceSub, Array.replicate_succ, Array.replicate_zero, List.push_toArray, List.append_toArray, List.nil_append, List.cons_append]
  go_wp2_with fail
  refine (C1.out _ (by repeat (first | exact Grows.refl _ | refine Grows.now ?_ _ | refine Grows.new ?_ _ | refine Grows.drewN ?_ _ | refine Grows.drew ?_ | assumption | (refine Grows.set ?_ (by first | omega | (simp; done) | (simp; omega)) _)))).mono ?_; rintro e w' ⟨rfl, hg⟩; obtain ⟨x1, rfl⟩ := hg.later; clear hg
  go_wp2_with fail
  refine (C3.out _).mono ?_; rintro e W0 ⟨b, rfl, hb, z1, z2, z3, hg⟩
  have hx2 := x1.size
  have hs5 : w.heap.size + 1 + 1 < b := by rw [← hb]; simp at hx2; omega
  have q6 : Arr W0 (w.heap.size + 1 + 1) 31 [.slice none 0 0] := Arr.grow ⟨by simp [heap_push, Array.getElem_push, Array.getElem?_push, eq_add2]⟩ (x1.grows.trans hg)
  have hgw : Grows w W0 := Grows.trans (by show Grows w x1.now; exact (by repeat (first | exact Grows.refl _ | refine Grows.now ?_ _ | refine Grows.new ?_ _ | refine Grows.drewN ?_ _ | refine Grows.drew ?_ | assumption | (refine Grows.set ?_ (by first | omega | (simp; done) | (simp; omega)) _)))) hg
  have hW0 := z3.lt
  have hsz0 := hgw.size
  have g6 : w.heap.size ≤ w.heap.size + 1 + 1 := by omega
  clear hb hg C1 C3 hx2
  generalize w.heap.size + 1 + 1 = b6 at *
  generalize w.heap.size + 1 = b5 at *
  have hwalk : WalkAt (fun k => k < w.heap.size ∨ (b ≤ k ∧ k ≤ b + 1 + 1)) W0 b (b + 1 + 1) (b + 1) N s E o := by
    obtain ⟨h1, h2, h3, h4⟩ := HM.out
    exact ⟨A, c, An, cn, Ae, ce, Aw, cw, z1, z3, z2, h1.grows hgw, h2.grows hgw, h3.grows hgw, h4.grows hgw, .inr ⟨by omega, by omega⟩, .inr ⟨by omega, by omega⟩, .inr ⟨by omega, by omega⟩, fun h p hp => .inl (h1.block_lt (by omega) h p hp), fun h p hp => .inl (h2.block_lt (by omega) h p hp), fun h p hp => .inl (h3.block_lt (by omega) h p hp), fun h p hp => .inl (h4.block_lt (by omega) h p hp)⟩
  have hBW : ∀ k, (k < w.heap.size ∨ (b ≤ k ∧ k ≤ b + 1 + 1)) → k < W0.heap.size := fun k hk => by rcases hk with hk | hk <;> omega
  have hGV := djWalk1 (fun k => k < w.heap.size ∨ (b ≤ k ∧ k ≤ b + 1 + 1)) (fun k => k < w.heap.size ∨ (b ≤ k ∧ k ≤ b + 1 + 1)) (fun _ => False) b (b + 1 + 1) (b + 1) N s E o xs W0 hwalk (fun k hk => .inl hk) (fun k hk => hk.elim) hBW HOK.out HXS.out
  have h0 : OrdI w W0.heap.size b6 [] (fun _ => False) W0 := ⟨none, 0, ⟨⟨W0, hgw⟩, rfl⟩, q6, Own.nil _ _ _ _, fun q hq => (by cases hq), fun k hk => hk.elim, Nat.le_refl _⟩
  have hIy := OrdI.yields (w := w) (lo := W0.heap.size) (b6 := b6) (by omega) hsz0
  have HGV := hide hGV
  have H0 := hide h0
  have HXL := hide hxl
  clear hGV h0 hwalk q6 z1 z2 z3 HM HXS HOK hxl
  go_wp2_with fail
  refine (wpIn_wide (n := 0)).1 ?_
  have hGV := HGV.out
  have h0 := H0.out
  clear HGV H0
  refine wp_rangeG (w0 := W0) (gf := 116) rfl (enters_of Try.func116 (by kernel_rfl) rfl) hGV (Keeps.refl _ _ _) hBW (fun k hk => hk.elim) (fun _ => rfl)
    (OrdI w W0.heap.size b6) (fun _ _ _ _ => False) hIy (fun c _ _ _ _ _ h _ _ => h.elim) h0 (OrdB w W0.heap.size b6) ?hIb ?assign ?body ?done ?stop
  case hIb =>
    rintro x a' p Mi W1 Mi' W' ⟨hf, hI⟩ ht hM'
    exact ⟨hf, hIy p Mi W1 Mi' W' hI ht hM'⟩
  case assign =>
    intro l2 p x rest Mi W1 hsp hI
    have HI := hide hI
    clear hI
    unfold encD
    gi_wp2
    refine ⟨⟨?_, HI.out⟩, Keeps.refl _ _ _⟩
    unfold FrameOrd
    (repeat apply Exists.intro)
    rfl
  case body =>
    rintro l2 p ⟨v, far⟩ rest Mi a' W1 hsp hl2 hMl hrec ⟨⟨u0, u1, u2, u3, u4, u5, u7, u8, u10, u11, u12, u13, u14, u15, u16, u17, u18, u19, u20, u21, u22, u23, u24, u25, u26, u27, rfl⟩, ⟨A9, c9, ⟨y, rfl⟩, q6, ho, hnM, hm, hlo⟩⟩
    have hpl : p.length < 1000000 := by
      have := HXL.out
      rw [hsp] at this
      simp at this
      omega
    have HO := hide ho
    have HNM := hide hnM
    have HMM := hide hm
    have HSN := hide (ordL_snoc p (v, far))
    clear hsp hl2 hMl hrec hm h0 hIy hGV ho hnM
    simp only
    have HNB : Hid (∀ q, A9 = some q → q.block ≠ b6) := fun q hq e => by
      have h1 := (HO.out.ty q hq).2.one (by rw [e]; exact q6.ty)
      exact absurd h1 (by decide)
    have hyo : W0.heap.size ≤ (y.now.alloc (.cells #[.int .i64 (v : Int)] 3)).heap.size := by simp; omega
    gi_wp2_with (refine wp_appIn elemInt rfl _ _ rfl W0.heap.size hyo p.length c9 A9 _ rfl (HO.out.new _) _ _ _ rfl inferInstance rfl (by omega) ?_; intro A3 c3 w3 ho3 ht3 hn3; have q63 : Arr w3 b6 31 [.slice A9 p.length c9] := (q6.grow ((Grows.refl _).new _)).touch ht3 (fun e => by obtain ⟨q, hq, e2⟩ := e; exact HNB.out q hq e2); have HO3 := hide ho3; have HT3 := hide ht3; have HN3 := hide hn3; clear ho3 ht3 hn3)
    have htt : Touch (fun k => ¬ ((k < w.heap.size ∨ (b ≤ k ∧ k ≤ b + 1 + 1)) ∨ Mi k)) y.now w3 := Touch.trans2 (((Grows.refl y.now).new _).touch _) HT3.out (fun k hk => by
      obtain ⟨q, hq, e2⟩ := hk
      have h1 := (HO.out.ty q hq).1
      refine .inl (fun e => ?_)
      rcases e with (e | e) | e
      · omega
      · omega
      · exact HNM.out q hq (by rw [e2]; exact e))
    have hsz3 := htt.size
    have hyg3 : Grows w w3 := htt.later y.grows (fun k hk => by
      rcases Nat.lt_or_ge k w.heap.size with h | h
      · exact absurd (.inl (.inl h)) hk
      · exact h)
    have hb6n : ¬ ((b6 < w.heap.size ∨ (b ≤ b6 ∧ b6 ≤ b + 1 + 1)) ∨ Mi b6) := fun e => by
      rcases e with (e | e) | e
      · omega
      · omega
      · have := (HMM.out _ e).1; omega
    refine ⟨htt.set (.inl hb6n) _, A3, c3, ⟨⟨_, hyg3.set g6 _⟩, rfl⟩, ?_, ?_, fun q hq e => ?_, fun k hk => ?_, ?_⟩
    · have := q63.set 0 (.slice A3 (p.length + 1) c3)
      rw [List.length_append, List.length_singleton]
      exact this
    · rw [HSN.out, List.length_append, List.length_singleton, List.map_append]
      exact HO3.out.low (q := ⟨b6, 0, none⟩) (by show b6 < _; omega) _
    · rcases HN3.out q hq with ⟨q2, hq2, e2⟩ | hnew
      · exact HNM.out q2 hq2 (by rw [e2]; exact e)
      · have h1 := (HMM.out _ e).2
        have h2 := hnew.1
        simp at h2
        omega
    · rw [size_setCell]
      have := HMM.out k hk
      exact ⟨this.1, by omega⟩
    · rw [size_setCell]; omega
  case done =>
    intro D Mi W1 hlD hMD hI hDW
    obtain ⟨A9, c9, ⟨y, rfl⟩, q6, ho, hnM, hm, hlo⟩ := hI
    have HO := hide ho
    have HDW := hide hDW
    have HNB : Hid (∀ q, A9 = some q → q.block ≠ D) := fun q hq e => hnM q hq (by rw [e]; exact hMD)
    clear hm hDW hIy h0 hGV ho hnM
    gi_wp2
    go_wp2_with fail
    have hDl : w.heap.size ≤ D ∧ b6 ≠ D := by omega
    have e6 : Arr (y.now.setCell ⟨b6, 0, none⟩ (.slice A9 xs.length c9)) b6 31 [.slice A9 xs.length c9] := q6.set 0 _
    have hyg : Grows w (y.now.setCell ⟨b6, 0, none⟩ (.slice A9 xs.length c9)) := y.grows.set g6 _
    have hD3 : (y.now.setCell ⟨b6, 0, none⟩ (.slice A9 xs.length c9)).heap[D]? = some (.deferred (some [])) := by
      rw [heap_setCell _ _ _ _ (Ne.symm hDl.2)]
      exact HDW.out
    have ho2 := HO.out.low (q := ⟨b6, 0, none⟩) (by show b6 < _; omega) (.slice A9 xs.length c9)
    refine marks_ret [D] rfl ((Marks.nil _).cons hD3 (by simp)) (fun W' htt => ?_)
    have k6 := (e6.touch htt (fun e => hDl.2 (List.mem_singleton.1 e))).cell 0
    refine ⟨.tuple #[.slice A9 xs.length c9, .int .i64 0], by simp (maxDischargeDepth := 6) [results, Try.results30, go_sem, k6], A9, c9, rfl, ?_, htt.later hyg (fun k hk => by rw [List.mem_singleton.1 hk]; exact hDl.1)⟩
    exact ho2.rd.touch htt (fun q hq e => HNB.out q hq (List.mem_singleton.1 e))
  case stop =>
    intro D c' p i rest Mi W1 _ _ _ h _
    exact h.elim
theorem djOrderNo (N s : Int) (A : Option Addr) (n c : Nat) (E : List Edg) (back : Bool) (nn ne : Value) (Aw : Option Addr) (nw cw most : Nat) (W : List Nat) (w : World) (h : Rd w A 3 n (esCells E)) (hW : Rd w Aw 1 nw (wv W)) (hn : n ≤ 1000000) (hnw : nw ≤ 1000000) (hd : dcF N s E W ≠ 0) :
    Calls Try.prog 30 #[.agg #[.int .i64 N, .slice A n c], .int .i64 s, oVal back nn ne Aw nw cw most] w fun e w' => e = .returned (.tuple #[.slice none 0 0, .int .i64 (dcF N s E W)]) ∧ Grows w w' := by
  unfold oVal
  have C1 := hide (fun (W1 : World) (g : Grows w W1) => djCheck N s A n c E back nn ne Aw nw cw most W W1 (h.grows g) (hW.grows g) hn hnw)
  unfold oVal at C1
  have hr2 : (dcF N s E W == 0) = false := beq_eq_false_iff_ne.2 hd
  clear h hW
  generalize dcF N s E W = r at *
  go_enter Try.func30, Try.ntmps30
  go_wp2_with (go_at_call 35; refine (C1.out _ (by repeat (first | exact Grows.refl _ | refine Grows.now ?_ _ | refine Grows.new ?_ _ | refine Grows.drewN ?_ _ | refine Grows.drew ?_ | assumption | (refine Grows.set ?_ (by first | omega | (simp; done) | (simp; omega)) _)))).mono ?_; rintro e w' ⟨rfl, hg⟩; obtain ⟨x1, rfl⟩ := hg.later; clear hg)
  refine bodyPost_ret (v := .tuple #[.slice none 0 0, .int .i64 r]) (by simp (maxDischargeDepth := 6) [results, Try.results30, go_sem, *]) rfl ?_
  exact ⟨rfl, (by repeat (first | exact Grows.refl _ | refine Grows.now ?_ _ | refine Grows.new ?_ _ | refine Grows.drewN ?_ _ | refine Grows.drew ?_ | assumption | (refine Grows.set ?_ (by first | omega | (simp; done) | (simp; omega)) _)))⟩
end Go.Proofs.Ytpnncadglhlclaa

/- Plain law: nodes put in one by one, each behind all that are no farther, stand as a search takes them. -/
namespace Go.Proofs.Ytpnncadglhlclaa
open Go Go.RowKit
/-- Is a node ahead of another one? -/
def nodeLt (d : List Nat) (a b : Nat) : Prop := ahead (a, gn d a) (b, gn d b) = true
theorem nodeLt_iff {d : List Nat} {a b : Nat} : nodeLt d a b ↔ gn d a < gn d b ∨ gn d a = gn d b ∧ a < b := ahead_yes
/-- How many at the beginning are no farther. -/
def leadN (d : List Nat) (l : List Nat) (v : Nat) : Nat := (l.takeWhile fun u => decide (gn d u ≤ gn d v)).length
def insN (d : List Nat) (l : List Nat) (v : Nat) : List Nat := if gn d v < farV then l.take (leadN d l v) ++ v :: l.drop (leadN d l v) else l
def insK (d : List Nat) (m : Nat) : List Nat := (List.range m).foldl (insN d) []
theorem insK_succ (d : List Nat) (m : Nat) : insK d (m + 1) = insN d (insK d m) m := by simp [insK, List.range_succ, List.foldl_append]
theorem lead_le (d : List Nat) (l : List Nat) (v : Nat) : leadN d l v ≤ l.length := by
  unfold leadN
  exact (List.takeWhile_sublist _).length_le
theorem lead_lt {d : List Nat} {l : List Nat} {v j : Nat} (h : j < leadN d l v) (hj : j < l.length) : gn d l[j] ≤ gn d v := by
  unfold leadN at h
  have h1 := List.takeWhile_prefix (p := fun u => decide (gn d u ≤ gn d v)) (l := l)
  have h2 : l[j] ∈ l.takeWhile fun u => decide (gn d u ≤ gn d v) := by
    have := h1.getElem (i := j) h
    rw [← this]
    exact List.getElem_mem h
  have tw : ∀ (l : List Nat) (x : Nat), x ∈ (l.takeWhile fun u => decide (gn d u ≤ gn d v)) → gn d x ≤ gn d v := by
    intro l
    induction l with
    | nil => intro x hx; cases hx
    | cons a l ih =>
      intro x hx
      rw [List.takeWhile_cons] at hx
      by_cases ha : gn d a ≤ gn d v
      · rw [if_pos (by simpa using ha)] at hx
        rcases List.mem_cons.1 hx with rfl | hx
        · exact ha
        · exact ih x hx
      · rw [if_neg (by simpa using ha)] at hx
        cases hx
  exact tw l _ h2
theorem lead_at {d : List Nat} {l : List Nat} {v : Nat} : ∀ (hj : leadN d l v < l.length), gn d v < gn d l[leadN d l v] := by
  induction l with
  | nil => intro hj; simp at hj
  | cons a l ih =>
    intro hj
    by_cases ha : gn d a ≤ gn d v
    · have e : leadN d (a :: l) v = leadN d l v + 1 := by unfold leadN; simp [List.takeWhile_cons, ha]
      simp only [e, List.getElem_cons_succ]
      exact ih (by rw [e] at hj; simpa using hj)
    · have e : leadN d (a :: l) v = 0 := by unfold leadN; simp [List.takeWhile_cons, ha]
      simp only [e, List.getElem_cons_zero]
      omega
theorem lead_is {d : List Nat} {l : List Nat} {v k : Nat} (h1 : ∀ j, (hj : j < l.length) → j < k → gn d l[j] ≤ gn d v) (hk : k ≤ l.length) (h2 : (hk : k < l.length) → gn d v < gn d l[k]) : leadN d l v = k := by
  rcases Nat.lt_trichotomy (leadN d l v) k with h | h | h
  · have hl : leadN d l v < l.length := by omega
    have h3 := lead_at hl
    have h4 := h1 _ hl h
    omega
  · exact h
  · have hl := lead_le d l v
    have h3 := lead_lt h (by omega)
    have h4 := h2 (by omega)
    omega
theorem insN_sorted {d : List Nat} {l : List Nat} {v : Nat} (h : l.Pairwise (nodeLt d)) (hv : ∀ u, u ∈ l → u < v) : (insN d l v).Pairwise (nodeLt d) := by
  unfold insN
  split
  · rw [List.pairwise_append]
    have hd : ∀ u, u ∈ l.drop (leadN d l v) → gn d v < gn d u := by
      intro u hu
      obtain ⟨j, hj, rfl⟩ := List.mem_iff_getElem.1 hu
      rw [List.length_drop] at hj
      have hl : leadN d l v < l.length := by omega
      have h1 := lead_at hl
      rw [List.getElem_drop]
      rcases Nat.eq_zero_or_pos j with rfl | h0
      · simpa using h1
      · have := List.pairwise_iff_getElem.1 h (leadN d l v) (leadN d l v + j) hl (by omega) (by omega)
        rw [nodeLt_iff] at this
        omega
    have ht : ∀ u, u ∈ l.take (leadN d l v) → gn d u ≤ gn d v := by
      intro u hu
      obtain ⟨j, hj, rfl⟩ := List.mem_iff_getElem.1 hu
      rw [List.length_take] at hj
      rw [List.getElem_take]
      exact lead_lt (by omega) (by omega)
    refine ⟨h.sublist (List.take_sublist _ _), List.pairwise_cons.2 ⟨fun u hu => nodeLt_iff.2 (.inl (hd u hu)), h.sublist (List.drop_sublist _ _)⟩, fun a ha b hb => ?_⟩
    have h1 := ht a ha
    have h2 := hv a (List.mem_of_mem_take ha)
    rcases List.mem_cons.1 hb with rfl | hb
    · exact nodeLt_iff.2 (by omega)
    · exact nodeLt_iff.2 (.inl (by have := hd b hb; omega))
  · exact h
theorem insN_mem {d : List Nat} {l : List Nat} {v u : Nat} : u ∈ insN d l v ↔ u ∈ l ∨ (u = v ∧ gn d v < farV) := by
  unfold insN
  split
  · rename_i hf
    rw [List.mem_append, List.mem_cons]
    have hmem : u ∈ l ↔ u ∈ l.take (leadN d l v) ∨ u ∈ l.drop (leadN d l v) := by rw [← List.mem_append, List.take_append_drop]
    rw [hmem]
    constructor
    · rintro (h | h | h)
      · exact .inl (.inl h)
      · exact .inr ⟨h, hf⟩
      · exact .inl (.inr h)
    · rintro ((h | h) | h)
      · exact .inl h
      · exact .inr (.inr h)
      · exact .inr (.inl h.1)
  · rename_i hf
    exact ⟨.inl, fun h => h.elim id (fun h => absurd h.2 hf)⟩
theorem insK_all (d : List Nat) (m : Nat) : (insK d m).Pairwise (nodeLt d) ∧ ∀ u, u ∈ insK d m ↔ u < m ∧ gn d u < farV := by
  induction m with
  | zero => exact ⟨List.Pairwise.nil, fun u => ⟨fun h => (by cases h), fun h => absurd h.1 (Nat.not_lt_zero _)⟩⟩
  | succ m ih =>
    rw [insK_succ]
    refine ⟨insN_sorted ih.1 (fun u hu => ((ih.2 u).1 hu).1), fun u => ?_⟩
    rw [insN_mem, ih.2]
    constructor
    · rintro (h | ⟨rfl, h⟩)
      · exact ⟨by omega, h.2⟩
      · exact ⟨by omega, h⟩
    · rintro ⟨h1, h2⟩
      by_cases e : u = m
      · exact .inr ⟨e, by rw [← e]; exact h2⟩
      · exact .inl ⟨by omega, h2⟩
theorem sorted_one {d : List Nat} : ∀ {l k : List Nat}, l.Pairwise (nodeLt d) → k.Pairwise (nodeLt d) → (∀ u, u ∈ l ↔ u ∈ k) → l = k
  | [], [], _, _, _ => rfl
  | [], b :: k, _, _, h => absurd ((h b).2 (by simp)) (by simp)
  | a :: l, [], _, _, h => absurd ((h a).1 (by simp)) (by simp)
  | a :: l, b :: k, h1, h2, h => by
    rw [List.pairwise_cons] at h1 h2
    have e : a = b := by
      rcases List.mem_cons.1 ((h a).1 (by simp)) with e | ha
      · exact e
      · rcases List.mem_cons.1 ((h b).2 (by simp)) with e | hb
        · exact e.symm
        · have x1 := nodeLt_iff.1 (h1.1 b hb)
          have x2 := nodeLt_iff.1 (h2.1 a ha)
          omega
    subst e
    have irr : ∀ u, nodeLt d u u → False := fun u hu => by have := nodeLt_iff.1 hu; omega
    rw [sorted_one h1.2 h2.2 (fun u => ?_)]
    have hu := h u
    rw [List.mem_cons, List.mem_cons] at hu
    constructor
    · intro hl
      rcases hu.1 (.inr hl) with e | hk
      · subst e
        exact absurd (h1.1 u hl) (irr u)
      · exact hk
    · intro hk
      rcases hu.2 (.inr hk) with e | hl
      · subst e
        exact absurd (h2.1 u hk) (irr u)
      · exact hl
/-- So they stand as they came. -/
theorem insK_is {x : Srch} {s mw : Nat} {xs : List (Nat × Nat)} (h : Far x s mw xs) (hb : x.N * mw < farV) : insK (outL x.N xs) x.N = xs.map Prod.fst := by
  obtain ⟨h1, h2⟩ := insK_all (outL x.N xs) x.N
  refine sorted_one h1 ?_ (fun u => ?_)
  · rw [List.pairwise_map]
    refine List.Pairwise.imp_of_mem ?_ h.sorted
    intro p q hp hq hpq
    unfold nodeLt
    have e1 := outL_at h.nodup (h.way p.1 p.2 hp).1 hp
    have e2 := outL_at h.nodup (h.way q.1 q.2 hq).1 hq
    rw [e1, e2]
    exact hpq
  · rw [h2]
    constructor
    · rintro ⟨hu, hf⟩
      rcases outL_cases h hb hu with ⟨k1, _⟩ | ⟨k1, _⟩
      · exact List.mem_map.2 ⟨_, k1, rfl⟩
      · omega
    · intro hu
      obtain ⟨⟨v, f⟩, hp, rfl⟩ := List.mem_map.1 hu
      have hv := (h.way v f hp).1
      refine ⟨hv, ?_⟩
      have e1 := outL_at h.nodup hv hp
      simp only
      rw [e1]
      have := (h.way v f hp).2.2.2
      omega
end Go.Proofs.Ytpnncadglhlclaa

/- The answer's order: each node put behind all that are no farther. -/
namespace Go.Proofs.Ytpnncadglhlclaa
open Go Go.RowKit
section
variable {w : World} {e : TypeId} {ops : Array Oper} {rest : List Oper} {o : Oper} {a : Act} {Q : Exit → Act → World → Prop}
/-- append of all of a slice that may be nil. -/
theorem wp_appSrc {t : TypeId} (E : Elem t e 1) (hgd : o.guard = none) (s x : Operand) (ho : o.op = .call { callee := .builtin .append, args := #[s, x], argTypes := #[t, t] })
    (w0 : World) (hw0 : Grows w0 w) (n c : Nat) (A : Option Addr) (xs : List Value) (hs : a.eval s = .slice A n c) (hown : Own w w0.heap.size e 1 A n c xs) (B : Option Addr) (m d : Nat) (ys : List Value) (hx : a.eval x = .slice B m d)
    (hr : Rd w B 1 m ys) (hnil : B = none → m = 0 ∧ d = 0) (h1 : ∀ u ∈ ys, u.oneCell' = true) (hnm : n + m ≤ 1000000000000)
    (h : ∀ A' c'' (y : Later w0), Own y.now w0.heap.size e 1 A' (n + m) c'' (xs ++ ys) → wpList Try.prog ops Q rest (a.put o.dst (.slice A' (n + m) c'')) y.now) :
    wpList Try.prog ops Q (o :: rest) a w := by
  obtain ⟨i, z, bytes, hi, hz, hsz, hby, hzs, hb64⟩ := E.info
  cases hB : B with
  | none =>
    obtain ⟨rfl, rfl⟩ := hnil hB
    subst hB
    have hy : ys = [] := List.eq_nil_of_length_eq_zero (by have := hr.len; omega)
    subst hy
    have hrun := run_append_owned_none (P := Try.prog) w w0.heap.size t o.type e i 1 E.under hi (.slice A n c) n xs hown
    refine Lib.wpList_append_run w hgd s x t t ho (.slice A n c) (.slice none 0 0) hs hx (.slice A n c) w hrun ?_
    obtain ⟨y, rfl⟩ := hw0.later
    exact h A c y (by rw [List.append_nil]; exact hown)
  | some ad =>
    subst hB
    exact wp_appAll E hgd s x ho w0 hw0 n c A xs hs hown ad m d ys hx hr h1 hnm h
end
theorem lead_isN {d : List Nat} {l : List Nat} {v k : Nat} (h1 : ∀ j, j < k → gn d (gn l j) ≤ gn d v) (hk : k ≤ l.length) (h2 : k < l.length → gn d v < gn d (gn l k)) : leadN d l v = k := by
  have e : ∀ j, (hj : j < l.length) → gn l j = l[j] := fun j hj => by simp [gn, hj]
  exact lead_is (fun j hj h => by rw [← e j hj]; exact h1 j h) hk (fun h => by rw [← e k h]; exact h2 h)
theorem nv_one (l : List Nat) : ∀ u ∈ nv l, u.oneCell' = true := by
  intro u hu
  unfold nv at hu
  obtain ⟨x, _, rfl⟩ := List.mem_map.1 hu
  rfl
set_option maxRecDepth 20000 in
set_option maxHeartbeats 4000000 in
theorem r14Order (B : Option Addr) (n cb : Nat) (d : List Nat) (w : World) (h : Rd w B 1 n (wv d)) (hn : n ≤ 100000) :
    Calls Try.prog 32 #[.slice B n cb] w fun e w' => ∃ A' c', e = .returned (.slice A' (insK d n).length c') ∧ Rd w' A' 1 (insK d n).length (nv (insK d n)) ∧ Grows w w' := by
  have HL := hide h.wlen
  have HR := hide h
  clear h
  go_enter Try.func32, Try.ntmps32
  go_wp2
  go_loopw [4, 3] (fun i u wr => ∃ q : Nat, q ≤ n ∧ i = .int .i64 (q : Int) ∧ ∃ y : Later w, wr = y.now ∧ ∃ A' c', u = .slice A' (insK d q).length c' ∧ Own y.now w.heap.size 3 1 A' (insK d q).length c' (nv (insK d q))) (fun i _ _ => n - (Go.RowKit.intOf i).toNat)
  case atStart => exact ⟨0, by omega, by go_num, ⟨_, Grows.refl _⟩, rfl, none, 0, by go_num, Own.nil _ _ _ _⟩
  case round =>
    obtain ⟨q, hq, rfl, y, rfl, A', c', rfl, hown⟩ := hrel
    have HO := hide hown
    clear hown
    by_cases hend : n ≤ q
    · obtain rfl : q = n := by omega
      go_wp2
      go_ret
      exact ⟨A', c', rfl, HO.out.rd, y.grows⟩
    · have hqn : q < n := by omega
      have hqb : decide (q < n) = true := decide_eq_true hqn
      obtain ⟨_, bd, offd, rfl, hcd⟩ := HR.out.wordsH (by omega)
      have kq := hcd q (by omega)
      have HK := hide (insK_succ d q)
      have HIN := hide (fun u (hu : u ∈ insK d q) => (((insK_all d q).2 u).1 hu).1)
      have HLEN := hide (show (insK d q).length ≤ q from by
        have h1 : (insK d q).length ≤ (List.range q).length := by
          refine List.Nodup.length_le_of_subset ?_ (fun u hu => List.mem_range.2 (((insK_all d q).2 u).1 hu).1)
          exact (insK_all d q).1.imp (fun {a b} hab e => by subst e; have := nodeLt_iff.1 hab; omega)
        simpa using h1)
      by_cases hf : gn d q < farV
      · have HINS := hide (show insK d (q + 1) = (insK d q).take (leadN d (insK d q) q) ++ q :: (insK d q).drop (leadN d (insK d q) q) from by
          rw [insK_succ]
          unfold insN
          rw [if_pos hf])
        have hb1 : decide ((4611686018427387904 : Int) ≤ (gn d q : Int)) = false := decide_eq_false (by unfold farV at hf; omega)
        clear hf HK
        generalize hl : insK d q = l at *
        clear hl
        go_wp2_with fail
        go_loopw [5] (fun i wr => ∃ k : Nat, k ≤ l.length ∧ i = .int .i64 (k : Int) ∧ (∃ y2 : Later y.now, wr = y2.now) ∧ ∀ j, j < k → gn d (gn l j) ≤ gn d q) (fun i _ => l.length - (Go.RowKit.intOf i).toNat)
        case atStart => exact ⟨0, by omega, by go_num, ⟨⟨_, Grows.refl _⟩, rfl⟩, fun j h1 => by omega⟩
        case round =>
          obtain ⟨k, hk, rfl, ⟨y2, rfl⟩, hall⟩ := hrel
          have HA := hide hall
          clear hall
          have hkb : k ≤ 100000 := by
            have := HLEN.out
            omega
          have hlb : l.length ≤ 100000 := by
            have := HLEN.out
            omega
          by_cases hkl : k < l.length
          · obtain ⟨g, rfl, hgB, _⟩ := HO.out.at (by omega)
            have m1 : Mine y.now ⟨g, k, none⟩ (.int .i64 (gn l k : Int)) := (HO.out.row).1.mine (nv_at hkl)
            have hcap : l.length ≤ c' := by
              obtain ⟨_, _, _, _, _, h1, _⟩ := HO.out.at_ (by omega)
              exact h1
            have hlk : gn l k < q := by
              have e : gn l k = l[k] := by simp [gn, hkl]
              rw [e]
              exact HIN.out _ (List.getElem_mem hkl)
            have k2 := hcd (gn l k) (by omega)
            obtain ⟨u, hu⟩ : ∃ u, gn l k = u := ⟨_, rfl⟩
            rw [hu] at m1 hlk k2
            have HU := hide hu
            clear hu hcd
            by_cases hle : gn d u ≤ gn d q
            · have HLE := hide hle
              obtain ⟨du, hdu⟩ : ∃ du, gn d u = du := ⟨_, rfl⟩
              obtain ⟨dq, hdq⟩ : ∃ dq, gn d q = dq := ⟨_, rfl⟩
              rw [hdu] at k2 hle
              rw [hdq] at kq hb1 hle
              have HLE := hide hle
              have HDU := hide hdu
              have HDQ := hide hdq
              clear hdu hdq
              go_upto_region 7 with fail
              ((first | refine wp_region_gen (by kernel_rfl) (by kernel_rfl) ?_); (repeat' (first | (refine gLex_val0 rfl (by kernel_rfl) (fun K hK => ?_); (go_simp; (try (simp only [↓IntWalk.iteOmega]; try go_simp)); (try simp (disch := omega) only [IntWalk.i64_in]); (try simp (disch := omega) only [IntWalk.u64_in]); first | (refine hK _ ?_; clear hK K) | (apply Exists.intro; refine ⟨fun x => ?_, hK _ ?_⟩; (first | fail); clear hK K))) | (refine gLex_undef rfl rfl rfl (by kernel_rfl) (fun K hK => ?_); go_simp; refine hK _ ?_; clear hK K) | (refine gLex_ask rfl rfl rfl ?_; first | (apply gAsk_yes; kernel_rfl; intro K hK; (go_simp; (try (simp only [↓IntWalk.iteOmega]; try go_simp)); (try simp (disch := omega) only [IntWalk.i64_in]); (try simp (disch := omega) only [IntWalk.u64_in]); first | (refine hK _ ?_; clear hK K) | (apply Exists.intro; refine ⟨fun x => ?_, hK _ ?_⟩; (first | fail); clear hK K))) | ((first | apply gAsk_no1 | apply gAsk_no2); kernel_rfl; intro K hK; simp [go_sem]; refine hK _ ?_; clear hK K) | (apply gAsk_part; kernel_rfl; all_goals (intro h K hK; (try simp only [Bool.not_true] at h); (try simp only [Bool.not_false] at h); (try simp only [decide_eq_true_eq] at h); (try simp only [decide_eq_false_iff_not] at h); first | (exfalso; first | contradiction | omega) | (go_simp; (try (simp only [↓IntWalk.iteOmega]; try go_simp)); (try simp (disch := omega) only [IntWalk.i64_in]); (try simp (disch := omega) only [IntWalk.u64_in]); first | (refine hK _ ?_; clear hK K) | (apply Exists.intro; refine ⟨fun x => ?_, hK _ ?_⟩; (first | fail); clear hK K))))))); all_goals ((apply gLex_end); intro y3))
              go_wp2_with fail
              go_roundw
              case measure => simp [Go.RowKit.intOf]; omega
              case rel =>
                refine ⟨k + 1, by omega, by go_num, ⟨⟨_, y2.grows.trans y3.grows⟩, rfl⟩, fun j h1 => ?_⟩
                by_cases hjk : j < k
                · exact HA.out j hjk
                · have ejk : j = k := by omega
                  rw [ejk, HU.out, HDU.out, HDQ.out]
                  exact HLE.out
            · have HLEAD := hide (show leadN d l q = k from lead_isN HA.out hk (fun _ => by rw [HU.out]; omega))
              have hne : ¬ c' = k := by omega
              have HTK := hide (show ∀ W1, Grows y.now W1 → Rd W1 (some ⟨g, 0, none⟩) 1 k (nv (l.take k)) from fun W1 hg => by
                have hr := HO.out.rd.grows hg
                obtain ⟨g', off', e', hc'⟩ := hr.at_ (by omega)
                injection e' with e'
                injection e' with e1' e2' _
                subst e1' e2'
                refine ⟨by simp [nv]; omega, fun _ _ => ⟨g, 0, rfl, fun j u hu => hc' j u ?_⟩⟩
                have hj := (List.getElem?_eq_some_iff.1 hu).1
                have hj2 : j < k := by simp [nv] at hj; omega
                unfold nv at hu ⊢
                rw [List.getElem?_map, List.getElem?_take, if_pos hj2, ← List.getElem?_map] at hu
                exact hu)
              have HDR := hide (show ∀ W1, Grows y.now W1 → Rd W1 (some ⟨g, k, none⟩) 1 (l.length - k) (nv (l.drop k)) from fun W1 hg => by
                have hr := HO.out.rd.grows hg
                obtain ⟨g', off', e', hc'⟩ := hr.at_ (by omega)
                injection e' with e'
                injection e' with e1' e2' _
                subst e1' e2'
                refine ⟨by simp [nv], fun _ _ => ⟨g, k, rfl, fun j u hu => ?_⟩⟩
                have := hc' (k + j) u (by simp [nv] at hu ⊢; exact hu)
                simpa using this)
              obtain ⟨du, hdu⟩ : ∃ du, gn d u = du := ⟨_, rfl⟩
              obtain ⟨dq, hdq⟩ : ∃ dq, gn d q = dq := ⟨_, rfl⟩
              rw [hdu] at k2 hle
              rw [hdq] at kq hb1 hle
              clear hdu hdq
              go_upto_region 7 with fail
              ((first | refine wp_region_gen (by kernel_rfl) (by kernel_rfl) ?_); (repeat' (first | (refine gLex_val0 rfl (by kernel_rfl) (fun K hK => ?_); (go_simp; (try (simp only [↓IntWalk.iteOmega]; try go_simp)); (try simp (disch := omega) only [IntWalk.i64_in]); (try simp (disch := omega) only [IntWalk.u64_in]); first | (refine hK _ ?_; clear hK K) | (apply Exists.intro; refine ⟨fun x => ?_, hK _ ?_⟩; (first | fail); clear hK K))) | (refine gLex_undef rfl rfl rfl (by kernel_rfl) (fun K hK => ?_); go_simp; refine hK _ ?_; clear hK K) | (refine gLex_ask rfl rfl rfl ?_; first | (apply gAsk_yes; kernel_rfl; intro K hK; (go_simp; (try (simp only [↓IntWalk.iteOmega]; try go_simp)); (try simp (disch := omega) only [IntWalk.i64_in]); (try simp (disch := omega) only [IntWalk.u64_in]); first | (refine hK _ ?_; clear hK K) | (apply Exists.intro; refine ⟨fun x => ?_, hK _ ?_⟩; (first | fail); clear hK K))) | ((first | apply gAsk_no1 | apply gAsk_no2); kernel_rfl; intro K hK; simp [go_sem]; refine hK _ ?_; clear hK K) | (apply gAsk_part; kernel_rfl; all_goals (intro h K hK; (try simp only [Bool.not_true] at h); (try simp only [Bool.not_false] at h); (try simp only [decide_eq_true_eq] at h); (try simp only [decide_eq_false_iff_not] at h); first | (exfalso; first | contradiction | omega) | (go_simp; (try (simp only [↓IntWalk.iteOmega]; try go_simp)); (try simp (disch := omega) only [IntWalk.i64_in]); (try simp (disch := omega) only [IntWalk.u64_in]); first | (refine hK _ ?_; clear hK K) | (apply Exists.intro; refine ⟨fun x => ?_, hK _ ?_⟩; (first | fail); clear hK K))))))); all_goals ((apply gLex_end); intro y3))
              go_upto_region 10 with (at_builtin; refine wp_appSrc elemInt rfl _ _ rfl y3.now (by repeat (first | exact Grows.refl _ | refine Grows.now ?_ _ | refine Grows.new ?_ _ | refine Grows.drewN ?_ _ | refine Grows.drew ?_ | assumption | (refine Grows.set ?_ (by first | omega | (simp; done) | (simp; omega)) _))) 0 0 _ [] rfl (Own.empty _ _ _ _ (Nat.le_refl _)) (some ⟨g, 0, none⟩) k c' (nv (l.take k)) rfl (HTK.out _ (by repeat (first | exact Grows.refl _ | refine Grows.now ?_ _ | refine Grows.new ?_ _ | refine Grows.drewN ?_ _ | refine Grows.drew ?_ | assumption | (refine Grows.set ?_ (by first | omega | (simp; done) | (simp; omega)) _)))) (fun h => by cases h) (nv_one _) (by omega) ?_; intro A4 c4 y4 hown4; rw [Nat.zero_add] at hown4; have HO4 := hide hown4; clear hown4)
              go_upto_region 11 with (at_builtin; refine wp_app1 elemInt rfl _ _ rfl y3.now (by repeat (first | exact Grows.refl _ | refine Grows.now ?_ _ | refine Grows.new ?_ _ | refine Grows.drewN ?_ _ | refine Grows.drew ?_ | assumption | (refine Grows.set ?_ (by first | omega | (simp; done) | (simp; omega)) _))) k c4 A4 _ rfl (HO4.out.new _) _ _ _ rfl inferInstance rfl (by omega) ?_; intro A5 c5 y5 hown5; have HO5 := hide hown5; clear hown5)
              go_wp2_with (at_builtin; refine wp_appSrc elemInt rfl _ _ rfl y3.now (by repeat (first | exact Grows.refl _ | refine Grows.now ?_ _ | refine Grows.new ?_ _ | refine Grows.drewN ?_ _ | refine Grows.drew ?_ | assumption | (refine Grows.set ?_ (by first | omega | (simp; done) | (simp; omega)) _))) (k + 1) c5 A5 _ rfl HO5.out (some ⟨g, k, none⟩) (l.length - k) (c' - k) (nv (l.drop k)) rfl (HDR.out _ (by repeat (first | exact Grows.refl _ | refine Grows.now ?_ _ | refine Grows.new ?_ _ | refine Grows.drewN ?_ _ | refine Grows.drew ?_ | assumption | (refine Grows.set ?_ (by first | omega | (simp; done) | (simp; omega)) _)))) (fun h => by cases h) (nv_one _) (by omega) ?_; intro A6 c6 y6 hown6; have HO6 := hide hown6; clear hown6)
              have hlen6 : (insK d (q + 1)).length = k + 1 + (l.length - k) := by
                rw [HINS.out, HLEAD.out]
                simp
                omega
              have hown9 : Own y6.now w.heap.size 3 1 A6 (insK d (q + 1)).length c6 (nv (insK d (q + 1))) := by
                have h6 := HO6.out.base (B' := w.heap.size) (Nat.le_trans y.size (Nat.le_trans y2.size y3.size))
                rw [hlen6, HINS.out, HLEAD.out]
                have e9 : nv (l.take k ++ q :: l.drop k) = [] ++ nv (l.take k) ++ [.int .i64 (q : Int)] ++ nv (l.drop k) := by simp [nv]
                rw [e9]
                exact h6
              have HO9 := hide hown9
              have HL9 := hide hlen6
              have hg9 : Grows w y6.now := Grows.trans (y.grows.trans (y2.grows.trans y3.grows)) y6.grows
              clear hown9 hlen6
              go_roundw
              case measure => simp [Go.RowKit.intOf]; omega
              case rel => exact ⟨q + 1, by omega, by go_num, ⟨y6.now, hg9⟩, rfl, A6, c6, by rw [HL9.out], HO9.out⟩
          · have hkeq : k = l.length := by omega
            have HLEAD := hide (show leadN d l q = k from lead_isN HA.out hk (fun h => absurd h hkl))
            have HKE := hide hkeq
            rcases HO.out.2 with ⟨h1, h2⟩ | ⟨g, cap, cur, h1, hB', hheap, hnc, _⟩
            · injection h1 with e1 e2 e3
              subst e1 e3
              obtain rfl : k = 0 := by omega
              have HTK := hide (show ∀ W1, Grows y.now W1 → Rd W1 none 1 0 (nv (l.take 0)) from fun W1 _ => ⟨by simp [nv], fun h0 _ => absurd h0 (by omega)⟩)
              have HDR := hide (show ∀ W1, Grows y.now W1 → Rd W1 none 1 0 (nv (l.drop 0)) from fun W1 _ => ⟨by rw [nv_len, List.length_drop]; omega, fun h0 _ => absurd h0 (by omega)⟩)
              clear hkeq h2
              go_upto_region 7 with fail
              ((first | refine wp_region_gen (by kernel_rfl) (by kernel_rfl) ?_); (repeat' (first | (refine gLex_val0 rfl (by kernel_rfl) (fun K hK => ?_); (go_simp; (try (simp only [↓IntWalk.iteOmega]; try go_simp)); (try simp (disch := omega) only [IntWalk.i64_in]); (try simp (disch := omega) only [IntWalk.u64_in]); first | (refine hK _ ?_; clear hK K) | (apply Exists.intro; refine ⟨fun x => ?_, hK _ ?_⟩; (first | fail); clear hK K))) | (refine gLex_undef rfl rfl rfl (by kernel_rfl) (fun K hK => ?_); go_simp; refine hK _ ?_; clear hK K) | (refine gLex_ask rfl rfl rfl ?_; first | (apply gAsk_yes; kernel_rfl; intro K hK; (go_simp; (try (simp only [↓IntWalk.iteOmega]; try go_simp)); (try simp (disch := omega) only [IntWalk.i64_in]); (try simp (disch := omega) only [IntWalk.u64_in]); first | (refine hK _ ?_; clear hK K) | (apply Exists.intro; refine ⟨fun x => ?_, hK _ ?_⟩; (first | fail); clear hK K))) | ((first | apply gAsk_no1 | apply gAsk_no2); kernel_rfl; intro K hK; simp [go_sem]; refine hK _ ?_; clear hK K) | (apply gAsk_part; kernel_rfl; all_goals (intro h K hK; (try simp only [Bool.not_true] at h); (try simp only [Bool.not_false] at h); (try simp only [decide_eq_true_eq] at h); (try simp only [decide_eq_false_iff_not] at h); first | (exfalso; first | contradiction | omega) | (go_simp; (try (simp only [↓IntWalk.iteOmega]; try go_simp)); (try simp (disch := omega) only [IntWalk.i64_in]); (try simp (disch := omega) only [IntWalk.u64_in]); first | (refine hK _ ?_; clear hK K) | (apply Exists.intro; refine ⟨fun x => ?_, hK _ ?_⟩; (first | fail); clear hK K))))))); all_goals ((apply gLex_end); intro y3))
              go_upto_region 10 with (at_builtin; refine wp_appSrc elemInt rfl _ _ rfl y3.now (by repeat (first | exact Grows.refl _ | refine Grows.now ?_ _ | refine Grows.new ?_ _ | refine Grows.drewN ?_ _ | refine Grows.drew ?_ | assumption | (refine Grows.set ?_ (by first | omega | (simp; done) | (simp; omega)) _))) 0 0 _ [] rfl (Own.empty _ _ _ _ (Nat.le_refl _)) none 0 0 (nv (l.take 0)) rfl (HTK.out _ (by repeat (first | exact Grows.refl _ | refine Grows.now ?_ _ | refine Grows.new ?_ _ | refine Grows.drewN ?_ _ | refine Grows.drew ?_ | assumption | (refine Grows.set ?_ (by first | omega | (simp; done) | (simp; omega)) _)))) (fun _ => ⟨rfl, rfl⟩) (nv_one _) (by omega) ?_; intro A4 c4 y4 hown4; rw [Nat.zero_add] at hown4; have HO4 := hide hown4; clear hown4)
              go_upto_region 11 with (at_builtin; refine wp_app1 elemInt rfl _ _ rfl y3.now (by repeat (first | exact Grows.refl _ | refine Grows.now ?_ _ | refine Grows.new ?_ _ | refine Grows.drewN ?_ _ | refine Grows.drew ?_ | assumption | (refine Grows.set ?_ (by first | omega | (simp; done) | (simp; omega)) _))) 0 c4 A4 _ rfl (HO4.out.new _) _ _ _ rfl inferInstance rfl (by omega) ?_; intro A5 c5 y5 hown5; have HO5 := hide hown5; clear hown5)
              go_wp2_with (at_builtin; refine wp_appSrc elemInt rfl _ _ rfl y3.now (by repeat (first | exact Grows.refl _ | refine Grows.now ?_ _ | refine Grows.new ?_ _ | refine Grows.drewN ?_ _ | refine Grows.drew ?_ | assumption | (refine Grows.set ?_ (by first | omega | (simp; done) | (simp; omega)) _))) (0 + 1) c5 A5 _ rfl HO5.out none 0 0 (nv (l.drop 0)) rfl (HDR.out _ (by repeat (first | exact Grows.refl _ | refine Grows.now ?_ _ | refine Grows.new ?_ _ | refine Grows.drewN ?_ _ | refine Grows.drew ?_ | assumption | (refine Grows.set ?_ (by first | omega | (simp; done) | (simp; omega)) _)))) (fun _ => ⟨rfl, rfl⟩) (nv_one _) (by omega) ?_; intro A6 c6 y6 hown6; have HO6 := hide hown6; clear hown6)
              have hlen6 : (insK d (q + 1)).length = 0 + 1 + 0 := by
                rw [HINS.out, HLEAD.out]
                simp
                first | omega | exact List.eq_nil_of_length_eq_zero e2
              have hown9 : Own y6.now w.heap.size 3 1 A6 (insK d (q + 1)).length c6 (nv (insK d (q + 1))) := by
                have h6 := HO6.out.base (B' := w.heap.size) (Nat.le_trans y.size (Nat.le_trans y2.size y3.size))
                rw [hlen6, HINS.out, HLEAD.out]
                have e9 : nv (l.take 0 ++ q :: l.drop 0) = [] ++ nv (l.take 0) ++ [.int .i64 (q : Int)] ++ nv (l.drop 0) := by simp [nv]
                rw [e9]
                exact h6
              have HO9 := hide hown9
              have HL9 := hide hlen6
              have hg9 : Grows w y6.now := Grows.trans (y.grows.trans (y2.grows.trans y3.grows)) y6.grows
              clear hown9 hlen6
              go_roundw
              case measure => simp [Go.RowKit.intOf]; omega
              case rel => exact ⟨q + 1, by omega, by go_num, ⟨y6.now, hg9⟩, rfl, A6, c6, by rw [HL9.out], HO9.out⟩
            · injection h1 with h1 _ h3
              subst h1 h3
              have hcl : l.length ≤ c' := by omega
              have HTK := hide (show ∀ W1, Grows y.now W1 → Rd W1 (some ⟨g, 0, none⟩) 1 k (nv (l.take k)) from fun W1 hg => by
                have hr := HO.out.rd.grows hg
                refine ⟨by simp [nv]; omega, fun h0 _ => ?_⟩
                obtain ⟨g', off', e', hc'⟩ := hr.at_ (by omega)
                injection e' with e'
                injection e' with e1' e2' _
                subst e1' e2'
                refine ⟨g, 0, rfl, fun j u hu => hc' j u ?_⟩
                have hj := (List.getElem?_eq_some_iff.1 hu).1
                have hj2 : j < k := by simp [nv] at hj; omega
                unfold nv at hu ⊢
                rw [List.getElem?_map, List.getElem?_take, if_pos hj2, ← List.getElem?_map] at hu
                exact hu)
              by_cases hck : c' = k
              · have hck2 := hck.symm
                subst hck2
                have HDR := hide (show ∀ W1, Grows y.now W1 → Rd W1 (some ⟨g, 0, none⟩) 1 0 (nv (l.drop k)) from fun W1 _ => ⟨by rw [nv_len, List.length_drop]; omega, fun h0 _ => absurd h0 (by omega)⟩)
                clear hkeq hheap hck
                go_upto_region 7 with fail
                ((first | refine wp_region_gen (by kernel_rfl) (by kernel_rfl) ?_); (repeat' (first | (refine gLex_val0 rfl (by kernel_rfl) (fun K hK => ?_); (go_simp; (try (simp only [↓IntWalk.iteOmega]; try go_simp)); (try simp (disch := omega) only [IntWalk.i64_in]); (try simp (disch := omega) only [IntWalk.u64_in]); first | (refine hK _ ?_; clear hK K) | (apply Exists.intro; refine ⟨fun x => ?_, hK _ ?_⟩; (first | fail); clear hK K))) | (refine gLex_undef rfl rfl rfl (by kernel_rfl) (fun K hK => ?_); go_simp; refine hK _ ?_; clear hK K) | (refine gLex_ask rfl rfl rfl ?_; first | (apply gAsk_yes; kernel_rfl; intro K hK; (go_simp; (try (simp only [↓IntWalk.iteOmega]; try go_simp)); (try simp (disch := omega) only [IntWalk.i64_in]); (try simp (disch := omega) only [IntWalk.u64_in]); first | (refine hK _ ?_; clear hK K) | (apply Exists.intro; refine ⟨fun x => ?_, hK _ ?_⟩; (first | fail); clear hK K))) | ((first | apply gAsk_no1 | apply gAsk_no2); kernel_rfl; intro K hK; simp [go_sem]; refine hK _ ?_; clear hK K) | (apply gAsk_part; kernel_rfl; all_goals (intro h K hK; (try simp only [Bool.not_true] at h); (try simp only [Bool.not_false] at h); (try simp only [decide_eq_true_eq] at h); (try simp only [decide_eq_false_iff_not] at h); first | (exfalso; first | contradiction | omega) | (go_simp; (try (simp only [↓IntWalk.iteOmega]; try go_simp)); (try simp (disch := omega) only [IntWalk.i64_in]); (try simp (disch := omega) only [IntWalk.u64_in]); first | (refine hK _ ?_; clear hK K) | (apply Exists.intro; refine ⟨fun x => ?_, hK _ ?_⟩; (first | fail); clear hK K))))))); all_goals ((apply gLex_end); intro y3))
                go_upto_region 10 with (at_builtin; refine wp_appSrc elemInt rfl _ _ rfl y3.now (by repeat (first | exact Grows.refl _ | refine Grows.now ?_ _ | refine Grows.new ?_ _ | refine Grows.drewN ?_ _ | refine Grows.drew ?_ | assumption | (refine Grows.set ?_ (by first | omega | (simp; done) | (simp; omega)) _))) 0 0 _ [] rfl (Own.empty _ _ _ _ (Nat.le_refl _)) (some ⟨g, 0, none⟩) k k (nv (l.take k)) rfl (HTK.out _ (by repeat (first | exact Grows.refl _ | refine Grows.now ?_ _ | refine Grows.new ?_ _ | refine Grows.drewN ?_ _ | refine Grows.drew ?_ | assumption | (refine Grows.set ?_ (by first | omega | (simp; done) | (simp; omega)) _)))) (fun h => by cases h) (nv_one _) (by omega) ?_; intro A4 c4 y4 hown4; rw [Nat.zero_add] at hown4; have HO4 := hide hown4; clear hown4)
                go_upto_region 11 with (at_builtin; refine wp_app1 elemInt rfl _ _ rfl y3.now (by repeat (first | exact Grows.refl _ | refine Grows.now ?_ _ | refine Grows.new ?_ _ | refine Grows.drewN ?_ _ | refine Grows.drew ?_ | assumption | (refine Grows.set ?_ (by first | omega | (simp; done) | (simp; omega)) _))) k c4 A4 _ rfl (HO4.out.new _) _ _ _ rfl inferInstance rfl (by omega) ?_; intro A5 c5 y5 hown5; have HO5 := hide hown5; clear hown5)
                go_wp2_with (at_builtin; refine wp_appSrc elemInt rfl _ _ rfl y3.now (by repeat (first | exact Grows.refl _ | refine Grows.now ?_ _ | refine Grows.new ?_ _ | refine Grows.drewN ?_ _ | refine Grows.drew ?_ | assumption | (refine Grows.set ?_ (by first | omega | (simp; done) | (simp; omega)) _))) (k + 1) c5 A5 _ rfl HO5.out (some ⟨g, 0, none⟩) 0 0 (nv (l.drop k)) rfl (HDR.out _ (by repeat (first | exact Grows.refl _ | refine Grows.now ?_ _ | refine Grows.new ?_ _ | refine Grows.drewN ?_ _ | refine Grows.drew ?_ | assumption | (refine Grows.set ?_ (by first | omega | (simp; done) | (simp; omega)) _)))) (fun h => by cases h) (nv_one _) (by omega) ?_; intro A6 c6 y6 hown6; have HO6 := hide hown6; clear hown6)
                have hlen6 : (insK d (q + 1)).length = k + 1 + 0 := by
                  rw [HINS.out, HLEAD.out]
                  simp
                  omega
                have hown9 : Own y6.now w.heap.size 3 1 A6 (insK d (q + 1)).length c6 (nv (insK d (q + 1))) := by
                  have h6 := HO6.out.base (B' := w.heap.size) (Nat.le_trans y.size (Nat.le_trans y2.size y3.size))
                  rw [hlen6, HINS.out, HLEAD.out]
                  have e9 : nv (l.take k ++ q :: l.drop k) = [] ++ nv (l.take k) ++ [.int .i64 (q : Int)] ++ nv (l.drop k) := by simp [nv]
                  rw [e9]
                  exact h6
                have HO9 := hide hown9
                have HL9 := hide hlen6
                have hg9 : Grows w y6.now := Grows.trans (y.grows.trans (y2.grows.trans y3.grows)) y6.grows
                clear hown9 hlen6
                go_roundw
                case measure => simp [Go.RowKit.intOf]; omega
                case rel => exact ⟨q + 1, by omega, by go_num, ⟨y6.now, hg9⟩, rfl, A6, c6, by rw [HL9.out], HO9.out⟩
              · clear hkeq hheap
                have HDR := hide (show ∀ W1, Grows y.now W1 → Rd W1 (some ⟨g, k, none⟩) 1 (l.length - k) (nv (l.drop k)) from fun W1 hg => by
                  have hr := HO.out.rd.grows hg
                  rcases Nat.eq_zero_or_pos (l.length - k) with h00 | h00
                  · exact ⟨by simp [nv], fun h0 _ => absurd h0 (by omega)⟩
                  obtain ⟨g', off', e', hc'⟩ := hr.at_ (by omega)
                  injection e' with e'
                  injection e' with e1' e2' _
                  subst e1' e2'
                  refine ⟨by simp [nv], fun _ _ => ⟨g, k, rfl, fun j u hu => ?_⟩⟩
                  have := hc' (k + j) u (by simp [nv] at hu ⊢; exact hu)
                  simpa using this)
                go_upto_region 7 with fail
                ((first | refine wp_region_gen (by kernel_rfl) (by kernel_rfl) ?_); (repeat' (first | (refine gLex_val0 rfl (by kernel_rfl) (fun K hK => ?_); (go_simp; (try (simp only [↓IntWalk.iteOmega]; try go_simp)); (try simp (disch := omega) only [IntWalk.i64_in]); (try simp (disch := omega) only [IntWalk.u64_in]); first | (refine hK _ ?_; clear hK K) | (apply Exists.intro; refine ⟨fun x => ?_, hK _ ?_⟩; (first | fail); clear hK K))) | (refine gLex_undef rfl rfl rfl (by kernel_rfl) (fun K hK => ?_); go_simp; refine hK _ ?_; clear hK K) | (refine gLex_ask rfl rfl rfl ?_; first | (apply gAsk_yes; kernel_rfl; intro K hK; (go_simp; (try (simp only [↓IntWalk.iteOmega]; try go_simp)); (try simp (disch := omega) only [IntWalk.i64_in]); (try simp (disch := omega) only [IntWalk.u64_in]); first | (refine hK _ ?_; clear hK K) | (apply Exists.intro; refine ⟨fun x => ?_, hK _ ?_⟩; (first | fail); clear hK K))) | ((first | apply gAsk_no1 | apply gAsk_no2); kernel_rfl; intro K hK; simp [go_sem]; refine hK _ ?_; clear hK K) | (apply gAsk_part; kernel_rfl; all_goals (intro h K hK; (try simp only [Bool.not_true] at h); (try simp only [Bool.not_false] at h); (try simp only [decide_eq_true_eq] at h); (try simp only [decide_eq_false_iff_not] at h); first | (exfalso; first | contradiction | omega) | (go_simp; (try (simp only [↓IntWalk.iteOmega]; try go_simp)); (try simp (disch := omega) only [IntWalk.i64_in]); (try simp (disch := omega) only [IntWalk.u64_in]); first | (refine hK _ ?_; clear hK K) | (apply Exists.intro; refine ⟨fun x => ?_, hK _ ?_⟩; (first | fail); clear hK K))))))); all_goals ((apply gLex_end); intro y3))
                go_upto_region 10 with (at_builtin; refine wp_appSrc elemInt rfl _ _ rfl y3.now (by repeat (first | exact Grows.refl _ | refine Grows.now ?_ _ | refine Grows.new ?_ _ | refine Grows.drewN ?_ _ | refine Grows.drew ?_ | assumption | (refine Grows.set ?_ (by first | omega | (simp; done) | (simp; omega)) _))) 0 0 _ [] rfl (Own.empty _ _ _ _ (Nat.le_refl _)) (some ⟨g, 0, none⟩) k c' (nv (l.take k)) rfl (HTK.out _ (by repeat (first | exact Grows.refl _ | refine Grows.now ?_ _ | refine Grows.new ?_ _ | refine Grows.drewN ?_ _ | refine Grows.drew ?_ | assumption | (refine Grows.set ?_ (by first | omega | (simp; done) | (simp; omega)) _)))) (fun h => by cases h) (nv_one _) (by omega) ?_; intro A4 c4 y4 hown4; rw [Nat.zero_add] at hown4; have HO4 := hide hown4; clear hown4)
                go_upto_region 11 with (at_builtin; refine wp_app1 elemInt rfl _ _ rfl y3.now (by repeat (first | exact Grows.refl _ | refine Grows.now ?_ _ | refine Grows.new ?_ _ | refine Grows.drewN ?_ _ | refine Grows.drew ?_ | assumption | (refine Grows.set ?_ (by first | omega | (simp; done) | (simp; omega)) _))) k c4 A4 _ rfl (HO4.out.new _) _ _ _ rfl inferInstance rfl (by omega) ?_; intro A5 c5 y5 hown5; have HO5 := hide hown5; clear hown5)
                go_wp2_with (at_builtin; refine wp_appSrc elemInt rfl _ _ rfl y3.now (by repeat (first | exact Grows.refl _ | refine Grows.now ?_ _ | refine Grows.new ?_ _ | refine Grows.drewN ?_ _ | refine Grows.drew ?_ | assumption | (refine Grows.set ?_ (by first | omega | (simp; done) | (simp; omega)) _))) (k + 1) c5 A5 _ rfl HO5.out (some ⟨g, k, none⟩) (l.length - k) (c' - k) (nv (l.drop k)) rfl (HDR.out _ (by repeat (first | exact Grows.refl _ | refine Grows.now ?_ _ | refine Grows.new ?_ _ | refine Grows.drewN ?_ _ | refine Grows.drew ?_ | assumption | (refine Grows.set ?_ (by first | omega | (simp; done) | (simp; omega)) _)))) (fun h => by cases h) (nv_one _) (by omega) ?_; intro A6 c6 y6 hown6; have HO6 := hide hown6; clear hown6)
                have hlen6 : (insK d (q + 1)).length = k + 1 + (l.length - k) := by
                  rw [HINS.out, HLEAD.out]
                  simp
                  omega
                have hown9 : Own y6.now w.heap.size 3 1 A6 (insK d (q + 1)).length c6 (nv (insK d (q + 1))) := by
                  have h6 := HO6.out.base (B' := w.heap.size) (Nat.le_trans y.size (Nat.le_trans y2.size y3.size))
                  rw [hlen6, HINS.out, HLEAD.out]
                  have e9 : nv (l.take k ++ q :: l.drop k) = [] ++ nv (l.take k) ++ [.int .i64 (q : Int)] ++ nv (l.drop k) := by simp [nv]
                  rw [e9]
                  exact h6
                have HO9 := hide hown9
                have HL9 := hide hlen6
                have hg9 : Grows w y6.now := Grows.trans (y.grows.trans (y2.grows.trans y3.grows)) y6.grows
                clear hown9 hlen6
                go_roundw
                case measure => simp [Go.RowKit.intOf]; omega
                case rel => exact ⟨q + 1, by omega, by go_num, ⟨y6.now, hg9⟩, rfl, A6, c6, by rw [HL9.out], HO9.out⟩
      · have hb1 : decide ((4611686018427387904 : Int) ≤ (gn d q : Int)) = true := decide_eq_true (by unfold farV at hf; omega)
        have HSAME := hide (show insK d (q + 1) = insK d q from by rw [insK_succ]; unfold insN; rw [if_neg hf])
        clear hf
        go_wp2_with fail
        go_roundw
        case measure => simp [Go.RowKit.intOf]; omega
        case rel => exact ⟨q + 1, by omega, by go_num, y, rfl, A', c', by rw [HSAME.out], by rw [HSAME.out]; exact HO.out⟩
end Go.Proofs.Ytpnncadglhlclaa
