/- Rows of routes: what they are in memory; the shortest ways to all nodes, and the answer's. -/
import Derived.Test.YthjcbboignmknaaQCanonAll18
import Derived.Test.YthjcbboignmknaaQCanonAll05
import Derived.Test.YthjcbboignmknaaQCanonAll01
import Derived.Test.YthjcbboignmknaaQCanonAll06
import Derived.Test.YthjcbboignmknaaQCanonAll17
import Derived.Deep.DeepCutAuto
/- Rows of routes: what they are in memory; the shortest ways to all nodes, and the answer's. -/
namespace Go.Proofs.Ythjcbboignmknaa
open Go Go.RowKit
theorem elemRoute : Elem 41 53 2 := by
  refine ⟨Try.underlying41, ?_, by omega⟩
  have h : (Try.prog.info? 53).map (fun i => (i.zero, i.size, i.bytes)) = some (some (.agg #[.slice none 0 0, .int .u64 0]), 2, 32) := by kernel_rfl
  obtain ⟨i, hi, hz, hs, hb⟩ := info_parts h
  exact ⟨i, _, 32, hi, hz, hs, hb, rfl, by omega⟩
section
variable {w : World} {e : TypeId} {ops : Array Oper} {rest : List Oper} {o : Oper} {a : Act} {Q : Exit → Act → World → Prop}
/-- append of one element of two cells, and what it leaves as it was. -/
theorem wp_app2M {t : TypeId} (E : Elem t e 2) (hgd : o.guard = none) (s x : Operand) (ho : o.op = .call { callee := .builtin .append, args := #[s, x], argTypes := #[t, t] })
    (w0 : World) (hw0 : Grows w0 w) (n c : Nat) (A : Option Addr) (xs : List Value) (hs : a.eval s = .slice A n c) (hown : Own w w0.heap.size e 2 A n c xs) (g c' : Nat) (v v2 : Value) (hx : a.eval x = .slice (some ⟨g, 0, none⟩) 1 c')
    (hv : Holds w ⟨g, 0, none⟩ v) (hv2 : Holds w ⟨g, 1, none⟩ v2) (h1 : v.oneCell' = true) (h2 : v2.oneCell' = true) (hnm : n + 1 ≤ 1000000000000)
    (h : ∀ A' c'' (y : Later w0), Own y.now w0.heap.size e 2 A' (n + 1) c'' (xs ++ [v, v2]) → w.grownBy y.now (Value.slice A n c).ownBlock → wpList Try.prog ops Q rest (a.put o.dst (.slice A' (n + 1) c'')) y.now) :
    wpList Try.prog ops Q (o :: rest) a w := by
  obtain ⟨i, z, bytes, hi, hz, hsz, hby, hzs, hb64⟩ := E.info
  refine wpList_append_own w hgd s x t ho w0.heap.size e i z 2 bytes E.under hi hz hsz hby hzs E.pos (.slice A n c) n xs hs hown ⟨g, 0, none⟩ 1 c' [v, v2] hx rfl (fun j u hu => ?_) (by intro u hu; simp at hu; rcases hu with rfl | rfl; exact h1; exact h2) (by unfold maxLen; omega) ?_ hw0.size ?_
  · match j, hu with
    | 0, hu =>
      simp at hu
      subst hu
      simpa [Addr.add] using hv.cell
    | 1, hu =>
      simp at hu
      subst hu
      simpa [Addr.add] using hv2.cell
  · exact Nat.le_trans (Nat.mul_le_mul hnm hb64) (by omega)
  · intro v' w' hown' hgr _
    obtain ⟨A', c'', rfl⟩ := own_form hown'
    have hgw : Grows w0 w' := by
      refine ⟨hgr.os.trans hw0.os, hgr.tape.trans hw0.tape, hgr.output.trans hw0.output, Nat.le_trans hw0.size hgr.size, fun k hk => ?_⟩
      refine (hgr.block k (Nat.lt_of_lt_of_le hk hw0.size) fun e => ?_).trans (hw0.block k hk)
      have := World.ownsRow.lt hown k e.symm
      omega
    obtain ⟨y, rfl⟩ := hgw.later
    exact h A' c'' y hown' hgr
end
/-- A route: where its edges lie, how much room they have, its edges, and what it weighs. -/
abbrev Rt := Option Addr × Nat × List Nat × Nat
def rtC (r : Rt) : List Value := [.slice r.1 r.2.2.1.length r.2.1, .int .u64 (r.2.2.2 : Int)]
structure RtsAt (w : World) (B : Nat) (A : Option Addr) (c : Nat) (rs : List Rt) (ps : List (List Nat × Nat)) : Prop where
  own : Own w B 53 2 A rs.length c (rs.flatMap rtC)
  rows : ∀ r, r ∈ rs → Own w 0 3 1 r.1 r.2.2.1.length r.2.1 (nv r.2.2.1)
  eqs : rs.map (fun r => (r.2.2.1, r.2.2.2)) = ps
theorem RtsAt.len {w : World} {B : Nat} {A : Option Addr} {c : Nat} {rs : List Rt} {ps : List (List Nat × Nat)} (h : RtsAt w B A c rs ps) : rs.length = ps.length := by rw [← h.eqs, List.length_map]
theorem RtsAt.nil (w : World) (B : Nat) : RtsAt w B none 0 [] [] := ⟨Own.nil _ _ _ _, fun r hr => (by cases hr), rfl⟩
theorem RtsAt.grows {w w' : World} {B : Nat} {A : Option Addr} {c : Nat} {rs : List Rt} {ps : List (List Nat × Nat)} (h : RtsAt w B A c rs ps) (hg : Grows w w') : RtsAt w' B A c rs ps := ⟨h.own.grows hg, fun r hr => (h.rows r hr).grows hg, h.eqs⟩
/-- One more is appended. -/
theorem RtsAt.app {w w' : World} {B : Nat} {A A' : Option Addr} {c c' : Nat} {rs : List Rt} {ps : List (List Nat × Nat)} (h : RtsAt w B A c rs ps) (r : Rt) (hr : Own w 0 3 1 r.1 r.2.2.1.length r.2.1 (nv r.2.2.1))
    (ho : Own w' B 53 2 A' (rs.length + 1) c' (rs.flatMap rtC ++ [.slice r.1 r.2.2.1.length r.2.1, .int .u64 (r.2.2.2 : Int)])) (hg : w.grownBy w' (Value.slice A rs.length c).ownBlock) : RtsAt w' B A' c' (rs ++ [r]) (ps ++ [(r.2.2.1, r.2.2.2)]) := by
  have key : ∀ q : Rt, Own w 0 3 1 q.1 q.2.2.1.length q.2.1 (nv q.2.2.1) → Own w' 0 3 1 q.1 q.2.2.1.length q.2.1 (nv q.2.2.1) := fun q hq =>
    hq.touch (S := fun k => (Value.slice A rs.length c).ownBlock = some k) ((Touch.refl _ w).grown hg (fun k hk => .inl hk)) (fun p hp e2 => by
      have hA := h.own
      cases A with
      | none => simp [Value.ownBlock] at e2
      | some a =>
        simp [Value.ownBlock] at e2
        have h1 := (hA.ty a rfl).2
        rw [e2] at h1
        exact absurd (h1.one (hq.ty p hp).2) (by decide))
  refine ⟨?_, fun q hq => ?_, by rw [List.map_append, h.eqs]; rfl⟩
  · rw [List.length_append, List.length_singleton, List.flatMap_append]
    exact ho
  · rcases List.mem_append.1 hq with h1 | h1
    · exact key q (h.rows q h1)
    · rw [List.mem_singleton.1 h1]; exact key r hr
/-- The first k of all shortest ways. -/
def pthK (F : Nat → List Nat × Nat) (k : Nat) : List (List Nat × Nat) := (List.range k).map F
theorem pthK_succ (F : Nat → List Nat × Nat) (k : Nat) : pthK F (k + 1) = pthK F k ++ [F k] := by simp [pthK, List.range_succ]
theorem pth_all (E : List Edg) (o : DOpt) (N s : Int) (hnn : o.nn.length ≤ 1000000) (hne : o.ne.length ≤ 1000000) : ∃ F : Nat → List Nat × Nat, ∀ t : Nat, ∃ r, IsPath E o N s t (F t).1 (F t).2 r := by
  have h : ∀ t : Nat, ∃ p : List Nat × Nat, ∃ r, IsPath E o N s t p.1 p.2 r := fun t => by
    obtain ⟨l, f, r, hp⟩ := isPath_any E o N s t hnn hne
    exact ⟨(l, f), r, hp⟩
  exact ⟨fun t => Classical.choose (h t), fun t => Classical.choose_spec (h t)⟩
end Go.Proofs.Ythjcbboignmknaa

/- Contracts: the shortest ways to all nodes; and the answer's. -/
namespace Go.Proofs.Ythjcbboignmknaa
open Go Go.RowKit
set_option maxRecDepth 40000 in
set_option maxHeartbeats 8000000 in
theorem caTo (NN : Nat) (s : Int) (A : Option Addr) (c : Nat) (E : List Edg) (o : DOpt) (An Ae Aw : Option Addr) (cn ce cw : Nat) (F : Nat → List Nat × Nat) (w : World) (h : Rd w A 3 E.length (esCells E)) (h2 : Rd w An 1 o.nn.length (o.nn.map (.int .i64))) (h3 : Rd w Ae 1 o.ne.length (o.ne.map (.int .i64))) (h4 : Rd w Aw 1 o.W.length (wv o.W))
    (hn : E.length ≤ 1000000) (hn3 : o.W.length ≤ 1000000) (hN : NN ≤ 100000) (hd : dcF NN s E o.W = 0) (hF : ∀ t : Nat, ∃ r, IsPath E o NN s t (F t).1 (F t).2 r) :
    Calls Try.prog 24 #[.agg #[.int .i64 (NN : Int), .slice A E.length c], .int .i64 s, oVal o.back (.slice An o.nn.length cn) (.slice Ae o.ne.length ce) Aw o.W.length cw o.most] w fun e w' =>
      ∃ A' c' rs, e = .returned (.tuple #[.slice A' rs.length c', .int .i64 0]) ∧ RtsAt w' w.heap.size A' c' rs (pthK F NN) ∧ Grows w w' := by
  have C1 := hide (fun (W : World) => show Calls Try.prog 83 #[.agg #[.bool o.back, .slice An o.nn.length cn, .slice Ae o.ne.length ce, .slice Aw o.W.length cw, .int .u64 (o.most : Int)]] W fun e w' => e = .returned (.agg #[.bool false, .slice An o.nn.length cn, .slice Ae o.ne.length ce, .slice Aw o.W.length cw, .int .u64 0]) ∧ Grows W w' from caPlain o.back An o.nn.length cn Ae o.ne.length ce Aw o.W.length cw o.most W)
  have C2 := hide (fun (W : World) (g : Grows w W) => show Calls Try.prog 82 #[.agg #[.int .i64 (NN : Int), .slice A E.length c], .int .i64 s, .agg #[.bool false, .slice An o.nn.length cn, .slice Ae o.ne.length ce, .slice Aw o.W.length cw, .int .u64 0]] W fun e w' => e = .returned (.int .i64 0) ∧ Grows W w' from by
    have := djCheck NN s A E.length c E false (.slice An o.nn.length cn) (.slice Ae o.ne.length ce) Aw o.W.length cw 0 o.W W (h.grows g) (h4.grows g) hn hn3
    rw [hd] at this
    exact this)
  have K1 := hide (fun (t : Nat) (W1 : World) (g : Grows w W1) => show Calls Try.prog 30 #[.agg #[.int .i64 (NN : Int), .slice A E.length c], .int .i64 s, .int .i64 (t : Int), .agg #[.bool o.back, .slice An o.nn.length cn, .slice Ae o.ne.length ce, .slice Aw o.W.length cw, .int .u64 (o.most : Int)]] W1 fun e w' =>
      ∃ A' c' r, e = .returned (.tuple #[.agg #[.slice A' (F t).1.length c', .int .u64 ((F t).2 : Int)], .int .i64 r]) ∧ Own w' 0 3 1 A' (F t).1.length c' (nv (F t).1) ∧ Grows W1 w' from by
    obtain ⟨r, hp⟩ := hF t
    exact (caPath NN s t A c E o An Ae Aw cn ce cw _ _ r W1 (h.grows g) (h2.grows g) (h3.grows g) (h4.grows g) hn hn3 hp).mono (fun e w' h => by
      obtain ⟨A', c', rfl, ho, hg⟩ := h
      exact ⟨A', c', r, rfl, ho.base (Nat.zero_le _), hg⟩))
  unfold oVal
  clear h h2 h3 h4 hd hF
  generalize o.most = mo at *
  generalize o.back = back at *
  go_enter Try.func24, Try.ntmps24
  go_upto_region 1 with fail
  obtain ⟨W0, hW0⟩ : ∃ W0, W0 = ((w.alloc (.cells #[.int .i64 (NN : Int), .slice A E.length c] 24)).alloc (.cells #[.bool back, .slice An o.nn.length cn, .slice Ae o.ne.length ce, .slice Aw o.W.length cw, .int .u64 (mo : Int)] 39)) := ⟨_, rfl⟩
  have a1 : Arr W0 w.heap.size 24 [.int .i64 (NN : Int), .slice A E.length c] := by rw [hW0]; exact (Arr.make _ _ _).grow ((Grows.refl _).new _)
  have a2 : Arr W0 (w.heap.size + 1) 39 [.bool back, .slice An o.nn.length cn, .slice Ae o.ne.length ce, .slice Aw o.W.length cw, .int .u64 (mo : Int)] := by
    rw [hW0]
    have := Arr.make (w.alloc (.cells #[.int .i64 (NN : Int), .slice A E.length c] 24)) [.bool back, .slice An o.nn.length cn, .slice Ae o.ne.length ce, .slice Aw o.W.length cw, .int .u64 (mo : Int)] 39
    rw [show (w.alloc (.cells #[.int .i64 (NN : Int), .slice A E.length c] 24)).heap.size = w.heap.size + 1 by simp] at this
    exact this
  have hg0 : Grows w W0 := by rw [hW0]; exact ((Grows.refl w).new _).new _
  rw [← hW0]
  clear hW0
  generalize w.heap.size + 1 = b2 at *
  generalize hb1 : w.heap.size = b1 at *
  have HB := hide hb1
  clear hb1
  ((first | refine wp_region_gen2 (by kernel_rfl) (by kernel_rfl) ?_ | refine wp_region_gen (by kernel_rfl) (by kernel_rfl) ?_); (repeat' (first | (refine gLex_val0 rfl (by kernel_rfl) (fun K hK => ?_); (go_simp; (try (simp only [↓IntWalk.iteOmega]; try go_simp)); (try simp (disch := omega) only [IntWalk.i64_in]); (try simp (disch := omega) only [IntWalk.u64_in]); first | (refine hK _ ?_; clear hK K) | (apply Exists.intro; refine ⟨fun x => ?_, hK _ ?_⟩; (first | (go_at_call 83; exact C1.out _) | (go_at_call 82; exact C2.out _ (hg0.trans (by repeat (first | exact Grows.refl _ | refine Grows.now ?_ _ | refine Grows.new ?_ _ | refine Grows.drewN ?_ _ | refine Grows.drew ?_ | assumption | (refine Grows.set ?_ (by first | omega | (simp; done) | (simp; omega)) _)))))); clear hK K))) | (refine gLex_undef rfl rfl rfl (by kernel_rfl) (fun K hK => ?_); go_simp; refine hK _ ?_; clear hK K) | (refine gLex_ask rfl rfl rfl ?_; first | (apply gAsk_yes; kernel_rfl; intro K hK; (go_simp; (try (simp only [↓IntWalk.iteOmega]; try go_simp)); (try simp (disch := omega) only [IntWalk.i64_in]); (try simp (disch := omega) only [IntWalk.u64_in]); first | (refine hK _ ?_; clear hK K) | (apply Exists.intro; refine ⟨fun x => ?_, hK _ ?_⟩; (first | (go_at_call 83; exact C1.out _) | (go_at_call 82; exact C2.out _ (hg0.trans (by repeat (first | exact Grows.refl _ | refine Grows.now ?_ _ | refine Grows.new ?_ _ | refine Grows.drewN ?_ _ | refine Grows.drew ?_ | assumption | (refine Grows.set ?_ (by first | omega | (simp; done) | (simp; omega)) _)))))); clear hK K))) | ((first | apply gAsk_no1 | apply gAsk_no2); kernel_rfl; intro K hK; simp [go_sem]; refine hK _ ?_; clear hK K) | (apply gAsk_part; kernel_rfl; all_goals (intro h K hK; (try simp only [Bool.not_true] at h); (try simp only [Bool.not_false] at h); (try simp only [decide_eq_true_eq] at h); (try simp only [decide_eq_false_iff_not] at h); first | (exfalso; first | contradiction | omega) | (go_simp; (try (simp only [↓IntWalk.iteOmega]; try go_simp)); (try simp (disch := omega) only [IntWalk.i64_in]); (try simp (disch := omega) only [IntWalk.u64_in]); first | (refine hK _ ?_; clear hK K) | (apply Exists.intro; refine ⟨fun x => ?_, hK _ ?_⟩; (first | (go_at_call 83; exact C1.out _) | (go_at_call 82; exact C2.out _ (hg0.trans (by repeat (first | exact Grows.refl _ | refine Grows.now ?_ _ | refine Grows.new ?_ _ | refine Grows.drewN ?_ _ | refine Grows.drew ?_ | assumption | (refine Grows.set ?_ (by first | omega | (simp; done) | (simp; omega)) _)))))); clear hK K))))))); all_goals ((apply gLex_end); intro x))
  go_wp2_with fail
  go_loopw [6, 22] (fun out tk wr => ∃ (k : Nat) (A8 : Option Addr) (c8 : Nat) (rs : List Rt), k ≤ NN ∧ tk = .int .i64 (k : Int) ∧ out = .slice A8 rs.length c8 ∧ ∃ y : Later W0, wr = y.now ∧ RtsAt y.now W0.heap.size A8 c8 rs (pthK F k)) (fun _ tk _ => NN - (Go.RowKit.intOf tk).toNat)
  case atStart => exact ⟨0, none, 0, [], Nat.zero_le _, by go_num, rfl, x, rfl, RtsAt.nil _ _⟩
  case round =>
    obtain ⟨k, A8, c8, rs, hk, rfl, rfl, y, rfl, hrt⟩ := hrel
    have hlen : rs.length ≤ 1000000 := by
      have := hrt.len
      simp [pthK] at this
      omega
    have HRT := hide hrt
    clear hrt
    by_cases hlt : k < NN
    · go_wp2_with fail
      refine (K1.out k _ (hg0.trans (by repeat (first | exact Grows.refl _ | refine Grows.now ?_ _ | refine Grows.new ?_ _ | refine Grows.drewN ?_ _ | refine Grows.drew ?_ | assumption | (refine Grows.set ?_ (by first | omega | (simp; done) | (simp; omega)) _))))).mono ?_; rintro e W1 ⟨A', c', r, rfl, ho, hg⟩
      have HO := hide ho
      have HRT := hide (HRT.out.grows hg)
      obtain ⟨y1, hy1⟩ : ∃ y1 : Later W0, W1 = y1.now := (y.grows.trans hg).later
      subst hy1
      clear hg ho
      go_wp2_with (at_builtin; refine wp_app2M elemRoute rfl _ _ rfl W0 (by repeat (first | exact Grows.refl _ | refine Grows.now ?_ _ | refine Grows.new ?_ _ | refine Grows.drewN ?_ _ | refine Grows.drew ?_ | assumption | (refine Grows.set ?_ (by first | omega | (simp; done) | (simp; omega)) _))) rs.length c8 A8 _ rfl ((HRT.out.own.new _).new _) _ _ _ _ rfl inferInstance inferInstance rfl rfl (by omega) ?_; intro A3 c3 y3 hown3 hgr3; have hrt3 := (HRT.out.grows (((Grows.refl _).new _).new _)).app (A', c', F k) ((HO.out.new _).new _) hown3 hgr3; have HRT3 := hide hrt3; clear hown3 hgr3 hrt3)
      go_roundw
      case measure => simp [Go.RowKit.intOf]; omega
      case rel => exact ⟨k + 1, A3, c3, rs ++ [(A', c', F k)], by omega, by go_num, by rw [List.length_append, List.length_singleton], y3, rfl, by rw [pthK_succ]; exact HRT3.out⟩
    · obtain rfl : k = NN := by omega
      go_wp2_with fail
      refine bodyPost_ret (v := .tuple #[.slice A8 rs.length c8, .int .i64 0]) (by simp (maxDischargeDepth := 6) [results, Try.results24, go_sem, *]) rfl ?_
      have hgy : Grows w y.now := hg0.trans y.grows
      exact ⟨A8, c8, rs, rfl, ⟨HRT.out.own.base hg0.size, HRT.out.rows, HRT.out.eqs⟩, hgy⟩
set_option maxRecDepth 40000 in
set_option maxHeartbeats 8000000 in
theorem r15To (NN : Nat) (s : Int) (A : Option Addr) (c : Nat) (E : List Edg) (o : DOpt) (An Ae Aw : Option Addr) (cn ce cw : Nat) (F : Nat → List Nat × Nat) (w : World) (h : Rd w A 3 E.length (esCells E)) (h2 : Rd w An 1 o.nn.length (o.nn.map (.int .i64))) (h3 : Rd w Ae 1 o.ne.length (o.ne.map (.int .i64))) (h4 : Rd w Aw 1 o.W.length (wv o.W))
    (hn : E.length ≤ 1000000) (hn3 : o.W.length ≤ 1000000) (hN : NN ≤ 100000) (hF : ∀ t : Nat, ∃ r, IsPath E o NN s t (F t).1 (F t).2 r) :
    Calls Try.prog 29 #[.agg #[.int .i64 (NN : Int), .slice A E.length c], .int .i64 s, oVal o.back (.slice An o.nn.length cn) (.slice Ae o.ne.length ce) Aw o.W.length cw o.most] w fun e w' =>
      ∃ A' c' rs, e = .returned (.slice A' rs.length c') ∧ RtsAt w' w.heap.size A' c' rs (pthK F NN) ∧ Grows w w' := by
  have K1 := hide (fun (t : Nat) (W1 : World) (g : Grows w W1) => show Calls Try.prog 85 #[.agg #[.int .i64 (NN : Int), .slice A E.length c], .int .i64 s, .int .i64 (t : Int), .agg #[.bool o.back, .slice An o.nn.length cn, .slice Ae o.ne.length ce, .slice Aw o.W.length cw, .int .u64 (o.most : Int)]] W1 fun e w' =>
      ∃ A' c' r, e = .returned (.tuple #[.agg #[.slice A' (F t).1.length c', .int .u64 ((F t).2 : Int)], .int .i64 r]) ∧ Own w' 0 3 1 A' (F t).1.length c' (nv (F t).1) ∧ Grows W1 w' from by
    obtain ⟨r, hp⟩ := hF t
    exact (r15Path NN s t A c E o An Ae Aw cn ce cw _ _ r W1 (h.grows g) (h2.grows g) (h3.grows g) (h4.grows g) hn hn3 hp).mono (fun e w' h => by
      obtain ⟨A', c', rfl, ho, hg⟩ := h
      exact ⟨A', c', r, rfl, ho.base (Nat.zero_le _), hg⟩))
  unfold oVal
  clear h h2 h3 h4 hF
  generalize o.most = mo at *
  generalize o.back = back at *
  go_enter Try.func29, Try.ntmps29
  go_wp2_with fail
  obtain ⟨W0, hW0⟩ : ∃ W0, W0 = ((w.alloc (.cells #[.int .i64 (NN : Int), .slice A E.length c] 24)).alloc (.cells #[.bool back, .slice An o.nn.length cn, .slice Ae o.ne.length ce, .slice Aw o.W.length cw, .int .u64 (mo : Int)] 46)) := ⟨_, rfl⟩
  have a1 : Arr W0 w.heap.size 24 [.int .i64 (NN : Int), .slice A E.length c] := by rw [hW0]; exact (Arr.make _ _ _).grow ((Grows.refl _).new _)
  have a2 : Arr W0 (w.heap.size + 1) 46 [.bool back, .slice An o.nn.length cn, .slice Ae o.ne.length ce, .slice Aw o.W.length cw, .int .u64 (mo : Int)] := by
    rw [hW0]
    have := Arr.make (w.alloc (.cells #[.int .i64 (NN : Int), .slice A E.length c] 24)) [.bool back, .slice An o.nn.length cn, .slice Ae o.ne.length ce, .slice Aw o.W.length cw, .int .u64 (mo : Int)] 46
    rw [show (w.alloc (.cells #[.int .i64 (NN : Int), .slice A E.length c] 24)).heap.size = w.heap.size + 1 by simp] at this
    exact this
  have hg0 : Grows w W0 := by rw [hW0]; exact ((Grows.refl w).new _).new _
  rw [← hW0]
  clear hW0
  have hsz := hg0.size
  obtain ⟨lo, hlo⟩ : ∃ lo, w.heap.size = lo := ⟨_, rfl⟩
  rw [hlo] at a1 a2 hsz ⊢
  clear hlo
  generalize lo + 1 = b2 at *
  go_loopw [7, 8] (fun out tk wr => ∃ (k : Nat) (A8 : Option Addr) (c8 : Nat) (rs : List Rt), k ≤ NN ∧ tk = .int .i64 (k : Int) ∧ out = .slice A8 rs.length c8 ∧ ∃ y : Later W0, wr = y.now ∧ RtsAt y.now W0.heap.size A8 c8 rs (pthK F k)) (fun _ tk _ => NN - (Go.RowKit.intOf tk).toNat)
  case atStart => exact ⟨0, none, 0, [], Nat.zero_le _, by go_num, rfl, ⟨W0, Grows.refl _⟩, rfl, RtsAt.nil _ _⟩
  case round =>
    obtain ⟨k, A8, c8, rs, hk, rfl, rfl, y, rfl, hrt⟩ := hrel
    have hlen : rs.length ≤ 1000000 := by
      have := hrt.len
      simp [pthK] at this
      omega
    have HRT := hide hrt
    clear hrt
    by_cases hlt : k < NN
    · go_wp2_with fail
      refine (K1.out k _ (hg0.trans (by repeat (first | exact Grows.refl _ | refine Grows.now ?_ _ | refine Grows.new ?_ _ | refine Grows.drewN ?_ _ | refine Grows.drew ?_ | assumption | (refine Grows.set ?_ (by first | omega | (simp; done) | (simp; omega)) _))))).mono ?_; rintro e W1 ⟨A', c', r, rfl, ho, hg⟩
      have HO := hide ho
      have HRT := hide (HRT.out.grows hg)
      obtain ⟨y1, hy1⟩ : ∃ y1 : Later W0, W1 = y1.now := (y.grows.trans hg).later
      subst hy1
      clear hg ho
      go_wp2_with (at_builtin; refine wp_app2M elemRoute rfl _ _ rfl W0 (by repeat (first | exact Grows.refl _ | refine Grows.now ?_ _ | refine Grows.new ?_ _ | refine Grows.drewN ?_ _ | refine Grows.drew ?_ | assumption | (refine Grows.set ?_ (by first | omega | (simp; done) | (simp; omega)) _))) rs.length c8 A8 _ rfl ((HRT.out.own.new _).new _) _ _ _ _ rfl inferInstance inferInstance rfl rfl (by omega) ?_; intro A3 c3 y3 hown3 hgr3; have hrt3 := (HRT.out.grows (((Grows.refl _).new _).new _)).app (A', c', F k) ((HO.out.new _).new _) hown3 hgr3; have HRT3 := hide hrt3; clear hown3 hgr3 hrt3)
      go_roundw
      case measure => simp [Go.RowKit.intOf]; omega
      case rel => exact ⟨k + 1, A3, c3, rs ++ [(A', c', F k)], by omega, by go_num, by rw [List.length_append, List.length_singleton], y3, rfl, by rw [pthK_succ]; exact HRT3.out⟩
    · obtain rfl : k = NN := by omega
      go_wp2_with fail
      go_ret
      have hgy : Grows w y.now := hg0.trans y.grows
      exact ⟨A8, c8, rs, rfl, ⟨HRT.out.own.base hg0.size, HRT.out.rows, HRT.out.eqs⟩, hgy⟩
end Go.Proofs.Ythjcbboignmknaa

/- Contract: are two rows of numbers the same? -/
namespace Go.Proofs.Ythjcbboignmknaa
open Go Go.RowKit
set_option maxHeartbeats 1000000 in
theorem r1Same (A : Option Addr) (n c : Nat) (l : List Int) (B : Option Addr) (m d : Nat) (l' : List Int) (w : World) (h : Rd w A 1 n (l.map (.int .i64))) (hn : n ≤ 1000000) (h' : Rd w B 1 m (l'.map (.int .i64))) (hm : m ≤ 1000000) :
    Calls Try.prog 35 #[.slice A n c, .slice B m d] w fun e w' => e = .returned (.bool (decide (l = l'))) ∧ Grows w w' := by
  have HL := hide (show l.length = n by simpa using h.len)
  have HM := hide (show l'.length = m by simpa using h'.len)
  have HR := hide h
  have HS := hide h'
  clear h h'
  by_cases hnm : n = m
  · subst hnm
    go_enter Try.func35, Try.ntmps35
    go_wp2
    go_loopw [5] (fun i wr => ∃ k : Nat, k ≤ n ∧ i = .int .i64 (k : Int) ∧ (∃ y : Later w, wr = y.now) ∧ ∀ j, j < k → gi l j = gi l' j) (fun i _ => n - (intOf i).toNat)
    case atStart => exact ⟨0, by omega, by go_num, ⟨⟨w, Grows.refl w⟩, rfl⟩, fun j h => by omega⟩
    case round =>
      obtain ⟨k, hk, rfl, ⟨y, rfl⟩, hall⟩ := hrel
      have HA := hide hall
      clear hall
      by_cases hend : n ≤ k
      · have HV : Hid (l = l') := by
          apply List.ext_getElem (by rw [HL.out, HM.out])
          intro j h1 h2
          have := HA.out j (by have := HL.out; omega)
          simpa [gi, h1, h2] using this
        go_wp2
        go_ret
        exact ⟨ret_bool (decide_eq_true HV.out).symm, (by repeat (first | exact Grows.refl _ | refine Grows.now ?_ _ | refine Grows.new ?_ _ | refine Grows.drewN ?_ _ | refine Grows.drew ?_ | assumption | (refine Grows.set ?_ (by first | omega | (simp; done) | (simp; omega)) _)))⟩
      · obtain ⟨b, off, rfl, hc⟩ := HR.out.intsH (by omega)
        obtain ⟨b2, off2, rfl, hc2⟩ := HS.out.intsH (by omega)
        have c1 := hc k (by omega)
        have c2 := hc2 k (by omega)
        clear hc hc2
        by_cases he : gi l k = gi l' k
        · have HE : Hid (∀ j, j < k + 1 → gi l j = gi l' j) := fun j hj => by
            by_cases e : j = k
            · rw [e]; exact he
            · exact HA.out j (by omega)
          have hd : (gi l k == gi l' k) = true := by simpa using he
          clear he
          generalize gi l k = u at *
          generalize gi l' k = v at *
          go_wp2_with fail
          ((first | refine wp_region_gen (by kernel_rfl) (by kernel_rfl) ?_); (repeat' (first | (refine gLex_val0 rfl (by kernel_rfl) (fun K hK => ?_); (go_simp; (try (simp only [↓IntWalk.iteOmega]; try go_simp)); (try simp (disch := omega) only [IntWalk.i64_in]); (try simp (disch := omega) only [IntWalk.u64_in]); first | (refine hK _ ?_; clear hK K) | (apply Exists.intro; refine ⟨fun x => ?_, hK _ ?_⟩; (first | fail); clear hK K))) | (refine gLex_undef rfl rfl rfl (by kernel_rfl) (fun K hK => ?_); go_simp; refine hK _ ?_; clear hK K) | (refine gLex_ask rfl rfl rfl ?_; first | (apply gAsk_yes; kernel_rfl; intro K hK; (go_simp; (try (simp only [↓IntWalk.iteOmega]; try go_simp)); (try simp (disch := omega) only [IntWalk.i64_in]); (try simp (disch := omega) only [IntWalk.u64_in]); first | (refine hK _ ?_; clear hK K) | (apply Exists.intro; refine ⟨fun x => ?_, hK _ ?_⟩; (first | fail); clear hK K))) | ((first | apply gAsk_no1 | apply gAsk_no2); kernel_rfl; intro K hK; simp [go_sem]; refine hK _ ?_; clear hK K) | (apply gAsk_part; kernel_rfl; all_goals (intro h K hK; (try simp only [Bool.not_true] at h); (try simp only [Bool.not_false] at h); (try simp only [decide_eq_true_eq] at h); (try simp only [decide_eq_false_iff_not] at h); first | (exfalso; first | contradiction | omega) | (go_simp; (try (simp only [↓IntWalk.iteOmega]; try go_simp)); (try simp (disch := omega) only [IntWalk.i64_in]); (try simp (disch := omega) only [IntWalk.u64_in]); first | (refine hK _ ?_; clear hK K) | (apply Exists.intro; refine ⟨fun x => ?_, hK _ ?_⟩; (first | fail); clear hK K))))))); all_goals ((apply gLex_end); intro x))
          go_wp2
          refine ⟨⟨k + 1, by omega, by go_num, Grows.later (by repeat (first | exact Grows.refl _ | refine Grows.now ?_ _ | refine Grows.new ?_ _ | refine Grows.drewN ?_ _ | refine Grows.drew ?_ | assumption | (refine Grows.set ?_ (by first | omega | (simp; done) | (simp; omega)) _))), HE.out⟩, by simp [intOf]; omega⟩
        · have HV : Hid (¬ l = l') := fun e => he (by rw [e])
          have hd : (gi l k == gi l' k) = false := by simpa using he
          clear he
          go_wp2_with fail
          ((first | refine wp_region_gen (by kernel_rfl) (by kernel_rfl) ?_); (repeat' (first | (refine gLex_val0 rfl (by kernel_rfl) (fun K hK => ?_); (go_simp; (try (simp only [↓IntWalk.iteOmega]; try go_simp)); (try simp (disch := omega) only [IntWalk.i64_in]); (try simp (disch := omega) only [IntWalk.u64_in]); first | (refine hK _ ?_; clear hK K) | (apply Exists.intro; refine ⟨fun x => ?_, hK _ ?_⟩; (first | fail); clear hK K))) | (refine gLex_undef rfl rfl rfl (by kernel_rfl) (fun K hK => ?_); go_simp; refine hK _ ?_; clear hK K) | (refine gLex_ask rfl rfl rfl ?_; first | (apply gAsk_yes; kernel_rfl; intro K hK; (go_simp; (try (simp only [↓IntWalk.iteOmega]; try go_simp)); (try simp (disch := omega) only [IntWalk.i64_in]); (try simp (disch := omega) only [IntWalk.u64_in]); first | (refine hK _ ?_; clear hK K) | (apply Exists.intro; refine ⟨fun x => ?_, hK _ ?_⟩; (first | fail); clear hK K))) | ((first | apply gAsk_no1 | apply gAsk_no2); kernel_rfl; intro K hK; simp [go_sem]; refine hK _ ?_; clear hK K) | (apply gAsk_part; kernel_rfl; all_goals (intro h K hK; (try simp only [Bool.not_true] at h); (try simp only [Bool.not_false] at h); (try simp only [decide_eq_true_eq] at h); (try simp only [decide_eq_false_iff_not] at h); first | (exfalso; first | contradiction | omega) | (go_simp; (try (simp only [↓IntWalk.iteOmega]; try go_simp)); (try simp (disch := omega) only [IntWalk.i64_in]); (try simp (disch := omega) only [IntWalk.u64_in]); first | (refine hK _ ?_; clear hK K) | (apply Exists.intro; refine ⟨fun x => ?_, hK _ ?_⟩; (first | fail); clear hK K))))))); all_goals ((apply gLex_end); intro x))
          go_wp2
          go_ret
          exact ⟨ret_bool (decide_eq_false HV.out).symm, (by repeat (first | exact Grows.refl _ | refine Grows.now ?_ _ | refine Grows.new ?_ _ | refine Grows.drewN ?_ _ | refine Grows.drew ?_ | assumption | (refine Grows.set ?_ (by first | omega | (simp; done) | (simp; omega)) _)))⟩
  · have HV : Hid (¬ l = l') := fun e => hnm (by rw [← HL.out, ← HM.out, e])
    have hd : ((n : Int) == (m : Int)) = false := beq_eq_false_iff_ne.2 (by omega)
    go_enter Try.func35, Try.ntmps35
    go_wp2
    go_ret
    exact ⟨ret_bool (decide_eq_false HV.out).symm, (by repeat (first | exact Grows.refl _ | refine Grows.now ?_ _ | refine Grows.new ?_ _ | refine Grows.drewN ?_ _ | refine Grows.drew ?_ | assumption | (refine Grows.set ?_ (by first | omega | (simp; done) | (simp; omega)) _)))⟩
end Go.Proofs.Ythjcbboignmknaa

/- The chapter's example; and the law CanonPaths, walked: the shortest way between any two nodes, of whatever counts, or why there is none, and its first edge. -/
namespace Go.Proofs.Ythjcbboignmknaa
open Go Go.RowKit
def caE : List Edg := [⟨0, 1, 1⟩, ⟨0, 1, 1⟩]
def caO : DOpt := ⟨false, [], [], [], 0⟩
def caD (v : Nat) : Nat := if v = 0 then 1 else 0
theorem caIs : IsPath caE caO 2 0 1 [0] 1 0 := by
  have hw : wtF ((2 : Nat) : Int) caE caO.W = [1, 1] := by decide +kernel
  obtain ⟨xs, hx⟩ := path_walk (NN := 2) (sN := 0) (tN := 1) (E := caE) (o := caO) (by decide +kernel) (by omega) (by show 0 ≤ _; omega) (by show 0 ≤ _; omega)
  have hnn : ((1 : Nat) : Int) ∉ caO.nn := by simp [caO]
  have hf := hx.far hnn
  have hnear := hx.near hnn
  have hww : ∀ j, gn (srchOf 2 caE (backO caO)).W j = gn [1, 1] j := fun j => by show gn (wtF ((2 : Nat) : Int) caE caO.W) j = _; rw [hw]
  have w1 : Way (srchOf 2 caE (backO caO)) 1 0 1 := by
    have := Way.step (x := srchOf 2 caE (backO caO)) (s := 1) (f := 0) (i := 0) (by exact Way.here) (by decide) (by decide)
    rw [hww] at this
    exact this
  have ge : ∀ {v f}, Way (srchOf 2 caE (backO caO)) 1 v f → caD v ≤ f := fun {v f} h => Way.ge (x := srchOf 2 caE (backO caO)) caD rfl (fun i hi => by
    have hi : i < 2 := hi
    rw [hww]
    match i, hi with
    | 0, _ => decide
    | 1, _ => decide) h
  have d0 : gn (outL 2 xs) 0 = 1 := hf.is (v := 0) rfl (by show 0 < 2; omega) w1 (fun g hg => ge hg)
  have hz : gn (outL 2 xs) 1 = 0 := hnear.zero
  have hfol : Fol (srchOf 2 caE (backO caO)) (outL 2 xs) 1 0 [0] := by
    refine Fol.step (i := 0) (by omega) (by decide) (by decide) ?_ (fun j hj => by omega) ?_
    · have e1 : tN (srchOf 2 caE (backO caO)).E 0 = 1 := by decide
      unfold nearB
      rw [e1, hz, d0, hww]
      decide
    · exact Fol.here
  have := IsPath.way (E := caE) (o := caO) 2 0 1 xs [0] rfl rfl rfl hx (by rw [d0]; decide) hnear hfol
  rw [d0] at this
  exact this
set_option maxRecDepth 20000 in
set_option maxHeartbeats 4000000 in
theorem alive15 (w : World) : Calls Try.prog 23 #[] w fun e w' => e = .returned (.bool true) ∧ Grows w w' := by
  have C := hide (fun (W : World) (A : Option Addr) (h : Rd W A 3 2 (esCells caE)) => show Calls Try.prog 30 #[.agg #[.int .i64 2, .slice A 2 2], .int .i64 0, .int .i64 1, .agg #[.bool false, .slice none 0 0, .slice none 0 0, .slice none 0 0, .int .u64 0]] W fun e w' =>
      ∃ A' c', e = .returned (.tuple #[.agg #[.slice A' 1 c', .int .u64 1], .int .i64 0]) ∧ Own w' W.heap.size 3 1 A' 1 c' (nv [0]) ∧ Grows W w' from
    caPath 2 0 1 A 2 caE caO none none none 0 0 0 [0] 1 0 W h ⟨rfl, fun h => absurd h (by simp [caO])⟩ ⟨rfl, fun h => absurd h (by simp [caO])⟩ ⟨rfl, fun h => absurd h (by simp [caO])⟩ (by show 2 ≤ _; omega) (by show 0 ≤ _; omega) caIs)
  go_enter Try.func23, Try.ntmps23
  go_wp2_with fail
  refine (C.out _ _ (Rd.made (w := w) (t := 62) (size := 3) (n := 2) (esCells caE) rfl)).mono ?_
  rintro e w1 ⟨A', c', rfl, ho, hg⟩
  obtain ⟨x, hx⟩ : ∃ x : Later w, w1 = x.now := (((Grows.refl w).new _).trans hg).later
  subst hx
  have HR := hide (fun (W : World) (hg : Grows x.now W) (A : Option Addr) (h : Rd W A 1 1 ([0].map (.int .i64))) => show Calls Try.prog 35 #[.slice A' 1 c', .slice A 1 1] W fun e w' => e = .returned (.bool true) ∧ Grows W w' from by
    have := r1Same A' 1 c' [0] A 1 1 [0] W (ho.rd.grows hg) (by omega) h (by omega)
    simpa using this)
  clear hg ho
  go_wp2_with fail
  have hR : Rd ((x.now.alloc (.cells #[.slice A' 1 c', .int .u64 1] 53)).alloc (.cells #[.int .i64 0] 3)) (some ⟨x.now.heap.size + 1, 0, none⟩) 1 1 [.int .i64 0] := by
    have := Rd.made (w := x.now.alloc (.cells #[.slice A' 1 c', .int .u64 1] 53)) (t := 3) (size := 1) (n := 1) [.int .i64 0] rfl
    rw [show (x.now.alloc (.cells #[.slice A' 1 c', .int .u64 1] 53)).heap.size = x.now.heap.size + 1 by simp] at this
    exact this
  refine (HR.out _ (by repeat (first | exact Grows.refl _ | refine Grows.now ?_ _ | refine Grows.new ?_ _ | refine Grows.drewN ?_ _ | refine Grows.drew ?_ | assumption | (refine Grows.set ?_ (by first | omega | (simp; done) | (simp; omega)) _))) _ hR).mono ?_
  rintro e w2 ⟨rfl, hg⟩
  obtain ⟨y, rfl⟩ := Grows.later2 ((((Grows.refl x.now).new _).new _).trans hg)
  clear hg
  go_wp2_with fail
  go_ret
  exact ⟨rfl, (by repeat (first | exact Grows.refl _ | refine Grows.now ?_ _ | refine Grows.new ?_ _ | refine Grows.drewN ?_ _ | refine Grows.drew ?_ | assumption | (refine Grows.set ?_ (by first | omega | (simp; done) | (simp; omega)) _)))⟩
/-- A path that came, and its fault. -/
def PathP (lo n f : Nat) (r : Int) (l : List Nat) : Pr := fun u w => ∃ A c, u = .tuple #[.agg #[.slice A n c, .int .u64 (f : Int)], .int .i64 r] ∧ Own w lo 3 1 A n c (nv l)
theorem PathP.lasts (lo n f : Nat) (r : Int) (l : List Nat) : Lasts (PathP lo n f r l) := fun _ _ _ hg ⟨A, c, e, h⟩ => ⟨A, c, e, h.grows hg⟩
def RteP (lo n f : Nat) (l : List Nat) : Pr := fun u w => ∃ A c, u = .agg #[.slice A n c, .int .u64 (f : Int)] ∧ Own w lo 3 1 A n c (nv l)
theorem RteP.lasts (lo n f : Nat) (l : List Nat) : Lasts (RteP lo n f l) := fun _ _ _ hg ⟨A, c, e, h⟩ => ⟨A, c, e, h.grows hg⟩
def BoxP (lo : Nat) (cs : List Value) : Pr := fun u w => ∃ g, u = .pointer (some ⟨g, 0, none⟩) ∧ Arr w g 53 cs ∧ lo ≤ g
theorem BoxP.lasts (lo : Nat) (cs : List Value) : Lasts (BoxP lo cs) := fun _ _ _ hg ⟨g, e, h, l⟩ => ⟨g, e, h.grow hg, l⟩
def IsP (v : Value) : Pr := fun u _ => u = v
theorem IsP.lasts (v : Value) : Lasts (IsP v) := fun _ _ _ _ h => h
end Go.Proofs.Ythjcbboignmknaa
