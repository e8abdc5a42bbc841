/- The law CanonAll: for every input it returns true, and each argument reads as before. No condition. -/
import Derived.Test.YtpnncadglhlclaaQCanonPaths19
import Derived.Test.YtpnncadglhlclaaQCanonPaths05
import Derived.Test.YtpnncadglhlclaaQCanonPaths20
import Derived.Test.YtpnncadglhlclaaQCanonPaths15
/- Rows of routes: what they are in memory; the shortest ways to all nodes, and the answer's. -/
namespace Go.Proofs.Ytpnncadglhlclaa
open Go Go.RowKit
theorem elemRoute : Elem 71 64 2 := by
  refine ⟨Try.underlying71, ?_, by omega⟩
  have h : (Try.prog.info? 64).map (fun i => (i.zero, i.size, i.bytes)) = some (some (.agg #[.slice none 0 0, .int .u64 0]), 2, 32) := by kernel_rfl
  obtain ⟨i, hi, hz, hs, hb⟩ := info_parts h
  exact ⟨i, _, 32, hi, hz, hs, hb, rfl, by omega⟩
section
variable {w : World} {e : TypeId} {ops : Array Oper} {rest : List Oper} {o : Oper} {a : Act} {Q : Exit → Act → World → Prop}
/-- append of one element of two cells, and what it leaves as it was. -/
theorem wp_app2M {t : TypeId} (E : Elem t e 2) (hgd : o.guard = none) (s x : Operand) (ho : o.op = .call { callee := .builtin .append, args := #[s, x], argTypes := #[t, t] })
    (w0 : World) (hw0 : Grows w0 w) (n c : Nat) (A : Option Addr) (xs : List Value) (hs : a.eval s = .slice A n c) (hown : Own w w0.heap.size e 2 A n c xs) (g c' : Nat) (v v2 : Value) (hx : a.eval x = .slice (some ⟨g, 0, none⟩) 1 c')
    (hv : Holds w ⟨g, 0, none⟩ v) (hv2 : Holds w ⟨g, 1, none⟩ v2) (h1 : v.oneCell' = true) (h2 : v2.oneCell' = true) (hnm : n + 1 ≤ 1000000000000)
    (h : ∀ A' c'' (y : Later w0), Own y.now w0.heap.size e 2 A' (n + 1) c'' (xs ++ [v, v2]) → w.grownBy y.now (Value.slice A n c).ownBlock → wpList Try.prog ops Q rest (a.put o.dst (.slice A' (n + 1) c'')) y.now) :
    wpList Try.prog ops Q (o :: rest) a w := by
  obtain ⟨i, z, bytes, hi, hz, hsz, hby, hzs, hb64⟩ := E.info
  refine wpList_append_own w hgd s x t ho w0.heap.size e i z 2 bytes E.under hi hz hsz hby hzs E.pos (.slice A n c) n xs hs hown ⟨g, 0, none⟩ 1 c' [v, v2] hx rfl (fun j u hu => ?_) (by intro u hu; simp at hu; rcases hu with rfl | rfl; exact h1; exact h2) (by unfold maxLen; omega) ?_ hw0.size ?_
  · match j, hu with
    | 0, hu =>
      simp at hu
      subst hu
      simpa [Addr.add] using hv.cell
    | 1, hu =>
      simp at hu
      subst hu
      simpa [Addr.add] using hv2.cell
  · exact Nat.le_trans (Nat.mul_le_mul hnm hb64) (by omega)
  · intro v' w' hown' hgr _
    obtain ⟨A', c'', rfl⟩ := own_form hown'
    have hgw : Grows w0 w' := by
      refine ⟨hgr.os.trans hw0.os, hgr.tape.trans hw0.tape, hgr.output.trans hw0.output, Nat.le_trans hw0.size hgr.size, fun k hk => ?_⟩
      refine (hgr.block k (Nat.lt_of_lt_of_le hk hw0.size) fun e => ?_).trans (hw0.block k hk)
      have := World.ownsRow.lt hown k e.symm
      omega
    obtain ⟨y, rfl⟩ := hgw.later
    exact h A' c'' y hown' hgr
end
/-- A route: where its edges lie, how much room they have, its edges, and what it weighs. -/
abbrev Rt := Option Addr × Nat × List Nat × Nat
def rtC (r : Rt) : List Value := [.slice r.1 r.2.2.1.length r.2.1, .int .u64 (r.2.2.2 : Int)]
structure RtsAt (w : World) (B : Nat) (A : Option Addr) (c : Nat) (rs : List Rt) (ps : List (List Nat × Nat)) : Prop where
  own : Own w B 64 2 A rs.length c (rs.flatMap rtC)
  rows : ∀ r, r ∈ rs → Own w 0 3 1 r.1 r.2.2.1.length r.2.1 (nv r.2.2.1)
  eqs : rs.map (fun r => (r.2.2.1, r.2.2.2)) = ps
theorem RtsAt.len {w : World} {B : Nat} {A : Option Addr} {c : Nat} {rs : List Rt} {ps : List (List Nat × Nat)} (h : RtsAt w B A c rs ps) : rs.length = ps.length := by rw [← h.eqs, List.length_map]
theorem RtsAt.nil (w : World) (B : Nat) : RtsAt w B none 0 [] [] := ⟨Own.nil _ _ _ _, fun r hr => (by cases hr), rfl⟩
theorem RtsAt.grows {w w' : World} {B : Nat} {A : Option Addr} {c : Nat} {rs : List Rt} {ps : List (List Nat × Nat)} (h : RtsAt w B A c rs ps) (hg : Grows w w') : RtsAt w' B A c rs ps := ⟨h.own.grows hg, fun r hr => (h.rows r hr).grows hg, h.eqs⟩
/-- One more is appended. -/
theorem RtsAt.app {w w' : World} {B : Nat} {A A' : Option Addr} {c c' : Nat} {rs : List Rt} {ps : List (List Nat × Nat)} (h : RtsAt w B A c rs ps) (r : Rt) (hr : Own w 0 3 1 r.1 r.2.2.1.length r.2.1 (nv r.2.2.1))
    (ho : Own w' B 64 2 A' (rs.length + 1) c' (rs.flatMap rtC ++ [.slice r.1 r.2.2.1.length r.2.1, .int .u64 (r.2.2.2 : Int)])) (hg : w.grownBy w' (Value.slice A rs.length c).ownBlock) : RtsAt w' B A' c' (rs ++ [r]) (ps ++ [(r.2.2.1, r.2.2.2)]) := by
  have key : ∀ q : Rt, Own w 0 3 1 q.1 q.2.2.1.length q.2.1 (nv q.2.2.1) → Own w' 0 3 1 q.1 q.2.2.1.length q.2.1 (nv q.2.2.1) := fun q hq =>
    hq.touch (S := fun k => (Value.slice A rs.length c).ownBlock = some k) ((Touch.refl _ w).grown hg (fun k hk => .inl hk)) (fun p hp e2 => by
      have hA := h.own
      cases A with
      | none => simp [Value.ownBlock] at e2
      | some a =>
        simp [Value.ownBlock] at e2
        have h1 := (hA.ty a rfl).2
        rw [e2] at h1
        exact absurd (h1.one (hq.ty p hp).2) (by decide))
  refine ⟨?_, fun q hq => ?_, by rw [List.map_append, h.eqs]; rfl⟩
  · rw [List.length_append, List.length_singleton, List.flatMap_append]
    exact ho
  · rcases List.mem_append.1 hq with h1 | h1
    · exact key q (h.rows q h1)
    · rw [List.mem_singleton.1 h1]; exact key r hr
/-- The first k of all shortest ways. -/
def pthK (F : Nat → List Nat × Nat) (k : Nat) : List (List Nat × Nat) := (List.range k).map F
theorem pthK_succ (F : Nat → List Nat × Nat) (k : Nat) : pthK F (k + 1) = pthK F k ++ [F k] := by simp [pthK, List.range_succ]
theorem pth_all (E : List Edg) (o : DOpt) (N s : Int) (hnn : o.nn.length ≤ 1000000) (hne : o.ne.length ≤ 1000000) : ∃ F : Nat → List Nat × Nat, ∀ t : Nat, ∃ r, IsPath E o N s t (F t).1 (F t).2 r := by
  have h : ∀ t : Nat, ∃ p : List Nat × Nat, ∃ r, IsPath E o N s t p.1 p.2 r := fun t => by
    obtain ⟨l, f, r, hp⟩ := isPath_any E o N s t hnn hne
    exact ⟨(l, f), r, hp⟩
  exact ⟨fun t => Classical.choose (h t), fun t => Classical.choose_spec (h t)⟩
end Go.Proofs.Ytpnncadglhlclaa

/- Contracts: the shortest ways to all nodes; and the answer's. -/
namespace Go.Proofs.Ytpnncadglhlclaa
open Go Go.RowKit
set_option maxRecDepth 40000 in
set_option maxHeartbeats 8000000 in
theorem caTo (NN : Nat) (s : Int) (A : Option Addr) (c : Nat) (E : List Edg) (o : DOpt) (An Ae Aw : Option Addr) (cn ce cw : Nat) (F : Nat → List Nat × Nat) (w : World) (h : Rd w A 3 E.length (esCells E)) (h2 : Rd w An 1 o.nn.length (o.nn.map (.int .i64))) (h3 : Rd w Ae 1 o.ne.length (o.ne.map (.int .i64))) (h4 : Rd w Aw 1 o.W.length (wv o.W))
    (hn : E.length ≤ 1000000) (hn3 : o.W.length ≤ 1000000) (hN : NN ≤ 100000) (hd : dcF NN s E o.W = 0) (hF : ∀ t : Nat, ∃ r, IsPath E o NN s t (F t).1 (F t).2 r) :
    Calls Try.prog 43 #[.agg #[.int .i64 (NN : Int), .slice A E.length c], .int .i64 s, oVal o.back (.slice An o.nn.length cn) (.slice Ae o.ne.length ce) Aw o.W.length cw o.most] w fun e w' =>
      ∃ A' c' rs, e = .returned (.tuple #[.slice A' rs.length c', .int .i64 0]) ∧ RtsAt w' w.heap.size A' c' rs (pthK F NN) ∧ Grows w w' := by
  have C1 := hide (fun (W : World) => show Calls Try.prog 88 #[.agg #[.bool o.back, .slice An o.nn.length cn, .slice Ae o.ne.length ce, .slice Aw o.W.length cw, .int .u64 (o.most : Int)]] W fun e w' => e = .returned (.agg #[.bool false, .slice An o.nn.length cn, .slice Ae o.ne.length ce, .slice Aw o.W.length cw, .int .u64 0]) ∧ Grows W w' from caPlain o.back An o.nn.length cn Ae o.ne.length ce Aw o.W.length cw o.most W)
  have C2 := hide (fun (W : World) (g : Grows w W) => show Calls Try.prog 35 #[.agg #[.int .i64 (NN : Int), .slice A E.length c], .int .i64 s, .agg #[.bool false, .slice An o.nn.length cn, .slice Ae o.ne.length ce, .slice Aw o.W.length cw, .int .u64 0]] W fun e w' => e = .returned (.int .i64 0) ∧ Grows W w' from by
    have := djCheck NN s A E.length c E false (.slice An o.nn.length cn) (.slice Ae o.ne.length ce) Aw o.W.length cw 0 o.W W (h.grows g) (h4.grows g) hn hn3
    rw [hd] at this
    exact this)
  have K1 := hide (fun (t : Nat) (W1 : World) (g : Grows w W1) => show Calls Try.prog 39 #[.agg #[.int .i64 (NN : Int), .slice A E.length c], .int .i64 s, .int .i64 (t : Int), .agg #[.bool o.back, .slice An o.nn.length cn, .slice Ae o.ne.length ce, .slice Aw o.W.length cw, .int .u64 (o.most : Int)]] W1 fun e w' =>
      ∃ A' c' r, e = .returned (.tuple #[.agg #[.slice A' (F t).1.length c', .int .u64 ((F t).2 : Int)], .int .i64 r]) ∧ Own w' 0 3 1 A' (F t).1.length c' (nv (F t).1) ∧ Grows W1 w' from by
    obtain ⟨r, hp⟩ := hF t
    exact (caPath NN s t A c E o An Ae Aw cn ce cw _ _ r W1 (h.grows g) (h2.grows g) (h3.grows g) (h4.grows g) hn hn3 hp).mono (fun e w' h => by
      obtain ⟨A', c', rfl, ho, hg⟩ := h
      exact ⟨A', c', r, rfl, ho.base (Nat.zero_le _), hg⟩))
  unfold oVal
  clear h h2 h3 h4 hd hF
  generalize o.most = mo at *
  generalize o.back = back at *
  go_enter Try.func43, Try.ntmps43
  go_upto_region 1 with fail
  obtain ⟨W0, hW0⟩ : ∃ W0, W0 = ((w.alloc (.cells #[.int .i64 (NN : Int), .slice A E.length c] 24)).alloc (.cells #[.bool back, .slice An o.nn.length cn, .slice Ae o.ne.length ce, .slice Aw o.W.length cw, .int .u64 (mo : Int)] 39)) := ⟨_, rfl⟩
  have a1 : Arr W0 w.heap.size 24 [.int .i64 (NN : Int), .slice A E.length c] := by rw [hW0]; exact (Arr.make _ _ _).grow ((Grows.refl _).new _)
  have a2 : Arr W0 (w.heap.size + 1) 39 [.bool back, .slice An o.nn.length cn, .slice Ae o.ne.length ce, .slice Aw o.W.length cw, .int .u64 (mo : Int)] := by
    rw [hW0]
    have := Arr.make (w.alloc (.cells #[.int .i64 (NN : Int), .slice A E.length c] 24)) [.bool back, .slice An o.nn.length cn, .slice Ae o.ne.length ce, .slice Aw o.W.length cw, .int .u64 (mo : Int)] 39
    rw [show (w.alloc (.cells #[.int .i64 (NN : Int), .slice A E.length c] 24)).heap.size = w.heap.size + 1 by simp] at this
    exact this
  have hg0 : Grows w W0 := by rw [hW0]; exact ((Grows.refl w).new _).new _
  rw [← hW0]
  clear hW0
  generalize w.heap.size + 1 = b2 at *
  generalize hb1 : w.heap.size = b1 at *
  have HB := hide hb1
  clear hb1
  ((first | refine wp_region_gen2 (by kernel_rfl) (by kernel_rfl) ?_ | refine wp_region_gen (by kernel_rfl) (by kernel_rfl) ?_); (repeat' (first | (refine gLex_val0 rfl (by kernel_rfl) (fun K hK => ?_); (go_simp; (try (simp only [↓IntWalk.iteOmega]; try go_simp)); (try simp (disch := omega) only [IntWalk.i64_in]); (try simp (disch := omega) only [IntWalk.u64_in]); first | (refine hK _ ?_; clear hK K) | (apply Exists.intro; refine ⟨fun x => ?_, hK _ ?_⟩; (first | (go_at_call 88; exact C1.out _) | (go_at_call 35; exact C2.out _ (hg0.trans (by repeat (first | exact Grows.refl _ | refine Grows.now ?_ _ | refine Grows.new ?_ _ | refine Grows.drewN ?_ _ | refine Grows.drew ?_ | assumption | (refine Grows.set ?_ (by first | omega | (simp; done) | (simp; omega)) _)))))); clear hK K))) | (refine gLex_undef rfl rfl rfl (by kernel_rfl) (fun K hK => ?_); go_simp; refine hK _ ?_; clear hK K) | (refine gLex_ask rfl rfl rfl ?_; first | (apply gAsk_yes; kernel_rfl; intro K hK; (go_simp; (try (simp only [↓IntWalk.iteOmega]; try go_simp)); (try simp (disch := omega) only [IntWalk.i64_in]); (try simp (disch := omega) only [IntWalk.u64_in]); first | (refine hK _ ?_; clear hK K) | (apply Exists.intro; refine ⟨fun x => ?_, hK _ ?_⟩; (first | (go_at_call 88; exact C1.out _) | (go_at_call 35; exact C2.out _ (hg0.trans (by repeat (first | exact Grows.refl _ | refine Grows.now ?_ _ | refine Grows.new ?_ _ | refine Grows.drewN ?_ _ | refine Grows.drew ?_ | assumption | (refine Grows.set ?_ (by first | omega | (simp; done) | (simp; omega)) _)))))); clear hK K))) | ((first | apply gAsk_no1 | apply gAsk_no2); kernel_rfl; intro K hK; simp [go_sem]; refine hK _ ?_; clear hK K) | (apply gAsk_part; kernel_rfl; all_goals (intro h K hK; (try simp only [Bool.not_true] at h); (try simp only [Bool.not_false] at h); (try simp only [decide_eq_true_eq] at h); (try simp only [decide_eq_false_iff_not] at h); first | (exfalso; first | contradiction | omega) | (go_simp; (try (simp only [↓IntWalk.iteOmega]; try go_simp)); (try simp (disch := omega) only [IntWalk.i64_in]); (try simp (disch := omega) only [IntWalk.u64_in]); first | (refine hK _ ?_; clear hK K) | (apply Exists.intro; refine ⟨fun x => ?_, hK _ ?_⟩; (first | (go_at_call 88; exact C1.out _) | (go_at_call 35; exact C2.out _ (hg0.trans (by repeat (first | exact Grows.refl _ | refine Grows.now ?_ _ | refine Grows.new ?_ _ | refine Grows.drewN ?_ _ | refine Grows.drew ?_ | assumption | (refine Grows.set ?_ (by first | omega | (simp; done) | (simp; omega)) _)))))); clear hK K))))))); all_goals ((apply gLex_end); intro x))
  go_wp2_with fail
  go_loopw [6, 22] (fun out tk wr => ∃ (k : Nat) (A8 : Option Addr) (c8 : Nat) (rs : List Rt), k ≤ NN ∧ tk = .int .i64 (k : Int) ∧ out = .slice A8 rs.length c8 ∧ ∃ y : Later W0, wr = y.now ∧ RtsAt y.now W0.heap.size A8 c8 rs (pthK F k)) (fun _ tk _ => NN - (Go.RowKit.intOf tk).toNat)
  case atStart => exact ⟨0, none, 0, [], Nat.zero_le _, by go_num, rfl, x, rfl, RtsAt.nil _ _⟩
  case round =>
    obtain ⟨k, A8, c8, rs, hk, rfl, rfl, y, rfl, hrt⟩ := hrel
    have hlen : rs.length ≤ 1000000 := by
      have := hrt.len
      simp [pthK] at this
      omega
    have HRT := hide hrt
    clear hrt
    by_cases hlt : k < NN
    · go_wp2_with fail
      refine (K1.out k _ (hg0.trans (by repeat (first | exact Grows.refl _ | refine Grows.now ?_ _ | refine Grows.new ?_ _ | refine Grows.drewN ?_ _ | refine Grows.drew ?_ | assumption | (refine Grows.set ?_ (by first | omega | (simp; done) | (simp; omega)) _))))).mono ?_; rintro e W1 ⟨A', c', r, rfl, ho, hg⟩
      have HO := hide ho
      have HRT := hide (HRT.out.grows hg)
      obtain ⟨y1, hy1⟩ : ∃ y1 : Later W0, W1 = y1.now := (y.grows.trans hg).later
      subst hy1
      clear hg ho
      go_wp2_with (at_builtin; refine wp_app2M elemRoute rfl _ _ rfl W0 (by repeat (first | exact Grows.refl _ | refine Grows.now ?_ _ | refine Grows.new ?_ _ | refine Grows.drewN ?_ _ | refine Grows.drew ?_ | assumption | (refine Grows.set ?_ (by first | omega | (simp; done) | (simp; omega)) _))) rs.length c8 A8 _ rfl ((HRT.out.own.new _).new _) _ _ _ _ rfl inferInstance inferInstance rfl rfl (by omega) ?_; intro A3 c3 y3 hown3 hgr3; have hrt3 := (HRT.out.grows (((Grows.refl _).new _).new _)).app (A', c', F k) ((HO.out.new _).new _) hown3 hgr3; have HRT3 := hide hrt3; clear hown3 hgr3 hrt3)
      go_roundw
      case measure => simp [Go.RowKit.intOf]; omega
      case rel => exact ⟨k + 1, A3, c3, rs ++ [(A', c', F k)], by omega, by go_num, by rw [List.length_append, List.length_singleton], y3, rfl, by rw [pthK_succ]; exact HRT3.out⟩
    · obtain rfl : k = NN := by omega
      go_wp2_with fail
      refine bodyPost_ret (v := .tuple #[.slice A8 rs.length c8, .int .i64 0]) (by simp (maxDischargeDepth := 6) [results, Try.results43, go_sem, *]) rfl ?_
      have hgy : Grows w y.now := hg0.trans y.grows
      exact ⟨A8, c8, rs, rfl, ⟨HRT.out.own.base hg0.size, HRT.out.rows, HRT.out.eqs⟩, hgy⟩
set_option maxRecDepth 40000 in
set_option maxHeartbeats 8000000 in
theorem r15To (NN : Nat) (s : Int) (A : Option Addr) (c : Nat) (E : List Edg) (o : DOpt) (An Ae Aw : Option Addr) (cn ce cw : Nat) (F : Nat → List Nat × Nat) (w : World) (h : Rd w A 3 E.length (esCells E)) (h2 : Rd w An 1 o.nn.length (o.nn.map (.int .i64))) (h3 : Rd w Ae 1 o.ne.length (o.ne.map (.int .i64))) (h4 : Rd w Aw 1 o.W.length (wv o.W))
    (hn : E.length ≤ 1000000) (hn3 : o.W.length ≤ 1000000) (hN : NN ≤ 100000) (hF : ∀ t : Nat, ∃ r, IsPath E o NN s t (F t).1 (F t).2 r) :
    Calls Try.prog 46 #[.agg #[.int .i64 (NN : Int), .slice A E.length c], .int .i64 s, oVal o.back (.slice An o.nn.length cn) (.slice Ae o.ne.length ce) Aw o.W.length cw o.most] w fun e w' =>
      ∃ A' c' rs, e = .returned (.slice A' rs.length c') ∧ RtsAt w' w.heap.size A' c' rs (pthK F NN) ∧ Grows w w' := by
  have K1 := hide (fun (t : Nat) (W1 : World) (g : Grows w W1) => show Calls Try.prog 40 #[.agg #[.int .i64 (NN : Int), .slice A E.length c], .int .i64 s, .int .i64 (t : Int), .agg #[.bool o.back, .slice An o.nn.length cn, .slice Ae o.ne.length ce, .slice Aw o.W.length cw, .int .u64 (o.most : Int)]] W1 fun e w' =>
      ∃ A' c' r, e = .returned (.tuple #[.agg #[.slice A' (F t).1.length c', .int .u64 ((F t).2 : Int)], .int .i64 r]) ∧ Own w' 0 3 1 A' (F t).1.length c' (nv (F t).1) ∧ Grows W1 w' from by
    obtain ⟨r, hp⟩ := hF t
    exact (r15Path NN s t A c E o An Ae Aw cn ce cw _ _ r W1 (h.grows g) (h2.grows g) (h3.grows g) (h4.grows g) hn hn3 hp).mono (fun e w' h => by
      obtain ⟨A', c', rfl, ho, hg⟩ := h
      exact ⟨A', c', r, rfl, ho.base (Nat.zero_le _), hg⟩))
  unfold oVal
  clear h h2 h3 h4 hF
  generalize o.most = mo at *
  generalize o.back = back at *
  go_enter Try.func46, Try.ntmps46
  go_wp2_with fail
  obtain ⟨W0, hW0⟩ : ∃ W0, W0 = ((w.alloc (.cells #[.int .i64 (NN : Int), .slice A E.length c] 24)).alloc (.cells #[.bool back, .slice An o.nn.length cn, .slice Ae o.ne.length ce, .slice Aw o.W.length cw, .int .u64 (mo : Int)] 45)) := ⟨_, rfl⟩
  have a1 : Arr W0 w.heap.size 24 [.int .i64 (NN : Int), .slice A E.length c] := by rw [hW0]; exact (Arr.make _ _ _).grow ((Grows.refl _).new _)
  have a2 : Arr W0 (w.heap.size + 1) 45 [.bool back, .slice An o.nn.length cn, .slice Ae o.ne.length ce, .slice Aw o.W.length cw, .int .u64 (mo : Int)] := by
    rw [hW0]
    have := Arr.make (w.alloc (.cells #[.int .i64 (NN : Int), .slice A E.length c] 24)) [.bool back, .slice An o.nn.length cn, .slice Ae o.ne.length ce, .slice Aw o.W.length cw, .int .u64 (mo : Int)] 45
    rw [show (w.alloc (.cells #[.int .i64 (NN : Int), .slice A E.length c] 24)).heap.size = w.heap.size + 1 by simp] at this
    exact this
  have hg0 : Grows w W0 := by rw [hW0]; exact ((Grows.refl w).new _).new _
  rw [← hW0]
  clear hW0
  have hsz := hg0.size
  obtain ⟨lo, hlo⟩ : ∃ lo, w.heap.size = lo := ⟨_, rfl⟩
  rw [hlo] at a1 a2 hsz ⊢
  clear hlo
  generalize lo + 1 = b2 at *
  go_loopw [7, 8] (fun out tk wr => ∃ (k : Nat) (A8 : Option Addr) (c8 : Nat) (rs : List Rt), k ≤ NN ∧ tk = .int .i64 (k : Int) ∧ out = .slice A8 rs.length c8 ∧ ∃ y : Later W0, wr = y.now ∧ RtsAt y.now W0.heap.size A8 c8 rs (pthK F k)) (fun _ tk _ => NN - (Go.RowKit.intOf tk).toNat)
  case atStart => exact ⟨0, none, 0, [], Nat.zero_le _, by go_num, rfl, ⟨W0, Grows.refl _⟩, rfl, RtsAt.nil _ _⟩
  case round =>
    obtain ⟨k, A8, c8, rs, hk, rfl, rfl, y, rfl, hrt⟩ := hrel
    have hlen : rs.length ≤ 1000000 := by
      have := hrt.len
      simp [pthK] at this
      omega
    have HRT := hide hrt
    clear hrt
    by_cases hlt : k < NN
    · go_wp2_with fail
      refine (K1.out k _ (hg0.trans (by repeat (first | exact Grows.refl _ | refine Grows.now ?_ _ | refine Grows.new ?_ _ | refine Grows.drewN ?_ _ | refine Grows.drew ?_ | assumption | (refine Grows.set ?_ (by first | omega | (simp; done) | (simp; omega)) _))))).mono ?_; rintro e W1 ⟨A', c', r, rfl, ho, hg⟩
      have HO := hide ho
      have HRT := hide (HRT.out.grows hg)
      obtain ⟨y1, hy1⟩ : ∃ y1 : Later W0, W1 = y1.now := (y.grows.trans hg).later
      subst hy1
      clear hg ho
      go_wp2_with (at_builtin; refine wp_app2M elemRoute rfl _ _ rfl W0 (by repeat (first | exact Grows.refl _ | refine Grows.now ?_ _ | refine Grows.new ?_ _ | refine Grows.drewN ?_ _ | refine Grows.drew ?_ | assumption | (refine Grows.set ?_ (by first | omega | (simp; done) | (simp; omega)) _))) rs.length c8 A8 _ rfl ((HRT.out.own.new _).new _) _ _ _ _ rfl inferInstance inferInstance rfl rfl (by omega) ?_; intro A3 c3 y3 hown3 hgr3; have hrt3 := (HRT.out.grows (((Grows.refl _).new _).new _)).app (A', c', F k) ((HO.out.new _).new _) hown3 hgr3; have HRT3 := hide hrt3; clear hown3 hgr3 hrt3)
      go_roundw
      case measure => simp [Go.RowKit.intOf]; omega
      case rel => exact ⟨k + 1, A3, c3, rs ++ [(A', c', F k)], by omega, by go_num, by rw [List.length_append, List.length_singleton], y3, rfl, by rw [pthK_succ]; exact HRT3.out⟩
    · obtain rfl : k = NN := by omega
      go_wp2_with fail
      go_ret
      have hgy : Grows w y.now := hg0.trans y.grows
      exact ⟨A8, c8, rs, rfl, ⟨HRT.out.own.base hg0.size, HRT.out.rows, HRT.out.eqs⟩, hgy⟩
end Go.Proofs.Ytpnncadglhlclaa

/- The law CanonAll, walked: the shortest ways to all nodes. -/
namespace Go.Proofs.Ytpnncadglhlclaa
open Go Go.RowKit
theorem rtFlat_at : ∀ (rs : List Rt) (i : Nat), (rs.flatMap rtC)[i * 2]? = (rs[i]?).map (fun r => Value.slice r.1 r.2.2.1.length r.2.1) ∧ (rs.flatMap rtC)[i * 2 + 1]? = (rs[i]?).map (fun r => Value.int .u64 (r.2.2.2 : Int))
  | [], i => by simp
  | r :: rs, 0 => by simp [rtC]
  | r :: rs, i + 1 => by
    have h := rtFlat_at rs i
    have e1 : (i + 1) * 2 = i * 2 + 2 := by omega
    rw [List.flatMap_cons, e1]
    have e2 : ∀ j, (rtC r ++ rs.flatMap rtC)[j + 2]? = (rs.flatMap rtC)[j]? := fun j => by
      rw [List.getElem?_append_right (by simp [rtC])]
      simp [rtC]
    rw [e2, show i * 2 + 2 + 1 = (i * 2 + 1) + 2 by omega, e2]
    simpa using h
theorem RtsAt.at {w : World} {B : Nat} {A : Option Addr} {c : Nat} {rs : List Rt} {ps : List (List Nat × Nat)} (h : RtsAt w B A c rs ps) {i : Nat} {r : Rt} (hi : rs[i]? = some r) :
    ∃ g, A = some ⟨g, 0, none⟩ ∧ Holds w ⟨g, i * 2, none⟩ (.slice r.1 r.2.2.1.length r.2.1) ∧ Holds w ⟨g, i * 2 + 1, none⟩ (.int .u64 (r.2.2.2 : Int)) ∧ Own w 0 3 1 r.1 r.2.2.1.length r.2.1 (nv r.2.2.1) := by
  have hl : 0 < rs.length := by
    have := (List.getElem?_eq_some_iff.1 hi).1
    omega
  obtain ⟨g, cur, rfl, _⟩ := h.own.at_ hl
  have h1 := rtFlat_at rs i
  rw [hi] at h1
  exact ⟨g, rfl, ⟨h.own.cell rfl h1.1⟩, ⟨h.own.cell rfl h1.2⟩, h.rows r (List.mem_of_getElem? hi)⟩
set_option maxRecDepth 20000 in
set_option maxHeartbeats 4000000 in
theorem r8RoutesEq (B1 B2 : Nat) (A A2 : Option Addr) (c c2 : Nat) (rs rs2 : List Rt) (ps : List (List Nat × Nat)) (w : World) (h : RtsAt w B1 A c rs ps) (h2 : RtsAt w B2 A2 c2 rs2 ps) (hn : ps.length ≤ 1000000) (hl : ∀ p, p ∈ ps → p.1.length ≤ 1000000) :
    Calls Try.prog 45 #[.slice A rs.length c, .slice A2 rs2.length c2] w fun e w' => e = .returned (.bool true) ∧ Grows w w' := by
  have e1 := h.len
  have e2 := h2.len
  have HH := hide h
  have HH2 := hide h2
  have HL := hide hl
  rw [e1, e2]
  have E1 := hide e1
  have E2 := hide e2
  clear h h2 hl e1 e2
  obtain ⟨n, hnn⟩ : ∃ n, ps.length = n := ⟨_, rfl⟩
  rw [hnn] at hn E1 E2 ⊢
  have HN := hide hnn
  clear hnn
  go_enter Try.func45, Try.ntmps45
  go_wp2_with fail
  go_loopw [5] (fun i wr => ∃ k : Nat, k ≤ n ∧ i = .int .i64 (k : Int) ∧ (∃ x : Later w, wr = x.now)) (fun i _ => n - (intOf i).toNat)
  case atStart => exact ⟨0, by omega, by go_num, ⟨⟨w, Grows.refl w⟩, rfl⟩⟩
  case round =>
    obtain ⟨q, hq, rfl, ⟨x, rfl⟩⟩ := hrel
    by_cases hend : n ≤ q
    · go_wp2_with fail
      go_ret
      exact ⟨rfl, (by repeat (first | exact Grows.refl _ | refine Grows.now ?_ _ | refine Grows.new ?_ _ | refine Grows.drewN ?_ _ | refine Grows.drew ?_ | assumption | (refine Grows.set ?_ (by first | omega | (simp; done) | (simp; omega)) _)))⟩
    · obtain ⟨r, hr⟩ : ∃ r, rs[q]? = some r := ⟨rs[q]'(by have := E1.out; omega), by simp⟩
      obtain ⟨r2, hr2⟩ : ∃ r, rs2[q]? = some r := ⟨rs2[q]'(by have := E2.out; omega), by simp⟩
      have hp : ps[q]? = some (r.2.2.1, r.2.2.2) := by rw [← HH.out.eqs, List.getElem?_map, hr]; rfl
      have hp2 : ps[q]? = some (r2.2.2.1, r2.2.2.2) := by rw [← HH2.out.eqs, List.getElem?_map, hr2]; rfl
      rw [hp] at hp2
      injection hp2 with hp2
      injection hp2 with hp3 hp4
      have hlr := HL.out _ (List.mem_of_getElem? hp)
      obtain ⟨g, hA, k1, k2, o1⟩ := HH.out.at hr
      obtain ⟨g2, hA2, m1, m2, o2⟩ := HH2.out.at hr2
      subst hA hA2
      obtain ⟨A8, c8, l8, f8⟩ := r
      obtain ⟨A9, c9, l9, f9⟩ := r2
      simp only at hp3 hp4 k1 k2 m1 m2 o1 o2 hlr
      subst hp3 hp4
      have e9 : nv l8 = (l8.map fun (i : Nat) => (i : Int)).map (.int .i64) := by unfold nv; rw [List.map_map]; rfl
      have C1 := hide (fun (W1 : World) (g : Grows w W1) => show Calls Try.prog 42 #[.agg #[.slice A8 l8.length c8, .int .u64 (f8 : Int)], .agg #[.slice A9 l8.length c9, .int .u64 (f8 : Int)]] W1 fun e w' => e = .returned (.int .i64 0) ∧ Grows W1 w' from by
        have h1 := o1.rd.grows g
        have h2 := o2.rd.grows g
        rw [e9] at h1 h2
        exact r8CmpEq A8 l8.length c8 _ A9 c9 f8 W1 h1 hlr h2)
      clear hp hr hr2 o1 o2 e9 hlr
      go_wp2_with fail
      ((first | refine wp_region_gen2 (by kernel_rfl) (by kernel_rfl) ?_ | refine wp_region_gen (by kernel_rfl) (by kernel_rfl) ?_); (repeat' (first | (refine gLex_val0 rfl (by kernel_rfl) (fun K hK => ?_); (go_simp; (try (simp only [↓IntWalk.iteOmega]; try go_simp)); (try simp (disch := omega) only [IntWalk.i64_in]); (try simp (disch := omega) only [IntWalk.u64_in]); first | (refine hK _ ?_; clear hK K) | (apply Exists.intro; refine ⟨fun x => ?_, hK _ ?_⟩; (first | (go_at_call 42; exact C1.out _ (by repeat (first | exact Grows.refl _ | refine Grows.now ?_ _ | refine Grows.new ?_ _ | refine Grows.drewN ?_ _ | refine Grows.drew ?_ | assumption | (refine Grows.set ?_ (by first | omega | (simp; done) | (simp; omega)) _))))); clear hK K))) | (refine gLex_undef rfl rfl rfl (by kernel_rfl) (fun K hK => ?_); go_simp; refine hK _ ?_; clear hK K) | (refine gLex_ask rfl rfl rfl ?_; first | (apply gAsk_yes; kernel_rfl; intro K hK; (go_simp; (try (simp only [↓IntWalk.iteOmega]; try go_simp)); (try simp (disch := omega) only [IntWalk.i64_in]); (try simp (disch := omega) only [IntWalk.u64_in]); first | (refine hK _ ?_; clear hK K) | (apply Exists.intro; refine ⟨fun x => ?_, hK _ ?_⟩; (first | (go_at_call 42; exact C1.out _ (by repeat (first | exact Grows.refl _ | refine Grows.now ?_ _ | refine Grows.new ?_ _ | refine Grows.drewN ?_ _ | refine Grows.drew ?_ | assumption | (refine Grows.set ?_ (by first | omega | (simp; done) | (simp; omega)) _))))); clear hK K))) | ((first | apply gAsk_no1 | apply gAsk_no2); kernel_rfl; intro K hK; simp [go_sem]; refine hK _ ?_; clear hK K) | (apply gAsk_part; kernel_rfl; all_goals (intro h K hK; (try simp only [Bool.not_true] at h); (try simp only [Bool.not_false] at h); (try simp only [decide_eq_true_eq] at h); (try simp only [decide_eq_false_iff_not] at h); first | (exfalso; first | contradiction | omega) | (go_simp; (try (simp only [↓IntWalk.iteOmega]; try go_simp)); (try simp (disch := omega) only [IntWalk.i64_in]); (try simp (disch := omega) only [IntWalk.u64_in]); first | (refine hK _ ?_; clear hK K) | (apply Exists.intro; refine ⟨fun x => ?_, hK _ ?_⟩; (first | (go_at_call 42; exact C1.out _ (by repeat (first | exact Grows.refl _ | refine Grows.now ?_ _ | refine Grows.new ?_ _ | refine Grows.drewN ?_ _ | refine Grows.drew ?_ | assumption | (refine Grows.set ?_ (by first | omega | (simp; done) | (simp; omega)) _))))); clear hK K))))))); all_goals ((apply gLex_end); intro y))
      go_wp2_with fail
      go_roundw
      case measure => simp [intOf]; omega
      case rel => exact ⟨q + 1, by omega, by go_num, ⟨⟨_, (by repeat (first | exact Grows.refl _ | refine Grows.now ?_ _ | refine Grows.new ?_ _ | refine Grows.drewN ?_ _ | refine Grows.drew ?_ | assumption | (refine Grows.set ?_ (by first | omega | (simp; done) | (simp; omega)) _)))⟩, rfl⟩⟩
set_option maxRecDepth 20000 in
set_option maxHeartbeats 4000000 in
theorem caToNo (N s : Int) (A : Option Addr) (c : Nat) (E : List Edg) (o : DOpt) (An Ae Aw : Option Addr) (cn ce cw : Nat) (w : World) (h : Rd w A 3 E.length (esCells E)) (h4 : Rd w Aw 1 o.W.length (wv o.W)) (hn : E.length ≤ 1000000) (hn3 : o.W.length ≤ 1000000) (hd : dcF N s E o.W ≠ 0) :
    Calls Try.prog 43 #[.agg #[.int .i64 N, .slice A E.length c], .int .i64 s, oVal o.back (.slice An o.nn.length cn) (.slice Ae o.ne.length ce) Aw o.W.length cw o.most] w fun e w' =>
      e = .returned (.tuple #[.slice none 0 0, .int .i64 (dcF N s E o.W)]) ∧ Grows w w' := by
  have C1 := hide (fun (W : World) => show Calls Try.prog 88 #[.agg #[.bool o.back, .slice An o.nn.length cn, .slice Ae o.ne.length ce, .slice Aw o.W.length cw, .int .u64 (o.most : Int)]] W fun e w' => e = .returned (.agg #[.bool false, .slice An o.nn.length cn, .slice Ae o.ne.length ce, .slice Aw o.W.length cw, .int .u64 0]) ∧ Grows W w' from caPlain o.back An o.nn.length cn Ae o.ne.length ce Aw o.W.length cw o.most W)
  have C2 := hide (fun (W : World) (g : Grows w W) => show Calls Try.prog 35 #[.agg #[.int .i64 N, .slice A E.length c], .int .i64 s, .agg #[.bool false, .slice An o.nn.length cn, .slice Ae o.ne.length ce, .slice Aw o.W.length cw, .int .u64 0]] W fun e w' => e = .returned (.int .i64 (dcF N s E o.W)) ∧ Grows W w' from
    djCheck N s A E.length c E false (.slice An o.nn.length cn) (.slice Ae o.ne.length ce) Aw o.W.length cw 0 o.W W (h.grows g) (h4.grows g) hn hn3)
  have hr2 : (dcF N s E o.W == 0) = false := beq_eq_false_iff_ne.2 hd
  unfold oVal
  clear h h4 hd
  generalize dcF N s E o.W = r at *
  generalize o.most = mo at *
  generalize o.back = back at *
  go_enter Try.func43, Try.ntmps43
  go_wp2_with fail
  ((first | refine wp_region_gen2 (by kernel_rfl) (by kernel_rfl) ?_ | refine wp_region_gen (by kernel_rfl) (by kernel_rfl) ?_); (repeat' (first | (refine gLex_val0 rfl (by kernel_rfl) (fun K hK => ?_); (go_simp; (try (simp only [↓IntWalk.iteOmega]; try go_simp)); (try simp (disch := omega) only [IntWalk.i64_in]); (try simp (disch := omega) only [IntWalk.u64_in]); first | (refine hK _ ?_; clear hK K) | (apply Exists.intro; refine ⟨fun x => ?_, hK _ ?_⟩; (first | (go_at_call 88; exact C1.out _) | (go_at_call 35; exact C2.out _ (by repeat (first | exact Grows.refl _ | refine Grows.now ?_ _ | refine Grows.new ?_ _ | refine Grows.drewN ?_ _ | refine Grows.drew ?_ | assumption | (refine Grows.set ?_ (by first | omega | (simp; done) | (simp; omega)) _))))); clear hK K))) | (refine gLex_undef rfl rfl rfl (by kernel_rfl) (fun K hK => ?_); go_simp; refine hK _ ?_; clear hK K) | (refine gLex_ask rfl rfl rfl ?_; first | (apply gAsk_yes; kernel_rfl; intro K hK; (go_simp; (try (simp only [↓IntWalk.iteOmega]; try go_simp)); (try simp (disch := omega) only [IntWalk.i64_in]); (try simp (disch := omega) only [IntWalk.u64_in]); first | (refine hK _ ?_; clear hK K) | (apply Exists.intro; refine ⟨fun x => ?_, hK _ ?_⟩; (first | (go_at_call 88; exact C1.out _) | (go_at_call 35; exact C2.out _ (by repeat (first | exact Grows.refl _ | refine Grows.now ?_ _ | refine Grows.new ?_ _ | refine Grows.drewN ?_ _ | refine Grows.drew ?_ | assumption | (refine Grows.set ?_ (by first | omega | (simp; done) | (simp; omega)) _))))); clear hK K))) | ((first | apply gAsk_no1 | apply gAsk_no2); kernel_rfl; intro K hK; simp [go_sem]; refine hK _ ?_; clear hK K) | (apply gAsk_part; kernel_rfl; all_goals (intro h K hK; (try simp only [Bool.not_true] at h); (try simp only [Bool.not_false] at h); (try simp only [decide_eq_true_eq] at h); (try simp only [decide_eq_false_iff_not] at h); first | (exfalso; first | contradiction | omega) | (go_simp; (try (simp only [↓IntWalk.iteOmega]; try go_simp)); (try simp (disch := omega) only [IntWalk.i64_in]); (try simp (disch := omega) only [IntWalk.u64_in]); first | (refine hK _ ?_; clear hK K) | (apply Exists.intro; refine ⟨fun x => ?_, hK _ ?_⟩; (first | (go_at_call 88; exact C1.out _) | (go_at_call 35; exact C2.out _ (by repeat (first | exact Grows.refl _ | refine Grows.now ?_ _ | refine Grows.new ?_ _ | refine Grows.drewN ?_ _ | refine Grows.drew ?_ | assumption | (refine Grows.set ?_ (by first | omega | (simp; done) | (simp; omega)) _))))); clear hK K))))))); all_goals ((apply gLex_end); intro x))
  go_wp2_with fail
  refine bodyPost_ret (v := .tuple #[.slice none 0 0, .int .i64 r]) (by simp (maxDischargeDepth := 6) [results, Try.results43, go_sem, *]) rfl ?_
  exact ⟨rfl, (by repeat (first | exact Grows.refl _ | refine Grows.now ?_ _ | refine Grows.new ?_ _ | refine Grows.drewN ?_ _ | refine Grows.drew ?_ | assumption | (refine Grows.set ?_ (by first | omega | (simp; done) | (simp; omega)) _)))⟩
set_option maxRecDepth 40000 in
set_option maxHeartbeats 8000000 in
theorem canonAllW (N : Int) (A : Option Addr) (n c : Nat) (E : List Edg) (s : Int) (back : Bool) (A1 : Option Addr) (n1 c1 : Nat) (z1 : List Int) (A2 : Option Addr) (n2 c2 : Nat) (z2 : List Int) (A3 : Option Addr) (n3 c3 : Nat) (z3 : List Int) (most : Int) (w : World)
    (_ : I64 N) (_ : n ≤ c) (h : Rd w A 3 n (esCells E)) (_ : ∀ k, k < n → edgOk (ge E k)) (_ : I64 s) (hz1 : Rd w A1 1 n1 (z1.map (.int .i64)) ∧ ∀ z ∈ z1, (Lit.int .i64 z).wf = true) (hz2 : Rd w A2 1 n2 (z2.map (.int .i64)) ∧ ∀ z ∈ z2, (Lit.int .i64 z).wf = true) (hz3 : Rd w A3 1 n3 (z3.map (.int .u64)) ∧ ∀ z ∈ z3, (Lit.int .u64 z).wf = true) (hmo : U64 most) :
    Calls Try.prog 9 #[.agg #[.int .i64 N, .slice A n c], .int .i64 s, .agg #[.bool back, .slice A1 n1 c1, .slice A2 n2 c2, .slice A3 n3 c3, .int .u64 most]] w fun e w' => e = .returned (.bool true) ∧ Grows w w' := by
  obtain ⟨hz1, _⟩ := hz1
  obtain ⟨hz2, _⟩ := hz2
  obtain ⟨hz3, hwf⟩ := hz3
  rw [wv_of hwf] at hz3
  generalize z3.map Int.toNat = W at hz3
  unfold U64 at hmo
  obtain ⟨mo, rfl⟩ : ∃ mo : Nat, most = (mo : Int) := ⟨most.toNat, by omega⟩
  have e1 : z1.length = n1 := by simpa using hz1.len
  have e2 : z2.length = n2 := by simpa using hz2.len
  have e3 : W.length = n3 := hz3.wlen
  have e4 : E.length = n := h.elen
  subst e1 e2 e3 e4
  have CL := fun (W1 : World) => lLight14 N A E.length c back A1 A2 A3 z1.length c1 z2.length c2 W.length c3 mo W1
  unfold oVal at CL
  cases hq : light14 N E.length z1.length z2.length W.length with
  | false =>
    rw [hq] at CL
    have H1 := hide CL
    clear CL hq h hz1 hz2 hz3
    go_enter Try.func9, Try.ntmps9
    go_wp2_with (first | (go_at_call 24; refine (H1.out _).mono ?_; rintro e w' ⟨rfl, hg⟩; (first | obtain ⟨x, rfl⟩ := Grows.later2 hg | obtain ⟨x, rfl⟩ := Grows.later hg); clear hg) | (go_at_call 38; refine (alive15 _).mono ?_; rintro e w' ⟨rfl, hg⟩; (first | obtain ⟨x, rfl⟩ := Grows.later2 hg | obtain ⟨x, rfl⟩ := Grows.later hg); clear hg))
    go_ret
    exact ⟨rfl, (by repeat (first | exact Grows.refl _ | refine Grows.now ?_ _ | refine Grows.new ?_ _ | refine Grows.drewN ?_ _ | refine Grows.drew ?_ | assumption | (refine Grows.set ?_ (by first | omega | (simp; done) | (simp; omega)) _)))⟩
  | true =>
  rw [hq] at CL
  have H1 := hide CL
  have hsz : E.length ≤ 1000000 ∧ z1.length ≤ 1000000 ∧ z2.length ≤ 1000000 ∧ W.length ≤ 1000000 := by
    unfold light14 lightG at hq
    simp at hq
    omega
  obtain ⟨hn, hn1, hn2, hn3⟩ := hsz
  clear CL hq
  by_cases hbig : 20 < N ∧ N ≤ 4096
  · have hb1 : decide ((20 : Int) < N) = true := decide_eq_true hbig.1
    have hb2 : decide (N ≤ 4096) = true := decide_eq_true hbig.2
    clear h hz1 hz2 hz3 hbig
    go_enter Try.func9, Try.ntmps9
    go_wp2_with (first | (go_at_call 24; refine (H1.out _).mono ?_; rintro e w' ⟨rfl, hg⟩; (first | obtain ⟨x, rfl⟩ := Grows.later2 hg | obtain ⟨x, rfl⟩ := Grows.later hg); clear hg) | (go_at_call 38; refine (alive15 _).mono ?_; rintro e w' ⟨rfl, hg⟩; (first | obtain ⟨x, rfl⟩ := Grows.later2 hg | obtain ⟨x, rfl⟩ := Grows.later hg); clear hg))
    go_ret
    exact ⟨rfl, (by repeat (first | exact Grows.refl _ | refine Grows.now ?_ _ | refine Grows.new ?_ _ | refine Grows.drewN ?_ _ | refine Grows.drew ?_ | assumption | (refine Grows.set ?_ (by first | omega | (simp; done) | (simp; omega)) _)))⟩
  have KO := hide (fun (W1 : World) => law14Of back (.slice A1 z1.length c1) (.slice A2 z2.length c2) ⟨_, _, _, rfl⟩ ⟨_, _, _, rfl⟩ A3 W.length c3 mo W1)
  have KP := hide (fun (W1 : World) => show Calls Try.prog 44 #[.agg #[.bool back, .slice A1 z1.length c1, .slice A2 z2.length c2, .slice A3 W.length c3, .int .u64 (mo : Int)]] W1 fun e w' => e = .returned (.agg #[.bool false, .slice A1 z1.length c1, .slice A2 z2.length c2, .slice A3 W.length c3, .int .u64 0]) ∧ Grows W1 w' from r15Plain back A1 z1.length c1 A2 z2.length c2 A3 W.length c3 mo W1)
  have KQ := hide (fun (W1 : World) (g : Grows w W1) => show Calls Try.prog 27 #[.agg #[.int .i64 N, .slice A E.length c], .int .i64 s, .agg #[.bool false, .slice A1 z1.length c1, .slice A2 z2.length c2, .slice A3 W.length c3, .int .u64 0]] W1 fun e w' => e = .returned (.int .i64 (dcF N s E W)) ∧ Grows W1 w' from r14Check N s A E.length c E false (.slice A1 z1.length c1) (.slice A2 z2.length c2) A3 W.length c3 0 W W1 (h.grows g) (hz3.grows g) hn hn3)
  unfold oVal at KO
  have a1 : Arr ((w.alloc (.cells #[.int .i64 N, .slice A E.length c] 24)).alloc (.cells #[.bool back, .slice A1 z1.length c1, .slice A2 z2.length c2, .slice A3 W.length c3, .int .u64 (mo : Int)] 39)) w.heap.size 24 [.int .i64 N, .slice A E.length c] := (Arr.make w _ _).grow ((Grows.refl _).new _)
  have a2 : Arr ((w.alloc (.cells #[.int .i64 N, .slice A E.length c] 24)).alloc (.cells #[.bool back, .slice A1 z1.length c1, .slice A2 z2.length c2, .slice A3 W.length c3, .int .u64 (mo : Int)] 39)) (w.heap.size + 1) 39 [.bool back, .slice A1 z1.length c1, .slice A2 z2.length c2, .slice A3 W.length c3, .int .u64 (mo : Int)] := by
    have := Arr.make (w.alloc (.cells #[.int .i64 N, .slice A E.length c] 24)) [.bool back, .slice A1 z1.length c1, .slice A2 z2.length c2, .slice A3 W.length c3, .int .u64 (mo : Int)] 39
    rw [show (w.alloc (.cells #[.int .i64 N, .slice A E.length c] 24)).heap.size = w.heap.size + 1 by simp] at this
    exact this
  by_cases hd : dcF N s E W = 0
  · obtain ⟨rr, hs0, hsN, _, _⟩ := dc_ok hd
    obtain ⟨q1, q2, _, _, _⟩ := right_in rr
    obtain ⟨NN, rfl⟩ : ∃ NN : Nat, N = (NN : Int) := ⟨N.toNat, by omega⟩
    have hNb : NN ≤ 20 := by omega
    obtain ⟨F, hF⟩ := pth_all E ⟨back, z1, z2, W, mo⟩ NN s hn1 hn2
    have KT := hide (fun (W1 : World) (g : Grows w W1) => show Calls Try.prog 43 #[.agg #[.int .i64 (NN : Int), .slice A E.length c], .int .i64 s, .agg #[.bool back, .slice A1 z1.length c1, .slice A2 z2.length c2, .slice A3 W.length c3, .int .u64 (mo : Int)]] W1 fun e w' =>
        ∃ A' c' rs, e = .returned (.tuple #[.slice A' rs.length c', .int .i64 0]) ∧ RtsAt w' W1.heap.size A' c' rs (pthK F NN) ∧ Grows W1 w' from
      caTo NN s A c E ⟨back, z1, z2, W, mo⟩ A1 A2 A3 c1 c2 c3 F W1 (h.grows g) (hz1.grows g) (hz2.grows g) (hz3.grows g) hn hn3 (by omega) hd hF)
    have KR := hide (fun (W1 : World) (g : Grows w W1) => show Calls Try.prog 46 #[.agg #[.int .i64 (NN : Int), .slice A E.length c], .int .i64 s, .agg #[.bool back, .slice A1 z1.length c1, .slice A2 z2.length c2, .slice A3 W.length c3, .int .u64 (mo : Int)]] W1 fun e w' =>
        ∃ A' c' rs, e = .returned (.slice A' rs.length c') ∧ RtsAt w' W1.heap.size A' c' rs (pthK F NN) ∧ Grows W1 w' from
      r15To NN s A c E ⟨back, z1, z2, W, mo⟩ A1 A2 A3 c1 c2 c3 F W1 (h.grows g) (hz1.grows g) (hz2.grows g) (hz3.grows g) hn hn3 (by omega) hF)
    have HPL := hide (show (pthK F NN).length ≤ 1000000 ∧ ∀ p, p ∈ pthK F NN → p.1.length ≤ 1000000 from ⟨by simp [pthK]; omega, fun p hp => by
      unfold pthK at hp
      obtain ⟨t, _, rfl⟩ := List.mem_map.1 hp
      obtain ⟨r, hr⟩ := hF t
      have := hr.short.1
      omega⟩)
    have hb1 : decide ((20 : Int) < (NN : Int)) = false := decide_eq_false (by omega)
    rw [hd] at KQ
    clear h hz1 hz2 hz3 hn hn1 hn2 hn3 hd rr hs0 hsN q1 q2 hF hbig hNb
    generalize pthK F NN = PS at *
    go_enter Try.func9, Try.ntmps9
    go_wp2_with (go_at_call 24; refine (H1.out _).mono ?_; rintro e w' ⟨rfl, hg⟩; obtain ⟨x1, rfl⟩ := hg.later; clear hg)
    refine (KT.out _ (by repeat (first | exact Grows.refl _ | refine Grows.now ?_ _ | refine Grows.new ?_ _ | refine Grows.drewN ?_ _ | refine Grows.drew ?_ | assumption | (refine Grows.set ?_ (by first | omega | (simp; done) | (simp; omega)) _)))).mono ?_; rintro e w' ⟨A7, c7, rs7, rfl, hr7, hg⟩; obtain ⟨x3, rfl⟩ := Grows.later2 hg; have HR7 := hide hr7; clear hg hr7
    go_wp2_with fail
    ((first | refine wp_region_gen (by kernel_rfl) (by kernel_rfl) ?_); (repeat' (first | (refine gLex_val0 rfl (by kernel_rfl) (fun K hK => ?_); (go_simp; (try (simp only [↓IntWalk.iteOmega]; try go_simp)); (try simp (disch := omega) only [IntWalk.i64_in]); (try simp (disch := omega) only [IntWalk.u64_in]); first | (refine hK _ ?_; clear hK K) | (apply Exists.intro; refine ⟨fun x => ?_, hK _ ?_⟩; (first | (go_at_call 28; exact KO.out _) | (go_at_call 44; exact KP.out _) | (go_at_call 27; exact KQ.out _ (by repeat (first | exact Grows.refl _ | refine Grows.now ?_ _ | refine Grows.new ?_ _ | refine Grows.drewN ?_ _ | refine Grows.drew ?_ | assumption | (refine Grows.set ?_ (by first | omega | (simp; done) | (simp; omega)) _))))); clear hK K))) | (refine gLex_undef rfl rfl rfl (by kernel_rfl) (fun K hK => ?_); go_simp; refine hK _ ?_; clear hK K) | (refine gLex_ask rfl rfl rfl ?_; first | (apply gAsk_yes; kernel_rfl; intro K hK; (go_simp; (try (simp only [↓IntWalk.iteOmega]; try go_simp)); (try simp (disch := omega) only [IntWalk.i64_in]); (try simp (disch := omega) only [IntWalk.u64_in]); first | (refine hK _ ?_; clear hK K) | (apply Exists.intro; refine ⟨fun x => ?_, hK _ ?_⟩; (first | (go_at_call 28; exact KO.out _) | (go_at_call 44; exact KP.out _) | (go_at_call 27; exact KQ.out _ (by repeat (first | exact Grows.refl _ | refine Grows.now ?_ _ | refine Grows.new ?_ _ | refine Grows.drewN ?_ _ | refine Grows.drew ?_ | assumption | (refine Grows.set ?_ (by first | omega | (simp; done) | (simp; omega)) _))))); clear hK K))) | ((first | apply gAsk_no1 | apply gAsk_no2); kernel_rfl; intro K hK; simp [go_sem]; refine hK _ ?_; clear hK K) | (apply gAsk_part; kernel_rfl; all_goals (intro h K hK; (try simp only [Bool.not_true] at h); (try simp only [Bool.not_false] at h); (try simp only [decide_eq_true_eq] at h); (try simp only [decide_eq_false_iff_not] at h); first | (exfalso; first | contradiction | omega) | (go_simp; (try (simp only [↓IntWalk.iteOmega]; try go_simp)); (try simp (disch := omega) only [IntWalk.i64_in]); (try simp (disch := omega) only [IntWalk.u64_in]); first | (refine hK _ ?_; clear hK K) | (apply Exists.intro; refine ⟨fun x => ?_, hK _ ?_⟩; (first | (go_at_call 28; exact KO.out _) | (go_at_call 44; exact KP.out _) | (go_at_call 27; exact KQ.out _ (by repeat (first | exact Grows.refl _ | refine Grows.now ?_ _ | refine Grows.new ?_ _ | refine Grows.drewN ?_ _ | refine Grows.drew ?_ | assumption | (refine Grows.set ?_ (by first | omega | (simp; done) | (simp; omega)) _))))); clear hK K))))))); all_goals ((apply gLex_end); intro x4))
    go_upto_region 7 with fail
    (refine wp_region_tail1 9 (by kernel_rfl) (by kernel_rfl) ?_; simp only [List.take_succ_cons, List.take_zero, List.drop_succ_cons, List.drop_zero]; (repeat' (first | (refine gLex_val0 rfl (by kernel_rfl) (fun K hK => ?_); (go_simp; (try (simp only [↓IntWalk.iteOmega]; try go_simp)); (try simp (disch := omega) only [IntWalk.i64_in]); (try simp (disch := omega) only [IntWalk.u64_in]); first | (refine hK _ ?_; clear hK K) | (apply Exists.intro; refine ⟨fun x => ?_, hK _ ?_⟩; (first | (go_at_call 28; exact KO.out _)); clear hK K))) | (refine gLex_undef rfl rfl rfl (by kernel_rfl) (fun K hK => ?_); go_simp; refine hK _ ?_; clear hK K) | (refine gLex_ask rfl rfl rfl ?_; first | (apply gAsk_yes; kernel_rfl; intro K hK; (go_simp; (try (simp only [↓IntWalk.iteOmega]; try go_simp)); (try simp (disch := omega) only [IntWalk.i64_in]); (try simp (disch := omega) only [IntWalk.u64_in]); first | (refine hK _ ?_; clear hK K) | (apply Exists.intro; refine ⟨fun x => ?_, hK _ ?_⟩; (first | (go_at_call 28; exact KO.out _)); clear hK K))) | ((first | apply gAsk_no1 | apply gAsk_no2); kernel_rfl; intro K hK; simp [go_sem]; refine hK _ ?_; clear hK K)))))
    refine gLex_propW (by kernel_rfl) (by kernel_rfl) rfl (by simp) (fun u w' => ∃ (A' : Option Addr) (c' : Nat) (rs : List Rt), u = .slice A' rs.length c' ∧ RtsAt w' 0 A' c' rs PS) (fun _ _ _ hg ⟨A', c', rs, e, h⟩ => ⟨A', c', rs, e, h.grows hg⟩) (fun y => by
      go_simp
      refine (KR.out _ (by repeat (first | exact Grows.refl _ | refine Grows.now ?_ _ | refine Grows.new ?_ _ | refine Grows.drewN ?_ _ | refine Grows.drew ?_ | assumption | (refine Grows.set ?_ (by first | omega | (simp; done) | (simp; omega)) _)))).mono ?_
      rintro e w' ⟨A8, c8, rs8, rfl, hr, hg⟩
      exact ⟨_, rfl, hg, A8, c8, rs8, rfl, ⟨hr.own.base (Nat.zero_le _), hr.rows, hr.eqs⟩⟩) ?_
    refine gLex_endW (fun y6 => ?_)
    refine AtW.pop rfl (by simp) (fun v2 hv2 => ?_)
    refine AtW.base ?_
    obtain ⟨A8, c8, rs8, rfl, hr8⟩ := hv2
    have K6 := hide (fun (W1 : World) (g3 : Grows x3.now W1) (g6 : Grows y6.now W1) => r8RoutesEq _ _ A7 A8 c7 c8 rs7 rs8 PS W1 (HR7.out.grows g3) (hr8.grows g6) HPL.out.1 HPL.out.2)
    clear hr8
    simp only [Act.put, List.setIfInBounds_toArray, List.set_cons_zero, List.set_cons_succ]
    go_wp2_with fail
    refine (K6.out _ (by repeat (first | exact Grows.refl _ | refine Grows.now ?_ _ | refine Grows.new ?_ _ | refine Grows.drewN ?_ _ | refine Grows.drew ?_ | assumption | (refine Grows.set ?_ (by first | omega | (simp; done) | (simp; omega)) _))) (by repeat (first | exact Grows.refl _ | refine Grows.now ?_ _ | refine Grows.new ?_ _ | refine Grows.drewN ?_ _ | refine Grows.drew ?_ | assumption | (refine Grows.set ?_ (by first | omega | (simp; done) | (simp; omega)) _)))).mono ?_; rintro e w' ⟨rfl, hg⟩; obtain ⟨x10, hx10⟩ : ∃ x10 : Later y6.now, w' = x10.now := hg.later; subst hx10; clear hg
    go_wp2_with fail
    refine (alive15 _).mono ?_; rintro e w' ⟨rfl, hg⟩; obtain ⟨x7, rfl⟩ := Grows.later2 hg; clear hg
    go_wp2_with fail
    go_ret
    exact ⟨rfl, (by repeat (first | exact Grows.refl _ | refine Grows.now ?_ _ | refine Grows.new ?_ _ | refine Grows.drewN ?_ _ | refine Grows.drew ?_ | assumption | (refine Grows.set ?_ (by first | omega | (simp; done) | (simp; omega)) _)))⟩
  · have KT := hide (fun (W1 : World) (g : Grows w W1) => show Calls Try.prog 43 #[.agg #[.int .i64 N, .slice A E.length c], .int .i64 s, .agg #[.bool back, .slice A1 z1.length c1, .slice A2 z2.length c2, .slice A3 W.length c3, .int .u64 (mo : Int)]] W1 fun e w' =>
        e = .returned (.tuple #[.slice none 0 0, .int .i64 (dcF N s E W)]) ∧ Grows W1 w' from
      caToNo N s A c E ⟨back, z1, z2, W, mo⟩ A1 A2 A3 c1 c2 c3 W1 (h.grows g) (hz3.grows g) hn hn3 hd)
    have hr2 : (dcF N s E W == 0) = false := beq_eq_false_iff_ne.2 hd
    clear h hz1 hz2 hz3 hn hn1 hn2 hn3 hd
    generalize dcF N s E W = r at *
    by_cases h20 : 20 < N
    · have hb1 : decide ((20 : Int) < N) = true := decide_eq_true h20
      have hb2 : decide (N ≤ 4096) = false := decide_eq_false (fun h => hbig ⟨h20, h⟩)
      clear hbig h20
      go_enter Try.func9, Try.ntmps9
      go_wp2_with (go_at_call 24; refine (H1.out _).mono ?_; rintro e w' ⟨rfl, hg⟩; obtain ⟨x1, rfl⟩ := hg.later; clear hg)
      refine (KT.out _ (by repeat (first | exact Grows.refl _ | refine Grows.now ?_ _ | refine Grows.new ?_ _ | refine Grows.drewN ?_ _ | refine Grows.drew ?_ | assumption | (refine Grows.set ?_ (by first | omega | (simp; done) | (simp; omega)) _)))).mono ?_; rintro e w' ⟨rfl, hg⟩; obtain ⟨x3, rfl⟩ := Grows.later2 hg; clear hg
      go_wp2_with fail
      ((first | refine wp_region_gen2 (by kernel_rfl) (by kernel_rfl) ?_ | refine wp_region_gen (by kernel_rfl) (by kernel_rfl) ?_); (repeat' (first | (refine gLex_val0 rfl (by kernel_rfl) (fun K hK => ?_); (go_simp; (try (simp only [↓IntWalk.iteOmega]; try go_simp)); (try simp (disch := omega) only [IntWalk.i64_in]); (try simp (disch := omega) only [IntWalk.u64_in]); first | (refine hK _ ?_; clear hK K) | (apply Exists.intro; refine ⟨fun x => ?_, hK _ ?_⟩; (first | (go_at_call 28; exact KO.out _) | (go_at_call 44; exact KP.out _) | (go_at_call 27; exact KQ.out _ (by repeat (first | exact Grows.refl _ | refine Grows.now ?_ _ | refine Grows.new ?_ _ | refine Grows.drewN ?_ _ | refine Grows.drew ?_ | assumption | (refine Grows.set ?_ (by first | omega | (simp; done) | (simp; omega)) _))))); clear hK K))) | (refine gLex_undef rfl rfl rfl (by kernel_rfl) (fun K hK => ?_); go_simp; refine hK _ ?_; clear hK K) | (refine gLex_ask rfl rfl rfl ?_; first | (apply gAsk_yes; kernel_rfl; intro K hK; (go_simp; (try (simp only [↓IntWalk.iteOmega]; try go_simp)); (try simp (disch := omega) only [IntWalk.i64_in]); (try simp (disch := omega) only [IntWalk.u64_in]); first | (refine hK _ ?_; clear hK K) | (apply Exists.intro; refine ⟨fun x => ?_, hK _ ?_⟩; (first | (go_at_call 28; exact KO.out _) | (go_at_call 44; exact KP.out _) | (go_at_call 27; exact KQ.out _ (by repeat (first | exact Grows.refl _ | refine Grows.now ?_ _ | refine Grows.new ?_ _ | refine Grows.drewN ?_ _ | refine Grows.drew ?_ | assumption | (refine Grows.set ?_ (by first | omega | (simp; done) | (simp; omega)) _))))); clear hK K))) | ((first | apply gAsk_no1 | apply gAsk_no2); kernel_rfl; intro K hK; simp [go_sem]; refine hK _ ?_; clear hK K) | (apply gAsk_part; kernel_rfl; all_goals (intro h K hK; (try simp only [Bool.not_true] at h); (try simp only [Bool.not_false] at h); (try simp only [decide_eq_true_eq] at h); (try simp only [decide_eq_false_iff_not] at h); first | (exfalso; first | contradiction | omega) | (go_simp; (try (simp only [↓IntWalk.iteOmega]; try go_simp)); (try simp (disch := omega) only [IntWalk.i64_in]); (try simp (disch := omega) only [IntWalk.u64_in]); first | (refine hK _ ?_; clear hK K) | (apply Exists.intro; refine ⟨fun x => ?_, hK _ ?_⟩; (first | (go_at_call 28; exact KO.out _) | (go_at_call 44; exact KP.out _) | (go_at_call 27; exact KQ.out _ (by repeat (first | exact Grows.refl _ | refine Grows.now ?_ _ | refine Grows.new ?_ _ | refine Grows.drewN ?_ _ | refine Grows.drew ?_ | assumption | (refine Grows.set ?_ (by first | omega | (simp; done) | (simp; omega)) _))))); clear hK K))))))); all_goals ((apply gLex_end); intro x4))
      go_wp2_with fail
      refine (alive15 _).mono ?_; rintro e w' ⟨rfl, hg⟩; obtain ⟨x7, rfl⟩ := Grows.later2 hg; clear hg
      go_wp2_with fail
      go_ret
      exact ⟨rfl, (by repeat (first | exact Grows.refl _ | refine Grows.now ?_ _ | refine Grows.new ?_ _ | refine Grows.drewN ?_ _ | refine Grows.drew ?_ | assumption | (refine Grows.set ?_ (by first | omega | (simp; done) | (simp; omega)) _)))⟩
    · have hb1 : decide ((20 : Int) < N) = false := decide_eq_false h20
      clear hbig h20
      go_enter Try.func9, Try.ntmps9
      go_wp2_with (go_at_call 24; refine (H1.out _).mono ?_; rintro e w' ⟨rfl, hg⟩; obtain ⟨x1, rfl⟩ := hg.later; clear hg)
      refine (KT.out _ (by repeat (first | exact Grows.refl _ | refine Grows.now ?_ _ | refine Grows.new ?_ _ | refine Grows.drewN ?_ _ | refine Grows.drew ?_ | assumption | (refine Grows.set ?_ (by first | omega | (simp; done) | (simp; omega)) _)))).mono ?_; rintro e w' ⟨rfl, hg⟩; obtain ⟨x3, rfl⟩ := Grows.later2 hg; clear hg
      go_wp2_with fail
      ((first | refine wp_region_gen2 (by kernel_rfl) (by kernel_rfl) ?_ | refine wp_region_gen (by kernel_rfl) (by kernel_rfl) ?_); (repeat' (first | (refine gLex_val0 rfl (by kernel_rfl) (fun K hK => ?_); (go_simp; (try (simp only [↓IntWalk.iteOmega]; try go_simp)); (try simp (disch := omega) only [IntWalk.i64_in]); (try simp (disch := omega) only [IntWalk.u64_in]); first | (refine hK _ ?_; clear hK K) | (apply Exists.intro; refine ⟨fun x => ?_, hK _ ?_⟩; (first | (go_at_call 28; exact KO.out _) | (go_at_call 44; exact KP.out _) | (go_at_call 27; exact KQ.out _ (by repeat (first | exact Grows.refl _ | refine Grows.now ?_ _ | refine Grows.new ?_ _ | refine Grows.drewN ?_ _ | refine Grows.drew ?_ | assumption | (refine Grows.set ?_ (by first | omega | (simp; done) | (simp; omega)) _))))); clear hK K))) | (refine gLex_undef rfl rfl rfl (by kernel_rfl) (fun K hK => ?_); go_simp; refine hK _ ?_; clear hK K) | (refine gLex_ask rfl rfl rfl ?_; first | (apply gAsk_yes; kernel_rfl; intro K hK; (go_simp; (try (simp only [↓IntWalk.iteOmega]; try go_simp)); (try simp (disch := omega) only [IntWalk.i64_in]); (try simp (disch := omega) only [IntWalk.u64_in]); first | (refine hK _ ?_; clear hK K) | (apply Exists.intro; refine ⟨fun x => ?_, hK _ ?_⟩; (first | (go_at_call 28; exact KO.out _) | (go_at_call 44; exact KP.out _) | (go_at_call 27; exact KQ.out _ (by repeat (first | exact Grows.refl _ | refine Grows.now ?_ _ | refine Grows.new ?_ _ | refine Grows.drewN ?_ _ | refine Grows.drew ?_ | assumption | (refine Grows.set ?_ (by first | omega | (simp; done) | (simp; omega)) _))))); clear hK K))) | ((first | apply gAsk_no1 | apply gAsk_no2); kernel_rfl; intro K hK; simp [go_sem]; refine hK _ ?_; clear hK K) | (apply gAsk_part; kernel_rfl; all_goals (intro h K hK; (try simp only [Bool.not_true] at h); (try simp only [Bool.not_false] at h); (try simp only [decide_eq_true_eq] at h); (try simp only [decide_eq_false_iff_not] at h); first | (exfalso; first | contradiction | omega) | (go_simp; (try (simp only [↓IntWalk.iteOmega]; try go_simp)); (try simp (disch := omega) only [IntWalk.i64_in]); (try simp (disch := omega) only [IntWalk.u64_in]); first | (refine hK _ ?_; clear hK K) | (apply Exists.intro; refine ⟨fun x => ?_, hK _ ?_⟩; (first | (go_at_call 28; exact KO.out _) | (go_at_call 44; exact KP.out _) | (go_at_call 27; exact KQ.out _ (by repeat (first | exact Grows.refl _ | refine Grows.now ?_ _ | refine Grows.new ?_ _ | refine Grows.drewN ?_ _ | refine Grows.drew ?_ | assumption | (refine Grows.set ?_ (by first | omega | (simp; done) | (simp; omega)) _))))); clear hK K))))))); all_goals ((apply gLex_end); intro x4))
      go_wp2_with fail
      refine (alive15 _).mono ?_; rintro e w' ⟨rfl, hg⟩; obtain ⟨x7, rfl⟩ := Grows.later2 hg; clear hg
      go_wp2_with fail
      go_ret
      exact ⟨rfl, (by repeat (first | exact Grows.refl _ | refine Grows.now ?_ _ | refine Grows.new ?_ _ | refine Grows.drewN ?_ _ | refine Grows.drew ?_ | assumption | (refine Grows.set ?_ (by first | omega | (simp; done) | (simp; omega)) _)))⟩
end Go.Proofs.Ytpnncadglhlclaa

/- The law CanonAll: for every input it returns true, and each argument reads as before. No condition. -/
namespace Go.Proofs.Ytpnncadglhlclaa.lawCanonAll
open Go Go.ChangeShapes Go.WideShapes Go.ChangeAt Go.RowKit Go.Proofs.Ytpnncadglhlclaa

theorem own : ownKnob Try.prog.godebug = none := by kernel_rfl
theorem laidOut : laidOutB Try.prog = true := by kernel_rfl

set_option maxRecDepth 100000 in
theorem lifted (os : Os) (started : os.Started) (H : Type) (enc : TypeId × Value → H) :
    ReturnsInHanded {} Try.checked os 9 .any (Rows.canonAllSpec.pre6 enc Try.prog Try.f9 Rows.canonAllRow.domain false) (Rows.canonAllSpec.post enc Try.prog Try.f9 false true false false) := by
  refine returnsInHanded_of_change (C := Try.checked) own started (by kernel_rfl) Try.func9
    (ChangeSpec.witness6 (enc := enc) (C := Try.checked) false ⟨#[], #[.agg #[.int .i64 0, .slice none 0 0], .int .i64 0, .agg #[.bool false, .slice none 0 0, .slice none 0 0, .slice none 0 0, .int .u64 0]], []⟩ 8 (by kernel_rfl) (by kernel_rfl) (by kernel_rfl) (by kernel_rfl)) ?_
  intro W base args ds gs before hval0 hW hcnd _
  have hval : ∀ (j : Nat) t v, Try.f9.params[j]? = some t → args[j]? = some v → Value.okWide Try.prog W .any base t v := hval0
  have hW' := hW
  obtain ⟨p, q, hA0, hV, rfl, hfz, hnd⟩ := hW
  have hA : DataW.TrodAll enc Try.prog W 0 (fun _ => true) true Try.f9.params.toList args.toList ds p := hA0
  rw [Try.params9] at hA hval
  obtain ⟨v0, vs0, d0, ds0, p0, q0, hargs, rfl, rfl, h0, r0⟩ := trodAll_cons hA
  obtain ⟨v1, vs1, d1, ds1, p1, q1, rfl, rfl, rfl, h1, r1⟩ := trodAll_cons r0
  obtain ⟨v2, vs2, d2, ds2, p2, q2, rfl, rfl, rfl, h2, r2⟩ := trodAll_cons r1
  obtain ⟨rfl, rfl, rfl⟩ := trodAll_nil r2
  obtain rfl : args = #[v0, v1, v2] := by cases args; simp_all
  obtain ⟨rfl, rfl⟩ := trodVars_none hV
  have k0 := h0
  have lt0 : ∀ x ∈ p0, x.block < W.heap.size := by obtain ⟨m, hm⟩ := k0; exact DataW.trod_lt m _ _ _ hm
  obtain ⟨a0, A0, n0, c0, z0, rfl, x0, l0, w0, u0⟩ := open_graph Try.underlying24 Try.underlying3 Try.underlying22 Try.underlying49 Try.underlying3 Try.underlying3 Try.underlying37 ⟨rfl, rfl, rfl⟩ ⟨by kernel_rfl, by kernel_rfl, by kernel_rfl⟩ (by kernel_rfl) (by kernel_rfl) (by kernel_rfl) (hval 0 24 v0 rfl rfl) h0
  have k1 := h1
  have lt1 : ∀ x ∈ p1, x.block < W.heap.size := by obtain ⟨m, hm⟩ := k1; exact DataW.trod_lt m _ _ _ hm
  obtain ⟨a1, rfl, w1⟩ := open_i64 Try.underlying3 (hval 1 3 v1 rfl rfl) h1
  have k2 := h2
  have lt2 : ∀ x ∈ p2, x.block < W.heap.size := by obtain ⟨m, hm⟩ := k2; exact DataW.trod_lt m _ _ _ hm
  obtain ⟨a2, A2a, n2a, c2a, z2a, A2b, n2b, c2b, z2b, A2c, n2c, c2c, z2c, m2, rfl, w2a, w2b, w2c, u2⟩ := open_opt Try.underlying39 Try.underlying4 Try.underlying31 Try.underlying31 Try.underlying36 Try.underlying37 Try.underlying3 Try.underlying37 (by kernel_rfl) (by kernel_rfl) (by kernel_rfl) (by kernel_rfl) (hval 2 39 v2 rfl rfl) h2
  clear hA0 hval0
  refine (canonAllW a0 A0 n0 c0 z0 a1 a2 A2a n2a c2a z2a A2b n2b c2b z2b A2c n2c c2c z2c m2 W x0 l0 w0 u0 w1 w2a w2b w2c u2).mono fun e W' ⟨he, bel⟩ => ?_
  subst he
  exact ⟨_, rfl, _, _, _, [], _, [], hW', trodAll_mk1 (shut_bool Try.underlying4 _), (trodAll_cons_mk (Below.trod laidOut (by kernel_rfl) (of_decide_eq_true (by kernel_rfl)) k0 bel lt0) (trodAll_cons_mk (Below.trod laidOut (by kernel_rfl) (of_decide_eq_true (by kernel_rfl)) k1 bel lt1) (trodAll_cons_mk (Below.trod laidOut (by kernel_rfl) (of_decide_eq_true (by kernel_rfl)) k2 bel lt2) trodAll_mk0))), rfl, Below.frame bel _, fun h => by cases h⟩

theorem over : Rows.canonAllRow.holds Try.pinned (OpenSpec.ofChange Rows.canonAllSpec) :=
  OpenClaim.holds_of_wide 9 Try.f9 rfl rfl rfl rfl rfl rfl rfl ⟨rfl, rfl, rfl, rfl, rfl⟩ rfl rfl rfl rfl rfl (by kernel_rfl) Try.func9 (by kernel_rfl)
    (of_decide_eq_true (by kernel_rfl)) (by unfold Func.isWrapper; first | (rw [if_pos (by decide +kernel)]; kernel_rfl) | (rw [if_neg (by decide +kernel)]; exact ⟨rfl, rfl⟩))
    (fun os started H enc _ => lifted os started H enc)

end Go.Proofs.Ytpnncadglhlclaa.lawCanonAll
namespace Go.Proofs.Ytpnncadglhlclaa
/-- The statement. -/
theorem canonAll_proved : Rows.CanonAllSaid := lawCanonAll.over
#print axioms canonAll_proved
end Go.Proofs.Ytpnncadglhlclaa
