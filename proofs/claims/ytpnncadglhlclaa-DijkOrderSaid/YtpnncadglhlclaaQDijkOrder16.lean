/- The law DijkOrder: for every input it returns true, and each argument reads as before. No condition. -/
import Derived.Test.YtpnncadglhlclaaQDijkOrder01
import Derived.Test.YtpnncadglhlclaaQDijkOrder07
import Derived.Test.YtpnncadglhlclaaQDijkOrder12
import Derived.Test.YtpnncadglhlclaaQDijkOrder15
/- Contract: are two rows of numbers the same? -/
namespace Go.Proofs.Ytpnncadglhlclaa
open Go Go.RowKit
set_option maxHeartbeats 1000000 in
theorem r1Same (A : Option Addr) (n c : Nat) (l : List Int) (B : Option Addr) (m d : Nat) (l' : List Int) (w : World) (h : Rd w A 1 n (l.map (.int .i64))) (hn : n ≤ 1000000) (h' : Rd w B 1 m (l'.map (.int .i64))) (hm : m ≤ 1000000) :
    Calls Try.prog 31 #[.slice A n c, .slice B m d] w fun e w' => e = .returned (.bool (decide (l = l'))) ∧ Grows w w' := by
  have HL := hide (show l.length = n by simpa using h.len)
  have HM := hide (show l'.length = m by simpa using h'.len)
  have HR := hide h
  have HS := hide h'
  clear h h'
  by_cases hnm : n = m
  · subst hnm
    go_enter Try.func31, Try.ntmps31
    go_wp2
    go_loopw [5] (fun i wr => ∃ k : Nat, k ≤ n ∧ i = .int .i64 (k : Int) ∧ (∃ y : Later w, wr = y.now) ∧ ∀ j, j < k → gi l j = gi l' j) (fun i _ => n - (intOf i).toNat)
    case atStart => exact ⟨0, by omega, by go_num, ⟨⟨w, Grows.refl w⟩, rfl⟩, fun j h => by omega⟩
    case round =>
      obtain ⟨k, hk, rfl, ⟨y, rfl⟩, hall⟩ := hrel
      have HA := hide hall
      clear hall
      by_cases hend : n ≤ k
      · have HV : Hid (l = l') := by
          apply List.ext_getElem (by rw [HL.out, HM.out])
          intro j h1 h2
          have := HA.out j (by have := HL.out; omega)
          simpa [gi, h1, h2] using this
        go_wp2
        go_ret
        exact ⟨ret_bool (decide_eq_true HV.out).symm, (by repeat (first | exact Grows.refl _ | refine Grows.now ?_ _ | refine Grows.new ?_ _ | refine Grows.drewN ?_ _ | refine Grows.drew ?_ | assumption | (refine Grows.set ?_ (by first | omega | (simp; done) | (simp; omega)) _)))⟩
      · obtain ⟨b, off, rfl, hc⟩ := HR.out.intsH (by omega)
        obtain ⟨b2, off2, rfl, hc2⟩ := HS.out.intsH (by omega)
        have c1 := hc k (by omega)
        have c2 := hc2 k (by omega)
        clear hc hc2
        by_cases he : gi l k = gi l' k
        · have HE : Hid (∀ j, j < k + 1 → gi l j = gi l' j) := fun j hj => by
            by_cases e : j = k
            · rw [e]; exact he
            · exact HA.out j (by omega)
          have hd : (gi l k == gi l' k) = true := by simpa using he
          clear he
          generalize gi l k = u at *
          generalize gi l' k = v at *
          go_wp2_with fail
          ((first | refine wp_region_gen (by kernel_rfl) (by kernel_rfl) ?_); (repeat' (first | (refine gLex_val0 rfl (by kernel_rfl) (fun K hK => ?_); (go_simp; (try (simp only [↓IntWalk.iteOmega]; try go_simp)); (try simp (disch := omega) only [IntWalk.i64_in]); (try simp (disch := omega) only [IntWalk.u64_in]); first | (refine hK _ ?_; clear hK K) | (apply Exists.intro; refine ⟨fun x => ?_, hK _ ?_⟩; (first | fail); clear hK K))) | (refine gLex_undef rfl rfl rfl (by kernel_rfl) (fun K hK => ?_); go_simp; refine hK _ ?_; clear hK K) | (refine gLex_ask rfl rfl rfl ?_; first | (apply gAsk_yes; kernel_rfl; intro K hK; (go_simp; (try (simp only [↓IntWalk.iteOmega]; try go_simp)); (try simp (disch := omega) only [IntWalk.i64_in]); (try simp (disch := omega) only [IntWalk.u64_in]); first | (refine hK _ ?_; clear hK K) | (apply Exists.intro; refine ⟨fun x => ?_, hK _ ?_⟩; (first | fail); clear hK K))) | ((first | apply gAsk_no1 | apply gAsk_no2); kernel_rfl; intro K hK; simp [go_sem]; refine hK _ ?_; clear hK K) | (apply gAsk_part; kernel_rfl; all_goals (intro h K hK; (try simp only [Bool.not_true] at h); (try simp only [Bool.not_false] at h); (try simp only [decide_eq_true_eq] at h); (try simp only [decide_eq_false_iff_not] at h); first | (exfalso; first | contradiction | omega) | (go_simp; (try (simp only [↓IntWalk.iteOmega]; try go_simp)); (try simp (disch := omega) only [IntWalk.i64_in]); (try simp (disch := omega) only [IntWalk.u64_in]); first | (refine hK _ ?_; clear hK K) | (apply Exists.intro; refine ⟨fun x => ?_, hK _ ?_⟩; (first | fail); clear hK K))))))); all_goals ((apply gLex_end); intro x))
          go_wp2
          refine ⟨⟨k + 1, by omega, by go_num, Grows.later (by repeat (first | exact Grows.refl _ | refine Grows.now ?_ _ | refine Grows.new ?_ _ | refine Grows.drewN ?_ _ | refine Grows.drew ?_ | assumption | (refine Grows.set ?_ (by first | omega | (simp; done) | (simp; omega)) _))), HE.out⟩, by simp [intOf]; omega⟩
        · have HV : Hid (¬ l = l') := fun e => he (by rw [e])
          have hd : (gi l k == gi l' k) = false := by simpa using he
          clear he
          go_wp2_with fail
          ((first | refine wp_region_gen (by kernel_rfl) (by kernel_rfl) ?_); (repeat' (first | (refine gLex_val0 rfl (by kernel_rfl) (fun K hK => ?_); (go_simp; (try (simp only [↓IntWalk.iteOmega]; try go_simp)); (try simp (disch := omega) only [IntWalk.i64_in]); (try simp (disch := omega) only [IntWalk.u64_in]); first | (refine hK _ ?_; clear hK K) | (apply Exists.intro; refine ⟨fun x => ?_, hK _ ?_⟩; (first | fail); clear hK K))) | (refine gLex_undef rfl rfl rfl (by kernel_rfl) (fun K hK => ?_); go_simp; refine hK _ ?_; clear hK K) | (refine gLex_ask rfl rfl rfl ?_; first | (apply gAsk_yes; kernel_rfl; intro K hK; (go_simp; (try (simp only [↓IntWalk.iteOmega]; try go_simp)); (try simp (disch := omega) only [IntWalk.i64_in]); (try simp (disch := omega) only [IntWalk.u64_in]); first | (refine hK _ ?_; clear hK K) | (apply Exists.intro; refine ⟨fun x => ?_, hK _ ?_⟩; (first | fail); clear hK K))) | ((first | apply gAsk_no1 | apply gAsk_no2); kernel_rfl; intro K hK; simp [go_sem]; refine hK _ ?_; clear hK K) | (apply gAsk_part; kernel_rfl; all_goals (intro h K hK; (try simp only [Bool.not_true] at h); (try simp only [Bool.not_false] at h); (try simp only [decide_eq_true_eq] at h); (try simp only [decide_eq_false_iff_not] at h); first | (exfalso; first | contradiction | omega) | (go_simp; (try (simp only [↓IntWalk.iteOmega]; try go_simp)); (try simp (disch := omega) only [IntWalk.i64_in]); (try simp (disch := omega) only [IntWalk.u64_in]); first | (refine hK _ ?_; clear hK K) | (apply Exists.intro; refine ⟨fun x => ?_, hK _ ?_⟩; (first | fail); clear hK K))))))); all_goals ((apply gLex_end); intro x))
          go_wp2
          go_ret
          exact ⟨ret_bool (decide_eq_false HV.out).symm, (by repeat (first | exact Grows.refl _ | refine Grows.now ?_ _ | refine Grows.new ?_ _ | refine Grows.drewN ?_ _ | refine Grows.drew ?_ | assumption | (refine Grows.set ?_ (by first | omega | (simp; done) | (simp; omega)) _)))⟩
  · have HV : Hid (¬ l = l') := fun e => hnm (by rw [← HL.out, ← HM.out, e])
    have hd : ((n : Int) == (m : Int)) = false := beq_eq_false_iff_ne.2 (by omega)
    go_enter Try.func31, Try.ntmps31
    go_wp2
    go_ret
    exact ⟨ret_bool (decide_eq_false HV.out).symm, (by repeat (first | exact Grows.refl _ | refine Grows.now ?_ _ | refine Grows.new ?_ _ | refine Grows.drewN ?_ _ | refine Grows.drew ?_ | assumption | (refine Grows.set ?_ (by first | omega | (simp; done) | (simp; omega)) _)))⟩
end Go.Proofs.Ytpnncadglhlclaa

/- Regions that draw their order: an operation whose value hangs on the world (guarded or not), and one that reads such a value. -/
namespace Go.Proofs.Ytpnncadglhlclaa
open Go Go.RowKit
section
variable {P : Program} {w0 : World} {ops : Array Oper} {Q : Act → Env → Prop} {a : Act} {G : Env} {o : Oper} {rest : List Oper}
theorem gLex_propW {t : Tmp} (hw : Region.wanted o (yielded ops a.tmps) = true) (hp : plainB ops o G = true) (hd : o.dst = some t) (hlt : t < a.tmps.size)
    (p : Pr) (hl : Lasts p) (hr : ∀ x : Later w0, runsTo P (fun u w' => Grows x.now w' ∧ p u w') ((execOp a.eval o).run P x.now))
    (h : gLex P ops w0 Q rest a (G.upd t p)) : gLex P ops w0 Q (o :: rest) a G := by
  obtain ⟨h1, h2, h3, h4⟩ := plain_spec hp
  refine ⟨.inr p, ⟨h1, h2, .inl ⟨hw, hl, ⟨t, hd, hlt⟩, fun w hw a' ha' => ?_⟩⟩, ?_⟩
  · rw [exec_same h4 h3 ha']
    exact hr ⟨w, hw⟩
  · rw [hd]
    exact h
/-- It reads the slot t0, whose value is known by a property, and else only what is known. -/
def depB (ops : Array Oper) (o : Oper) (G : Env) (t0 : Tmp) : Bool :=
  ((o.looksAt ops).all fun t => t == t0 || (G t).isNone) && (o.looksAt ops).contains t0 && (match o.dst with | some d => (G d).isNone | none => true) && (match o.op with | .select .. => false | _ => true) &&
    (match o.guard with | some (g, _) => (match (ops[g]?).bind (·.dst) with | some t => t != t0 | none => true) | none => true)
theorem dep_spec {t0 : Tmp} (h : depB ops o G t0 = true) : guardFree ops o G ∧ dstFree o G ∧ (∀ t ∈ o.looksAt ops, t = t0 ∨ G t = none) ∧ t0 ∈ o.looksAt ops ∧ ∀ cs b, o.op ≠ .select cs b := by
  unfold depB at h
  simp only [Bool.and_eq_true, List.all_eq_true, Bool.or_eq_true, Option.isNone_iff_eq_none, beq_iff_eq, List.contains_iff_mem] at h
  obtain ⟨⟨⟨⟨h1, h2⟩, h3⟩, h4⟩, h5⟩ := h
  refine ⟨fun g b t e1 e2 => ?_, fun d e => ?_, h1, h2, fun cs b e => ?_⟩
  · rcases h1 t (mem_looks_guard e1 e2) with e | e
    · rw [e1] at h5
      simp only [e2] at h5
      subst e
      simp at h5
    · exact e
  · rw [e] at h3; simpa using h3
  · rw [e] at h4; simp at h4
theorem gLex_dep {t0 t : Tmp} {p0 : Pr} (hw : Region.wanted o (yielded ops a.tmps) = true) (hp : depB ops o G t0 = true) (h0 : G t0 = some p0) (ht0 : t0 < a.tmps.size) (hd : o.dst = some t) (hlt : t < a.tmps.size)
    (p : Pr) (hl : Lasts p) (hr : ∀ (x : Later w0) (v : Value), p0 v x.now → runsTo P (fun u w' => Grows x.now w' ∧ p u w') ((execOp (a.put (some t0) v).eval o).run P x.now))
    (h : gLex P ops w0 Q rest a (G.upd t p)) : gLex P ops w0 Q (o :: rest) a G := by
  obtain ⟨h1, h2, h3, h4, h5⟩ := dep_spec hp
  refine ⟨.inr p, ⟨h1, h2, .inl ⟨hw, hl, ⟨t, hd, hlt⟩, fun w hw a' ha' => ?_⟩⟩, ?_⟩
  · have hv := ha' t0 h4
    unfold relAt at hv
    rw [h0] at hv
    obtain ⟨v, hv, hpv⟩ := hv
    have e : execOp a'.eval o = execOp (a.put (some t0) v).eval o := by
      refine execOp_congr o h5 fun x hx => ?_
      cases x with
      | tmp t =>
        have ht : t ∈ o.looksAt ops := List.mem_append_left _ (List.mem_filterMap.2 ⟨.tmp t, by simpa using hx, rfl⟩)
        have h' : a'.tmps[t]? = (a.put (some t0) v).tmps[t]? := by
          by_cases e : t = t0
          · subst e
            rw [hv]
            simp [Act.put, ht0]
          · have h6 := ha' t ht
            unfold relAt at h6
            rw [(h3 t ht).resolve_left e] at h6
            rw [h6]
            simp [Act.put, Array.getElem?_setIfInBounds_ne (Ne.symm e)]
        simp only [Act.eval, Array.getD_eq_getD_getElem?, h']
      | _ => rfl
    rw [e]
    exact hr ⟨w, hw⟩ v hpv
  · rw [hd]
    exact h
end
/-- A row of numbers, wherever it lies. -/
def RowP (n : Nat) (xs : List Value) : Pr := fun u w => ∃ A c, u = .slice A n c ∧ Rd w A 1 n xs
theorem RowP.lasts (n : Nat) (xs : List Value) : Lasts (RowP n xs) := fun _ _ _ hg ⟨A, c, e, h⟩ => ⟨A, c, e, h.grows hg⟩
end Go.Proofs.Ytpnncadglhlclaa

/- The law DijkOrder, walked: in which order nodes lie, by how far they are. -/
namespace Go.Proofs.Ytpnncadglhlclaa
open Go Go.RowKit
/-- A search that may be, the answer's reckoning of it, and the order. -/
theorem walk_ord {N s : Nat} {E : List Edg} {o : DOpt} (hok : WalkOk N s E o) (hw : ∀ i, i < E.length → 1 ≤ gn (wtF N E o.W) i ∧ gn (wtF N E o.W) i ≤ 17592186044416) :
    ∃ xs, (if (s : Int) ∈ o.nn then xs = [] else Trace (srchOf N E o) (reachS o.most (st0 N) s 0) xs) ∧ refL (srchOf N E o) s = outL N xs ∧ insK (outL N xs) N = xs.map Prod.fst ∧ xs.length ≤ N := by
  obtain ⟨r1, r2, r3, r4, r5⟩ := right_in hok.right
  rw [Int.toNat_natCast] at r4
  have hb : N * 17592186044416 < farV := by
    have : N * 17592186044416 ≤ 4096 * 17592186044416 := Nat.mul_le_mul_right _ (by omega)
    unfold farV; omega
  by_cases hnn : (s : Int) ∈ o.nn
  · refine ⟨[], by rw [if_pos hnn], ?_, ?_, Nat.zero_le _⟩
    · unfold refL
      rw [if_pos (show (srchOf N E o).nn s = true from decide_eq_true hnn)]
      rfl
    · refine List.eq_nil_iff_forall_not_mem.2 (fun u hu => ?_)
      have h1 := ((insK_all (outL N []) N).2 u).1 hu
      have h2 := outL_no (N := N) (v := u) (xs := []) h1.1 (by simp)
      omega
  · obtain ⟨xs, h1, h2, h3⟩ := walk_is hok hw (Nat.le_refl _) hnn
    have hs := hok.srch
    have hin : SrchIn (srchOf N E o) 17592186044416 := ⟨fun i hi => by
      have h1 := hs.ends.f i hi
      have h2 := hs.ends.t i hi
      unfold toE
      split
      · exact h1.1
      · exact h2.1, fun i hi => (hw i hi).1, fun i hi => (hw i hi).2⟩
    obtain ⟨ys, h4, h5⟩ := trace_whole (x := freeX (srchOf N E o)) (s := s) (mw := 17592186044416) ⟨hin.ends, hin.low, hin.high⟩ hs.nodes hok.node (by omega)
    refine ⟨xs, h1, refL_is h2 h5 hin hb hok.node (decide_eq_false hnn) (fun i hi => ?_), insK_is h2 hb, ?_⟩
    · have h1 := hs.ends.f i hi
      have h2 := hs.ends.t i hi
      unfold nN
      split
      · exact h2.1
      · exact h1.1
    · have h6 : (xs.map Prod.fst).length ≤ (List.range N).length := List.Nodup.length_le_of_subset h2.nodup (fun v hv => by
        obtain ⟨p, hp, rfl⟩ := List.mem_map.1 hv
        exact List.mem_range.2 (h3 p hp))
      simpa using h6
set_option maxRecDepth 40000 in
set_option maxHeartbeats 8000000 in
theorem dijkOrderW (N : Int) (A : Option Addr) (n c : Nat) (E : List Edg) (s : Int) (back : Bool) (A1 : Option Addr) (n1 c1 : Nat) (z1 : List Int) (A2 : Option Addr) (n2 c2 : Nat) (z2 : List Int) (A3 : Option Addr) (n3 c3 : Nat) (z3 : List Int) (most : Int) (w : World)
    (_ : I64 N) (_ : n ≤ c) (h : Rd w A 3 n (esCells E)) (_ : ∀ k, k < n → edgOk (ge E k)) (_ : I64 s) (hz1 : Rd w A1 1 n1 (z1.map (.int .i64)) ∧ ∀ z ∈ z1, (Lit.int .i64 z).wf = true) (hz2 : Rd w A2 1 n2 (z2.map (.int .i64)) ∧ ∀ z ∈ z2, (Lit.int .i64 z).wf = true) (hz3 : Rd w A3 1 n3 (z3.map (.int .u64)) ∧ ∀ z ∈ z3, (Lit.int .u64 z).wf = true) (hmo : U64 most) :
    Calls Try.prog 6 #[.agg #[.int .i64 N, .slice A n c], .int .i64 s, .agg #[.bool back, .slice A1 n1 c1, .slice A2 n2 c2, .slice A3 n3 c3, .int .u64 most]] w fun e w' => e = .returned (.bool true) ∧ Grows w w' := by
  obtain ⟨hz1, _⟩ := hz1
  obtain ⟨hz2, _⟩ := hz2
  obtain ⟨hz3, hwf⟩ := hz3
  rw [wv_of hwf] at hz3
  generalize z3.map Int.toNat = W at hz3
  unfold U64 at hmo
  obtain ⟨mo, rfl⟩ : ∃ mo : Nat, most = (mo : Int) := ⟨most.toNat, by omega⟩
  have e1 : z1.length = n1 := by simpa using hz1.len
  have e2 : z2.length = n2 := by simpa using hz2.len
  have e3 : W.length = n3 := hz3.wlen
  have e4 : E.length = n := h.elen
  subst e1 e2 e3 e4
  have CL := fun (W1 : World) => lLight14 N A E.length c back A1 A2 A3 z1.length c1 z2.length c2 W.length c3 mo W1
  unfold oVal at CL
  cases hq : light14 N E.length z1.length z2.length W.length with
  | false =>
    rw [hq] at CL
    have H1 := hide CL
    clear CL hq h hz1 hz2 hz3
    go_enter Try.func6, Try.ntmps6
    go_wp2_with (first | (go_at_call 24; refine (H1.out _).mono ?_; rintro e w' ⟨rfl, hg⟩; (first | obtain ⟨x, rfl⟩ := Grows.later2 hg | obtain ⟨x, rfl⟩ := Grows.later hg); clear hg) | (go_at_call 25; refine (alive14 _).mono ?_; rintro e w' ⟨rfl, hg⟩; (first | obtain ⟨x, rfl⟩ := Grows.later2 hg | obtain ⟨x, rfl⟩ := Grows.later hg); clear hg))
    go_ret
    exact ⟨rfl, (by repeat (first | exact Grows.refl _ | refine Grows.now ?_ _ | refine Grows.new ?_ _ | refine Grows.drewN ?_ _ | refine Grows.drew ?_ | assumption | (refine Grows.set ?_ (by first | omega | (simp; done) | (simp; omega)) _)))⟩
  | true =>
  rw [hq] at CL
  have H1 := hide CL
  have hsz : E.length ≤ 1000000 ∧ z1.length ≤ 1000000 ∧ z2.length ≤ 1000000 ∧ W.length ≤ 1000000 := by
    unfold light14 lightG at hq
    simp at hq
    omega
  obtain ⟨hn, hn1, hn2, hn3⟩ := hsz
  clear CL hq
  have KO := hide (fun (W1 : World) => law14Of back (.slice A1 z1.length c1) (.slice A2 z2.length c2) ⟨_, _, _, rfl⟩ ⟨_, _, _, rfl⟩ A3 W.length c3 mo W1)
  have KQ := hide (fun (W1 : World) (g : Grows w W1) => r14Check N s A E.length c E back (.slice A1 z1.length c1) (.slice A2 z2.length c2) A3 W.length c3 mo W W1 (h.grows g) (hz3.grows g) hn hn3)
  unfold oVal at KO KQ
  by_cases hd : dcF N s E W = 0
  · obtain ⟨rr, hs0, hsN, hwt, hwb⟩ := dc_ok hd
    obtain ⟨r1, r2, r3, r4, r5⟩ := right_in rr
    obtain ⟨NN, rfl⟩ : ∃ NN : Nat, N = (NN : Int) := ⟨N.toNat, by omega⟩
    obtain ⟨sN, rfl⟩ : ∃ sN : Nat, s = (sN : Int) := ⟨s.toNat, by omega⟩
    have hNb : NN ≤ 4096 := by omega
    have hok1 : WalkOk NN sN E ⟨back, z1, z2, W, mo⟩ := ⟨rr, by omega, hwt, by show mo < _; omega, hn1, hn2⟩
    obtain ⟨xs, hx1, href, hins, hxl⟩ := walk_ord hok1 hwb
    have K1 := hide (fun (W1 : World) (g : Grows w W1) => show Calls Try.prog 30 #[.agg #[.int .i64 (NN : Int), .slice A E.length c], .int .i64 (sN : Int), .agg #[.bool back, .slice A1 z1.length c1, .slice A2 z2.length c2, .slice A3 W.length c3, .int .u64 (mo : Int)]] W1 fun e w' =>
        ∃ A' c', e = .returned (.tuple #[.slice A' xs.length c', .int .i64 0]) ∧ Rd w' A' 1 xs.length ((ordL xs).map (.int .i64)) ∧ Grows W1 w' from
      djOrder NN sN A c E ⟨back, z1, z2, W, mo⟩ A1 A2 A3 c1 c2 c3 xs W1 (h.grows g) (hz1.grows g) (hz2.grows g) (hz3.grows g) hok1 hd hx1 (by omega))
    have K3 := hide (fun (W1 : World) (g : Grows w W1) => show Calls Try.prog 33 #[.agg #[.int .i64 (NN : Int), .slice A E.length c], .int .i64 (sN : Int), .agg #[.bool back, .slice A1 z1.length c1, .slice A2 z2.length c2, .slice A3 W.length c3, .int .u64 (mo : Int)]] W1 fun e w' =>
        ∃ gd, e = .returned (.slice (some ⟨gd, 0, none⟩) NN NN) ∧ Row1 w' gd 37 1 NN NN (wv (outL NN xs)) ∧ Grows W1 w' from by
      rw [← href]
      exact r14All NN sN A c E ⟨back, z1, z2, W, mo⟩ A1 A2 A3 c1 c2 c3 W1 (h.grows g) (hz1.grows g) (hz2.grows g) (hz3.grows g) hok1 (fun i hi => (hwb i hi).2))
    have K4 := hide (fun (W1 : World) (gd : Nat) (hr : Row1 W1 gd 37 1 NN NN (wv (outL NN xs))) => show Calls Try.prog 32 #[.slice (some ⟨gd, 0, none⟩) NN NN] W1 fun e w' =>
        ∃ A' c', e = .returned (.slice A' xs.length c') ∧ Rd w' A' 1 xs.length ((ordL xs).map (.int .i64)) ∧ Grows W1 w' from by
      have := r14Order (some ⟨gd, 0, none⟩) NN NN (outL NN xs) W1 hr.rd (by omega)
      have e5 : nv (xs.map Prod.fst) = (ordL xs).map (.int .i64) := by unfold nv ordL; rw [List.map_map, List.map_map]; rfl
      rw [hins, e5, List.length_map] at this
      exact this)
    have hxl2 : xs.length ≤ 1000000 := by omega
    have a1 : Arr ((w.alloc (.cells #[.int .i64 (NN : Int), .slice A E.length c] 24)).alloc (.cells #[.bool back, .slice A1 z1.length c1, .slice A2 z2.length c2, .slice A3 W.length c3, .int .u64 (mo : Int)] 39)) w.heap.size 24 [.int .i64 (NN : Int), .slice A E.length c] := (Arr.make w _ _).grow ((Grows.refl _).new _)
    have a2 : Arr ((w.alloc (.cells #[.int .i64 (NN : Int), .slice A E.length c] 24)).alloc (.cells #[.bool back, .slice A1 z1.length c1, .slice A2 z2.length c2, .slice A3 W.length c3, .int .u64 (mo : Int)] 39)) (w.heap.size + 1) 39 [.bool back, .slice A1 z1.length c1, .slice A2 z2.length c2, .slice A3 W.length c3, .int .u64 (mo : Int)] := by
      have := Arr.make (w.alloc (.cells #[.int .i64 (NN : Int), .slice A E.length c] 24)) [.bool back, .slice A1 z1.length c1, .slice A2 z2.length c2, .slice A3 W.length c3, .int .u64 (mo : Int)] 39
      rw [show (w.alloc (.cells #[.int .i64 (NN : Int), .slice A E.length c] 24)).heap.size = w.heap.size + 1 by simp] at this
      exact this
    rw [hd] at KQ
    clear h hz1 hz2 hz3 hn hn1 hn2 hn3 hd rr hs0 hsN hwt hwb r1 r2 r3 r4 r5 hok1 hx1 href hins hxl hNb
    generalize outL NN xs = D at *
    generalize ordL xs = OL at *
    generalize xs.length = ol at *
    have K5 := hide (fun (A7 : Option Addr) (c7 : Nat) (A8 : Option Addr) (c8 : Nat) (W1 : World) (h1 : Rd W1 A7 1 ol (OL.map (.int .i64))) (h2 : Rd W1 A8 1 ol (OL.map (.int .i64))) => r1Same A7 ol c7 OL A8 ol c8 OL W1 h1 hxl2 h2 hxl2)
    have hdl : decide (OL = OL) = true := decide_eq_true rfl
    rw [hdl] at K5
    clear hdl hxl2
    go_enter Try.func6, Try.ntmps6
    go_wp2_with (go_at_call 24; refine (H1.out _).mono ?_; rintro e w' ⟨rfl, hg⟩; obtain ⟨x1, rfl⟩ := hg.later; clear hg)
    refine (K1.out _ (by repeat (first | exact Grows.refl _ | refine Grows.now ?_ _ | refine Grows.new ?_ _ | refine Grows.drewN ?_ _ | refine Grows.drew ?_ | assumption | (refine Grows.set ?_ (by first | omega | (simp; done) | (simp; omega)) _)))).mono ?_; rintro e w' ⟨A7, c7, rfl, hr7, hg⟩; obtain ⟨x3, rfl⟩ := Grows.later2 hg; have HR7 := hide hr7; clear hg hr7
    go_wp2_with fail
    ((first | refine wp_region_gen (by kernel_rfl) (by kernel_rfl) ?_); (repeat' (first | (refine gLex_val0 rfl (by kernel_rfl) (fun K hK => ?_); (go_simp; (try (simp only [↓IntWalk.iteOmega]; try go_simp)); (try simp (disch := omega) only [IntWalk.i64_in]); (try simp (disch := omega) only [IntWalk.u64_in]); first | (refine hK _ ?_; clear hK K) | (apply Exists.intro; refine ⟨fun x => ?_, hK _ ?_⟩; (first | (go_at_call 28; exact KO.out _) | (go_at_call 27; exact KQ.out _ (by repeat (first | exact Grows.refl _ | refine Grows.now ?_ _ | refine Grows.new ?_ _ | refine Grows.drewN ?_ _ | refine Grows.drew ?_ | assumption | (refine Grows.set ?_ (by first | omega | (simp; done) | (simp; omega)) _))))); clear hK K))) | (refine gLex_undef rfl rfl rfl (by kernel_rfl) (fun K hK => ?_); go_simp; refine hK _ ?_; clear hK K) | (refine gLex_ask rfl rfl rfl ?_; first | (apply gAsk_yes; kernel_rfl; intro K hK; (go_simp; (try (simp only [↓IntWalk.iteOmega]; try go_simp)); (try simp (disch := omega) only [IntWalk.i64_in]); (try simp (disch := omega) only [IntWalk.u64_in]); first | (refine hK _ ?_; clear hK K) | (apply Exists.intro; refine ⟨fun x => ?_, hK _ ?_⟩; (first | (go_at_call 28; exact KO.out _) | (go_at_call 27; exact KQ.out _ (by repeat (first | exact Grows.refl _ | refine Grows.now ?_ _ | refine Grows.new ?_ _ | refine Grows.drewN ?_ _ | refine Grows.drew ?_ | assumption | (refine Grows.set ?_ (by first | omega | (simp; done) | (simp; omega)) _))))); clear hK K))) | ((first | apply gAsk_no1 | apply gAsk_no2); kernel_rfl; intro K hK; simp [go_sem]; refine hK _ ?_; clear hK K) | (apply gAsk_part; kernel_rfl; all_goals (intro h K hK; (try simp only [Bool.not_true] at h); (try simp only [Bool.not_false] at h); (try simp only [decide_eq_true_eq] at h); (try simp only [decide_eq_false_iff_not] at h); first | (exfalso; first | contradiction | omega) | (go_simp; (try (simp only [↓IntWalk.iteOmega]; try go_simp)); (try simp (disch := omega) only [IntWalk.i64_in]); (try simp (disch := omega) only [IntWalk.u64_in]); first | (refine hK _ ?_; clear hK K) | (apply Exists.intro; refine ⟨fun x => ?_, hK _ ?_⟩; (first | (go_at_call 28; exact KO.out _) | (go_at_call 27; exact KQ.out _ (by repeat (first | exact Grows.refl _ | refine Grows.now ?_ _ | refine Grows.new ?_ _ | refine Grows.drewN ?_ _ | refine Grows.drew ?_ | assumption | (refine Grows.set ?_ (by first | omega | (simp; done) | (simp; omega)) _))))); clear hK K))))))); all_goals ((apply gLex_end); intro x4))
    go_upto_region 7 with fail
    (refine wp_region_tail1 10 (by kernel_rfl) (by kernel_rfl) ?_; simp only [List.take_succ_cons, List.take_zero, List.drop_succ_cons, List.drop_zero]; (repeat' (first | (refine gLex_val0 rfl (by kernel_rfl) (fun K hK => ?_); (go_simp; (try (simp only [↓IntWalk.iteOmega]; try go_simp)); (try simp (disch := omega) only [IntWalk.i64_in]); (try simp (disch := omega) only [IntWalk.u64_in]); first | (refine hK _ ?_; clear hK K) | (apply Exists.intro; refine ⟨fun x => ?_, hK _ ?_⟩; (first | (go_at_call 28; exact KO.out _)); clear hK K))) | (refine gLex_undef rfl rfl rfl (by kernel_rfl) (fun K hK => ?_); go_simp; refine hK _ ?_; clear hK K) | (refine gLex_ask rfl rfl rfl ?_; first | (apply gAsk_yes; kernel_rfl; intro K hK; (go_simp; (try (simp only [↓IntWalk.iteOmega]; try go_simp)); (try simp (disch := omega) only [IntWalk.i64_in]); (try simp (disch := omega) only [IntWalk.u64_in]); first | (refine hK _ ?_; clear hK K) | (apply Exists.intro; refine ⟨fun x => ?_, hK _ ?_⟩; (first | (go_at_call 28; exact KO.out _)); clear hK K))) | ((first | apply gAsk_no1 | apply gAsk_no2); kernel_rfl; intro K hK; simp [go_sem]; refine hK _ ?_; clear hK K)))))
    refine gLex_propW (by kernel_rfl) (by kernel_rfl) rfl (by simp) (fun u w' => ∃ gd, u = .slice (some ⟨gd, 0, none⟩) NN NN ∧ Row1 w' gd 37 1 NN NN (wv D)) (fun _ _ _ hg ⟨gd, e, h⟩ => ⟨gd, e, h.grow hg⟩) (fun y => by
      go_simp
      refine (K3.out _ (by repeat (first | exact Grows.refl _ | refine Grows.now ?_ _ | refine Grows.new ?_ _ | refine Grows.drewN ?_ _ | refine Grows.drew ?_ | assumption | (refine Grows.set ?_ (by first | omega | (simp; done) | (simp; omega)) _)))).mono ?_
      rintro e w' ⟨gd, rfl, hr, hg⟩
      exact ⟨_, rfl, hg, gd, rfl, hr⟩) ?_
    refine gLex_dep (t0 := 48) (by kernel_rfl) (by kernel_rfl) rfl (by simp) rfl (by simp) (RowP ol (OL.map (.int .i64))) (RowP.lasts _ _) (fun y v hv => by
      obtain ⟨gd, rfl, hr⟩ := hv
      go_simp
      refine (K4.out _ gd hr).mono ?_
      rintro e w' ⟨A8, c8, rfl, hr8, hg⟩
      exact ⟨_, rfl, hg, A8, c8, rfl, hr8⟩) ?_
    refine gLex_endW (fun y6 => ?_)
    refine AtW.pop rfl (by simp) (fun v2 hv2 => ?_)
    refine AtW.pop rfl (by simp [Act.put]) (fun v1 hv1 => ?_)
    refine AtW.base ?_
    obtain ⟨A8, c8, rfl, hr8⟩ := hv2
    have K6 := hide (fun (W1 : World) (g3 : Grows x3.now W1) (g6 : Grows y6.now W1) => K5.out A7 c7 A8 c8 W1 (HR7.out.grows g3) (hr8.grows g6))
    clear hv1 hr8
    simp only [Act.put, List.setIfInBounds_toArray, List.set_cons_zero, List.set_cons_succ]
    go_wp2_with fail
    refine (K6.out _ (by repeat (first | exact Grows.refl _ | refine Grows.now ?_ _ | refine Grows.new ?_ _ | refine Grows.drewN ?_ _ | refine Grows.drew ?_ | assumption | (refine Grows.set ?_ (by first | omega | (simp; done) | (simp; omega)) _))) (by repeat (first | exact Grows.refl _ | refine Grows.now ?_ _ | refine Grows.new ?_ _ | refine Grows.drewN ?_ _ | refine Grows.drew ?_ | assumption | (refine Grows.set ?_ (by first | omega | (simp; done) | (simp; omega)) _)))).mono ?_; rintro e w' ⟨rfl, hg⟩; obtain ⟨x10, hx10⟩ : ∃ x10 : Later y6.now, w' = x10.now := hg.later; subst hx10; clear hg
    go_wp2_with fail
    refine (alive14 _).mono ?_; rintro e w' ⟨rfl, hg⟩; obtain ⟨x7, rfl⟩ := Grows.later2 hg; clear hg
    go_wp2_with fail
    go_ret
    exact ⟨rfl, (by repeat (first | exact Grows.refl _ | refine Grows.now ?_ _ | refine Grows.new ?_ _ | refine Grows.drewN ?_ _ | refine Grows.drew ?_ | assumption | (refine Grows.set ?_ (by first | omega | (simp; done) | (simp; omega)) _)))⟩
  · have K1 := hide (fun (W1 : World) (g : Grows w W1) => djOrderNo N s A E.length c E back (.slice A1 z1.length c1) (.slice A2 z2.length c2) A3 W.length c3 mo W W1 (h.grows g) (hz3.grows g) hn hn3 hd)
    unfold oVal at K1
    have hr2 : (dcF N s E W == 0) = false := beq_eq_false_iff_ne.2 hd
    clear h hz1 hz2 hz3 hn hn1 hn2 hn3
    generalize dcF N s E W = r at *
    go_enter Try.func6, Try.ntmps6
    go_wp2_with (go_at_call 24; refine (H1.out _).mono ?_; rintro e w' ⟨rfl, hg⟩; obtain ⟨x1, rfl⟩ := hg.later; clear hg)
    refine (K1.out _ (by repeat (first | exact Grows.refl _ | refine Grows.now ?_ _ | refine Grows.new ?_ _ | refine Grows.drewN ?_ _ | refine Grows.drew ?_ | assumption | (refine Grows.set ?_ (by first | omega | (simp; done) | (simp; omega)) _)))).mono ?_; rintro e w' ⟨rfl, hg⟩; obtain ⟨x3, rfl⟩ := Grows.later2 hg; clear hg
    go_wp2_with fail
    ((first | refine wp_region_gen2 (by kernel_rfl) (by kernel_rfl) ?_ | refine wp_region_gen (by kernel_rfl) (by kernel_rfl) ?_); (repeat' (first | (refine gLex_val0 rfl (by kernel_rfl) (fun K hK => ?_); (go_simp; (try (simp only [↓IntWalk.iteOmega]; try go_simp)); (try simp (disch := omega) only [IntWalk.i64_in]); (try simp (disch := omega) only [IntWalk.u64_in]); first | (refine hK _ ?_; clear hK K) | (apply Exists.intro; refine ⟨fun x => ?_, hK _ ?_⟩; (first | (go_at_call 28; exact KO.out _) | (go_at_call 27; exact KQ.out _ (by repeat (first | exact Grows.refl _ | refine Grows.now ?_ _ | refine Grows.new ?_ _ | refine Grows.drewN ?_ _ | refine Grows.drew ?_ | assumption | (refine Grows.set ?_ (by first | omega | (simp; done) | (simp; omega)) _))))); clear hK K))) | (refine gLex_undef rfl rfl rfl (by kernel_rfl) (fun K hK => ?_); go_simp; refine hK _ ?_; clear hK K) | (refine gLex_ask rfl rfl rfl ?_; first | (apply gAsk_yes; kernel_rfl; intro K hK; (go_simp; (try (simp only [↓IntWalk.iteOmega]; try go_simp)); (try simp (disch := omega) only [IntWalk.i64_in]); (try simp (disch := omega) only [IntWalk.u64_in]); first | (refine hK _ ?_; clear hK K) | (apply Exists.intro; refine ⟨fun x => ?_, hK _ ?_⟩; (first | (go_at_call 28; exact KO.out _) | (go_at_call 27; exact KQ.out _ (by repeat (first | exact Grows.refl _ | refine Grows.now ?_ _ | refine Grows.new ?_ _ | refine Grows.drewN ?_ _ | refine Grows.drew ?_ | assumption | (refine Grows.set ?_ (by first | omega | (simp; done) | (simp; omega)) _))))); clear hK K))) | ((first | apply gAsk_no1 | apply gAsk_no2); kernel_rfl; intro K hK; simp [go_sem]; refine hK _ ?_; clear hK K) | (apply gAsk_part; kernel_rfl; all_goals (intro h K hK; (try simp only [Bool.not_true] at h); (try simp only [Bool.not_false] at h); (try simp only [decide_eq_true_eq] at h); (try simp only [decide_eq_false_iff_not] at h); first | (exfalso; first | contradiction | omega) | (go_simp; (try (simp only [↓IntWalk.iteOmega]; try go_simp)); (try simp (disch := omega) only [IntWalk.i64_in]); (try simp (disch := omega) only [IntWalk.u64_in]); first | (refine hK _ ?_; clear hK K) | (apply Exists.intro; refine ⟨fun x => ?_, hK _ ?_⟩; (first | (go_at_call 28; exact KO.out _) | (go_at_call 27; exact KQ.out _ (by repeat (first | exact Grows.refl _ | refine Grows.now ?_ _ | refine Grows.new ?_ _ | refine Grows.drewN ?_ _ | refine Grows.drew ?_ | assumption | (refine Grows.set ?_ (by first | omega | (simp; done) | (simp; omega)) _))))); clear hK K))))))); all_goals ((apply gLex_end); intro x4))
    go_wp2_with fail
    refine (alive14 _).mono ?_; rintro e w' ⟨rfl, hg⟩; obtain ⟨x7, rfl⟩ := Grows.later2 hg; clear hg
    go_wp2_with fail
    go_ret
    exact ⟨rfl, (by repeat (first | exact Grows.refl _ | refine Grows.now ?_ _ | refine Grows.new ?_ _ | refine Grows.drewN ?_ _ | refine Grows.drew ?_ | assumption | (refine Grows.set ?_ (by first | omega | (simp; done) | (simp; omega)) _)))⟩
end Go.Proofs.Ytpnncadglhlclaa

/- The law DijkOrder: for every input it returns true, and each argument reads as before. No condition. -/
namespace Go.Proofs.Ytpnncadglhlclaa.lawDijkOrder
open Go Go.ChangeShapes Go.WideShapes Go.ChangeAt Go.RowKit Go.Proofs.Ytpnncadglhlclaa

theorem own : ownKnob Try.prog.godebug = none := by kernel_rfl
theorem laidOut : laidOutB Try.prog = true := by kernel_rfl

set_option maxRecDepth 100000 in
theorem lifted (os : Os) (started : os.Started) (H : Type) (enc : TypeId × Value → H) :
    ReturnsInHanded {} Try.checked os 6 .any (Rows.dijkOrderSpec.pre6 enc Try.prog Try.f6 Rows.dijkOrderRow.domain false) (Rows.dijkOrderSpec.post enc Try.prog Try.f6 false true false false) := by
  refine returnsInHanded_of_change (C := Try.checked) own started (by kernel_rfl) Try.func6
    (ChangeSpec.witness6 (enc := enc) (C := Try.checked) false ⟨#[], #[.agg #[.int .i64 0, .slice none 0 0], .int .i64 0, .agg #[.bool false, .slice none 0 0, .slice none 0 0, .slice none 0 0, .int .u64 0]], []⟩ 8 (by kernel_rfl) (by kernel_rfl) (by kernel_rfl) (by kernel_rfl)) ?_
  intro W base args ds gs before hval0 hW hcnd _
  have hval : ∀ (j : Nat) t v, Try.f6.params[j]? = some t → args[j]? = some v → Value.okWide Try.prog W .any base t v := hval0
  have hW' := hW
  obtain ⟨p, q, hA0, hV, rfl, hfz, hnd⟩ := hW
  have hA : DataW.TrodAll enc Try.prog W 0 (fun _ => true) true Try.f6.params.toList args.toList ds p := hA0
  rw [Try.params6] at hA hval
  obtain ⟨v0, vs0, d0, ds0, p0, q0, hargs, rfl, rfl, h0, r0⟩ := trodAll_cons hA
  obtain ⟨v1, vs1, d1, ds1, p1, q1, rfl, rfl, rfl, h1, r1⟩ := trodAll_cons r0
  obtain ⟨v2, vs2, d2, ds2, p2, q2, rfl, rfl, rfl, h2, r2⟩ := trodAll_cons r1
  obtain ⟨rfl, rfl, rfl⟩ := trodAll_nil r2
  obtain rfl : args = #[v0, v1, v2] := by cases args; simp_all
  obtain ⟨rfl, rfl⟩ := trodVars_none hV
  have k0 := h0
  have lt0 : ∀ x ∈ p0, x.block < W.heap.size := by obtain ⟨m, hm⟩ := k0; exact DataW.trod_lt m _ _ _ hm
  obtain ⟨a0, A0, n0, c0, z0, rfl, x0, l0, w0, u0⟩ := open_graph Try.underlying24 Try.underlying3 Try.underlying22 Try.underlying49 Try.underlying3 Try.underlying3 Try.underlying37 ⟨rfl, rfl, rfl⟩ ⟨by kernel_rfl, by kernel_rfl, by kernel_rfl⟩ (by kernel_rfl) (by kernel_rfl) (by kernel_rfl) (hval 0 24 v0 rfl rfl) h0
  have k1 := h1
  have lt1 : ∀ x ∈ p1, x.block < W.heap.size := by obtain ⟨m, hm⟩ := k1; exact DataW.trod_lt m _ _ _ hm
  obtain ⟨a1, rfl, w1⟩ := open_i64 Try.underlying3 (hval 1 3 v1 rfl rfl) h1
  have k2 := h2
  have lt2 : ∀ x ∈ p2, x.block < W.heap.size := by obtain ⟨m, hm⟩ := k2; exact DataW.trod_lt m _ _ _ hm
  obtain ⟨a2, A2a, n2a, c2a, z2a, A2b, n2b, c2b, z2b, A2c, n2c, c2c, z2c, m2, rfl, w2a, w2b, w2c, u2⟩ := open_opt Try.underlying39 Try.underlying4 Try.underlying31 Try.underlying31 Try.underlying36 Try.underlying37 Try.underlying3 Try.underlying37 (by kernel_rfl) (by kernel_rfl) (by kernel_rfl) (by kernel_rfl) (hval 2 39 v2 rfl rfl) h2
  clear hA0 hval0
  refine (dijkOrderW a0 A0 n0 c0 z0 a1 a2 A2a n2a c2a z2a A2b n2b c2b z2b A2c n2c c2c z2c m2 W x0 l0 w0 u0 w1 w2a w2b w2c u2).mono fun e W' ⟨he, bel⟩ => ?_
  subst he
  exact ⟨_, rfl, _, _, _, [], _, [], hW', trodAll_mk1 (shut_bool Try.underlying4 _), (trodAll_cons_mk (Below.trod laidOut (by kernel_rfl) (of_decide_eq_true (by kernel_rfl)) k0 bel lt0) (trodAll_cons_mk (Below.trod laidOut (by kernel_rfl) (of_decide_eq_true (by kernel_rfl)) k1 bel lt1) (trodAll_cons_mk (Below.trod laidOut (by kernel_rfl) (of_decide_eq_true (by kernel_rfl)) k2 bel lt2) trodAll_mk0))), rfl, Below.frame bel _, fun h => by cases h⟩

theorem over : Rows.dijkOrderRow.holds Try.pinned (OpenSpec.ofChange Rows.dijkOrderSpec) :=
  OpenClaim.holds_of_wide 6 Try.f6 rfl rfl rfl rfl rfl rfl rfl ⟨rfl, rfl, rfl, rfl, rfl⟩ rfl rfl rfl rfl rfl (by kernel_rfl) Try.func6 (by kernel_rfl)
    (of_decide_eq_true (by kernel_rfl)) (by unfold Func.isWrapper; first | (rw [if_pos (by decide +kernel)]; kernel_rfl) | (rw [if_neg (by decide +kernel)]; exact ⟨rfl, rfl⟩))
    (fun os started H enc _ => lifted os started H enc)

end Go.Proofs.Ytpnncadglhlclaa.lawDijkOrder
namespace Go.Proofs.Ytpnncadglhlclaa
/-- The statement. -/
theorem dijkOrder_proved : Rows.DijkOrderSaid := lawDijkOrder.over
#print axioms dijkOrder_proved
end Go.Proofs.Ytpnncadglhlclaa
