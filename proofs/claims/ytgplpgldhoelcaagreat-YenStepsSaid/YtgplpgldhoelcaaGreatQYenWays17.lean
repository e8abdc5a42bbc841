/- Contracts: does a way begin with a root; two ways joined. -/
import Derived.Test.YtgplpgldhoelcaaGreatQYenWays00
import Derived.Test.YtgplpgldhoelcaaGreatQYenWays01
import Derived.Test.YtgplpgldhoelcaaGreatQYenWays07
import Derived.Test.YtgplpgldhoelcaaGreatQYenWays14
import Derived.Test.YtgplpgldhoelcaaGreatQYenWays16
namespace Go.Proofs.YtgplpgldhoelcaaGreat
open Go Go.RowKit
attribute [local go_sem] Oper.semAt_some
def OwnP (f : Value → Value) (B n : Nat) (L : List Nat) : Pr := fun u w => ∃ A c, u = f (.slice A n c) ∧ Own w B 3 1 A n c (nv L)
theorem OwnP.lasts (f : Value → Value) (B n : Nat) (L : List Nat) : Lasts (OwnP f B n L) := fun _ _ _ hg ⟨A, c, e, h⟩ => ⟨A, c, e, h.grows hg⟩
def TwoQ (v v2 : Value) : Pr := fun u w => ∃ g, u = .slice (some ⟨g, 0, none⟩) 2 2 ∧ Arr w g 22 [v, v2]
theorem TwoQ.lasts (v v2 : Value) : Lasts (TwoQ v v2) := fun _ _ _ hg ⟨g, e, h⟩ => ⟨g, e, h.grow hg⟩
theorem Rd.takeN {w : World} {A : Option Addr} {n : Nat} {l : List Nat} (h : Rd w A 1 n (nv l)) {k : Nat} (hk : k ≤ n) : Rd w A 1 k (nv (l.take k)) := by
  rw [nv_ci] at h
  have := h.take hk
  rw [nv_ci]
  simpa [ciL, List.map_take] using this
set_option maxRecDepth 20000 in
set_option maxHeartbeats 4000000 in
theorem yeSpur1 (A : Option Addr) (n c : Nat) (l : List Nat) (b7 b8 i : Nat) (Ar : Option Addr) (cr : Nat) (r : List Nat) (w : World) (h7 : Holds w ⟨b7, 0, none⟩ (.int .i64 (i : Int))) (h8 : Holds w ⟨b8, 0, none⟩ (.slice Ar i cr)) (h : Rd w A 1 n (nv l)) (hn : n ≤ 1000000) (hc : n ≤ c) (h' : Rd w Ar 1 i (nv r)) (hi : i ≤ 1000000) :
    Calls Tryz.prog 146 #[.slice A n c, .pointer (some ⟨b7, 0, none⟩), .pointer (some ⟨b8, 0, none⟩)] w fun e w' => e = .returned (.bool (decide (i < n ∧ l.take i = r))) ∧ Grows w w' := by
  by_cases hin : i < n
  · obtain ⟨bb, off, rfl, _⟩ := h.natsH (by omega)
    have CE := hide (fun (c1 : Nat) (W : World) (g : Grows w W) => slEqI (some ⟨bb, off, none⟩) i c1 (l.take i) Ar i cr r W ((h.takeN (by omega)).grows g) hi (h'.grows g) hi)
    have HV := hide (show decide (i < n ∧ l.take i = r) = decide (l.take i = r) from decide_eq_decide.2 ⟨fun h => h.2, fun h => ⟨hin, h⟩⟩)
    rw [HV.out]
    generalize decide (l.take i = r) = d at *
    have hic : i ≤ c := by omega
    clear h h'
    go_enter Tryz.func146, Tryz.ntmps146
    go_wp2_with fail
    ((first | refine wp_region_gen2 (by kernel_rfl) (by kernel_rfl) ?_ | refine wp_region_gen (by kernel_rfl) (by kernel_rfl) ?_); (repeat' (first | (refine gLex_val0 rfl (by kernel_rfl) (fun K hK => ?_); (go_simp; (try (simp only [↓IntWalk.iteOmega]; try go_simp)); (try simp (disch := omega) only [IntWalk.i64_in]); (try simp (disch := omega) only [IntWalk.u64_in]); first | (refine hK _ ?_; clear hK K) | (apply Exists.intro; refine ⟨fun x => ?_, hK _ ?_⟩; (first | (go_at_call 99; exact CE.out _ _ GG)); clear hK K))) | (refine gLex_undef rfl rfl rfl (by kernel_rfl) (fun K hK => ?_); go_simp; refine hK _ ?_; clear hK K) | (refine gLex_ask rfl rfl rfl ?_; first | (apply gAsk_yes; kernel_rfl; intro K hK; (go_simp; (try (simp only [↓IntWalk.iteOmega]; try go_simp)); (try simp (disch := omega) only [IntWalk.i64_in]); (try simp (disch := omega) only [IntWalk.u64_in]); first | (refine hK _ ?_; clear hK K) | (apply Exists.intro; refine ⟨fun x => ?_, hK _ ?_⟩; (first | (go_at_call 99; exact CE.out _ _ GG)); clear hK K))) | ((first | apply gAsk_no1 | apply gAsk_no2); kernel_rfl; intro K hK; simp [go_sem]; refine hK _ ?_; clear hK K) | (apply gAsk_part; kernel_rfl; all_goals (intro h K hK; (try simp only [Bool.not_true] at h); (try simp only [Bool.not_false] at h); (try simp only [decide_eq_true_eq] at h); (try simp only [decide_eq_false_iff_not] at h); first | (exfalso; first | contradiction | omega) | (go_simp; (try (simp only [↓IntWalk.iteOmega]; try go_simp)); (try simp (disch := omega) only [IntWalk.i64_in]); (try simp (disch := omega) only [IntWalk.u64_in]); first | (refine hK _ ?_; clear hK K) | (apply Exists.intro; refine ⟨fun x => ?_, hK _ ?_⟩; (first | (go_at_call 99; exact CE.out _ _ GG)); clear hK K))))))); all_goals ((apply gLex_end); intro y))
    go_wp2_with fail
    go_ret
    exact ⟨rfl, GG⟩
  · have HV := hide (show decide (i < n ∧ l.take i = r) = false from decide_eq_false (fun h => hin h.1))
    rw [HV.out]
    clear h h'
    go_enter Tryz.func146, Tryz.ntmps146
    go_wp2_with fail
    ((first | refine wp_region_gen2 (by kernel_rfl) (by kernel_rfl) ?_ | refine wp_region_gen (by kernel_rfl) (by kernel_rfl) ?_); (repeat' (first | (refine gLex_val0 rfl (by kernel_rfl) (fun K hK => ?_); (go_simp; (try (simp only [↓IntWalk.iteOmega]; try go_simp)); (try simp (disch := omega) only [IntWalk.i64_in]); (try simp (disch := omega) only [IntWalk.u64_in]); first | (refine hK _ ?_; clear hK K) | (apply Exists.intro; refine ⟨fun x => ?_, hK _ ?_⟩; (first | fail); clear hK K))) | (refine gLex_undef rfl rfl rfl (by kernel_rfl) (fun K hK => ?_); go_simp; refine hK _ ?_; clear hK K) | (refine gLex_ask rfl rfl rfl ?_; first | (apply gAsk_yes; kernel_rfl; intro K hK; (go_simp; (try (simp only [↓IntWalk.iteOmega]; try go_simp)); (try simp (disch := omega) only [IntWalk.i64_in]); (try simp (disch := omega) only [IntWalk.u64_in]); first | (refine hK _ ?_; clear hK K) | (apply Exists.intro; refine ⟨fun x => ?_, hK _ ?_⟩; (first | fail); clear hK K))) | ((first | apply gAsk_no1 | apply gAsk_no2); kernel_rfl; intro K hK; simp [go_sem]; refine hK _ ?_; clear hK K) | (apply gAsk_part; kernel_rfl; all_goals (intro h K hK; (try simp only [Bool.not_true] at h); (try simp only [Bool.not_false] at h); (try simp only [decide_eq_true_eq] at h); (try simp only [decide_eq_false_iff_not] at h); first | (exfalso; first | contradiction | omega) | (go_simp; (try (simp only [↓IntWalk.iteOmega]; try go_simp)); (try simp (disch := omega) only [IntWalk.i64_in]); (try simp (disch := omega) only [IntWalk.u64_in]); first | (refine hK _ ?_; clear hK K) | (apply Exists.intro; refine ⟨fun x => ?_, hK _ ?_⟩; (first | fail); clear hK K))))))); all_goals ((apply gLex_end); intro y))
    go_wp2_with fail
    go_ret
    exact ⟨rfl, GG⟩
set_option maxRecDepth 20000 in
set_option maxHeartbeats 4000000 in
theorem pJoin (A : Option Addr) (n c f : Nat) (l : List Nat) (B : Option Addr) (m d g : Nat) (l' : List Nat) (w : World) (h : Rd w A 1 n (nv l)) (hn : n ≤ 60) (h0 : A = none → n = 0 ∧ c = 0) (h' : Rd w B 1 m (nv l')) (hm : m ≤ 60) (h0' : B = none → m = 0 ∧ d = 0) (hfg : f + g < 18446744073709551616) :
    Calls Tryz.prog 147 #[rVal A n c f, rVal B m d g] w fun e w' => ∃ A' c', e = .returned (rVal A' (n + m) c' (f + g)) ∧ Own w' 0 3 1 A' (n + m) c' (nv (l ++ l')) ∧ Grows w w' := by
  have hl : l.length = n := by simpa [nv] using h.len
  have hl' : l'.length = m := by simpa [nv] using h'.len
  have CC := hide (fun (q : Nat) (W : World) (gr : Grows w W) (ha : Arr W q 22 [.slice A n c, .slice B m d]) => show Calls Tryz.prog 195 #[.slice (some ⟨q, 0, none⟩) 2 2] W fun e w' => ∃ A' c', e = .returned (.slice A' (n + m) c') ∧ Own w' W.heap.size 3 1 A' (n + m) c' (nv (l ++ l')) ∧ Grows W w' from by
    have h1 := concatI (some ⟨q, 0, none⟩) 2 2 [⟨A, n, c, ciL l⟩, ⟨B, m, d, ciL l'⟩] W (ha.rd (size := 1) (n := 2) rfl) (by omega) (fun k hk => by
      match k, hk with
      | 0, _ => exact ⟨show Rd W A 1 n ((ciL l).map (.int .i64)) from by rw [← nv_ci]; exact h.grows gr, hn, h0⟩
      | 1, _ => exact ⟨show Rd W B 1 m ((ciL l').map (.int .i64)) from by rw [← nv_ci]; exact h'.grows gr, hm, h0'⟩)
    have e1 : ccK [⟨A, n, c, ciL l⟩, ⟨B, m, d, ciL l'⟩] 2 = ciL (l ++ l') := by
      show ([] ++ ciL l) ++ ciL l' = _
      simp [ciL]
    have e2 : (ciL (l ++ l')).length = n + m := by rw [ciL_len, List.length_append, hl, hl']
    rw [e1, e2, ← nv_ci] at h1
    exact h1)
  unfold rVal
  have hw1 : IntKind.u64.wrap ((f : Int) + (g : Int)) = ((f + g : Nat) : Int) := by rw [IntKind.wrap_u64]; omega
  clear h h' hl hl' h0 h0'
  go_enter Tryz.func147, Tryz.ntmps147
  go_upto_region 1 with fail
  obtain ⟨W1, hW1⟩ : ∃ W1, W1 = ((w.alloc (.cells #[.slice A n c, .int .u64 (f : Int)] 53)).alloc (.cells #[.slice B m d, .int .u64 (g : Int)] 53)).alloc (.cells #[.slice none 0 0, .int .u64 0] 53) := ⟨_, rfl⟩
  have a2 : Arr W1 w.heap.size 53 [.slice A n c, .int .u64 (f : Int)] := by rw [hW1]; exact ((Arr.make _ _ _).grow ((Grows.refl _).new _)).grow ((Grows.refl _).new _)
  have a3 : Arr W1 (w.heap.size + 1) 53 [.slice B m d, .int .u64 (g : Int)] := by
    have h1 := (Arr.make (w.alloc (.cells #[.slice A n c, .int .u64 (f : Int)] 53)) [.slice B m d, .int .u64 (g : Int)] 53).grow ((Grows.refl _).new (.cells #[.slice none 0 0, .int .u64 0] 53))
    rw [hW1]
    simpa using h1
  have a4 : Arr W1 (w.heap.size + 1 + 1) 53 [.slice none 0 0, .int .u64 0] := by
    have h1 := Arr.make ((w.alloc (.cells #[.slice A n c, .int .u64 (f : Int)] 53)).alloc (.cells #[.slice B m d, .int .u64 (g : Int)] 53)) [.slice none 0 0, .int .u64 0] 53
    rw [hW1]
    simpa using h1
  have hgW : Grows w W1 := by rw [hW1]; exact (((Grows.refl _).new _).new _).new _
  have hz4 : w.heap.size + 1 + 1 < W1.heap.size := a4.lt
  rw [← hW1]
  clear hW1
  obtain ⟨b4, hb4⟩ : ∃ b4, b4 = w.heap.size + 1 + 1 := ⟨_, rfl⟩
  have HB4 := hide (show w.heap.size ≤ b4 by omega)
  rw [← hb4] at a4 hz4 ⊢
  clear hb4
  generalize w.heap.size + 1 = b3 at *
  obtain ⟨b2, hb2⟩ : ∃ b2, b2 = w.heap.size := ⟨_, rfl⟩
  rw [← hb2] at a2 ⊢
  clear hb2
  obtain ⟨y1, rfl⟩ := hgW.later
  clear hgW
  refine wp_region_tail1 12 (by kernel_rfl) (by kernel_rfl) ?_
  simp only [List.take_succ_cons, List.take_zero, List.drop_succ_cons, List.drop_zero]
  (repeat' (first | (refine gLex_val0 rfl (by kernel_rfl) (fun K hK => ?_); (go_simp; (try (simp only [↓IntWalk.iteOmega]; try go_simp)); (try simp (disch := omega) only [IntWalk.i64_in]); (try simp (disch := omega) only [IntWalk.u64_in]); first | (refine hK _ ?_; clear hK K) | (apply Exists.intro; refine ⟨fun x => ?_, hK _ ?_⟩; (first | fail); clear hK K))) | (refine gLex_undef rfl rfl rfl (by kernel_rfl) (fun K hK => ?_); go_simp; refine hK _ ?_; clear hK K) | (refine gLex_ask rfl rfl rfl ?_; first | (apply gAsk_yes; kernel_rfl; intro K hK; (go_simp; (try (simp only [↓IntWalk.iteOmega]; try go_simp)); (try simp (disch := omega) only [IntWalk.i64_in]); (try simp (disch := omega) only [IntWalk.u64_in]); first | (refine hK _ ?_; clear hK K) | (apply Exists.intro; refine ⟨fun x => ?_, hK _ ?_⟩; (first | fail); clear hK K))) | ((first | apply gAsk_no1 | apply gAsk_no2); kernel_rfl; intro K hK; simp [go_sem]; refine hK _ ?_; clear hK K))))
  refine gLex_prop rfl (by kernel_rfl) rfl (by simp) (TwoQ (.slice A n c) (.slice B m d)) (TwoQ.lasts _ _) (fun x => by
    have a := Arr.make x.now [.slice A n c, .slice B m d] 22
    go_simp
    exact ⟨(Grows.refl _).new _, _, rfl, a⟩) ?_
  refine gLex_dep (t0 := 9) (by kernel_rfl) (by kernel_rfl) rfl (by simp) rfl (by simp) (OwnP (fun u => u) y1.now.heap.size (n + m) (l ++ l')) (OwnP.lasts _ _ _ _) (fun x u hu => by
    obtain ⟨q, rfl, ha⟩ := hu
    have CC2 := hide (CC.out q _ (y1.grows.trans x.grows) ha)
    clear ha
    go_simp
    refine CC2.out.mono ?_
    rintro e w' ⟨A1, c1, rfl, ho, hg⟩
    exact ⟨_, rfl, hg, A1, c1, rfl, ho.base x.size⟩) ?_
  (repeat' (first | (refine gLex_val0 rfl (by kernel_rfl) (fun K hK => ?_); (go_simp; (try (simp only [↓IntWalk.iteOmega]; try go_simp)); (try simp (disch := omega) only [IntWalk.i64_in]); (try simp (disch := omega) only [IntWalk.u64_in]); first | (refine hK _ ?_; clear hK K) | (apply Exists.intro; refine ⟨fun x => ?_, hK _ ?_⟩; (first | fail); clear hK K))) | (refine gLex_undef rfl rfl rfl (by kernel_rfl) (fun K hK => ?_); go_simp; refine hK _ ?_; clear hK K) | (refine gLex_ask rfl rfl rfl ?_; first | (apply gAsk_yes; kernel_rfl; intro K hK; (go_simp; (try (simp only [↓IntWalk.iteOmega]; try go_simp)); (try simp (disch := omega) only [IntWalk.i64_in]); (try simp (disch := omega) only [IntWalk.u64_in]); first | (refine hK _ ?_; clear hK K) | (apply Exists.intro; refine ⟨fun x => ?_, hK _ ?_⟩; (first | fail); clear hK K))) | ((first | apply gAsk_no1 | apply gAsk_no2); kernel_rfl; intro K hK; simp [go_sem]; refine hK _ ?_; clear hK K))))
  refine gLex_dep (t0 := 10) (by kernel_rfl) (by kernel_rfl) rfl (by simp) rfl (by simp) (OwnP (fun u => .agg #[u, .int .u64 ((f + g : Nat) : Int)]) y1.now.heap.size (n + m) (l ++ l')) (OwnP.lasts _ _ _ _) (fun x u hu => by
    obtain ⟨A1, c1, rfl, ho⟩ := hu
    go_simp
    exact ⟨A1, c1, rfl, ho⟩) ?_
  refine gLex_endS (fun y5 => ?_)
  refine AtS.pop rfl (by simp) (fun z1 hz1 => ?_)
  refine AtS.pop rfl (by simp [Act.put]) (fun z2 _ => ?_)
  refine AtS.pop rfl (by simp [Act.put]) (fun z3 _ => ?_)
  refine AtS.base ?_
  obtain ⟨A1, c1, rfl, ho⟩ := hz1
  have HO := hide ho
  clear ho
  simp only [Act.put, List.setIfInBounds_toArray, List.set_cons_zero, List.set_cons_succ]
  go_wp2_with fail
  have hb4w : w.heap.size ≤ b4 := HB4.out
  have hg5 : Grows w ((y5.now.setCell ⟨b4, 0, none⟩ (.slice A1 (n + m) c1)).setCell ⟨b4, 1, none⟩ (.int .u64 ((f + g : Nat) : Int))) := GG
  have HO2 := hide (((HO.out.low (q := ⟨b4, 0, none⟩) (by simpa using hz4) (.slice A1 (n + m) c1)).low (q := ⟨b4, 1, none⟩) (by simpa using hz4) (.int .u64 ((f + g : Nat) : Int))).base (B' := 0) (Nat.zero_le _))
  exact bodyPost_ret (v := .agg #[.slice A1 (n + m) c1, .int .u64 ((f + g : Nat) : Int)]) (by simp (maxDischargeDepth := 6) [results, Tryz.results147, go_sem]) rfl ⟨A1, c1, rfl, HO2.out, hg5⟩
end Go.Proofs.YtgplpgldhoelcaaGreat

namespace Go.Proofs.YtgplpgldhoelcaaGreat
open Go Go.RowKit
section
variable {P : Program} {w0 : World} {ops : Array Oper} {Q : Act → Env → Prop} {a : Act} {G : Env} {o : Oper} {rest : List Oper}
theorem dep_exec {a' : Act} {t0 : Tmp} {v : Value} (h5 : ∀ cs b, o.op ≠ .select cs b) (ht0 : t0 < a.tmps.size) (hv : a'.tmps[t0]? = some v) (h : ∀ t ∈ o.looksAt ops, t = t0 ∨ a'.tmps[t]? = a.tmps[t]?) : execOp a'.eval o = execOp (a.put (some t0) v).eval o := by
  refine execOp_congr o h5 fun x hx => ?_
  cases x with
  | tmp t =>
    have ht : t ∈ o.looksAt ops := List.mem_append_left _ (List.mem_filterMap.2 ⟨.tmp t, by simpa using hx, rfl⟩)
    have h' : a'.tmps[t]? = (a.put (some t0) v).tmps[t]? := by
      by_cases e : t = t0
      · subst e
        rw [hv]
        simp [Act.put, ht0]
      · rw [(h t ht).resolve_left e]
        simp [Act.put, Array.getElem?_setIfInBounds_ne (Ne.symm e)]
    simp only [Act.eval, Array.getD_eq_getD_getElem?, h']
  | _ => rfl
theorem gLex_depV {t0 : Tmp} {p0 : Pr} (hw : Region.wanted o (yielded ops a.tmps) = true) (hp : depB ops o G t0 = true) (h0 : G t0 = some p0) (ht0 : t0 < a.tmps.size) (v : Value)
    (hr : ∀ (x : Later w0) (u : Value), p0 u x.now → runsTo P (fun u' w' => Grows x.now w' ∧ u' = v) ((execOp (a.put (some t0) u).eval o).run P x.now))
    (h : gLex P ops w0 Q rest (a.put o.dst v) G) : gLex P ops w0 Q (o :: rest) a G := by
  obtain ⟨h1, h2, h3, h4, h5⟩ := dep_spec hp
  refine ⟨.inl v, ⟨h1, h2, .inl ⟨hw, trivial, trivial, fun w hw a' ha' => ?_⟩⟩, ?_⟩
  · have hv := ha' t0 h4
    unfold relAt at hv
    rw [h0] at hv
    obtain ⟨u, hv, hpv⟩ := hv
    rw [dep_exec h5 ht0 hv (fun t ht => (h3 t ht).imp id (fun e => by
      have h6 := ha' t ht
      unfold relAt at h6
      rw [e] at h6
      exact h6))]
    exact hr ⟨w, hw⟩ u hpv
  · have : putG G o.dst (.inl v) = G := by cases o.dst <;> rfl
    rw [this]
    exact h
def AtA (Q : Exit → Act → World → Prop) (a : Act) (G : Env) (w' : World) : Prop := ∀ a', Conc G a a' w' → Q .normal a' w'
theorem AtA.pop {Q : Exit → Act → World → Prop} {w' : World} {t : Tmp} {p : Pr} (hG : G t = none) (ht : t < a.tmps.size) (h : ∀ v, p v w' → AtA Q (a.put (some t) v) G w') : AtA Q a (G.upd t p) w' := fun a' hc => by
  obtain ⟨v, hv⟩ := conc_upd hc ht
  rcases hv with ⟨hp, hc2⟩ | hne
  · exact h v hp a' hc2
  · exact absurd hG hne
theorem AtA.base {Q : Exit → Act → World → Prop} {w' : World} (h : Q .normal a w') : AtA Q a Env.no w' := fun a' hc => by rw [conc_no hc]; exact h
end
end Go.Proofs.YtgplpgldhoelcaaGreat

namespace Go.Proofs.YtgplpgldhoelcaaGreat
open Go Go.RowKit
section
variable {P : Program} {w0 : World} {ops : Array Oper} {Q : Act → Env → Prop} {a : Act} {G : Env} {o : Oper} {rest : List Oper}
theorem gLex_propG {t : Tmp} (hw : Region.wanted o (yielded ops a.tmps) = true) (hp : plainB ops o G = true) (hd : o.dst = some t) (hlt : t < a.tmps.size)
    (p : Pr) (hl : Lasts p) (hr : ∀ x : Later w0, runsTo P (fun u w' => Grows x.now w' ∧ p u w') ((execOp a.eval o).run P x.now))
    (h : gLex P ops w0 Q rest a (G.upd t p)) : gLex P ops w0 Q (o :: rest) a G := by
  obtain ⟨h1, h2, h3, h4⟩ := plain_spec hp
  refine ⟨.inr p, ⟨h1, h2, .inl ⟨hw, hl, ⟨t, hd, hlt⟩, fun w hw a' ha' => ?_⟩⟩, ?_⟩
  · rw [exec_same h4 h3 ha']
    exact hr ⟨w, hw⟩
  · rw [hd]
    exact h
def AtB (Q : Exit → Act → World → Prop) (a : Act) (G : Env) (w' : World) : Prop := ∀ a', Conc G a a' w' → Q .normal a' w'
theorem AtB.pop {Q : Exit → Act → World → Prop} {w' : World} {t : Tmp} {p : Pr} (hG : G t = none) (ht : t < a.tmps.size) (h : ∀ v, p v w' → AtB Q (a.put (some t) v) G w') : AtB Q a (G.upd t p) w' := fun a' hc => by
  obtain ⟨v, hv⟩ := conc_upd hc ht
  rcases hv with ⟨hp, hc2⟩ | hne
  · exact h v hp a' hc2
  · exact absurd hG hne
theorem AtB.base {Q : Exit → Act → World → Prop} {w' : World} (h : Q .normal a w') : AtB Q a Env.no w' := fun a' hc => by rw [conc_no hc]; exact h
theorem gLex_endB {Q : Exit → Act → World → Prop} (h : ∀ x : Later w0, AtB Q a G x.now) : gLex P ops w0 (fun a G => ∀ w', Grows w0 w' → ∀ a', Conc G a a' w' → Q .normal a' w') [] a G := fun w' hw a' hc => h ⟨w', hw⟩ a' hc
end
def BRow (n : Nat) (L : List Bool) : Pr := fun u w => ∃ g, u = .slice (some ⟨g, 0, none⟩) n n ∧ Arr w g 4 (L.map .bool)
theorem BRow.lasts (n : Nat) (L : List Bool) : Lasts (BRow n L) := fun _ _ _ hg ⟨g, e, h⟩ => ⟨g, e, h.grow hg⟩
end Go.Proofs.YtgplpgldhoelcaaGreat

