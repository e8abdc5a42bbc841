/- The law CanonAll: for every input it returns true, and each argument reads as before. No condition. -/
import Derived.Test.YthjcbboignmknaaQCanonAll19
import Derived.Test.YthjcbboignmknaaQCanonAll15
/- The law CanonAll, walked: the shortest ways to all nodes. -/
namespace Go.Proofs.Ythjcbboignmknaa
open Go Go.RowKit
theorem rtFlat_at : ∀ (rs : List Rt) (i : Nat), (rs.flatMap rtC)[i * 2]? = (rs[i]?).map (fun r => Value.slice r.1 r.2.2.1.length r.2.1) ∧ (rs.flatMap rtC)[i * 2 + 1]? = (rs[i]?).map (fun r => Value.int .u64 (r.2.2.2 : Int))
  | [], i => by simp
  | r :: rs, 0 => by simp [rtC]
  | r :: rs, i + 1 => by
    have h := rtFlat_at rs i
    have e1 : (i + 1) * 2 = i * 2 + 2 := by omega
    rw [List.flatMap_cons, e1]
    have e2 : ∀ j, (rtC r ++ rs.flatMap rtC)[j + 2]? = (rs.flatMap rtC)[j]? := fun j => by
      rw [List.getElem?_append_right (by simp [rtC])]
      simp [rtC]
    rw [e2, show i * 2 + 2 + 1 = (i * 2 + 1) + 2 by omega, e2]
    simpa using h
theorem RtsAt.at {w : World} {B : Nat} {A : Option Addr} {c : Nat} {rs : List Rt} {ps : List (List Nat × Nat)} (h : RtsAt w B A c rs ps) {i : Nat} {r : Rt} (hi : rs[i]? = some r) :
    ∃ g, A = some ⟨g, 0, none⟩ ∧ Holds w ⟨g, i * 2, none⟩ (.slice r.1 r.2.2.1.length r.2.1) ∧ Holds w ⟨g, i * 2 + 1, none⟩ (.int .u64 (r.2.2.2 : Int)) ∧ Own w 0 3 1 r.1 r.2.2.1.length r.2.1 (nv r.2.2.1) := by
  have hl : 0 < rs.length := by
    have := (List.getElem?_eq_some_iff.1 hi).1
    omega
  obtain ⟨g, cur, rfl, _⟩ := h.own.at_ hl
  have h1 := rtFlat_at rs i
  rw [hi] at h1
  exact ⟨g, rfl, ⟨h.own.cell rfl h1.1⟩, ⟨h.own.cell rfl h1.2⟩, h.rows r (List.mem_of_getElem? hi)⟩
set_option maxRecDepth 20000 in
set_option maxHeartbeats 4000000 in
theorem r8RoutesEq (B1 B2 : Nat) (A A2 : Option Addr) (c c2 : Nat) (rs rs2 : List Rt) (ps : List (List Nat × Nat)) (w : World) (h : RtsAt w B1 A c rs ps) (h2 : RtsAt w B2 A2 c2 rs2 ps) (hn : ps.length ≤ 1000000) (hl : ∀ p, p ∈ ps → p.1.length ≤ 1000000) :
    Calls Try.prog 28 #[.slice A rs.length c, .slice A2 rs2.length c2] w fun e w' => e = .returned (.bool true) ∧ Grows w w' := by
  have e1 := h.len
  have e2 := h2.len
  have HH := hide h
  have HH2 := hide h2
  have HL := hide hl
  rw [e1, e2]
  have E1 := hide e1
  have E2 := hide e2
  clear h h2 hl e1 e2
  obtain ⟨n, hnn⟩ : ∃ n, ps.length = n := ⟨_, rfl⟩
  rw [hnn] at hn E1 E2 ⊢
  have HN := hide hnn
  clear hnn
  go_enter Try.func28, Try.ntmps28
  go_wp2_with fail
  go_loopw [5] (fun i wr => ∃ k : Nat, k ≤ n ∧ i = .int .i64 (k : Int) ∧ (∃ x : Later w, wr = x.now)) (fun i _ => n - (intOf i).toNat)
  case atStart => exact ⟨0, by omega, by go_num, ⟨⟨w, Grows.refl w⟩, rfl⟩⟩
  case round =>
    obtain ⟨q, hq, rfl, ⟨x, rfl⟩⟩ := hrel
    by_cases hend : n ≤ q
    · go_wp2_with fail
      go_ret
      exact ⟨rfl, (by repeat (first | exact Grows.refl _ | refine Grows.now ?_ _ | refine Grows.new ?_ _ | refine Grows.drewN ?_ _ | refine Grows.drew ?_ | assumption | (refine Grows.set ?_ (by first | omega | (simp; done) | (simp; omega)) _)))⟩
    · obtain ⟨r, hr⟩ : ∃ r, rs[q]? = some r := ⟨rs[q]'(by have := E1.out; omega), by simp⟩
      obtain ⟨r2, hr2⟩ : ∃ r, rs2[q]? = some r := ⟨rs2[q]'(by have := E2.out; omega), by simp⟩
      have hp : ps[q]? = some (r.2.2.1, r.2.2.2) := by rw [← HH.out.eqs, List.getElem?_map, hr]; rfl
      have hp2 : ps[q]? = some (r2.2.2.1, r2.2.2.2) := by rw [← HH2.out.eqs, List.getElem?_map, hr2]; rfl
      rw [hp] at hp2
      injection hp2 with hp2
      injection hp2 with hp3 hp4
      have hlr := HL.out _ (List.mem_of_getElem? hp)
      obtain ⟨g, hA, k1, k2, o1⟩ := HH.out.at hr
      obtain ⟨g2, hA2, m1, m2, o2⟩ := HH2.out.at hr2
      subst hA hA2
      obtain ⟨A8, c8, l8, f8⟩ := r
      obtain ⟨A9, c9, l9, f9⟩ := r2
      simp only at hp3 hp4 k1 k2 m1 m2 o1 o2 hlr
      subst hp3 hp4
      have e9 : nv l8 = (l8.map fun (i : Nat) => (i : Int)).map (.int .i64) := by unfold nv; rw [List.map_map]; rfl
      have C1 := hide (fun (W1 : World) (g : Grows w W1) => show Calls Try.prog 84 #[.agg #[.slice A8 l8.length c8, .int .u64 (f8 : Int)], .agg #[.slice A9 l8.length c9, .int .u64 (f8 : Int)]] W1 fun e w' => e = .returned (.int .i64 0) ∧ Grows W1 w' from by
        have h1 := o1.rd.grows g
        have h2 := o2.rd.grows g
        rw [e9] at h1 h2
        exact r8CmpEq A8 l8.length c8 _ A9 c9 f8 W1 h1 hlr h2)
      clear hp hr hr2 o1 o2 e9 hlr
      go_wp2_with fail
      ((first | refine wp_region_gen2 (by kernel_rfl) (by kernel_rfl) ?_ | refine wp_region_gen (by kernel_rfl) (by kernel_rfl) ?_); (repeat' (first | (refine gLex_val0 rfl (by kernel_rfl) (fun K hK => ?_); (go_simp; (try (simp only [↓IntWalk.iteOmega]; try go_simp)); (try simp (disch := omega) only [IntWalk.i64_in]); (try simp (disch := omega) only [IntWalk.u64_in]); first | (refine hK _ ?_; clear hK K) | (apply Exists.intro; refine ⟨fun x => ?_, hK _ ?_⟩; (first | (go_at_call 84; exact C1.out _ (by repeat (first | exact Grows.refl _ | refine Grows.now ?_ _ | refine Grows.new ?_ _ | refine Grows.drewN ?_ _ | refine Grows.drew ?_ | assumption | (refine Grows.set ?_ (by first | omega | (simp; done) | (simp; omega)) _))))); clear hK K))) | (refine gLex_undef rfl rfl rfl (by kernel_rfl) (fun K hK => ?_); go_simp; refine hK _ ?_; clear hK K) | (refine gLex_ask rfl rfl rfl ?_; first | (apply gAsk_yes; kernel_rfl; intro K hK; (go_simp; (try (simp only [↓IntWalk.iteOmega]; try go_simp)); (try simp (disch := omega) only [IntWalk.i64_in]); (try simp (disch := omega) only [IntWalk.u64_in]); first | (refine hK _ ?_; clear hK K) | (apply Exists.intro; refine ⟨fun x => ?_, hK _ ?_⟩; (first | (go_at_call 84; exact C1.out _ (by repeat (first | exact Grows.refl _ | refine Grows.now ?_ _ | refine Grows.new ?_ _ | refine Grows.drewN ?_ _ | refine Grows.drew ?_ | assumption | (refine Grows.set ?_ (by first | omega | (simp; done) | (simp; omega)) _))))); clear hK K))) | ((first | apply gAsk_no1 | apply gAsk_no2); kernel_rfl; intro K hK; simp [go_sem]; refine hK _ ?_; clear hK K) | (apply gAsk_part; kernel_rfl; all_goals (intro h K hK; (try simp only [Bool.not_true] at h); (try simp only [Bool.not_false] at h); (try simp only [decide_eq_true_eq] at h); (try simp only [decide_eq_false_iff_not] at h); first | (exfalso; first | contradiction | omega) | (go_simp; (try (simp only [↓IntWalk.iteOmega]; try go_simp)); (try simp (disch := omega) only [IntWalk.i64_in]); (try simp (disch := omega) only [IntWalk.u64_in]); first | (refine hK _ ?_; clear hK K) | (apply Exists.intro; refine ⟨fun x => ?_, hK _ ?_⟩; (first | (go_at_call 84; exact C1.out _ (by repeat (first | exact Grows.refl _ | refine Grows.now ?_ _ | refine Grows.new ?_ _ | refine Grows.drewN ?_ _ | refine Grows.drew ?_ | assumption | (refine Grows.set ?_ (by first | omega | (simp; done) | (simp; omega)) _))))); clear hK K))))))); all_goals ((apply gLex_end); intro y))
      go_wp2_with fail
      go_roundw
      case measure => simp [intOf]; omega
      case rel => exact ⟨q + 1, by omega, by go_num, ⟨⟨_, (by repeat (first | exact Grows.refl _ | refine Grows.now ?_ _ | refine Grows.new ?_ _ | refine Grows.drewN ?_ _ | refine Grows.drew ?_ | assumption | (refine Grows.set ?_ (by first | omega | (simp; done) | (simp; omega)) _)))⟩, rfl⟩⟩
set_option maxRecDepth 20000 in
set_option maxHeartbeats 4000000 in
theorem caToNo (N s : Int) (A : Option Addr) (c : Nat) (E : List Edg) (o : DOpt) (An Ae Aw : Option Addr) (cn ce cw : Nat) (w : World) (h : Rd w A 3 E.length (esCells E)) (h4 : Rd w Aw 1 o.W.length (wv o.W)) (hn : E.length ≤ 1000000) (hn3 : o.W.length ≤ 1000000) (hd : dcF N s E o.W ≠ 0) :
    Calls Try.prog 24 #[.agg #[.int .i64 N, .slice A E.length c], .int .i64 s, oVal o.back (.slice An o.nn.length cn) (.slice Ae o.ne.length ce) Aw o.W.length cw o.most] w fun e w' =>
      e = .returned (.tuple #[.slice none 0 0, .int .i64 (dcF N s E o.W)]) ∧ Grows w w' := by
  have C1 := hide (fun (W : World) => show Calls Try.prog 83 #[.agg #[.bool o.back, .slice An o.nn.length cn, .slice Ae o.ne.length ce, .slice Aw o.W.length cw, .int .u64 (o.most : Int)]] W fun e w' => e = .returned (.agg #[.bool false, .slice An o.nn.length cn, .slice Ae o.ne.length ce, .slice Aw o.W.length cw, .int .u64 0]) ∧ Grows W w' from caPlain o.back An o.nn.length cn Ae o.ne.length ce Aw o.W.length cw o.most W)
  have C2 := hide (fun (W : World) (g : Grows w W) => show Calls Try.prog 82 #[.agg #[.int .i64 N, .slice A E.length c], .int .i64 s, .agg #[.bool false, .slice An o.nn.length cn, .slice Ae o.ne.length ce, .slice Aw o.W.length cw, .int .u64 0]] W fun e w' => e = .returned (.int .i64 (dcF N s E o.W)) ∧ Grows W w' from
    djCheck N s A E.length c E false (.slice An o.nn.length cn) (.slice Ae o.ne.length ce) Aw o.W.length cw 0 o.W W (h.grows g) (h4.grows g) hn hn3)
  have hr2 : (dcF N s E o.W == 0) = false := beq_eq_false_iff_ne.2 hd
  unfold oVal
  clear h h4 hd
  generalize dcF N s E o.W = r at *
  generalize o.most = mo at *
  generalize o.back = back at *
  go_enter Try.func24, Try.ntmps24
  go_wp2_with fail
  ((first | refine wp_region_gen2 (by kernel_rfl) (by kernel_rfl) ?_ | refine wp_region_gen (by kernel_rfl) (by kernel_rfl) ?_); (repeat' (first | (refine gLex_val0 rfl (by kernel_rfl) (fun K hK => ?_); (go_simp; (try (simp only [↓IntWalk.iteOmega]; try go_simp)); (try simp (disch := omega) only [IntWalk.i64_in]); (try simp (disch := omega) only [IntWalk.u64_in]); first | (refine hK _ ?_; clear hK K) | (apply Exists.intro; refine ⟨fun x => ?_, hK _ ?_⟩; (first | (go_at_call 83; exact C1.out _) | (go_at_call 82; exact C2.out _ (by repeat (first | exact Grows.refl _ | refine Grows.now ?_ _ | refine Grows.new ?_ _ | refine Grows.drewN ?_ _ | refine Grows.drew ?_ | assumption | (refine Grows.set ?_ (by first | omega | (simp; done) | (simp; omega)) _))))); clear hK K))) | (refine gLex_undef rfl rfl rfl (by kernel_rfl) (fun K hK => ?_); go_simp; refine hK _ ?_; clear hK K) | (refine gLex_ask rfl rfl rfl ?_; first | (apply gAsk_yes; kernel_rfl; intro K hK; (go_simp; (try (simp only [↓IntWalk.iteOmega]; try go_simp)); (try simp (disch := omega) only [IntWalk.i64_in]); (try simp (disch := omega) only [IntWalk.u64_in]); first | (refine hK _ ?_; clear hK K) | (apply Exists.intro; refine ⟨fun x => ?_, hK _ ?_⟩; (first | (go_at_call 83; exact C1.out _) | (go_at_call 82; exact C2.out _ (by repeat (first | exact Grows.refl _ | refine Grows.now ?_ _ | refine Grows.new ?_ _ | refine Grows.drewN ?_ _ | refine Grows.drew ?_ | assumption | (refine Grows.set ?_ (by first | omega | (simp; done) | (simp; omega)) _))))); clear hK K))) | ((first | apply gAsk_no1 | apply gAsk_no2); kernel_rfl; intro K hK; simp [go_sem]; refine hK _ ?_; clear hK K) | (apply gAsk_part; kernel_rfl; all_goals (intro h K hK; (try simp only [Bool.not_true] at h); (try simp only [Bool.not_false] at h); (try simp only [decide_eq_true_eq] at h); (try simp only [decide_eq_false_iff_not] at h); first | (exfalso; first | contradiction | omega) | (go_simp; (try (simp only [↓IntWalk.iteOmega]; try go_simp)); (try simp (disch := omega) only [IntWalk.i64_in]); (try simp (disch := omega) only [IntWalk.u64_in]); first | (refine hK _ ?_; clear hK K) | (apply Exists.intro; refine ⟨fun x => ?_, hK _ ?_⟩; (first | (go_at_call 83; exact C1.out _) | (go_at_call 82; exact C2.out _ (by repeat (first | exact Grows.refl _ | refine Grows.now ?_ _ | refine Grows.new ?_ _ | refine Grows.drewN ?_ _ | refine Grows.drew ?_ | assumption | (refine Grows.set ?_ (by first | omega | (simp; done) | (simp; omega)) _))))); clear hK K))))))); all_goals ((apply gLex_end); intro x))
  go_wp2_with fail
  refine bodyPost_ret (v := .tuple #[.slice none 0 0, .int .i64 r]) (by simp (maxDischargeDepth := 6) [results, Try.results24, go_sem, *]) rfl ?_
  exact ⟨rfl, (by repeat (first | exact Grows.refl _ | refine Grows.now ?_ _ | refine Grows.new ?_ _ | refine Grows.drewN ?_ _ | refine Grows.drew ?_ | assumption | (refine Grows.set ?_ (by first | omega | (simp; done) | (simp; omega)) _)))⟩
set_option maxRecDepth 40000 in
set_option maxHeartbeats 8000000 in
theorem canonAllW (N : Int) (A : Option Addr) (n c : Nat) (E : List Edg) (s : Int) (back : Bool) (A1 : Option Addr) (n1 c1 : Nat) (z1 : List Int) (A2 : Option Addr) (n2 c2 : Nat) (z2 : List Int) (A3 : Option Addr) (n3 c3 : Nat) (z3 : List Int) (most : Int) (w : World)
    (_ : I64 N) (_ : n ≤ c) (h : Rd w A 3 n (esCells E)) (_ : ∀ k, k < n → edgOk (ge E k)) (_ : I64 s) (hz1 : Rd w A1 1 n1 (z1.map (.int .i64)) ∧ ∀ z ∈ z1, (Lit.int .i64 z).wf = true) (hz2 : Rd w A2 1 n2 (z2.map (.int .i64)) ∧ ∀ z ∈ z2, (Lit.int .i64 z).wf = true) (hz3 : Rd w A3 1 n3 (z3.map (.int .u64)) ∧ ∀ z ∈ z3, (Lit.int .u64 z).wf = true) (hmo : U64 most) :
    Calls Try.prog 5 #[.agg #[.int .i64 N, .slice A n c], .int .i64 s, .agg #[.bool back, .slice A1 n1 c1, .slice A2 n2 c2, .slice A3 n3 c3, .int .u64 most]] w fun e w' => e = .returned (.bool true) ∧ Grows w w' := by
  obtain ⟨hz1, _⟩ := hz1
  obtain ⟨hz2, _⟩ := hz2
  obtain ⟨hz3, hwf⟩ := hz3
  rw [wv_of hwf] at hz3
  generalize z3.map Int.toNat = W at hz3
  unfold U64 at hmo
  obtain ⟨mo, rfl⟩ : ∃ mo : Nat, most = (mo : Int) := ⟨most.toNat, by omega⟩
  have e1 : z1.length = n1 := by simpa using hz1.len
  have e2 : z2.length = n2 := by simpa using hz2.len
  have e3 : W.length = n3 := hz3.wlen
  have e4 : E.length = n := h.elen
  subst e1 e2 e3 e4
  have CL := fun (W1 : World) => lLight14 N A E.length c back A1 A2 A3 z1.length c1 z2.length c2 W.length c3 mo W1
  unfold oVal at CL
  cases hq : light14 N E.length z1.length z2.length W.length with
  | false =>
    rw [hq] at CL
    have H1 := hide CL
    clear CL hq h hz1 hz2 hz3
    go_enter Try.func5, Try.ntmps5
    go_wp2_with (first | (go_at_call 22; refine (H1.out _).mono ?_; rintro e w' ⟨rfl, hg⟩; (first | obtain ⟨x, rfl⟩ := Grows.later2 hg | obtain ⟨x, rfl⟩ := Grows.later hg); clear hg) | (go_at_call 23; refine (alive15 _).mono ?_; rintro e w' ⟨rfl, hg⟩; (first | obtain ⟨x, rfl⟩ := Grows.later2 hg | obtain ⟨x, rfl⟩ := Grows.later hg); clear hg))
    go_ret
    exact ⟨rfl, (by repeat (first | exact Grows.refl _ | refine Grows.now ?_ _ | refine Grows.new ?_ _ | refine Grows.drewN ?_ _ | refine Grows.drew ?_ | assumption | (refine Grows.set ?_ (by first | omega | (simp; done) | (simp; omega)) _)))⟩
  | true =>
  rw [hq] at CL
  have H1 := hide CL
  have hsz : E.length ≤ 1000000 ∧ z1.length ≤ 1000000 ∧ z2.length ≤ 1000000 ∧ W.length ≤ 1000000 := by
    unfold light14 lightG at hq
    simp at hq
    omega
  obtain ⟨hn, hn1, hn2, hn3⟩ := hsz
  clear CL hq
  by_cases hbig : 20 < N ∧ N ≤ 4096
  · have hb1 : decide ((20 : Int) < N) = true := decide_eq_true hbig.1
    have hb2 : decide (N ≤ 4096) = true := decide_eq_true hbig.2
    clear h hz1 hz2 hz3 hbig
    go_enter Try.func5, Try.ntmps5
    go_wp2_with (first | (go_at_call 22; refine (H1.out _).mono ?_; rintro e w' ⟨rfl, hg⟩; (first | obtain ⟨x, rfl⟩ := Grows.later2 hg | obtain ⟨x, rfl⟩ := Grows.later hg); clear hg) | (go_at_call 23; refine (alive15 _).mono ?_; rintro e w' ⟨rfl, hg⟩; (first | obtain ⟨x, rfl⟩ := Grows.later2 hg | obtain ⟨x, rfl⟩ := Grows.later hg); clear hg))
    go_ret
    exact ⟨rfl, (by repeat (first | exact Grows.refl _ | refine Grows.now ?_ _ | refine Grows.new ?_ _ | refine Grows.drewN ?_ _ | refine Grows.drew ?_ | assumption | (refine Grows.set ?_ (by first | omega | (simp; done) | (simp; omega)) _)))⟩
  have KO := hide (fun (W1 : World) => law14Of back (.slice A1 z1.length c1) (.slice A2 z2.length c2) ⟨_, _, _, rfl⟩ ⟨_, _, _, rfl⟩ A3 W.length c3 mo W1)
  have KP := hide (fun (W1 : World) => show Calls Try.prog 26 #[.agg #[.bool back, .slice A1 z1.length c1, .slice A2 z2.length c2, .slice A3 W.length c3, .int .u64 (mo : Int)]] W1 fun e w' => e = .returned (.agg #[.bool false, .slice A1 z1.length c1, .slice A2 z2.length c2, .slice A3 W.length c3, .int .u64 0]) ∧ Grows W1 w' from r15Plain back A1 z1.length c1 A2 z2.length c2 A3 W.length c3 mo W1)
  have KQ := hide (fun (W1 : World) (g : Grows w W1) => show Calls Try.prog 25 #[.agg #[.int .i64 N, .slice A E.length c], .int .i64 s, .agg #[.bool false, .slice A1 z1.length c1, .slice A2 z2.length c2, .slice A3 W.length c3, .int .u64 0]] W1 fun e w' => e = .returned (.int .i64 (dcF N s E W)) ∧ Grows W1 w' from r14Check N s A E.length c E false (.slice A1 z1.length c1) (.slice A2 z2.length c2) A3 W.length c3 0 W W1 (h.grows g) (hz3.grows g) hn hn3)
  unfold oVal at KO
  have a1 : Arr ((w.alloc (.cells #[.int .i64 N, .slice A E.length c] 24)).alloc (.cells #[.bool back, .slice A1 z1.length c1, .slice A2 z2.length c2, .slice A3 W.length c3, .int .u64 (mo : Int)] 39)) w.heap.size 24 [.int .i64 N, .slice A E.length c] := (Arr.make w _ _).grow ((Grows.refl _).new _)
  have a2 : Arr ((w.alloc (.cells #[.int .i64 N, .slice A E.length c] 24)).alloc (.cells #[.bool back, .slice A1 z1.length c1, .slice A2 z2.length c2, .slice A3 W.length c3, .int .u64 (mo : Int)] 39)) (w.heap.size + 1) 39 [.bool back, .slice A1 z1.length c1, .slice A2 z2.length c2, .slice A3 W.length c3, .int .u64 (mo : Int)] := by
    have := Arr.make (w.alloc (.cells #[.int .i64 N, .slice A E.length c] 24)) [.bool back, .slice A1 z1.length c1, .slice A2 z2.length c2, .slice A3 W.length c3, .int .u64 (mo : Int)] 39
    rw [show (w.alloc (.cells #[.int .i64 N, .slice A E.length c] 24)).heap.size = w.heap.size + 1 by simp] at this
    exact this
  by_cases hd : dcF N s E W = 0
  · obtain ⟨rr, hs0, hsN, _, _⟩ := dc_ok hd
    obtain ⟨q1, q2, _, _, _⟩ := right_in rr
    obtain ⟨NN, rfl⟩ : ∃ NN : Nat, N = (NN : Int) := ⟨N.toNat, by omega⟩
    have hNb : NN ≤ 20 := by omega
    obtain ⟨F, hF⟩ := pth_all E ⟨back, z1, z2, W, mo⟩ NN s hn1 hn2
    have KT := hide (fun (W1 : World) (g : Grows w W1) => show Calls Try.prog 24 #[.agg #[.int .i64 (NN : Int), .slice A E.length c], .int .i64 s, .agg #[.bool back, .slice A1 z1.length c1, .slice A2 z2.length c2, .slice A3 W.length c3, .int .u64 (mo : Int)]] W1 fun e w' =>
        ∃ A' c' rs, e = .returned (.tuple #[.slice A' rs.length c', .int .i64 0]) ∧ RtsAt w' W1.heap.size A' c' rs (pthK F NN) ∧ Grows W1 w' from
      caTo NN s A c E ⟨back, z1, z2, W, mo⟩ A1 A2 A3 c1 c2 c3 F W1 (h.grows g) (hz1.grows g) (hz2.grows g) (hz3.grows g) hn hn3 (by omega) hd hF)
    have KR := hide (fun (W1 : World) (g : Grows w W1) => show Calls Try.prog 29 #[.agg #[.int .i64 (NN : Int), .slice A E.length c], .int .i64 s, .agg #[.bool back, .slice A1 z1.length c1, .slice A2 z2.length c2, .slice A3 W.length c3, .int .u64 (mo : Int)]] W1 fun e w' =>
        ∃ A' c' rs, e = .returned (.slice A' rs.length c') ∧ RtsAt w' W1.heap.size A' c' rs (pthK F NN) ∧ Grows W1 w' from
      r15To NN s A c E ⟨back, z1, z2, W, mo⟩ A1 A2 A3 c1 c2 c3 F W1 (h.grows g) (hz1.grows g) (hz2.grows g) (hz3.grows g) hn hn3 (by omega) hF)
    have HPL := hide (show (pthK F NN).length ≤ 1000000 ∧ ∀ p, p ∈ pthK F NN → p.1.length ≤ 1000000 from ⟨by simp [pthK]; omega, fun p hp => by
      unfold pthK at hp
      obtain ⟨t, _, rfl⟩ := List.mem_map.1 hp
      obtain ⟨r, hr⟩ := hF t
      have := hr.short.1
      omega⟩)
    have hb1 : decide ((20 : Int) < (NN : Int)) = false := decide_eq_false (by omega)
    rw [hd] at KQ
    clear h hz1 hz2 hz3 hn hn1 hn2 hn3 hd rr hs0 hsN q1 q2 hF hbig hNb
    generalize pthK F NN = PS at *
    go_enter Try.func5, Try.ntmps5
    go_wp2_with (go_at_call 22; refine (H1.out _).mono ?_; rintro e w' ⟨rfl, hg⟩; obtain ⟨x1, rfl⟩ := hg.later; clear hg)
    refine (KT.out _ (by repeat (first | exact Grows.refl _ | refine Grows.now ?_ _ | refine Grows.new ?_ _ | refine Grows.drewN ?_ _ | refine Grows.drew ?_ | assumption | (refine Grows.set ?_ (by first | omega | (simp; done) | (simp; omega)) _)))).mono ?_; rintro e w' ⟨A7, c7, rs7, rfl, hr7, hg⟩; obtain ⟨x3, rfl⟩ := Grows.later2 hg; have HR7 := hide hr7; clear hg hr7
    go_wp2_with fail
    ((first | refine wp_region_gen (by kernel_rfl) (by kernel_rfl) ?_); (repeat' (first | (refine gLex_val0 rfl (by kernel_rfl) (fun K hK => ?_); (go_simp; (try (simp only [↓IntWalk.iteOmega]; try go_simp)); (try simp (disch := omega) only [IntWalk.i64_in]); (try simp (disch := omega) only [IntWalk.u64_in]); first | (refine hK _ ?_; clear hK K) | (apply Exists.intro; refine ⟨fun x => ?_, hK _ ?_⟩; (first | (go_at_call 27; exact KO.out _) | (go_at_call 26; exact KP.out _) | (go_at_call 25; exact KQ.out _ (by repeat (first | exact Grows.refl _ | refine Grows.now ?_ _ | refine Grows.new ?_ _ | refine Grows.drewN ?_ _ | refine Grows.drew ?_ | assumption | (refine Grows.set ?_ (by first | omega | (simp; done) | (simp; omega)) _))))); clear hK K))) | (refine gLex_undef rfl rfl rfl (by kernel_rfl) (fun K hK => ?_); go_simp; refine hK _ ?_; clear hK K) | (refine gLex_ask rfl rfl rfl ?_; first | (apply gAsk_yes; kernel_rfl; intro K hK; (go_simp; (try (simp only [↓IntWalk.iteOmega]; try go_simp)); (try simp (disch := omega) only [IntWalk.i64_in]); (try simp (disch := omega) only [IntWalk.u64_in]); first | (refine hK _ ?_; clear hK K) | (apply Exists.intro; refine ⟨fun x => ?_, hK _ ?_⟩; (first | (go_at_call 27; exact KO.out _) | (go_at_call 26; exact KP.out _) | (go_at_call 25; exact KQ.out _ (by repeat (first | exact Grows.refl _ | refine Grows.now ?_ _ | refine Grows.new ?_ _ | refine Grows.drewN ?_ _ | refine Grows.drew ?_ | assumption | (refine Grows.set ?_ (by first | omega | (simp; done) | (simp; omega)) _))))); clear hK K))) | ((first | apply gAsk_no1 | apply gAsk_no2); kernel_rfl; intro K hK; simp [go_sem]; refine hK _ ?_; clear hK K) | (apply gAsk_part; kernel_rfl; all_goals (intro h K hK; (try simp only [Bool.not_true] at h); (try simp only [Bool.not_false] at h); (try simp only [decide_eq_true_eq] at h); (try simp only [decide_eq_false_iff_not] at h); first | (exfalso; first | contradiction | omega) | (go_simp; (try (simp only [↓IntWalk.iteOmega]; try go_simp)); (try simp (disch := omega) only [IntWalk.i64_in]); (try simp (disch := omega) only [IntWalk.u64_in]); first | (refine hK _ ?_; clear hK K) | (apply Exists.intro; refine ⟨fun x => ?_, hK _ ?_⟩; (first | (go_at_call 27; exact KO.out _) | (go_at_call 26; exact KP.out _) | (go_at_call 25; exact KQ.out _ (by repeat (first | exact Grows.refl _ | refine Grows.now ?_ _ | refine Grows.new ?_ _ | refine Grows.drewN ?_ _ | refine Grows.drew ?_ | assumption | (refine Grows.set ?_ (by first | omega | (simp; done) | (simp; omega)) _))))); clear hK K))))))); all_goals ((apply gLex_end); intro x4))
    go_upto_region 7 with fail
    (refine wp_region_tail1 9 (by kernel_rfl) (by kernel_rfl) ?_; simp only [List.take_succ_cons, List.take_zero, List.drop_succ_cons, List.drop_zero]; (repeat' (first | (refine gLex_val0 rfl (by kernel_rfl) (fun K hK => ?_); (go_simp; (try (simp only [↓IntWalk.iteOmega]; try go_simp)); (try simp (disch := omega) only [IntWalk.i64_in]); (try simp (disch := omega) only [IntWalk.u64_in]); first | (refine hK _ ?_; clear hK K) | (apply Exists.intro; refine ⟨fun x => ?_, hK _ ?_⟩; (first | (go_at_call 27; exact KO.out _)); clear hK K))) | (refine gLex_undef rfl rfl rfl (by kernel_rfl) (fun K hK => ?_); go_simp; refine hK _ ?_; clear hK K) | (refine gLex_ask rfl rfl rfl ?_; first | (apply gAsk_yes; kernel_rfl; intro K hK; (go_simp; (try (simp only [↓IntWalk.iteOmega]; try go_simp)); (try simp (disch := omega) only [IntWalk.i64_in]); (try simp (disch := omega) only [IntWalk.u64_in]); first | (refine hK _ ?_; clear hK K) | (apply Exists.intro; refine ⟨fun x => ?_, hK _ ?_⟩; (first | (go_at_call 27; exact KO.out _)); clear hK K))) | ((first | apply gAsk_no1 | apply gAsk_no2); kernel_rfl; intro K hK; simp [go_sem]; refine hK _ ?_; clear hK K)))))
    refine gLex_propW (by kernel_rfl) (by kernel_rfl) rfl (by simp) (fun u w' => ∃ (A' : Option Addr) (c' : Nat) (rs : List Rt), u = .slice A' rs.length c' ∧ RtsAt w' 0 A' c' rs PS) (fun _ _ _ hg ⟨A', c', rs, e, h⟩ => ⟨A', c', rs, e, h.grows hg⟩) (fun y => by
      go_simp
      refine (KR.out _ (by repeat (first | exact Grows.refl _ | refine Grows.now ?_ _ | refine Grows.new ?_ _ | refine Grows.drewN ?_ _ | refine Grows.drew ?_ | assumption | (refine Grows.set ?_ (by first | omega | (simp; done) | (simp; omega)) _)))).mono ?_
      rintro e w' ⟨A8, c8, rs8, rfl, hr, hg⟩
      exact ⟨_, rfl, hg, A8, c8, rs8, rfl, ⟨hr.own.base (Nat.zero_le _), hr.rows, hr.eqs⟩⟩) ?_
    refine gLex_endW (fun y6 => ?_)
    refine AtW.pop rfl (by simp) (fun v2 hv2 => ?_)
    refine AtW.base ?_
    obtain ⟨A8, c8, rs8, rfl, hr8⟩ := hv2
    have K6 := hide (fun (W1 : World) (g3 : Grows x3.now W1) (g6 : Grows y6.now W1) => r8RoutesEq _ _ A7 A8 c7 c8 rs7 rs8 PS W1 (HR7.out.grows g3) (hr8.grows g6) HPL.out.1 HPL.out.2)
    clear hr8
    simp only [Act.put, List.setIfInBounds_toArray, List.set_cons_zero, List.set_cons_succ]
    go_wp2_with fail
    refine (K6.out _ (by repeat (first | exact Grows.refl _ | refine Grows.now ?_ _ | refine Grows.new ?_ _ | refine Grows.drewN ?_ _ | refine Grows.drew ?_ | assumption | (refine Grows.set ?_ (by first | omega | (simp; done) | (simp; omega)) _))) (by repeat (first | exact Grows.refl _ | refine Grows.now ?_ _ | refine Grows.new ?_ _ | refine Grows.drewN ?_ _ | refine Grows.drew ?_ | assumption | (refine Grows.set ?_ (by first | omega | (simp; done) | (simp; omega)) _)))).mono ?_; rintro e w' ⟨rfl, hg⟩; obtain ⟨x10, hx10⟩ : ∃ x10 : Later y6.now, w' = x10.now := hg.later; subst hx10; clear hg
    go_wp2_with fail
    refine (alive15 _).mono ?_; rintro e w' ⟨rfl, hg⟩; obtain ⟨x7, rfl⟩ := Grows.later2 hg; clear hg
    go_wp2_with fail
    go_ret
    exact ⟨rfl, (by repeat (first | exact Grows.refl _ | refine Grows.now ?_ _ | refine Grows.new ?_ _ | refine Grows.drewN ?_ _ | refine Grows.drew ?_ | assumption | (refine Grows.set ?_ (by first | omega | (simp; done) | (simp; omega)) _)))⟩
  · have KT := hide (fun (W1 : World) (g : Grows w W1) => show Calls Try.prog 24 #[.agg #[.int .i64 N, .slice A E.length c], .int .i64 s, .agg #[.bool back, .slice A1 z1.length c1, .slice A2 z2.length c2, .slice A3 W.length c3, .int .u64 (mo : Int)]] W1 fun e w' =>
        e = .returned (.tuple #[.slice none 0 0, .int .i64 (dcF N s E W)]) ∧ Grows W1 w' from
      caToNo N s A c E ⟨back, z1, z2, W, mo⟩ A1 A2 A3 c1 c2 c3 W1 (h.grows g) (hz3.grows g) hn hn3 hd)
    have hr2 : (dcF N s E W == 0) = false := beq_eq_false_iff_ne.2 hd
    clear h hz1 hz2 hz3 hn hn1 hn2 hn3 hd
    generalize dcF N s E W = r at *
    by_cases h20 : 20 < N
    · have hb1 : decide ((20 : Int) < N) = true := decide_eq_true h20
      have hb2 : decide (N ≤ 4096) = false := decide_eq_false (fun h => hbig ⟨h20, h⟩)
      clear hbig h20
      go_enter Try.func5, Try.ntmps5
      go_wp2_with (go_at_call 22; refine (H1.out _).mono ?_; rintro e w' ⟨rfl, hg⟩; obtain ⟨x1, rfl⟩ := hg.later; clear hg)
      refine (KT.out _ (by repeat (first | exact Grows.refl _ | refine Grows.now ?_ _ | refine Grows.new ?_ _ | refine Grows.drewN ?_ _ | refine Grows.drew ?_ | assumption | (refine Grows.set ?_ (by first | omega | (simp; done) | (simp; omega)) _)))).mono ?_; rintro e w' ⟨rfl, hg⟩; obtain ⟨x3, rfl⟩ := Grows.later2 hg; clear hg
      go_wp2_with fail
      ((first | refine wp_region_gen2 (by kernel_rfl) (by kernel_rfl) ?_ | refine wp_region_gen (by kernel_rfl) (by kernel_rfl) ?_); (repeat' (first | (refine gLex_val0 rfl (by kernel_rfl) (fun K hK => ?_); (go_simp; (try (simp only [↓IntWalk.iteOmega]; try go_simp)); (try simp (disch := omega) only [IntWalk.i64_in]); (try simp (disch := omega) only [IntWalk.u64_in]); first | (refine hK _ ?_; clear hK K) | (apply Exists.intro; refine ⟨fun x => ?_, hK _ ?_⟩; (first | (go_at_call 27; exact KO.out _) | (go_at_call 26; exact KP.out _) | (go_at_call 25; exact KQ.out _ (by repeat (first | exact Grows.refl _ | refine Grows.now ?_ _ | refine Grows.new ?_ _ | refine Grows.drewN ?_ _ | refine Grows.drew ?_ | assumption | (refine Grows.set ?_ (by first | omega | (simp; done) | (simp; omega)) _))))); clear hK K))) | (refine gLex_undef rfl rfl rfl (by kernel_rfl) (fun K hK => ?_); go_simp; refine hK _ ?_; clear hK K) | (refine gLex_ask rfl rfl rfl ?_; first | (apply gAsk_yes; kernel_rfl; intro K hK; (go_simp; (try (simp only [↓IntWalk.iteOmega]; try go_simp)); (try simp (disch := omega) only [IntWalk.i64_in]); (try simp (disch := omega) only [IntWalk.u64_in]); first | (refine hK _ ?_; clear hK K) | (apply Exists.intro; refine ⟨fun x => ?_, hK _ ?_⟩; (first | (go_at_call 27; exact KO.out _) | (go_at_call 26; exact KP.out _) | (go_at_call 25; exact KQ.out _ (by repeat (first | exact Grows.refl _ | refine Grows.now ?_ _ | refine Grows.new ?_ _ | refine Grows.drewN ?_ _ | refine Grows.drew ?_ | assumption | (refine Grows.set ?_ (by first | omega | (simp; done) | (simp; omega)) _))))); clear hK K))) | ((first | apply gAsk_no1 | apply gAsk_no2); kernel_rfl; intro K hK; simp [go_sem]; refine hK _ ?_; clear hK K) | (apply gAsk_part; kernel_rfl; all_goals (intro h K hK; (try simp only [Bool.not_true] at h); (try simp only [Bool.not_false] at h); (try simp only [decide_eq_true_eq] at h); (try simp only [decide_eq_false_iff_not] at h); first | (exfalso; first | contradiction | omega) | (go_simp; (try (simp only [↓IntWalk.iteOmega]; try go_simp)); (try simp (disch := omega) only [IntWalk.i64_in]); (try simp (disch := omega) only [IntWalk.u64_in]); first | (refine hK _ ?_; clear hK K) | (apply Exists.intro; refine ⟨fun x => ?_, hK _ ?_⟩; (first | (go_at_call 27; exact KO.out _) | (go_at_call 26; exact KP.out _) | (go_at_call 25; exact KQ.out _ (by repeat (first | exact Grows.refl _ | refine Grows.now ?_ _ | refine Grows.new ?_ _ | refine Grows.drewN ?_ _ | refine Grows.drew ?_ | assumption | (refine Grows.set ?_ (by first | omega | (simp; done) | (simp; omega)) _))))); clear hK K))))))); all_goals ((apply gLex_end); intro x4))
      go_wp2_with fail
      refine (alive15 _).mono ?_; rintro e w' ⟨rfl, hg⟩; obtain ⟨x7, rfl⟩ := Grows.later2 hg; clear hg
      go_wp2_with fail
      go_ret
      exact ⟨rfl, (by repeat (first | exact Grows.refl _ | refine Grows.now ?_ _ | refine Grows.new ?_ _ | refine Grows.drewN ?_ _ | refine Grows.drew ?_ | assumption | (refine Grows.set ?_ (by first | omega | (simp; done) | (simp; omega)) _)))⟩
    · have hb1 : decide ((20 : Int) < N) = false := decide_eq_false h20
      clear hbig h20
      go_enter Try.func5, Try.ntmps5
      go_wp2_with (go_at_call 22; refine (H1.out _).mono ?_; rintro e w' ⟨rfl, hg⟩; obtain ⟨x1, rfl⟩ := hg.later; clear hg)
      refine (KT.out _ (by repeat (first | exact Grows.refl _ | refine Grows.now ?_ _ | refine Grows.new ?_ _ | refine Grows.drewN ?_ _ | refine Grows.drew ?_ | assumption | (refine Grows.set ?_ (by first | omega | (simp; done) | (simp; omega)) _)))).mono ?_; rintro e w' ⟨rfl, hg⟩; obtain ⟨x3, rfl⟩ := Grows.later2 hg; clear hg
      go_wp2_with fail
      ((first | refine wp_region_gen2 (by kernel_rfl) (by kernel_rfl) ?_ | refine wp_region_gen (by kernel_rfl) (by kernel_rfl) ?_); (repeat' (first | (refine gLex_val0 rfl (by kernel_rfl) (fun K hK => ?_); (go_simp; (try (simp only [↓IntWalk.iteOmega]; try go_simp)); (try simp (disch := omega) only [IntWalk.i64_in]); (try simp (disch := omega) only [IntWalk.u64_in]); first | (refine hK _ ?_; clear hK K) | (apply Exists.intro; refine ⟨fun x => ?_, hK _ ?_⟩; (first | (go_at_call 27; exact KO.out _) | (go_at_call 26; exact KP.out _) | (go_at_call 25; exact KQ.out _ (by repeat (first | exact Grows.refl _ | refine Grows.now ?_ _ | refine Grows.new ?_ _ | refine Grows.drewN ?_ _ | refine Grows.drew ?_ | assumption | (refine Grows.set ?_ (by first | omega | (simp; done) | (simp; omega)) _))))); clear hK K))) | (refine gLex_undef rfl rfl rfl (by kernel_rfl) (fun K hK => ?_); go_simp; refine hK _ ?_; clear hK K) | (refine gLex_ask rfl rfl rfl ?_; first | (apply gAsk_yes; kernel_rfl; intro K hK; (go_simp; (try (simp only [↓IntWalk.iteOmega]; try go_simp)); (try simp (disch := omega) only [IntWalk.i64_in]); (try simp (disch := omega) only [IntWalk.u64_in]); first | (refine hK _ ?_; clear hK K) | (apply Exists.intro; refine ⟨fun x => ?_, hK _ ?_⟩; (first | (go_at_call 27; exact KO.out _) | (go_at_call 26; exact KP.out _) | (go_at_call 25; exact KQ.out _ (by repeat (first | exact Grows.refl _ | refine Grows.now ?_ _ | refine Grows.new ?_ _ | refine Grows.drewN ?_ _ | refine Grows.drew ?_ | assumption | (refine Grows.set ?_ (by first | omega | (simp; done) | (simp; omega)) _))))); clear hK K))) | ((first | apply gAsk_no1 | apply gAsk_no2); kernel_rfl; intro K hK; simp [go_sem]; refine hK _ ?_; clear hK K) | (apply gAsk_part; kernel_rfl; all_goals (intro h K hK; (try simp only [Bool.not_true] at h); (try simp only [Bool.not_false] at h); (try simp only [decide_eq_true_eq] at h); (try simp only [decide_eq_false_iff_not] at h); first | (exfalso; first | contradiction | omega) | (go_simp; (try (simp only [↓IntWalk.iteOmega]; try go_simp)); (try simp (disch := omega) only [IntWalk.i64_in]); (try simp (disch := omega) only [IntWalk.u64_in]); first | (refine hK _ ?_; clear hK K) | (apply Exists.intro; refine ⟨fun x => ?_, hK _ ?_⟩; (first | (go_at_call 27; exact KO.out _) | (go_at_call 26; exact KP.out _) | (go_at_call 25; exact KQ.out _ (by repeat (first | exact Grows.refl _ | refine Grows.now ?_ _ | refine Grows.new ?_ _ | refine Grows.drewN ?_ _ | refine Grows.drew ?_ | assumption | (refine Grows.set ?_ (by first | omega | (simp; done) | (simp; omega)) _))))); clear hK K))))))); all_goals ((apply gLex_end); intro x4))
      go_wp2_with fail
      refine (alive15 _).mono ?_; rintro e w' ⟨rfl, hg⟩; obtain ⟨x7, rfl⟩ := Grows.later2 hg; clear hg
      go_wp2_with fail
      go_ret
      exact ⟨rfl, (by repeat (first | exact Grows.refl _ | refine Grows.now ?_ _ | refine Grows.new ?_ _ | refine Grows.drewN ?_ _ | refine Grows.drew ?_ | assumption | (refine Grows.set ?_ (by first | omega | (simp; done) | (simp; omega)) _)))⟩
end Go.Proofs.Ythjcbboignmknaa

/- The law CanonAll: for every input it returns true, and each argument reads as before. No condition. -/
namespace Go.Proofs.Ythjcbboignmknaa.lawCanonAll
open Go Go.ChangeShapes Go.WideShapes Go.ChangeAt Go.RowKit Go.Proofs.Ythjcbboignmknaa

theorem own : ownKnob Try.prog.godebug = none := by kernel_rfl
theorem laidOut : laidOutB Try.prog = true := by kernel_rfl

set_option maxRecDepth 100000 in
theorem lifted (os : Os) (started : os.Started) (H : Type) (enc : TypeId × Value → H) :
    ReturnsInHanded {} Try.checked os 5 .any (Rows.canonAllSpec.pre6 enc Try.prog Try.f5 Rows.canonAllRow.domain false) (Rows.canonAllSpec.post enc Try.prog Try.f5 false true false false) := by
  refine returnsInHanded_of_change (C := Try.checked) own started (by kernel_rfl) Try.func5
    (ChangeSpec.witness6 (enc := enc) (C := Try.checked) false ⟨#[], #[.agg #[.int .i64 0, .slice none 0 0], .int .i64 0, .agg #[.bool false, .slice none 0 0, .slice none 0 0, .slice none 0 0, .int .u64 0]], []⟩ 8 (by kernel_rfl) (by kernel_rfl) (by kernel_rfl) (by kernel_rfl)) ?_
  intro W base args ds gs before hval0 hW hcnd _
  have hval : ∀ (j : Nat) t v, Try.f5.params[j]? = some t → args[j]? = some v → Value.okWide Try.prog W .any base t v := hval0
  have hW' := hW
  obtain ⟨p, q, hA0, hV, rfl, hfz, hnd⟩ := hW
  have hA : DataW.TrodAll enc Try.prog W 0 (fun _ => true) true Try.f5.params.toList args.toList ds p := hA0
  rw [Try.params5] at hA hval
  obtain ⟨v0, vs0, d0, ds0, p0, q0, hargs, rfl, rfl, h0, r0⟩ := trodAll_cons hA
  obtain ⟨v1, vs1, d1, ds1, p1, q1, rfl, rfl, rfl, h1, r1⟩ := trodAll_cons r0
  obtain ⟨v2, vs2, d2, ds2, p2, q2, rfl, rfl, rfl, h2, r2⟩ := trodAll_cons r1
  obtain ⟨rfl, rfl, rfl⟩ := trodAll_nil r2
  obtain rfl : args = #[v0, v1, v2] := by cases args; simp_all
  obtain ⟨rfl, rfl⟩ := trodVars_none hV
  have k0 := h0
  have lt0 : ∀ x ∈ p0, x.block < W.heap.size := by obtain ⟨m, hm⟩ := k0; exact DataW.trod_lt m _ _ _ hm
  obtain ⟨a0, A0, n0, c0, z0, rfl, x0, l0, w0, u0⟩ := open_graph Try.underlying24 Try.underlying3 Try.underlying22 Try.underlying62 Try.underlying3 Try.underlying3 Try.underlying37 ⟨rfl, rfl, rfl⟩ ⟨by kernel_rfl, by kernel_rfl, by kernel_rfl⟩ (by kernel_rfl) (by kernel_rfl) (by kernel_rfl) (hval 0 24 v0 rfl rfl) h0
  have k1 := h1
  have lt1 : ∀ x ∈ p1, x.block < W.heap.size := by obtain ⟨m, hm⟩ := k1; exact DataW.trod_lt m _ _ _ hm
  obtain ⟨a1, rfl, w1⟩ := open_i64 Try.underlying3 (hval 1 3 v1 rfl rfl) h1
  have k2 := h2
  have lt2 : ∀ x ∈ p2, x.block < W.heap.size := by obtain ⟨m, hm⟩ := k2; exact DataW.trod_lt m _ _ _ hm
  obtain ⟨a2, A2a, n2a, c2a, z2a, A2b, n2b, c2b, z2b, A2c, n2c, c2c, z2c, m2, rfl, w2a, w2b, w2c, u2⟩ := open_opt Try.underlying39 Try.underlying4 Try.underlying31 Try.underlying31 Try.underlying36 Try.underlying37 Try.underlying3 Try.underlying37 (by kernel_rfl) (by kernel_rfl) (by kernel_rfl) (by kernel_rfl) (hval 2 39 v2 rfl rfl) h2
  clear hA0 hval0
  refine (canonAllW a0 A0 n0 c0 z0 a1 a2 A2a n2a c2a z2a A2b n2b c2b z2b A2c n2c c2c z2c m2 W x0 l0 w0 u0 w1 w2a w2b w2c u2).mono fun e W' ⟨he, bel⟩ => ?_
  subst he
  exact ⟨_, rfl, _, _, _, [], _, [], hW', trodAll_mk1 (shut_bool Try.underlying4 _), (trodAll_cons_mk (Below.trod laidOut (by kernel_rfl) (of_decide_eq_true (by kernel_rfl)) k0 bel lt0) (trodAll_cons_mk (Below.trod laidOut (by kernel_rfl) (of_decide_eq_true (by kernel_rfl)) k1 bel lt1) (trodAll_cons_mk (Below.trod laidOut (by kernel_rfl) (of_decide_eq_true (by kernel_rfl)) k2 bel lt2) trodAll_mk0))), rfl, Below.frame bel _, fun h => by cases h⟩

theorem over : Rows.canonAllRow.holds Try.pinned (OpenSpec.ofChange Rows.canonAllSpec) :=
  OpenClaim.holds_of_wide 5 Try.f5 rfl rfl rfl rfl rfl rfl rfl ⟨rfl, rfl, rfl, rfl, rfl⟩ rfl rfl rfl rfl rfl (by kernel_rfl) Try.func5 (by kernel_rfl)
    (of_decide_eq_true (by kernel_rfl)) (by unfold Func.isWrapper; first | (rw [if_pos (by decide +kernel)]; kernel_rfl) | (rw [if_neg (by decide +kernel)]; exact ⟨rfl, rfl⟩))
    (fun os started H enc _ => lifted os started H enc)

end Go.Proofs.Ythjcbboignmknaa.lawCanonAll
namespace Go.Proofs.Ythjcbboignmknaa
/-- The statement. -/
theorem canonAll_proved : Rows.CanonAllSaid := lawCanonAll.over
#print axioms canonAll_proved
end Go.Proofs.Ythjcbboignmknaa
