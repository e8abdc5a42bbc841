/- Contracts: the turns of a way. -/
import Derived.Test.YtaoodmioehkebaaNodes
import Derived.Test.YtaoodmioehkebaaTurn
import Derived.Test.YtaoodmioehkebaaTail
namespace Go.Proofs.Ytaoodmioehkebaa
open Go Go.RowKit
theorem right_nodes {N : Int} {E : List Edg} (h : rightF N E = 0) {k : Nat} (hk : k < E.length) : nodeB N (ge E k).f = true ∧ nodeB N (ge E k).t = true := by
  unfold rightF at h
  split at h
  · omega
  · split at h
    · omega
    · split at h
      · omega
      · rename_i h3
        have h4 : E.any (looseB N) = false := by simpa using h3
        rw [List.any_eq_false] at h4
        have hm : ge E k ∈ E := by
          unfold ge
          rw [List.getD_eq_getElem?_getD, List.getElem?_eq_getElem hk]
          exact List.getElem_mem _
        have := h4 _ hm
        unfold looseB at this
        simp at this
        exact ⟨this.1, this.2.1⟩
theorem edges_right {N : Int} {E : List Edg} {l : List Int} (h : edgesB N E l = true) : rightF N E = 0 := by
  unfold edgesB at h
  simp only [Bool.and_eq_true, decide_eq_true_eq] at h
  exact h.1
theorem nd_in {N : Int} {E : List Edg} {s : Int} {l : List Int} (h : isB N E s l = true) {k : Nat} (hk : k ≤ l.length) : 0 ≤ ndI E s l k ∧ ndI E s l k < N := by
  unfold isB at h
  simp only [Bool.and_eq_true] at h
  obtain ⟨h1, h2, _⟩ := h
  cases k with
  | zero => unfold nodeB at h2; simp only [decide_eq_true_eq] at h2; exact h2
  | succ k =>
    have := (right_nodes (edges_right h1) (edges_in h1 (k := k) (by omega)).2).2
    unfold nodeB at this
    simpa [ndI] using this
/-- The turn at the node behind k + 1 edges. -/
def tnI (E : List Edg) (s : Int) (l : List Int) (L : List Pl) (k : Nat) : Int := turnI (gp L (ndI E s l k).toNat) (gp L (ndI E s l (k + 1)).toNat) (gp L (ndI E s l (k + 2)).toNat)
def tnL (E : List Edg) (s : Int) (l : List Int) (L : List Pl) (k : Nat) : List Int := (List.range k).map (tnI E s l L)
theorem tnL_succ (E : List Edg) (s : Int) (l : List Int) (L : List Pl) (k : Nat) : tnL E s l L (k + 1) = tnL E s l L k ++ [tnI E s l L k] := by unfold tnL; rw [List.range_succ, List.map_append]; rfl
theorem tnL_len (E : List Edg) (s : Int) (l : List Int) (L : List Pl) (k : Nat) : (tnL E s l L k).length = k := by simp [tnL]
attribute [go_sem] ndL_len tnL_len
def alB (N : Int) (E : List Edg) (L : List Pl) (s : Int) (l : List Int) : Bool := isB N E s l && (decide ((L.length : Int) = N) && L.all okP)
def alongL (N : Int) (E : List Edg) (L : List Pl) (s : Int) (l : List Int) : List Int := if alB N E L s l then tnL E s l L (l.length - 1) else []
theorem turn_any (a b c : Pl) (w : World) : Calls Try.prog 12 #[.agg #[.int .i64 a.x, .int .i64 a.y], .agg #[.int .i64 b.x, .int .i64 b.y], .agg #[.int .i64 c.x, .int .i64 c.y]] w fun e w' => e = .returned (.int .i64 (turnI a b c)) ∧ Grows w w' := tuOf a b c w
theorem turn_any2 (a b c : Pl) (w : World) : Calls Try.prog 13 #[.agg #[.int .i64 a.x, .int .i64 a.y], .agg #[.int .i64 b.x, .int .i64 b.y], .agg #[.int .i64 c.x, .int .i64 c.y]] w fun e w' => e = .returned (.int .i64 (turnI a b c)) ∧ Grows w w' := r10Of a b c w
set_option maxRecDepth 20000 in
set_option maxHeartbeats 4000000 in
theorem tuAlong (N : Int) (A : Option Addr) (m c : Nat) (E : List Edg) (Z : Option Addr) (nz cz : Nat) (L : List Pl) (s : Int) (B : Option Addr) (n d : Nat) (l : List Int) (w : World) (h : Rd w A 3 m (esCells E)) (hm : m ≤ 1000000) (hz : Rd w Z 2 nz (psCells L)) (hnz : nz ≤ 1000000) (h' : Rd w B 1 n (l.map (.int .i64))) (hn : n ≤ 100000) :
    Calls Try.prog 42 #[.agg #[.int .i64 N, .slice A m c], .slice Z nz cz, .int .i64 s, .slice B n d] w (GiveIB w (alongL N E L s l) (alB N E L s l)) := by
  have HL := hide (show l.length = n by simpa using h'.len)
  have HZL := hide hz.plen
  have HC := hide (fun (W : World) (g : Grows w W) => pNodes N A m c E s B n d l W (h.grows g) hm (h'.grows g) (by omega))
  have C2 := fun (W : World) (g : Grows w W) => plRight Z nz cz L W (hz.grows g) hnz
  have HZ := hide hz
  clear h h' hz
  cases hb : isB N E s l with
  | false =>
    have e1 : alB N E L s l = false := by unfold alB; rw [hb]; rfl
    have HV : Hid (alongL N E L s l = []) := by unfold alongL; rw [e1]; rfl
    rw [HV.out, e1]
    rw [hb] at HC
    clear C2 hb e1
    go_enter Try.func42, Try.ntmps42
    go_wp2_with (go_at_call 78; refine (HC.out _ (by repeat (first | exact Grows.refl _ | refine Grows.now ?_ _ | refine Grows.new ?_ _ | refine Grows.drewN ?_ _ | refine Grows.drew ?_ | assumption | (refine Grows.set ?_ (by first | omega | (simp; done) | (simp; omega)) _)))).mono ?_; rintro e w' ⟨A1, c1, rfl, _, hg⟩; obtain ⟨x, rfl⟩ := hg.later; clear hg)
    go_ret2
    exact ⟨none, 0, rfl, ⟨rfl, fun h => absurd h (by simp)⟩, (by repeat (first | exact Grows.refl _ | refine Grows.now ?_ _ | refine Grows.new ?_ _ | refine Grows.drewN ?_ _ | refine Grows.drew ?_ | assumption | (refine Grows.set ?_ (by first | omega | (simp; done) | (simp; omega)) _)))⟩
  | true =>
  have HNL : Hid (nodesL N E s l = ndL E s l (n + 1)) := by unfold nodesL; rw [hb, HL.out]; rfl
  have HI := hide (fun k (hk : k ≤ n) => nd_in hb (k := k) (by rw [HL.out]; exact hk))
  rw [hb] at HC
  rw [HNL.out] at HC
  by_cases hN : (nz : Int) = N
  · subst hN
    cases ho : L.all okP with
    | false =>
      have e1 : alB nz E L s l = false := by unfold alB; rw [ho, Bool.and_false, Bool.and_false]
      have HV : Hid (alongL nz E L s l = []) := by unfold alongL; rw [e1]; rfl
      rw [HV.out, e1]
      rw [ho] at C2
      have H2 := hide C2
      clear C2 hb e1 ho
      go_enter Try.func42, Try.ntmps42
      go_wp2_with (first | (go_at_call 78; refine (HC.out _ (by repeat (first | exact Grows.refl _ | refine Grows.now ?_ _ | refine Grows.new ?_ _ | refine Grows.drewN ?_ _ | refine Grows.drew ?_ | assumption | (refine Grows.set ?_ (by first | omega | (simp; done) | (simp; omega)) _)))).mono ?_; rintro e w' ⟨A1, c1, rfl, _, hg⟩; obtain ⟨x, rfl⟩ := hg.later; clear hg) | (go_at_call 41; refine (H2.out _ (by repeat (first | exact Grows.refl _ | refine Grows.now ?_ _ | refine Grows.new ?_ _ | refine Grows.drewN ?_ _ | refine Grows.drew ?_ | assumption | (refine Grows.set ?_ (by first | omega | (simp; done) | (simp; omega)) _)))).mono ?_; rintro e w' ⟨rfl, hg⟩; obtain ⟨x, rfl⟩ := hg.later; clear hg))
      go_ret2
      exact ⟨none, 0, rfl, ⟨rfl, fun h => absurd h (by simp)⟩, (by repeat (first | exact Grows.refl _ | refine Grows.now ?_ _ | refine Grows.new ?_ _ | refine Grows.drewN ?_ _ | refine Grows.drew ?_ | assumption | (refine Grows.set ?_ (by first | omega | (simp; done) | (simp; omega)) _)))⟩
    | true =>
      have e1 : alB nz E L s l = true := by unfold alB; rw [ho, hb, HZL.out]; simp
      have HV : Hid (alongL nz E L s l = tnL E s l L (n - 1)) := by unfold alongL; rw [e1, HL.out]; rfl
      rw [HV.out, e1]
      rw [ho] at C2
      have H2 := hide C2
      clear C2 hb e1 ho
      go_enter Try.func42, Try.ntmps42
      go_wp2_with (first | (go_at_call 78; refine (HC.out _ (by repeat (first | exact Grows.refl _ | refine Grows.now ?_ _ | refine Grows.new ?_ _ | refine Grows.drewN ?_ _ | refine Grows.drew ?_ | assumption | (refine Grows.set ?_ (by first | omega | (simp; done) | (simp; omega)) _)))).mono ?_; rintro e w' ⟨A1, c1, rfl, hr, hg⟩; obtain ⟨x, rfl⟩ := hg.later; have HR1 := hide hr; clear hg hr) | (go_at_call 41; refine (H2.out _ (by repeat (first | exact Grows.refl _ | refine Grows.now ?_ _ | refine Grows.new ?_ _ | refine Grows.drewN ?_ _ | refine Grows.drew ?_ | assumption | (refine Grows.set ?_ (by first | omega | (simp; done) | (simp; omega)) _)))).mono ?_; rintro e w' ⟨rfl, hg⟩; obtain ⟨x, rfl⟩ := hg.later; clear hg))
      have HA := hide HR1.out
      clear HR1
      go_loopw [35, 8] (fun i u wr => ∃ k : Nat, k ≤ n + 1 ∧ i = .int .i64 (k : Int) ∧ ∃ y : Later x.now, wr = y.now ∧ ∃ A' c' q, u = .slice A' q c' ∧ q = min (k - 1) (n - 1) ∧ Own y.now x.now.heap.size 3 1 A' q c' ((tnL E s l L q).map (.int .i64))) (fun i _ _ => n + 1 - (intOf i).toNat)
      case atStart => exact ⟨0, by omega, by go_num, ⟨_, Grows.refl _⟩, rfl, none, 0, 0, rfl, by omega, Own.nil _ _ _ _⟩
      case round =>
        obtain ⟨k, hk, rfl, y, rfl, A', c', q, rfl, hq, hown⟩ := hrel
        have HO := hide hown
        clear hown
        by_cases hend : n + 1 ≤ k
        · have hqn : q = n - 1 := by omega
          subst hqn
          go_wp2
          go_ret2
          refine ⟨A', c', by rw [tnL_len]; rfl, ?_, (by repeat (first | exact Grows.refl _ | refine Grows.now ?_ _ | refine Grows.new ?_ _ | refine Grows.drewN ?_ _ | refine Grows.drew ?_ | assumption | (refine Grows.set ?_ (by first | omega | (simp; done) | (simp; omega)) _)))⟩
          rw [tnL_len]
          exact HO.out.rd
        by_cases h0 : 0 < k ∧ k < n
        · obtain ⟨k, rfl⟩ : ∃ j, k = j + 1 := ⟨k - 1, by omega⟩
          have hqk : q = k := by omega
          clear hq
          subst hqk
          obtain ⟨b1, off1, rfl, hc1⟩ := HA.out.intsH (by rw [ndL_len]; omega)
          have c1 := hc1 q (by rw [ndL_len]; omega)
          have c2 := hc1 (q + 1) (by rw [ndL_len]; omega)
          have c3 := hc1 (q + 1 + 1) (by rw [ndL_len]; omega)
          rw [ndL_at _ _ _ _ _ (by omega)] at c1 c2 c3
          obtain ⟨i1, i2⟩ := HI.out q (by omega)
          obtain ⟨i3, i4⟩ := HI.out (q + 1) (by omega)
          obtain ⟨i5, i6⟩ := HI.out (q + 1 + 1) (by omega)
          have HT : Hid (tnI E s l L q = turnI (gp L (ndI E s l q).toNat) (gp L (ndI E s l (q + 1)).toNat) (gp L (ndI E s l (q + 1 + 1)).toNat)) := rfl
          have HN := hide (tnL_succ E s l L q)
          generalize hu : ndI E s l q = u0 at *
          generalize hv : ndI E s l (q + 1) = u1 at *
          generalize hw : ndI E s l (q + 1 + 1) = u2 at *
          obtain ⟨u0, rfl⟩ := Int.eq_ofNat_of_zero_le i1
          obtain ⟨u1, rfl⟩ := Int.eq_ofNat_of_zero_le i3
          obtain ⟨u2, rfl⟩ := Int.eq_ofNat_of_zero_le i5
          simp only [Int.toNat_natCast] at HT
          obtain ⟨bz, offz, rfl, hcz⟩ := HZ.out.places (by omega)
          have p1 := Holds.mk (hcz u0 (by omega)).1
          have p2 := Holds.mk (hcz u0 (by omega)).2
          have p3 := Holds.mk (hcz u1 (by omega)).1
          have p4 := Holds.mk (hcz u1 (by omega)).2
          have p5 := Holds.mk (hcz u2 (by omega)).1
          have p6 := Holds.mk (hcz u2 (by omega)).2
          have c4 : Holds _ ⟨b1, off1 + (q + 2), none⟩ (.int .i64 (u2 : Int)) := c3
          have t2 : ((q : Int) + 1 + 1).toNat = q + 1 + 1 := by omega
          clear hcz hc1 hu hv hw
          generalize gp L u0 = P0 at *
          generalize gp L u1 = P1 at *
          generalize gp L u2 = P2 at *
          simp only [Int.natCast_add, Int.natCast_one]
          go_wp2_with fail
          all_goals first | (exfalso; omega) | skip
          (refine wp_region_tail1 26 (by kernel_rfl) (by kernel_rfl) ?_; simp only [List.take_succ_cons, List.take_zero, List.drop_succ_cons, List.drop_zero]; (repeat' (first | (refine gLex_val0 rfl (by kernel_rfl) (fun K hK => ?_); (go_simp; (try (simp only [↓IntWalk.iteOmega]; try go_simp)); (try simp (disch := omega) only [IntWalk.i64_in]); (try simp (disch := omega) only [IntWalk.u64_in]); first | (refine hK _ ?_; clear hK K) | (apply Exists.intro; refine ⟨fun x => ?_, hK _ ?_⟩; (first | (go_at_call 12; exact turn_any _ _ _ _)); clear hK K))) | (refine gLex_undef rfl rfl rfl (by kernel_rfl) (fun K hK => ?_); go_simp; refine hK _ ?_; clear hK K) | (refine gLex_ask rfl rfl rfl ?_; first | (apply gAsk_yes; kernel_rfl; intro K hK; (go_simp; (try (simp only [↓IntWalk.iteOmega]; try go_simp)); (try simp (disch := omega) only [IntWalk.i64_in]); (try simp (disch := omega) only [IntWalk.u64_in]); first | (refine hK _ ?_; clear hK K) | (apply Exists.intro; refine ⟨fun x => ?_, hK _ ?_⟩; (first | (go_at_call 12; exact turn_any _ _ _ _)); clear hK K))) | ((first | apply gAsk_no1 | apply gAsk_no2); kernel_rfl; intro K hK; simp [go_sem]; refine hK _ ?_; clear hK K)))); refine gLex_prop rfl (by kernel_rfl) rfl (by simp) (One (.int .i64 (turnI P0 P1 P2))) (One.lasts _) (fun x => by (go_simp; exact ⟨(Grows.refl _).new _, _, rfl, inferInstance⟩)) ?_; refine gLex_endT1 (by simp) (fun x v hv => ?_); obtain ⟨gnew, rfl, hgnew⟩ := hv; simp only [Act.put, List.setIfInBounds_toArray, List.set_cons_zero, List.set_cons_succ])
          go_wp2_with (at_builtin; refine wp_app1 elemInt rfl _ _ rfl _ (by repeat (first | exact Grows.refl _ | refine Grows.now ?_ _ | refine Grows.new ?_ _ | refine Grows.drewN ?_ _ | refine Grows.drew ?_ | assumption | (refine Grows.set ?_ (by first | omega | (simp; done) | (simp; omega)) _))) q c' A' _ rfl (HO.out.grows (by repeat (first | exact Grows.refl _ | refine Grows.now ?_ _ | refine Grows.new ?_ _ | refine Grows.drewN ?_ _ | refine Grows.drew ?_ | assumption | (refine Grows.set ?_ (by first | omega | (simp; done) | (simp; omega)) _)))) _ _ _ rfl inferInstance rfl (by omega) ?_; intro A3 c3 y3 hown3; have HO3 := hide hown3; clear hown3)
          refine ⟨⟨q + 1 + 1, by omega, by go_num, y3, rfl, A3, c3, q + 1, rfl, by omega, ?_⟩, by simp [intOf]; omega⟩
          rw [HN.out, HT.out, List.map_append]
          exact HO3.out
        · have HQ := hide (show q = min (k + 1 - 1) (n - 1) by omega)
          clear hq
          go_wp2
          all_goals first | (exfalso; omega) | skip
          all_goals exact ⟨⟨k + 1, by omega, by go_num, y, rfl, A', c', q, rfl, HQ.out, HO.out⟩, by simp [intOf]; omega⟩
  · have e1 : alB N E L s l = false := by unfold alB; rw [decide_eq_false (by rw [HZL.out]; exact hN), Bool.false_and, Bool.and_false]
    have HV : Hid (alongL N E L s l = []) := by unfold alongL; rw [e1]; rfl
    rw [HV.out, e1]
    have hd : ((nz : Int) == N) = false := by simpa using hN
    clear C2 hb e1
    go_enter Try.func42, Try.ntmps42
    go_wp2_with (go_at_call 78; refine (HC.out _ (by repeat (first | exact Grows.refl _ | refine Grows.now ?_ _ | refine Grows.new ?_ _ | refine Grows.drewN ?_ _ | refine Grows.drew ?_ | assumption | (refine Grows.set ?_ (by first | omega | (simp; done) | (simp; omega)) _)))).mono ?_; rintro e w' ⟨A1, c1, rfl, _, hg⟩; obtain ⟨x, rfl⟩ := hg.later; clear hg)
    go_ret2
    exact ⟨none, 0, rfl, ⟨rfl, fun h => absurd h (by simp)⟩, (by repeat (first | exact Grows.refl _ | refine Grows.now ?_ _ | refine Grows.new ?_ _ | refine Grows.drewN ?_ _ | refine Grows.drew ?_ | assumption | (refine Grows.set ?_ (by first | omega | (simp; done) | (simp; omega)) _)))⟩
set_option maxRecDepth 20000 in
set_option maxHeartbeats 4000000 in
theorem r10Along (N : Int) (A : Option Addr) (m c : Nat) (E : List Edg) (Z : Option Addr) (nz cz : Nat) (L : List Pl) (s : Int) (B : Option Addr) (n d : Nat) (l : List Int) (w : World) (h : Rd w A 3 m (esCells E)) (hm : m ≤ 1000000) (hz : Rd w Z 2 nz (psCells L)) (hnz : nz ≤ 1000000) (h' : Rd w B 1 n (l.map (.int .i64))) (hn : n ≤ 100000) :
    Calls Try.prog 43 #[.agg #[.int .i64 N, .slice A m c], .slice Z nz cz, .int .i64 s, .slice B n d] w (GiveIB w (alongL N E L s l) (alB N E L s l)) := by
  have HL := hide (show l.length = n by simpa using h'.len)
  have HZL := hide hz.plen
  have HC := hide (fun (W : World) (g : Grows w W) => r8Nodes N A m c E s B n d l W (h.grows g) hm (h'.grows g) (by omega))
  have C2 := fun (W : World) (g : Grows w W) => r9Right Z nz cz L W (hz.grows g) hnz
  have HZ := hide hz
  clear h h' hz
  cases hb : isB N E s l with
  | false =>
    have e1 : alB N E L s l = false := by unfold alB; rw [hb]; rfl
    have HV : Hid (alongL N E L s l = []) := by unfold alongL; rw [e1]; rfl
    rw [HV.out, e1]
    rw [hb] at HC
    clear C2 hb e1
    go_enter Try.func43, Try.ntmps43
    go_wp2_with (go_at_call 79; refine (HC.out _ (by repeat (first | exact Grows.refl _ | refine Grows.now ?_ _ | refine Grows.new ?_ _ | refine Grows.drewN ?_ _ | refine Grows.drew ?_ | assumption | (refine Grows.set ?_ (by first | omega | (simp; done) | (simp; omega)) _)))).mono ?_; rintro e w' ⟨A1, c1, rfl, _, hg⟩; obtain ⟨x, rfl⟩ := hg.later; clear hg)
    go_ret2
    exact ⟨none, 0, rfl, ⟨rfl, fun h => absurd h (by simp)⟩, (by repeat (first | exact Grows.refl _ | refine Grows.now ?_ _ | refine Grows.new ?_ _ | refine Grows.drewN ?_ _ | refine Grows.drew ?_ | assumption | (refine Grows.set ?_ (by first | omega | (simp; done) | (simp; omega)) _)))⟩
  | true =>
  have HNL : Hid (nodesL N E s l = ndL E s l (n + 1)) := by unfold nodesL; rw [hb, HL.out]; rfl
  have HI := hide (fun k (hk : k ≤ n) => nd_in hb (k := k) (by rw [HL.out]; exact hk))
  rw [hb] at HC
  rw [HNL.out] at HC
  by_cases hN : (nz : Int) = N
  · subst hN
    cases ho : L.all okP with
    | false =>
      have e1 : alB nz E L s l = false := by unfold alB; rw [ho, Bool.and_false, Bool.and_false]
      have HV : Hid (alongL nz E L s l = []) := by unfold alongL; rw [e1]; rfl
      rw [HV.out, e1]
      rw [ho] at C2
      have H2 := hide C2
      clear C2 hb e1 ho
      go_enter Try.func43, Try.ntmps43
      go_wp2_with (first | (go_at_call 79; refine (HC.out _ (by repeat (first | exact Grows.refl _ | refine Grows.now ?_ _ | refine Grows.new ?_ _ | refine Grows.drewN ?_ _ | refine Grows.drew ?_ | assumption | (refine Grows.set ?_ (by first | omega | (simp; done) | (simp; omega)) _)))).mono ?_; rintro e w' ⟨A1, c1, rfl, _, hg⟩; obtain ⟨x, rfl⟩ := hg.later; clear hg) | (go_at_call 27; refine (H2.out _ (by repeat (first | exact Grows.refl _ | refine Grows.now ?_ _ | refine Grows.new ?_ _ | refine Grows.drewN ?_ _ | refine Grows.drew ?_ | assumption | (refine Grows.set ?_ (by first | omega | (simp; done) | (simp; omega)) _)))).mono ?_; rintro e w' ⟨rfl, hg⟩; obtain ⟨x, rfl⟩ := hg.later; clear hg))
      go_ret2
      exact ⟨none, 0, rfl, ⟨rfl, fun h => absurd h (by simp)⟩, (by repeat (first | exact Grows.refl _ | refine Grows.now ?_ _ | refine Grows.new ?_ _ | refine Grows.drewN ?_ _ | refine Grows.drew ?_ | assumption | (refine Grows.set ?_ (by first | omega | (simp; done) | (simp; omega)) _)))⟩
    | true =>
      have e1 : alB nz E L s l = true := by unfold alB; rw [ho, hb, HZL.out]; simp
      have HV : Hid (alongL nz E L s l = tnL E s l L (n - 1)) := by unfold alongL; rw [e1, HL.out]; rfl
      rw [HV.out, e1]
      rw [ho] at C2
      have H2 := hide C2
      clear C2 hb e1 ho
      go_enter Try.func43, Try.ntmps43
      go_wp2_with (first | (go_at_call 79; refine (HC.out _ (by repeat (first | exact Grows.refl _ | refine Grows.now ?_ _ | refine Grows.new ?_ _ | refine Grows.drewN ?_ _ | refine Grows.drew ?_ | assumption | (refine Grows.set ?_ (by first | omega | (simp; done) | (simp; omega)) _)))).mono ?_; rintro e w' ⟨A1, c1, rfl, hr, hg⟩; obtain ⟨x, rfl⟩ := hg.later; have HR1 := hide hr; clear hg hr) | (go_at_call 27; refine (H2.out _ (by repeat (first | exact Grows.refl _ | refine Grows.now ?_ _ | refine Grows.new ?_ _ | refine Grows.drewN ?_ _ | refine Grows.drew ?_ | assumption | (refine Grows.set ?_ (by first | omega | (simp; done) | (simp; omega)) _)))).mono ?_; rintro e w' ⟨rfl, hg⟩; obtain ⟨x, rfl⟩ := hg.later; clear hg))
      have HA := hide HR1.out
      clear HR1
      go_loopw [13, 12] (fun i u wr => ∃ k : Nat, k ≤ n - 1 ∧ i = .int .i64 ((k : Int) + 1) ∧ ∃ y : Later x.now, wr = y.now ∧ ∃ A' c' q, u = .slice A' q c' ∧ q = k ∧ Own y.now x.now.heap.size 3 1 A' q c' ((tnL E s l L q).map (.int .i64))) (fun i _ _ => n + 1 - (intOf i).toNat)
      case atStart => exact ⟨0, by omega, by go_num, ⟨_, Grows.refl _⟩, rfl, none, 0, 0, rfl, by omega, Own.nil _ _ _ _⟩
      case round =>
        obtain ⟨k, hk, rfl, y, rfl, A', c', q, rfl, hq, hown⟩ := hrel
        have HO := hide hown
        clear hown
        subst hq
        by_cases hend : n ≤ q + 1
        · have hqn : q = n - 1 := by omega
          subst hqn
          go_wp2
          all_goals first | (exfalso; omega) | skip
          go_ret2
          refine ⟨A', c', by rw [tnL_len]; rfl, ?_, (by repeat (first | exact Grows.refl _ | refine Grows.now ?_ _ | refine Grows.new ?_ _ | refine Grows.drewN ?_ _ | refine Grows.drew ?_ | assumption | (refine Grows.set ?_ (by first | omega | (simp; done) | (simp; omega)) _)))⟩
          rw [tnL_len]
          exact HO.out.rd
        · skip
          obtain ⟨b1, off1, rfl, hc1⟩ := HA.out.intsH (by rw [ndL_len]; omega)
          have c1 := hc1 q (by rw [ndL_len]; omega)
          have c2 := hc1 (q + 1) (by rw [ndL_len]; omega)
          have c3 := hc1 (q + 1 + 1) (by rw [ndL_len]; omega)
          rw [ndL_at _ _ _ _ _ (by omega)] at c1 c2 c3
          obtain ⟨i1, i2⟩ := HI.out q (by omega)
          obtain ⟨i3, i4⟩ := HI.out (q + 1) (by omega)
          obtain ⟨i5, i6⟩ := HI.out (q + 1 + 1) (by omega)
          have HT : Hid (tnI E s l L q = turnI (gp L (ndI E s l q).toNat) (gp L (ndI E s l (q + 1)).toNat) (gp L (ndI E s l (q + 1 + 1)).toNat)) := rfl
          have HN := hide (tnL_succ E s l L q)
          generalize hu : ndI E s l q = u0 at *
          generalize hv : ndI E s l (q + 1) = u1 at *
          generalize hw : ndI E s l (q + 1 + 1) = u2 at *
          obtain ⟨u0, rfl⟩ := Int.eq_ofNat_of_zero_le i1
          obtain ⟨u1, rfl⟩ := Int.eq_ofNat_of_zero_le i3
          obtain ⟨u2, rfl⟩ := Int.eq_ofNat_of_zero_le i5
          simp only [Int.toNat_natCast] at HT
          obtain ⟨bz, offz, rfl, hcz⟩ := HZ.out.places (by omega)
          have p1 := Holds.mk (hcz u0 (by omega)).1
          have p2 := Holds.mk (hcz u0 (by omega)).2
          have p3 := Holds.mk (hcz u1 (by omega)).1
          have p4 := Holds.mk (hcz u1 (by omega)).2
          have p5 := Holds.mk (hcz u2 (by omega)).1
          have p6 := Holds.mk (hcz u2 (by omega)).2
          have c4 : Holds _ ⟨b1, off1 + (q + 2), none⟩ (.int .i64 (u2 : Int)) := c3
          have t2 : ((q : Int) + 1 + 1).toNat = q + 1 + 1 := by omega
          clear hcz hc1 hu hv hw
          generalize gp L u0 = P0 at *
          generalize gp L u1 = P1 at *
          generalize gp L u2 = P2 at *
          go_wp2_with fail
          all_goals first | (exfalso; omega) | skip
          (refine wp_region_tail1 26 (by kernel_rfl) (by kernel_rfl) ?_; simp only [List.take_succ_cons, List.take_zero, List.drop_succ_cons, List.drop_zero]; (repeat' (first | (refine gLex_val0 rfl (by kernel_rfl) (fun K hK => ?_); (go_simp; (try (simp only [↓IntWalk.iteOmega]; try go_simp)); (try simp (disch := omega) only [IntWalk.i64_in]); (try simp (disch := omega) only [IntWalk.u64_in]); first | (refine hK _ ?_; clear hK K) | (apply Exists.intro; refine ⟨fun x => ?_, hK _ ?_⟩; (first | (go_at_call 13; exact turn_any2 _ _ _ _)); clear hK K))) | (refine gLex_undef rfl rfl rfl (by kernel_rfl) (fun K hK => ?_); go_simp; refine hK _ ?_; clear hK K) | (refine gLex_ask rfl rfl rfl ?_; first | (apply gAsk_yes; kernel_rfl; intro K hK; (go_simp; (try (simp only [↓IntWalk.iteOmega]; try go_simp)); (try simp (disch := omega) only [IntWalk.i64_in]); (try simp (disch := omega) only [IntWalk.u64_in]); first | (refine hK _ ?_; clear hK K) | (apply Exists.intro; refine ⟨fun x => ?_, hK _ ?_⟩; (first | (go_at_call 13; exact turn_any2 _ _ _ _)); clear hK K))) | ((first | apply gAsk_no1 | apply gAsk_no2); kernel_rfl; intro K hK; simp [go_sem]; refine hK _ ?_; clear hK K)))); refine gLex_prop rfl (by kernel_rfl) rfl (by simp) (One (.int .i64 (turnI P0 P1 P2))) (One.lasts _) (fun x => by (go_simp; exact ⟨(Grows.refl _).new _, _, rfl, inferInstance⟩)) ?_; refine gLex_endT1 (by simp) (fun x v hv => ?_); obtain ⟨gnew, rfl, hgnew⟩ := hv; simp only [Act.put, List.setIfInBounds_toArray, List.set_cons_zero, List.set_cons_succ])
          go_wp2_with (at_builtin; refine wp_app1 elemInt rfl _ _ rfl _ (by repeat (first | exact Grows.refl _ | refine Grows.now ?_ _ | refine Grows.new ?_ _ | refine Grows.drewN ?_ _ | refine Grows.drew ?_ | assumption | (refine Grows.set ?_ (by first | omega | (simp; done) | (simp; omega)) _))) q c' A' _ rfl (HO.out.grows (by repeat (first | exact Grows.refl _ | refine Grows.now ?_ _ | refine Grows.new ?_ _ | refine Grows.drewN ?_ _ | refine Grows.drew ?_ | assumption | (refine Grows.set ?_ (by first | omega | (simp; done) | (simp; omega)) _)))) _ _ _ rfl inferInstance rfl (by omega) ?_; intro A3 c3 y3 hown3; have HO3 := hide hown3; clear hown3)
          refine ⟨⟨q + 1, by omega, by go_num, y3, rfl, A3, c3, q + 1, rfl, by omega, ?_⟩, by simp [intOf]; omega⟩
          rw [HN.out, HT.out, List.map_append]
          exact HO3.out
  · have e1 : alB N E L s l = false := by unfold alB; rw [decide_eq_false (by rw [HZL.out]; exact hN), Bool.false_and, Bool.and_false]
    have HV : Hid (alongL N E L s l = []) := by unfold alongL; rw [e1]; rfl
    rw [HV.out, e1]
    have hd : ((nz : Int) == N) = false := by simpa using hN
    clear C2 hb e1
    go_enter Try.func43, Try.ntmps43
    go_wp2_with (go_at_call 79; refine (HC.out _ (by repeat (first | exact Grows.refl _ | refine Grows.now ?_ _ | refine Grows.new ?_ _ | refine Grows.drewN ?_ _ | refine Grows.drew ?_ | assumption | (refine Grows.set ?_ (by first | omega | (simp; done) | (simp; omega)) _)))).mono ?_; rintro e w' ⟨A1, c1, rfl, _, hg⟩; obtain ⟨x, rfl⟩ := hg.later; clear hg)
    go_ret2
    exact ⟨none, 0, rfl, ⟨rfl, fun h => absurd h (by simp)⟩, (by repeat (first | exact Grows.refl _ | refine Grows.now ?_ _ | refine Grows.new ?_ _ | refine Grows.drewN ?_ _ | refine Grows.drew ?_ | assumption | (refine Grows.set ?_ (by first | omega | (simp; done) | (simp; omega)) _)))⟩
end Go.Proofs.Ytaoodmioehkebaa
