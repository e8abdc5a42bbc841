/- Contract: any graph with any changes, by the program. -/
import Derived.Test.YtpnncadglhlclaaChPlain
namespace Go.Proofs.Ytpnncadglhlclaa
open Go Go.RowKit
theorem chB_at {m : Nat} {c : Chg} : chB m c = true ↔ chF m c.e c.w = 0 := ⟨fun h => of_decide_eq_true h, fun h => decide_eq_true h⟩
theorem ap_bad {N : Int} {E : List Edg} {L : List Chg} {k : Nat} (hr : rightF N E = 0) (hk : k < L.length) (hj : ∀ j, j < k → chB E.length (gc L j) = true) (h : chB E.length (gc L k) = false) :
    apN N E L = 0 ∧ apL N E L = [] ∧ apI N E L = k ∧ apF N E L = chF E.length (gc L k).e (gc L k).w := by
  have hb := bdK_at hk hj h
  have ho : apOk N E L = false := by unfold apOk; rw [hb, decide_eq_false (show ¬ k = L.length by omega), Bool.and_false]
  unfold apN apL apI apF
  rw [ho, hb, if_pos hr, if_pos hr, if_pos hk, if_pos hk]
  exact ⟨rfl, rfl, rfl, rfl⟩
theorem ap_all {N : Int} {E : List Edg} {L : List Chg} (hr : rightF N E = 0) (hj : ∀ j, j < L.length → chB E.length (gc L j) = true) :
    apN N E L = N ∧ apL N E L = apE E L L.length ∧ apI N E L = 0 ∧ apF N E L = 0 := by
  have hb := bdK_all hj
  have ho : apOk N E L = true := by unfold apOk; rw [hb, decide_eq_true hr, decide_eq_true rfl]; rfl
  unfold apN apL apI apF
  rw [ho, hb, if_pos hr, if_pos hr, if_neg (Nat.lt_irrefl _), if_neg (Nat.lt_irrefl _)]
  exact ⟨rfl, rfl, rfl, rfl⟩
theorem ap_not {N : Int} {E : List Edg} {L : List Chg} (hr : ¬ rightF N E = 0) : apN N E L = 0 ∧ apL N E L = [] ∧ apI N E L = 0 ∧ apF N E L = 1 := by
  have ho : apOk N E L = false := by unfold apOk; rw [decide_eq_false hr, Bool.false_and]
  unfold apN apL apI apF
  rw [ho, if_neg hr, if_neg hr]
  exact ⟨rfl, rfl, rfl, rfl⟩
theorem Rd.none0 (w : World) (size : Nat) : Rd w none size 0 [] := ⟨by simp, fun h => absurd h (by simp)⟩
/-- A graph in memory of the call's own, a place, and why not. -/
def GiveAF (w : World) (N : Int) (E : List Edg) (i f : Int) (e : Ending) (w' : World) : Prop := ∃ A c, e = .returned (.tuple #[.agg #[.int .i64 N, .slice A E.length c], .int .i64 i, .int .i64 f]) ∧ Rd w' A 3 E.length (esCells E) ∧ (∀ b off, A = some ⟨b, off, none⟩ → 0 < E.length → w.heap.size ≤ b) ∧ Grows w w'
set_option maxRecDepth 20000 in
set_option maxHeartbeats 4000000 in
theorem chApplyF (N : Int) (A : Option Addr) (n c : Nat) (E : List Edg) (B : Option Addr) (m d : Nat) (L : List Chg) (w : World) (h : Rd w A 3 n (esCells E)) (hn : n ≤ 1000000) (hc : Rd w B 2 m (csCells L)) (hm : m ≤ 1000000) :
    Calls Try.prog 61 #[.agg #[.int .i64 N, .slice A n c], .slice B m d] w (GiveAF w (apN N E L) (apL N E L) (apI N E L) (apF N E L)) := by
  have hl := h.elen
  have hlm := hc.clen
  have HC := hide (fun W (g : Grows w W) => gClone N A n c E W (h.grows g) hn)
  have C1 := fun W (g : Grows w W) => gRight N A n c E W (h.grows g) hn
  by_cases hr : rightF N E = 0
  · rw [hr] at C1
    have H1 := hide C1
    have HAP := hide (fun k (hj : ∀ j, j < k → chB n (gc L j) = true) => right_ap hr k (by rw [hl]; exact hj))
    have HBad := hide (fun k (hk : k < m) (hj : ∀ j, j < k → chB n (gc L j) = true) (h : chB n (gc L k) = false) => ap_bad (N := N) hr (L := L) (k := k) (by omega) (by rw [hl]; exact hj) (by rw [hl]; exact h))
    have HAll := hide (fun (hj : ∀ j, j < m → chB n (gc L j) = true) => ap_all (N := N) hr (L := L) (by rw [hl, hlm]; exact hj))
    have HC2 := hide hc
    have HLe := hide (fun k => (apE_len E L k).trans hl)
    have HLm := hide hlm
    have HL := hide hl
    clear C1 hr h hc hl hlm
    go_enter Try.func61, Try.ntmps61
    go_wp2_with fail
    go_step3
    go_wp2_with (first
      | (go_at_call 82; refine (H1.out _ (by repeat (first | exact Grows.refl _ | refine Grows.now ?_ _ | refine Grows.new ?_ _ | refine Grows.drewN ?_ _ | refine Grows.drew ?_ | assumption | (refine Grows.set ?_ (by first | omega | (simp; done) | (simp; omega)) _)))).mono ?_; rintro e w' ⟨rfl, hg⟩; obtain ⟨x1, rfl⟩ := hg.later; clear hg)
      | (go_at_call 100; refine (HC.out _ (by repeat (first | exact Grows.refl _ | refine Grows.now ?_ _ | refine Grows.new ?_ _ | refine Grows.drewN ?_ _ | refine Grows.drew ?_ | assumption | (refine Grows.set ?_ (by first | omega | (simp; done) | (simp; omega)) _)))).mono ?_; rintro e w' ⟨A1, c1, rfl, ho1, hg⟩; obtain ⟨x2, rfl⟩ := hg.later; have HO1 := hide ho1; clear hg ho1))
    go_step3
    go_wp2_with fail
    have HA1 : Hid (0 < n → ∃ g, A1 = some ⟨g, 0, none⟩ ∧ x1.now.heap.size ≤ g ∧ g < x2.now.heap.size) := fun h0 => by
      obtain ⟨g, e, h1, h2, _⟩ := HO1.out.atS (by rw [HL.out]; exact h0)
      exact ⟨g, e, h1, h2⟩
    have hgx := x1.size
    simp only [World.size_alloc] at hgx
    have hgx2 := x2.size
    go_loopw [20] (fun i wr => ∃ k : Nat, k ≤ m ∧ i = .int .i64 (k : Int) ∧ ∃ y : Later x1.now, wr = y.now ∧ Own y.now x1.now.heap.size 49 3 A1 E.length c1 (esCells (apE E L k)) ∧ Holds y.now ⟨x2.now.heap.size, 0, none⟩ (.int .i64 N) ∧ Holds y.now ⟨x2.now.heap.size, 1, none⟩ (.slice A1 E.length c1) ∧ Hid (∀ j, j < k → chB n (gc L j) = true)) (fun i _ => m - (intOf i).toNat)
    case atStart => exact ⟨0, by omega, by go_num, ⟨x2.now.alloc _, (by repeat (first | exact Grows.refl _ | refine Grows.now ?_ _ | refine Grows.new ?_ _ | refine Grows.drewN ?_ _ | refine Grows.drew ?_ | assumption | (refine Grows.set ?_ (by first | omega | (simp; done) | (simp; omega)) _)))⟩, rfl, HO1.out.new _, @Mine.holds _ _ _ (Mine.new0 _ _ _ _), @Mine.holds _ _ _ (Mine.new1 _ _ _ _ _), fun j h => by omega⟩
    case round =>
      obtain ⟨k, hk, rfl, y, rfl, hown, b0, b1, HJ⟩ := hrel
      have HO := hide hown
      clear hown
      by_cases hend : m ≤ k
      · have hkm : k = m := by omega
        subst hkm
        have HV := hide (HAll.out HJ.out)
        go_wp2
        rw [Exit.noGoto_ret]
        refine bodyPost_ret (v := .tuple #[.agg #[.int .i64 N, .slice A1 E.length c1], .int .i64 0, .int .i64 0]) (by simp (maxDischargeDepth := 6) [results, Try.results61, go_sem, *]) rfl ?_
        obtain ⟨v1, v2, v3, v4⟩ := HV.out
        rw [v1, v2, v3, v4, HLm.out]
        refine ⟨A1, c1, by rw [apE_len], ?_, fun b off e h0 => by obtain ⟨g, e', h1, _⟩ := HA1.out (by rw [apE_len, HL.out] at h0; exact h0); rw [e'] at e; injection e with e; injection e with e1 _; omega, (by repeat (first | exact Grows.refl _ | refine Grows.now ?_ _ | refine Grows.new ?_ _ | refine Grows.drewN ?_ _ | refine Grows.drew ?_ | assumption | (refine Grows.set ?_ (by first | omega | (simp; done) | (simp; omega)) _)))⟩
        rw [apE_len]
        exact ((HO.out.low (by show w.heap.size + 1 < _; omega) _).low (by show w.heap.size + 1 < _; omega) _).rd
      · obtain ⟨b, off, rfl, hcc⟩ := HC2.out.chgsH (by omega)
        obtain ⟨c2, c3⟩ := hcc k (by omega)
        clear hcc
        have D1 := fun (W : World) (g : Grows y.now W) => gWith N A1 E.length c1 (apE E L k) (gc L k).e (gc L k).w W (HO.out.rd.grows g) (by rw [HL.out]; omega)
        have hwf : withF N (apE E L k) (gc L k).e (gc L k).w = chF n (gc L k).e (gc L k).w := by unfold withF; rw [if_pos (HAP.out k HJ.out), HLe.out k]
        rw [hwf] at D1
        cases hb : chB n (gc L k) with
        | false =>
          have HV := hide (HBad.out k (by omega) HJ.out hb)
          have hf : (chF n (gc L k).e (gc L k).w == 0) = false := beq_eq_false_iff_ne.2 (fun e => by rw [chB_at.2 e] at hb; cases hb)
          have HFv : Hid (chF E.length (gc L k).e (gc L k).w = chF n (gc L k).e (gc L k).w) := by rw [HL.out]; rfl
          have K1 := hide D1
          clear D1 hwf hb
          generalize chF n (gc L k).e (gc L k).w = f at *
          generalize (gc L k).e = e at *
          generalize (gc L k).w = x at *
          go_wp2_with (go_at_call 101; refine (K1.out _ (by repeat (first | exact Grows.refl _ | refine Grows.now ?_ _ | refine Grows.new ?_ _ | refine Grows.drewN ?_ _ | refine Grows.drew ?_ | assumption | (refine Grows.set ?_ (by first | omega | (simp; done) | (simp; omega)) _)))).mono ?_; rintro e w' ⟨N4, A4, n4, c4, rfl, _, hg⟩; obtain ⟨x4, rfl⟩ := hg.later; clear hg)
          rw [Exit.noGoto_ret]
          refine bodyPost_ret (v := .tuple #[.agg #[.int .i64 0, .slice none 0 0], .int .i64 (k : Int), .int .i64 f]) (by simp (maxDischargeDepth := 6) [results, Try.results61, go_sem, *]) rfl ?_
          obtain ⟨v1, v2, v3, v4⟩ := HV.out
          rw [v1, v2, v3, v4, HFv.out]
          exact ⟨none, 0, rfl, Rd.none0 _ _, (fun _ _ h => (by cases h)), (by repeat (first | exact Grows.refl _ | refine Grows.now ?_ _ | refine Grows.new ?_ _ | refine Grows.drewN ?_ _ | refine Grows.drew ?_ | assumption | (refine Grows.set ?_ (by first | omega | (simp; done) | (simp; omega)) _)))⟩
        | true =>
          obtain ⟨e1, e2, _, _⟩ := chB_spec hb
          rw [chB_at.1 hb] at D1
          have K1 := hide D1
          have HJ2 : Hid (∀ j, j < k + 1 → chB n (gc L j) = true) := fun j hj => by
            by_cases e : j = k
            · rw [e]; exact hb
            · exact HJ.out j (by omega)
          clear D1 hwf hb
          obtain ⟨g, rfl, hg1, hg2⟩ := HA1.out (by omega)
          have HN := hide (apE_succ E L k)
          have HLk := hide (HLe.out k)
          have HS := hide (setW_same (apE E L k))
          generalize apE E L k = Ek at *
          generalize (gc L k).w = x at *
          obtain ⟨e, he⟩ := Int.eq_ofNat_of_zero_le e1
          rw [he] at c2 e2 K1 HN
          rw [Int.toNat_natCast] at HN
          clear he
          have hen : e < E.length := by rw [HL.out]; omega
          obtain ⟨g', e', _, _, hM⟩ := HO.out.atS (by omega)
          obtain rfl : g = g' := by simpa using e'
          have c5 := hM _ _ (es_at2 (k := e) (by rw [HLk.out]; omega))
          clear hM e'
          by_cases hw : (ge Ek e).w = x
          · have hd : ((ge Ek e).w == x) = true := beq_iff_eq.2 hw
            have HN2 : Hid (apE E L (k + 1) = Ek) := by show _ = _; rw [HN.out, ← hw]; exact HS.out e
            clear hw
            generalize (ge Ek e).w = xo at *
            go_wp2_with (go_at_call 101; refine (K1.out _ (by repeat (first | exact Grows.refl _ | refine Grows.now ?_ _ | refine Grows.new ?_ _ | refine Grows.drewN ?_ _ | refine Grows.drew ?_ | assumption | (refine Grows.set ?_ (by first | omega | (simp; done) | (simp; omega)) _)))).mono ?_; rintro e w' ⟨N4, A4, n4, c4, rfl, _, hg⟩; obtain ⟨x4, rfl⟩ := hg.later; clear hg)
            ((first | refine wp_region_gen (by kernel_rfl) (by kernel_rfl) ?_); (repeat' (first | (refine gLex_val0 rfl (by kernel_rfl) (fun K hK => ?_); (go_simp; (try (simp only [↓IntWalk.iteOmega]; try go_simp)); (try simp (disch := omega) only [IntWalk.i64_in]); (try simp (disch := omega) only [IntWalk.u64_in]); first | (refine hK _ ?_; clear hK K) | (apply Exists.intro; refine ⟨fun x => ?_, hK _ ?_⟩; (first | fail); clear hK K))) | (refine gLex_undef rfl rfl rfl (by kernel_rfl) (fun K hK => ?_); go_simp; refine hK _ ?_; clear hK K) | (refine gLex_ask rfl rfl rfl ?_; first | (apply gAsk_yes; kernel_rfl; intro K hK; (go_simp; (try (simp only [↓IntWalk.iteOmega]; try go_simp)); (try simp (disch := omega) only [IntWalk.i64_in]); (try simp (disch := omega) only [IntWalk.u64_in]); first | (refine hK _ ?_; clear hK K) | (apply Exists.intro; refine ⟨fun x => ?_, hK _ ?_⟩; (first | fail); clear hK K))) | ((first | apply gAsk_no1 | apply gAsk_no2); kernel_rfl; intro K hK; simp [go_sem]; refine hK _ ?_; clear hK K) | (apply gAsk_part; kernel_rfl; all_goals (intro h K hK; (try simp only [Bool.not_true] at h); (try simp only [Bool.not_false] at h); (try simp only [decide_eq_true_eq] at h); (try simp only [decide_eq_false_iff_not] at h); first | (exfalso; first | contradiction | omega) | (go_simp; (try (simp only [↓IntWalk.iteOmega]; try go_simp)); (try simp (disch := omega) only [IntWalk.i64_in]); (try simp (disch := omega) only [IntWalk.u64_in]); first | (refine hK _ ?_; clear hK K) | (apply Exists.intro; refine ⟨fun x => ?_, hK _ ?_⟩; (first | fail); clear hK K))))))); all_goals ((apply gLex_end); intro x5))
            go_wp2
            exact ⟨⟨k + 1, by omega, by go_num, ⟨x5.now, (by repeat (first | exact Grows.refl _ | refine Grows.now ?_ _ | refine Grows.new ?_ _ | refine Grows.drewN ?_ _ | refine Grows.drew ?_ | assumption | (refine Grows.set ?_ (by first | omega | (simp; done) | (simp; omega)) _)))⟩, rfl, by rw [HN2.out]; exact (show Own x5.now _ _ _ _ _ _ _ from HO.out.grows (by repeat (first | exact Grows.refl _ | refine Grows.now ?_ _ | refine Grows.new ?_ _ | refine Grows.drewN ?_ _ | refine Grows.drew ?_ | assumption | (refine Grows.set ?_ (by first | omega | (simp; done) | (simp; omega)) _)))), (inferInstance : Holds x5.now _ _), (inferInstance : Holds x5.now _ _), HJ2⟩, by simp [intOf]; omega⟩
          · have hd : ((ge Ek e).w == x) = false := beq_eq_false_iff_ne.2 hw
            clear hw
            generalize (ge Ek e).w = xo at *
            go_wp2_with (go_at_call 101; refine (K1.out _ (by repeat (first | exact Grows.refl _ | refine Grows.now ?_ _ | refine Grows.new ?_ _ | refine Grows.drewN ?_ _ | refine Grows.drew ?_ | assumption | (refine Grows.set ?_ (by first | omega | (simp; done) | (simp; omega)) _)))).mono ?_; rintro e w' ⟨N4, A4, n4, c4, rfl, _, hg⟩; obtain ⟨x4, rfl⟩ := hg.later; clear hg)
            ((first | refine wp_region_gen (by kernel_rfl) (by kernel_rfl) ?_); (repeat' (first | (refine gLex_val0 rfl (by kernel_rfl) (fun K hK => ?_); (go_simp; (try (simp only [↓IntWalk.iteOmega]; try go_simp)); (try simp (disch := omega) only [IntWalk.i64_in]); (try simp (disch := omega) only [IntWalk.u64_in]); first | (refine hK _ ?_; clear hK K) | (apply Exists.intro; refine ⟨fun x => ?_, hK _ ?_⟩; (first | fail); clear hK K))) | (refine gLex_undef rfl rfl rfl (by kernel_rfl) (fun K hK => ?_); go_simp; refine hK _ ?_; clear hK K) | (refine gLex_ask rfl rfl rfl ?_; first | (apply gAsk_yes; kernel_rfl; intro K hK; (go_simp; (try (simp only [↓IntWalk.iteOmega]; try go_simp)); (try simp (disch := omega) only [IntWalk.i64_in]); (try simp (disch := omega) only [IntWalk.u64_in]); first | (refine hK _ ?_; clear hK K) | (apply Exists.intro; refine ⟨fun x => ?_, hK _ ?_⟩; (first | fail); clear hK K))) | ((first | apply gAsk_no1 | apply gAsk_no2); kernel_rfl; intro K hK; simp [go_sem]; refine hK _ ?_; clear hK K) | (apply gAsk_part; kernel_rfl; all_goals (intro h K hK; (try simp only [Bool.not_true] at h); (try simp only [Bool.not_false] at h); (try simp only [decide_eq_true_eq] at h); (try simp only [decide_eq_false_iff_not] at h); first | (exfalso; first | contradiction | omega) | (go_simp; (try (simp only [↓IntWalk.iteOmega]; try go_simp)); (try simp (disch := omega) only [IntWalk.i64_in]); (try simp (disch := omega) only [IntWalk.u64_in]); first | (refine hK _ ?_; clear hK K) | (apply Exists.intro; refine ⟨fun x => ?_, hK _ ?_⟩; (first | fail); clear hK K))))))); all_goals ((apply gLex_end); intro x5))
            go_wp2
            obtain ⟨z, ez, hoz⟩ := (show Own x5.now _ _ _ _ _ _ _ from HO.out.grows (by repeat (first | exact Grows.refl _ | refine Grows.now ?_ _ | refine Grows.new ?_ _ | refine Grows.drewN ?_ _ | refine Grows.drew ?_ | assumption | (refine Grows.set ?_ (by first | omega | (simp; done) | (simp; omega)) _)))).putS (w0 := x1.now) (j := e * 3 + 2) (by repeat (first | exact Grows.refl _ | refine Grows.now ?_ _ | refine Grows.new ?_ _ | refine Grows.drewN ?_ _ | refine Grows.drew ?_ | assumption | (refine Grows.set ?_ (by first | omega | (simp; done) | (simp; omega)) _))) (by omega) (.int .u64 x)
            rw [esCells_setW] at hoz
            refine ⟨⟨k + 1, by omega, by go_num, z, ez, by rw [HN.out]; exact hoz, ?_, ?_, HJ2⟩, by simp [intOf]; omega⟩
            · rw [← ez]
              exact (inferInstance : Holds x5.now _ _).other _ (by show g ≠ x2.now.heap.size; omega)
            · rw [← ez]
              exact (inferInstance : Holds x5.now _ _).other _ (by show g ≠ x2.now.heap.size; omega)
  · have HV := hide (ap_not (L := L) hr)
    have hr2 : (rightF N E == 0) = false := beq_eq_false_iff_ne.2 hr
    have H1 := hide C1
    clear C1 hr h hc
    go_enter Try.func61, Try.ntmps61
    go_wp2_with fail
    go_step3
    go_wp2_with (first | (go_at_call 82; refine (H1.out _ (by repeat (first | exact Grows.refl _ | refine Grows.now ?_ _ | refine Grows.new ?_ _ | refine Grows.drewN ?_ _ | refine Grows.drew ?_ | assumption | (refine Grows.set ?_ (by first | omega | (simp; done) | (simp; omega)) _)))).mono ?_; rintro e w' ⟨rfl, hg⟩; (first | obtain ⟨x, rfl⟩ := Grows.later2 hg | obtain ⟨x, rfl⟩ := Grows.later hg); clear hg))
    rw [Exit.noGoto_ret]
    refine bodyPost_ret (v := .tuple #[.agg #[.int .i64 0, .slice none 0 0], .int .i64 0, .int .i64 1]) (by simp (maxDischargeDepth := 6) [results, Try.results61, go_sem, *]) rfl ?_
    obtain ⟨v1, v2, v3, v4⟩ := HV.out
    rw [v1, v2, v3, v4]
    exact ⟨none, 0, rfl, Rd.none0 _ _, (fun _ _ h => (by cases h)), (by repeat (first | exact Grows.refl _ | refine Grows.now ?_ _ | refine Grows.new ?_ _ | refine Grows.drewN ?_ _ | refine Grows.drew ?_ | assumption | (refine Grows.set ?_ (by first | omega | (simp; done) | (simp; omega)) _)))⟩
theorem chApply (N : Int) (A : Option Addr) (n c : Nat) (E : List Edg) (B : Option Addr) (m d : Nat) (L : List Chg) (w : World) (h : Rd w A 3 n (esCells E)) (hn : n ≤ 1000000) (hc : Rd w B 2 m (csCells L)) (hm : m ≤ 1000000) :
    Calls Try.prog 61 #[.agg #[.int .i64 N, .slice A n c], .slice B m d] w (GiveA w (apN N E L) (apL N E L) (apI N E L) (apF N E L)) :=
  (chApplyF N A n c E B m d L w h hn hc hm).mono fun _ _ ⟨A, c, h1, h2, _, h3⟩ => ⟨A, c, h1, h2, h3⟩
end Go.Proofs.Ytpnncadglhlclaa
