/- Contracts: chapter 27, by the document: a part of a way, one place, all parts. -/
import Derived.Test.YtiljgkaffgclgaaGreatQLocalTests20
import Derived.Test.YtiljgkaffgclgaaGreatQLocalTests21
import Derived.Test.YtiljgkaffgclgaaGreatQLocalTests13
import Derived.Test.YtiljgkaffgclgaaGreatQLocalTests07
/- Contracts: chapter 27, by the document: a part of a way, one place, all parts. -/
namespace Go.Proofs.YtiljgkaffgclgaaGreat
open Go Go.RowKit
attribute [local go_sem] Oper.semAt_some
theorem Row1.wvN {w : World} {g NN : Nat} {L : List Nat} (h : Row1 w g 26 1 NN NN (wv L)) (hl : L.length = NN) {v : Nat} (hv : v < NN) : Holds w ⟨g, v, none⟩ (.int .u64 (gn L v : Int)) :=
  ⟨(h.mine (j := v) (wv_at (by omega))).cell⟩
set_option maxRecDepth 20000 in
set_option maxHeartbeats 4000000 in
theorem r8Offsets (N : Int) (A : Option Addr) (m c : Nat) (E : List Edg) (B : Option Addr) (n d : Nat) (l : List Int) (w : World) (h : Rd w A 3 m (esCells E)) (hm : m ≤ 1000000) (h' : Rd w B 1 n (l.map (.int .i64))) (hn : n ≤ 1000000) :
    Calls Tryz.prog 25 #[.agg #[.int .i64 N, .slice A m c], .slice B n d] w (OffPost E l (edgesB N E l) w) := by
  have HL := hide (show l.length = n by simpa using h'.len)
  have HE := hide h.elen
  have C1 := fun (W : World) (g : Grows w W) => r8edges N A m c E B n d l W (h.grows g) hm (h'.grows g) hn
  have HR := hide h
  have HS := hide h'
  clear h h'
  cases he : edgesB N E l with
  | false =>
    rw [he] at C1
    have H1 := hide C1
    clear C1 he
    go_enter Tryz.func25, Tryz.ntmps25
    go_wp2_with (first | (go_at_call 24; refine (H1.out _ (by repeat (first | exact Grows.refl _ | refine Grows.now ?_ _ | refine Grows.new ?_ _ | refine Grows.drewN ?_ _ | refine Grows.drew ?_ | assumption | (refine Grows.set ?_ (by first | omega | (simp; done) | (simp; omega)) _)))).mono ?_; rintro e w' ⟨rfl, hg⟩; (first | obtain ⟨x, rfl⟩ := Grows.later2 hg | obtain ⟨x, rfl⟩ := Grows.later hg); clear hg))
    go_ret
    exact ⟨rfl, (by repeat (first | exact Grows.refl _ | refine Grows.now ?_ _ | refine Grows.new ?_ _ | refine Grows.drewN ?_ _ | refine Grows.drew ?_ | assumption | (refine Grows.set ?_ (by first | omega | (simp; done) | (simp; omega)) _)))⟩
  | true =>
    have HI := hide (fun k (hk : k < n) => edges_in2 he (k := k) (by rw [HL.out]; exact hk))
    have HB := hide (fun k (hk : k ≤ n) => wtK_bd he k (by rw [HL.out]; exact hk))
    rw [he] at C1
    have H1 := hide C1
    clear C1 he
    go_enter Tryz.func25, Tryz.ntmps25
    go_wp2_with (go_at_call 24; refine (H1.out _ (by repeat (first | exact Grows.refl _ | refine Grows.now ?_ _ | refine Grows.new ?_ _ | refine Grows.drewN ?_ _ | refine Grows.drew ?_ | assumption | (refine Grows.set ?_ (by first | omega | (simp; done) | (simp; omega)) _)))).mono ?_; rintro e w' ⟨rfl, hg⟩; obtain ⟨x0, rfl⟩ := hg.later; clear hg)
    have hO0 : Own (x0.now.alloc (.cells #[.int .u64 0] 26)) x0.now.heap.size 26 1 (some ⟨x0.now.heap.size, 0, none⟩) 1 1 (((List.range 1).map (wtK E l)).map (.int .u64)) := Own.build x0.now 26 [.int .u64 0] x0.now.heap.size (Nat.le_refl _) (by simp)
    have HO0 := hide hO0
    clear hO0
    go_loopw [5, 6] (fun s5 s6 wr => ∃ k : Nat, k ≤ n ∧ s6 = .int .i64 (k : Int) ∧ ∃ y : Later x0.now, wr = y.now ∧ ∃ A' c', s5 = .slice A' (k + 1) c' ∧ Own y.now x0.now.heap.size 26 1 A' (k + 1) c' (((List.range (k + 1)).map (wtK E l)).map (.int .u64))) (fun _ s6 _ => n - (Go.RowKit.intOf s6).toNat)
    case atStart => exact ⟨0, by omega, by go_num, ⟨_, (by repeat (first | exact Grows.refl _ | refine Grows.now ?_ _ | refine Grows.new ?_ _ | refine Grows.drewN ?_ _ | refine Grows.drew ?_ | assumption | (refine Grows.set ?_ (by first | omega | (simp; done) | (simp; omega)) _)))⟩, rfl, _, _, rfl, HO0.out⟩
    case round =>
      obtain ⟨k, hk, rfl, y, rfl, A', c', rfl, hown⟩ := hrel
      have HO := hide hown
      clear hown
      by_cases hlt : k < n
      · have hdk : decide ((k : Int) < (n : Int)) = true := decide_eq_true (by omega)
        obtain ⟨b, off, rfl, hc⟩ := HS.out.intsH (by omega)
        have c1 := hc k (by omega)
        obtain ⟨i0, i1, i2⟩ := HI.out k (by omega)
        have hw := right_weight i0 i2
        rw [HE.out] at i2
        obtain ⟨b2, off2, rfl, hc2⟩ := HR.out.edgesH (by omega)
        obtain ⟨_, _, c4⟩ := hc2 (gi l k).toNat i2
        obtain ⟨b0, b1⟩ := HB.out k (by omega)
        obtain ⟨g, rfl, hgB, hcs⟩ := HO.out.at (by omega)
        have m1 : Holds y.now ⟨g, k, none⟩ (.int .u64 (wtK E l k)) := ⟨(hcs k _ (by simp)).cell⟩
        have HN := hide (show ((List.range (k + 1 + 1)).map (wtK E l)).map (Value.int .u64) = ((List.range (k + 1)).map (wtK E l)).map (Value.int .u64) ++ [Value.int .u64 (wtK E l (k + 1))] by rw [List.range_succ (n := k + 1)]; simp)
        have HX := hide (wtK_succ E l k)
        have hsm : 0 ≤ wtK E l k + (ge E (gi l k).toNat).w ∧ wtK E l k + (ge E (gi l k).toNat).w < 18446744073709551616 := by omega
        clear hc hc2 i0 hcs b0 b1 hw
        obtain ⟨r1, hr1⟩ : ∃ r1, wtK E l (k + 1) = r1 := ⟨_, rfl⟩
        rw [hr1] at HN HX
        generalize wtK E l k = a at *
        generalize (ge E (gi l k).toNat).w = v at *
        generalize hq : gi l k = q at *
        obtain ⟨q, rfl⟩ := Int.eq_ofNat_of_zero_le i1
        simp only [Int.toNat_natCast] at i2 c4
        clear hq hr1
        have hr2 : a + v = r1 := HX.out.symm
        rw [hr2] at hsm
        go_upto_region 7 with fail
        (refine wp_region_tail1 16 (by kernel_rfl) (by kernel_rfl) ?_; simp only [List.take_succ_cons, List.take_zero, List.drop_succ_cons, List.drop_zero]; (repeat' (first | (refine gLex_val0 rfl (by kernel_rfl) (fun K hK => ?_); (go_simp; (try (simp only [↓IntWalk.iteOmega]; try go_simp)); (try simp (disch := omega) only [IntWalk.i64_in]); (try simp (disch := omega) only [IntWalk.u64_in]); first | (refine hK _ ?_; clear hK K) | (apply Exists.intro; refine ⟨fun x => ?_, hK _ ?_⟩; (first | fail); clear hK K))) | (refine gLex_undef rfl rfl rfl (by kernel_rfl) (fun K hK => ?_); go_simp; refine hK _ ?_; clear hK K) | (refine gLex_ask rfl rfl rfl ?_; first | (apply gAsk_yes; kernel_rfl; intro K hK; (go_simp; (try (simp only [↓IntWalk.iteOmega]; try go_simp)); (try simp (disch := omega) only [IntWalk.i64_in]); (try simp (disch := omega) only [IntWalk.u64_in]); first | (refine hK _ ?_; clear hK K) | (apply Exists.intro; refine ⟨fun x => ?_, hK _ ?_⟩; (first | fail); clear hK K))) | ((first | apply gAsk_no1 | apply gAsk_no2); kernel_rfl; intro K hK; simp [go_sem]; refine hK _ ?_; clear hK K)))); refine gLex_prop rfl (by kernel_rfl) rfl (by simp) (One (.int .u64 r1)) (One.lasts _) (fun x => by (go_simp; exact ⟨(Grows.refl _).new _, _, rfl, inferInstance⟩)) ?_; refine gLex_endT1 (by simp) (fun x v hv => ?_); obtain ⟨gnew, rfl, hgnew⟩ := hv; simp only [Act.put, List.setIfInBounds_toArray, List.set_cons_zero, List.set_cons_succ])
        go_wp2_with (at_builtin; refine wp_app1 elemU64.elem rfl _ _ rfl x0.now (by repeat (first | exact Grows.refl _ | refine Grows.now ?_ _ | refine Grows.new ?_ _ | refine Grows.drewN ?_ _ | refine Grows.drew ?_ | assumption | (refine Grows.set ?_ (by first | omega | (simp; done) | (simp; omega)) _))) (k + 1) c' _ _ rfl (HO.out.grows (by repeat (first | exact Grows.refl _ | refine Grows.now ?_ _ | refine Grows.new ?_ _ | refine Grows.drewN ?_ _ | refine Grows.drew ?_ | assumption | (refine Grows.set ?_ (by first | omega | (simp; done) | (simp; omega)) _)))) _ _ _ rfl inferInstance rfl (by omega) ?_; intro A3 c3 y3 hown3; have HO3 := hide hown3; clear hown3)
        go_roundw
        case measure => simp [Go.RowKit.intOf]; omega
        case rel => exact ⟨k + 1, by omega, by go_num, y3, rfl, A3, c3, rfl, by rw [HN.out]; exact HO3.out⟩
      · obtain rfl : k = n := by omega
        have hdk : decide ((k : Int) < (k : Int)) = false := decide_eq_false (by omega)
        obtain ⟨g, rfl, _, _⟩ := HO.out.at (by omega)
        go_wp2_with fail
        go_ret
        exact ⟨g, c', by rw [HL.out]; rfl, by rw [HL.out]; exact HO.out.rd, (by repeat (first | exact Grows.refl _ | refine Grows.now ?_ _ | refine Grows.new ?_ _ | refine Grows.drewN ?_ _ | refine Grows.drew ?_ | assumption | (refine Grows.set ?_ (by first | omega | (simp; done) | (simp; omega)) _)))⟩
set_option maxRecDepth 20000 in
set_option maxHeartbeats 4000000 in
theorem r27part (NN : Nat) (A : Option Addr) (c : Nat) (E : List Edg) (F T : Nat → List Nat) (hM : Mks NN E F T) (bn on cn bo oo co m i j u v : Nat) (oi oj : Int) (w : World) (h : Rd w A 3 E.length (esCells E)) (k1 : Holds w ⟨bn, on + i, none⟩ (.int .i64 (u : Int))) (k2 : Holds w ⟨bn, on + j, none⟩ (.int .i64 (v : Int))) (k3 : Holds w ⟨bo, oo + i, none⟩ (.int .u64 oi)) (k4 : Holds w ⟨bo, oo + j, none⟩ (.int .u64 oj))
    (hi : i < m) (hj : j < m) (hu : u < NN) (hv : v < NN) (h0 : 0 ≤ oi) (h1 : oi ≤ oj) (h2 : oj < 18446744073709551616) :
    Calls Tryz.prog 27 #[.agg #[.int .i64 (NN : Int), .slice A E.length c], .slice (some ⟨bn, on, none⟩) m cn, .slice (some ⟨bo, oo, none⟩) m co, .int .i64 (i : Int), .int .i64 (j : Int)] w fun e w' => e = .returned (.bool (decide ((gn (F u) v : Int) = oj - oi))) ∧ Grows w w' := by
  have C1 := hide (fun (W : World) (g : Grows w W) => show Calls Tryz.prog 51 #[.agg #[.int .i64 (NN : Int), .slice A E.length c], .int .i64 (u : Int), .agg #[.bool false, .slice none 0 0, .slice none 0 0, .slice none 0 0, .int .u64 0]] W fun e w' =>
      ∃ gd, e = .returned (.slice (some ⟨gd, 0, none⟩) NN NN) ∧ Row1 w' gd 26 1 NN NN (wv (F u)) ∧ Grows W w' from by
    obtain ⟨xs, hxs, hFv⟩ := hM.f u hu
    rw [hFv, ← hxs.ref]
    exact r14All NN u A c E (allO false) none none none 0 0 0 W (h.grows g) (rdNil _ _) (rdNil _ _) (rdNil _ _) hxs.ok hxs.wb)
  have HFL := hide (hM.flen u hu)
  clear h hM
  obtain ⟨fv, hfv⟩ : ∃ fv : Int, (gn (F u) v : Int) = fv := ⟨_, rfl⟩
  rw [hfv]
  have HFV := hide hfv
  clear hfv
  obtain ⟨d, hd⟩ : ∃ d, decide (fv = oj - oi) = d := ⟨_, rfl⟩
  have hd2 : (fv == oj - oi) = d := by rw [← hd]; by_cases e : fv = oj - oi <;> simp [e]
  rw [hd]
  have HD := hide hd
  clear hd
  go_enter Tryz.func27, Tryz.ntmps27
  go_upto_region 1 with fail
  refine wp_region_gen (by kernel_rfl) (by kernel_rfl) ?_
  (repeat' (first | (refine gLex_val0 rfl (by kernel_rfl) (fun K hK => ?_); (go_simp; (try (simp only [↓IntWalk.iteOmega]; try go_simp)); (try simp (disch := omega) only [IntWalk.i64_in]); (try simp (disch := omega) only [IntWalk.u64_in]); first | (refine hK _ ?_; clear hK K) | (apply Exists.intro; refine ⟨fun x => ?_, hK _ ?_⟩; (first | fail); clear hK K))) | (refine gLex_undef rfl rfl rfl (by kernel_rfl) (fun K hK => ?_); go_simp; refine hK _ ?_; clear hK K) | (refine gLex_ask rfl rfl rfl ?_; first | (apply gAsk_yes; kernel_rfl; intro K hK; (go_simp; (try (simp only [↓IntWalk.iteOmega]; try go_simp)); (try simp (disch := omega) only [IntWalk.i64_in]); (try simp (disch := omega) only [IntWalk.u64_in]); first | (refine hK _ ?_; clear hK K) | (apply Exists.intro; refine ⟨fun x => ?_, hK _ ?_⟩; (first | fail); clear hK K))) | ((first | apply gAsk_no1 | apply gAsk_no2); kernel_rfl; intro K hK; simp [go_sem]; refine hK _ ?_; clear hK K))))
  refine gLex_propW (by kernel_rfl) (by kernel_rfl) rfl (by simp) (fun u' w' => ∃ gd, u' = .slice (some ⟨gd, 0, none⟩) NN NN ∧ Row1 w' gd 26 1 NN NN (wv (F u))) (fun _ _ _ hg ⟨gd, e, h⟩ => ⟨gd, e, h.grow hg⟩) (fun x => by
    go_simp
    refine (C1.out _ (by repeat (first | exact Grows.refl _ | refine Grows.now ?_ _ | refine Grows.new ?_ _ | refine Grows.drewN ?_ _ | refine Grows.drew ?_ | assumption | (refine Grows.set ?_ (by first | omega | (simp; done) | (simp; omega)) _)))).mono ?_
    rintro e w' ⟨gd, rfl, hrow, hg⟩
    exact ⟨_, rfl, hg, gd, rfl, hrow⟩) ?_
  (repeat' (first | (refine gLex_val0 rfl (by kernel_rfl) (fun K hK => ?_); (go_simp; (try (simp only [↓IntWalk.iteOmega]; try go_simp)); (try simp (disch := omega) only [IntWalk.i64_in]); (try simp (disch := omega) only [IntWalk.u64_in]); first | (refine hK _ ?_; clear hK K) | (apply Exists.intro; refine ⟨fun x => ?_, hK _ ?_⟩; (first | fail); clear hK K))) | (refine gLex_undef rfl rfl rfl (by kernel_rfl) (fun K hK => ?_); go_simp; refine hK _ ?_; clear hK K) | (refine gLex_ask rfl rfl rfl ?_; first | (apply gAsk_yes; kernel_rfl; intro K hK; (go_simp; (try (simp only [↓IntWalk.iteOmega]; try go_simp)); (try simp (disch := omega) only [IntWalk.i64_in]); (try simp (disch := omega) only [IntWalk.u64_in]); first | (refine hK _ ?_; clear hK K) | (apply Exists.intro; refine ⟨fun x => ?_, hK _ ?_⟩; (first | fail); clear hK K))) | ((first | apply gAsk_no1 | apply gAsk_no2); kernel_rfl; intro K hK; simp [go_sem]; refine hK _ ?_; clear hK K))))
  refine gLex_dep (t0 := 17) (by kernel_rfl) (by kernel_rfl) rfl (by simp) rfl (by simp) (fun u' w' => ∃ gd, u' = .pointer (some ⟨gd, v, none⟩) ∧ Row1 w' gd 26 1 NN NN (wv (F u))) (fun _ _ _ hg ⟨gd, e, h⟩ => ⟨gd, e, h.grow hg⟩) (fun x u' hu' => by
    obtain ⟨gd, rfl, hrow⟩ := hu'
    go_simp
    all_goals exact ⟨Grows.refl _, gd, rfl, hrow⟩) ?_
  refine gLex_depV (t0 := 22) (by kernel_rfl) (by kernel_rfl) rfl (by simp) (.int .u64 fv) (fun x u' hu' => by
    obtain ⟨gd, rfl, hrow⟩ := hu'
    have c2 := hrow.wvN HFL.out hv
    rw [HFV.out] at c2
    go_simp
    all_goals exact ⟨Grows.refl _, rfl⟩) ?_
  (repeat' (first | (refine gLex_val0 rfl (by kernel_rfl) (fun K hK => ?_); (go_simp; (try (simp only [↓IntWalk.iteOmega]; try go_simp)); (try simp (disch := omega) only [IntWalk.i64_in]); (try simp (disch := omega) only [IntWalk.u64_in]); first | (refine hK _ ?_; clear hK K) | (apply Exists.intro; refine ⟨fun x => ?_, hK _ ?_⟩; (first | fail); clear hK K))) | (refine gLex_undef rfl rfl rfl (by kernel_rfl) (fun K hK => ?_); go_simp; refine hK _ ?_; clear hK K) | (refine gLex_ask rfl rfl rfl ?_; first | (apply gAsk_yes; kernel_rfl; intro K hK; (go_simp; (try (simp only [↓IntWalk.iteOmega]; try go_simp)); (try simp (disch := omega) only [IntWalk.i64_in]); (try simp (disch := omega) only [IntWalk.u64_in]); first | (refine hK _ ?_; clear hK K) | (apply Exists.intro; refine ⟨fun x => ?_, hK _ ?_⟩; (first | fail); clear hK K))) | ((first | apply gAsk_no1 | apply gAsk_no2); kernel_rfl; intro K hK; simp [go_sem]; refine hK _ ?_; clear hK K))))
  refine gLex_endA (fun y5 => ?_)
  refine AtA.pop rfl (by simp) (fun z _ => ?_)
  refine AtA.pop rfl (by simp [Act.put]) (fun z _ => ?_)
  refine AtA.base ?_
  simp only [Act.put, List.setIfInBounds_toArray, List.set_cons_zero, List.set_cons_succ]
  go_wp2_with fail
  go_ret
  exact ⟨rfl, (by repeat (first | exact Grows.refl _ | refine Grows.now ?_ _ | refine Grows.new ?_ _ | refine Grows.drewN ?_ _ | refine Grows.drew ?_ | assumption | (refine Grows.set ?_ (by first | omega | (simp; done) | (simp; omega)) _)))⟩
end Go.Proofs.YtiljgkaffgclgaaGreat

/- Contracts: chapter 27, by the document and by the program: one place, all places, the first part that is not as short as any. -/
namespace Go.Proofs.YtiljgkaffgclgaaGreat
open Go Go.RowKit
set_option maxRecDepth 20000 in
set_option maxHeartbeats 8000000 in
theorem r27Test (NN : Nat) (A : Option Addr) (c : Nat) (E : List Edg) (F T : Nat → List Nat) (hM : Mks NN E F T) (s : Int) (B : Option Addr) (d : Nat) (l : List Int) (at_ a b base : Int) (w : World) (h : Rd w A 3 E.length (esCells E)) (h2 : Rd w B 1 l.length (l.map (.int .i64))) (hl : l.length ≤ 1000) (hE : E.length ≤ 1000000)
    (his : isB (NN : Int) E s l = true) (ha : U64 a) (hb : U64 b) (hbase : U64 base) :
    Calls Tryz.prog 9 #[.agg #[.int .i64 (NN : Int), .slice A E.length c], .int .i64 s, .slice B l.length d, .int .i64 at_, .agg #[.int .u64 a, .int .u64 b], .int .u64 base] w fun e w' => e = .returned (.bool (tsB (NN : Int) E F s l at_ a b base)) ∧ Grows w w' := by
  obtain ⟨hr, _, _, hed⟩ := isB_right his
  have hnl : nodesL (NN : Int) E s l = ndL E s l (l.length + 1) := by unfold nodesL; rw [if_pos his]
  have C1 := hide (fun (W : World) (g : Grows w W) => show Calls Tryz.prog 7 #[.agg #[.int .i64 (NN : Int), .slice A E.length c], .int .i64 s, .slice B l.length d] W fun e w' => ∃ A1 c1, e = .returned (.tuple #[.slice A1 (l.length + 1) c1, .bool true]) ∧ Rd w' A1 1 (l.length + 1) ((ndL E s l (l.length + 1)).map (.int .i64)) ∧ Grows W w' from by
    have := r8Nodes (NN : Int) A E.length c E s B l.length d l W (h.grows g) hE (h2.grows g) (by omega)
    rw [his, hnl] at this
    unfold GiveIB at this
    rw [ndL_len] at this
    exact this)
  have C2 := hide (fun (W : World) (g : Grows w W) => r8Offsets (NN : Int) A E.length c E B l.length d l W (h.grows g) hE (h2.grows g) (by omega))
  rw [hed] at C2
  have C3 := hide (fun (Ao : Option Addr) (co : Nat) (W : World) (q : Rd W Ao 1 (l.length + 1) (((List.range (l.length + 1)).map (wtK E l)).map (.int .u64))) => rWindow Ao (l.length + 1) co ((List.range (l.length + 1)).map (wtK E l)) at_ a b base W q (by omega) ha hb hbase)
  cases hw : wgB at_ (l.length + 1) ((List.range (l.length + 1)).map (wtK E l)) a b with
  | false =>
    have HV := hide (show tsB (NN : Int) E F s l at_ a b base = false by unfold tsB; rw [hw]; simp)
    have hwv := winV_bad (base := base) hw
    rw [← hwv] at C3
    clear h h2 his hnl hed hr hM hbase hw hwv
    go_enter Tryz.func9, Tryz.ntmps9
    go_wp2_with fail
    refine (C1.out _ (by repeat (first | exact Grows.refl _ | refine Grows.now ?_ _ | refine Grows.new ?_ _ | refine Grows.drewN ?_ _ | refine Grows.drew ?_ | assumption | (refine Grows.set ?_ (by first | omega | (simp; done) | (simp; omega)) _)))).mono ?_; rintro e w' ⟨A1, c1, rfl, hr1, hg⟩; obtain ⟨x1, rfl⟩ := hg.later; clear hg hr1
    have b1 : Arr x1.now w.heap.size 24 [.int .i64 (NN : Int), .slice A E.length c] := Arr.grow ⟨by simp [heap_push, Array.getElem_push, Array.getElem?_push, eq_add2]⟩ x1.grows
    have b2 : Arr x1.now (w.heap.size + 1) 28 [.int .u64 a, .int .u64 b] := Arr.grow ⟨by simp [heap_push, Array.getElem_push, Array.getElem?_push, eq_add2]⟩ x1.grows
    go_wp2_with fail
    refine (C2.out _ (by repeat (first | exact Grows.refl _ | refine Grows.now ?_ _ | refine Grows.new ?_ _ | refine Grows.drewN ?_ _ | refine Grows.drew ?_ | assumption | (refine Grows.set ?_ (by first | omega | (simp; done) | (simp; omega)) _)))).mono ?_; unfold OffPost; rintro e w' ⟨g2, c2, rfl, hr2, hg⟩; obtain ⟨x2, rfl⟩ := hg.later; have HR2 := hide hr2; clear hg hr2
    go_wp2_with fail
    refine (C3.out _ _ _ HR2.out).mono ?_; rintro e w' ⟨rfl, hg⟩; obtain ⟨x3, rfl⟩ := hg.later; clear hg
    go_wp2_with fail
    go_ret
    exact ⟨by rw [HV.out]; rfl, (by repeat (first | exact Grows.refl _ | refine Grows.now ?_ _ | refine Grows.new ?_ _ | refine Grows.drewN ?_ _ | refine Grows.drew ?_ | assumption | (refine Grows.set ?_ (by first | omega | (simp; done) | (simp; omega)) _)))⟩
  | true =>
    have hwin := win_in (base := base) hw
    obtain ⟨I, hI⟩ : ∃ I : Nat, winI at_ (l.length + 1) ((List.range (l.length + 1)).map (wtK E l)) a b base = I := ⟨(winI at_ (l.length + 1) ((List.range (l.length + 1)).map (wtK E l)) a b base).toNat, by omega⟩
    obtain ⟨J, hJ⟩ : ∃ J : Nat, winJ at_ (l.length + 1) ((List.range (l.length + 1)).map (wtK E l)) a b base = J := ⟨(winJ at_ (l.length + 1) ((List.range (l.length + 1)).map (wtK E l)) a b base).toNat, by omega⟩
    have hwv : winV at_ (l.length + 1) ((List.range (l.length + 1)).map (wtK E l)) a b base = .tuple #[.int .i64 (I : Int), .int .i64 (J : Int), .bool true] := by unfold winV; rw [hI, hJ, hw]
    rw [hwv] at C3
    have HV := hide (show tsB (NN : Int) E F s l at_ a b base = decide ((gn (F (nk E s l I)) (nk E s l J) : Int) = wtK E l J - wtK E l I) by unfold tsB; rw [his, hw, hI, hJ]; rfl)
    rw [hI, hJ] at hwin
    have hIJ : I ≤ J ∧ J ≤ l.length := by omega
    have hni := nk_in his I (by omega)
    have hnj := nk_in his J (by omega)
    have hpl := part_le2 hM his hIJ.1 hIJ.2
    have hwb := wtK_bd hed J (by omega)
    have hwb2 := wtK_bd hed I (by omega)
    have hle : wtK E l I ≤ wtK E l J := by omega
    have hlt : wtK E l J < 18446744073709551616 := by omega
    have hge : 0 ≤ wtK E l I := by omega
    have HM := hide hM
    have HH := hide h
    have hu := hni.1
    have hv := hnj.1
    have HNI := hide hni.2
    have HNJ := hide hnj.2
    have HOI := hide (offs_at E l (k := I) (by omega))
    have HOJ := hide (offs_at E l (k := J) (by omega))
    have HGI := hide (ndL_at E s l (l.length + 1) I (by omega))
    have HGJ := hide (ndL_at E s l (l.length + 1) J (by omega))
    have hI1 : I < l.length + 1 := by omega
    have hJ1 : J < l.length + 1 := by omega
    clear h h2 his hnl hed hr hM hbase hw hwv hwin hI hJ hIJ hni hnj hpl hwb hwb2
    generalize wtK E l I = oi at *
    generalize wtK E l J = oj at *
    generalize nk E s l I = ni at *
    generalize nk E s l J = nj at *
    go_enter Tryz.func9, Tryz.ntmps9
    go_wp2_with fail
    refine (C1.out _ (by repeat (first | exact Grows.refl _ | refine Grows.now ?_ _ | refine Grows.new ?_ _ | refine Grows.drewN ?_ _ | refine Grows.drew ?_ | assumption | (refine Grows.set ?_ (by first | omega | (simp; done) | (simp; omega)) _)))).mono ?_; rintro e w' ⟨A1, c1, rfl, hr1, hg⟩; obtain ⟨x1, rfl⟩ := hg.later; have HR1 := hide hr1; clear hg hr1
    have b1 : Arr x1.now w.heap.size 24 [.int .i64 (NN : Int), .slice A E.length c] := Arr.grow ⟨by simp [heap_push, Array.getElem_push, Array.getElem?_push, eq_add2]⟩ x1.grows
    have b2 : Arr x1.now (w.heap.size + 1) 28 [.int .u64 a, .int .u64 b] := Arr.grow ⟨by simp [heap_push, Array.getElem_push, Array.getElem?_push, eq_add2]⟩ x1.grows
    go_wp2_with fail
    refine (C2.out _ (by repeat (first | exact Grows.refl _ | refine Grows.now ?_ _ | refine Grows.new ?_ _ | refine Grows.drewN ?_ _ | refine Grows.drew ?_ | assumption | (refine Grows.set ?_ (by first | omega | (simp; done) | (simp; omega)) _)))).mono ?_; unfold OffPost; rintro e w' ⟨g2, c2, rfl, hr2, hg⟩; obtain ⟨x2, rfl⟩ := hg.later; have HR2 := hide hr2; clear hg hr2
    go_wp2_with fail
    refine (C3.out _ _ _ HR2.out).mono ?_; rintro e w' ⟨rfl, hg⟩; obtain ⟨x3, rfl⟩ := hg.later; clear hg
    have hr1 := HR1.out
    obtain ⟨bn, on, rfl, hcn⟩ := hr1.intsH (by omega)
    obtain ⟨bo, oo, ebo, hco⟩ := HR2.out.offsH (by omega)
    have k1 : Holds x1.now ⟨bn, on + I, none⟩ (.int .i64 (ni : Int)) := by have := hcn I hI1; rwa [HGI.out, HNI.out] at this
    have k2 : Holds x1.now ⟨bn, on + J, none⟩ (.int .i64 (nj : Int)) := by have := hcn J hJ1; rwa [HGJ.out, HNJ.out] at this
    have k3 : Holds x2.now ⟨bo, oo + I, none⟩ (.int .u64 oi) := by have := hco I hI1; rwa [HOI.out] at this
    have k4 : Holds x2.now ⟨bo, oo + J, none⟩ (.int .u64 oj) := by have := hco J hJ1; rwa [HOJ.out] at this
    injection ebo with ebo
    injection ebo with e1 e2 _
    subst e1 e2
    rw [Nat.zero_add] at k3 k4
    have k1' : Holds x3.now ⟨bn, on + I, none⟩ (.int .i64 (ni : Int)) := inferInstance
    have k2' : Holds x3.now ⟨bn, on + J, none⟩ (.int .i64 (nj : Int)) := inferInstance
    have k3' : Holds x3.now ⟨g2, I, none⟩ (.int .u64 oi) := inferInstance
    have k4' : Holds x3.now ⟨g2, J, none⟩ (.int .u64 oj) := inferInstance
    have C4 := hide (r27part NN A c E F T HM.out bn on c1 g2 0 c2 (l.length + 1) I J ni nj oi oj x3.now (HH.out.grows (by repeat (first | exact Grows.refl _ | refine Grows.now ?_ _ | refine Grows.new ?_ _ | refine Grows.drewN ?_ _ | refine Grows.drew ?_ | assumption | (refine Grows.set ?_ (by first | omega | (simp; done) | (simp; omega)) _)))) k1' k2' (by rw [Nat.zero_add]; exact k3') (by rw [Nat.zero_add]; exact k4') hI1 hJ1 hu hv hge hle hlt)
    rw [← HV.out] at C4
    clear hr1 hcn hco k1 k2 k3 k4 k1' k2' k3' k4'
    go_wp2_with (go_at_call 27; refine (C4.out).mono ?_; rintro e w' ⟨rfl, hg⟩; obtain ⟨x4, rfl⟩ := hg.later; clear hg)
    all_goals go_ret
    all_goals exact ⟨rfl, (by repeat (first | exact Grows.refl _ | refine Grows.now ?_ _ | refine Grows.new ?_ _ | refine Grows.drewN ?_ _ | refine Grows.drew ?_ | assumption | (refine Grows.set ?_ (by first | omega | (simp; done) | (simp; omega)) _)))⟩
set_option maxRecDepth 20000 in
set_option maxHeartbeats 2000000 in
theorem r27TestNo (N : Int) (A : Option Addr) (c : Nat) (E : List Edg) (s : Int) (B : Option Addr) (d : Nat) (l : List Int) (at_ a b base : Int) (w : World) (h : Rd w A 3 E.length (esCells E)) (h2 : Rd w B 1 l.length (l.map (.int .i64))) (hl : l.length ≤ 1000) (hE : E.length ≤ 1000000)
    (his : isB N E s l = false) :
    Calls Tryz.prog 9 #[.agg #[.int .i64 N, .slice A E.length c], .int .i64 s, .slice B l.length d, .int .i64 at_, .agg #[.int .u64 a, .int .u64 b], .int .u64 base] w fun e w' => e = .returned (.bool false) ∧ Grows w w' := by
  have C1 := hide (fun (W : World) (g : Grows w W) => r8Nodes N A E.length c E s B l.length d l W (h.grows g) hE (h2.grows g) (by omega))
  rw [his] at C1
  clear h h2
  unfold GiveIB at C1
  go_enter Tryz.func9, Tryz.ntmps9
  go_wp2_with fail
  refine (C1.out _ (by repeat (first | exact Grows.refl _ | refine Grows.now ?_ _ | refine Grows.new ?_ _ | refine Grows.drewN ?_ _ | refine Grows.drew ?_ | assumption | (refine Grows.set ?_ (by first | omega | (simp; done) | (simp; omega)) _)))).mono ?_; rintro e w' ⟨A1, c1, rfl, hr1, hg⟩; obtain ⟨x1, rfl⟩ := hg.later; clear hg hr1
  go_wp2_with fail
  go_ret
  exact ⟨rfl, (by repeat (first | exact Grows.refl _ | refine Grows.now ?_ _ | refine Grows.new ?_ _ | refine Grows.drewN ?_ _ | refine Grows.drew ?_ | assumption | (refine Grows.set ?_ (by first | omega | (simp; done) | (simp; omega)) _)))⟩
set_option maxRecDepth 20000 in
set_option maxHeartbeats 2000000 in
theorem loTestNo2 (N : Int) (A : Option Addr) (c : Nat) (E : List Edg) (s : Int) (B : Option Addr) (d : Nat) (l : List Int) (at_ a b base : Int) (w : World) (h : Rd w A 3 E.length (esCells E)) (h2 : Rd w B 1 l.length (l.map (.int .i64))) (hl : l.length ≤ 1000) (hE : E.length ≤ 1000000)
    (his : isB N E s l = false) :
    Calls Tryz.prog 10 #[.agg #[.int .i64 N, .slice A E.length c], .int .i64 s, .slice B l.length d, .int .i64 at_, .agg #[.int .u64 a, .int .u64 b], .int .u64 base] w fun e w' => e = .returned (.bool false) ∧ Grows w w' := by
  have C1 := hide (fun (W : World) (g : Grows w W) => pNodes N A E.length c E s B l.length d l W (h.grows g) hE (h2.grows g) (by omega))
  rw [his] at C1
  clear h h2
  unfold GiveIB at C1
  go_enter Tryz.func10, Tryz.ntmps10
  go_wp2_with fail
  refine (C1.out _ (by repeat (first | exact Grows.refl _ | refine Grows.now ?_ _ | refine Grows.new ?_ _ | refine Grows.drewN ?_ _ | refine Grows.drew ?_ | assumption | (refine Grows.set ?_ (by first | omega | (simp; done) | (simp; omega)) _)))).mono ?_; rintro e w' ⟨A1, c1, rfl, hr1, hg⟩; obtain ⟨x1, rfl⟩ := hg.later; clear hg hr1
  go_wp2_with fail
  go_ret
  exact ⟨rfl, (by repeat (first | exact Grows.refl _ | refine Grows.now ?_ _ | refine Grows.new ?_ _ | refine Grows.drewN ?_ _ | refine Grows.drew ?_ | assumption | (refine Grows.set ?_ (by first | omega | (simp; done) | (simp; omega)) _)))⟩
set_option maxRecDepth 20000 in
set_option maxHeartbeats 2000000 in
theorem loWorstNo (N : Int) (A : Option Addr) (c : Nat) (E : List Edg) (s : Int) (B : Option Addr) (d : Nat) (l : List Int) (w : World) (h : Rd w A 3 E.length (esCells E)) (h2 : Rd w B 1 l.length (l.map (.int .i64))) (hl : l.length ≤ 1000) (hE : E.length ≤ 1000000)
    (his : isB N E s l = false) :
    Calls Tryz.prog 11 #[.agg #[.int .i64 N, .slice A E.length c], .int .i64 s, .slice B l.length d] w fun e w' => e = .returned (.tuple #[.int .i64 0, .int .i64 0, .bool false]) ∧ Grows w w' := by
  have C1 := hide (fun (W : World) (g : Grows w W) => pNodes N A E.length c E s B l.length d l W (h.grows g) hE (h2.grows g) (by omega))
  rw [his] at C1
  clear h h2
  unfold GiveIB at C1
  go_enter Tryz.func11, Tryz.ntmps11
  go_wp2_with fail
  refine (C1.out _ (by repeat (first | exact Grows.refl _ | refine Grows.now ?_ _ | refine Grows.new ?_ _ | refine Grows.drewN ?_ _ | refine Grows.drew ?_ | assumption | (refine Grows.set ?_ (by first | omega | (simp; done) | (simp; omega)) _)))).mono ?_; rintro e w' ⟨A1, c1, rfl, hr1, hg⟩; obtain ⟨x1, rfl⟩ := hg.later; clear hg hr1
  go_wp2_with fail
  refine bodyPost_ret (v := .tuple #[.int .i64 0, .int .i64 0, .bool false]) (by simp (maxDischargeDepth := 6) [results, Tryz.results11, go_sem]) rfl ⟨rfl, (by repeat (first | exact Grows.refl _ | refine Grows.now ?_ _ | refine Grows.new ?_ _ | refine Grows.drewN ?_ _ | refine Grows.drew ?_ | assumption | (refine Grows.set ?_ (by first | omega | (simp; done) | (simp; omega)) _)))⟩
set_option maxRecDepth 20000 in
set_option maxHeartbeats 2000000 in
theorem r27WorstNo (N : Int) (A : Option Addr) (c : Nat) (E : List Edg) (s : Int) (B : Option Addr) (d : Nat) (l : List Int) (w : World) (h : Rd w A 3 E.length (esCells E)) (h2 : Rd w B 1 l.length (l.map (.int .i64))) (hl : l.length ≤ 1000) (hE : E.length ≤ 1000000)
    (his : isB N E s l = false) :
    Calls Tryz.prog 12 #[.agg #[.int .i64 N, .slice A E.length c], .int .i64 s, .slice B l.length d] w fun e w' => e = .returned (.tuple #[.int .i64 0, .int .i64 0, .bool false]) ∧ Grows w w' := by
  have C1 := hide (fun (W : World) (g : Grows w W) => r8Nodes N A E.length c E s B l.length d l W (h.grows g) hE (h2.grows g) (by omega))
  rw [his] at C1
  clear h h2
  unfold GiveIB at C1
  go_enter Tryz.func12, Tryz.ntmps12
  go_wp2_with fail
  refine (C1.out _ (by repeat (first | exact Grows.refl _ | refine Grows.now ?_ _ | refine Grows.new ?_ _ | refine Grows.drewN ?_ _ | refine Grows.drew ?_ | assumption | (refine Grows.set ?_ (by first | omega | (simp; done) | (simp; omega)) _)))).mono ?_; rintro e w' ⟨A1, c1, rfl, hr1, hg⟩; obtain ⟨x1, rfl⟩ := hg.later; clear hg hr1
  go_wp2_with fail
  refine bodyPost_ret (v := .tuple #[.int .i64 0, .int .i64 0, .bool false]) (by simp (maxDischargeDepth := 6) [results, Tryz.results12, go_sem]) rfl ⟨rfl, (by repeat (first | exact Grows.refl _ | refine Grows.now ?_ _ | refine Grows.new ?_ _ | refine Grows.drewN ?_ _ | refine Grows.drew ?_ | assumption | (refine Grows.set ?_ (by first | omega | (simp; done) | (simp; omega)) _)))⟩
set_option maxRecDepth 20000 in
set_option maxHeartbeats 8000000 in
theorem r27Worst (NN : Nat) (A : Option Addr) (c : Nat) (E : List Edg) (F T : Nat → List Nat) (hM : Mks NN E F T) (s : Int) (B : Option Addr) (d : Nat) (l : List Int) (w : World) (h : Rd w A 3 E.length (esCells E)) (h2 : Rd w B 1 l.length (l.map (.int .i64))) (hl : l.length ≤ 1000) (hE : E.length ≤ 1000000)
    (his : isB (NN : Int) E s l = true) :
    Calls Tryz.prog 12 #[.agg #[.int .i64 (NN : Int), .slice A E.length c], .int .i64 s, .slice B l.length d] w (WorstP E F s l w) := by
  obtain ⟨hr, _, _, hed⟩ := isB_right his
  have hnl : nodesL (NN : Int) E s l = ndL E s l (l.length + 1) := by unfold nodesL; rw [if_pos his]
  obtain ⟨m, hm⟩ : ∃ m, l.length + 1 = m := ⟨_, rfl⟩
  have C1 := hide (fun (W : World) (g : Grows w W) => show Calls Tryz.prog 7 #[.agg #[.int .i64 (NN : Int), .slice A E.length c], .int .i64 s, .slice B l.length d] W fun e w' => ∃ A1 c1, e = .returned (.tuple #[.slice A1 m c1, .bool true]) ∧ Rd w' A1 1 m ((ndL E s l m).map (.int .i64)) ∧ Grows W w' from by
    have := r8Nodes (NN : Int) A E.length c E s B l.length d l W (h.grows g) hE (h2.grows g) (by omega)
    rw [his, hnl] at this
    unfold GiveIB at this
    rw [ndL_len, hm] at this
    exact this)
  have C2 := hide (fun (W : World) (g : Grows w W) => show Calls Tryz.prog 25 #[.agg #[.int .i64 (NN : Int), .slice A E.length c], .slice B l.length d] W fun e w' => ∃ g c, e = .returned (.slice (some ⟨g, 0, none⟩) m c) ∧ Rd w' (some ⟨g, 0, none⟩) 1 m (((List.range m).map (wtK E l)).map (.int .u64)) ∧ Grows W w' from by
    have := r8Offsets (NN : Int) A E.length c E B l.length d l W (h.grows g) hE (h2.grows g) (by omega)
    rw [hed] at this
    unfold OffPost at this
    rw [hm] at this
    exact this)
  have HM := hide hM
  have HH := hide h
  have HSF := hide (fun u (hu : u < NN) => hM.self (u := u) hu)
  have HPL := hide (fun i j (hij : i ≤ j) (hj : j < m) => show (gn (F (nk E s l i)) (nk E s l j) : Int) ≤ wtK E l j - wtK E l i from (part_le2 hM his hij (by omega)).2)
  have HNK := hide (fun k (hk : k < m) => nk_in his k (by omega))
  have HGI := hide (fun k (hk : k < m) => (ndL_at E s l m k hk).trans (nk_in his k (by omega)).2)
  have HOF := hide (fun k (hk : k < m) => show gi ((List.range m).map (wtK E l)) k = wtK E l k from by rw [← hm]; exact offs_at E l (by omega))
  have HWT := hide (fun i j (hij : i ≤ j) (hj : j < m) => show 0 ≤ wtK E l i ∧ wtK E l i ≤ wtK E l j ∧ wtK E l j < 18446744073709551616 from by
    have h1 := wtK_bd hed i (by omega)
    have h2 := wtK_bd hed j (by omega)
    have h3 := part_le2 hM his hij (by omega)
    omega)
  have HFL := hide hM.flen
  have HM2 := hide hm
  have hmp : 0 < m := by omega
  have hm2 : m ≤ 1001 := by omega
  clear h h2 his hnl hed hr hM hm
  go_enter Tryz.func12, Tryz.ntmps12
  go_wp2_with fail
  refine (C1.out _ (by repeat (first | exact Grows.refl _ | refine Grows.now ?_ _ | refine Grows.new ?_ _ | refine Grows.drewN ?_ _ | refine Grows.drew ?_ | assumption | (refine Grows.set ?_ (by first | omega | (simp; done) | (simp; omega)) _)))).mono ?_; rintro e w' ⟨A1, c1, rfl, hr1, hg⟩; obtain ⟨x1, rfl⟩ := hg.later; clear hg
  have b1 : Arr x1.now w.heap.size 24 [.int .i64 (NN : Int), .slice A E.length c] := Arr.grow ⟨by simp [heap_push]⟩ x1.grows
  obtain ⟨bn, on, rfl, hcn⟩ := hr1.intsH hmp
  have HCN := hide (fun k (hk : k < m) => show Holds x1.now ⟨bn, on + k, none⟩ (.int .i64 (nk E s l k : Int)) from by have := hcn k hk; rwa [HGI.out k hk] at this)
  clear hr1 hcn
  go_wp2_with fail
  refine (C2.out _ (by repeat (first | exact Grows.refl _ | refine Grows.now ?_ _ | refine Grows.new ?_ _ | refine Grows.drewN ?_ _ | refine Grows.drew ?_ | assumption | (refine Grows.set ?_ (by first | omega | (simp; done) | (simp; omega)) _)))).mono ?_; rintro e w' ⟨go, c2, rfl, hr2, hg⟩; obtain ⟨x2, rfl⟩ := hg.later; clear hg
  obtain ⟨bo, oo, ebo, hco⟩ := hr2.offsH hmp
  injection ebo with ebo
  injection ebo with e1 e2 _
  subst e1 e2
  have HCO := hide (fun k (hk : k < m) => show Holds x2.now ⟨go, k, none⟩ (.int .u64 (wtK E l k)) from by have := hco k hk; rw [HOF.out k hk, Nat.zero_add] at this; exact this)
  clear hr2 hco
  have HGW := hide (show Grows w x2.now from (by repeat (first | exact Grows.refl _ | refine Grows.now ?_ _ | refine Grows.new ?_ _ | refine Grows.drewN ?_ _ | refine Grows.drew ?_ | assumption | (refine Grows.set ?_ (by first | omega | (simp; done) | (simp; omega)) _))))
  have HCN2 := hide (fun k (hk : k < m) => show Holds x2.now ⟨bn, on + k, none⟩ (.int .i64 (nk E s l k : Int)) from by have := HCN.out k hk; infer_instance)
  have bX : Arr x2.now w.heap.size 24 [.int .i64 (NN : Int), .slice A E.length c] := b1.grow x2.grows
  clear HCN b1 C1 C2
  generalize x2.now = X at *
  generalize w.heap.size = b3 at *
  clear x2 x1
  go_wp2_with fail
  go_loopw [12] (fun s12 wr => ∃ k : Nat, k ≤ m ∧ s12 = .int .i64 (k : Int) ∧ (∀ i' j', i' < j' → j' < m → i' < k → badB E F s l i' j' = false) ∧ ∃ y : Later X, wr = y.now) (fun s12 _ => m - (Go.RowKit.intOf s12).toNat)
  case atStart => exact ⟨0, by omega, by go_num, fun i' j' _ _ h => absurd h (by omega), ⟨_, Grows.refl _⟩, rfl⟩
  case round =>
    obtain ⟨k, hk, rfl, hno, y, rfl⟩ := hrel
    have HNO := hide hno
    clear hno
    by_cases hlt : k < m
    · have hdk : decide ((k : Int) < (m : Int)) = true := decide_eq_true (by omega)
      go_wp2_with fail
      go_loopw [13] (fun s13 wr => ∃ j : Nat, k ≤ j ∧ j ≤ m ∧ s13 = .int .i64 (j : Int) ∧ (∀ j', k < j' → j' < j → badB E F s l k j' = false) ∧ ∃ z : Later X, wr = z.now) (fun s13 _ => m - (Go.RowKit.intOf s13).toNat)
      case atStart => exact ⟨k, by omega, by omega, rfl, fun j' h1 h2 => absurd h2 (by omega), y, rfl⟩
      case round =>
        obtain ⟨j, hkj, hj, rfl, hn2, z, rfl⟩ := hrel
        have HN2 := hide hn2
        clear hn2
        by_cases hjl : j < m
        · have hdj : decide ((j : Int) < (m : Int)) = true := decide_eq_true (by omega)
          have k1 := HCN2.out k hlt
          have k2 := HCN2.out j hjl
          have k3 := HCO.out k hlt
          have k4 := HCO.out j hjl
          obtain ⟨o0, o1, o2⟩ := HWT.out k j hkj hjl
          have C4 := hide (fun (W : World) (g : Grows X W) => r27part NN A c E F T HM.out bn on c1 go 0 c2 m k j (nk E s l k) (nk E s l j) (wtK E l k) (wtK E l j) W (HH.out.grows (HGW.out.trans g)) ⟨g.keeps k1.cell⟩ ⟨g.keeps k2.cell⟩ (by rw [Nat.zero_add]; exact ⟨g.keeps k3.cell⟩) (by rw [Nat.zero_add]; exact ⟨g.keeps k4.cell⟩) hlt hjl (HNK.out k hlt).1 (HNK.out j hjl).1 o0 o1 o2)
          clear k1 k2 k3 k4
          have HP := hide (HPL.out k j hkj hjl)
          by_cases he : (gn (F (nk E s l k)) (nk E s l j) : Int) = wtK E l j - wtK E l k
          · rw [decide_eq_true he] at C4
            have HB := hide (show badB E F s l k j = false from decide_eq_false (by omega))
            clear he o0 o1 o2
            go_wp2_with (go_at_call 27; refine (C4.out _ (by repeat (first | exact Grows.refl _ | refine Grows.now ?_ _ | refine Grows.new ?_ _ | refine Grows.drewN ?_ _ | refine Grows.drew ?_ | assumption | (refine Grows.set ?_ (by first | omega | (simp; done) | (simp; omega)) _)))).mono ?_; rintro e w' ⟨rfl, hg⟩; obtain ⟨x4, rfl⟩ := hg.later; clear hg)
            go_roundw
            case measure => simp [Go.RowKit.intOf]; omega
            case rel =>
              refine ⟨j + 1, by omega, by omega, by go_num, fun j' h1 h2 => ?_, ⟨x4.now, z.grows.trans x4.grows⟩, rfl⟩
              by_cases e : j' = j
              · subst e; exact HB.out
              · exact HN2.out j' h1 (by omega)
          · rw [decide_eq_false he] at C4
            have hkj2 : k < j := by
              rcases Nat.lt_or_ge k j with h | h
              · exact h
              · exfalso
                obtain rfl : k = j := by omega
                have := HSF.out _ (HNK.out k hlt).1
                apply he
                rw [this]
                omega
            have HB := hide (show badB E F s l k j = true from decide_eq_true (by have := HP.out; omega))
            clear he o0 o1 o2
            go_wp2_with (go_at_call 27; refine (C4.out _ (by repeat (first | exact Grows.refl _ | refine Grows.now ?_ _ | refine Grows.new ?_ _ | refine Grows.drewN ?_ _ | refine Grows.drew ?_ | assumption | (refine Grows.set ?_ (by first | omega | (simp; done) | (simp; omega)) _)))).mono ?_; rintro e w' ⟨rfl, hg⟩; obtain ⟨x4, rfl⟩ := hg.later; clear hg)
            refine bodyPost_ret (v := .tuple #[.int .i64 (k : Int), .int .i64 (j : Int), .bool true]) (by simp (maxDischargeDepth := 6) [results, Tryz.results12, go_sem]) rfl ⟨.inl ⟨k, j, hkj2, by have := HM2.out; omega, HB.out, fun i' j' h1 h2 h3 => ?_, rfl⟩, HGW.out.trans (z.grows.trans x4.grows)⟩
            rcases h3 with h3 | ⟨h3, h4⟩
            · exact HNO.out i' j' h1 (by have := HM2.out; omega) h3
            · subst h3; exact HN2.out j' h1 h4
        · obtain rfl : j = m := by omega
          have hdj : decide ((j : Int) < (j : Int)) = false := decide_eq_false (by omega)
          go_wp2_with fail
          go_roundw
          case measure => simp [Go.RowKit.intOf]; omega
          case rel =>
            refine ⟨k + 1, by omega, by go_num, fun i' j' h1 h2 h3 => ?_, z, rfl⟩
            by_cases e : i' = k
            · subst e; exact HN2.out j' h1 h2
            · exact HNO.out i' j' h1 h2 (by omega)
    · obtain rfl : k = m := by omega
      have hdk : decide ((k : Int) < (k : Int)) = false := decide_eq_false (by omega)
      go_wp2_with fail
      refine bodyPost_ret (v := .tuple #[.int .i64 0, .int .i64 0, .bool false]) (by simp (maxDischargeDepth := 6) [results, Tryz.results12, go_sem]) rfl ⟨.inr ⟨fun i' j' h1 h2 => HNO.out i' j' h1 (by have := HM2.out; omega) (by have := HM2.out; omega), rfl⟩, HGW.out.trans y.grows⟩
/-- There is one answer. -/
theorem worst_one (E : List Edg) (F : Nat → List Nat) (s : Int) (l : List Int) : ∃ (a b : Int) (t : Bool), ∀ w e w', WorstP E F s l w e w' → e = .returned (.tuple #[.int .i64 a, .int .i64 b, .bool t]) ∧ Grows w w' := by
  by_cases h : ∃ i j : Nat, i < j ∧ j ≤ l.length ∧ badB E F s l i j = true ∧ ∀ i' j', i' < j' → j' ≤ l.length → (i' < i ∨ i' = i ∧ j' < j) → badB E F s l i' j' = false
  · obtain ⟨i, j, h1, h2, h3, h4⟩ := h
    refine ⟨i, j, true, ?_⟩
    rintro w e w' ⟨⟨i', j', g1, g2, g3, g4, rfl⟩ | ⟨g1, rfl⟩, hg⟩
    · have e1 : i = i' ∧ j = j' := by
        rcases Nat.lt_trichotomy i i' with h | h | h
        · have := g4 i j h1 h2 (.inl h); rw [h3] at this; cases this
        · subst h
          rcases Nat.lt_trichotomy j j' with h | h | h
          · have := g4 i j h1 h2 (.inr ⟨rfl, h⟩); rw [h3] at this; cases this
          · exact ⟨rfl, h⟩
          · have := h4 i j' g1 g2 (.inr ⟨rfl, h⟩); rw [g3] at this; cases this
        · have := h4 i' j' g1 g2 (.inl h); rw [g3] at this; cases this
      obtain ⟨rfl, rfl⟩ := e1
      exact ⟨rfl, hg⟩
    · have := g1 i j h1 h2; rw [h3] at this; cases this
  · refine ⟨0, 0, false, ?_⟩
    rintro w e w' ⟨⟨i', j', g1, g2, g3, g4, rfl⟩ | ⟨g1, rfl⟩, hg⟩
    · exact absurd ⟨i', j', g1, g2, g3, g4⟩ h
    · exact ⟨rfl, hg⟩
end Go.Proofs.YtiljgkaffgclgaaGreat
