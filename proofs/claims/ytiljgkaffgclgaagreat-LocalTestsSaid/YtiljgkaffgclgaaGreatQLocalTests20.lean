/- Contracts: is a part of a way the shortest one between its ends; does a way pass at a place. -/
import Derived.Test.YtiljgkaffgclgaaGreatQLocalTests18
import Derived.Test.YtiljgkaffgclgaaGreatQLocalTests19
import Derived.Test.YtiljgkaffgclgaaGreatQLocalTests12
/- Contracts: is a part of a way the shortest one between its ends; does a way pass at a place. -/
namespace Go.Proofs.YtiljgkaffgclgaaGreat
open Go Go.RowKit
theorem rdNil (w : World) (size : Nat) : Rd w none size 0 [] := ⟨by simp, fun h => absurd h (by simp)⟩
set_option maxRecDepth 20000 in
set_option maxHeartbeats 4000000 in
theorem loShortest (NN : Nat) (A : Option Addr) (c : Nat) (E : List Edg) (F T : Nat → List Nat) (hM : Mks NN E F T) (u v : Nat) (hu : u < NN) (hv : v < NN) (hfar : gn (F u) v < farV) (z : Int) (w : World) (h : Rd w A 3 E.length (esCells E)) :
    Calls Tryz.prog 30 #[.agg #[.int .i64 (NN : Int), .slice A E.length c], .int .i64 (u : Int), .int .i64 (v : Int), .int .u64 z] w fun e w' => e = .returned (.bool (decide ((gn (F u) v : Int) = z))) ∧ Grows w w' := by
  obtain ⟨xs, hx, hFu⟩ := hM.f u hu
  have hb := net_bound hx.ok.right
  have hmem : ∀ f, (v, f) ∈ xs → f = gn (F u) v := fun f hf => by rw [hFu]; exact (outL_at hx.far.nodup hv hf).symm
  have hno : v ∉ xs.map Prod.fst → False := fun hn => by
    have := outL_no (N := NN) hv hn
    rw [← hFu] at this
    omega
  have C := hide (fun (W : World) (g : Grows w W) => show Calls Tryz.prog 54 #[.agg #[.int .i64 (NN : Int), .slice A E.length c], .int .i64 (u : Int), .int .i64 (v : Int), .agg #[.bool false, .slice none 0 0, .slice none 0 0, .slice none 0 0, .int .u64 0]] W fun e w' => e = .returned (.tuple #[.int .u64 (gn (F u) v : Int), .int .i64 0]) ∧ Grows W w' from by
    refine (djOne NN u v A c E (allO false) none none none 0 0 0 xs W (h.grows g) (rdNil _ _) (rdNil _ _) (rdNil _ _) hx.ok hx.dc hx.tr hv).mono ?_
    rintro e w' ⟨⟨f, hf, rfl⟩ | ⟨hn, _⟩, hg⟩
    · rw [hmem f hf]
      exact ⟨rfl, hg⟩
    · exact (hno hn).elim)
  clear hmem hno hx hFu hM h hfar
  generalize gn (F u) v = f at *
  obtain ⟨fi, hfi⟩ : ∃ fi : Int, (f : Int) = fi := ⟨_, rfl⟩
  rw [hfi] at C
  rw [hfi]
  clear hfi
  go_enter Tryz.func30, Tryz.ntmps30
  go_wp2_with (go_at_call 54; refine (C.out _ (by repeat (first | exact Grows.refl _ | refine Grows.now ?_ _ | refine Grows.new ?_ _ | refine Grows.drewN ?_ _ | refine Grows.drew ?_ | assumption | (refine Grows.set ?_ (by first | omega | (simp; done) | (simp; omega)) _)))).mono ?_; rintro e w' ⟨rfl, hg⟩; obtain ⟨x1, rfl⟩ := hg.later; clear hg)
  all_goals go_ret
  all_goals exact ⟨by first | rfl | exact ret_bool (bool_ext (by simp)), (by repeat (first | exact Grows.refl _ | refine Grows.now ?_ _ | refine Grows.new ?_ _ | refine Grows.drewN ?_ _ | refine Grows.drew ?_ | assumption | (refine Grows.set ?_ (by first | omega | (simp; done) | (simp; omega)) _)))⟩
theorem Rd.offsH {w : World} {A : Option Addr} {n : Nat} {xs : List Int} (h : Rd w A 1 n (xs.map (.int .u64))) (hn : 0 < n) : ∃ b off, A = some ⟨b, off, none⟩ ∧ ∀ j, j < n → Holds w ⟨b, off + j, none⟩ (.int .u64 (gi xs j)) := by
  obtain ⟨b, off, e, hc⟩ := h.ints hn
  exact ⟨b, off, e, fun j hj => ⟨hc j hj⟩⟩
set_option maxRecDepth 20000 in
set_option maxHeartbeats 8000000 in
theorem loTest (NN : Nat) (A : Option Addr) (c : Nat) (E : List Edg) (F T : Nat → List Nat) (hM : Mks NN E F T) (s : Int) (B : Option Addr) (d : Nat) (l : List Int) (at_ a b base : Int) (w : World) (h : Rd w A 3 E.length (esCells E)) (h2 : Rd w B 1 l.length (l.map (.int .i64))) (hl : l.length ≤ 1000) (hE : E.length ≤ 1000000)
    (his : isB (NN : Int) E s l = true) (hbase : U64 base) :
    Calls Tryz.prog 10 #[.agg #[.int .i64 (NN : Int), .slice A E.length c], .int .i64 s, .slice B l.length d, .int .i64 at_, .agg #[.int .u64 a, .int .u64 b], .int .u64 base] w fun e w' => e = .returned (.bool (tsB (NN : Int) E F s l at_ a b base)) ∧ Grows w w' := by
  obtain ⟨hr, _, _, hed⟩ := isB_right his
  have hnl : nodesL (NN : Int) E s l = ndL E s l (l.length + 1) := by unfold nodesL; rw [if_pos his]
  have C1 := hide (fun (W : World) (g : Grows w W) => show Calls Tryz.prog 28 #[.agg #[.int .i64 (NN : Int), .slice A E.length c], .int .i64 s, .slice B l.length d] W fun e w' => ∃ A1 c1, e = .returned (.tuple #[.slice A1 (l.length + 1) c1, .bool true]) ∧ Rd w' A1 1 (l.length + 1) ((ndL E s l (l.length + 1)).map (.int .i64)) ∧ Grows W w' from by
    have := pNodes (NN : Int) A E.length c E s B l.length d l W (h.grows g) hE (h2.grows g) (by omega)
    rw [his, hnl] at this
    unfold GiveIB at this
    rw [ndL_len] at this
    exact this)
  have C2 := hide (fun (W : World) (g : Grows w W) => pOffsets (NN : Int) A E.length c E B l.length d l W (h.grows g) hE (h2.grows g) (by omega))
  rw [hed] at C2
  have C3 := hide (fun (Ao : Option Addr) (co : Nat) (W : World) (q : Rd W Ao 1 (l.length + 1) (((List.range (l.length + 1)).map (wtK E l)).map (.int .u64))) => localWindow Ao (l.length + 1) co ((List.range (l.length + 1)).map (wtK E l)) at_ a b base W q (by omega) hbase)
  cases hw : wgB at_ (l.length + 1) ((List.range (l.length + 1)).map (wtK E l)) a b with
  | false =>
    have HV := hide (show tsB (NN : Int) E F s l at_ a b base = false by unfold tsB; rw [hw]; simp)
    have hwv := winV_bad (base := base) hw
    rw [← hwv] at C3
    clear h h2 his hnl hed hr hM hbase hw hwv
    go_enter Tryz.func10, Tryz.ntmps10
    go_wp2_with fail
    refine (C1.out _ (by repeat (first | exact Grows.refl _ | refine Grows.now ?_ _ | refine Grows.new ?_ _ | refine Grows.drewN ?_ _ | refine Grows.drew ?_ | assumption | (refine Grows.set ?_ (by first | omega | (simp; done) | (simp; omega)) _)))).mono ?_; rintro e w' ⟨A1, c1, rfl, hr1, hg⟩; obtain ⟨x1, rfl⟩ := hg.later; clear hg hr1
    have b1 : Arr x1.now w.heap.size 24 [.int .i64 (NN : Int), .slice A E.length c] := Arr.grow ⟨by simp [heap_push, Array.getElem_push, Array.getElem?_push, eq_add2]⟩ x1.grows
    have b2 : Arr x1.now (w.heap.size + 1) 28 [.int .u64 a, .int .u64 b] := Arr.grow ⟨by simp [heap_push, Array.getElem_push, Array.getElem?_push, eq_add2]⟩ x1.grows
    go_wp2_with fail
    refine (C2.out _ (by repeat (first | exact Grows.refl _ | refine Grows.now ?_ _ | refine Grows.new ?_ _ | refine Grows.drewN ?_ _ | refine Grows.drew ?_ | assumption | (refine Grows.set ?_ (by first | omega | (simp; done) | (simp; omega)) _)))).mono ?_; unfold OffPost; rintro e w' ⟨g2, c2, rfl, hr2, hg⟩; obtain ⟨x2, rfl⟩ := hg.later; have HR2 := hide hr2; clear hg hr2
    go_wp2_with fail
    refine (C3.out _ _ _ HR2.out).mono ?_; rintro e w' ⟨rfl, hg⟩; obtain ⟨x3, rfl⟩ := hg.later; clear hg
    go_upto_region 6 with fail
    ((first | refine wp_region_gen (by kernel_rfl) (by kernel_rfl) ?_); (repeat' (first | (refine gLex_val0 rfl (by kernel_rfl) (fun K hK => ?_); (go_simp; (try (simp only [↓IntWalk.iteOmega]; try go_simp)); (try simp (disch := omega) only [IntWalk.i64_in]); (try simp (disch := omega) only [IntWalk.u64_in]); first | (refine hK _ ?_; clear hK K) | (apply Exists.intro; refine ⟨fun x => ?_, hK _ ?_⟩; (first | fail); clear hK K))) | (refine gLex_undef rfl rfl rfl (by kernel_rfl) (fun K hK => ?_); go_simp; refine hK _ ?_; clear hK K) | (refine gLex_ask rfl rfl rfl ?_; first | (apply gAsk_yes; kernel_rfl; intro K hK; (go_simp; (try (simp only [↓IntWalk.iteOmega]; try go_simp)); (try simp (disch := omega) only [IntWalk.i64_in]); (try simp (disch := omega) only [IntWalk.u64_in]); first | (refine hK _ ?_; clear hK K) | (apply Exists.intro; refine ⟨fun x => ?_, hK _ ?_⟩; (first | fail); clear hK K))) | ((first | apply gAsk_no1 | apply gAsk_no2); kernel_rfl; intro K hK; simp [go_sem]; refine hK _ ?_; clear hK K) | (apply gAsk_part; kernel_rfl; all_goals (intro h K hK; (try simp only [Bool.not_true] at h); (try simp only [Bool.not_false] at h); (try simp only [decide_eq_true_eq] at h); (try simp only [decide_eq_false_iff_not] at h); first | (exfalso; first | contradiction | omega) | (go_simp; (try (simp only [↓IntWalk.iteOmega]; try go_simp)); (try simp (disch := omega) only [IntWalk.i64_in]); (try simp (disch := omega) only [IntWalk.u64_in]); first | (refine hK _ ?_; clear hK K) | (apply Exists.intro; refine ⟨fun x => ?_, hK _ ?_⟩; (first | fail); clear hK K))))))); all_goals ((apply gLex_end); intro x))
    go_wp2_with fail
    go_ret
    exact ⟨by rw [HV.out]; rfl, (by repeat (first | exact Grows.refl _ | refine Grows.now ?_ _ | refine Grows.new ?_ _ | refine Grows.drewN ?_ _ | refine Grows.drew ?_ | assumption | (refine Grows.set ?_ (by first | omega | (simp; done) | (simp; omega)) _)))⟩
  | true =>
    have hwin := win_in (base := base) hw
    obtain ⟨I, hI⟩ : ∃ I : Nat, winI at_ (l.length + 1) ((List.range (l.length + 1)).map (wtK E l)) a b base = I := ⟨(winI at_ (l.length + 1) ((List.range (l.length + 1)).map (wtK E l)) a b base).toNat, by omega⟩
    obtain ⟨J, hJ⟩ : ∃ J : Nat, winJ at_ (l.length + 1) ((List.range (l.length + 1)).map (wtK E l)) a b base = J := ⟨(winJ at_ (l.length + 1) ((List.range (l.length + 1)).map (wtK E l)) a b base).toNat, by omega⟩
    have hwv : winV at_ (l.length + 1) ((List.range (l.length + 1)).map (wtK E l)) a b base = .tuple #[.int .i64 (I : Int), .int .i64 (J : Int), .bool true] := by unfold winV; rw [hI, hJ, hw]
    rw [hwv] at C3
    have HV := hide (show tsB (NN : Int) E F s l at_ a b base = decide ((gn (F (nk E s l I)) (nk E s l J) : Int) = wtK E l J - wtK E l I) by unfold tsB; rw [his, hw, hI, hJ]; rfl)
    rw [hI, hJ] at hwin
    have hIJ : I ≤ J ∧ J ≤ l.length := by omega
    have hni := nk_in his I (by omega)
    have hnj := nk_in his J (by omega)
    have hpl := part_le2 hM his hIJ.1 hIJ.2
    have hwb := wtK_bd hed J (by omega)
    have hwb2 := wtK_bd hed I (by omega)
    have hle : wtK E l I ≤ wtK E l J := by omega
    have hlt : wtK E l J < 18446744073709551616 := by omega
    have hge : 0 ≤ wtK E l I := by omega
    have C4 := hide (fun (W : World) (g : Grows w W) (z : Int) => loShortest NN A c E F T hM (nk E s l I) (nk E s l J) hni.1 hnj.1 hpl.1 z W (h.grows g))
    have HNI := hide hni.2
    have HNJ := hide hnj.2
    have HOI := hide (offs_at E l (k := I) (by omega))
    have HOJ := hide (offs_at E l (k := J) (by omega))
    have HGI := hide (ndL_at E s l (l.length + 1) I (by omega))
    have HGJ := hide (ndL_at E s l (l.length + 1) J (by omega))
    have hI1 : I < l.length + 1 := by omega
    have hJ1 : J < l.length + 1 := by omega
    clear h h2 his hnl hed hr hM hbase hw hwv hwin hI hJ hIJ hni hnj hpl hwb hwb2
    generalize wtK E l I = oi at *
    generalize wtK E l J = oj at *
    generalize gn (F (nk E s l I)) (nk E s l J) = fv at *
    generalize nk E s l I = ni at *
    generalize nk E s l J = nj at *
    go_enter Tryz.func10, Tryz.ntmps10
    go_wp2_with fail
    refine (C1.out _ (by repeat (first | exact Grows.refl _ | refine Grows.now ?_ _ | refine Grows.new ?_ _ | refine Grows.drewN ?_ _ | refine Grows.drew ?_ | assumption | (refine Grows.set ?_ (by first | omega | (simp; done) | (simp; omega)) _)))).mono ?_; rintro e w' ⟨A1, c1, rfl, hr1, hg⟩; obtain ⟨x1, rfl⟩ := hg.later; have HR1 := hide hr1; clear hg hr1
    have b1 : Arr x1.now w.heap.size 24 [.int .i64 (NN : Int), .slice A E.length c] := Arr.grow ⟨by simp [heap_push, Array.getElem_push, Array.getElem?_push, eq_add2]⟩ x1.grows
    have b2 : Arr x1.now (w.heap.size + 1) 28 [.int .u64 a, .int .u64 b] := Arr.grow ⟨by simp [heap_push, Array.getElem_push, Array.getElem?_push, eq_add2]⟩ x1.grows
    go_wp2_with fail
    refine (C2.out _ (by repeat (first | exact Grows.refl _ | refine Grows.now ?_ _ | refine Grows.new ?_ _ | refine Grows.drewN ?_ _ | refine Grows.drew ?_ | assumption | (refine Grows.set ?_ (by first | omega | (simp; done) | (simp; omega)) _)))).mono ?_; unfold OffPost; rintro e w' ⟨g2, c2, rfl, hr2, hg⟩; obtain ⟨x2, rfl⟩ := hg.later; have HR2 := hide hr2; clear hg hr2
    go_wp2_with fail
    refine (C3.out _ _ _ HR2.out).mono ?_; rintro e w' ⟨rfl, hg⟩; obtain ⟨x3, rfl⟩ := hg.later; clear hg
    have hr1 := HR1.out
    obtain ⟨bn, on, rfl, hcn⟩ := hr1.intsH (by omega)
    obtain ⟨bo, oo, ebo, hco⟩ := HR2.out.offsH (by omega)
    have k1 : Holds x1.now ⟨bn, on + I, none⟩ (.int .i64 (ni : Int)) := by have := hcn I hI1; rwa [HGI.out, HNI.out] at this
    have k2 : Holds x1.now ⟨bn, on + J, none⟩ (.int .i64 (nj : Int)) := by have := hcn J hJ1; rwa [HGJ.out, HNJ.out] at this
    have k3 : Holds x2.now ⟨bo, oo + I, none⟩ (.int .u64 oi) := by have := hco I hI1; rwa [HOI.out] at this
    have k4 : Holds x2.now ⟨bo, oo + J, none⟩ (.int .u64 oj) := by have := hco J hJ1; rwa [HOJ.out] at this
    injection ebo with ebo
    injection ebo with e1 e2 _
    subst e1 e2
    rw [Nat.zero_add] at k3 k4
    clear hr1 hcn hco
    go_upto_region 6 with fail
    ((first | refine wp_region_gen (by kernel_rfl) (by kernel_rfl) ?_); (repeat' (first | (refine gLex_val0 rfl (by kernel_rfl) (fun K hK => ?_); (go_simp; (try (simp only [↓IntWalk.iteOmega]; try go_simp)); (try simp (disch := omega) only [IntWalk.i64_in]); (try simp (disch := omega) only [IntWalk.u64_in]); first | (refine hK _ ?_; clear hK K) | (apply Exists.intro; refine ⟨fun x => ?_, hK _ ?_⟩; (first | (go_at_call 30; exact C4.out _ (by repeat (first | exact Grows.refl _ | refine Grows.now ?_ _ | refine Grows.new ?_ _ | refine Grows.drewN ?_ _ | refine Grows.drew ?_ | assumption | (refine Grows.set ?_ (by first | omega | (simp; done) | (simp; omega)) _))) _)); clear hK K))) | (refine gLex_undef rfl rfl rfl (by kernel_rfl) (fun K hK => ?_); go_simp; refine hK _ ?_; clear hK K) | (refine gLex_ask rfl rfl rfl ?_; first | (apply gAsk_yes; kernel_rfl; intro K hK; (go_simp; (try (simp only [↓IntWalk.iteOmega]; try go_simp)); (try simp (disch := omega) only [IntWalk.i64_in]); (try simp (disch := omega) only [IntWalk.u64_in]); first | (refine hK _ ?_; clear hK K) | (apply Exists.intro; refine ⟨fun x => ?_, hK _ ?_⟩; (first | (go_at_call 30; exact C4.out _ (by repeat (first | exact Grows.refl _ | refine Grows.now ?_ _ | refine Grows.new ?_ _ | refine Grows.drewN ?_ _ | refine Grows.drew ?_ | assumption | (refine Grows.set ?_ (by first | omega | (simp; done) | (simp; omega)) _))) _)); clear hK K))) | ((first | apply gAsk_no1 | apply gAsk_no2); kernel_rfl; intro K hK; simp [go_sem]; refine hK _ ?_; clear hK K) | (apply gAsk_part; kernel_rfl; all_goals (intro h K hK; (try simp only [Bool.not_true] at h); (try simp only [Bool.not_false] at h); (try simp only [decide_eq_true_eq] at h); (try simp only [decide_eq_false_iff_not] at h); first | (exfalso; first | contradiction | omega) | (go_simp; (try (simp only [↓IntWalk.iteOmega]; try go_simp)); (try simp (disch := omega) only [IntWalk.i64_in]); (try simp (disch := omega) only [IntWalk.u64_in]); first | (refine hK _ ?_; clear hK K) | (apply Exists.intro; refine ⟨fun x => ?_, hK _ ?_⟩; (first | (go_at_call 30; exact C4.out _ (by repeat (first | exact Grows.refl _ | refine Grows.now ?_ _ | refine Grows.new ?_ _ | refine Grows.drewN ?_ _ | refine Grows.drew ?_ | assumption | (refine Grows.set ?_ (by first | omega | (simp; done) | (simp; omega)) _))) _)); clear hK K))))))); all_goals ((apply gLex_end); intro x))
    go_wp2_with fail
    go_ret
    exact ⟨by rw [HV.out]; rfl, (by repeat (first | exact Grows.refl _ | refine Grows.now ?_ _ | refine Grows.new ?_ _ | refine Grows.drewN ?_ _ | refine Grows.drew ?_ | assumption | (refine Grows.set ?_ (by first | omega | (simp; done) | (simp; omega)) _)))⟩
end Go.Proofs.YtiljgkaffgclgaaGreat

/- Contracts: where a way first is not the shortest one. -/
namespace Go.Proofs.YtiljgkaffgclgaaGreat
open Go Go.RowKit
/-- Is a part longer than its ends lie apart? -/
def badB (E : List Edg) (F : Nat → List Nat) (s : Int) (l : List Int) (i j : Nat) : Bool := decide ((gn (F (nk E s l i)) (nk E s l j) : Int) < wtK E l j - wtK E l i)
set_option maxRecDepth 20000 in
set_option maxHeartbeats 4000000 in
theorem loWorst1 (i j m NN nj : Nat) (fv oi oj : Int) (b1 b2 b3 b4 gf bn on go : Nat) (cn co : Nat) (w : World)
    (k1 : Holds w ⟨b1, 0, none⟩ (.slice (some ⟨gf, 0, none⟩) NN NN)) (k2 : Holds w ⟨b2, 0, none⟩ (.slice (some ⟨bn, on, none⟩) m cn)) (k3 : Holds w ⟨b3, 0, none⟩ (.slice (some ⟨go, 0, none⟩) m co)) (k4 : Holds w ⟨b4, 0, none⟩ (.int .i64 (i : Int)))
    (q1 : Holds w ⟨bn, on + j, none⟩ (.int .i64 (nj : Int))) (q2 : Holds w ⟨gf, nj, none⟩ (.int .u64 fv)) (q3 : Holds w ⟨go, j, none⟩ (.int .u64 oj)) (q4 : Holds w ⟨go, i, none⟩ (.int .u64 oi)) (hi : i < m) (hj : j < m) (hn : nj < NN) (h0 : 0 ≤ oi) (h1 : oi ≤ oj) (h2 : oj < 18446744073709551616) :
    Calls Tryz.prog 32 #[.int .i64 (j : Int), .pointer (some ⟨b1, 0, none⟩), .pointer (some ⟨b2, 0, none⟩), .pointer (some ⟨b3, 0, none⟩), .pointer (some ⟨b4, 0, none⟩)] w fun e w' => e = .returned (.bool (decide (fv < oj - oi))) ∧ Grows w w' := by
  go_enter Tryz.func32, Tryz.ntmps32
  go_upto_region 1 with fail
  ((first | refine wp_region_gen (by kernel_rfl) (by kernel_rfl) ?_); (repeat' (first | (refine gLex_val0 rfl (by kernel_rfl) (fun K hK => ?_); (go_simp; (try (simp only [↓IntWalk.iteOmega]; try go_simp)); (try simp (disch := omega) only [IntWalk.i64_in]); (try simp (disch := omega) only [IntWalk.u64_in]); first | (refine hK _ ?_; clear hK K) | (apply Exists.intro; refine ⟨fun x => ?_, hK _ ?_⟩; (first | fail); clear hK K))) | (refine gLex_undef rfl rfl rfl (by kernel_rfl) (fun K hK => ?_); go_simp; refine hK _ ?_; clear hK K) | (refine gLex_ask rfl rfl rfl ?_; first | (apply gAsk_yes; kernel_rfl; intro K hK; (go_simp; (try (simp only [↓IntWalk.iteOmega]; try go_simp)); (try simp (disch := omega) only [IntWalk.i64_in]); (try simp (disch := omega) only [IntWalk.u64_in]); first | (refine hK _ ?_; clear hK K) | (apply Exists.intro; refine ⟨fun x => ?_, hK _ ?_⟩; (first | fail); clear hK K))) | ((first | apply gAsk_no1 | apply gAsk_no2); kernel_rfl; intro K hK; simp [go_sem]; refine hK _ ?_; clear hK K) | (apply gAsk_part; kernel_rfl; all_goals (intro h K hK; (try simp only [Bool.not_true] at h); (try simp only [Bool.not_false] at h); (try simp only [decide_eq_true_eq] at h); (try simp only [decide_eq_false_iff_not] at h); first | (exfalso; first | contradiction | omega) | (go_simp; (try (simp only [↓IntWalk.iteOmega]; try go_simp)); (try simp (disch := omega) only [IntWalk.i64_in]); (try simp (disch := omega) only [IntWalk.u64_in]); first | (refine hK _ ?_; clear hK K) | (apply Exists.intro; refine ⟨fun x => ?_, hK _ ?_⟩; (first | fail); clear hK K))))))); all_goals ((apply gLex_end); intro x))
  go_wp2_with fail
  go_ret
  exact ⟨by first | rfl | exact ret_bool (bool_ext (by simp)), (by repeat (first | exact Grows.refl _ | refine Grows.now ?_ _ | refine Grows.new ?_ _ | refine Grows.drewN ?_ _ | refine Grows.drew ?_ | assumption | (refine Grows.set ?_ (by first | omega | (simp; done) | (simp; omega)) _)))⟩
/-- What Worst hands back. -/
def WorstP (E : List Edg) (F : Nat → List Nat) (s : Int) (l : List Int) (w : World) (e : Ending) (w' : World) : Prop :=
  ((∃ i j : Nat, i < j ∧ j ≤ l.length ∧ badB E F s l i j = true ∧ (∀ i' j', i' < j' → j' ≤ l.length → (i' < i ∨ i' = i ∧ j' < j) → badB E F s l i' j' = false) ∧ e = .returned (.tuple #[.int .i64 (i : Int), .int .i64 (j : Int), .bool true])) ∨
    ((∀ i' j', i' < j' → j' ≤ l.length → badB E F s l i' j' = false) ∧ e = .returned (.tuple #[.int .i64 0, .int .i64 0, .bool false]))) ∧ Grows w w'
set_option maxRecDepth 20000 in
set_option maxHeartbeats 8000000 in
theorem loWorst (NN : Nat) (A : Option Addr) (c : Nat) (E : List Edg) (F T : Nat → List Nat) (hM : Mks NN E F T) (s : Int) (B : Option Addr) (d : Nat) (l : List Int) (w : World) (h : Rd w A 3 E.length (esCells E)) (h2 : Rd w B 1 l.length (l.map (.int .i64))) (hl : l.length ≤ 1000) (hE : E.length ≤ 1000000)
    (his : isB (NN : Int) E s l = true) :
    Calls Tryz.prog 11 #[.agg #[.int .i64 (NN : Int), .slice A E.length c], .int .i64 s, .slice B l.length d] w (WorstP E F s l w) := by
  obtain ⟨hr, _, _, hed⟩ := isB_right his
  have hnl : nodesL (NN : Int) E s l = ndL E s l (l.length + 1) := by unfold nodesL; rw [if_pos his]
  obtain ⟨m, hm⟩ : ∃ m, l.length + 1 = m := ⟨_, rfl⟩
  have C1 := hide (fun (W : World) (g : Grows w W) => show Calls Tryz.prog 28 #[.agg #[.int .i64 (NN : Int), .slice A E.length c], .int .i64 s, .slice B l.length d] W fun e w' => ∃ A1 c1, e = .returned (.tuple #[.slice A1 m c1, .bool true]) ∧ Rd w' A1 1 m ((ndL E s l m).map (.int .i64)) ∧ Grows W w' from by
    have := pNodes (NN : Int) A E.length c E s B l.length d l W (h.grows g) hE (h2.grows g) (by omega)
    rw [his, hnl] at this
    unfold GiveIB at this
    rw [ndL_len, hm] at this
    exact this)
  have C2 := hide (fun (W : World) (g : Grows w W) => show Calls Tryz.prog 29 #[.agg #[.int .i64 (NN : Int), .slice A E.length c], .slice B l.length d] W fun e w' => ∃ g c, e = .returned (.slice (some ⟨g, 0, none⟩) m c) ∧ Rd w' (some ⟨g, 0, none⟩) 1 m (((List.range m).map (wtK E l)).map (.int .u64)) ∧ Grows W w' from by
    have := pOffsets (NN : Int) A E.length c E B l.length d l W (h.grows g) hE (h2.grows g) (by omega)
    rw [hed] at this
    unfold OffPost at this
    rw [hm] at this
    exact this)
  have CD := hide (fun (W : World) (g : Grows w W) (u : Nat) (hu : u < NN) => show Calls Tryz.prog 31 #[.agg #[.int .i64 (NN : Int), .slice A E.length c], .int .i64 (u : Int), .agg #[.bool false, .slice none 0 0, .slice none 0 0, .slice none 0 0, .int .u64 0]] W fun e w' =>
      ∃ go, e = .returned (.tuple #[.slice (some ⟨go, 0, none⟩) NN NN, .int .i64 0]) ∧ Row1 w' go 26 1 NN NN (wv (F u)) ∧ W.heap.size ≤ go ∧ Grows W w' from by
    obtain ⟨xs, hxs, hFu⟩ := hM.f u hu
    rw [hFu]
    exact djAll NN u A c E (allO false) none none none 0 0 0 xs W (h.grows g) (rdNil _ _) (rdNil _ _) (rdNil _ _) hxs.ok hxs.dc hxs.tr hxs.lt)
  have HNK := hide (fun k (hk : k < m) => nk_in his k (by omega))
  have HGI := hide (fun k (hk : k < m) => (ndL_at E s l m k hk).trans (nk_in his k (by omega)).2)
  have HOF := hide (fun k (hk : k < m) => show gi ((List.range m).map (wtK E l)) k = wtK E l k from by rw [← hm]; exact offs_at E l (by omega))
  have HWT := hide (fun i j (hij : i ≤ j) (hj : j < m) => show 0 ≤ wtK E l i ∧ wtK E l i ≤ wtK E l j ∧ wtK E l j < 18446744073709551616 from by
    have h1 := wtK_bd hed i (by omega)
    have h2 := wtK_bd hed j (by omega)
    have h3 := part_le2 hM his hij (by omega)
    omega)
  have HFL := hide hM.flen
  have HM2 := hide hm
  have hmp : 0 < m := by omega
  have hm2 : m ≤ 1001 := by omega
  clear h h2 his hnl hed hr hM hm
  go_enter Tryz.func11, Tryz.ntmps11
  go_wp2_with fail
  refine (C1.out _ (by repeat (first | exact Grows.refl _ | refine Grows.now ?_ _ | refine Grows.new ?_ _ | refine Grows.drewN ?_ _ | refine Grows.drew ?_ | assumption | (refine Grows.set ?_ (by first | omega | (simp; done) | (simp; omega)) _)))).mono ?_; rintro e w' ⟨A1, c1, rfl, hr1, hg⟩; obtain ⟨x1, rfl⟩ := hg.later; clear hg
  have b1 : Arr x1.now w.heap.size 24 [.int .i64 (NN : Int), .slice A E.length c] := Arr.grow ⟨by simp [heap_push]⟩ x1.grows
  obtain ⟨bn, on, rfl, hcn⟩ := hr1.intsH hmp
  have HCN := hide (fun k (hk : k < m) => show Holds x1.now ⟨bn, on + k, none⟩ (.int .i64 (nk E s l k : Int)) from by have := hcn k hk; rwa [HGI.out k hk] at this)
  clear hr1 hcn
  go_wp2_with fail
  obtain ⟨b9, hb9⟩ : ∃ b9, x1.now.heap.size = b9 := ⟨_, rfl⟩
  have a9 : Arr (x1.now.alloc (.cells #[.slice (some ⟨bn, on, none⟩) m c1] 25)) b9 25 [.slice (some ⟨bn, on, none⟩) m c1] := by rw [← hb9]; exact Arr.make _ _ _
  refine (C2.out _ (by repeat (first | exact Grows.refl _ | refine Grows.now ?_ _ | refine Grows.new ?_ _ | refine Grows.drewN ?_ _ | refine Grows.drew ?_ | assumption | (refine Grows.set ?_ (by first | omega | (simp; done) | (simp; omega)) _)))).mono ?_; rintro e w' ⟨go, c2, rfl, hr2, hg⟩; obtain ⟨x2, rfl⟩ := hg.later; clear hg
  obtain ⟨bo, oo, ebo, hco⟩ := hr2.offsH hmp
  injection ebo with ebo
  injection ebo with e1 e2 _
  subst e1 e2
  have HCO := hide (fun k (hk : k < m) => show Holds x2.now ⟨go, k, none⟩ (.int .u64 (wtK E l k)) from by have := hco k hk; rw [HOF.out k hk, Nat.zero_add] at this; exact this)
  clear hr2 hco
  rw [hb9]
  go_wp2_with fail
  obtain ⟨X, hX⟩ : ∃ X, X = x2.now.alloc (.cells #[.slice (some ⟨go, 0, none⟩) m c2] 39) := ⟨_, rfl⟩
  have a11 : Arr X x2.now.heap.size 39 [.slice (some ⟨go, 0, none⟩) m c2] := by rw [hX]; exact Arr.make _ _ _
  have hgX : Grows x2.now X := by rw [hX]; exact (Grows.refl _).new _
  have a9X : Arr X b9 25 [.slice (some ⟨bn, on, none⟩) m c1] := by rw [hX]; infer_instance
  have bX : Arr X w.heap.size 24 [.int .i64 (NN : Int), .slice A E.length c] := by rw [hX]; infer_instance
  have hgw : Grows w X := by rw [hX]; exact (by repeat (first | exact Grows.refl _ | refine Grows.now ?_ _ | refine Grows.new ?_ _ | refine Grows.drewN ?_ _ | refine Grows.drew ?_ | assumption | (refine Grows.set ?_ (by first | omega | (simp; done) | (simp; omega)) _)))
  have HCN2 := hide (fun k (hk : k < m) => show Holds X ⟨bn, on + k, none⟩ (.int .i64 (nk E s l k : Int)) from by rw [hX]; have := HCN.out k hk; infer_instance)
  have HCO2 := hide (fun k (hk : k < m) => show Holds X ⟨go, k, none⟩ (.int .u64 (wtK E l k)) from by rw [hX]; have := HCO.out k hk; infer_instance)
  rw [← hX]
  have HGW := hide hgw
  clear hX hgX hgw HCN HCO a9 b1 hb9 C1 C2
  generalize x2.now.heap.size = b11 at *
  generalize w.heap.size = b3 at *
  clear x1 x2
  go_loopw [32] (fun s32 wr => ∃ k : Nat, k ≤ m ∧ s32 = .int .i64 (k : Int) ∧ (∀ i' j', i' < j' → j' < m → i' < k → badB E F s l i' j' = false) ∧ ∃ y : Later X, wr = y.now) (fun s32 _ => m - (Go.RowKit.intOf s32).toNat)
  case atStart => exact ⟨0, by omega, by go_num, fun i' j' _ _ h => absurd h (by omega), ⟨_, Grows.refl _⟩, rfl⟩
  case round =>
    obtain ⟨k, hk, rfl, hno, y, rfl⟩ := hrel
    have HNO := hide hno
    clear hno
    by_cases hlt : k < m
    · have hdk : decide ((k : Int) < (m : Int)) = true := decide_eq_true (by omega)
      have ck := HCN2.out k hlt
      have hnk := (HNK.out k hlt).1
      have CDk := hide (fun (W : World) (g : Grows X W) => CD.out W (HGW.out.trans g) _ hnk)
      go_wp2_with fail
      obtain ⟨b12, hb12⟩ : ∃ b12, y.now.heap.size = b12 := ⟨_, rfl⟩
      have a12 : Arr (y.now.alloc (.cells #[.int .i64 (k : Int)] 3)) b12 3 [.int .i64 (k : Int)] := by rw [← hb12]; exact Arr.make _ _ _
      refine (CDk.out _ (by repeat (first | exact Grows.refl _ | refine Grows.now ?_ _ | refine Grows.new ?_ _ | refine Grows.drewN ?_ _ | refine Grows.drew ?_ | assumption | (refine Grows.set ?_ (by first | omega | (simp; done) | (simp; omega)) _)))).mono ?_; rintro e w' ⟨gf, rfl, hrow, hgf, hg⟩; obtain ⟨x3, rfl⟩ := hg.later; clear hg
      have HROW := hide (fun v (hv : v < NN) => show Holds x3.now ⟨gf, v, none⟩ (.int .u64 (gn (F (nk E s l k)) v : Int)) from ⟨(hrow.mine (j := v) (wv_at (by rw [HFL.out _ hnk]; exact hv))).cell⟩)
      clear hrow hgf
      rw [hb12]
      go_wp2_with fail
      obtain ⟨Y, hY⟩ : ∃ Y, Y = x3.now.alloc (.cells #[.slice (some ⟨gf, 0, none⟩) NN NN] 39) := ⟨_, rfl⟩
      have a14 : Arr Y x3.now.heap.size 39 [.slice (some ⟨gf, 0, none⟩) NN NN] := by rw [hY]; exact Arr.make _ _ _
      have a12Y : Arr Y b12 3 [.int .i64 (k : Int)] := by rw [hY]; infer_instance
      have hgY : Grows X Y := by rw [hY]; exact (by repeat (first | exact Grows.refl _ | refine Grows.now ?_ _ | refine Grows.new ?_ _ | refine Grows.drewN ?_ _ | refine Grows.drew ?_ | assumption | (refine Grows.set ?_ (by first | omega | (simp; done) | (simp; omega)) _)))
      have HROW2 := hide (fun v (hv : v < NN) => show Holds Y ⟨gf, v, none⟩ (.int .u64 (gn (F (nk E s l k)) v : Int)) from by rw [hY]; have := HROW.out v hv; infer_instance)
      rw [← hY]
      clear hY HROW a12 hb12
      generalize x3.now.heap.size = b14 at *
      clear x3 CDk
      obtain ⟨z0, rfl⟩ : ∃ z0 : Later X, Y = z0.now := hgY.later
      clear hgY
      go_loopw [47] (fun s47 wr => ∃ q : Nat, q ≤ m ∧ s47 = .int .i64 (q : Int) ∧ (∀ j', k < j' → j' < q → badB E F s l k j' = false) ∧ ∃ y2 : Later z0.now, wr = y2.now) (fun s47 _ => m - (Go.RowKit.intOf s47).toNat)
      case atStart => exact ⟨0, by omega, by go_num, fun j' _ h => absurd h (by omega), ⟨_, Grows.refl _⟩, rfl⟩
      case round =>
        obtain ⟨q, hq, rfl, hno2, y2, rfl⟩ := hrel
        have HNO2 := hide hno2
        clear hno2
        by_cases hlq : q < m
        · have hdq : decide ((q : Int) < (m : Int)) = true := decide_eq_true (by omega)
          by_cases hkq : k < q
          · have cq := HCN2.out q hlq
            have hnq := (HNK.out q hlq).1
            have cr := HROW2.out _ hnq
            have co1 := HCO2.out q hlq
            have co2 := HCO2.out k hlt
            have hw := HWT.out k q (by omega) hlq
            have CW := hide (fun (W : World) (g : Grows z0.now W) => loWorst1 k q m NN (nk E s l q) (gn (F (nk E s l k)) (nk E s l q) : Int) (wtK E l k) (wtK E l q) b14 b9 b11 b12 gf bn on go c1 c2 W ⟨g.keeps (Mine.holds (h := a14.m0)).cell⟩ ⟨(z0.grows.trans g).keeps (Mine.holds (h := a9X.m0)).cell⟩ ⟨(z0.grows.trans g).keeps (Mine.holds (h := a11.m0)).cell⟩ ⟨g.keeps (Mine.holds (h := a12Y.m0)).cell⟩
              ⟨(z0.grows.trans g).keeps cq.cell⟩ ⟨g.keeps cr.cell⟩ ⟨(z0.grows.trans g).keeps co1.cell⟩ ⟨(z0.grows.trans g).keeps co2.cell⟩ hlt hlq hnq hw.1 hw.2.1 hw.2.2)
            have hbb : decide ((gn (F (nk E s l k)) (nk E s l q) : Int) < wtK E l q - wtK E l k) = badB E F s l k q := rfl
            rw [hbb] at CW
            clear cq cr co1 co2 hw hbb ck
            cases hbad : badB E F s l k q with
            | true =>
              have HB := hide hbad
              rw [hbad] at CW
              clear hbad
              go_wp2_with fail
              refine (CW.out _ (by repeat (first | exact Grows.refl _ | refine Grows.now ?_ _ | refine Grows.new ?_ _ | refine Grows.drewN ?_ _ | refine Grows.drew ?_ | assumption | (refine Grows.set ?_ (by first | omega | (simp; done) | (simp; omega)) _)))).mono ?_; rintro e w' ⟨rfl, hg⟩; obtain ⟨x4, rfl⟩ := hg.later; clear hg
              go_wp2_with fail
              refine bodyPost_ret (v := .tuple #[.int .i64 (k : Int), .int .i64 (q : Int), .bool true]) (by simp (maxDischargeDepth := 6) [results, Tryz.results11, go_sem, *]) rfl ?_
              have hm2' := HM2.out
              refine ⟨.inl ⟨k, q, hkq, by omega, HB.out, fun i' j' h1 h2 h3 => ?_, rfl⟩, HGW.out.trans (by repeat (first | exact Grows.refl _ | refine Grows.now ?_ _ | refine Grows.new ?_ _ | refine Grows.drewN ?_ _ | refine Grows.drew ?_ | assumption | (refine Grows.set ?_ (by first | omega | (simp; done) | (simp; omega)) _)))⟩
              rcases h3 with h3 | ⟨rfl, h3⟩
              · exact HNO.out i' j' h1 (by omega) h3
              · exact HNO2.out j' h1 h3
            | false =>
              have HB := hide hbad
              rw [hbad] at CW
              clear hbad
              go_wp2_with fail
              refine (CW.out _ (by repeat (first | exact Grows.refl _ | refine Grows.now ?_ _ | refine Grows.new ?_ _ | refine Grows.drewN ?_ _ | refine Grows.drew ?_ | assumption | (refine Grows.set ?_ (by first | omega | (simp; done) | (simp; omega)) _)))).mono ?_; rintro e w' ⟨rfl, hg⟩; obtain ⟨x4, rfl⟩ := hg.later; clear hg
              go_wp2_with fail
              go_roundw
              case measure => simp [Go.RowKit.intOf]; omega
              case rel =>
                refine ⟨q + 1, by omega, by go_num, fun j' h1 h2 => ?_, ⟨_, (by repeat (first | exact Grows.refl _ | refine Grows.now ?_ _ | refine Grows.new ?_ _ | refine Grows.drewN ?_ _ | refine Grows.drew ?_ | assumption | (refine Grows.set ?_ (by first | omega | (simp; done) | (simp; omega)) _)))⟩, rfl⟩
                by_cases e : j' = q
                · rw [e]; exact HB.out
                · exact HNO2.out j' h1 (by omega)
          · have hkq2 : q ≤ k := by omega
            go_wp2_with fail
            go_roundw
            case measure => simp [Go.RowKit.intOf]; omega
            case rel => exact ⟨q + 1, by omega, by go_num, fun j' h1 h2 => HNO2.out j' h1 (by omega), ⟨_, (by repeat (first | exact Grows.refl _ | refine Grows.now ?_ _ | refine Grows.new ?_ _ | refine Grows.drewN ?_ _ | refine Grows.drew ?_ | assumption | (refine Grows.set ?_ (by first | omega | (simp; done) | (simp; omega)) _)))⟩, rfl⟩
        · obtain rfl : q = m := by omega
          have hdq : decide ((q : Int) < (q : Int)) = false := decide_eq_false (by omega)
          go_wp2_with fail
          go_roundw
          case measure => simp [Go.RowKit.intOf]; omega
          case rel =>
            refine ⟨k + 1, by omega, by go_num, fun i' j' h1 h2 h3 => ?_, ⟨_, (by repeat (first | exact Grows.refl _ | refine Grows.now ?_ _ | refine Grows.new ?_ _ | refine Grows.drewN ?_ _ | refine Grows.drew ?_ | assumption | (refine Grows.set ?_ (by first | omega | (simp; done) | (simp; omega)) _)))⟩, rfl⟩
            by_cases e : i' = k
            · rw [e] at h1 ⊢; exact HNO2.out j' h1 h2
            · exact HNO.out i' j' h1 h2 (by omega)
    · obtain rfl : k = m := by omega
      have hdk : decide ((k : Int) < (k : Int)) = false := decide_eq_false (by omega)
      go_wp2_with fail
      refine bodyPost_ret (v := .tuple #[.int .i64 0, .int .i64 0, .bool false]) (by simp (maxDischargeDepth := 6) [results, Tryz.results11, go_sem, *]) rfl ?_
      have hm2' := HM2.out
      exact ⟨.inr ⟨fun i' j' h1 h2 => HNO.out i' j' h1 (by omega) (by omega), rfl⟩, HGW.out.trans (by repeat (first | exact Grows.refl _ | refine Grows.now ?_ _ | refine Grows.new ?_ _ | refine Grows.drewN ?_ _ | refine Grows.drew ?_ | assumption | (refine Grows.set ?_ (by first | omega | (simp; done) | (simp; omega)) _)))⟩
end Go.Proofs.YtiljgkaffgclgaaGreat

/- Regions that draw their order: an operation whose value hangs on the world (guarded or not), and one that reads such a value. -/
namespace Go.Proofs.YtiljgkaffgclgaaGreat
open Go Go.RowKit
section
variable {P : Program} {w0 : World} {ops : Array Oper} {Q : Act → Env → Prop} {a : Act} {G : Env} {o : Oper} {rest : List Oper}
theorem gLex_propW {t : Tmp} (hw : Region.wanted o (yielded ops a.tmps) = true) (hp : plainB ops o G = true) (hd : o.dst = some t) (hlt : t < a.tmps.size)
    (p : Pr) (hl : Lasts p) (hr : ∀ x : Later w0, runsTo P (fun u w' => Grows x.now w' ∧ p u w') ((execOp a.eval o).run P x.now))
    (h : gLex P ops w0 Q rest a (G.upd t p)) : gLex P ops w0 Q (o :: rest) a G := by
  obtain ⟨h1, h2, h3, h4⟩ := plain_spec hp
  refine ⟨.inr p, ⟨h1, h2, .inl ⟨hw, hl, ⟨t, hd, hlt⟩, fun w hw a' ha' => ?_⟩⟩, ?_⟩
  · rw [exec_same h4 h3 ha']
    exact hr ⟨w, hw⟩
  · rw [hd]
    exact h
/-- It reads the slot t0, whose value is known by a property, and else only what is known. -/
def depB (ops : Array Oper) (o : Oper) (G : Env) (t0 : Tmp) : Bool :=
  ((o.looksAt ops).all fun t => t == t0 || (G t).isNone) && (o.looksAt ops).contains t0 && (match o.dst with | some d => (G d).isNone | none => true) && (match o.op with | .select .. => false | _ => true) &&
    (match o.guard with | some (g, _) => (match (ops[g]?).bind (·.dst) with | some t => t != t0 | none => true) | none => true)
theorem dep_spec {t0 : Tmp} (h : depB ops o G t0 = true) : guardFree ops o G ∧ dstFree o G ∧ (∀ t ∈ o.looksAt ops, t = t0 ∨ G t = none) ∧ t0 ∈ o.looksAt ops ∧ ∀ cs b, o.op ≠ .select cs b := by
  unfold depB at h
  simp only [Bool.and_eq_true, List.all_eq_true, Bool.or_eq_true, Option.isNone_iff_eq_none, beq_iff_eq, List.contains_iff_mem] at h
  obtain ⟨⟨⟨⟨h1, h2⟩, h3⟩, h4⟩, h5⟩ := h
  refine ⟨fun g b t e1 e2 => ?_, fun d e => ?_, h1, h2, fun cs b e => ?_⟩
  · rcases h1 t (mem_looks_guard e1 e2) with e | e
    · rw [e1] at h5
      simp only [e2] at h5
      subst e
      simp at h5
    · exact e
  · rw [e] at h3; simpa using h3
  · rw [e] at h4; simp at h4
theorem gLex_dep {t0 t : Tmp} {p0 : Pr} (hw : Region.wanted o (yielded ops a.tmps) = true) (hp : depB ops o G t0 = true) (h0 : G t0 = some p0) (ht0 : t0 < a.tmps.size) (hd : o.dst = some t) (hlt : t < a.tmps.size)
    (p : Pr) (hl : Lasts p) (hr : ∀ (x : Later w0) (v : Value), p0 v x.now → runsTo P (fun u w' => Grows x.now w' ∧ p u w') ((execOp (a.put (some t0) v).eval o).run P x.now))
    (h : gLex P ops w0 Q rest a (G.upd t p)) : gLex P ops w0 Q (o :: rest) a G := by
  obtain ⟨h1, h2, h3, h4, h5⟩ := dep_spec hp
  refine ⟨.inr p, ⟨h1, h2, .inl ⟨hw, hl, ⟨t, hd, hlt⟩, fun w hw a' ha' => ?_⟩⟩, ?_⟩
  · have hv := ha' t0 h4
    unfold relAt at hv
    rw [h0] at hv
    obtain ⟨v, hv, hpv⟩ := hv
    have e : execOp a'.eval o = execOp (a.put (some t0) v).eval o := by
      refine execOp_congr o h5 fun x hx => ?_
      cases x with
      | tmp t =>
        have ht : t ∈ o.looksAt ops := List.mem_append_left _ (List.mem_filterMap.2 ⟨.tmp t, by simpa using hx, rfl⟩)
        have h' : a'.tmps[t]? = (a.put (some t0) v).tmps[t]? := by
          by_cases e : t = t0
          · subst e
            rw [hv]
            simp [Act.put, ht0]
          · have h6 := ha' t ht
            unfold relAt at h6
            rw [(h3 t ht).resolve_left e] at h6
            rw [h6]
            simp [Act.put, Array.getElem?_setIfInBounds_ne (Ne.symm e)]
        simp only [Act.eval, Array.getD_eq_getD_getElem?, h']
      | _ => rfl
    rw [e]
    exact hr ⟨w, hw⟩ v hpv
  · rw [hd]
    exact h
end
/-- A row of numbers, wherever it lies. -/
def RowP (n : Nat) (xs : List Value) : Pr := fun u w => ∃ A c, u = .slice A n c ∧ Rd w A 1 n xs
theorem RowP.lasts (n : Nat) (xs : List Value) : Lasts (RowP n xs) := fun _ _ _ hg ⟨A, c, e, h⟩ => ⟨A, c, e, h.grows hg⟩
end Go.Proofs.YtiljgkaffgclgaaGreat
