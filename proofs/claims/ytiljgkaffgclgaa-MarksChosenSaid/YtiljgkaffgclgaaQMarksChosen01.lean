/- Contract: which landmarks are chosen, by the program. -/
import Derived.Test.YtiljgkaffgclgaaQMarksChosen00
import Derived.Test.YtiljgkaffgclgaaQMarksBounds20
import Derived.Test.YtiljgkaffgclgaaQMarksBounds13
import Derived.Test.YtiljgkaffgclgaaQMarksBounds15
import Derived.WalkMore
/- Contract: which landmarks are chosen, by the document. -/
namespace Go.Proofs.Ytiljgkaffgclgaa
open Go Go.RowKit
attribute [local go_sem] Oper.semAt_some
def lenV : Value → Nat
  | .slice _ n _ => n
  | _ => 0
theorem nv_snoc (l : List Nat) (u : Nat) : nv (l ++ [u]) = nv l ++ [.int .i64 (u : Int)] := by simp [nv]
theorem leastD_take (F : Nat → List Nat) (o : List Nat) (v i : Nat) (h : i < o.length) : leastD F (o.take (i + 1)) v = min (leastD F (o.take i) v) (gn (F (gn o i)) v) := by
  rw [List.take_add_one, List.getElem?_eq_getElem h]
  have e : gn o i = o[i] := by simp [gn, h]
  rw [e]
  exact leastD_snoc F _ _ v
theorem leastD_le (F : Nat → List Nat) (o : List Nat) (v : Nat) : leastD F o v ≤ farV := by
  unfold leastD
  suffices h : ∀ a, a ≤ farV → o.foldl (fun a u => min a (gn (F u) v)) a ≤ farV from h farV (Nat.le_refl _)
  induction o with
  | nil => exact fun a h => h
  | cons u o ih => exact fun a h => ih _ (Nat.le_trans (Nat.min_le_left _ _) h)
/-- How far the best one lies. -/
def bestF (D : Nat → Nat) (b : Int) : Nat := if b < 0 then 0 else D b.toNat
theorem chosen_lt (F : Nat → List Nat) {N m j : Nat} (h : m < N) (hj : j < m + 1) : gn (chosen F N m) j < N := by
  have hl := chosen_len F N m
  have e : gn (chosen F N m) j = (chosen F N m)[j]'(by omega) := by simp [gn, hl, hj]
  rw [e]
  exact (chosen_ok F N m h).1 _ (List.getElem_mem _)
set_option maxRecDepth 20000 in
set_option maxHeartbeats 8000000 in
theorem r46Choose (NN k : Nat) (A : Option Addr) (c : Nat) (E : List Edg) (F T : Nat → List Nat) (hM : Mks NN E F T) (hr : rightF (NN : Int) E = 0) (h1 : 1 ≤ k) (hk : k ≤ 1000000) (w : World) (h : Rd w A 3 E.length (esCells E)) :
    Calls Try.prog 56 #[.agg #[.int .i64 (NN : Int), .slice A E.length c], .int .i64 (k : Int)] w fun e w' => ∃ A' c' m, m + 1 = min k NN ∧ e = .returned (.slice A' (m + 1) c') ∧ Rd w' A' 1 (m + 1) (nv (chosen F NN m)) ∧ Grows w w' := by
  have hN : NN ≤ 4096 ∧ 1 ≤ NN := by have := right_in hr; omega
  have C1 := hide (fun (W : World) (g : Grows w W) (u : Nat) (hu : u < NN) => show Calls Try.prog 25 #[.agg #[.int .i64 (NN : Int), .slice A E.length c], .int .i64 (u : Int), .agg #[.bool false, .slice none 0 0, .slice none 0 0, .slice none 0 0, .int .u64 0]] W fun e w' =>
      ∃ gd, e = .returned (.slice (some ⟨gd, 0, none⟩) NN NN) ∧ Row1 w' gd 33 1 NN NN (wv (F u)) ∧ Grows W w' from by
    obtain ⟨xs, hxs, hFv⟩ := hM.f u hu
    rw [hFv, ← hxs.ref]
    exact r14All NN u A c E (allO false) none none none 0 0 0 W (h.grows g) (rdNone _ _) (rdNone _ _) (rdNone _ _) hxs.ok hxs.wb)
  have HFL := hide hM.flen
  have HFE := hide hM.le
  clear h hM hr
  obtain ⟨M, hM⟩ : ∃ M, M = min k NN := ⟨_, rfl⟩
  have hmin : min (k : Int) (NN : Int) = (M : Int) := by omega
  have HM := hide (show 1 ≤ M ∧ M ≤ NN from by omega)
  have HMM := hide hM
  clear hM
  go_enter Try.func56, Try.ntmps56
  go_upto_region 1 with fail
  obtain ⟨W0, hW0⟩ : ∃ W0, W0 = w.alloc (.cells #[.int .i64 (NN : Int), .slice A E.length c] 24) := ⟨_, rfl⟩
  have a1 : Arr W0 w.heap.size 24 [.int .i64 (NN : Int), .slice A E.length c] := by rw [hW0]; exact Arr.make _ _ _
  have hg0 : Grows w W0 := by rw [hW0]; exact (Grows.refl _).new _
  obtain ⟨x0, rfl⟩ := hg0.later
  rw [← hW0]
  clear hW0 hg0
  generalize hb0 : w.heap.size = b0 at *
  have HB0 := hide hb0
  clear hb0
  go_wp2_with fail
  have hO0 : Own (x0.now.alloc (.cells #[.int .i64 0] 3)) x0.now.heap.size 3 1 (some ⟨x0.now.heap.size, 0, none⟩) 1 1 (nv (chosen F NN 0)) := Own.build x0.now 3 [.int .i64 0] x0.now.heap.size (Nat.le_refl _) (by simp)
  have HO0 := hide hO0
  clear hO0
  go_loopw [5] (fun s5 wr => ∃ m : Nat, m + 1 ≤ M ∧ ∃ y : Later x0.now, wr = y.now ∧ ∃ A' c', s5 = .slice A' (m + 1) c' ∧ Own y.now x0.now.heap.size 3 1 A' (m + 1) c' (nv (chosen F NN m))) (fun s5 _ => M - lenV s5)
  case atStart => exact ⟨0, by have := HM.out.1; omega, ⟨_, (by repeat (first | exact Grows.refl _ | refine Grows.now ?_ _ | refine Grows.new ?_ _ | refine Grows.drewN ?_ _ | refine Grows.drew ?_ | assumption | (refine Grows.set ?_ (by first | omega | (simp; done) | (simp; omega)) _)))⟩, rfl, _, _, rfl, HO0.out⟩
  case round =>
    obtain ⟨m, hm, y, rfl, A', c', rfl, hown⟩ := hrel
    have HO := hide hown
    have hmN : m < NN := by have := HM.out.2; omega
    clear hown
    by_cases hlt : m + 1 < M
    · have hdk : decide ((m : Int) + 1 < (M : Int)) = true := decide_eq_true (by omega)
      have HCH := hide (chosen_best F NN m (by have := HM.out.2; omega))
      have HCL := hide (fun j (hj : j < m + 1) => chosen_lt F hmN hj)
      have HLL := hide (chosen_len F NN m)
      have HSU := hide (show chosen F NN (m + 1) = chosen F NN m ++ [(bestI (leastD F (chosen F NN m)) (chosen F NN m) NN).toNat] from rfl)
      generalize hch : chosen F NN m = o at *
      clear hch
      go_wp2_with fail
      go_loopw [6, 7, 8] (fun s6 s7 s8 wr => ∃ v : Nat, v ≤ NN ∧ s8 = .int .i64 (v : Int) ∧ s6 = .int .i64 (bestI (leastD F o) o v) ∧ s7 = .int .u64 (bestF (leastD F o) (bestI (leastD F o) o v) : Int) ∧ ∃ z : Later y.now, wr = z.now) (fun _ _ s8 _ => NN - (Go.RowKit.intOf s8).toNat)
      case atStart => exact ⟨0, by omega, by go_num, rfl, rfl, ⟨_, Grows.refl _⟩, rfl⟩
      case round =>
        obtain ⟨v, hv, rfl, rfl, rfl, z, rfl⟩ := hrel
        by_cases hvl : v < NN
        · have hdv : decide ((v : Int) < (NN : Int)) = true := decide_eq_true (by omega)
          go_wp2_with fail
          go_loopw [9, 10] (fun s9 s10 wr => ∃ i : Nat, i ≤ m + 1 ∧ s10 = .int .i64 (i : Int) ∧ s9 = .int .u64 (leastD F (o.take i) v : Int) ∧ ∃ u : Later z.now, wr = u.now) (fun _ s10 _ => m + 1 - (Go.RowKit.intOf s10).toNat)
          case atStart => exact ⟨0, by omega, by go_num, rfl, ⟨_, Grows.refl _⟩, rfl⟩
          case round =>
            obtain ⟨i, hi, rfl, rfl, u, rfl⟩ := hrel
            by_cases hil : i < m + 1
            · have hdi : decide ((i : Int) < (m : Int) + 1) = true := decide_eq_true (by omega)
              obtain ⟨_, b, off, rfl, hc⟩ := HO.out.rd.nodesH (by omega)
              have ck := hc i hil
              have HLS := hide (leastD_take F o v i (by rw [HLL.out]; omega))
              have hgi := HCL.out i hil
              go_upto_region 11 with fail
              have hro : Row1 z.now b 3 1 0 0 [] ∨ True := .inr trivial
              clear hro hc
              have CK := hide (fun (W : World) (g : Grows w W) => C1.out W g (gn o i) hgi)
              have hFl := HFL.out _ hgi
              have hFe := HFE.out (gn o i) v hgi hvl
              have hle := leastD_le F (o.take i) v
              generalize gn o i = q at *
              obtain ⟨d1, hd1⟩ : ∃ d1, leastD F (o.take (i + 1)) v = d1 := ⟨_, rfl⟩
              rw [hd1] at HLS
              have HD1 := hide hd1
              clear hd1
              generalize leastD F (o.take i) v = d0 at *
              refine wp_region_gen (by kernel_rfl) (by kernel_rfl) ?_
              (repeat' (first | (refine gLex_val0 rfl (by kernel_rfl) (fun K hK => ?_); (go_simp; (try (simp only [↓IntWalk.iteOmega]; try go_simp)); (try simp (disch := omega) only [IntWalk.i64_in]); (try simp (disch := omega) only [IntWalk.u64_in]); first | (refine hK _ ?_; clear hK K) | (apply Exists.intro; refine ⟨fun x => ?_, hK _ ?_⟩; (first | fail); clear hK K))) | (refine gLex_undef rfl rfl rfl (by kernel_rfl) (fun K hK => ?_); go_simp; refine hK _ ?_; clear hK K) | (refine gLex_ask rfl rfl rfl ?_; first | (apply gAsk_yes; kernel_rfl; intro K hK; (go_simp; (try (simp only [↓IntWalk.iteOmega]; try go_simp)); (try simp (disch := omega) only [IntWalk.i64_in]); (try simp (disch := omega) only [IntWalk.u64_in]); first | (refine hK _ ?_; clear hK K) | (apply Exists.intro; refine ⟨fun x => ?_, hK _ ?_⟩; (first | fail); clear hK K))) | ((first | apply gAsk_no1 | apply gAsk_no2); kernel_rfl; intro K hK; simp [go_sem]; refine hK _ ?_; clear hK K))))
              refine gLex_propW (by kernel_rfl) (by kernel_rfl) rfl (by simp) (fun u w' => ∃ gd, u = .slice (some ⟨gd, 0, none⟩) NN NN ∧ Row1 w' gd 33 1 NN NN (wv (F q))) (fun _ _ _ hg ⟨gd, e, h⟩ => ⟨gd, e, h.grow hg⟩) (fun x => by
                go_simp
                refine (CK.out _ (by repeat (first | exact Grows.refl _ | refine Grows.now ?_ _ | refine Grows.new ?_ _ | refine Grows.drewN ?_ _ | refine Grows.drew ?_ | assumption | (refine Grows.set ?_ (by first | omega | (simp; done) | (simp; omega)) _)))).mono ?_
                rintro e w' ⟨gd, rfl, hrow, hg⟩
                exact ⟨_, rfl, hg, gd, rfl, hrow⟩) ?_
              (repeat' (first | (refine gLex_val0 rfl (by kernel_rfl) (fun K hK => ?_); (go_simp; (try (simp only [↓IntWalk.iteOmega]; try go_simp)); (try simp (disch := omega) only [IntWalk.i64_in]); (try simp (disch := omega) only [IntWalk.u64_in]); first | (refine hK _ ?_; clear hK K) | (apply Exists.intro; refine ⟨fun x => ?_, hK _ ?_⟩; (first | fail); clear hK K))) | (refine gLex_undef rfl rfl rfl (by kernel_rfl) (fun K hK => ?_); go_simp; refine hK _ ?_; clear hK K) | (refine gLex_ask rfl rfl rfl ?_; first | (apply gAsk_yes; kernel_rfl; intro K hK; (go_simp; (try (simp only [↓IntWalk.iteOmega]; try go_simp)); (try simp (disch := omega) only [IntWalk.i64_in]); (try simp (disch := omega) only [IntWalk.u64_in]); first | (refine hK _ ?_; clear hK K) | (apply Exists.intro; refine ⟨fun x => ?_, hK _ ?_⟩; (first | fail); clear hK K))) | ((first | apply gAsk_no1 | apply gAsk_no2); kernel_rfl; intro K hK; simp [go_sem]; refine hK _ ?_; clear hK K))))
              refine gLex_dep (t0 := 38) (by kernel_rfl) (by kernel_rfl) rfl (by simp) rfl (by simp) (fun u w' => ∃ gd, u = .pointer (some ⟨gd, v, none⟩) ∧ Row1 w' gd 33 1 NN NN (wv (F q))) (fun _ _ _ hg ⟨gd, e, h⟩ => ⟨gd, e, h.grow hg⟩) (fun x u hu => by
                obtain ⟨gd, rfl, hrow⟩ := hu
                go_simp
                all_goals exact ⟨Grows.refl _, gd, rfl, hrow⟩) ?_
              refine gLex_depV (t0 := 40) (by kernel_rfl) (by kernel_rfl) rfl (by simp) (.int .u64 (gn (F q) v : Int)) (fun x u hu => by
                obtain ⟨gd, rfl, hrow⟩ := hu
                have c2 := hrow.wvH hFl hvl
                go_simp
                all_goals exact ⟨Grows.refl _, rfl⟩) ?_
              generalize gn (F q) v = d2 at *
              (repeat' (first | (refine gLex_val0 rfl (by kernel_rfl) (fun K hK => ?_); (go_simp; (try (simp only [↓IntWalk.iteOmega]; try go_simp)); (try simp (disch := omega) only [IntWalk.i64_in]); (try simp (disch := omega) only [IntWalk.u64_in]); first | (refine hK _ ?_; clear hK K) | (apply Exists.intro; refine ⟨fun x => ?_, hK _ ?_⟩; (first | fail); clear hK K))) | (refine gLex_undef rfl rfl rfl (by kernel_rfl) (fun K hK => ?_); go_simp; refine hK _ ?_; clear hK K) | (refine gLex_ask rfl rfl rfl ?_; first | (apply gAsk_yes; kernel_rfl; intro K hK; (go_simp; (try (simp only [↓IntWalk.iteOmega]; try go_simp)); (try simp (disch := omega) only [IntWalk.i64_in]); (try simp (disch := omega) only [IntWalk.u64_in]); first | (refine hK _ ?_; clear hK K) | (apply Exists.intro; refine ⟨fun x => ?_, hK _ ?_⟩; (first | fail); clear hK K))) | ((first | apply gAsk_no1 | apply gAsk_no2); kernel_rfl; intro K hK; simp [go_sem]; refine hK _ ?_; clear hK K))))
              refine gLex_endA (fun y5 => ?_)
              refine AtA.pop rfl (by simp) (fun z _ => ?_)
              refine AtA.pop rfl (by simp [Act.put]) (fun z _ => ?_)
              refine AtA.base ?_
              simp only [Act.put, List.setIfInBounds_toArray, List.set_cons_zero, List.set_cons_succ]
              go_wp2_with fail
              go_roundw
              case measure => simp [Go.RowKit.intOf]; omega
              case rel => exact ⟨i + 1, by omega, by go_num, by rw [HD1.out, HLS.out]; exact congrArg (Value.int .u64) (by omega), ⟨_, (by repeat (first | exact Grows.refl _ | refine Grows.now ?_ _ | refine Grows.new ?_ _ | refine Grows.drewN ?_ _ | refine Grows.drew ?_ | assumption | (refine Grows.set ?_ (by first | omega | (simp; done) | (simp; omega)) _)))⟩, rfl⟩
            · obtain rfl : i = m + 1 := by omega
              have hdi : decide ((m : Int) + 1 < (m : Int) + 1) = false := decide_eq_false (by omega)
              rw [List.take_of_length_le (by rw [HLL.out]; omega)]
              have HBS := hide (bestI_succ (leastD F o) o v)
              have CR := hide (fun (W : World) (g : Grows y.now W) => r1Has A' (m + 1) c' (o.map fun (x : Nat) => (x : Int)) (v : Int) W (by rw [nv_cast]; exact HO.out.rd.grows g) (by omega))
              have hcb : decide ((v : Int) ∈ o.map fun (x : Nat) => (x : Int)) = o.contains v := by
                rw [List.contains_eq_mem]
                apply decide_eq_decide.2
                constructor
                · intro h
                  obtain ⟨x, hx, e⟩ := List.mem_map.1 h
                  have : x = v := by omega
                  rw [← this]; exact hx
                · exact fun h => List.mem_map.2 ⟨v, h, rfl⟩
              rw [hcb] at CR
              clear hcb
              obtain ⟨b2, hb2⟩ : ∃ b2, bestI (leastD F o) o (v + 1) = b2 := ⟨_, rfl⟩
              rw [hb2] at HBS
              have HB2 := hide hb2
              have HF2 := hide (show bestF (leastD F o) b2 = if b2 = (v : Int) then leastD F o v else bestF (leastD F o) b2 from by
                split
                · rename_i e
                  rw [e]
                  unfold bestF
                  rw [if_neg (by omega), Int.toNat_natCast]
                · rfl)
              have HBF := hide (show 0 ≤ bestI (leastD F o) o v → bestF (leastD F o) (bestI (leastD F o) o v) = leastD F o (bestI (leastD F o) o v).toNat from fun h => by unfold bestF; rw [if_neg (by omega)])
              clear hb2
              generalize o.contains v = cb at *
              generalize leastD F o v = lv at *
              generalize bestI (leastD F o) o v = bi at *
              generalize leastD F o bi.toNat = lb at *
              obtain ⟨fb, hfb⟩ : ∃ fb, bestF (leastD F o) bi = fb := ⟨_, rfl⟩
              obtain ⟨fb2, hfb2⟩ : ∃ fb, bestF (leastD F o) b2 = fb := ⟨_, rfl⟩
              rw [hfb2] at HF2
              rw [hfb] at HBF ⊢
              have HFB := hide (And.intro hfb hfb2)
              clear hfb hfb2
              cases cb with
              | true =>
                have HE := hide (show b2 = bi from by rw [HBS.out]; rfl)
                go_wp2_with (go_at_call 75; refine (CR.out _ (by repeat (first | exact Grows.refl _ | refine Grows.now ?_ _ | refine Grows.new ?_ _ | refine Grows.drewN ?_ _ | refine Grows.drew ?_ | assumption | (refine Grows.set ?_ (by first | omega | (simp; done) | (simp; omega)) _)))).mono ?_; rintro e w' ⟨rfl, rfl⟩)
                go_roundw
                case measure => simp [Go.RowKit.intOf]; omega
                case rel => exact ⟨v + 1, by omega, by go_num, by rw [HB2.out, HE.out], by rw [HB2.out, HE.out, HFB.out.1], ⟨_, (by repeat (first | exact Grows.refl _ | refine Grows.now ?_ _ | refine Grows.new ?_ _ | refine Grows.drewN ?_ _ | refine Grows.drew ?_ | assumption | (refine Grows.set ?_ (by first | omega | (simp; done) | (simp; omega)) _)))⟩, rfl⟩
              | false =>
                by_cases hbn : bi < 0
                · have hdb : decide (bi < 0) = true := decide_eq_true hbn
                  have HE := hide (show b2 = (v : Int) from by rw [HBS.out, hdb]; rfl)
                  go_wp2_with (go_at_call 75; refine (CR.out _ (by repeat (first | exact Grows.refl _ | refine Grows.now ?_ _ | refine Grows.new ?_ _ | refine Grows.drewN ?_ _ | refine Grows.drew ?_ | assumption | (refine Grows.set ?_ (by first | omega | (simp; done) | (simp; omega)) _)))).mono ?_; rintro e w' ⟨rfl, rfl⟩)
                  go_roundw
                  case measure => simp [Go.RowKit.intOf]; omega
                  case rel => exact ⟨v + 1, by omega, by go_num, by rw [HB2.out, HE.out], by rw [HB2.out, HFB.out.2, HF2.out, if_pos HE.out], ⟨_, (by repeat (first | exact Grows.refl _ | refine Grows.now ?_ _ | refine Grows.new ?_ _ | refine Grows.drewN ?_ _ | refine Grows.drew ?_ | assumption | (refine Grows.set ?_ (by first | omega | (simp; done) | (simp; omega)) _)))⟩, rfl⟩
                · have hdb : decide (bi < 0) = false := decide_eq_false hbn
                  have hfl := HBF.out (by omega)
                  by_cases hlt2 : lb < lv
                  · have HE := hide (show b2 = (v : Int) from by rw [HBS.out, hdb, decide_eq_true hlt2]; rfl)
                    subst hfl
                    go_wp2_with (go_at_call 75; refine (CR.out _ (by repeat (first | exact Grows.refl _ | refine Grows.now ?_ _ | refine Grows.new ?_ _ | refine Grows.drewN ?_ _ | refine Grows.drew ?_ | assumption | (refine Grows.set ?_ (by first | omega | (simp; done) | (simp; omega)) _)))).mono ?_; rintro e w' ⟨rfl, rfl⟩)
                    go_roundw
                    case measure => simp [Go.RowKit.intOf]; omega
                    case rel => exact ⟨v + 1, by omega, by go_num, by rw [HB2.out, HE.out], by rw [HB2.out, HFB.out.2, HF2.out, if_pos HE.out], ⟨_, (by repeat (first | exact Grows.refl _ | refine Grows.now ?_ _ | refine Grows.new ?_ _ | refine Grows.drewN ?_ _ | refine Grows.drew ?_ | assumption | (refine Grows.set ?_ (by first | omega | (simp; done) | (simp; omega)) _)))⟩, rfl⟩
                  · have HE := hide (show b2 = bi from by rw [HBS.out, hdb, decide_eq_false hlt2]; rfl)
                    subst hfl
                    go_wp2_with (go_at_call 75; refine (CR.out _ (by repeat (first | exact Grows.refl _ | refine Grows.now ?_ _ | refine Grows.new ?_ _ | refine Grows.drewN ?_ _ | refine Grows.drew ?_ | assumption | (refine Grows.set ?_ (by first | omega | (simp; done) | (simp; omega)) _)))).mono ?_; rintro e w' ⟨rfl, rfl⟩)
                    go_roundw
                    case measure => simp [Go.RowKit.intOf]; omega
                    case rel => exact ⟨v + 1, by omega, by go_num, by rw [HB2.out, HE.out], by rw [HB2.out, HE.out, HFB.out.1], ⟨_, (by repeat (first | exact Grows.refl _ | refine Grows.now ?_ _ | refine Grows.new ?_ _ | refine Grows.drewN ?_ _ | refine Grows.drew ?_ | assumption | (refine Grows.set ?_ (by first | omega | (simp; done) | (simp; omega)) _)))⟩, rfl⟩
        · obtain rfl : v = NN := by omega
          have hdv : decide ((v : Int) < (v : Int)) = false := decide_eq_false (by omega)
          obtain ⟨u, hu1, hu2, hu3⟩ := HCH.out
          rw [hu1]
          have HU := hide hu3
          clear hu1 hu3
          go_wp2_with (at_builtin; refine wp_app1 elemInt rfl _ _ rfl x0.now (by repeat (first | exact Grows.refl _ | refine Grows.now ?_ _ | refine Grows.new ?_ _ | refine Grows.drewN ?_ _ | refine Grows.drew ?_ | assumption | (refine Grows.set ?_ (by first | omega | (simp; done) | (simp; omega)) _))) (m + 1) c' A' _ rfl (HO.out.grows (by repeat (first | exact Grows.refl _ | refine Grows.now ?_ _ | refine Grows.new ?_ _ | refine Grows.drewN ?_ _ | refine Grows.drew ?_ | assumption | (refine Grows.set ?_ (by first | omega | (simp; done) | (simp; omega)) _)))) _ _ _ rfl inferInstance rfl (by omega) ?_; intro A3 c3 y3 hown3; have HO3 := hide hown3; clear hown3)
          go_roundw
          case measure => simp [lenV]; omega
          case rel => exact ⟨m + 1, by omega, y3, rfl, A3, c3, rfl, by rw [HU.out]; have := HO3.out; rw [nv_snoc]; exact this⟩
    · have hdk : decide ((m : Int) + 1 < (M : Int)) = false := decide_eq_false (by omega)
      go_wp2_with fail
      go_ret
      exact ⟨A', c', m, by have := HMM.out; omega, rfl, HO.out.rd, (by repeat (first | exact Grows.refl _ | refine Grows.now ?_ _ | refine Grows.new ?_ _ | refine Grows.drewN ?_ _ | refine Grows.drew ?_ | assumption | (refine Grows.set ?_ (by first | omega | (simp; done) | (simp; omega)) _)))⟩
end Go.Proofs.Ytiljgkaffgclgaa

/- Contracts: is a number in a row (of slices); does an edge lead nearer. -/
namespace Go.Proofs.Ytiljgkaffgclgaa
open Go Go.RowKit
attribute [local go_sem] Oper.semAt_some
set_option maxHeartbeats 1000000 in
theorem slIndex (A : Option Addr) (n c : Nat) (l : List Int) (v : Int) (w : World) (h : Rd w A 1 n (l.map (.int .i64))) (hn : n ≤ 1000000) :
    Calls Try.prog 158 #[.slice A n c, .int .i64 v] w fun e w' => (∃ k : Int, e = .returned (.int .i64 k) ∧ -1 ≤ k ∧ k ≤ n ∧ (0 ≤ k ↔ v ∈ l)) ∧ w = w' := by
  have HL := hide (show l.length = n by simpa using h.len)
  have HR := hide h
  clear h
  go_enter Try.func158, Try.ntmps158
  go_wp2
  go_loop [8] (fun i => ∃ k : Nat, k ≤ n ∧ i = .int .i64 (k : Int) ∧ ∀ j, j < k → gi l j ≠ v) (fun i => n - (intOf i).toNat)
  case atStart => exact ⟨0, by omega, by go_num, fun j h1 => by omega⟩
  case round =>
    obtain ⟨q, hq, rfl, hall⟩ := hrel
    have HA := hide hall
    clear hall
    by_cases hend : n ≤ q
    · go_wp2
      go_ret
      refine ⟨⟨-1, rfl, by omega, by omega, ?_⟩, rfl⟩
      refine ⟨fun h => by omega, fun hm => ?_⟩
      obtain ⟨j, hj, e⟩ := mem_gi hm
      exact absurd e (HA.out j (by have := HL.out; omega))
    · obtain ⟨b, off, rfl, hc⟩ := HR.out.ints (by omega)
      have hc1 := hc q (by omega)
      clear hc
      by_cases hv : v = gi l q
      · have HV := hide (show v ∈ l from hv ▸ gi_mem (by have := HL.out; omega))
        have hd : (v == gi l q) = true := by simpa using hv
        clear hv
        go_wp2
        go_ret
        refine ⟨⟨q, rfl, by omega, by omega, ?_⟩, rfl⟩
        exact ⟨fun _ => HV.out, fun _ => by omega⟩
      · have HV := hide (fun e => hv (Eq.symm e))
        have hd : (v == gi l q) = false := by simpa using hv
        clear hv
        go_wp2
        go_round
        case measure => simp [intOf]; omega
        case rel =>
          refine ⟨q + 1, by omega, by go_num, fun j h1 => ?_⟩
          by_cases hj : j = q
          · rw [hj]; exact HV.out
          · exact HA.out j (by omega)
theorem slContains (A : Option Addr) (n c : Nat) (l : List Int) (v : Int) (w : World) (h : Rd w A 1 n (l.map (.int .i64))) (hn : n ≤ 1000000) :
    Calls Try.prog 107 #[.slice A n c, .int .i64 v] w fun e w' => e = .returned (.bool (decide (v ∈ l))) ∧ w = w' := by
  have HC := hide (slIndex A n c l v w h hn)
  clear h
  go_enter Try.func107, Try.ntmps107
  go_wp2_with (go_at_call 158; refine HC.out.mono ?_; rintro e w' ⟨⟨k, rfl, h1, h2, h3⟩, rfl⟩)
  go_ret
  exact ⟨ret_bool (by simp), rfl⟩
end Go.Proofs.Ytiljgkaffgclgaa

/- Contract: which landmarks are chosen, by the program. -/
namespace Go.Proofs.Ytiljgkaffgclgaa
open Go Go.RowKit
attribute [local go_sem] Oper.semAt_some
theorem Row1.toArr {w : World} {g n : Nat} {e : TypeId} {xs : List Value} (h : Row1 w g e 1 n n xs) : Arr w g e xs := by
  obtain ⟨cur, h1, _, _, h2, h3⟩ := h.is
  have h4 : cur.toList = xs := by rw [← h3, List.take_of_length_le (by simp [h2])]
  refine ⟨?_⟩
  rw [h1, ← h4]
/-- An append leaves blocks of another element type as they were. -/
theorem Arr.apd2 {w w' : World} {B n c g : Nat} {A : Option Addr} {xs cs : List Value} {e t : TypeId} (h : Arr w g t cs) (ho : Own w B e 1 A n c xs) (hg : w.grownBy w' (Value.slice A n c).ownBlock) (hte : t ≠ e) : Arr w' g t cs :=
  h.touch (S := fun k => (Value.slice A n c).ownBlock = some k) ((Touch.refl _ w).grown hg (fun k hk => .inl hk)) (fun e2 => by
    cases A with
    | none => simp [Value.ownBlock] at e2
    | some p =>
      simp [Value.ownBlock] at e2
      have h1 := (ho.ty p rfl).2
      rw [e2] at h1
      exact hte (h.ty.one h1))
/-- How far nodes are from all that are chosen: of the nodes below v, of one more. -/
def mixL (F : Nat → List Nat) (o : List Nat) (u v NN : Nat) : List Nat := (List.range NN).map fun j => if j < v then leastD F (o ++ [u]) j else leastD F o j
theorem mixL_len (F : Nat → List Nat) (o : List Nat) (u v NN : Nat) : (mixL F o u v NN).length = NN := by simp [mixL]
theorem mixL_at (F : Nat → List Nat) (o : List Nat) (u v : Nat) {NN j : Nat} (h : j < NN) : gn (mixL F o u v NN) j = if j < v then leastD F (o ++ [u]) j else leastD F o j := by simp [mixL, gn, h]
theorem mixL_zero (F : Nat → List Nat) (o : List Nat) (u u' NN : Nat) : mixL F o u 0 NN = mixL F o u' 0 NN := by simp [mixL]
theorem mixL_end (F : Nat → List Nat) (o : List Nat) (u u' NN : Nat) : mixL F o u NN NN = mixL F (o ++ [u]) u' 0 NN := by
  unfold mixL
  apply List.map_congr_left
  intro j hj
  have := List.mem_range.1 hj
  rw [if_pos this, if_neg (by omega)]
theorem mixL_set (F : Nat → List Nat) (o : List Nat) (u : Nat) {v NN : Nat} (_ : v < NN) : (wv (mixL F o u v NN)).set v (.int .u64 (leastD F (o ++ [u]) v : Int)) = wv (mixL F o u (v + 1) NN) := by
  unfold wv mixL
  apply List.ext_getElem
  · simp
  · intro j h1 h2
    simp only [List.length_set, List.length_map, List.length_range] at h1 h2
    rw [List.getElem_set]
    by_cases e : v = j
    · subst e
      rw [if_pos rfl]
      simp
    · rw [if_neg e]
      simp only [List.getElem_map, List.getElem_range]
      by_cases h3 : j < v
      · rw [if_pos h3, if_pos (by omega)]
      · rw [if_neg h3, if_neg (by omega)]
set_option maxRecDepth 20000 in
set_option maxHeartbeats 8000000 in
theorem mkChoose (NN k : Nat) (A : Option Addr) (c : Nat) (E : List Edg) (F T : Nat → List Nat) (hM : Mks NN E F T) (hr : rightF (NN : Int) E = 0) (h1 : 1 ≤ k) (hk : k ≤ 64) (w : World) (h : Rd w A 3 E.length (esCells E)) :
    Calls Try.prog 55 #[.agg #[.int .i64 (NN : Int), .slice A E.length c], .int .i64 (k : Int)] w fun e w' => ∃ A' c' m, m + 1 = min k NN ∧ e = .returned (.tuple #[.slice A' (m + 1) c', .int .i64 0]) ∧ Rd w' A' 1 (m + 1) (nv (chosen F NN m)) ∧ Grows w w' := by
  have hN : NN ≤ 4096 ∧ 1 ≤ NN ∧ E.length ≤ 1000000 := by have := right_in hr; omega
  have C0 := hide (fun (W : World) (g : Grows w W) => by
    have := gRight (NN : Int) A E.length c E W (h.grows g) hN.2.2
    rw [hr] at this
    exact this)
  have C1 := hide (fun (W : World) (g : Grows w W) (u : Nat) (hu : u < NN) => show Calls Try.prog 68 #[.agg #[.int .i64 (NN : Int), .slice A E.length c], .int .i64 (u : Int), .agg #[.bool false, .slice none 0 0, .slice none 0 0, .slice none 0 0, .int .u64 0]] W fun e w' =>
      ∃ gd, e = .returned (.tuple #[.slice (some ⟨gd, 0, none⟩) NN NN, .int .i64 0]) ∧ Row1 w' gd 33 1 NN NN (wv (F u)) ∧ W.heap.size ≤ gd ∧ Grows W w' from by
    obtain ⟨xs, hxs, hFv⟩ := hM.f u hu
    rw [hFv]
    exact djAll NN u A c E (allO false) none none none 0 0 0 xs W (h.grows g) (rdNone _ _) (rdNone _ _) (rdNone _ _) hxs.ok hxs.dc hxs.tr hxs.lt)
  have C2 := hide (fun (W : World) (g : Nat) (hh : Holds W ⟨g, 0, none⟩ (.int .u64 ((4611686018427387904 : Nat) : Int))) => repeatU g 1 4611686018427387904 NN W hh hN.2.1 (by omega))
  have HFL := hide hM.flen
  clear h hM hr
  obtain ⟨M, hM⟩ : ∃ M, M = min k NN := ⟨_, rfl⟩
  have hmin : min (k : Int) (NN : Int) = (M : Int) := by omega
  have HM := hide (show 1 ≤ M ∧ M ≤ NN from by omega)
  have HMM := hide hM
  clear hM
  have hk1 : decide ((k : Int) < 1) = false := decide_eq_false (by omega)
  have hk2 : decide ((64 : Int) < (k : Int)) = false := decide_eq_false (by omega)
  go_enter Try.func55, Try.ntmps55
  go_upto_region 1 with fail
  obtain ⟨W0, hW0⟩ : ∃ W0, W0 = w.alloc (.cells #[.int .i64 (NN : Int), .slice A E.length c] 24) := ⟨_, rfl⟩
  have a1 : Arr W0 w.heap.size 24 [.int .i64 (NN : Int), .slice A E.length c] := by rw [hW0]; exact Arr.make _ _ _
  have hg0 : Grows w W0 := by rw [hW0]; exact (Grows.refl _).new _
  obtain ⟨x0, rfl⟩ := hg0.later
  rw [← hW0]
  clear hW0 hg0
  obtain ⟨b0, hb0⟩ : ∃ b0, w.heap.size = b0 := ⟨_, rfl⟩
  rw [hb0] at a1 ⊢
  clear hb0
  go_step3
  go_wp2_with (go_at_call 62; refine (C0.out _ (by repeat (first | exact Grows.refl _ | refine Grows.now ?_ _ | refine Grows.new ?_ _ | refine Grows.drewN ?_ _ | refine Grows.drew ?_ | assumption | (refine Grows.set ?_ (by first | omega | (simp; done) | (simp; omega)) _)))).mono ?_; rintro e w' ⟨rfl, hg⟩; obtain ⟨x1, rfl⟩ := hg.later; clear hg)
  refine (C2.out _ _ (show Holds _ ⟨_, 0, none⟩ (.int .u64 4611686018427387904) from inferInstance)).mono ?_
  rintro e X ⟨G, rfl, hrow, hlo, hg⟩
  have hgX : Grows x0.now X := Grows.trans (by show Grows x0.now (x1.now.alloc (.cells #[.int .u64 4611686018427387904] 33)); exact (by repeat (first | exact Grows.refl _ | refine Grows.now ?_ _ | refine Grows.new ?_ _ | refine Grows.drewN ?_ _ | refine Grows.drew ?_ | assumption | (refine Grows.set ?_ (by first | omega | (simp; done) | (simp; omega)) _)))) hg
  have hGl : x0.now.heap.size ≤ G := Nat.le_trans (show Grows x0.now (x1.now.alloc (.cells #[.int .u64 4611686018427387904] 33)) from (by repeat (first | exact Grows.refl _ | refine Grows.now ?_ _ | refine Grows.new ?_ _ | refine Grows.drewN ?_ _ | refine Grows.drew ?_ | assumption | (refine Grows.set ?_ (by first | omega | (simp; done) | (simp; omega)) _)))).size hlo
  have hA0 : Arr X G 33 (wv (mixL F [] 0 0 NN)) := by
    have h2 := hrow.toArr
    have e : mixL F [] 0 0 NN = List.replicate NN 4611686018427387904 := by
      unfold mixL
      apply List.ext_getElem
      · simp
      · intro j h1 h2
        simp [leastD]
    rw [e]
    exact h2
  have HA0 := hide hA0
  have HGX := hide hgX
  have HGL := hide hGl
  clear hrow hlo hg hA0 C2 C0
  go_wp2_with fail
  go_step3
  go_wp2_with fail
  go_loopw [4, 7] (fun s4 s7 wr => ∃ (o : List Nat) (u : Nat), o.length < M ∧ o ++ [u] = chosen F NN o.length ∧ s7 = .int .i64 (u : Int) ∧ ∃ y : Later x0.now, wr = y.now ∧ ∃ A' c', s4 = .slice A' o.length c' ∧ Own y.now x0.now.heap.size 3 1 A' o.length c' (nv o) ∧ Arr y.now G 33 (wv (mixL F o 0 0 NN))) (fun s4 _ _ => M - lenV s4)
  case atStart => exact ⟨[], 0, by have := HM.out; simp; omega, rfl, rfl, ⟨X, HGX.out⟩, rfl, none, 0, rfl, Own.nil _ _ _ _, HA0.out⟩
  case round =>
    obtain ⟨o, u, hoM, hou, rfl, y, rfl, A', c', rfl, hown, aG⟩ := hrel
    have hmN : o.length < NN := by have := HM.out; omega
    have huN : u < NN := (chosen_ok F NN o.length hmN).1 u (by rw [← hou]; simp)
    have HO := hide hown
    have HOU := hide hou
    have HAG := hide aG
    clear hown hou aG
    by_cases hend : o.length + 1 = M
    · have hdk : ((o.length : Int) + 1 == (M : Int)) = true := by simp; omega
      go_wp2_with (at_builtin; refine wp_app1M elemInt rfl _ _ rfl x0.now (by repeat (first | exact Grows.refl _ | refine Grows.now ?_ _ | refine Grows.new ?_ _ | refine Grows.drewN ?_ _ | refine Grows.drew ?_ | assumption | (refine Grows.set ?_ (by first | omega | (simp; done) | (simp; omega)) _))) o.length c' A' _ rfl (HO.out.new _) _ _ _ rfl inferInstance rfl (by have := HM.out; omega) ?_; intro A3 c3 y3 hown3 hgr3; have HO3 := hide hown3; clear hown3 hgr3)
      rw [Exit.noGoto_ret]
      refine bodyPost_ret (v := .tuple #[.slice A3 (o.length + 1) c3, .int .i64 0]) (by simp (maxDischargeDepth := 6) [results, Try.results55, go_sem]; omega) rfl ⟨A3, c3, o.length, by have := HMM.out; omega, rfl, by have := HO3.out.rd; rw [← HOU.out, nv_snoc]; exact this, (by repeat (first | exact Grows.refl _ | refine Grows.now ?_ _ | refine Grows.new ?_ _ | refine Grows.drewN ?_ _ | refine Grows.drew ?_ | assumption | (refine Grows.set ?_ (by first | omega | (simp; done) | (simp; omega)) _)))⟩
    · have hdk : ((o.length : Int) + 1 == (M : Int)) = false := by simp; omega
      go_wp2_with (at_builtin; refine wp_app1M elemInt rfl _ _ rfl x0.now (by repeat (first | exact Grows.refl _ | refine Grows.now ?_ _ | refine Grows.new ?_ _ | refine Grows.drewN ?_ _ | refine Grows.drew ?_ | assumption | (refine Grows.set ?_ (by first | omega | (simp; done) | (simp; omega)) _))) o.length c' A' _ rfl (HO.out.new _) _ _ _ rfl inferInstance rfl (by have := HM.out; omega) ?_; intro A3 c3 y3 hown3 hgr3; have HO3 := hide hown3; have HG3 := hide ((HAG.out.grow ((Grows.refl _).new _)).apd2 (HO.out.new _) hgr3 (by decide)); clear hown3 hgr3)
      refine (C1.out _ (by repeat (first | exact Grows.refl _ | refine Grows.now ?_ _ | refine Grows.new ?_ _ | refine Grows.drewN ?_ _ | refine Grows.drew ?_ | assumption | (refine Grows.set ?_ (by first | omega | (simp; done) | (simp; omega)) _))) u huN).mono ?_
      rintro e Z ⟨gd, rfl, hrow, hgd, hg⟩
      have hgZ : Grows x0.now Z := y3.grows.trans hg
      have HOZ := hide (HO3.out.grows hg)
      have hGlt := HG3.out.lt
      have HAZ := hide (HG3.out.grow hg)
      have HRZ := hide hrow
      have hGd : G ≠ gd := by omega
      have HCH := hide (chosen_best F NN o.length (by have := HM.out; omega))
      rw [← HOU.out] at HCH
      rw [← nv_snoc] at HOZ
      have HFu := hide (HFL.out u huN)
      clear HO3 HG3 HO HAG hg hrow hgd hGlt
      go_wp2_with fail
      go_loopw [7, 46] (fun s7 s46 wr => ∃ v : Nat, v ≤ NN ∧ s46 = .int .i64 (v : Int) ∧ s7 = .int .i64 (bestI (leastD F (o ++ [u])) (o ++ [u]) v) ∧ ∃ z : Later x0.now, wr = z.now ∧ Own z.now x0.now.heap.size 3 1 A3 (o.length + 1) c3 (nv (o ++ [u])) ∧ Arr z.now G 33 (wv (mixL F o u v NN)) ∧ Row1 z.now gd 33 1 NN NN (wv (F u))) (fun _ s46 _ => NN - (Go.RowKit.intOf s46).toNat)
      case atStart => exact ⟨0, by omega, by go_num, rfl, ⟨Z, hgZ⟩, rfl, HOZ.out, by rw [mixL_zero F o u 0]; exact HAZ.out, HRZ.out⟩
      case round =>
        obtain ⟨v, hv, rfl, rfl, z, rfl, hown, aG, hrow⟩ := hrel
        by_cases hvl : v < NN
        · have hdv : decide ((v : Int) < (NN : Int)) = true := decide_eq_true (by omega)
          have HO := hide hown
          have HAG := hide aG
          have HRW := hide hrow
          have m1 : Mine z.now ⟨G, v, none⟩ (.int .u64 (leastD F o v : Int)) := by
            have := aG.mine v (wv_at (W := mixL F o u v NN) (by rw [mixL_len]; exact hvl))
            rw [mixL_at F o u v hvl, if_neg (by omega)] at this
            exact this
          have d2 : Holds z.now ⟨gd, v, none⟩ (.int .u64 (gn (F u) v : Int)) := hrow.wvH HFu.out hvl
          have HLS := hide (leastD_snoc F o u v)
          have HMX := hide (mixL_set F o u hvl)
          clear hown aG hrow
          go_upto_region 14 with fail
          obtain ⟨lv, hlv⟩ : ∃ lv, leastD F (o ++ [u]) v = lv := ⟨_, rfl⟩
          have HLV := hide hlv
          rw [hlv] at HLS HMX
          clear hlv
          generalize leastD F o v = l0 at *
          generalize gn (F u) v = l1 at *
          (refine wp_region_tail1 12 (by kernel_rfl) (by kernel_rfl) ?_; simp only [List.take_succ_cons, List.take_zero, List.drop_succ_cons, List.drop_zero]; (repeat' (first | (refine gLex_val0 rfl (by kernel_rfl) (fun K hK => ?_); (go_simp; (try (simp only [↓IntWalk.iteOmega]; try go_simp)); (try simp (disch := omega) only [IntWalk.i64_in]); (try simp (disch := omega) only [IntWalk.u64_in]); first | (refine hK _ ?_; clear hK K) | (apply Exists.intro; refine ⟨fun x => ?_, hK _ ?_⟩; (first | fail); clear hK K))) | (refine gLex_undef rfl rfl rfl (by kernel_rfl) (fun K hK => ?_); go_simp; refine hK _ ?_; clear hK K) | (refine gLex_ask rfl rfl rfl ?_; first | (apply gAsk_yes; kernel_rfl; intro K hK; (go_simp; (try (simp only [↓IntWalk.iteOmega]; try go_simp)); (try simp (disch := omega) only [IntWalk.i64_in]); (try simp (disch := omega) only [IntWalk.u64_in]); first | (refine hK _ ?_; clear hK K) | (apply Exists.intro; refine ⟨fun x => ?_, hK _ ?_⟩; (first | fail); clear hK K))) | ((first | apply gAsk_no1 | apply gAsk_no2); kernel_rfl; intro K hK; simp [go_sem]; refine hK _ ?_; clear hK K)))))
          refine gLex_endT (fun x14 => ?_)
          have hmn : min (l0 : Int) (l1 : Int) = (lv : Int) := by have := HLS.out; omega
          go_upto_region 15 with fail
          obtain ⟨Z2, hZ2⟩ : ∃ Z2, Z2 = x14.now.setCell ⟨G, v, none⟩ (.int .u64 (lv : Int)) := ⟨_, rfl⟩
          have HA2 : Hid (Arr Z2 G 33 (wv (mixL F o u (v + 1) NN))) := by
            have := (HAG.out.grow x14.grows).set v (.int .u64 (lv : Int))
            rw [HMX.out] at this
            rw [hZ2]; exact this
          have HO2 : Hid (Own Z2 x0.now.heap.size 3 1 A3 (o.length + 1) c3 (nv (o ++ [u]))) := by
            rw [hZ2]; exact (HO.out.grows x14.grows).othr (q := ⟨G, v, none⟩) ((HO.out.grows x14.grows).not_arr (HAG.out.grow x14.grows) (by decide)) _
          have HR2 : Hid (Row1 Z2 gd 33 1 NN NN (wv (F u))) := by
            rw [hZ2]; exact (HRW.out.grow x14.grows).other (p := ⟨G, v, none⟩) hGd _
          have hgz : Grows x0.now Z2 := by rw [hZ2]; exact (by repeat (first | exact Grows.refl _ | refine Grows.now ?_ _ | refine Grows.new ?_ _ | refine Grows.drewN ?_ _ | refine Grows.drew ?_ | assumption | (refine Grows.set ?_ (by first | omega | (simp; done) | (simp; omega)) _)))
          obtain ⟨z2, rfl⟩ := hgz.later
          rw [← hZ2]
          clear hZ2 hgz HAG HO HRW m1 d2 HMX HLS hmn
          have aG2 := HA2.out
          have m2 : Holds z2.now ⟨G, v, none⟩ (.int .u64 (lv : Int)) := by
            have := aG2.mine v (wv_at (W := mixL F o u (v + 1) NN) (by rw [mixL_len]; exact hvl))
            rw [mixL_at F o u (v + 1) hvl, if_pos (by omega), HLV.out] at this
            exact ⟨this.cell⟩
          have CR := hide (fun (W : World) (g : Grows z2.now W) => (slContains A3 (o.length + 1) c3 ((o ++ [u]).map fun (x : Nat) => (x : Int)) (v : Int) W (by rw [nv_cast]; exact HO2.out.rd.grows g) (by have := HM.out; omega)).mono (fun e w' h => (⟨h.1, h.2 ▸ Grows.refl _⟩ : e = .returned (.bool (decide ((v : Int) ∈ (o ++ [u]).map fun (x : Nat) => (x : Int)))) ∧ Grows W w')))
          have hcb : decide ((v : Int) ∈ (o ++ [u]).map fun (x : Nat) => (x : Int)) = (o ++ [u]).contains v := by
            rw [List.contains_eq_mem]
            apply decide_eq_decide.2
            constructor
            · intro h
              obtain ⟨x, hx, e⟩ := List.mem_map.1 h
              have : x = v := by omega
              rw [← this]; exact hx
            · exact fun h => List.mem_map.2 ⟨v, h, rfl⟩
          rw [hcb] at CR
          clear hcb
          have HBS := hide (bestI_succ (leastD F (o ++ [u])) (o ++ [u]) v)
          obtain ⟨b2, hb2⟩ : ∃ b2, bestI (leastD F (o ++ [u])) (o ++ [u]) (v + 1) = b2 := ⟨_, rfl⟩
          rw [hb2] at HBS
          have HB2 := hide hb2
          clear hb2
          rw [HLV.out] at HBS
          rcases bestI_in (leastD F (o ++ [u])) (o ++ [u]) v with hbi | ⟨b, hbi, hbv, _⟩
          · rw [hbi] at HBS ⊢
            clear hbi aG2
            cases hcb : (o ++ [u]).contains v with
            | true =>
              rw [hcb] at HBS CR
              have HE := hide (show b2 = -1 from by rw [HBS.out]; rfl)
              clear HBS hcb
              skip
              ((first | refine wp_region_gen (by kernel_rfl) (by kernel_rfl) ?_); (repeat' (first | (refine gLex_val0 rfl (by kernel_rfl) (fun K hK => ?_); (go_simp; (try (simp only [↓IntWalk.iteOmega]; try go_simp)); (try simp (disch := omega) only [IntWalk.i64_in]); (try simp (disch := omega) only [IntWalk.u64_in]); first | (refine hK _ ?_; clear hK K) | (apply Exists.intro; refine ⟨fun x => ?_, hK _ ?_⟩; (first | (go_at_call 107; exact CR.out x.now x.grows)); clear hK K))) | (refine gLex_undef rfl rfl rfl (by kernel_rfl) (fun K hK => ?_); go_simp; refine hK _ ?_; clear hK K) | (refine gLex_ask rfl rfl rfl ?_; first | (apply gAsk_yes; kernel_rfl; intro K hK; (go_simp; (try (simp only [↓IntWalk.iteOmega]; try go_simp)); (try simp (disch := omega) only [IntWalk.i64_in]); (try simp (disch := omega) only [IntWalk.u64_in]); first | (refine hK _ ?_; clear hK K) | (apply Exists.intro; refine ⟨fun x => ?_, hK _ ?_⟩; (first | (go_at_call 107; exact CR.out x.now x.grows)); clear hK K))) | ((first | apply gAsk_no1 | apply gAsk_no2); kernel_rfl; intro K hK; simp [go_sem]; refine hK _ ?_; clear hK K) | (apply gAsk_part; kernel_rfl; all_goals (intro h K hK; (try simp only [Bool.not_true] at h); (try simp only [Bool.not_false] at h); (try simp only [decide_eq_true_eq] at h); (try simp only [decide_eq_false_iff_not] at h); first | (exfalso; first | contradiction | omega) | (go_simp; (try (simp only [↓IntWalk.iteOmega]; try go_simp)); (try simp (disch := omega) only [IntWalk.i64_in]); (try simp (disch := omega) only [IntWalk.u64_in]); first | (refine hK _ ?_; clear hK K) | (apply Exists.intro; refine ⟨fun x => ?_, hK _ ?_⟩; (first | (go_at_call 107; exact CR.out x.now x.grows)); clear hK K))))))); all_goals ((apply gLex_end); intro x))
              go_wp2_with fail
              go_roundw
              case measure => simp [Go.RowKit.intOf]; omega
              case rel => exact ⟨v + 1, by omega, by go_num, by rw [HB2.out, HE.out], ⟨x.now, z2.grows.trans x.grows⟩, rfl, HO2.out.grows x.grows, HA2.out.grow x.grows, HR2.out.grow x.grows⟩
            | false =>
              rw [hcb] at HBS CR
              have HE := hide (show b2 = (v : Int) from by rw [HBS.out]; rfl)
              clear HBS hcb
              skip
              ((first | refine wp_region_gen (by kernel_rfl) (by kernel_rfl) ?_); (repeat' (first | (refine gLex_val0 rfl (by kernel_rfl) (fun K hK => ?_); (go_simp; (try (simp only [↓IntWalk.iteOmega]; try go_simp)); (try simp (disch := omega) only [IntWalk.i64_in]); (try simp (disch := omega) only [IntWalk.u64_in]); first | (refine hK _ ?_; clear hK K) | (apply Exists.intro; refine ⟨fun x => ?_, hK _ ?_⟩; (first | (go_at_call 107; exact CR.out x.now x.grows)); clear hK K))) | (refine gLex_undef rfl rfl rfl (by kernel_rfl) (fun K hK => ?_); go_simp; refine hK _ ?_; clear hK K) | (refine gLex_ask rfl rfl rfl ?_; first | (apply gAsk_yes; kernel_rfl; intro K hK; (go_simp; (try (simp only [↓IntWalk.iteOmega]; try go_simp)); (try simp (disch := omega) only [IntWalk.i64_in]); (try simp (disch := omega) only [IntWalk.u64_in]); first | (refine hK _ ?_; clear hK K) | (apply Exists.intro; refine ⟨fun x => ?_, hK _ ?_⟩; (first | (go_at_call 107; exact CR.out x.now x.grows)); clear hK K))) | ((first | apply gAsk_no1 | apply gAsk_no2); kernel_rfl; intro K hK; simp [go_sem]; refine hK _ ?_; clear hK K) | (apply gAsk_part; kernel_rfl; all_goals (intro h K hK; (try simp only [Bool.not_true] at h); (try simp only [Bool.not_false] at h); (try simp only [decide_eq_true_eq] at h); (try simp only [decide_eq_false_iff_not] at h); first | (exfalso; first | contradiction | omega) | (go_simp; (try (simp only [↓IntWalk.iteOmega]; try go_simp)); (try simp (disch := omega) only [IntWalk.i64_in]); (try simp (disch := omega) only [IntWalk.u64_in]); first | (refine hK _ ?_; clear hK K) | (apply Exists.intro; refine ⟨fun x => ?_, hK _ ?_⟩; (first | (go_at_call 107; exact CR.out x.now x.grows)); clear hK K))))))); all_goals ((apply gLex_end); intro x))
              go_wp2_with fail
              go_roundw
              case measure => simp [Go.RowKit.intOf]; omega
              case rel => exact ⟨v + 1, by omega, by go_num, by rw [HB2.out, HE.out], ⟨x.now, z2.grows.trans x.grows⟩, rfl, HO2.out.grows x.grows, HA2.out.grow x.grows, HR2.out.grow x.grows⟩
          · rw [hbi] at HBS ⊢
            rw [Int.toNat_natCast] at HBS
            have m3 : Holds z2.now ⟨G, b, none⟩ (.int .u64 (leastD F (o ++ [u]) b : Int)) := by
              have := aG2.mine b (wv_at (W := mixL F o u (v + 1) NN) (by rw [mixL_len]; omega))
              rw [mixL_at F o u (v + 1) (by omega), if_pos (by omega)] at this
              exact ⟨this.cell⟩
            have hb0 : decide ((b : Int) < 0) = false := decide_eq_false (by omega)
            generalize leastD F (o ++ [u]) b = lb at *
            clear hbi aG2
            cases hcb : (o ++ [u]).contains v with
            | true =>
              rw [hcb] at HBS CR
              have HE := hide (show b2 = (b : Int) from by rw [HBS.out]; rfl)
              clear HBS hcb
              skip
              ((first | refine wp_region_gen (by kernel_rfl) (by kernel_rfl) ?_); (repeat' (first | (refine gLex_val0 rfl (by kernel_rfl) (fun K hK => ?_); (go_simp; (try (simp only [↓IntWalk.iteOmega]; try go_simp)); (try simp (disch := omega) only [IntWalk.i64_in]); (try simp (disch := omega) only [IntWalk.u64_in]); first | (refine hK _ ?_; clear hK K) | (apply Exists.intro; refine ⟨fun x => ?_, hK _ ?_⟩; (first | (go_at_call 107; exact CR.out x.now x.grows)); clear hK K))) | (refine gLex_undef rfl rfl rfl (by kernel_rfl) (fun K hK => ?_); go_simp; refine hK _ ?_; clear hK K) | (refine gLex_ask rfl rfl rfl ?_; first | (apply gAsk_yes; kernel_rfl; intro K hK; (go_simp; (try (simp only [↓IntWalk.iteOmega]; try go_simp)); (try simp (disch := omega) only [IntWalk.i64_in]); (try simp (disch := omega) only [IntWalk.u64_in]); first | (refine hK _ ?_; clear hK K) | (apply Exists.intro; refine ⟨fun x => ?_, hK _ ?_⟩; (first | (go_at_call 107; exact CR.out x.now x.grows)); clear hK K))) | ((first | apply gAsk_no1 | apply gAsk_no2); kernel_rfl; intro K hK; simp [go_sem]; refine hK _ ?_; clear hK K) | (apply gAsk_part; kernel_rfl; all_goals (intro h K hK; (try simp only [Bool.not_true] at h); (try simp only [Bool.not_false] at h); (try simp only [decide_eq_true_eq] at h); (try simp only [decide_eq_false_iff_not] at h); first | (exfalso; first | contradiction | omega) | (go_simp; (try (simp only [↓IntWalk.iteOmega]; try go_simp)); (try simp (disch := omega) only [IntWalk.i64_in]); (try simp (disch := omega) only [IntWalk.u64_in]); first | (refine hK _ ?_; clear hK K) | (apply Exists.intro; refine ⟨fun x => ?_, hK _ ?_⟩; (first | (go_at_call 107; exact CR.out x.now x.grows)); clear hK K))))))); all_goals ((apply gLex_end); intro x))
              go_wp2_with fail
              go_roundw
              case measure => simp [Go.RowKit.intOf]; omega
              case rel => exact ⟨v + 1, by omega, by go_num, by rw [HB2.out, HE.out], ⟨x.now, z2.grows.trans x.grows⟩, rfl, HO2.out.grows x.grows, HA2.out.grow x.grows, HR2.out.grow x.grows⟩
            | false =>
              rw [hcb] at HBS CR
              by_cases hlt2 : lb < lv
              · have HE := hide (show b2 = (v : Int) from by rw [HBS.out, hb0, decide_eq_true hlt2]; rfl)
                clear HBS hcb
                skip
                ((first | refine wp_region_gen (by kernel_rfl) (by kernel_rfl) ?_); (repeat' (first | (refine gLex_val0 rfl (by kernel_rfl) (fun K hK => ?_); (go_simp; (try (simp only [↓IntWalk.iteOmega]; try go_simp)); (try simp (disch := omega) only [IntWalk.i64_in]); (try simp (disch := omega) only [IntWalk.u64_in]); first | (refine hK _ ?_; clear hK K) | (apply Exists.intro; refine ⟨fun x => ?_, hK _ ?_⟩; (first | (go_at_call 107; exact CR.out x.now x.grows)); clear hK K))) | (refine gLex_undef rfl rfl rfl (by kernel_rfl) (fun K hK => ?_); go_simp; refine hK _ ?_; clear hK K) | (refine gLex_ask rfl rfl rfl ?_; first | (apply gAsk_yes; kernel_rfl; intro K hK; (go_simp; (try (simp only [↓IntWalk.iteOmega]; try go_simp)); (try simp (disch := omega) only [IntWalk.i64_in]); (try simp (disch := omega) only [IntWalk.u64_in]); first | (refine hK _ ?_; clear hK K) | (apply Exists.intro; refine ⟨fun x => ?_, hK _ ?_⟩; (first | (go_at_call 107; exact CR.out x.now x.grows)); clear hK K))) | ((first | apply gAsk_no1 | apply gAsk_no2); kernel_rfl; intro K hK; simp [go_sem]; refine hK _ ?_; clear hK K) | (apply gAsk_part; kernel_rfl; all_goals (intro h K hK; (try simp only [Bool.not_true] at h); (try simp only [Bool.not_false] at h); (try simp only [decide_eq_true_eq] at h); (try simp only [decide_eq_false_iff_not] at h); first | (exfalso; first | contradiction | omega) | (go_simp; (try (simp only [↓IntWalk.iteOmega]; try go_simp)); (try simp (disch := omega) only [IntWalk.i64_in]); (try simp (disch := omega) only [IntWalk.u64_in]); first | (refine hK _ ?_; clear hK K) | (apply Exists.intro; refine ⟨fun x => ?_, hK _ ?_⟩; (first | (go_at_call 107; exact CR.out x.now x.grows)); clear hK K))))))); all_goals ((apply gLex_end); intro x))
                go_wp2_with fail
                go_roundw
                case measure => simp [Go.RowKit.intOf]; omega
                case rel => exact ⟨v + 1, by omega, by go_num, by rw [HB2.out, HE.out], ⟨x.now, z2.grows.trans x.grows⟩, rfl, HO2.out.grows x.grows, HA2.out.grow x.grows, HR2.out.grow x.grows⟩
              · have HE := hide (show b2 = (b : Int) from by rw [HBS.out, hb0, decide_eq_false hlt2]; rfl)
                clear HBS hcb
                skip
                ((first | refine wp_region_gen (by kernel_rfl) (by kernel_rfl) ?_); (repeat' (first | (refine gLex_val0 rfl (by kernel_rfl) (fun K hK => ?_); (go_simp; (try (simp only [↓IntWalk.iteOmega]; try go_simp)); (try simp (disch := omega) only [IntWalk.i64_in]); (try simp (disch := omega) only [IntWalk.u64_in]); first | (refine hK _ ?_; clear hK K) | (apply Exists.intro; refine ⟨fun x => ?_, hK _ ?_⟩; (first | (go_at_call 107; exact CR.out x.now x.grows)); clear hK K))) | (refine gLex_undef rfl rfl rfl (by kernel_rfl) (fun K hK => ?_); go_simp; refine hK _ ?_; clear hK K) | (refine gLex_ask rfl rfl rfl ?_; first | (apply gAsk_yes; kernel_rfl; intro K hK; (go_simp; (try (simp only [↓IntWalk.iteOmega]; try go_simp)); (try simp (disch := omega) only [IntWalk.i64_in]); (try simp (disch := omega) only [IntWalk.u64_in]); first | (refine hK _ ?_; clear hK K) | (apply Exists.intro; refine ⟨fun x => ?_, hK _ ?_⟩; (first | (go_at_call 107; exact CR.out x.now x.grows)); clear hK K))) | ((first | apply gAsk_no1 | apply gAsk_no2); kernel_rfl; intro K hK; simp [go_sem]; refine hK _ ?_; clear hK K) | (apply gAsk_part; kernel_rfl; all_goals (intro h K hK; (try simp only [Bool.not_true] at h); (try simp only [Bool.not_false] at h); (try simp only [decide_eq_true_eq] at h); (try simp only [decide_eq_false_iff_not] at h); first | (exfalso; first | contradiction | omega) | (go_simp; (try (simp only [↓IntWalk.iteOmega]; try go_simp)); (try simp (disch := omega) only [IntWalk.i64_in]); (try simp (disch := omega) only [IntWalk.u64_in]); first | (refine hK _ ?_; clear hK K) | (apply Exists.intro; refine ⟨fun x => ?_, hK _ ?_⟩; (first | (go_at_call 107; exact CR.out x.now x.grows)); clear hK K))))))); all_goals ((apply gLex_end); intro x))
                go_wp2_with fail
                go_roundw
                case measure => simp [Go.RowKit.intOf]; omega
                case rel => exact ⟨v + 1, by omega, by go_num, by rw [HB2.out, HE.out], ⟨x.now, z2.grows.trans x.grows⟩, rfl, HO2.out.grows x.grows, HA2.out.grow x.grows, HR2.out.grow x.grows⟩
        · obtain rfl : v = NN := by omega
          have hdv : decide ((v : Int) < (v : Int)) = false := decide_eq_false (by omega)
          obtain ⟨u2, hu1, hu2, hu3⟩ := HCH.out
          rw [hu1]
          have HU := hide hu3
          have HO := hide hown
          have HAG := hide aG
          clear hu1 hu3 hown aG hrow
          go_wp2_with fail
          go_roundw
          case measure => simp [lenV]; omega
          case rel => exact ⟨o ++ [u], u2, by simp; omega, by rw [List.length_append]; exact HU.out.symm, rfl, z, rfl, A3, c3, by simp, by simpa using HO.out, by rw [← mixL_end F o u 0]; exact HAG.out⟩
end Go.Proofs.Ytiljgkaffgclgaa
