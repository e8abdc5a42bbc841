/- Contract: from a place down. -/
import Derived.Test.YtpnncadglhlclaaHeapRise
import Derived.Deep.DeepCutAuto
namespace Go.Proofs.Ytpnncadglhlclaa
open Go Go.RowKit
theorem HS.sink_in {s : HS} {N : Nat} (h : s.In N) (i : Nat) (x : Itm) (hx : x.1 < N) : (s.sink i x).In N ∧ (s.sink i x).L.length = s.L.length := by
  induction hm : s.L.length - i using Nat.strongRecOn generalizing s i with
  | _ m ih =>
    subst hm
    rw [HS.sink]
    split
    · rename_i hc
      have h1 := HS.low_gt s i
      have h2 := (HS.lay_len s i (gi2 s.L (s.low i))).1
      have := ih _ (by rw [h2]; omega) (h.lay i _ (h.2 _ hc.1)) (s.low i) rfl
      rw [h2] at this
      exact this
    · exact ⟨h.lay i x hx, (HS.lay_len s i x).1⟩
/-- Is the second one below the lesser one? -/
def lowB (s : HS) (lo : Nat) : Bool := decide (lo + 1 < s.L.length ∧ ahead (gi2 s.L (lo + 1)) (gi2 s.L lo) = true)
def SinkAt (w : World) (S : Nat → Prop) (b N bx : Nat) (s : HS) (i : Nat) (x : Itm) (k : Nat) (wr : World) : Prop :=
  ∃ s' : HS, HpAt wr S b s' ∧ s'.In N ∧ s'.L.length = s.L.length ∧ k < s.L.length ∧ s'.sink k x = s.sink i x ∧ Touch S w wr ∧ Arr wr bx 227 [.int .i64 (x.1 : Int), .int .u64 (x.2 : Int)]
set_option maxRecDepth 20000 in
set_option maxHeartbeats 4000000 in
theorem hpSink (b N : Nat) (s : HS) (i : Nat) (x : Itm) (S : Nat → Prop) (w : World) (h : HpAt w S b s) (hs : ∀ k, S k → k < w.heap.size) (hin : s.In N) (hi : i < s.L.length) (hx : x.1 < N) (hl : s.L.length ≤ 100000) :
    Calls Try.prog 184 #[.pointer (some ⟨b, 0, none⟩), .int .i64 (i : Int), itVal x] w fun e w' => e = .returned (.tuple #[]) ∧ HpAt w' S b (s.sink i x) ∧ Touch S w w' := by
  have hbx : ¬ S w.heap.size := fun e => by have := hs _ e; omega
  have H0 : Hid (SinkAt w S b N w.heap.size s i x i (w.alloc (.cells #[.int .i64 (x.1 : Int), .int .u64 (x.2 : Int)] 227))) :=
    ⟨s, h.grow ((Grows.refl w).new _), hin, rfl, hi, rfl, ((Grows.refl w).new _).touch S, Arr.make _ _ _⟩
  clear h hs hin
  unfold itVal
  go_enter Try.func184, Try.ntmps184
  go_wp2_with fail
  go_step3
  go_wp2_with fail
  go_step3
  go_wp2_with fail
  go_loopw [1] (fun v wr => ∃ k : Nat, v = .int .i64 (k : Int) ∧ SinkAt w S b N w.heap.size s i x k wr) (fun v _ => s.L.length - (Go.RowKit.intOf v).toNat)
  case atStart => exact ⟨i, rfl, H0.out⟩
  case round =>
    obtain ⟨k, rfl, s', h1, h2, h3, h4, h5, h6, h7⟩ := hrel
    clear H0
    have hk' : k < s'.L.length := by omega
    have HLX := hide (fun (W : World) (hg : Grows wr W) => hpLay b s' k x S W (h1.grow hg) hk' (by rw [h2.1]; exact hx))
    obtain ⟨lo, hlo⟩ : ∃ lo, 2 * k + 1 = lo := ⟨_, rfl⟩
    have hlo2 : 2 * (k : Int) + 1 = (lo : Int) := by omega
    obtain ⟨A, c, G, r1, r2, r3, r4, r5, r6⟩ := h1
    have HLOW : Hid (s'.low k = if lo + 1 < s'.L.length ∧ ahead (gi2 s'.L (lo + 1)) (gi2 s'.L lo) = true then lo + 1 else lo) := by
      unfold HS.low; rw [hlo]; exact rfl
    have HT := hide h2.1
    have hll : s'.L.length ≤ 100000 := by omega
    have hloB : lo ≤ 300000 := by omega
    have HLO := hide hlo
    have H1 := hide (show HpAt wr S b s' from ⟨A, c, G, r1, r2, r3, r4, r5, r6⟩)
    have H2 := hide h2
    have H3 := hide h3
    have H5 := hide h5
    have H6 := hide h6
    have R2 := hide r2
    clear h2 h3 h5 h6 r2 r3 r6 hlo
    go_upto_region 4 with fail
    go_cut [35] (fun v wx => v = .bool (lowB s' lo) ∧ ∃ y : Later wr, wx = y.now)
    case first =>
      by_cases hc : lo + 1 < s'.L.length
      · obtain ⟨g, rfl, m1, m2⟩ := R2.out.item (i := lo) (by omega)
        obtain ⟨g', e, m3, m4⟩ := R2.out.item (i := lo + 1) hc
        injection e with e
        injection e with e
        subst e
        have hc1 : decide ((lo : Int) + 1 < (s'.L.length : Int)) = true := decide_eq_true (by omega)
        have HLE := hide (fun (W : World) => hpLess (gi2 s'.L (lo + 1)) (gi2 s'.L lo) W)
        cases ha : ahead (gi2 s'.L (lo + 1)) (gi2 s'.L lo) with
        | true =>
          rw [ha] at HLE
          have HV : Hid (lowB s' lo = true) := decide_eq_true ⟨hc, ha⟩
          clear ha HLOW
          generalize gi2 s'.L (lo + 1) = y at *
          generalize gi2 s'.L lo = y' at *
          unfold itVal at HLE
          ((first | refine wp_region_gen2 (by kernel_rfl) (by kernel_rfl) ?_ | refine wp_region_gen (by kernel_rfl) (by kernel_rfl) ?_); (repeat' (first | (refine gLex_val0 rfl (by kernel_rfl) (fun K hK => ?_); (go_simp; (try (simp only [↓IntWalk.iteOmega]; try go_simp)); (try simp (disch := omega) only [IntWalk.i64_in]); (try simp (disch := omega) only [IntWalk.u64_in]); first | (refine hK _ ?_; clear hK K) | (apply Exists.intro; refine ⟨fun x => ?_, hK _ ?_⟩; (first | (exact HLE.out _)); clear hK K))) | (refine gLex_undef rfl rfl rfl (by kernel_rfl) (fun K hK => ?_); go_simp; refine hK _ ?_; clear hK K) | (refine gLex_ask rfl rfl rfl ?_; first | (apply gAsk_yes; kernel_rfl; intro K hK; (go_simp; (try (simp only [↓IntWalk.iteOmega]; try go_simp)); (try simp (disch := omega) only [IntWalk.i64_in]); (try simp (disch := omega) only [IntWalk.u64_in]); first | (refine hK _ ?_; clear hK K) | (apply Exists.intro; refine ⟨fun x => ?_, hK _ ?_⟩; (first | (exact HLE.out _)); clear hK K))) | ((first | apply gAsk_no1 | apply gAsk_no2); kernel_rfl; intro K hK; simp [go_sem]; refine hK _ ?_; clear hK K) | (apply gAsk_part; kernel_rfl; all_goals (intro h K hK; (try simp only [Bool.not_true] at h); (try simp only [Bool.not_false] at h); (try simp only [decide_eq_true_eq] at h); (try simp only [decide_eq_false_iff_not] at h); first | (exfalso; first | contradiction | omega) | (go_simp; (try (simp only [↓IntWalk.iteOmega]; try go_simp)); (try simp (disch := omega) only [IntWalk.i64_in]); (try simp (disch := omega) only [IntWalk.u64_in]); first | (refine hK _ ?_; clear hK K) | (apply Exists.intro; refine ⟨fun x => ?_, hK _ ?_⟩; (first | (exact HLE.out _)); clear hK K))))))); all_goals ((apply gLex_end); intro z))
          go_wp2_with fail
          go_meet
          case rel => exact ⟨by rw [HV.out], z, rfl⟩
        | false =>
          rw [ha] at HLE
          have HV : Hid (lowB s' lo = false) := decide_eq_false (fun e => by rw [ha] at e; cases e.2)
          clear ha HLOW
          generalize gi2 s'.L (lo + 1) = y at *
          generalize gi2 s'.L lo = y' at *
          unfold itVal at HLE
          ((first | refine wp_region_gen2 (by kernel_rfl) (by kernel_rfl) ?_ | refine wp_region_gen (by kernel_rfl) (by kernel_rfl) ?_); (repeat' (first | (refine gLex_val0 rfl (by kernel_rfl) (fun K hK => ?_); (go_simp; (try (simp only [↓IntWalk.iteOmega]; try go_simp)); (try simp (disch := omega) only [IntWalk.i64_in]); (try simp (disch := omega) only [IntWalk.u64_in]); first | (refine hK _ ?_; clear hK K) | (apply Exists.intro; refine ⟨fun x => ?_, hK _ ?_⟩; (first | (exact HLE.out _)); clear hK K))) | (refine gLex_undef rfl rfl rfl (by kernel_rfl) (fun K hK => ?_); go_simp; refine hK _ ?_; clear hK K) | (refine gLex_ask rfl rfl rfl ?_; first | (apply gAsk_yes; kernel_rfl; intro K hK; (go_simp; (try (simp only [↓IntWalk.iteOmega]; try go_simp)); (try simp (disch := omega) only [IntWalk.i64_in]); (try simp (disch := omega) only [IntWalk.u64_in]); first | (refine hK _ ?_; clear hK K) | (apply Exists.intro; refine ⟨fun x => ?_, hK _ ?_⟩; (first | (exact HLE.out _)); clear hK K))) | ((first | apply gAsk_no1 | apply gAsk_no2); kernel_rfl; intro K hK; simp [go_sem]; refine hK _ ?_; clear hK K) | (apply gAsk_part; kernel_rfl; all_goals (intro h K hK; (try simp only [Bool.not_true] at h); (try simp only [Bool.not_false] at h); (try simp only [decide_eq_true_eq] at h); (try simp only [decide_eq_false_iff_not] at h); first | (exfalso; first | contradiction | omega) | (go_simp; (try (simp only [↓IntWalk.iteOmega]; try go_simp)); (try simp (disch := omega) only [IntWalk.i64_in]); (try simp (disch := omega) only [IntWalk.u64_in]); first | (refine hK _ ?_; clear hK K) | (apply Exists.intro; refine ⟨fun x => ?_, hK _ ?_⟩; (first | (exact HLE.out _)); clear hK K))))))); all_goals ((apply gLex_end); intro z))
          go_wp2_with fail
          go_meet
          case rel => exact ⟨by rw [HV.out], z, rfl⟩
      · have hc1 : decide ((lo : Int) + 1 < (s'.L.length : Int)) = false := decide_eq_false (by omega)
        have HV : Hid (lowB s' lo = false) := decide_eq_false (fun e => hc e.1)
        clear HLOW
        ((first | refine wp_region_gen2 (by kernel_rfl) (by kernel_rfl) ?_ | refine wp_region_gen (by kernel_rfl) (by kernel_rfl) ?_); (repeat' (first | (refine gLex_val0 rfl (by kernel_rfl) (fun K hK => ?_); (go_simp; (try (simp only [↓IntWalk.iteOmega]; try go_simp)); (try simp (disch := omega) only [IntWalk.i64_in]); (try simp (disch := omega) only [IntWalk.u64_in]); first | (refine hK _ ?_; clear hK K) | (apply Exists.intro; refine ⟨fun x => ?_, hK _ ?_⟩; (first | fail); clear hK K))) | (refine gLex_undef rfl rfl rfl (by kernel_rfl) (fun K hK => ?_); go_simp; refine hK _ ?_; clear hK K) | (refine gLex_ask rfl rfl rfl ?_; first | (apply gAsk_yes; kernel_rfl; intro K hK; (go_simp; (try (simp only [↓IntWalk.iteOmega]; try go_simp)); (try simp (disch := omega) only [IntWalk.i64_in]); (try simp (disch := omega) only [IntWalk.u64_in]); first | (refine hK _ ?_; clear hK K) | (apply Exists.intro; refine ⟨fun x => ?_, hK _ ?_⟩; (first | fail); clear hK K))) | ((first | apply gAsk_no1 | apply gAsk_no2); kernel_rfl; intro K hK; simp [go_sem]; refine hK _ ?_; clear hK K) | (apply gAsk_part; kernel_rfl; all_goals (intro h K hK; (try simp only [Bool.not_true] at h); (try simp only [Bool.not_false] at h); (try simp only [decide_eq_true_eq] at h); (try simp only [decide_eq_false_iff_not] at h); first | (exfalso; first | contradiction | omega) | (go_simp; (try (simp only [↓IntWalk.iteOmega]; try go_simp)); (try simp (disch := omega) only [IntWalk.i64_in]); (try simp (disch := omega) only [IntWalk.u64_in]); first | (refine hK _ ?_; clear hK K) | (apply Exists.intro; refine ⟨fun x => ?_, hK _ ?_⟩; (first | fail); clear hK K))))))); all_goals ((apply gLex_end); intro z))
        go_wp2_with fail
        go_meet
        case rel => exact ⟨by rw [HV.out], z, rfl⟩
    case rest =>
      obtain ⟨rfl, y, rfl⟩ := hcut
      have HL2 : Hid (s'.low k = if lowB s' lo = true then lo + 1 else lo) := by
        show _ = _
        rw [HLOW.out]
        unfold lowB
        simp only [decide_eq_true_eq]
      cases hb : lowB s' lo with
      | true =>
        rw [hb] at HL2
        clear hb
        have hv : (lo : Int) + 1 = (s'.low k : Int) := by have := HL2.out; rw [if_pos rfl] at this; omega
        have HVV := hide hv
        clear hv HL2
        go_wp2_with fail
        rw [HVV.out]
        clear HVV hlo2
        have HS0 : Hid (s'.sink k x = if s'.low k < s'.L.length ∧ ahead (gi2 s'.L (s'.low k)) x = true then (s'.lay k (gi2 s'.L (s'.low k))).sink (s'.low k) x else s'.lay k x) := by
          show _ = _
          rw [HS.sink]
          by_cases hh : s'.low k < s'.L.length ∧ ahead (gi2 s'.L (s'.low k)) x = true
          · rw [dif_pos hh, if_pos hh]
          · rw [dif_neg hh, if_neg hh]
        have hgt := HS.low_gt s' k
        have hlw : s'.low k ≤ 300001 := by
          have := HLOW.out
          rw [this]; split <;> omega
        have HLU := hide (fun (W : World) (hg : Grows wr W) (hlt : s'.low k < s'.L.length) => hpLay b s' k (gi2 s'.L (s'.low k)) S W (H1.out.grow hg) hk' (by rw [HT.out]; exact H2.out.2 _ hlt))
        clear HLOW
        have hgy : Grows wr y.now := (by repeat (first | exact Grows.refl _ | refine Grows.now ?_ _ | refine Grows.new ?_ _ | refine Grows.drewN ?_ _ | refine Grows.drew ?_ | assumption | (refine Grows.set ?_ (by first | omega | (simp; done) | (simp; omega)) _)))
        by_cases hc : s'.low k < s'.L.length
        · obtain ⟨g, rfl, m1, m2⟩ := R2.out.item (i := s'.low k) hc
          have HLE := hide (fun (W : World) => hpLess (gi2 s'.L (s'.low k)) x W)
          have hbb : (gi2 s'.L (s'.low k)).1 < N := H2.out.2 _ hc
          have HBB := hide hbb
          have HLU2 := hide (fun (W : World) (hg : Grows wr W) => HLU.out W hg hc)
          have hc1 : decide ((s'.L.length : Int) ≤ (s'.low k : Int)) = false := decide_eq_false (by omega)
          have hc2 : decide (s'.L.length ≤ s'.low k) = false := decide_eq_false (by omega)
          have hkk : k < s.L.length := by omega
          have hlk : s'.low k < s.L.length := by have := H3.out; omega
          have HLK := hide hlk
          have HLG := hide hgt
          have HIN : Hid ((s'.lay k (gi2 s'.L (s'.low k))).In N) := H2.out.lay _ _ hbb
          clear HLU hbb hgt hlk
          cases ha : ahead (gi2 s'.L (s'.low k)) x with
          | true =>
            have HS1 : Hid (s'.sink k x = (s'.lay k (gi2 s'.L (s'.low k))).sink (s'.low k) x) := by rw [HS0.out, if_pos ⟨hc, ha⟩]; exact rfl
            rw [ha] at HLE
            clear ha HS0
            generalize gi2 s'.L (s'.low k) = q at *
            generalize s'.low k = p at *
            unfold itVal at HLE HLU2
            obtain ⟨q1, q2⟩ := q
            dsimp only at *
            ((first | refine wp_region_gen2 (by kernel_rfl) (by kernel_rfl) ?_ | refine wp_region_gen (by kernel_rfl) (by kernel_rfl) ?_); (repeat' (first | (refine gLex_val0 rfl (by kernel_rfl) (fun K hK => ?_); (go_simp; (try (simp only [↓IntWalk.iteOmega]; try go_simp)); (try simp (disch := omega) only [IntWalk.i64_in]); (try simp (disch := omega) only [IntWalk.u64_in]); first | (refine hK _ ?_; clear hK K) | (apply Exists.intro; refine ⟨fun x => ?_, hK _ ?_⟩; (first | (exact HLE.out _)); clear hK K))) | (refine gLex_undef rfl rfl rfl (by kernel_rfl) (fun K hK => ?_); go_simp; refine hK _ ?_; clear hK K) | (refine gLex_ask rfl rfl rfl ?_; first | (apply gAsk_yes; kernel_rfl; intro K hK; (go_simp; (try (simp only [↓IntWalk.iteOmega]; try go_simp)); (try simp (disch := omega) only [IntWalk.i64_in]); (try simp (disch := omega) only [IntWalk.u64_in]); first | (refine hK _ ?_; clear hK K) | (apply Exists.intro; refine ⟨fun x => ?_, hK _ ?_⟩; (first | (exact HLE.out _)); clear hK K))) | ((first | apply gAsk_no1 | apply gAsk_no2); kernel_rfl; intro K hK; simp [go_sem]; refine hK _ ?_; clear hK K) | (apply gAsk_part; kernel_rfl; all_goals (intro h K hK; (try simp only [Bool.not_true] at h); (try simp only [Bool.not_false] at h); (try simp only [decide_eq_true_eq] at h); (try simp only [decide_eq_false_iff_not] at h); first | (exfalso; first | contradiction | omega) | (go_simp; (try (simp only [↓IntWalk.iteOmega]; try go_simp)); (try simp (disch := omega) only [IntWalk.i64_in]); (try simp (disch := omega) only [IntWalk.u64_in]); first | (refine hK _ ?_; clear hK K) | (apply Exists.intro; refine ⟨fun x => ?_, hK _ ?_⟩; (first | (exact HLE.out _)); clear hK K))))))); all_goals ((apply gLex_end); intro z))
            go_wp2_with (go_at_call 181; refine (HLU2.out _ (by repeat (first | exact Grows.refl _ | refine Grows.now ?_ _ | refine Grows.new ?_ _ | refine Grows.drewN ?_ _ | refine Grows.drew ?_ | assumption | (refine Grows.set ?_ (by first | omega | (simp; done) | (simp; omega)) _)))).mono ?_; rintro e w' ⟨rfl, hp, ht⟩; have HPP := hide hp; have HTT := hide ht; clear hp ht)
            have hgz : Grows wr z.now := (by repeat (first | exact Grows.refl _ | refine Grows.now ?_ _ | refine Grows.new ?_ _ | refine Grows.drewN ?_ _ | refine Grows.drew ?_ | assumption | (refine Grows.set ?_ (by first | omega | (simp; done) | (simp; omega)) _)))
            go_roundw
            case rel =>
              refine ⟨p, by go_num, s'.lay k (q1, q2), HPP.out, HIN.out, by rw [(HS.lay_len _ _ _).1]; exact H3.out, HLK.out, ?_, (H6.out.grows hgz).trans HTT.out, ?_⟩
              · rw [← H5.out, HS1.out]
              · exact (h7.grow hgz).touch HTT.out hbx
            case measure => have := HLG.out; have := HLK.out; simp [Go.RowKit.intOf]; omega
          | false =>
            have HE : Hid (s'.lay k x = s.sink i x) := by rw [← H5.out, HS0.out, if_neg (fun e => by rw [ha] at e; cases e.2)]; exact rfl
            rw [ha] at HLE
            clear ha HS0 HLU2
            generalize gi2 s'.L (s'.low k) = q at *
            generalize s'.low k = p at *
            unfold itVal at HLE
            obtain ⟨q1, q2⟩ := q
            dsimp only at *
            ((first | refine wp_region_gen2 (by kernel_rfl) (by kernel_rfl) ?_ | refine wp_region_gen (by kernel_rfl) (by kernel_rfl) ?_); (repeat' (first | (refine gLex_val0 rfl (by kernel_rfl) (fun K hK => ?_); (go_simp; (try (simp only [↓IntWalk.iteOmega]; try go_simp)); (try simp (disch := omega) only [IntWalk.i64_in]); (try simp (disch := omega) only [IntWalk.u64_in]); first | (refine hK _ ?_; clear hK K) | (apply Exists.intro; refine ⟨fun x => ?_, hK _ ?_⟩; (first | (exact HLE.out _)); clear hK K))) | (refine gLex_undef rfl rfl rfl (by kernel_rfl) (fun K hK => ?_); go_simp; refine hK _ ?_; clear hK K) | (refine gLex_ask rfl rfl rfl ?_; first | (apply gAsk_yes; kernel_rfl; intro K hK; (go_simp; (try (simp only [↓IntWalk.iteOmega]; try go_simp)); (try simp (disch := omega) only [IntWalk.i64_in]); (try simp (disch := omega) only [IntWalk.u64_in]); first | (refine hK _ ?_; clear hK K) | (apply Exists.intro; refine ⟨fun x => ?_, hK _ ?_⟩; (first | (exact HLE.out _)); clear hK K))) | ((first | apply gAsk_no1 | apply gAsk_no2); kernel_rfl; intro K hK; simp [go_sem]; refine hK _ ?_; clear hK K) | (apply gAsk_part; kernel_rfl; all_goals (intro h K hK; (try simp only [Bool.not_true] at h); (try simp only [Bool.not_false] at h); (try simp only [decide_eq_true_eq] at h); (try simp only [decide_eq_false_iff_not] at h); first | (exfalso; first | contradiction | omega) | (go_simp; (try (simp only [↓IntWalk.iteOmega]; try go_simp)); (try simp (disch := omega) only [IntWalk.i64_in]); (try simp (disch := omega) only [IntWalk.u64_in]); first | (refine hK _ ?_; clear hK K) | (apply Exists.intro; refine ⟨fun x => ?_, hK _ ?_⟩; (first | (exact HLE.out _)); clear hK K))))))); all_goals ((apply gLex_end); intro z))
            go_wp2_with (go_at_call 181; refine (HLX.out _ (by repeat (first | exact Grows.refl _ | refine Grows.now ?_ _ | refine Grows.new ?_ _ | refine Grows.drewN ?_ _ | refine Grows.drew ?_ | assumption | (refine Grows.set ?_ (by first | omega | (simp; done) | (simp; omega)) _)))).mono ?_; rintro e w' ⟨rfl, hp, ht⟩; have HPP := hide hp; have HTT := hide ht; clear hp ht)
            have hgz : Grows wr z.now := (by repeat (first | exact Grows.refl _ | refine Grows.now ?_ _ | refine Grows.new ?_ _ | refine Grows.drewN ?_ _ | refine Grows.drew ?_ | assumption | (refine Grows.set ?_ (by first | omega | (simp; done) | (simp; omega)) _)))
            rw [Exit.noGoto_normal]
            go_end0
            exact ⟨rfl, HE.out ▸ HPP.out, (H6.out.grows hgz).trans HTT.out⟩
        · have hc1 : decide ((s'.L.length : Int) ≤ (s'.low k : Int)) = true := decide_eq_true (by omega)
          have hc2 : decide (s'.L.length ≤ s'.low k) = true := decide_eq_true (by omega)
          have HE : Hid (s'.lay k x = s.sink i x) := by rw [← H5.out, HS0.out, if_neg (fun e => hc e.1)]; exact rfl
          clear HLU HS0 hgt
          generalize s'.low k = p at *
          ((first | refine wp_region_gen2 (by kernel_rfl) (by kernel_rfl) ?_ | refine wp_region_gen (by kernel_rfl) (by kernel_rfl) ?_); (repeat' (first | (refine gLex_val0 rfl (by kernel_rfl) (fun K hK => ?_); (go_simp; (try (simp only [↓IntWalk.iteOmega]; try go_simp)); (try simp (disch := omega) only [IntWalk.i64_in]); (try simp (disch := omega) only [IntWalk.u64_in]); first | (refine hK _ ?_; clear hK K) | (apply Exists.intro; refine ⟨fun x => ?_, hK _ ?_⟩; (first | fail); clear hK K))) | (refine gLex_undef rfl rfl rfl (by kernel_rfl) (fun K hK => ?_); go_simp; refine hK _ ?_; clear hK K) | (refine gLex_ask rfl rfl rfl ?_; first | (apply gAsk_yes; kernel_rfl; intro K hK; (go_simp; (try (simp only [↓IntWalk.iteOmega]; try go_simp)); (try simp (disch := omega) only [IntWalk.i64_in]); (try simp (disch := omega) only [IntWalk.u64_in]); first | (refine hK _ ?_; clear hK K) | (apply Exists.intro; refine ⟨fun x => ?_, hK _ ?_⟩; (first | fail); clear hK K))) | ((first | apply gAsk_no1 | apply gAsk_no2); kernel_rfl; intro K hK; simp [go_sem]; refine hK _ ?_; clear hK K) | (apply gAsk_part; kernel_rfl; all_goals (intro h K hK; (try simp only [Bool.not_true] at h); (try simp only [Bool.not_false] at h); (try simp only [decide_eq_true_eq] at h); (try simp only [decide_eq_false_iff_not] at h); first | (exfalso; first | contradiction | omega) | (go_simp; (try (simp only [↓IntWalk.iteOmega]; try go_simp)); (try simp (disch := omega) only [IntWalk.i64_in]); (try simp (disch := omega) only [IntWalk.u64_in]); first | (refine hK _ ?_; clear hK K) | (apply Exists.intro; refine ⟨fun x => ?_, hK _ ?_⟩; (first | fail); clear hK K))))))); all_goals ((apply gLex_end); intro z))
          go_wp2_with (go_at_call 181; refine (HLX.out _ (by repeat (first | exact Grows.refl _ | refine Grows.now ?_ _ | refine Grows.new ?_ _ | refine Grows.drewN ?_ _ | refine Grows.drew ?_ | assumption | (refine Grows.set ?_ (by first | omega | (simp; done) | (simp; omega)) _)))).mono ?_; rintro e w' ⟨rfl, hp, ht⟩; have HPP := hide hp; have HTT := hide ht; clear hp ht)
          have hgz : Grows wr z.now := (by repeat (first | exact Grows.refl _ | refine Grows.now ?_ _ | refine Grows.new ?_ _ | refine Grows.drewN ?_ _ | refine Grows.drew ?_ | assumption | (refine Grows.set ?_ (by first | omega | (simp; done) | (simp; omega)) _)))
          rw [Exit.noGoto_normal]
          go_end0
          exact ⟨rfl, HE.out ▸ HPP.out, (H6.out.grows hgz).trans HTT.out⟩
      | false =>
        rw [hb] at HL2
        clear hb
        have hv : (lo : Int) = (s'.low k : Int) := by have := HL2.out; rw [if_neg (by decide)] at this; omega
        have HVV := hide hv
        clear hv HL2
        go_wp2_with fail
        rw [HVV.out]
        clear HVV hlo2
        have HS0 : Hid (s'.sink k x = if s'.low k < s'.L.length ∧ ahead (gi2 s'.L (s'.low k)) x = true then (s'.lay k (gi2 s'.L (s'.low k))).sink (s'.low k) x else s'.lay k x) := by
          show _ = _
          rw [HS.sink]
          by_cases hh : s'.low k < s'.L.length ∧ ahead (gi2 s'.L (s'.low k)) x = true
          · rw [dif_pos hh, if_pos hh]
          · rw [dif_neg hh, if_neg hh]
        have hgt := HS.low_gt s' k
        have hlw : s'.low k ≤ 300001 := by
          have := HLOW.out
          rw [this]; split <;> omega
        have HLU := hide (fun (W : World) (hg : Grows wr W) (hlt : s'.low k < s'.L.length) => hpLay b s' k (gi2 s'.L (s'.low k)) S W (H1.out.grow hg) hk' (by rw [HT.out]; exact H2.out.2 _ hlt))
        clear HLOW
        have hgy : Grows wr y.now := (by repeat (first | exact Grows.refl _ | refine Grows.now ?_ _ | refine Grows.new ?_ _ | refine Grows.drewN ?_ _ | refine Grows.drew ?_ | assumption | (refine Grows.set ?_ (by first | omega | (simp; done) | (simp; omega)) _)))
        by_cases hc : s'.low k < s'.L.length
        · obtain ⟨g, rfl, m1, m2⟩ := R2.out.item (i := s'.low k) hc
          have HLE := hide (fun (W : World) => hpLess (gi2 s'.L (s'.low k)) x W)
          have hbb : (gi2 s'.L (s'.low k)).1 < N := H2.out.2 _ hc
          have HBB := hide hbb
          have HLU2 := hide (fun (W : World) (hg : Grows wr W) => HLU.out W hg hc)
          have hc1 : decide ((s'.L.length : Int) ≤ (s'.low k : Int)) = false := decide_eq_false (by omega)
          have hc2 : decide (s'.L.length ≤ s'.low k) = false := decide_eq_false (by omega)
          have hkk : k < s.L.length := by omega
          have hlk : s'.low k < s.L.length := by have := H3.out; omega
          have HLK := hide hlk
          have HLG := hide hgt
          have HIN : Hid ((s'.lay k (gi2 s'.L (s'.low k))).In N) := H2.out.lay _ _ hbb
          clear HLU hbb hgt hlk
          cases ha : ahead (gi2 s'.L (s'.low k)) x with
          | true =>
            have HS1 : Hid (s'.sink k x = (s'.lay k (gi2 s'.L (s'.low k))).sink (s'.low k) x) := by rw [HS0.out, if_pos ⟨hc, ha⟩]; exact rfl
            rw [ha] at HLE
            clear ha HS0
            generalize gi2 s'.L (s'.low k) = q at *
            generalize s'.low k = p at *
            unfold itVal at HLE HLU2
            obtain ⟨q1, q2⟩ := q
            dsimp only at *
            ((first | refine wp_region_gen2 (by kernel_rfl) (by kernel_rfl) ?_ | refine wp_region_gen (by kernel_rfl) (by kernel_rfl) ?_); (repeat' (first | (refine gLex_val0 rfl (by kernel_rfl) (fun K hK => ?_); (go_simp; (try (simp only [↓IntWalk.iteOmega]; try go_simp)); (try simp (disch := omega) only [IntWalk.i64_in]); (try simp (disch := omega) only [IntWalk.u64_in]); first | (refine hK _ ?_; clear hK K) | (apply Exists.intro; refine ⟨fun x => ?_, hK _ ?_⟩; (first | (exact HLE.out _)); clear hK K))) | (refine gLex_undef rfl rfl rfl (by kernel_rfl) (fun K hK => ?_); go_simp; refine hK _ ?_; clear hK K) | (refine gLex_ask rfl rfl rfl ?_; first | (apply gAsk_yes; kernel_rfl; intro K hK; (go_simp; (try (simp only [↓IntWalk.iteOmega]; try go_simp)); (try simp (disch := omega) only [IntWalk.i64_in]); (try simp (disch := omega) only [IntWalk.u64_in]); first | (refine hK _ ?_; clear hK K) | (apply Exists.intro; refine ⟨fun x => ?_, hK _ ?_⟩; (first | (exact HLE.out _)); clear hK K))) | ((first | apply gAsk_no1 | apply gAsk_no2); kernel_rfl; intro K hK; simp [go_sem]; refine hK _ ?_; clear hK K) | (apply gAsk_part; kernel_rfl; all_goals (intro h K hK; (try simp only [Bool.not_true] at h); (try simp only [Bool.not_false] at h); (try simp only [decide_eq_true_eq] at h); (try simp only [decide_eq_false_iff_not] at h); first | (exfalso; first | contradiction | omega) | (go_simp; (try (simp only [↓IntWalk.iteOmega]; try go_simp)); (try simp (disch := omega) only [IntWalk.i64_in]); (try simp (disch := omega) only [IntWalk.u64_in]); first | (refine hK _ ?_; clear hK K) | (apply Exists.intro; refine ⟨fun x => ?_, hK _ ?_⟩; (first | (exact HLE.out _)); clear hK K))))))); all_goals ((apply gLex_end); intro z))
            go_wp2_with (go_at_call 181; refine (HLU2.out _ (by repeat (first | exact Grows.refl _ | refine Grows.now ?_ _ | refine Grows.new ?_ _ | refine Grows.drewN ?_ _ | refine Grows.drew ?_ | assumption | (refine Grows.set ?_ (by first | omega | (simp; done) | (simp; omega)) _)))).mono ?_; rintro e w' ⟨rfl, hp, ht⟩; have HPP := hide hp; have HTT := hide ht; clear hp ht)
            have hgz : Grows wr z.now := (by repeat (first | exact Grows.refl _ | refine Grows.now ?_ _ | refine Grows.new ?_ _ | refine Grows.drewN ?_ _ | refine Grows.drew ?_ | assumption | (refine Grows.set ?_ (by first | omega | (simp; done) | (simp; omega)) _)))
            go_roundw
            case rel =>
              refine ⟨p, by go_num, s'.lay k (q1, q2), HPP.out, HIN.out, by rw [(HS.lay_len _ _ _).1]; exact H3.out, HLK.out, ?_, (H6.out.grows hgz).trans HTT.out, ?_⟩
              · rw [← H5.out, HS1.out]
              · exact (h7.grow hgz).touch HTT.out hbx
            case measure => have := HLG.out; have := HLK.out; simp [Go.RowKit.intOf]; omega
          | false =>
            have HE : Hid (s'.lay k x = s.sink i x) := by rw [← H5.out, HS0.out, if_neg (fun e => by rw [ha] at e; cases e.2)]; exact rfl
            rw [ha] at HLE
            clear ha HS0 HLU2
            generalize gi2 s'.L (s'.low k) = q at *
            generalize s'.low k = p at *
            unfold itVal at HLE
            obtain ⟨q1, q2⟩ := q
            dsimp only at *
            ((first | refine wp_region_gen2 (by kernel_rfl) (by kernel_rfl) ?_ | refine wp_region_gen (by kernel_rfl) (by kernel_rfl) ?_); (repeat' (first | (refine gLex_val0 rfl (by kernel_rfl) (fun K hK => ?_); (go_simp; (try (simp only [↓IntWalk.iteOmega]; try go_simp)); (try simp (disch := omega) only [IntWalk.i64_in]); (try simp (disch := omega) only [IntWalk.u64_in]); first | (refine hK _ ?_; clear hK K) | (apply Exists.intro; refine ⟨fun x => ?_, hK _ ?_⟩; (first | (exact HLE.out _)); clear hK K))) | (refine gLex_undef rfl rfl rfl (by kernel_rfl) (fun K hK => ?_); go_simp; refine hK _ ?_; clear hK K) | (refine gLex_ask rfl rfl rfl ?_; first | (apply gAsk_yes; kernel_rfl; intro K hK; (go_simp; (try (simp only [↓IntWalk.iteOmega]; try go_simp)); (try simp (disch := omega) only [IntWalk.i64_in]); (try simp (disch := omega) only [IntWalk.u64_in]); first | (refine hK _ ?_; clear hK K) | (apply Exists.intro; refine ⟨fun x => ?_, hK _ ?_⟩; (first | (exact HLE.out _)); clear hK K))) | ((first | apply gAsk_no1 | apply gAsk_no2); kernel_rfl; intro K hK; simp [go_sem]; refine hK _ ?_; clear hK K) | (apply gAsk_part; kernel_rfl; all_goals (intro h K hK; (try simp only [Bool.not_true] at h); (try simp only [Bool.not_false] at h); (try simp only [decide_eq_true_eq] at h); (try simp only [decide_eq_false_iff_not] at h); first | (exfalso; first | contradiction | omega) | (go_simp; (try (simp only [↓IntWalk.iteOmega]; try go_simp)); (try simp (disch := omega) only [IntWalk.i64_in]); (try simp (disch := omega) only [IntWalk.u64_in]); first | (refine hK _ ?_; clear hK K) | (apply Exists.intro; refine ⟨fun x => ?_, hK _ ?_⟩; (first | (exact HLE.out _)); clear hK K))))))); all_goals ((apply gLex_end); intro z))
            go_wp2_with (go_at_call 181; refine (HLX.out _ (by repeat (first | exact Grows.refl _ | refine Grows.now ?_ _ | refine Grows.new ?_ _ | refine Grows.drewN ?_ _ | refine Grows.drew ?_ | assumption | (refine Grows.set ?_ (by first | omega | (simp; done) | (simp; omega)) _)))).mono ?_; rintro e w' ⟨rfl, hp, ht⟩; have HPP := hide hp; have HTT := hide ht; clear hp ht)
            have hgz : Grows wr z.now := (by repeat (first | exact Grows.refl _ | refine Grows.now ?_ _ | refine Grows.new ?_ _ | refine Grows.drewN ?_ _ | refine Grows.drew ?_ | assumption | (refine Grows.set ?_ (by first | omega | (simp; done) | (simp; omega)) _)))
            rw [Exit.noGoto_normal]
            go_end0
            exact ⟨rfl, HE.out ▸ HPP.out, (H6.out.grows hgz).trans HTT.out⟩
        · have hc1 : decide ((s'.L.length : Int) ≤ (s'.low k : Int)) = true := decide_eq_true (by omega)
          have hc2 : decide (s'.L.length ≤ s'.low k) = true := decide_eq_true (by omega)
          have HE : Hid (s'.lay k x = s.sink i x) := by rw [← H5.out, HS0.out, if_neg (fun e => hc e.1)]; exact rfl
          clear HLU HS0 hgt
          generalize s'.low k = p at *
          ((first | refine wp_region_gen2 (by kernel_rfl) (by kernel_rfl) ?_ | refine wp_region_gen (by kernel_rfl) (by kernel_rfl) ?_); (repeat' (first | (refine gLex_val0 rfl (by kernel_rfl) (fun K hK => ?_); (go_simp; (try (simp only [↓IntWalk.iteOmega]; try go_simp)); (try simp (disch := omega) only [IntWalk.i64_in]); (try simp (disch := omega) only [IntWalk.u64_in]); first | (refine hK _ ?_; clear hK K) | (apply Exists.intro; refine ⟨fun x => ?_, hK _ ?_⟩; (first | fail); clear hK K))) | (refine gLex_undef rfl rfl rfl (by kernel_rfl) (fun K hK => ?_); go_simp; refine hK _ ?_; clear hK K) | (refine gLex_ask rfl rfl rfl ?_; first | (apply gAsk_yes; kernel_rfl; intro K hK; (go_simp; (try (simp only [↓IntWalk.iteOmega]; try go_simp)); (try simp (disch := omega) only [IntWalk.i64_in]); (try simp (disch := omega) only [IntWalk.u64_in]); first | (refine hK _ ?_; clear hK K) | (apply Exists.intro; refine ⟨fun x => ?_, hK _ ?_⟩; (first | fail); clear hK K))) | ((first | apply gAsk_no1 | apply gAsk_no2); kernel_rfl; intro K hK; simp [go_sem]; refine hK _ ?_; clear hK K) | (apply gAsk_part; kernel_rfl; all_goals (intro h K hK; (try simp only [Bool.not_true] at h); (try simp only [Bool.not_false] at h); (try simp only [decide_eq_true_eq] at h); (try simp only [decide_eq_false_iff_not] at h); first | (exfalso; first | contradiction | omega) | (go_simp; (try (simp only [↓IntWalk.iteOmega]; try go_simp)); (try simp (disch := omega) only [IntWalk.i64_in]); (try simp (disch := omega) only [IntWalk.u64_in]); first | (refine hK _ ?_; clear hK K) | (apply Exists.intro; refine ⟨fun x => ?_, hK _ ?_⟩; (first | fail); clear hK K))))))); all_goals ((apply gLex_end); intro z))
          go_wp2_with (go_at_call 181; refine (HLX.out _ (by repeat (first | exact Grows.refl _ | refine Grows.now ?_ _ | refine Grows.new ?_ _ | refine Grows.drewN ?_ _ | refine Grows.drew ?_ | assumption | (refine Grows.set ?_ (by first | omega | (simp; done) | (simp; omega)) _)))).mono ?_; rintro e w' ⟨rfl, hp, ht⟩; have HPP := hide hp; have HTT := hide ht; clear hp ht)
          have hgz : Grows wr z.now := (by repeat (first | exact Grows.refl _ | refine Grows.now ?_ _ | refine Grows.new ?_ _ | refine Grows.drewN ?_ _ | refine Grows.drew ?_ | assumption | (refine Grows.set ?_ (by first | omega | (simp; done) | (simp; omega)) _)))
          rw [Exit.noGoto_normal]
          go_end0
          exact ⟨rfl, HE.out ▸ HPP.out, (H6.out.grows hgz).trans HTT.out⟩
end Go.Proofs.Ytpnncadglhlclaa
