/- Contract: from a place down. -/
import Derived.Deep.DeepCutAuto
import Derived.Maps.AppendAt
import Derived.Test.YtkfobolbilhjbaaGreatQFlowRounds01
import Derived.Test.YtkfobolbilhjbaaGreatQFlowRounds02
import Derived.Test.YtkfobolbilhjbaaGreatQFlowRounds05
namespace Go.Proofs.YtkfobolbilhjbaaGreat
open Go Go.RowKit
theorem HS.sink_in {s : HS} {N : Nat} (h : s.In N) (i : Nat) (x : Itm) (hx : x.1 < N) : (s.sink i x).In N ∧ (s.sink i x).L.length = s.L.length := by
  induction hm : s.L.length - i using Nat.strongRecOn generalizing s i with
  | _ m ih =>
    subst hm
    rw [HS.sink]
    split
    · rename_i hc
      have h1 := HS.low_gt s i
      have h2 := (HS.lay_len s i (gi2 s.L (s.low i))).1
      have := ih _ (by rw [h2]; omega) (h.lay i _ (h.2 _ hc.1)) (s.low i) rfl
      rw [h2] at this
      exact this
    · exact ⟨h.lay i x hx, (HS.lay_len s i x).1⟩
def lowB (s : HS) (lo : Nat) : Bool := decide (lo + 1 < s.L.length ∧ ahead (gi2 s.L (lo + 1)) (gi2 s.L lo) = true)
def SinkAt (w : World) (S : Nat → Prop) (b N bx : Nat) (s : HS) (i : Nat) (x : Itm) (k : Nat) (wr : World) : Prop :=
  ∃ s' : HS, HpAt wr S b s' ∧ s'.In N ∧ s'.L.length = s.L.length ∧ k < s.L.length ∧ s'.sink k x = s.sink i x ∧ Touch S w wr ∧ Arr wr bx 164 [.int .i64 (x.1 : Int), .int .u64 (x.2 : Int)]
set_option maxRecDepth 20000 in
set_option maxHeartbeats 4000000 in
theorem hpSink (b N : Nat) (s : HS) (i : Nat) (x : Itm) (S : Nat → Prop) (w : World) (h : HpAt w S b s) (hs : ∀ k, S k → k < w.heap.size) (hin : s.In N) (hi : i < s.L.length) (hx : x.1 < N) (hl : s.L.length ≤ 100000) :
    Calls Tryz.prog 107 #[.pointer (some ⟨b, 0, none⟩), .int .i64 (i : Int), itVal x] w fun e w' => e = .returned (.tuple #[]) ∧ HpAt w' S b (s.sink i x) ∧ Touch S w w' := by
  have hbx : ¬ S w.heap.size := fun e => by have := hs _ e; omega
  have H0 : Hid (SinkAt w S b N w.heap.size s i x i (w.alloc (.cells #[.int .i64 (x.1 : Int), .int .u64 (x.2 : Int)] 164))) :=
    ⟨s, h.grow ((Grows.refl w).new _), hin, rfl, hi, rfl, ((Grows.refl w).new _).touch S, Arr.make _ _ _⟩
  clear h hs hin
  unfold itVal
  go_enter Tryz.func107, Tryz.ntmps107
  go_wp2_with fail
  go_step3
  go_wp2_with fail
  go_step3
  go_wp2_with fail
  go_loopw [1] (fun v wr => ∃ k : Nat, v = .int .i64 (k : Int) ∧ SinkAt w S b N w.heap.size s i x k wr) (fun v _ => s.L.length - (Go.RowKit.intOf v).toNat)
  case atStart => exact ⟨i, rfl, H0.out⟩
  case round =>
    obtain ⟨k, rfl, s', h1, h2, h3, h4, h5, h6, h7⟩ := hrel
    clear H0
    have hk' : k < s'.L.length := by omega
    have HLX := hide (fun (W : World) (hg : Grows wr W) => hpLay b s' k x S W (h1.grow hg) hk' (by rw [h2.1]; exact hx))
    obtain ⟨lo, hlo⟩ : ∃ lo, 2 * k + 1 = lo := ⟨_, rfl⟩
    have hlo2 : 2 * (k : Int) + 1 = (lo : Int) := by omega
    obtain ⟨A, c, G, r1, r2, r3, r4, r5, r6⟩ := h1
    have HLOW : Hid (s'.low k = if lo + 1 < s'.L.length ∧ ahead (gi2 s'.L (lo + 1)) (gi2 s'.L lo) = true then lo + 1 else lo) := by
      unfold HS.low; rw [hlo]; exact rfl
    have HT := hide h2.1
    have hll : s'.L.length ≤ 100000 := by omega
    have hloB : lo ≤ 300000 := by omega
    have HLO := hide hlo
    have H1 := hide (show HpAt wr S b s' from ⟨A, c, G, r1, r2, r3, r4, r5, r6⟩)
    have H2 := hide h2
    have H3 := hide h3
    have H5 := hide h5
    have H6 := hide h6
    have R2 := hide r2
    clear h2 h3 h5 h6 r2 r3 r6 hlo
    go_upto_region 4 with fail
    go_cut [35] (fun v wx => v = .bool (lowB s' lo) ∧ ∃ y : Later wr, wx = y.now)
    case first =>
      by_cases hc : lo + 1 < s'.L.length
      · obtain ⟨g, rfl, m1, m2⟩ := R2.out.item (i := lo) (by omega)
        obtain ⟨g', e, m3, m4⟩ := R2.out.item (i := lo + 1) hc
        injection e with e
        injection e with e
        subst e
        have hc1 : decide ((lo : Int) + 1 < (s'.L.length : Int)) = true := decide_eq_true (by omega)
        have HLE := hide (fun (W : World) => hpLess (gi2 s'.L (lo + 1)) (gi2 s'.L lo) W)
        cases ha : ahead (gi2 s'.L (lo + 1)) (gi2 s'.L lo) with
        | true =>
          rw [ha] at HLE
          have HV : Hid (lowB s' lo = true) := decide_eq_true ⟨hc, ha⟩
          clear ha HLOW
          generalize gi2 s'.L (lo + 1) = y at *
          generalize gi2 s'.L lo = y' at *
          unfold itVal at HLE
          ((first | refine wp_region_gen2 (by kernel_rfl) (by kernel_rfl) ?_ | refine wp_region_gen (by kernel_rfl) (by kernel_rfl) ?_); (repeat' ((first | refine gLex_val0 rfl (by kernel_rfl) (fun K hK => ?_) | refine gLex_undef rfl rfl rfl (by kernel_rfl) (fun K hK => ?_) | (refine gLex_ask rfl rfl rfl ?_; first | (apply gAsk_yes; kernel_rfl; intro K hK) | ((first | apply gAsk_no1 | apply gAsk_no2); kernel_rfl; intro K hK) | (apply gAsk_part; kernel_rfl; all_goals (intro h K hK; (try simp only [Bool.not_true] at h); (try simp only [Bool.not_false] at h); (try simp only [decide_eq_true_eq] at h); (try simp only [decide_eq_false_iff_not] at h); try (exfalso; first | contradiction | omega))))) <;> (go_simp; (try (simp only [↓IntWalk.iteOmega]; try go_simp)); (try simp (disch := omega) only [IntWalk.i64_in]); (try simp (disch := omega) only [IntWalk.u64_in]); first | (refine hK _ ?_; clear hK K) | (apply Exists.intro; refine ⟨fun x => ?_, hK _ ?_⟩; (first | (exact HLE.out _)); clear hK K)))); all_goals ((apply gLex_end); intro z))
          go_wp2_with fail
          go_meet
          case rel => exact ⟨by rw [HV.out], z, rfl⟩
        | false =>
          rw [ha] at HLE
          have HV : Hid (lowB s' lo = false) := decide_eq_false (fun e => by rw [ha] at e; cases e.2)
          clear ha HLOW
          generalize gi2 s'.L (lo + 1) = y at *
          generalize gi2 s'.L lo = y' at *
          unfold itVal at HLE
          ((first | refine wp_region_gen2 (by kernel_rfl) (by kernel_rfl) ?_ | refine wp_region_gen (by kernel_rfl) (by kernel_rfl) ?_); (repeat' ((first | refine gLex_val0 rfl (by kernel_rfl) (fun K hK => ?_) | refine gLex_undef rfl rfl rfl (by kernel_rfl) (fun K hK => ?_) | (refine gLex_ask rfl rfl rfl ?_; first | (apply gAsk_yes; kernel_rfl; intro K hK) | ((first | apply gAsk_no1 | apply gAsk_no2); kernel_rfl; intro K hK) | (apply gAsk_part; kernel_rfl; all_goals (intro h K hK; (try simp only [Bool.not_true] at h); (try simp only [Bool.not_false] at h); (try simp only [decide_eq_true_eq] at h); (try simp only [decide_eq_false_iff_not] at h); try (exfalso; first | contradiction | omega))))) <;> (go_simp; (try (simp only [↓IntWalk.iteOmega]; try go_simp)); (try simp (disch := omega) only [IntWalk.i64_in]); (try simp (disch := omega) only [IntWalk.u64_in]); first | (refine hK _ ?_; clear hK K) | (apply Exists.intro; refine ⟨fun x => ?_, hK _ ?_⟩; (first | (exact HLE.out _)); clear hK K)))); all_goals ((apply gLex_end); intro z))
          go_wp2_with fail
          go_meet
          case rel => exact ⟨by rw [HV.out], z, rfl⟩
      · have hc1 : decide ((lo : Int) + 1 < (s'.L.length : Int)) = false := decide_eq_false (by omega)
        have HV : Hid (lowB s' lo = false) := decide_eq_false (fun e => hc e.1)
        clear HLOW
        ((first | refine wp_region_gen2 (by kernel_rfl) (by kernel_rfl) ?_ | refine wp_region_gen (by kernel_rfl) (by kernel_rfl) ?_); (repeat' ((first | refine gLex_val0 rfl (by kernel_rfl) (fun K hK => ?_) | refine gLex_undef rfl rfl rfl (by kernel_rfl) (fun K hK => ?_) | (refine gLex_ask rfl rfl rfl ?_; first | (apply gAsk_yes; kernel_rfl; intro K hK) | ((first | apply gAsk_no1 | apply gAsk_no2); kernel_rfl; intro K hK) | (apply gAsk_part; kernel_rfl; all_goals (intro h K hK; (try simp only [Bool.not_true] at h); (try simp only [Bool.not_false] at h); (try simp only [decide_eq_true_eq] at h); (try simp only [decide_eq_false_iff_not] at h); try (exfalso; first | contradiction | omega))))) <;> (go_simp; (try (simp only [↓IntWalk.iteOmega]; try go_simp)); (try simp (disch := omega) only [IntWalk.i64_in]); (try simp (disch := omega) only [IntWalk.u64_in]); refine hK _ ?_; clear hK K))); all_goals ((apply gLex_end); intro z))
        go_wp2_with fail
        go_meet
        case rel => exact ⟨by rw [HV.out], z, rfl⟩
    case rest =>
      obtain ⟨rfl, y, rfl⟩ := hcut
      have HL2 : Hid (s'.low k = if lowB s' lo = true then lo + 1 else lo) := by
        show _ = _
        rw [HLOW.out]
        unfold lowB
        simp only [decide_eq_true_eq]
      cases hb : lowB s' lo with
      | true =>
        rw [hb] at HL2
        clear hb
        have hv : (lo : Int) + 1 = (s'.low k : Int) := by have := HL2.out; rw [if_pos rfl] at this; omega
        have HVV := hide hv
        clear hv HL2
        go_wp2_with fail
        rw [HVV.out]
        clear HVV hlo2
        have HS0 : Hid (s'.sink k x = if s'.low k < s'.L.length ∧ ahead (gi2 s'.L (s'.low k)) x = true then (s'.lay k (gi2 s'.L (s'.low k))).sink (s'.low k) x else s'.lay k x) := by
          show _ = _
          rw [HS.sink]
          by_cases hh : s'.low k < s'.L.length ∧ ahead (gi2 s'.L (s'.low k)) x = true
          · rw [dif_pos hh, if_pos hh]
          · rw [dif_neg hh, if_neg hh]
        have hgt := HS.low_gt s' k
        have hlw : s'.low k ≤ 300001 := by
          have := HLOW.out
          rw [this]; split <;> omega
        have HLU := hide (fun (W : World) (hg : Grows wr W) (hlt : s'.low k < s'.L.length) => hpLay b s' k (gi2 s'.L (s'.low k)) S W (H1.out.grow hg) hk' (by rw [HT.out]; exact H2.out.2 _ hlt))
        clear HLOW
        have hgy : Grows wr y.now := GG
        by_cases hc : s'.low k < s'.L.length
        · obtain ⟨g, rfl, m1, m2⟩ := R2.out.item (i := s'.low k) hc
          have HLE := hide (fun (W : World) => hpLess (gi2 s'.L (s'.low k)) x W)
          have hbb : (gi2 s'.L (s'.low k)).1 < N := H2.out.2 _ hc
          have HBB := hide hbb
          have HLU2 := hide (fun (W : World) (hg : Grows wr W) => HLU.out W hg hc)
          have hc1 : decide ((s'.L.length : Int) ≤ (s'.low k : Int)) = false := decide_eq_false (by omega)
          have hc2 : decide (s'.L.length ≤ s'.low k) = false := decide_eq_false (by omega)
          have hkk : k < s.L.length := by omega
          have hlk : s'.low k < s.L.length := by have := H3.out; omega
          have HLK := hide hlk
          have HLG := hide hgt
          have HIN : Hid ((s'.lay k (gi2 s'.L (s'.low k))).In N) := H2.out.lay _ _ hbb
          clear HLU hbb hgt hlk
          cases ha : ahead (gi2 s'.L (s'.low k)) x with
          | true =>
            have HS1 : Hid (s'.sink k x = (s'.lay k (gi2 s'.L (s'.low k))).sink (s'.low k) x) := by rw [HS0.out, if_pos ⟨hc, ha⟩]; exact rfl
            rw [ha] at HLE
            clear ha HS0
            generalize gi2 s'.L (s'.low k) = q at *
            generalize s'.low k = p at *
            unfold itVal at HLE HLU2
            obtain ⟨q1, q2⟩ := q
            dsimp only at *
            ((first | refine wp_region_gen2 (by kernel_rfl) (by kernel_rfl) ?_ | refine wp_region_gen (by kernel_rfl) (by kernel_rfl) ?_); (repeat' ((first | refine gLex_val0 rfl (by kernel_rfl) (fun K hK => ?_) | refine gLex_undef rfl rfl rfl (by kernel_rfl) (fun K hK => ?_) | (refine gLex_ask rfl rfl rfl ?_; first | (apply gAsk_yes; kernel_rfl; intro K hK) | ((first | apply gAsk_no1 | apply gAsk_no2); kernel_rfl; intro K hK) | (apply gAsk_part; kernel_rfl; all_goals (intro h K hK; (try simp only [Bool.not_true] at h); (try simp only [Bool.not_false] at h); (try simp only [decide_eq_true_eq] at h); (try simp only [decide_eq_false_iff_not] at h); try (exfalso; first | contradiction | omega))))) <;> (go_simp; (try (simp only [↓IntWalk.iteOmega]; try go_simp)); (try simp (disch := omega) only [IntWalk.i64_in]); (try simp (disch := omega) only [IntWalk.u64_in]); first | (refine hK _ ?_; clear hK K) | (apply Exists.intro; refine ⟨fun x => ?_, hK _ ?_⟩; (first | (exact HLE.out _)); clear hK K)))); all_goals ((apply gLex_end); intro z))
            go_wp2_with (go_at_call 104; refine (HLU2.out _ GG).mono ?_; rintro e w' ⟨rfl, hp, ht⟩; have HPP := hide hp; have HTT := hide ht; clear hp ht)
            have hgz : Grows wr z.now := GG
            go_roundw
            case rel =>
              refine ⟨p, by go_num, s'.lay k (q1, q2), HPP.out, HIN.out, by rw [(HS.lay_len _ _ _).1]; exact H3.out, HLK.out, ?_, (H6.out.grows hgz).trans HTT.out, ?_⟩
              · rw [← H5.out, HS1.out]
              · exact (h7.grow hgz).touch HTT.out hbx
            case measure => have := HLG.out; have := HLK.out; simp [Go.RowKit.intOf]; omega
          | false =>
            have HE : Hid (s'.lay k x = s.sink i x) := by rw [← H5.out, HS0.out, if_neg (fun e => by rw [ha] at e; cases e.2)]; exact rfl
            rw [ha] at HLE
            clear ha HS0 HLU2
            generalize gi2 s'.L (s'.low k) = q at *
            generalize s'.low k = p at *
            unfold itVal at HLE
            obtain ⟨q1, q2⟩ := q
            dsimp only at *
            ((first | refine wp_region_gen2 (by kernel_rfl) (by kernel_rfl) ?_ | refine wp_region_gen (by kernel_rfl) (by kernel_rfl) ?_); (repeat' ((first | refine gLex_val0 rfl (by kernel_rfl) (fun K hK => ?_) | refine gLex_undef rfl rfl rfl (by kernel_rfl) (fun K hK => ?_) | (refine gLex_ask rfl rfl rfl ?_; first | (apply gAsk_yes; kernel_rfl; intro K hK) | ((first | apply gAsk_no1 | apply gAsk_no2); kernel_rfl; intro K hK) | (apply gAsk_part; kernel_rfl; all_goals (intro h K hK; (try simp only [Bool.not_true] at h); (try simp only [Bool.not_false] at h); (try simp only [decide_eq_true_eq] at h); (try simp only [decide_eq_false_iff_not] at h); try (exfalso; first | contradiction | omega))))) <;> (go_simp; (try (simp only [↓IntWalk.iteOmega]; try go_simp)); (try simp (disch := omega) only [IntWalk.i64_in]); (try simp (disch := omega) only [IntWalk.u64_in]); first | (refine hK _ ?_; clear hK K) | (apply Exists.intro; refine ⟨fun x => ?_, hK _ ?_⟩; (first | (exact HLE.out _)); clear hK K)))); all_goals ((apply gLex_end); intro z))
            go_wp2_with (go_at_call 104; refine (HLX.out _ GG).mono ?_; rintro e w' ⟨rfl, hp, ht⟩; have HPP := hide hp; have HTT := hide ht; clear hp ht)
            have hgz : Grows wr z.now := GG
            rw [Exit.noGoto_normal]
            go_end0
            exact ⟨rfl, HE.out ▸ HPP.out, (H6.out.grows hgz).trans HTT.out⟩
        · have hc1 : decide ((s'.L.length : Int) ≤ (s'.low k : Int)) = true := decide_eq_true (by omega)
          have hc2 : decide (s'.L.length ≤ s'.low k) = true := decide_eq_true (by omega)
          have HE : Hid (s'.lay k x = s.sink i x) := by rw [← H5.out, HS0.out, if_neg (fun e => hc e.1)]; exact rfl
          clear HLU HS0 hgt
          generalize s'.low k = p at *
          ((first | refine wp_region_gen2 (by kernel_rfl) (by kernel_rfl) ?_ | refine wp_region_gen (by kernel_rfl) (by kernel_rfl) ?_); (repeat' ((first | refine gLex_val0 rfl (by kernel_rfl) (fun K hK => ?_) | refine gLex_undef rfl rfl rfl (by kernel_rfl) (fun K hK => ?_) | (refine gLex_ask rfl rfl rfl ?_; first | (apply gAsk_yes; kernel_rfl; intro K hK) | ((first | apply gAsk_no1 | apply gAsk_no2); kernel_rfl; intro K hK) | (apply gAsk_part; kernel_rfl; all_goals (intro h K hK; (try simp only [Bool.not_true] at h); (try simp only [Bool.not_false] at h); (try simp only [decide_eq_true_eq] at h); (try simp only [decide_eq_false_iff_not] at h); try (exfalso; first | contradiction | omega))))) <;> (go_simp; (try (simp only [↓IntWalk.iteOmega]; try go_simp)); (try simp (disch := omega) only [IntWalk.i64_in]); (try simp (disch := omega) only [IntWalk.u64_in]); refine hK _ ?_; clear hK K))); all_goals ((apply gLex_end); intro z))
          go_wp2_with (go_at_call 104; refine (HLX.out _ GG).mono ?_; rintro e w' ⟨rfl, hp, ht⟩; have HPP := hide hp; have HTT := hide ht; clear hp ht)
          have hgz : Grows wr z.now := GG
          rw [Exit.noGoto_normal]
          go_end0
          exact ⟨rfl, HE.out ▸ HPP.out, (H6.out.grows hgz).trans HTT.out⟩
      | false =>
        rw [hb] at HL2
        clear hb
        have hv : (lo : Int) = (s'.low k : Int) := by have := HL2.out; rw [if_neg (by decide)] at this; omega
        have HVV := hide hv
        clear hv HL2
        go_wp2_with fail
        rw [HVV.out]
        clear HVV hlo2
        have HS0 : Hid (s'.sink k x = if s'.low k < s'.L.length ∧ ahead (gi2 s'.L (s'.low k)) x = true then (s'.lay k (gi2 s'.L (s'.low k))).sink (s'.low k) x else s'.lay k x) := by
          show _ = _
          rw [HS.sink]
          by_cases hh : s'.low k < s'.L.length ∧ ahead (gi2 s'.L (s'.low k)) x = true
          · rw [dif_pos hh, if_pos hh]
          · rw [dif_neg hh, if_neg hh]
        have hgt := HS.low_gt s' k
        have hlw : s'.low k ≤ 300001 := by
          have := HLOW.out
          rw [this]; split <;> omega
        have HLU := hide (fun (W : World) (hg : Grows wr W) (hlt : s'.low k < s'.L.length) => hpLay b s' k (gi2 s'.L (s'.low k)) S W (H1.out.grow hg) hk' (by rw [HT.out]; exact H2.out.2 _ hlt))
        clear HLOW
        have hgy : Grows wr y.now := GG
        by_cases hc : s'.low k < s'.L.length
        · obtain ⟨g, rfl, m1, m2⟩ := R2.out.item (i := s'.low k) hc
          have HLE := hide (fun (W : World) => hpLess (gi2 s'.L (s'.low k)) x W)
          have hbb : (gi2 s'.L (s'.low k)).1 < N := H2.out.2 _ hc
          have HBB := hide hbb
          have HLU2 := hide (fun (W : World) (hg : Grows wr W) => HLU.out W hg hc)
          have hc1 : decide ((s'.L.length : Int) ≤ (s'.low k : Int)) = false := decide_eq_false (by omega)
          have hc2 : decide (s'.L.length ≤ s'.low k) = false := decide_eq_false (by omega)
          have hkk : k < s.L.length := by omega
          have hlk : s'.low k < s.L.length := by have := H3.out; omega
          have HLK := hide hlk
          have HLG := hide hgt
          have HIN : Hid ((s'.lay k (gi2 s'.L (s'.low k))).In N) := H2.out.lay _ _ hbb
          clear HLU hbb hgt hlk
          cases ha : ahead (gi2 s'.L (s'.low k)) x with
          | true =>
            have HS1 : Hid (s'.sink k x = (s'.lay k (gi2 s'.L (s'.low k))).sink (s'.low k) x) := by rw [HS0.out, if_pos ⟨hc, ha⟩]; exact rfl
            rw [ha] at HLE
            clear ha HS0
            generalize gi2 s'.L (s'.low k) = q at *
            generalize s'.low k = p at *
            unfold itVal at HLE HLU2
            obtain ⟨q1, q2⟩ := q
            dsimp only at *
            ((first | refine wp_region_gen2 (by kernel_rfl) (by kernel_rfl) ?_ | refine wp_region_gen (by kernel_rfl) (by kernel_rfl) ?_); (repeat' ((first | refine gLex_val0 rfl (by kernel_rfl) (fun K hK => ?_) | refine gLex_undef rfl rfl rfl (by kernel_rfl) (fun K hK => ?_) | (refine gLex_ask rfl rfl rfl ?_; first | (apply gAsk_yes; kernel_rfl; intro K hK) | ((first | apply gAsk_no1 | apply gAsk_no2); kernel_rfl; intro K hK) | (apply gAsk_part; kernel_rfl; all_goals (intro h K hK; (try simp only [Bool.not_true] at h); (try simp only [Bool.not_false] at h); (try simp only [decide_eq_true_eq] at h); (try simp only [decide_eq_false_iff_not] at h); try (exfalso; first | contradiction | omega))))) <;> (go_simp; (try (simp only [↓IntWalk.iteOmega]; try go_simp)); (try simp (disch := omega) only [IntWalk.i64_in]); (try simp (disch := omega) only [IntWalk.u64_in]); first | (refine hK _ ?_; clear hK K) | (apply Exists.intro; refine ⟨fun x => ?_, hK _ ?_⟩; (first | (exact HLE.out _)); clear hK K)))); all_goals ((apply gLex_end); intro z))
            go_wp2_with (go_at_call 104; refine (HLU2.out _ GG).mono ?_; rintro e w' ⟨rfl, hp, ht⟩; have HPP := hide hp; have HTT := hide ht; clear hp ht)
            have hgz : Grows wr z.now := GG
            go_roundw
            case rel =>
              refine ⟨p, by go_num, s'.lay k (q1, q2), HPP.out, HIN.out, by rw [(HS.lay_len _ _ _).1]; exact H3.out, HLK.out, ?_, (H6.out.grows hgz).trans HTT.out, ?_⟩
              · rw [← H5.out, HS1.out]
              · exact (h7.grow hgz).touch HTT.out hbx
            case measure => have := HLG.out; have := HLK.out; simp [Go.RowKit.intOf]; omega
          | false =>
            have HE : Hid (s'.lay k x = s.sink i x) := by rw [← H5.out, HS0.out, if_neg (fun e => by rw [ha] at e; cases e.2)]; exact rfl
            rw [ha] at HLE
            clear ha HS0 HLU2
            generalize gi2 s'.L (s'.low k) = q at *
            generalize s'.low k = p at *
            unfold itVal at HLE
            obtain ⟨q1, q2⟩ := q
            dsimp only at *
            ((first | refine wp_region_gen2 (by kernel_rfl) (by kernel_rfl) ?_ | refine wp_region_gen (by kernel_rfl) (by kernel_rfl) ?_); (repeat' ((first | refine gLex_val0 rfl (by kernel_rfl) (fun K hK => ?_) | refine gLex_undef rfl rfl rfl (by kernel_rfl) (fun K hK => ?_) | (refine gLex_ask rfl rfl rfl ?_; first | (apply gAsk_yes; kernel_rfl; intro K hK) | ((first | apply gAsk_no1 | apply gAsk_no2); kernel_rfl; intro K hK) | (apply gAsk_part; kernel_rfl; all_goals (intro h K hK; (try simp only [Bool.not_true] at h); (try simp only [Bool.not_false] at h); (try simp only [decide_eq_true_eq] at h); (try simp only [decide_eq_false_iff_not] at h); try (exfalso; first | contradiction | omega))))) <;> (go_simp; (try (simp only [↓IntWalk.iteOmega]; try go_simp)); (try simp (disch := omega) only [IntWalk.i64_in]); (try simp (disch := omega) only [IntWalk.u64_in]); first | (refine hK _ ?_; clear hK K) | (apply Exists.intro; refine ⟨fun x => ?_, hK _ ?_⟩; (first | (exact HLE.out _)); clear hK K)))); all_goals ((apply gLex_end); intro z))
            go_wp2_with (go_at_call 104; refine (HLX.out _ GG).mono ?_; rintro e w' ⟨rfl, hp, ht⟩; have HPP := hide hp; have HTT := hide ht; clear hp ht)
            have hgz : Grows wr z.now := GG
            rw [Exit.noGoto_normal]
            go_end0
            exact ⟨rfl, HE.out ▸ HPP.out, (H6.out.grows hgz).trans HTT.out⟩
        · have hc1 : decide ((s'.L.length : Int) ≤ (s'.low k : Int)) = true := decide_eq_true (by omega)
          have hc2 : decide (s'.L.length ≤ s'.low k) = true := decide_eq_true (by omega)
          have HE : Hid (s'.lay k x = s.sink i x) := by rw [← H5.out, HS0.out, if_neg (fun e => hc e.1)]; exact rfl
          clear HLU HS0 hgt
          generalize s'.low k = p at *
          ((first | refine wp_region_gen2 (by kernel_rfl) (by kernel_rfl) ?_ | refine wp_region_gen (by kernel_rfl) (by kernel_rfl) ?_); (repeat' ((first | refine gLex_val0 rfl (by kernel_rfl) (fun K hK => ?_) | refine gLex_undef rfl rfl rfl (by kernel_rfl) (fun K hK => ?_) | (refine gLex_ask rfl rfl rfl ?_; first | (apply gAsk_yes; kernel_rfl; intro K hK) | ((first | apply gAsk_no1 | apply gAsk_no2); kernel_rfl; intro K hK) | (apply gAsk_part; kernel_rfl; all_goals (intro h K hK; (try simp only [Bool.not_true] at h); (try simp only [Bool.not_false] at h); (try simp only [decide_eq_true_eq] at h); (try simp only [decide_eq_false_iff_not] at h); try (exfalso; first | contradiction | omega))))) <;> (go_simp; (try (simp only [↓IntWalk.iteOmega]; try go_simp)); (try simp (disch := omega) only [IntWalk.i64_in]); (try simp (disch := omega) only [IntWalk.u64_in]); refine hK _ ?_; clear hK K))); all_goals ((apply gLex_end); intro z))
          go_wp2_with (go_at_call 104; refine (HLX.out _ GG).mono ?_; rintro e w' ⟨rfl, hp, ht⟩; have HPP := hide hp; have HTT := hide ht; clear hp ht)
          have hgz : Grows wr z.now := GG
          rw [Exit.noGoto_normal]
          go_end0
          exact ⟨rfl, HE.out ▸ HPP.out, (H6.out.grows hgz).trans HTT.out⟩
end Go.Proofs.YtkfobolbilhjbaaGreat

namespace Go.Proofs.YtkfobolbilhjbaaGreat
open Go Go.RowKit
def Two (v u : Value) : Pr := fun x w => ∃ g, x = .slice (some ⟨g, 0, none⟩) 1 1 ∧ Holds w ⟨g, 0, none⟩ v ∧ Holds w ⟨g, 1, none⟩ u
theorem Two.lasts (v u : Value) : Lasts (Two v u) := fun _ _ _ hg ⟨g, e, h, h2⟩ => ⟨g, e, ⟨hg.keeps h.cell⟩, ⟨hg.keeps h2.cell⟩⟩
end Go.Proofs.YtkfobolbilhjbaaGreat

namespace Go.Proofs.YtkfobolbilhjbaaGreat
open Go Go.RowKit
theorem elemItem : Elem 151 164 2 := by
  have h : (Tryz.prog.info? 164).map (fun i => (i.zero, i.size, i.bytes)) = some (some (.agg #[.int .i64 0, .int .u64 0]), 2, 16) := by kernel_rfl
  obtain ⟨i, hi, hz, hs, hb⟩ := info_parts h
  exact ⟨Tryz.underlying151, ⟨i, _, 16, hi, hz, hs, hb, rfl, by omega⟩, by omega⟩
section
variable {w : World} {e : TypeId} {ops : Array Oper} {o : Oper} {a : Act} {K : Act → World → Prop} {Q : Exit → Act → World → Prop} {F : Prop}
theorem step_appT {t : TypeId} {size : Nat} (E : Elem t e size) (hgd : o.guard = none) (s x : Operand) (ho : o.op = .call { callee := .builtin .append, args := #[s, x], argTypes := #[t, t] })
    (S : Nat → Prop) (n c : Nat) (A : Option Addr) (xs : List Value) (hs : a.eval s = .slice A n c) (hown : Own w 0 e size A n c xs) (hS : ∀ p, A = some p → S p.block) (g c' : Nat) (news : List Value) (hx : a.eval x = .slice (some ⟨g, 0, none⟩) 1 c')
    (hl : news.length = size) (hv : ∀ j u, news[j]? = some u → w.cell? ⟨g, j, none⟩ = some u) (h1 : ∀ u ∈ news, u.oneCell' = true) (hnm : n + 1 ≤ 1000000000000)
    (h : ∀ A' c'' w', Own w' 0 e size A' (n + 1) c'' (xs ++ news) → Touch (fun k => ∃ p, A = some p ∧ p.block = k) w w' → (∀ p, A' = some p → S p.block ∨ New w w' p.block) → K (a.put o.dst (.slice A' (n + 1) c'')) w') :
    if Region.wanted o (yielded ops a.tmps) = true then Oper.wp Tryz.prog o a w K Q else F := by
  obtain ⟨i, z, bytes, hi, hz, hsz, hby, hzs, hb64⟩ := E.info
  rw [if_pos (by simp [Region.wanted, hgd])]
  obtain ⟨v', w', hr, hown', hgr, _, hat⟩ := run_append_own_at (P := Tryz.prog) w 0 t o.type e i z size bytes E.under hi hz hsz hby hzs E.pos (.slice A n c) n xs hown ⟨g, 0, none⟩ 1 c' news (by omega) (fun j u hu => by rw [add_pl2, Nat.zero_add]; exact hv j u hu) h1 (by unfold maxLen; omega) (Nat.le_trans (Nat.mul_le_mul hnm hb64) (by omega)) (Nat.zero_le _)
  unfold Oper.wp execOp
  simp only [ho, resolve, invoke, builtin, Sem.run_bind, Sem.run_pure, Result.andThen_ok, List.map_toArray, List.map_cons, List.map_nil, hs, hx, hr]
  obtain ⟨A', c'', rfl⟩ := own_form hown'
  have hob : ∀ k, (Value.slice A n c).ownBlock = some k → S k := fun k hk => by
    cases A with
    | none => simp [Value.ownBlock] at hk
    | some p => simp [Value.ownBlock] at hk; subst hk; exact hS p rfl
  refine h A' c'' w' hown' ((Touch.refl _ w).grown hgr fun k hk => .inl (by
    cases A with
    | none => simp [Value.ownBlock] at hk
    | some p => simp [Value.ownBlock] at hk; exact ⟨p, rfl, hk⟩)) fun p hp => ?_
  subst hp
  simp only [Value.ownBlock] at hat
  rcases hat with hat | hat
  · exact .inl (hob _ hat.symm)
  · injection hat with hat
    exact .inr ⟨by omega, (World.ownsRow.lt hown' p.block rfl).2⟩
end
theorem Own.not_arr {w : World} {B n c size g : Nat} {e t : TypeId} {A : Option Addr} {xs cs : List Value} (h : Own w B e size A n c xs) (k : Arr w g t cs) (hne : e ≠ t) : ∀ p, A = some p → p.block ≠ g := by
  rintro p rfl
  rcases h.2 with ⟨h1, _⟩ | ⟨g', cap, cur, h1, _, h3, _⟩
  · cases h1
  · injection h1 with h1 _ _
    injection h1 with h1
    subst h1
    rintro rfl
    have := h3.symm.trans k.is
    injection this with this
    injection this with _ this
    exact hne this
theorem Own.not_row {w : World} {B n c size g n' c' size' : Nat} {e t : TypeId} {A : Option Addr} {xs cs : List Value} (h : Own w B e size A n c xs) (k : Row1 w g t size' n' c' cs) (hne : e ≠ t) : ∀ p, A = some p → p.block ≠ g := by
  rintro p rfl
  rcases h.2 with ⟨h1, _⟩ | ⟨g', cap, cur, h1, _, h3, _⟩
  · cases h1
  · injection h1 with h1 _ _
    injection h1 with h1
    subst h1
    rintro rfl
    obtain ⟨cur', h2, _⟩ := k.is
    have := h3.symm.trans h2
    injection this with this
    injection this with _ this
    exact hne this
def PutAt (w : World) (v key : Nat) (z : Int) (s7 s8 : Value) (wx : World) : Prop :=
  s8 = .int .i64 z ∧ ∃ y : Later w, wx = y.now ∧ s7 = .pointer (some ⟨w.heap.size, 0, none⟩) ∧ Arr y.now w.heap.size 164 [.int .i64 (v : Int), .int .u64 (key : Int)]
theorem put_rel {w wx : World} {v key : Nat} {z : Int} {s7 s8 : Value} (h8 : s8 = .int .i64 z) (hg : Grows w wx) (h7 : s7 = .pointer (some ⟨w.heap.size, 0, none⟩)) (ha : wx.heap[w.heap.size]? = some (.cells [Value.int .i64 (v : Int), .int .u64 (key : Int)].toArray 164 (0, 0))) : PutAt w v key z s7 s8 wx :=
  ⟨h8, ⟨wx, hg⟩, rfl, h7, ⟨ha⟩⟩
def GivePut (w : World) (S : Nat → Prop) (b : Nat) (s' : HS) (r : Bool) (e : Ending) (w' : World) : Prop :=
  e = .returned (.bool r) ∧ HpAt w' (fun k => S k ∨ New w w' k) b s' ∧ Touch S w w'
theorem Own.othr {w : World} {B n c size : Nat} {e : TypeId} {A : Option Addr} {xs : List Value} (h : Own w B e size A n c xs) {q : Addr} (hq : ∀ p, A = some p → p.block ≠ q.block) (u : Value) : Own (w.setCell q u) B e size A n c xs := by
  refine ⟨h.1, ?_⟩
  rcases h.2 with h1 | ⟨g, cap, cur, h1, h2, h3, h4⟩
  · exact .inl h1
  · refine .inr ⟨g, cap, cur, h1, h2, ?_, h4⟩
    rw [heap_setCell _ _ _ _ (hq ⟨g, 0, none⟩ (by injection h1))]
    exact h3
theorem put_in {s : HS} {N v key : Nat} (h : s.In N) (hv : v < N) : (⟨s.L ++ [(v, key)], s.T⟩ : HS).In N := by
  refine ⟨h.1, fun i hi => ?_⟩
  simp only [List.length_append, List.length_cons, List.length_nil] at hi
  unfold gi2
  by_cases he : i < s.L.length
  · rw [List.getD_eq_getElem?_getD, List.getElem?_append_left he, ← List.getD_eq_getElem?_getD]
    exact h.2 i he
  · rw [List.getD_eq_getElem?_getD, List.getElem?_append_right (by omega), show i - s.L.length = 0 by omega]
    exact hv
theorem put_mid {w Wp w2 : World} {S : Nat → Prop} {b c c2 G v key : Nat} {A A2 : Option Addr} {s : HS} (hgp : Grows w Wp) (r1 : Arr w b 153 [.slice A s.L.length c, .slice (some ⟨G, 0, none⟩) s.T.length s.T.length]) (r2 : Own w 0 164 2 A s.L.length c (its s.L))
    (r3 : Row1 w G 3 1 s.T.length s.T.length (s.T.map (.int .i64))) (s1 : S b) (s2 : S G) (ho : Own w2 0 164 2 A2 (s.L.length + 1) c2 (its s.L ++ [.int .i64 (v : Int), .int .u64 (key : Int)])) (ht : Touch (fun k => ∃ p, A = some p ∧ p.block = k) Wp w2)
    (hA : ∀ p, A2 = some p → S p.block ∨ New Wp w2 p.block) (h6 : ∀ p, A = some p → S p.block) :
    HpAt (w2.setCell ⟨b, 0, none⟩ (.slice A2 (s.L.length + 1) c2)) (fun k => S k ∨ New w (w2.setCell ⟨b, 0, none⟩ (.slice A2 (s.L.length + 1) c2)) k) b ⟨s.L ++ [(v, key)], s.T⟩ ∧ Touch S w (w2.setCell ⟨b, 0, none⟩ (.slice A2 (s.L.length + 1) c2)) := by
  have na := r2.not_arr r1 (by decide)
  have nb := r2.not_row r3 (by decide)
  have q1 : Arr w2 b 153 _ := (r1.grow hgp).touch ht fun ⟨p, hp, e⟩ => na p hp e
  have q3 := (r3.grow hgp).touch ht fun ⟨p, hp, e⟩ => nb p hp e
  have n2 := r3.ne r1 (by decide)
  refine ⟨⟨A2, c2, G, ?_, ?_, q3.other (Ne.symm n2) _, .inl s1, .inl s2, fun p hp => ?_⟩, ?_⟩
  · have := q1.set 0 (.slice A2 (s.L.length + 1) c2)
    simpa using this
  · have := ho.othr (q := ⟨b, 0, none⟩) (ho.not_arr q1 (by decide)) (.slice A2 (s.L.length + 1) c2)
    show Own _ _ _ _ _ (s.L ++ [(v, key)]).length _ (its (s.L ++ [(v, key)]))
    rw [its_app, List.length_append]
    exact this
  · rcases hA p hp with h | ⟨h, h'⟩
    · exact .inl h
    · exact .inr ⟨Nat.le_trans hgp.size h, by rw [size_setCell]; exact h'⟩
  · exact (((hgp.touch S).trans (ht.mono fun k ⟨p, hp, e⟩ => e ▸ h6 p hp))).set (.inl s1) _
set_option maxRecDepth 20000 in
set_option maxHeartbeats 4000000 in
theorem hpPut (b N : Nat) (s : HS) (v key : Nat) (S : Nat → Prop) (w : World) (h : HpAt w S b s) (hs : ∀ k, S k → k < w.heap.size) (hin : s.In N) (hv : v < N) (hz : gz s.T v = -1 ∨ 0 ≤ gz s.T v ∧ gz s.T v < s.L.length) (hl : s.L.length ≤ 90000) :
    Calls Tryz.prog 93 #[.pointer (some ⟨b, 0, none⟩), .int .i64 (v : Int), .int .u64 (key : Int)] w (GivePut w S b (s.put v key).1 (s.put v key).2) := by
  have hbx : ¬ S w.heap.size := fun e => by have := hs _ e; omega
  obtain ⟨A, c, G, r1, r2, r3, r4, r5, r6⟩ := h
  have hT := hin.1
  have m0 : Mine w ⟨G, v, none⟩ (.int .i64 (gz s.T v)) := r3.int (by omega)
  have R1 := hide r1
  have R2 := hide r2
  have R3 := hide r3
  have R6 := hide r6
  have HT := hide hT
  have HIN := hide hin
  have HSS := hide hs
  have HP : Hid (s.put v key = if gz s.T v = -1 then (HS.rise ⟨s.L ++ [(v, key)], s.T⟩ s.L.length (v, key), true) else if (gi2 s.L (gz s.T v).toNat).2 ≤ key then (s, false) else (s.rise (gz s.T v).toNat (v, key), true)) := rfl
  have hvT : v < s.T.length := by omega
  clear r2 r3 r6 hT hin hs
  generalize hzz : gz s.T v = z at *
  clear hzz
  go_enter Tryz.func93, Tryz.ntmps93
  go_upto_region 3 with fail
  go_cut [7, 8] (fun s7 s8 wx => PutAt w v key z s7 s8 wx)
  case first =>
    go_region_with fail
    all_goals go_wp2_with fail
    all_goals go_meet
    all_goals (case rel => exact put_rel rfl GG rfl (by simp [heap_drew, heap_push]))
  case rest =>
    obtain ⟨rfl, y, rfl, rfl, hax⟩ := hcut
    have hgy : Grows w y.now := y.grows
    by_cases h1 : z = -1
    · subst h1
      rw [if_pos rfl] at HP
      have q1 := r1.grow hgy
      have RR1 := hide q1
      have HNA := hide (R2.out.not_arr r1 (by decide))
      have HNB := hide (R2.out.not_row R3.out (by decide))
      go_wp2_with fail
      go_region_law (refine step_appT elemItem rfl _ _ rfl S _ c A _ rfl (R2.out.grows GG) R6.out _ _ [.int .i64 (v : Int), .int .u64 (key : Int)] rfl rfl (fun j u hu => by
        match j, hu with
        | 0, hu => simp at hu; subst hu; simp [go_sem]
        | 1, hu => simp at hu; subst hu; simp [go_sem]) (fun u hu => by simp at hu; rcases hu with rfl | rfl <;> rfl) (by omega) ?_; intro A2 c2 w2 hown2 ht2 hA2; have q2 := Arr.touch (Arr.grow r1 GG) ht2 (fun ⟨p, hp, e⟩ => HNA.out p hp e); have qm := put_mid (show Grows w _ from GG) r1 R2.out R3.out r4 r5 hown2 ht2 hA2 R6.out; have q4 : Arr w2 w.heap.size 164 _ := Arr.touch (Arr.grow hax GG) ht2 (fun ⟨p, hp, e⟩ => hbx (e ▸ R6.out p hp)); have HM := hide qm; clear qm hown2 ht2 hA2)
      all_goals
        have q5 := q4.other (p := ⟨b, 0, none⟩) (fun e => hbx (e ▸ r4)) (.slice A2 (s.L.length + 1) c2)
        have q6 := q2.set 0 (.slice A2 (s.L.length + 1) c2)
        simp only [List.set_cons_zero] at q6
        generalize w2.setCell ⟨b, 0, none⟩ (.slice A2 (s.L.length + 1) c2) = w3 at *
        have HMT := hide HM.out.2
        have HR := hide (fun (W : World) (hg : Grows w3 W) => hpRise b N ⟨s.L ++ [(v, key)], s.T⟩ s.L.length (v, key) (fun k => S k ∨ New w w3 k) W (HM.out.1.grow hg) (fun k hk => Nat.lt_of_lt_of_le (by
          rcases hk with hk | hk
          · exact Nat.lt_of_lt_of_le (HSS.out k hk) HMT.out.size
          · exact hk.2) hg.size) (put_in HIN.out hv) (by simp) hv (by simp; omega))
        unfold itVal at HR
        dsimp only at HR
        clear q2 q4
        go_wp2_with (go_at_call 99; refine (HR.out _ GG).mono ?_; rintro e w' ⟨rfl, hp, ht⟩; have HP4 := hide hp; have HT4 := hide ht; clear hp ht)
        go_ret
        rw [HP.out]
        exact ⟨rfl, HP4.out.mono (fun k hk => by
          rcases hk with hk | ⟨h1, h2⟩
          · exact .inl hk
          · exact .inr ⟨h1, Nat.lt_of_lt_of_le h2 HT4.out.size⟩), HMT.out.trans2 HT4.out (fun k hk => by
          rcases hk with hk | ⟨h1, h2⟩
          · exact .inl hk
          · exact .inr h1)⟩
    · obtain ⟨i, rfl⟩ : ∃ i : Nat, z = (i : Int) := ⟨z.toNat, by omega⟩
      have hi : i < s.L.length := by omega
      have hzb : ((i : Int) == -1) = false := beq_eq_false_iff_ne.2 h1
      rw [if_neg h1, Int.toNat_natCast] at HP
      have HQ0 := hide (show HpAt w S b s from ⟨A, c, G, r1, R2.out, R3.out, r4, r5, R6.out⟩)
      obtain ⟨g, rfl, m1, m2⟩ := R2.out.item hi
      have HQ := hide (fun (W : World) (hg : Grows w W) => hpRise b N s i (v, key) S W (HQ0.out.grow hg) (fun k hk => Nat.lt_of_lt_of_le (HSS.out k hk) hg.size) HIN.out hi hv (by omega))
      unfold itVal at HQ
      dsimp only at HQ
      generalize gi2 s.L i = q at *
      obtain ⟨q1, q2⟩ := q
      dsimp only at *
      by_cases hle : q2 ≤ key
      · have hd : decide ((q2 : Int) ≤ (key : Int)) = true := decide_eq_true (by omega)
        have hd2 : decide (q2 ≤ key) = true := decide_eq_true hle
        rw [if_pos hle] at HP
        clear hle h1 hz
        go_wp2_with fail
        go_ret
        rw [HP.out]
        have hgz : Grows w y.now := GG
        exact ⟨rfl, (HQ0.out.grow hgz).mono (fun k hk => .inl hk), hgz.touch S⟩
      · have hd : decide ((q2 : Int) ≤ (key : Int)) = false := decide_eq_false (by omega)
        have hd2 : decide (q2 ≤ key) = false := decide_eq_false hle
        rw [if_neg hle] at HP
        clear hle h1 hz
        go_wp2_with (go_at_call 99; refine (HQ.out _ GG).mono ?_; rintro e w' ⟨rfl, hp, ht⟩; have HP4 := hide hp; have HT4 := hide ht; clear hp ht)
        go_ret
        rw [HP.out]
        have hgz : Grows w y.now := GG
        exact ⟨rfl, HP4.out.mono (fun k hk => .inl hk), (hgz.touch S).trans HT4.out⟩
end Go.Proofs.YtkfobolbilhjbaaGreat

namespace Go.Proofs.YtkfobolbilhjbaaGreat
open Go Go.RowKit
theorem hpLen (b : Nat) (A : Option Addr) (n c : Nat) (u : Value) (w : World) (h : Arr w b 153 [.slice A n c, u]) : Calls Tryz.prog 105 #[.pointer (some ⟨b, 0, none⟩)] w fun e w' => e = .returned (.int .i64 (n : Int)) ∧ w = w' := by
  go_enter Tryz.func105, Tryz.ntmps105
  go_wp2
  go_ret
  exact ⟨rfl, rfl⟩
theorem hpWhere (b : Nat) (A : Option Addr) (n c G N v : Nat) (T : List Int) (w : World) (h : Arr w b 153 [.slice A n c, .slice (some ⟨G, 0, none⟩) N N]) (ht : Row1 w G 3 1 N N (T.map (.int .i64))) (hv : v < N) :
    Calls Tryz.prog 106 #[.pointer (some ⟨b, 0, none⟩), .int .i64 (v : Int)] w fun e w' => e = .returned (.int .i64 (gz T v)) ∧ w = w' := by
  have m0 : Mine w ⟨G, v, none⟩ (.int .i64 (gz T v)) := ht.int hv
  clear ht
  go_enter Tryz.func106, Tryz.ntmps106
  go_wp2
  go_ret
  exact ⟨rfl, rfl⟩
theorem Own.cut {w : World} {B n c m size : Nat} {e : TypeId} {A : Option Addr} {xs : List Value} (h : Own w B e size A n c xs) (hm : m ≤ n) (hn : 0 < n) : Own w B e size A m c (xs.take (m * size)) := by
  obtain ⟨g, cur, rfl, hB, hh, hc, hs, ht⟩ := h.at_ hn
  have hl := h.len
  have hmm : m * size ≤ n * size := Nat.mul_le_mul_right _ hm
  have hcm : c ≤ maxLen := by
    rcases h.2 with ⟨h1, _⟩ | ⟨g2, cap, cur2, h1, _, _, _, h5, _⟩
    · cases h1
    · injection h1 with _ _ h7; subst h7; exact h5
  refine ⟨by rw [List.length_take]; omega, .inr ⟨g, c, cur, rfl, hB, hh, by omega, hcm, hs, ?_⟩⟩
  rw [← ht, List.take_take]
  congr 1
  omega
theorem its_take (L : List Itm) (m : Nat) : its (L.take m) = (its L).take (m * 2) := by
  induction L generalizing m with
  | nil => simp [its]
  | cons x L ih =>
    cases m with
    | zero => simp [its]
    | succ m =>
      have := ih m
      show itCells x ++ its (L.take m) = (itCells x ++ its L).take ((m + 1) * 2)
      have e1 : List.take ((m + 1) * 2) (itCells x) = itCells x := List.take_of_length_le (by show 2 ≤ _; omega)
      have e2 : (m + 1) * 2 - (itCells x).length = m * 2 := by show (m + 1) * 2 - 2 = _; omega
      rw [this, List.take_append, e1, e2]
theorem drop_mid {w Wp : World} {S : Nat → Prop} {b c G v last : Nat} {A : Option Addr} {s : HS} (r1 : Arr w b 153 [.slice A s.L.length c, .slice (some ⟨G, 0, none⟩) s.T.length s.T.length]) (r2 : Own w 0 164 2 A s.L.length c (its s.L))
    (r3 : Row1 w G 3 1 s.T.length s.T.length (s.T.map (.int .i64))) (s1 : S b) (s2 : S G) (h6 : ∀ p, A = some p → S p.block) (hg : Grows (w.setCell ⟨G, v, none⟩ (.int .i64 (-1))) Wp) (hl : last ≤ s.L.length) (h0 : 0 < s.L.length) :
    HpAt (Wp.setCell ⟨b, 0, none⟩ (.slice A last c)) S b ⟨s.L.take last, s.T.set v (-1)⟩ ∧ Touch S w (Wp.setCell ⟨b, 0, none⟩ (.slice A last c)) ∧ Arr Wp b 153 [.slice A s.L.length c, .slice (some ⟨G, 0, none⟩) s.T.length s.T.length] := by
  have n2 := r3.ne r1 (by decide)
  have nb := r2.not_row r3 (by decide)
  have q1 := ((r1.other (p := ⟨G, v, none⟩) n2 (.int .i64 (-1))).grow hg)
  have q2 := ((r2.othr (q := ⟨G, v, none⟩) nb (.int .i64 (-1))).grows hg)
  have q3 := ((r3.set v (.int .i64 (-1))).grow hg)
  have e1 : (s.L.take last).length = last := by simp; omega
  refine ⟨⟨A, c, G, ?_, ?_, ?_, s1, s2, h6⟩, ?_, q1⟩
  · have := q1.set 0 (.slice A last c)
    show Arr _ _ _ [.slice A (s.L.take last).length c, .slice (some ⟨G, 0, none⟩) (s.T.set v (-1)).length (s.T.set v (-1)).length]
    rw [e1, List.length_set]
    exact this
  · have := (q2.cut hl h0).othr (q := ⟨b, 0, none⟩) ((q2.cut hl h0).not_arr q1 (by decide)) (.slice A last c)
    show Own _ _ _ _ _ (s.L.take last).length _ (its (s.L.take last))
    rw [e1, its_take]
    exact this
  · have := q3.other (p := ⟨b, 0, none⟩) (Ne.symm n2) (.slice A last c)
    show Row1 _ _ _ _ (s.T.set v (-1)).length (s.T.set v (-1)).length _
    rw [List.length_set, List.map_set]
    exact this
  · exact ((((Touch.refl S w).set (.inl s2) _).grows hg)).set (.inl s1) _
theorem drop_in {s : HS} {N last : Nat} (h : s.In N) (v : Nat) : (⟨s.L.take last, s.T.set v (-1)⟩ : HS).In N := by
  refine ⟨by simp [h.1], fun i hi => ?_⟩
  simp at hi
  unfold gi2
  rw [List.getD_eq_getElem?_getD, List.getElem?_take, if_pos (by omega), ← List.getD_eq_getElem?_getD]
  exact h.2 i (by omega)
set_option maxRecDepth 20000 in
set_option maxHeartbeats 4000000 in
theorem hpDrop (b N : Nat) (s : HS) (v i : Nat) (S : Nat → Prop) (w : World) (h : HpAt w S b s) (hs : ∀ k, S k → k < w.heap.size) (hin : s.In N) (hv : v < N) (hz : gz s.T v = (i : Int)) (hi : i < s.L.length) (hl : s.L.length ≤ 90000) :
    Calls Tryz.prog 101 #[.pointer (some ⟨b, 0, none⟩), .int .i64 (v : Int)] w fun e w' => e = .returned (.bool true) ∧ HpAt w' S b (s.drop v) ∧ Touch S w w' := by
  have hbx : ¬ S w.heap.size := fun e => by have := hs _ e; omega
  obtain ⟨A, c, G, r1, r2, r3, r4, r5, r6⟩ := h
  have hT := hin.1
  have m0 : Mine w ⟨G, v, none⟩ (.int .i64 (gz s.T v)) := r3.int (by omega)
  rw [hz] at m0
  have hvT : v < s.T.length := by omega
  have HW := hide (fun W => hpWhere b A s.L.length c G s.T.length v s.T W)
  rw [hz] at HW
  obtain ⟨n, hn⟩ : ∃ n, s.L.length = n + 1 := ⟨s.L.length - 1, by omega⟩
  obtain ⟨g, rfl, m1, m2⟩ := r2.item (i := n) (by omega)
  have HD : Hid (s.drop v = if i = n then ⟨s.L.take n, s.T.set v (-1)⟩ else if gz ((⟨s.L.take n, s.T.set v (-1)⟩ : HS).sink i (gi2 s.L n)).T (gi2 s.L n).1 = (i : Int) then ((⟨s.L.take n, s.T.set v (-1)⟩ : HS).sink i (gi2 s.L n)).rise i (gi2 s.L n) else (⟨s.L.take n, s.T.set v (-1)⟩ : HS).sink i (gi2 s.L n)) := by
    show _ = _
    unfold HS.drop
    rw [hz, hn, Nat.add_sub_cancel, Int.toNat_natCast]
  have hcap : n + 1 ≤ c := by
    obtain ⟨_, _, _, _, _, hc, _⟩ := r2.at_ (by omega)
    omega
  have hb0 : ((i : Int) == -1) = false := beq_eq_false_iff_ne.2 (by omega)
  have n1 := r3.ne r1 (by decide)
  have n3 := r2.not_row r3 (by decide) _ rfl
  have hgG : ¬ G = g := fun e => n3 e.symm
  have HIN := hide hin
  have HI2 : Hid ((⟨s.L.take n, s.T.set v (-1)⟩ : HS).In N) := drop_in hin v
  have HSS := hide hs
  have hxN : (gi2 s.L n).1 < N := hin.2 n (by omega)
  have hiB : i ≤ 90000 := by omega
  have hin1 : i ≤ n := by omega
  have hin0 : 0 < s.L.length := by omega
  have hnl : n ≤ s.L.length := by omega
  have HWW := hide (HW.out w r1 r3 hvT)
  have HMID := hide (fun (Wp : World) (hg : Grows (w.setCell ⟨G, v, none⟩ (.int .i64 (-1))) Wp) => drop_mid (S := S) (v := v) (last := n) r1 r2 r3 r4 r5 r6 hg hnl hin0)
  have p1 := r1.other (p := ⟨G, v, none⟩) n1 (.int .i64 (-1))
  have p2 := m1.set_other (q := ⟨G, v, none⟩) (.int .i64 (-1)) (by intro e; injection e with e; exact hgG e)
  have p3 := m2.set_other (q := ⟨G, v, none⟩) (.int .i64 (-1)) (by intro e; injection e with e; exact hgG e)
  have HN := hide hn
  rw [hn] at p1 hi hl
  have R1 := hide r1
  clear hin hs hz r2 r3 r6 HW hT hn hin0 hnl m1 m2 n1 n3
  by_cases hin2 : i = n
  · subst hin2
    rw [if_pos rfl] at HD
    go_enter Tryz.func101, Tryz.ntmps101
    go_wp2_with (go_at_call 106; refine (HWW.out).mono ?_; rintro e w' ⟨rfl, rfl⟩)
    go_ret
    have hm := HMID.out _ ((Grows.refl (w.setCell ⟨G, v, none⟩ (.int .i64 (-1)))).new (.cells #[.int .i64 ((gi2 s.L i).1 : Int), .int .u64 ((gi2 s.L i).2 : Int)] 164))
    exact ⟨rfl, HD.out ▸ hm.1, hm.2.1⟩
  · rw [if_neg hin2] at HD
    have hb1 : ((i : Int) == (n : Int)) = false := beq_eq_false_iff_ne.2 (by omega)
    have hb2 : (i == n) = false := beq_eq_false_iff_ne.2 hin2
    have hbz : w.heap.size ≠ b := fun e => hbx (e ▸ r4)
    go_enter Tryz.func101, Tryz.ntmps101
    go_upto_region 10 with (go_at_call 106; refine (HWW.out).mono ?_; rintro e w' ⟨rfl, rfl⟩)
    have hm := HMID.out _ ((Grows.refl (w.setCell ⟨G, v, none⟩ (.int .i64 (-1)))).new (.cells #[.int .i64 ((gi2 s.L n).1 : Int), .int .u64 ((gi2 s.L n).2 : Int)] 164))
    have q5 : Arr (((w.setCell ⟨G, v, none⟩ (.int .i64 (-1))).alloc (.cells #[.int .i64 ((gi2 s.L n).1 : Int), .int .u64 ((gi2 s.L n).2 : Int)] 164)).setCell ⟨b, 0, none⟩ (.slice (some ⟨g, 0, none⟩) n c)) w.heap.size 164 [.int .i64 ((gi2 s.L n).1 : Int), .int .u64 ((gi2 s.L n).2 : Int)] :=
      Arr.other (by
        have h := Arr.make (w.setCell ⟨G, v, none⟩ (.int .i64 (-1))) [Value.int .i64 ((gi2 s.L n).1 : Int), .int .u64 ((gi2 s.L n).2 : Int)] 164
        rw [size_setCell] at h
        exact h) (Ne.symm hbz) _
    generalize ((w.setCell ⟨G, v, none⟩ (.int .i64 (-1))).alloc (.cells #[.int .i64 ((gi2 s.L n).1 : Int), .int .u64 ((gi2 s.L n).2 : Int)] 164)).setCell ⟨b, 0, none⟩ (.slice (some ⟨g, 0, none⟩) n c) = W3 at *
    obtain ⟨e1, e2, _⟩ := hm
    have hin3 : i < (⟨s.L.take n, s.T.set v (-1)⟩ : HS).L.length := by have := HN.out; simp; omega
    have hln : (⟨s.L.take n, s.T.set v (-1)⟩ : HS).L.length ≤ 90000 := by simp; omega
    generalize (⟨s.L.take n, s.T.set v (-1)⟩ : HS) = s1 at *
    have HT2 := hide e2
    have HS1 := hide (HS.sink_in HI2.out i (gi2 s.L n) hxN)
    have HSK := hide (fun (W : World) (hg : Grows W3 W) => hpSink b N s1 i (gi2 s.L n) S W (e1.grow hg) (fun k hk => Nat.lt_of_lt_of_le (HSS.out k hk) (Nat.le_trans HT2.out.size hg.size)) HI2.out hin3 hxN (by omega))
    generalize gi2 s.L n = x at *
    unfold itVal at HSK
    obtain ⟨x1, x2⟩ := x
    dsimp only at *
    clear e1 e2 m0 p1 p2 p3 r1 hin2 hb1 hb2
    have HL1 := hide hin3
    clear hin3
    go_wp2_with (go_at_call 107; refine (HSK.out _ GG).mono ?_; rintro e w4 ⟨rfl, hp, ht⟩; have q6 := q5.touch ht hbx; have HP4 := hide hp; have HT4 := hide ht; clear hp ht)
    have hi2 := HS1.out
    generalize s1.sink i (x1, x2) = s2 at *
    obtain ⟨hi3, hi4⟩ := hi2
    obtain ⟨A', c', G', t1, t2, t3, t4, t5, t6⟩ := HP4.out
    have mm : Mine w4 ⟨G', x1, none⟩ (.int .i64 (gz s2.T x1)) := t3.int (by rw [hi3.1]; exact hxN)
    have HRI := hide (fun (W : World) (hg : Grows w4 W) => hpRise b N s2 i (x1, x2) S W (HP4.out.grow hg) (fun k hk => Nat.lt_of_lt_of_le (HSS.out k hk) (Nat.le_trans HT2.out.size (Nat.le_trans HT4.out.size hg.size))) hi3 (by rw [hi4]; exact HL1.out) hxN (by omega))
    unfold itVal at HRI
    dsimp only at HRI
    have hx1 : x1 < s2.T.length := by rw [hi3.1]; exact hxN
    clear hi3 hi4 t2 t3 t6
    generalize gz s2.T x1 = z at *
    by_cases hzi : z = (i : Int)
    · subst hzi
      rw [if_pos rfl] at HD
      ((first | refine wp_region_gen2 (by kernel_rfl) (by kernel_rfl) ?_ | refine wp_region_gen (by kernel_rfl) (by kernel_rfl) ?_); (repeat' ((first | refine gLex_val0 rfl (by kernel_rfl) (fun K hK => ?_) | refine gLex_undef rfl rfl rfl (by kernel_rfl) (fun K hK => ?_) | (refine gLex_ask rfl rfl rfl ?_; first | (apply gAsk_yes; kernel_rfl; intro K hK) | ((first | apply gAsk_no1 | apply gAsk_no2); kernel_rfl; intro K hK) | (apply gAsk_part; kernel_rfl; all_goals (intro h K hK; (try simp only [Bool.not_true] at h); (try simp only [Bool.not_false] at h); (try simp only [decide_eq_true_eq] at h); (try simp only [decide_eq_false_iff_not] at h); try (exfalso; first | contradiction | omega))))) <;> (go_simp; (try (simp only [↓IntWalk.iteOmega]; try go_simp)); (try simp (disch := omega) only [IntWalk.i64_in]); (try simp (disch := omega) only [IntWalk.u64_in]); refine hK _ ?_; clear hK K))); all_goals ((apply gLex_end); intro y))
      go_wp2_with (go_at_call 99; refine (HRI.out _ GG).mono ?_; rintro e w' ⟨rfl, hp, ht⟩; have HP5 := hide hp; have HT5 := hide ht; clear hp ht)
      have hgy : Grows w4 y.now := GG
      go_ret
      exact ⟨rfl, HD.out ▸ HP5.out, (HT2.out.trans ((HT4.out.grows hgy).trans HT5.out))⟩
    · rw [if_neg hzi] at HD
      have hb : (z == (i : Int)) = false := beq_eq_false_iff_ne.2 hzi
      clear hzi
      ((first | refine wp_region_gen2 (by kernel_rfl) (by kernel_rfl) ?_ | refine wp_region_gen (by kernel_rfl) (by kernel_rfl) ?_); (repeat' ((first | refine gLex_val0 rfl (by kernel_rfl) (fun K hK => ?_) | refine gLex_undef rfl rfl rfl (by kernel_rfl) (fun K hK => ?_) | (refine gLex_ask rfl rfl rfl ?_; first | (apply gAsk_yes; kernel_rfl; intro K hK) | ((first | apply gAsk_no1 | apply gAsk_no2); kernel_rfl; intro K hK) | (apply gAsk_part; kernel_rfl; all_goals (intro h K hK; (try simp only [Bool.not_true] at h); (try simp only [Bool.not_false] at h); (try simp only [decide_eq_true_eq] at h); (try simp only [decide_eq_false_iff_not] at h); try (exfalso; first | contradiction | omega))))) <;> (go_simp; (try (simp only [↓IntWalk.iteOmega]; try go_simp)); (try simp (disch := omega) only [IntWalk.i64_in]); (try simp (disch := omega) only [IntWalk.u64_in]); refine hK _ ?_; clear hK K))); all_goals ((apply gLex_end); intro y))
      go_wp2_with fail
      have hgy : Grows w4 y.now := GG
      go_ret
      exact ⟨rfl, HD.out ▸ HP4.out.grow hgy, (HT2.out.trans (HT4.out.grows hgy))⟩
def GivePop (w : World) (S : Nat → Prop) (b : Nat) (s : HS) (e : Ending) (w' : World) : Prop :=
  e = .returned (.tuple #[.int .i64 ((gi2 s.L 0).1 : Int), .int .u64 ((gi2 s.L 0).2 : Int), .bool true]) ∧ HpAt w' S b (s.drop (gi2 s.L 0).1) ∧ Touch S w w'
set_option maxHeartbeats 2000000 in
theorem hpTopNo (b : Nat) (s : HS) (S : Nat → Prop) (w : World) (h : HpAt w S b s) (h0 : s.L.length = 0) :
    Calls Tryz.prog 100 #[.pointer (some ⟨b, 0, none⟩)] w fun e w' => e = .returned (.tuple #[.int .i64 0, .int .u64 0, .bool false]) ∧ Grows w w' := by
  obtain ⟨A, c, G, r1, r2, r3, r4, r5, r6⟩ := h
  rw [h0] at r1
  have C := hide (hpLen b A 0 c _ w r1)
  clear r2 r3 r6
  go_enter Tryz.func100, Tryz.ntmps100
  go_wp2_with (go_at_call 105; refine (C.out).mono ?_; rintro e w' ⟨rfl, rfl⟩)
  refine bodyPost_ret (v := .tuple #[.int .i64 0, .int .u64 0, .bool false]) (by simp [results, Tryz.results100, go_sem]) rfl ⟨rfl, GG⟩
set_option maxHeartbeats 2000000 in
theorem hpTop (b : Nat) (s : HS) (S : Nat → Prop) (w : World) (h : HpAt w S b s) (h0 : 0 < s.L.length) :
    Calls Tryz.prog 100 #[.pointer (some ⟨b, 0, none⟩)] w fun e w' => e = .returned (.tuple #[.int .i64 ((gi2 s.L 0).1 : Int), .int .u64 ((gi2 s.L 0).2 : Int), .bool true]) ∧ Grows w w' := by
  obtain ⟨A, c, G, r1, r2, r3, r4, r5, r6⟩ := h
  obtain ⟨g, rfl, m1, m2⟩ := r2.item h0
  rw [Nat.zero_mul] at m1 m2
  have C := hide (hpLen b (some ⟨g, 0, none⟩) s.L.length c _ w r1)
  have hb : ((s.L.length : Int) == 0) = false := beq_eq_false_iff_ne.2 (by omega)
  clear r2 r3 r6
  generalize gi2 s.L 0 = q at *
  obtain ⟨q1, q2⟩ := q
  dsimp only at *
  go_enter Tryz.func100, Tryz.ntmps100
  go_wp2_with (go_at_call 105; refine (C.out).mono ?_; rintro e w' ⟨rfl, rfl⟩)
  ((first | refine wp_region_gen2 (by kernel_rfl) (by kernel_rfl) ?_ | refine wp_region_gen (by kernel_rfl) (by kernel_rfl) ?_); (repeat' ((first | refine gLex_val0 rfl (by kernel_rfl) (fun K hK => ?_) | refine gLex_undef rfl rfl rfl (by kernel_rfl) (fun K hK => ?_) | (refine gLex_ask rfl rfl rfl ?_; first | (apply gAsk_yes; kernel_rfl; intro K hK) | ((first | apply gAsk_no1 | apply gAsk_no2); kernel_rfl; intro K hK) | (apply gAsk_part; kernel_rfl; all_goals (intro h K hK; (try simp only [Bool.not_true] at h); (try simp only [Bool.not_false] at h); (try simp only [decide_eq_true_eq] at h); (try simp only [decide_eq_false_iff_not] at h); try (exfalso; first | contradiction | omega))))) <;> (go_simp; (try (simp only [↓IntWalk.iteOmega]; try go_simp)); (try simp (disch := omega) only [IntWalk.i64_in]); (try simp (disch := omega) only [IntWalk.u64_in]); refine hK _ ?_; clear hK K))); all_goals ((apply gLex_end); intro y))
  go_wp2_with fail
  refine bodyPost_ret (v := .tuple #[.int .i64 (q1 : Int), .int .u64 (q2 : Int), .bool true]) (by simp [results, Tryz.results100, go_sem]) rfl ⟨rfl, GG⟩
set_option maxHeartbeats 2000000 in
theorem hpPopNo (b : Nat) (s : HS) (S : Nat → Prop) (w : World) (h : HpAt w S b s) (h0 : s.L.length = 0) :
    Calls Tryz.prog 94 #[.pointer (some ⟨b, 0, none⟩)] w fun e w' => e = .returned (.tuple #[.int .i64 0, .int .u64 0, .bool false]) ∧ Grows w w' := by
  have C := hide (hpTopNo b s S w h h0)
  clear h
  go_enter Tryz.func94, Tryz.ntmps94
  go_wp2_with (go_at_call 100; refine (C.out).mono ?_; rintro e w' ⟨rfl, hg⟩; obtain ⟨y, rfl⟩ := hg.later; clear hg)
  refine bodyPost_ret (v := .tuple #[.int .i64 0, .int .u64 0, .bool false]) (by simp [results, Tryz.results94, go_sem]) rfl ⟨rfl, GG⟩
set_option maxHeartbeats 2000000 in
theorem hpPop (b N : Nat) (s : HS) (S : Nat → Prop) (i : Nat) (w : World) (h : HpAt w S b s) (hs : ∀ k, S k → k < w.heap.size) (hin : s.In N) (h0 : 0 < s.L.length) (hz : gz s.T (gi2 s.L 0).1 = (i : Int)) (hi : i < s.L.length) (hl : s.L.length ≤ 90000) :
    Calls Tryz.prog 94 #[.pointer (some ⟨b, 0, none⟩)] w (GivePop w S b s) := by
  unfold GivePop
  have C := hide (hpTop b s S w h h0)
  have D := hide (fun (W : World) (hg : Grows w W) => hpDrop b N s (gi2 s.L 0).1 i S W (h.grow hg) (fun k hk => Nat.lt_of_lt_of_le (hs k hk) hg.size) hin (hin.2 0 h0) hz hi hl)
  clear h hs hin hz
  generalize gi2 s.L 0 = q at *
  obtain ⟨q1, q2⟩ := q
  dsimp only at *
  go_enter Tryz.func94, Tryz.ntmps94
  go_wp2_with (first
    | (go_at_call 100; refine (C.out).mono ?_; rintro e w' ⟨rfl, hg⟩; obtain ⟨y, rfl⟩ := hg.later; clear hg)
    | (go_at_call 101; refine (D.out _ GG).mono ?_; rintro e w' ⟨rfl, hp, ht⟩; have HP := hide hp; have HT := hide ht; clear hp ht))
  have hgy : Grows w y.now := y.grows
  exact bodyPost_ret (v := .tuple #[.int .i64 (q1 : Int), .int .u64 (q2 : Int), .bool true]) (by simp [results, Tryz.results94, go_sem]) rfl ⟨rfl, HP.out, (hgy.touch S).trans HT.out⟩
end Go.Proofs.YtkfobolbilhjbaaGreat

