/- Contract: from a place up. -/
import Derived.Test.YteodapefimlakaaQContractBuilds03
import Derived.WalkMore
/- Contract: from a place up. -/
namespace Go.Proofs.Yteodapefimlakaa
open Go Go.RowKit
def RiseAt (w : World) (S : Nat → Prop) (b N bx : Nat) (s : HS) (i : Nat) (x : Itm) (k : Nat) (wr : World) : Prop :=
  ∃ s' : HS, HpAt wr S b s' ∧ s'.In N ∧ s'.L.length = s.L.length ∧ k < s.L.length ∧ s'.rise k x = s.rise i x ∧ Touch S w wr ∧ Arr wr bx 170 [.int .i64 (x.1 : Int), .int .u64 (x.2 : Int)]
set_option maxRecDepth 20000 in
set_option maxHeartbeats 4000000 in
theorem hpRise (b N : Nat) (s : HS) (i : Nat) (x : Itm) (S : Nat → Prop) (w : World) (h : HpAt w S b s) (hs : ∀ k, S k → k < w.heap.size) (hin : s.In N) (hi : i < s.L.length) (hx : x.1 < N) (hl : s.L.length ≤ 100000) :
    Calls Try.prog 108 #[.pointer (some ⟨b, 0, none⟩), .int .i64 (i : Int), itVal x] w fun e w' => e = .returned (.tuple #[]) ∧ HpAt w' S b (s.rise i x) ∧ Touch S w w' := by
  have hbx : ¬ S w.heap.size := fun e => by have := hs _ e; omega
  have H0 : Hid (RiseAt w S b N w.heap.size s i x i (w.alloc (.cells #[.int .i64 (x.1 : Int), .int .u64 (x.2 : Int)] 170))) :=
    ⟨s, h.grow ((Grows.refl w).new _), hin, rfl, hi, rfl, ((Grows.refl w).new _).touch S, Arr.make _ _ _⟩
  clear h hs hin
  unfold itVal
  go_enter Try.func108, Try.ntmps108
  go_wp2_with fail
  go_step3
  go_wp2_with fail
  go_step3
  go_wp2_with fail
  go_loopw [1] (fun v wr => ∃ k : Nat, v = .int .i64 (k : Int) ∧ RiseAt w S b N w.heap.size s i x k wr) (fun v _ => (Go.RowKit.intOf v).toNat)
  case atStart => exact ⟨i, rfl, H0.out⟩
  case round =>
    obtain ⟨k, rfl, s', h1, h2, h3, h4, h5, h6, h7⟩ := hrel
    clear H0
    have hk' : k < s'.L.length := by omega
    have HLX := hide (fun (W : World) (hg : Grows wr W) => hpLay b s' k x S W (h1.grow hg) hk' (by rw [h2.1]; exact hx))
    by_cases hk0 : k = 0
    · subst hk0
      have HE : Hid (s'.lay 0 x = s.rise i x) := by rw [← h5, HS.rise, dif_neg (fun e => absurd e.1 (by omega))]; rfl
      have H6 := hide h6
      clear h1 h2 h3 h5 h6
      go_wp2_with (go_at_call 122; refine (HLX.out _ GG).mono ?_; rintro e w' ⟨rfl, hp, ht⟩; have HP := hide hp; have HT := hide ht; clear hp ht)
      rw [Exit.noGoto_normal]
      go_end0
      exact ⟨rfl, HE.out ▸ HP.out, H6.out.trans HT.out⟩
    · obtain ⟨u, rfl⟩ : ∃ u, k = u + 1 := ⟨k - 1, by omega⟩
      obtain ⟨p, hp⟩ : ∃ p, u / 2 = p := ⟨_, rfl⟩
      have hq : (u : Int) / 2 = (p : Int) := by omega
      have hpl : p < s'.L.length := by omega
      have hpu : p ≤ u := by omega
      obtain ⟨A, c, G, r1, r2, r3, r4, r5, r6⟩ := h1
      obtain ⟨g, rfl, m1, m2⟩ := r2.item hpl
      have hT := h2.1
      have H2 := hide h2
      have H6 := hide h6
      have HLU := hide (fun (W : World) (hg : Grows wr W) => hpLay b s' (u + 1) (gi2 s'.L p) S W ((show HpAt wr S b s' from ⟨_, c, G, r1, r2, r3, r4, r5, r6⟩).grow hg) hk' (by rw [hT]; exact h2.2 p hpl))
      have HLE := hide (fun (W : World) => hpLess x (gi2 s'.L p) W)
      have HR : Hid (s'.rise (u + 1) x = if ahead x (gi2 s'.L p) = true then (s'.lay (u + 1) (gi2 s'.L p)).rise p x else s'.lay (u + 1) x) := by
        show _ = _
        rw [HS.rise, Nat.add_sub_cancel, hp]
        by_cases ha : ahead x (gi2 s'.L p) = true
        · rw [dif_pos ⟨by omega, ha⟩, if_pos ha]
        · rw [dif_neg (fun e => ha e.2), if_neg ha]
      have H5 := hide h5
      have HP0 := hide hp
      clear h2 h5 h6 r2 r3 r6 hT hp
      cases ha : ahead x (gi2 s'.L p) with
      | true =>
        rw [ha] at HLE HR
        generalize hgi : gi2 s'.L p = y at *
        have HGI := hide hgi
        clear ha hgi
        unfold itVal at HLU
        obtain ⟨y1, y2⟩ := y
        dsimp only at *
        rw [Int.natCast_add, Int.natCast_one] at HLU
        go_wp2_with fail
        ((first | refine wp_region_gen2 (by kernel_rfl) (by kernel_rfl) ?_ | refine wp_region_gen (by kernel_rfl) (by kernel_rfl) ?_); (repeat' (first | (refine gLex_val0 rfl (by kernel_rfl) (fun K hK => ?_); (go_simp; (try (simp only [↓IntWalk.iteOmega]; try go_simp)); (try simp (disch := omega) only [IntWalk.i64_in]); (try simp (disch := omega) only [IntWalk.u64_in]); first | (refine hK _ ?_; clear hK K) | (apply Exists.intro; refine ⟨fun x => ?_, hK _ ?_⟩; (first | (exact HLE.out _)); clear hK K))) | (refine gLex_undef rfl rfl rfl (by kernel_rfl) (fun K hK => ?_); go_simp; refine hK _ ?_; clear hK K) | (refine gLex_ask rfl rfl rfl ?_; first | (apply gAsk_yes; kernel_rfl; intro K hK; (go_simp; (try (simp only [↓IntWalk.iteOmega]; try go_simp)); (try simp (disch := omega) only [IntWalk.i64_in]); (try simp (disch := omega) only [IntWalk.u64_in]); first | (refine hK _ ?_; clear hK K) | (apply Exists.intro; refine ⟨fun x => ?_, hK _ ?_⟩; (first | (exact HLE.out _)); clear hK K))) | ((first | apply gAsk_no1 | apply gAsk_no2); kernel_rfl; intro K hK; simp [go_sem]; refine hK _ ?_; clear hK K) | (apply gAsk_part; kernel_rfl; all_goals (intro h K hK; (try simp only [Bool.not_true] at h); (try simp only [Bool.not_false] at h); (try simp only [decide_eq_true_eq] at h); (try simp only [decide_eq_false_iff_not] at h); first | (exfalso; first | contradiction | omega) | (go_simp; (try (simp only [↓IntWalk.iteOmega]; try go_simp)); (try simp (disch := omega) only [IntWalk.i64_in]); (try simp (disch := omega) only [IntWalk.u64_in]); first | (refine hK _ ?_; clear hK K) | (apply Exists.intro; refine ⟨fun x => ?_, hK _ ?_⟩; (first | (exact HLE.out _)); clear hK K))))))); all_goals ((apply gLex_end); intro z))
        go_wp2_with (go_at_call 122; refine (HLU.out _ GG).mono ?_; rintro e w' ⟨rfl, hp, ht⟩; have HPP := hide hp; have HTT := hide ht; clear hp ht)
        have hgz : Grows wr z.now := GG
        go_roundw
        case rel =>
          refine ⟨p, by go_num, s'.lay (u + 1) (y1, y2), HPP.out, H2.out.lay _ _ (by have := HGI.out; have h := H2.out.2 p hpl; rw [this] at h; exact h), by rw [(HS.lay_len _ _ _).1]; exact h3, by omega, ?_, (H6.out.grows hgz).trans HTT.out, ?_⟩
          · rw [← H5.out, HR.out]; rfl
          · exact (h7.grow hgz).touch HTT.out hbx
        case measure => simp [Go.RowKit.intOf]; omega
      | false =>
        rw [ha] at HLE HR
        clear ha HLU
        generalize gi2 s'.L p = y at *
        unfold itVal at HLE
        obtain ⟨y1, y2⟩ := y
        dsimp only at *
        rw [Int.natCast_add, Int.natCast_one] at HLX
        go_wp2_with fail
        ((first | refine wp_region_gen2 (by kernel_rfl) (by kernel_rfl) ?_ | refine wp_region_gen (by kernel_rfl) (by kernel_rfl) ?_); (repeat' (first | (refine gLex_val0 rfl (by kernel_rfl) (fun K hK => ?_); (go_simp; (try (simp only [↓IntWalk.iteOmega]; try go_simp)); (try simp (disch := omega) only [IntWalk.i64_in]); (try simp (disch := omega) only [IntWalk.u64_in]); first | (refine hK _ ?_; clear hK K) | (apply Exists.intro; refine ⟨fun x => ?_, hK _ ?_⟩; (first | (exact HLE.out _)); clear hK K))) | (refine gLex_undef rfl rfl rfl (by kernel_rfl) (fun K hK => ?_); go_simp; refine hK _ ?_; clear hK K) | (refine gLex_ask rfl rfl rfl ?_; first | (apply gAsk_yes; kernel_rfl; intro K hK; (go_simp; (try (simp only [↓IntWalk.iteOmega]; try go_simp)); (try simp (disch := omega) only [IntWalk.i64_in]); (try simp (disch := omega) only [IntWalk.u64_in]); first | (refine hK _ ?_; clear hK K) | (apply Exists.intro; refine ⟨fun x => ?_, hK _ ?_⟩; (first | (exact HLE.out _)); clear hK K))) | ((first | apply gAsk_no1 | apply gAsk_no2); kernel_rfl; intro K hK; simp [go_sem]; refine hK _ ?_; clear hK K) | (apply gAsk_part; kernel_rfl; all_goals (intro h K hK; (try simp only [Bool.not_true] at h); (try simp only [Bool.not_false] at h); (try simp only [decide_eq_true_eq] at h); (try simp only [decide_eq_false_iff_not] at h); first | (exfalso; first | contradiction | omega) | (go_simp; (try (simp only [↓IntWalk.iteOmega]; try go_simp)); (try simp (disch := omega) only [IntWalk.i64_in]); (try simp (disch := omega) only [IntWalk.u64_in]); first | (refine hK _ ?_; clear hK K) | (apply Exists.intro; refine ⟨fun x => ?_, hK _ ?_⟩; (first | (exact HLE.out _)); clear hK K))))))); all_goals ((apply gLex_end); intro z))
        go_wp2_with (go_at_call 122; refine (HLX.out _ GG).mono ?_; rintro e w' ⟨rfl, hp, ht⟩; have HPP := hide hp; have HTT := hide ht; clear hp ht)
        have hgz : Grows wr z.now := GG
        have HE : Hid (s'.lay (u + 1) x = s.rise i x) := by rw [← H5.out, HR.out]; rfl
        rw [Exit.noGoto_normal]
        go_end0
        exact ⟨rfl, HE.out ▸ HPP.out, (H6.out.grows hgz).trans HTT.out⟩
end Go.Proofs.Yteodapefimlakaa
