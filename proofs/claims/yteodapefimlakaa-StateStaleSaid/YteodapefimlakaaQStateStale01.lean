/- Contracts: a hierarchy copied. -/
import Derived.Test.YteodapefimlakaaQStateStale00
import Derived.Test.YteodapefimlakaaQContractBuilds25
import Derived.Test.YteodapefimlakaaQContractBuilds22
import Derived.Test.YteodapefimlakaaQContractBuilds06
import Derived.Test.YteodapefimlakaaQContractBuilds24
/- Contracts: is a hierarchy made of a graph: the program's look and the document's. -/
namespace Go.Proofs.Yteodapefimlakaa
open Go Go.RowKit
attribute [local go_sem] Oper.semAt_some
set_option maxRecDepth 20000 in
set_option maxHeartbeats 2000000 in
theorem hiEdge (N : Int) (A : Option Addr) (n c : Nat) (E : List Edg) (s : SI) (w : World) (h : Rd w A 3 n (esCells E)) (hn : n ≤ 1000000) :
    Calls Try.prog 79 #[.agg #[.int .i64 N, .slice A n c], siVal s] w fun e w' => e = .returned (.bool (edgeSB E s)) ∧ Grows w w' := by
  have hl := h.elen
  have HD : Hid (edgeSB E s = (decide (0 ≤ s.e ∧ s.e < E.length ∧ s.a = -1 ∧ s.b = -1) && ((ge E s.e.toNat).f == s.f && ((ge E s.e.toNat).t == s.t && (ge E s.e.toNat).w == s.w)))) := rfl
  rw [HD.out, hl]
  unfold siVal
  have HR := hide h
  have CG := hide (fun (i : Int) (W : World) => gEdge N i A n c W)
  clear h hl HD
  obtain ⟨f, t, wt, e, a, b⟩ := s
  dsimp only
  by_cases hc : 0 ≤ e ∧ e < n ∧ a = -1 ∧ b = -1
  · obtain ⟨h1, h2, rfl, rfl⟩ := hc
    obtain ⟨k, rfl⟩ : ∃ k : Nat, e = (k : Int) := ⟨e.toNat, by omega⟩
    have hk : k < n := by omega
    have CG2 := hide (fun (W : World) => by have := CG.out (k : Int) W; rw [show edgeB n (k : Int) = true from decide_eq_true (by omega)] at this; exact this)
    obtain ⟨bb, off, rfl, hcc⟩ := HR.out.edgesH (by omega)
    obtain ⟨c1, c2, c3⟩ := hcc k hk
    have hd : decide (0 ≤ (k : Int) ∧ (k : Int) < n ∧ (-1 : Int) = -1 ∧ (-1 : Int) = -1) = true := decide_eq_true ⟨h1, h2, rfl, rfl⟩
    rw [hd]
    simp only [Int.toNat_natCast, Bool.true_and]
    clear hcc h1 h2 hd HR CG
    generalize (ge E k).f = x1 at *
    generalize (ge E k).t = x2 at *
    generalize (ge E k).w = x3 at *
    have he := fun W => edge_eqv x1 x2 x3 f t wt W
    go_enter Try.func79, Try.ntmps79
    go_wp2_with (go_at_call 103; refine (CG2.out _).mono ?_; rintro e w' ⟨rfl, hg⟩; obtain ⟨y1, rfl⟩ := hg.later; clear hg)
    ((first | refine wp_region_gen (by kernel_rfl) (by kernel_rfl) ?_); (repeat' (first | (refine gLex_val0 rfl (by kernel_rfl) (fun K hK => ?_); (go_simp; (try (simp only [↓IntWalk.iteOmega]; try go_simp)); (try simp (disch := omega) only [IntWalk.i64_in]); (try simp (disch := omega) only [IntWalk.u64_in]); first | (refine hK _ ?_; clear hK K) | (apply Exists.intro; refine ⟨fun x => ?_, hK _ ?_⟩; (first | fail); clear hK K))) | (refine gLex_undef rfl rfl rfl (by kernel_rfl) (fun K hK => ?_); go_simp; refine hK _ ?_; clear hK K) | (refine gLex_ask rfl rfl rfl ?_; first | (apply gAsk_yes; kernel_rfl; intro K hK; (go_simp; (try (simp only [↓IntWalk.iteOmega]; try go_simp)); (try simp (disch := omega) only [IntWalk.i64_in]); (try simp (disch := omega) only [IntWalk.u64_in]); first | (refine hK _ ?_; clear hK K) | (apply Exists.intro; refine ⟨fun x => ?_, hK _ ?_⟩; (first | fail); clear hK K))) | ((first | apply gAsk_no1 | apply gAsk_no2); kernel_rfl; intro K hK; simp [go_sem]; refine hK _ ?_; clear hK K) | (apply gAsk_part; kernel_rfl; all_goals (intro h K hK; (try simp only [Bool.not_true] at h); (try simp only [Bool.not_false] at h); (try simp only [decide_eq_true_eq] at h); (try simp only [decide_eq_false_iff_not] at h); first | (exfalso; first | contradiction | omega) | (go_simp; (try (simp only [↓IntWalk.iteOmega]; try go_simp)); (try simp (disch := omega) only [IntWalk.i64_in]); (try simp (disch := omega) only [IntWalk.u64_in]); first | (refine hK _ ?_; clear hK K) | (apply Exists.intro; refine ⟨fun x => ?_, hK _ ?_⟩; (first | fail); clear hK K))))))); all_goals ((apply gLex_end); intro x))
    go_wp2_with fail
    go_ret
    exact ⟨rfl, GG⟩
  · have hd : decide (0 ≤ e ∧ e < n ∧ a = -1 ∧ b = -1) = false := decide_eq_false hc
    rw [hd, Bool.false_and]
    clear hd HR
    have HC := hide hc
    clear hc
    have CG2 := hide (CG.out e)
    have HE : Hid (edgeB n e = decide (0 ≤ e ∧ e < n)) := rfl
    clear CG
    generalize edgeB n e = be at *
    cases be with
    | false =>
      go_enter Try.func79, Try.ntmps79
      go_wp2_with (go_at_call 103; refine (CG2.out _).mono ?_; rintro e w' ⟨rfl, hg⟩; obtain ⟨y1, rfl⟩ := hg.later; clear hg)
      go_ret
      exact ⟨rfl, GG⟩
    | true =>
      by_cases q3 : a = -1
      · have q4 : (b != -1) = true := by
          have := HC.out
          have h2 := of_decide_eq_true HE.out.symm
          simp only [bne_iff_ne, ne_eq]
          intro e4
          exact this ⟨h2.1, h2.2, q3, e4⟩
        subst q3
        go_enter Try.func79, Try.ntmps79
        go_wp2_with (go_at_call 103; refine (CG2.out _).mono ?_; rintro e w' ⟨rfl, hg⟩; obtain ⟨y1, rfl⟩ := hg.later; clear hg)
        go_ret
        exact ⟨rfl, GG⟩
      · have q4 : (a != -1) = true := by simpa using q3
        clear q3
        go_enter Try.func79, Try.ntmps79
        go_wp2_with (go_at_call 103; refine (CG2.out _).mono ?_; rintro e w' ⟨rfl, hg⟩; obtain ⟨y1, rfl⟩ := hg.later; clear hg)
        go_ret
        exact ⟨rfl, GG⟩
def firstB (p : Nat → Bool) : Nat → Nat
  | 0 => 0
  | n + 1 => if firstB p n < n then firstB p n else if p n = true then n else n + 1
theorem firstB_none (p : Nat → Bool) : ∀ n, (∀ j, j < n → p j = false) → firstB p n = n
  | 0, _ => rfl
  | n + 1, h => by
    unfold firstB
    rw [firstB_none p n (fun j hj => h j (by omega)), if_neg (by omega), if_neg (by rw [h n (by omega)]; exact Bool.false_ne_true)]
theorem firstB_at (p : Nat → Bool) {k : Nat} (h : ∀ j, j < k → p j = false) (hk : p k = true) : ∀ n, k < n → firstB p n = k
  | 0, hn => absurd hn (by omega)
  | n + 1, hn => by
    unfold firstB
    by_cases e : k = n
    · subst e
      rw [firstB_none p k h, if_neg (by omega), if_pos hk]
    · rw [firstB_at p h hk n (by omega), if_pos (by omega)]
def hmR (N : Int) (E : List Edg) (r : List Int) (S : List SI) : Int × Bool :=
  if rightF N E ≠ 0 then (-2, false) else if ((r.length : Int) = N ∧ rkB r = true) then
    (if firstB (fun i => !madeOne E r S i) S.length < S.length then (((firstB (fun i => !madeOne E r S i) S.length : Nat) : Int), false) else (0, true)) else (-1, false)
theorem hmR_graph {N : Int} {E : List Edg} {r : List Int} {S : List SI} (h : rightF N E ≠ 0) : hmR N E r S = (-2, false) := if_pos h
theorem hmR_rank {N : Int} {E : List Edg} {r : List Int} {S : List SI} (h : rightF N E = 0) (h2 : ¬ ((r.length : Int) = N ∧ rkB r = true)) : hmR N E r S = (-1, false) := by
  unfold hmR
  rw [if_neg (fun e => e h), if_neg h2]
theorem hmR_at {N : Int} {E : List Edg} {r : List Int} {S : List SI} (h : rightF N E = 0) (h2 : (r.length : Int) = N ∧ rkB r = true) {k : Nat} (hk : k < S.length) (ha : ∀ j, j < k → madeOne E r S j = true) (hn : madeOne E r S k = false) : hmR N E r S = ((k : Int), false) := by
  have e := firstB_at (fun i => !madeOne E r S i) (k := k) (fun j hj => by rw [ha j hj]; rfl) (by rw [hn]; rfl) S.length hk
  unfold hmR
  rw [if_neg (fun e => e h), if_pos h2, e, if_pos hk]
theorem hmR_all {N : Int} {E : List Edg} {r : List Int} {S : List SI} (h : rightF N E = 0) (h2 : (r.length : Int) = N ∧ rkB r = true) (ha : ∀ j, j < S.length → madeOne E r S j = true) : hmR N E r S = (0, true) := by
  have e := firstB_none (fun i => !madeOne E r S i) S.length (fun j hj => by rw [ha j hj]; rfl)
  unfold hmR
  rw [if_neg (fun e => e h), if_pos h2, e, if_neg (by omega)]
theorem madeSB_hmR {N : Int} {E : List Edg} {r : List Int} {S : List SI} (h : rightF N E = 0) (hm : madeSB N E r S = true) : hmR N E r S = (0, true) := by
  unfold madeSB at hm
  simp only [Bool.and_eq_true, decide_eq_true_eq] at hm
  exact hmR_all h ⟨hm.1, hm.2.1⟩ hm.2.2
set_option maxRecDepth 20000 in
set_option maxHeartbeats 4000000 in
theorem hiMade (N : Int) (A : Option Addr) (n c : Nat) (E : List Edg) (B : Option Addr) (m d : Nat) (r : List Int) (A2 : Option Addr) (n2 c2 : Nat) (S : List SI) (w : World) (h : Rd w A 3 n (esCells E)) (hn : n ≤ 1000000) (hr : Rd w B 1 m (r.map (.int .i64))) (hm : m ≤ 1000000) (hS : Rd w A2 6 n2 (sis S)) (hn2 : n2 ≤ 1000000) (hcap : n2 ≤ c2) :
    Calls Try.prog 51 #[.agg #[.int .i64 N, .slice A n c], .agg #[.slice B m d, .slice A2 n2 c2]] w fun e w' => e = .returned (.tuple #[.int .i64 (hmR N E r S).1, .bool (hmR N E r S).2]) ∧ Grows w w' := by
  have hrl : r.length = m := by simpa using hr.len
  have hsl : S.length = n2 := by have := hS.1; rw [sis_len] at this; omega
  have C0 := hide (fun (W : World) (g : Grows w W) => gRight N A n c E W (h.grows g) hn)
  have C1 := hide (fun (W : World) (g : Grows w W) => rkRight B m d r W (hr.grows g) hm)
  by_cases hok : rightF N E = 0
  · rw [hok] at C0
    by_cases hmn : (m : Int) = N
    · cases hrk : rkB r with
      | false =>
        rw [hrk] at C1
        rw [hmR_rank hok (fun e => by rw [hrk] at e; cases e.2)]
        subst hmn
        clear h hr hS hok hrk hrl hsl
        go_enter Try.func51, Try.ntmps51
        go_wp2_with (first
          | (go_at_call 56; refine (C0.out _ GG).mono ?_; rintro e w' ⟨rfl, hg⟩; obtain ⟨x1, rfl⟩ := hg.later; clear hg)
          | (go_at_call 68; refine (C1.out _ GG).mono ?_; rintro e w' ⟨rfl, hg⟩; obtain ⟨x2, rfl⟩ := hg.later; clear hg))
        exact bodyPost_ret (v := .tuple #[.int .i64 (-1), .bool false]) (by simp [results, Try.results51, go_sem]) rfl ⟨rfl, GG⟩
      | true =>
        rw [hrk] at C1
        have HRK := hide (And.intro (show (r.length : Int) = N by rw [hrl]; exact hmn) hrk)
        have HOK := hide hok
        have HSL := hide hsl
        have CE := hide (fun (i : Nat) (W : World) (g : Grows w W) => hiEdge N A n c E (gsi S i) W (h.grows g) hn)
        have CT := hide (fun (i : Nat) (hi : i < n2) (hall : ∀ j, j < i → madeOne E r S j = true) (W : World) (g : Grows w W) => hiTwo B A2 m d n2 c2 i r S W (hS.grows g) hi (hr.grows g) (by rw [← hrl]; exact made_ends hok (by rw [hrl]; exact hmn) i hall))
        have HS := hide hS
        unfold siVal at CE CT
        obtain ⟨RR, hRR⟩ : ∃ RR, RR = hmR N E r S := ⟨_, rfl⟩
        rw [← hRR]
        have HRR := hide hRR
        clear hRR
        subst hmn
        clear h hr hS hok hrk hrl hsl
        go_enter Try.func51, Try.ntmps51
        go_wp2_with (first
          | (go_at_call 56; refine (C0.out _ GG).mono ?_; rintro e w' ⟨rfl, hg⟩; obtain ⟨x1, rfl⟩ := hg.later; clear hg)
          | (go_at_call 68; refine (C1.out _ GG).mono ?_; rintro e w' ⟨rfl, hg⟩; obtain ⟨x2, rfl⟩ := hg.later; clear hg))
        clear C0 C1
        go_loopw [28] (fun i wr => ∃ k : Nat, k ≤ n2 ∧ i = .int .i64 (k : Int) ∧ (∃ y : Later x2.now, wr = y.now) ∧ Hid (∀ j, j < k → madeOne E r S j = true)) (fun i _ => n2 - (Go.RowKit.intOf i).toNat)
        case atStart => exact ⟨0, by omega, by go_num, ⟨⟨_, Grows.refl _⟩, rfl⟩, fun j h => by omega⟩
        case round =>
          obtain ⟨k, hk, rfl, ⟨y, rfl⟩, HA⟩ := hrel
          by_cases hlt : k < n2
          · obtain ⟨bb, off, rfl, hcc⟩ := HS.out.siH (by omega)
            obtain ⟨c1, c2', c3, c4, c5, c6⟩ := hcc k hlt
            have CE2 := hide (CE.out k)
            have CT2 := hide (CT.out k hlt HA.out)
            have HMO : Hid (madeOne E r S k = (edgeSB E (gsi S k) || twoSB r S k)) := rfl
            have hkc : k ≤ c2 := by omega
            clear hcc CE CT
            generalize edgeSB E (gsi S k) = b1 at *
            generalize twoSB r S k = b2 at *
            generalize (gsi S k).f = sf at *
            generalize (gsi S k).t = st at *
            generalize (gsi S k).w = sw at *
            generalize (gsi S k).e = se at *
            generalize (gsi S k).a = sa at *
            generalize (gsi S k).b = sb at *
            cases b1 with
            | true =>
              have HN : Hid (∀ j, j < k + 1 → madeOne E r S j = true) := fun j hj => by
                by_cases e : j = k
                · rw [e, HMO.out]; rfl
                · exact HA.out j (by omega)
              go_wp2_with fail
              ((first | refine wp_region_gen (by kernel_rfl) (by kernel_rfl) ?_); (repeat' (first | (refine gLex_val0 rfl (by kernel_rfl) (fun K hK => ?_); (go_simp; (try (simp only [↓IntWalk.iteOmega]; try go_simp)); (try simp (disch := omega) only [IntWalk.i64_in]); (try simp (disch := omega) only [IntWalk.u64_in]); first | (refine hK _ ?_; clear hK K) | (apply Exists.intro; refine ⟨fun x => ?_, hK _ ?_⟩; (first | (go_at_call 79; exact CE2.out _ GG)); clear hK K))) | (refine gLex_undef rfl rfl rfl (by kernel_rfl) (fun K hK => ?_); go_simp; refine hK _ ?_; clear hK K) | (refine gLex_ask rfl rfl rfl ?_; first | (apply gAsk_yes; kernel_rfl; intro K hK; (go_simp; (try (simp only [↓IntWalk.iteOmega]; try go_simp)); (try simp (disch := omega) only [IntWalk.i64_in]); (try simp (disch := omega) only [IntWalk.u64_in]); first | (refine hK _ ?_; clear hK K) | (apply Exists.intro; refine ⟨fun x => ?_, hK _ ?_⟩; (first | (go_at_call 79; exact CE2.out _ GG)); clear hK K))) | ((first | apply gAsk_no1 | apply gAsk_no2); kernel_rfl; intro K hK; simp [go_sem]; refine hK _ ?_; clear hK K) | (apply gAsk_part; kernel_rfl; all_goals (intro h K hK; (try simp only [Bool.not_true] at h); (try simp only [Bool.not_false] at h); (try simp only [decide_eq_true_eq] at h); (try simp only [decide_eq_false_iff_not] at h); first | (exfalso; first | contradiction | omega) | (go_simp; (try (simp only [↓IntWalk.iteOmega]; try go_simp)); (try simp (disch := omega) only [IntWalk.i64_in]); (try simp (disch := omega) only [IntWalk.u64_in]); first | (refine hK _ ?_; clear hK K) | (apply Exists.intro; refine ⟨fun x => ?_, hK _ ?_⟩; (first | (go_at_call 79; exact CE2.out _ GG)); clear hK K))))))); all_goals ((apply gLex_end); intro x))
              go_wp2_with fail
              go_roundw
              case measure => simp [Go.RowKit.intOf]; omega
              case rel => exact ⟨k + 1, by omega, by go_num, ⟨⟨_, GG⟩, rfl⟩, HN⟩
            | false =>
              cases b2 with
              | true =>
                have HN : Hid (∀ j, j < k + 1 → madeOne E r S j = true) := fun j hj => by
                  by_cases e : j = k
                  · rw [e, HMO.out]; rfl
                  · exact HA.out j (by omega)
                go_wp2_with fail
                ((first | refine wp_region_gen (by kernel_rfl) (by kernel_rfl) ?_); (repeat' (first | (refine gLex_val0 rfl (by kernel_rfl) (fun K hK => ?_); (go_simp; (try (simp only [↓IntWalk.iteOmega]; try go_simp)); (try simp (disch := omega) only [IntWalk.i64_in]); (try simp (disch := omega) only [IntWalk.u64_in]); first | (refine hK _ ?_; clear hK K) | (apply Exists.intro; refine ⟨fun x => ?_, hK _ ?_⟩; (first | (go_at_call 79; exact CE2.out _ GG) | (go_at_call 80; exact CT2.out _ GG)); clear hK K))) | (refine gLex_undef rfl rfl rfl (by kernel_rfl) (fun K hK => ?_); go_simp; refine hK _ ?_; clear hK K) | (refine gLex_ask rfl rfl rfl ?_; first | (apply gAsk_yes; kernel_rfl; intro K hK; (go_simp; (try (simp only [↓IntWalk.iteOmega]; try go_simp)); (try simp (disch := omega) only [IntWalk.i64_in]); (try simp (disch := omega) only [IntWalk.u64_in]); first | (refine hK _ ?_; clear hK K) | (apply Exists.intro; refine ⟨fun x => ?_, hK _ ?_⟩; (first | (go_at_call 79; exact CE2.out _ GG) | (go_at_call 80; exact CT2.out _ GG)); clear hK K))) | ((first | apply gAsk_no1 | apply gAsk_no2); kernel_rfl; intro K hK; simp [go_sem]; refine hK _ ?_; clear hK K) | (apply gAsk_part; kernel_rfl; all_goals (intro h K hK; (try simp only [Bool.not_true] at h); (try simp only [Bool.not_false] at h); (try simp only [decide_eq_true_eq] at h); (try simp only [decide_eq_false_iff_not] at h); first | (exfalso; first | contradiction | omega) | (go_simp; (try (simp only [↓IntWalk.iteOmega]; try go_simp)); (try simp (disch := omega) only [IntWalk.i64_in]); (try simp (disch := omega) only [IntWalk.u64_in]); first | (refine hK _ ?_; clear hK K) | (apply Exists.intro; refine ⟨fun x => ?_, hK _ ?_⟩; (first | (go_at_call 79; exact CE2.out _ GG) | (go_at_call 80; exact CT2.out _ GG)); clear hK K))))))); all_goals ((apply gLex_end); intro x))
                go_wp2_with fail
                go_roundw
                case measure => simp [Go.RowKit.intOf]; omega
                case rel => exact ⟨k + 1, by omega, by go_num, ⟨⟨_, GG⟩, rfl⟩, HN⟩
              | false =>
                have HB : Hid (RR = ((k : Int), false)) := hide (by rw [HRR.out]; exact hmR_at HOK.out HRK.out (by rw [HSL.out]; exact hlt) HA.out (by rw [HMO.out]; rfl))
                go_wp2_with fail
                ((first | refine wp_region_gen (by kernel_rfl) (by kernel_rfl) ?_); (repeat' (first | (refine gLex_val0 rfl (by kernel_rfl) (fun K hK => ?_); (go_simp; (try (simp only [↓IntWalk.iteOmega]; try go_simp)); (try simp (disch := omega) only [IntWalk.i64_in]); (try simp (disch := omega) only [IntWalk.u64_in]); first | (refine hK _ ?_; clear hK K) | (apply Exists.intro; refine ⟨fun x => ?_, hK _ ?_⟩; (first | (go_at_call 79; exact CE2.out _ GG) | (go_at_call 80; exact CT2.out _ GG)); clear hK K))) | (refine gLex_undef rfl rfl rfl (by kernel_rfl) (fun K hK => ?_); go_simp; refine hK _ ?_; clear hK K) | (refine gLex_ask rfl rfl rfl ?_; first | (apply gAsk_yes; kernel_rfl; intro K hK; (go_simp; (try (simp only [↓IntWalk.iteOmega]; try go_simp)); (try simp (disch := omega) only [IntWalk.i64_in]); (try simp (disch := omega) only [IntWalk.u64_in]); first | (refine hK _ ?_; clear hK K) | (apply Exists.intro; refine ⟨fun x => ?_, hK _ ?_⟩; (first | (go_at_call 79; exact CE2.out _ GG) | (go_at_call 80; exact CT2.out _ GG)); clear hK K))) | ((first | apply gAsk_no1 | apply gAsk_no2); kernel_rfl; intro K hK; simp [go_sem]; refine hK _ ?_; clear hK K) | (apply gAsk_part; kernel_rfl; all_goals (intro h K hK; (try simp only [Bool.not_true] at h); (try simp only [Bool.not_false] at h); (try simp only [decide_eq_true_eq] at h); (try simp only [decide_eq_false_iff_not] at h); first | (exfalso; first | contradiction | omega) | (go_simp; (try (simp only [↓IntWalk.iteOmega]; try go_simp)); (try simp (disch := omega) only [IntWalk.i64_in]); (try simp (disch := omega) only [IntWalk.u64_in]); first | (refine hK _ ?_; clear hK K) | (apply Exists.intro; refine ⟨fun x => ?_, hK _ ?_⟩; (first | (go_at_call 79; exact CE2.out _ GG) | (go_at_call 80; exact CT2.out _ GG)); clear hK K))))))); all_goals ((apply gLex_end); intro x))
                go_wp2_with fail
                exact bodyPost_ret (v := .tuple #[.int .i64 (k : Int), .bool false]) (by simp [results, Try.results51, go_sem]) rfl ⟨by rw [HB.out], GG⟩
          · obtain rfl : k = n2 := by omega
            have HB : Hid (RR = (0, true)) := hide (by rw [HRR.out]; exact hmR_all HOK.out HRK.out (by rw [HSL.out]; exact HA.out))
            go_wp2_with fail
            exact bodyPost_ret (v := .tuple #[.int .i64 0, .bool true]) (by simp [results, Try.results51, go_sem]) rfl ⟨by rw [HB.out], GG⟩
    · rw [hmR_rank hok (fun e => hmn (by rw [← hrl]; exact e.1))]
      have hne : ((m : Int) != N) = true := by simpa using hmn
      clear h hr hS hok hmn hrl hsl
      go_enter Try.func51, Try.ntmps51
      go_wp2_with (go_at_call 56; refine (C0.out _ GG).mono ?_; rintro e w' ⟨rfl, hg⟩; obtain ⟨x1, rfl⟩ := hg.later; clear hg)
      exact bodyPost_ret (v := .tuple #[.int .i64 (-1), .bool false]) (by simp [results, Try.results51, go_sem]) rfl ⟨rfl, GG⟩
  · rw [hmR_graph hok]
    have hb : (rightF N E != 0) = true := by simpa using hok
    clear h hr hS hok hrl hsl
    generalize rightF N E = r0 at *
    go_enter Try.func51, Try.ntmps51
    go_wp2_with (go_at_call 56; refine (C0.out _ GG).mono ?_; rintro e w' ⟨rfl, hg⟩; obtain ⟨x1, rfl⟩ := hg.later; clear hg)
    exact bodyPost_ret (v := .tuple #[.int .i64 (-2), .bool false]) (by simp [results, Try.results51, go_sem]) rfl ⟨rfl, GG⟩
end Go.Proofs.Yteodapefimlakaa

/- Contracts: a hierarchy copied. -/
namespace Go.Proofs.Yteodapefimlakaa
open Go Go.RowKit
attribute [local go_sem] Oper.semAt_some
theorem si_one (S : List SI) : ∀ u ∈ sis S, u.oneCell' = true := by
  intro u hu
  obtain ⟨e, _, h⟩ := List.mem_flatMap.1 hu
  unfold siCells at h
  simp at h
  rcases h with rfl | rfl | rfl | rfl | rfl | rfl <;> rfl
set_option maxRecDepth 20000 in
set_option maxHeartbeats 2000000 in
theorem cloneSc (A : Option Addr) (n c : Nat) (S : List SI) (w : World) (h : Rd w A 6 n (sis S)) (hn : n ≤ 1000000) :
    Calls Try.prog 82 #[.slice A n c] w fun e w' => ∃ A' c', e = .returned (.slice A' n c') ∧ Own w' w.heap.size 45 6 A' n c' (sis S) ∧ Grows w w' := by
  have hl : S.length = n := by have := h.1; rw [sis_len] at this; omega
  cases A with
  | none =>
    have hn0 : n = 0 := by
      rcases Nat.eq_zero_or_pos n with h0 | h0
      · exact h0
      · obtain ⟨_, _, e, _⟩ := h.2 h0 (by omega); cases e
    subst hn0
    have hE : S = [] := List.eq_nil_of_length_eq_zero hl
    subst hE
    clear h hl
    have hnil := fun (w : World) (a : Option Addr) (n c n' c' : Nat) => Lib.run_eql_slice_nil (P := Try.prog) w 26 45 a n c n' c' Try.underlying26
    go_enter Try.func82, Try.ntmps82
    go_wp2
    go_ret
    exact ⟨none, 0, rfl, Own.nil _ _ _ _, GG⟩
  | some ad =>
    have HR := hide h
    have HE1 := hide (si_one S)
    clear h hl
    have hnil := fun (w : World) (a : Option Addr) (n c n' c' : Nat) => Lib.run_eql_slice_nil (P := Try.prog) w 26 45 a n c n' c' Try.underlying26
    generalize sis S = xs at *
    go_enter Try.func82, Try.ntmps82
    go_wp2_with (at_builtin; refine wp_appAll elemSc rfl _ _ rfl w GG 0 0 _ [] rfl (Own.empty _ _ _ _ (Nat.le_refl _)) ad n c _ rfl (HR.out.grows GG) HE1.out (by omega) ?_; intro A3 c3 y3 hown3; have HO3 := hide hown3; clear hown3)
    go_ret
    exact ⟨A3, c3, by first | rfl | (simp; done) | (rw [Nat.zero_add]; rfl), by have := HO3.out; rwa [Nat.zero_add, List.nil_append] at this, GG⟩
set_option maxRecDepth 20000 in
set_option maxHeartbeats 2000000 in
theorem cloneIH (A : Option Addr) (n c : Nat) (l : List Int) (w : World) (h : Rd w A 1 n (l.map (.int .i64))) (hn : n ≤ 1000000) :
    Calls Try.prog 55 #[.slice A n c] w fun e w' => ∃ A' c', e = .returned (.slice A' n c') ∧ Own w' w.heap.size 3 1 A' n c' (l.map (.int .i64)) ∧ Grows w w' := by
  have hl : l.length = n := by simpa using h.len
  cases A with
  | none =>
    have hn0 : n = 0 := by
      rcases Nat.eq_zero_or_pos n with h0 | h0
      · exact h0
      · obtain ⟨_, _, e, _⟩ := h.2 h0 (by omega); cases e
    subst hn0
    have hE : l = [] := List.eq_nil_of_length_eq_zero hl
    subst hE
    clear h hl
    have hnil := fun (w : World) (a : Option Addr) (n c n' c' : Nat) => Lib.run_eql_slice_nil (P := Try.prog) w 25 3 a n c n' c' Try.underlying25
    go_enter Try.func55, Try.ntmps55
    go_wp2
    go_ret
    exact ⟨none, 0, rfl, Own.nil _ _ _ _, GG⟩
  | some ad =>
    have HR := hide h
    have HE1 := hide (show ∀ u ∈ l.map (Value.int .i64), u.oneCell' = true from fun u hu => by
      obtain ⟨x, _, rfl⟩ := List.mem_map.1 hu
      rfl)
    clear h hl
    have hnil := fun (w : World) (a : Option Addr) (n c n' c' : Nat) => Lib.run_eql_slice_nil (P := Try.prog) w 25 3 a n c n' c' Try.underlying25
    generalize l.map (Value.int .i64) = xs at *
    go_enter Try.func55, Try.ntmps55
    go_wp2_with (at_builtin; refine wp_appAll elemInt rfl _ _ rfl w GG 0 0 _ [] rfl (Own.empty _ _ _ _ (Nat.le_refl _)) ad n c _ rfl (HR.out.grows GG) HE1.out (by omega) ?_; intro A3 c3 y3 hown3; have HO3 := hide hown3; clear hown3)
    go_ret
    exact ⟨A3, c3, by first | rfl | (simp; done) | (rw [Nat.zero_add]; rfl), by have := HO3.out; rwa [Nat.zero_add, List.nil_append] at this, GG⟩
def GiveHC (w : World) (m n : Nat) (l : List Int) (S : List SI) (e : Ending) (w' : World) : Prop := ∃ B d A c, e = .returned (.agg #[.slice B m d, .slice A n c]) ∧ Own w' w.heap.size 3 1 B m d (l.map (.int .i64)) ∧ Own w' w.heap.size 45 6 A n c (sis S) ∧ Grows w w'
set_option maxRecDepth 20000 in
set_option maxHeartbeats 4000000 in
theorem hiClone (B : Option Addr) (m d : Nat) (l : List Int) (A : Option Addr) (n c : Nat) (S : List SI) (w : World) (h : Rd w B 1 m (l.map (.int .i64))) (hm : m ≤ 1000000) (hS : Rd w A 6 n (sis S)) (hn : n ≤ 1000000) :
    Calls Try.prog 53 #[.agg #[.slice B m d, .slice A n c]] w (GiveHC w m n l S) := by
  have C1 := hide (fun (W : World) (g : Grows w W) => cloneIH B m d l W (h.grows g) hm)
  have C2 := hide (fun (W : World) (g : Grows w W) => cloneSc A n c S W (hS.grows g) hn)
  clear h hS
  go_enter Try.func53, Try.ntmps53
  go_upto_region 1 with fail
  go_region_with (first
    | (go_at_call 55; refine (C1.out _ GG).mono ?_; rintro e w' ⟨A1, c1, rfl, ho1, hg⟩; obtain ⟨x1, rfl⟩ := hg.later; have HO1 := hide ho1; clear hg ho1)
    | (go_at_call 82; refine (C2.out _ GG).mono ?_; rintro e w' ⟨A2, c2, rfl, ho2, hg⟩; obtain ⟨x2, rfl⟩ := hg.later; have HO2 := hide ho2; clear hg ho2))
  all_goals go_wp2_with fail
  all_goals refine bodyPost_ret (v := .agg #[.slice A1 m c1, .slice A2 n c2]) (by simp (maxDischargeDepth := 6) [results, Try.results53, go_sem, *]) rfl ⟨A1, c1, A2, c2, rfl, ?_, ?_, GG⟩
  all_goals have hz1 := x1.size
  all_goals have hz2 := x2.size
  all_goals simp at hz1 hz2
  all_goals first
    | exact ((HO1.out.low (by first | (simp; done) | (simp; omega) | omega) _).low (by first | (simp; done) | (simp; omega) | omega) _).base (by first | (simp; done) | (simp; omega) | omega)
    | exact (((HO1.out.grows x2.grows).low (by first | (simp; done) | (simp; omega) | omega) _).low (by first | (simp; done) | (simp; omega) | omega) _).base (by first | (simp; done) | (simp; omega) | omega)
    | exact ((HO2.out.low (by first | (simp; done) | (simp; omega) | omega) _).low (by first | (simp; done) | (simp; omega) | omega) _).base (by first | (simp; done) | (simp; omega) | omega)
    | exact (((HO2.out.grows x1.grows).low (by first | (simp; done) | (simp; omega) | omega) _).low (by first | (simp; done) | (simp; omega) | omega) _).base (by first | (simp; done) | (simp; omega) | omega)
end Go.Proofs.Yteodapefimlakaa
