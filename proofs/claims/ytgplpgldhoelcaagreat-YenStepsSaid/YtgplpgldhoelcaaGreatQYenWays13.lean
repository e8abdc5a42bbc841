/- Contracts: the answer's order of routes: the same ones are the same. -/
import Derived.Test.YtgplpgldhoelcaaGreatQYenWays01
import Derived.Test.YtgplpgldhoelcaaGreatQYenWays05
import Derived.Test.YtgplpgldhoelcaaGreatQYenWays11
import Derived.Test.YtgplpgldhoelcaaGreatQYenWays12
namespace Go.Proofs.YtgplpgldhoelcaaGreat
open Go Go.RowKit
set_option maxRecDepth 20000 in
set_option maxHeartbeats 2000000 in
theorem r8LessEq (A : Option Addr) (n c : Nat) (l : List Int) (B : Option Addr) (d : Nat) (w : World) (h : Rd w A 1 n (l.map (.int .i64))) (hn : n ≤ 1000000) (h' : Rd w B 1 n (l.map (.int .i64))) :
    Calls Tryz.prog 75 #[.slice A n c, .slice B n d] w fun e w' => e = .returned (.int .i64 0) ∧ Grows w w' := by
  have HL := hide (show l.length = n by simpa using h.len)
  have HR := hide h
  have HR2 := hide h'
  clear h h'
  go_enter Tryz.func75, Tryz.ntmps75
  go_wp2_with fail
  go_loopw [5] (fun i wr => ∃ k : Nat, k ≤ n ∧ i = .int .i64 (k : Int) ∧ (∃ x : Later w, wr = x.now)) (fun i _ => n - (intOf i).toNat)
  case atStart => exact ⟨0, by omega, by go_num, ⟨⟨w, Grows.refl w⟩, rfl⟩⟩
  case round =>
    obtain ⟨q, hq, rfl, ⟨x, rfl⟩⟩ := hrel
    by_cases hend : n ≤ q
    · go_wp2_with fail
      go_ret
      exact ⟨rfl, GG⟩
    · obtain ⟨b, off, rfl, hc⟩ := HR.out.ints (by omega)
      have hc1 := Holds.mk (hc q (by omega))
      obtain ⟨b2, off2, rfl, hc2⟩ := HR2.out.ints (by omega)
      have hc3 := Holds.mk (hc2 q (by omega))
      clear hc hc2
      have hd : decide (gi l q < gi l q) = false := decide_eq_false (Int.lt_irrefl _)
      generalize gi l q = z at *
      go_wp2_with fail
      ((first | refine wp_region_gen2 (by kernel_rfl) (by kernel_rfl) ?_ | refine wp_region_gen (by kernel_rfl) (by kernel_rfl) ?_); (repeat' (first | (refine gLex_val0 rfl (by kernel_rfl) (fun K hK => ?_); (go_simp; (try (simp only [↓IntWalk.iteOmega]; try go_simp)); (try simp (disch := omega) only [IntWalk.i64_in]); (try simp (disch := omega) only [IntWalk.u64_in]); first | (refine hK _ ?_; clear hK K) | (apply Exists.intro; refine ⟨fun x => ?_, hK _ ?_⟩; (first | fail); clear hK K))) | (refine gLex_undef rfl rfl rfl (by kernel_rfl) (fun K hK => ?_); go_simp; refine hK _ ?_; clear hK K) | (refine gLex_ask rfl rfl rfl ?_; first | (apply gAsk_yes; kernel_rfl; intro K hK; (go_simp; (try (simp only [↓IntWalk.iteOmega]; try go_simp)); (try simp (disch := omega) only [IntWalk.i64_in]); (try simp (disch := omega) only [IntWalk.u64_in]); first | (refine hK _ ?_; clear hK K) | (apply Exists.intro; refine ⟨fun x => ?_, hK _ ?_⟩; (first | fail); clear hK K))) | ((first | apply gAsk_no1 | apply gAsk_no2); kernel_rfl; intro K hK; simp [go_sem]; refine hK _ ?_; clear hK K) | (apply gAsk_part; kernel_rfl; all_goals (intro h K hK; (try simp only [Bool.not_true] at h); (try simp only [Bool.not_false] at h); (try simp only [decide_eq_true_eq] at h); (try simp only [decide_eq_false_iff_not] at h); first | (exfalso; first | contradiction | omega) | (go_simp; (try (simp only [↓IntWalk.iteOmega]; try go_simp)); (try simp (disch := omega) only [IntWalk.i64_in]); (try simp (disch := omega) only [IntWalk.u64_in]); first | (refine hK _ ?_; clear hK K) | (apply Exists.intro; refine ⟨fun x => ?_, hK _ ?_⟩; (first | fail); clear hK K))))))); all_goals ((apply gLex_end); intro y))
      go_wp2_with fail
      ((first | refine wp_region_gen2 (by kernel_rfl) (by kernel_rfl) ?_ | refine wp_region_gen (by kernel_rfl) (by kernel_rfl) ?_); (repeat' (first | (refine gLex_val0 rfl (by kernel_rfl) (fun K hK => ?_); (go_simp; (try (simp only [↓IntWalk.iteOmega]; try go_simp)); (try simp (disch := omega) only [IntWalk.i64_in]); (try simp (disch := omega) only [IntWalk.u64_in]); first | (refine hK _ ?_; clear hK K) | (apply Exists.intro; refine ⟨fun x => ?_, hK _ ?_⟩; (first | fail); clear hK K))) | (refine gLex_undef rfl rfl rfl (by kernel_rfl) (fun K hK => ?_); go_simp; refine hK _ ?_; clear hK K) | (refine gLex_ask rfl rfl rfl ?_; first | (apply gAsk_yes; kernel_rfl; intro K hK; (go_simp; (try (simp only [↓IntWalk.iteOmega]; try go_simp)); (try simp (disch := omega) only [IntWalk.i64_in]); (try simp (disch := omega) only [IntWalk.u64_in]); first | (refine hK _ ?_; clear hK K) | (apply Exists.intro; refine ⟨fun x => ?_, hK _ ?_⟩; (first | fail); clear hK K))) | ((first | apply gAsk_no1 | apply gAsk_no2); kernel_rfl; intro K hK; simp [go_sem]; refine hK _ ?_; clear hK K) | (apply gAsk_part; kernel_rfl; all_goals (intro h K hK; (try simp only [Bool.not_true] at h); (try simp only [Bool.not_false] at h); (try simp only [decide_eq_true_eq] at h); (try simp only [decide_eq_false_iff_not] at h); first | (exfalso; first | contradiction | omega) | (go_simp; (try (simp only [↓IntWalk.iteOmega]; try go_simp)); (try simp (disch := omega) only [IntWalk.i64_in]); (try simp (disch := omega) only [IntWalk.u64_in]); first | (refine hK _ ?_; clear hK K) | (apply Exists.intro; refine ⟨fun x => ?_, hK _ ?_⟩; (first | fail); clear hK K))))))); all_goals ((apply gLex_end); intro y2))
      go_wp2_with fail
      go_roundw
      case measure => simp [intOf]; omega
      case rel => exact ⟨q + 1, by omega, by go_num, ⟨⟨_, GG⟩, rfl⟩⟩
def rVal (A : Option Addr) (n c f : Nat) : Value := .agg #[.slice A n c, .int .u64 (f : Int)]
set_option maxHeartbeats 2000000 in
theorem r8CmpEq (A : Option Addr) (n c : Nat) (l : List Int) (B : Option Addr) (d f : Nat) (w : World) (h : Rd w A 1 n (l.map (.int .i64))) (hn : n ≤ 1000000) (h' : Rd w B 1 n (l.map (.int .i64))) :
    Calls Tryz.prog 24 #[rVal A n c f, rVal B n d f] w fun e w' => e = .returned (.int .i64 0) ∧ Grows w w' := by
  have C1 := hide (fun (W1 : World) (g : Grows w W1) => r8LessEq A n c l B d W1 (h.grows g) hn (h'.grows g))
  have hd : decide ((f : Int) < (f : Int)) = false := decide_eq_false (Int.lt_irrefl _)
  clear h h'
  unfold rVal
  go_enter Tryz.func24, Tryz.ntmps24
  go_wp2_with fail
  refine (C1.out _ GG).mono ?_; rintro e w' ⟨rfl, hg⟩; obtain ⟨x1, rfl⟩ := hg.later; clear hg
  go_wp2_with fail
  go_ret
  exact ⟨rfl, GG⟩
end Go.Proofs.YtgplpgldhoelcaaGreat

namespace Go.Proofs.YtgplpgldhoelcaaGreat
open Go Go.RowKit
attribute [local go_sem] Oper.semAt_some
theorem cmpL_drop {a b : List Nat} {k : Nat} (h : a.take k = b.take k) : cmpL a b = cmpL (a.drop k) (b.drop k) := by
  conv => lhs; rw [← List.take_append_drop k a, ← List.take_append_drop k b, h]
  exact cmpL_pre _
theorem drop_gn {l : List Nat} {k : Nat} (h : k < l.length) : l.drop k = gn l k :: l.drop (k + 1) := by
  rw [List.drop_eq_getElem_cons h]
  simp [gn, h]
theorem nv_gi (l : List Nat) : nv l = (l.map fun (x : Nat) => (x : Int)).map (.int .i64) := by simp [nv]
theorem Rd.natsH {w : World} {A : Option Addr} {n : Nat} {l : List Nat} (h : Rd w A 1 n (nv l)) (hn : 0 < n) : ∃ b off, A = some ⟨b, off, none⟩ ∧ ∀ k, k < n → Holds w ⟨b, off + k, none⟩ (.int .i64 (gn l k : Int)) := by
  rw [nv_gi] at h
  obtain ⟨b, off, rfl, hc⟩ := h.intsH hn
  refine ⟨b, off, rfl, fun k hk => ?_⟩
  have := hc k hk
  have hl : l.length = n := by simpa using h.len
  rwa [show gi (l.map fun (x : Nat) => (x : Int)) k = (gn l k : Int) by simp [gi, gn, show k < l.length by omega]] at this
set_option maxRecDepth 20000 in
set_option maxHeartbeats 2000000 in
theorem r8LessG (A : Option Addr) (n c : Nat) (l : List Nat) (B : Option Addr) (m d : Nat) (l' : List Nat) (w : World) (h : Rd w A 1 n (nv l)) (hn : n ≤ 1000000) (h' : Rd w B 1 m (nv l')) (hm : m ≤ 1000000) :
    Calls Tryz.prog 75 #[.slice A n c, .slice B m d] w fun e w' => e = .returned (.int .i64 (cmpL l l')) ∧ Grows w w' := by
  have HL := hide (show l.length = n by simpa [nv] using h.len)
  have HM := hide (show l'.length = m by simpa [nv] using h'.len)
  have HR := hide h
  have HR2 := hide h'
  clear h h'
  go_enter Tryz.func75, Tryz.ntmps75
  go_wp2_with fail
  go_loopw [5] (fun i wr => ∃ k : Nat, k ≤ n ∧ k ≤ m ∧ i = .int .i64 (k : Int) ∧ Hid (l.take k = l'.take k) ∧ (∃ x : Later w, wr = x.now)) (fun i _ => n - (Go.RowKit.intOf i).toNat)
  case atStart => exact ⟨0, by omega, by omega, by go_num, rfl, ⟨⟨w, Grows.refl w⟩, rfl⟩⟩
  case round =>
    obtain ⟨q, hq, hqm, rfl, HT, ⟨x, rfl⟩⟩ := hrel
    have HC := hide (cmpL_drop HT.out)
    by_cases hend : q < n
    · by_cases hend2 : q < m
      · obtain ⟨b, off, rfl, hc⟩ := HR.out.natsH (by omega)
        have hc1 := hc q hend
        obtain ⟨b2, off2, rfl, hc2⟩ := HR2.out.natsH (by omega)
        have hc3 := hc2 q hend2
        clear hc hc2
        have HD := hide (drop_gn (l := l) (k := q) (by rw [HL.out]; exact hend))
        have HD2 := hide (drop_gn (l := l') (k := q) (by rw [HM.out]; exact hend2))
        have HS := hide (take_succ_gn (l := l) (i := q) (by rw [HL.out]; exact hend))
        have HS2 := hide (take_succ_gn (l := l') (i := q) (by rw [HM.out]; exact hend2))
        generalize gn l q = z at *
        generalize gn l' q = z' at *
        rcases Nat.lt_trichotomy z z' with hz | hz | hz
        · go_wp2_with fail
          ((first | refine wp_region_gen2 (by kernel_rfl) (by kernel_rfl) ?_ | refine wp_region_gen (by kernel_rfl) (by kernel_rfl) ?_); (repeat' (first | (refine gLex_val0 rfl (by kernel_rfl) (fun K hK => ?_); (go_simp; (try (simp only [↓IntWalk.iteOmega]; try go_simp)); (try simp (disch := omega) only [IntWalk.i64_in]); (try simp (disch := omega) only [IntWalk.u64_in]); first | (refine hK _ ?_; clear hK K) | (apply Exists.intro; refine ⟨fun x => ?_, hK _ ?_⟩; (first | fail); clear hK K))) | (refine gLex_undef rfl rfl rfl (by kernel_rfl) (fun K hK => ?_); go_simp; refine hK _ ?_; clear hK K) | (refine gLex_ask rfl rfl rfl ?_; first | (apply gAsk_yes; kernel_rfl; intro K hK; (go_simp; (try (simp only [↓IntWalk.iteOmega]; try go_simp)); (try simp (disch := omega) only [IntWalk.i64_in]); (try simp (disch := omega) only [IntWalk.u64_in]); first | (refine hK _ ?_; clear hK K) | (apply Exists.intro; refine ⟨fun x => ?_, hK _ ?_⟩; (first | fail); clear hK K))) | ((first | apply gAsk_no1 | apply gAsk_no2); kernel_rfl; intro K hK; simp [go_sem]; refine hK _ ?_; clear hK K) | (apply gAsk_part; kernel_rfl; all_goals (intro h K hK; (try simp only [Bool.not_true] at h); (try simp only [Bool.not_false] at h); (try simp only [decide_eq_true_eq] at h); (try simp only [decide_eq_false_iff_not] at h); first | (exfalso; first | contradiction | omega) | (go_simp; (try (simp only [↓IntWalk.iteOmega]; try go_simp)); (try simp (disch := omega) only [IntWalk.i64_in]); (try simp (disch := omega) only [IntWalk.u64_in]); first | (refine hK _ ?_; clear hK K) | (apply Exists.intro; refine ⟨fun x => ?_, hK _ ?_⟩; (first | fail); clear hK K))))))); all_goals ((apply gLex_end); intro y))
          go_wp2_with fail
          go_ret
          exact ⟨ret_int (by rw [HC.out, HD.out, HD2.out, cmpL, if_pos hz]), GG⟩
        · subst hz
          have hz1 : ¬ z < z := by omega
          go_wp2_with fail
          ((first | refine wp_region_gen2 (by kernel_rfl) (by kernel_rfl) ?_ | refine wp_region_gen (by kernel_rfl) (by kernel_rfl) ?_); (repeat' (first | (refine gLex_val0 rfl (by kernel_rfl) (fun K hK => ?_); (go_simp; (try (simp only [↓IntWalk.iteOmega]; try go_simp)); (try simp (disch := omega) only [IntWalk.i64_in]); (try simp (disch := omega) only [IntWalk.u64_in]); first | (refine hK _ ?_; clear hK K) | (apply Exists.intro; refine ⟨fun x => ?_, hK _ ?_⟩; (first | fail); clear hK K))) | (refine gLex_undef rfl rfl rfl (by kernel_rfl) (fun K hK => ?_); go_simp; refine hK _ ?_; clear hK K) | (refine gLex_ask rfl rfl rfl ?_; first | (apply gAsk_yes; kernel_rfl; intro K hK; (go_simp; (try (simp only [↓IntWalk.iteOmega]; try go_simp)); (try simp (disch := omega) only [IntWalk.i64_in]); (try simp (disch := omega) only [IntWalk.u64_in]); first | (refine hK _ ?_; clear hK K) | (apply Exists.intro; refine ⟨fun x => ?_, hK _ ?_⟩; (first | fail); clear hK K))) | ((first | apply gAsk_no1 | apply gAsk_no2); kernel_rfl; intro K hK; simp [go_sem]; refine hK _ ?_; clear hK K) | (apply gAsk_part; kernel_rfl; all_goals (intro h K hK; (try simp only [Bool.not_true] at h); (try simp only [Bool.not_false] at h); (try simp only [decide_eq_true_eq] at h); (try simp only [decide_eq_false_iff_not] at h); first | (exfalso; first | contradiction | omega) | (go_simp; (try (simp only [↓IntWalk.iteOmega]; try go_simp)); (try simp (disch := omega) only [IntWalk.i64_in]); (try simp (disch := omega) only [IntWalk.u64_in]); first | (refine hK _ ?_; clear hK K) | (apply Exists.intro; refine ⟨fun x => ?_, hK _ ?_⟩; (first | fail); clear hK K))))))); all_goals ((apply gLex_end); intro y))
          go_wp2_with fail
          ((first | refine wp_region_gen2 (by kernel_rfl) (by kernel_rfl) ?_ | refine wp_region_gen (by kernel_rfl) (by kernel_rfl) ?_); (repeat' (first | (refine gLex_val0 rfl (by kernel_rfl) (fun K hK => ?_); (go_simp; (try (simp only [↓IntWalk.iteOmega]; try go_simp)); (try simp (disch := omega) only [IntWalk.i64_in]); (try simp (disch := omega) only [IntWalk.u64_in]); first | (refine hK _ ?_; clear hK K) | (apply Exists.intro; refine ⟨fun x => ?_, hK _ ?_⟩; (first | fail); clear hK K))) | (refine gLex_undef rfl rfl rfl (by kernel_rfl) (fun K hK => ?_); go_simp; refine hK _ ?_; clear hK K) | (refine gLex_ask rfl rfl rfl ?_; first | (apply gAsk_yes; kernel_rfl; intro K hK; (go_simp; (try (simp only [↓IntWalk.iteOmega]; try go_simp)); (try simp (disch := omega) only [IntWalk.i64_in]); (try simp (disch := omega) only [IntWalk.u64_in]); first | (refine hK _ ?_; clear hK K) | (apply Exists.intro; refine ⟨fun x => ?_, hK _ ?_⟩; (first | fail); clear hK K))) | ((first | apply gAsk_no1 | apply gAsk_no2); kernel_rfl; intro K hK; simp [go_sem]; refine hK _ ?_; clear hK K) | (apply gAsk_part; kernel_rfl; all_goals (intro h K hK; (try simp only [Bool.not_true] at h); (try simp only [Bool.not_false] at h); (try simp only [decide_eq_true_eq] at h); (try simp only [decide_eq_false_iff_not] at h); first | (exfalso; first | contradiction | omega) | (go_simp; (try (simp only [↓IntWalk.iteOmega]; try go_simp)); (try simp (disch := omega) only [IntWalk.i64_in]); (try simp (disch := omega) only [IntWalk.u64_in]); first | (refine hK _ ?_; clear hK K) | (apply Exists.intro; refine ⟨fun x => ?_, hK _ ?_⟩; (first | fail); clear hK K))))))); all_goals ((apply gLex_end); intro y2))
          go_wp2_with fail
          exact ⟨⟨q + 1, by omega, by omega, by go_num, by rw [HS.out, HS2.out, HT.out]; exact rfl, ⟨⟨_, GG⟩, rfl⟩⟩, by simp [Go.RowKit.intOf]; omega⟩
        · have hz1 : ¬ z < z' := by omega
          go_wp2_with fail
          ((first | refine wp_region_gen2 (by kernel_rfl) (by kernel_rfl) ?_ | refine wp_region_gen (by kernel_rfl) (by kernel_rfl) ?_); (repeat' (first | (refine gLex_val0 rfl (by kernel_rfl) (fun K hK => ?_); (go_simp; (try (simp only [↓IntWalk.iteOmega]; try go_simp)); (try simp (disch := omega) only [IntWalk.i64_in]); (try simp (disch := omega) only [IntWalk.u64_in]); first | (refine hK _ ?_; clear hK K) | (apply Exists.intro; refine ⟨fun x => ?_, hK _ ?_⟩; (first | fail); clear hK K))) | (refine gLex_undef rfl rfl rfl (by kernel_rfl) (fun K hK => ?_); go_simp; refine hK _ ?_; clear hK K) | (refine gLex_ask rfl rfl rfl ?_; first | (apply gAsk_yes; kernel_rfl; intro K hK; (go_simp; (try (simp only [↓IntWalk.iteOmega]; try go_simp)); (try simp (disch := omega) only [IntWalk.i64_in]); (try simp (disch := omega) only [IntWalk.u64_in]); first | (refine hK _ ?_; clear hK K) | (apply Exists.intro; refine ⟨fun x => ?_, hK _ ?_⟩; (first | fail); clear hK K))) | ((first | apply gAsk_no1 | apply gAsk_no2); kernel_rfl; intro K hK; simp [go_sem]; refine hK _ ?_; clear hK K) | (apply gAsk_part; kernel_rfl; all_goals (intro h K hK; (try simp only [Bool.not_true] at h); (try simp only [Bool.not_false] at h); (try simp only [decide_eq_true_eq] at h); (try simp only [decide_eq_false_iff_not] at h); first | (exfalso; first | contradiction | omega) | (go_simp; (try (simp only [↓IntWalk.iteOmega]; try go_simp)); (try simp (disch := omega) only [IntWalk.i64_in]); (try simp (disch := omega) only [IntWalk.u64_in]); first | (refine hK _ ?_; clear hK K) | (apply Exists.intro; refine ⟨fun x => ?_, hK _ ?_⟩; (first | fail); clear hK K))))))); all_goals ((apply gLex_end); intro y))
          go_wp2_with fail
          ((first | refine wp_region_gen2 (by kernel_rfl) (by kernel_rfl) ?_ | refine wp_region_gen (by kernel_rfl) (by kernel_rfl) ?_); (repeat' (first | (refine gLex_val0 rfl (by kernel_rfl) (fun K hK => ?_); (go_simp; (try (simp only [↓IntWalk.iteOmega]; try go_simp)); (try simp (disch := omega) only [IntWalk.i64_in]); (try simp (disch := omega) only [IntWalk.u64_in]); first | (refine hK _ ?_; clear hK K) | (apply Exists.intro; refine ⟨fun x => ?_, hK _ ?_⟩; (first | fail); clear hK K))) | (refine gLex_undef rfl rfl rfl (by kernel_rfl) (fun K hK => ?_); go_simp; refine hK _ ?_; clear hK K) | (refine gLex_ask rfl rfl rfl ?_; first | (apply gAsk_yes; kernel_rfl; intro K hK; (go_simp; (try (simp only [↓IntWalk.iteOmega]; try go_simp)); (try simp (disch := omega) only [IntWalk.i64_in]); (try simp (disch := omega) only [IntWalk.u64_in]); first | (refine hK _ ?_; clear hK K) | (apply Exists.intro; refine ⟨fun x => ?_, hK _ ?_⟩; (first | fail); clear hK K))) | ((first | apply gAsk_no1 | apply gAsk_no2); kernel_rfl; intro K hK; simp [go_sem]; refine hK _ ?_; clear hK K) | (apply gAsk_part; kernel_rfl; all_goals (intro h K hK; (try simp only [Bool.not_true] at h); (try simp only [Bool.not_false] at h); (try simp only [decide_eq_true_eq] at h); (try simp only [decide_eq_false_iff_not] at h); first | (exfalso; first | contradiction | omega) | (go_simp; (try (simp only [↓IntWalk.iteOmega]; try go_simp)); (try simp (disch := omega) only [IntWalk.i64_in]); (try simp (disch := omega) only [IntWalk.u64_in]); first | (refine hK _ ?_; clear hK K) | (apply Exists.intro; refine ⟨fun x => ?_, hK _ ?_⟩; (first | fail); clear hK K))))))); all_goals ((apply gLex_end); intro y2))
          go_wp2_with fail
          go_ret
          exact ⟨ret_int (by rw [HC.out, HD.out, HD2.out, cmpL, if_neg hz1, if_pos hz]), GG⟩
      · obtain rfl : q = m := by omega
        have HE := hide (show l'.drop q = [] from List.drop_of_length_le (by rw [HM.out]; omega))
        have HD := hide (drop_gn (l := l) (k := q) (by rw [HL.out]; exact hend))
        go_wp2_with fail
        go_ret
        exact ⟨ret_int (by rw [HC.out, HE.out, HD.out, cmpL]), GG⟩
    · obtain rfl : q = n := by omega
      have HE := hide (show l.drop q = [] from List.drop_of_length_le (by rw [HL.out]; omega))
      by_cases hend2 : q < m
      · have HD2 := hide (drop_gn (l := l') (k := q) (by rw [HM.out]; exact hend2))
        go_wp2_with fail
        go_ret
        exact ⟨ret_int (by rw [HC.out, HE.out, HD2.out, cmpL]), GG⟩
      · obtain rfl : q = m := by omega
        have HE2 := hide (show l'.drop q = [] from List.drop_of_length_le (by rw [HM.out]; omega))
        go_wp2_with fail
        go_ret
        exact ⟨ret_int (by rw [HC.out, HE.out, HE2.out, cmpL]), GG⟩
def cmpV (f g : Nat) (a b : List Nat) : Int := if f < g then -1 else if g < f then 1 else cmpL a b
theorem cmpV_is {E : List Edg} {f g : Nat} {a b : List Nat} (hf : f = wE E a) (hg : g = wE E b) : cmpV f g a b = cmpR E a b := by
  subst hf hg
  rfl
set_option maxHeartbeats 2000000 in
theorem r8CmpG (A : Option Addr) (n c f : Nat) (l : List Nat) (B : Option Addr) (m d g : Nat) (l' : List Nat) (w : World) (h : Rd w A 1 n (nv l)) (hn : n ≤ 1000000) (h' : Rd w B 1 m (nv l')) (hm : m ≤ 1000000) :
    Calls Tryz.prog 24 #[rVal A n c f, rVal B m d g] w fun e w' => e = .returned (.int .i64 (cmpV f g l l')) ∧ Grows w w' := by
  have C1 := hide (fun (W1 : World) (g : Grows w W1) => r8LessG A n c l B m d l' W1 (h.grows g) hn (h'.grows g) hm)
  clear h h'
  unfold rVal cmpV
  rcases Nat.lt_trichotomy f g with hz | hz | hz
  · rw [if_pos hz]
    go_enter Tryz.func24, Tryz.ntmps24
    go_wp2_with fail
    go_ret
    exact ⟨rfl, GG⟩
  · subst hz
    have hz1 : ¬ f < f := by omega
    rw [if_neg hz1, if_neg hz1]
    go_enter Tryz.func24, Tryz.ntmps24
    go_wp2_with (go_at_call 75; refine (C1.out _ GG).mono ?_; rintro e w' ⟨rfl, hg⟩; obtain ⟨x1, rfl⟩ := hg.later; clear hg)
    go_ret
    exact ⟨rfl, GG⟩
  · have hz1 : ¬ f < g := by omega
    rw [if_neg hz1, if_pos hz]
    go_enter Tryz.func24, Tryz.ntmps24
    go_wp2_with fail
    go_ret
    exact ⟨rfl, GG⟩
end Go.Proofs.YtgplpgldhoelcaaGreat

namespace Go.Proofs.YtgplpgldhoelcaaGreat
open Go Go.RowKit
attribute [local go_sem] Oper.semAt_some
def cmpJ (x y : Int) : Int := if x < y then -1 else if y < x then 1 else 0
set_option maxHeartbeats 2000000 in
theorem cmpUJ (x y : Int) (w : World) : Calls Tryz.prog 191 #[.int .u64 x, .int .u64 y] w fun e w' => e = .returned (.int .i64 (cmpJ x y)) ∧ Grows w w' := by
  have h1 : (x != x) = false := by simp
  have h2 : (y != y) = false := by simp
  have HC := hide (show cmpJ x y = if x < y then -1 else if y < x then 1 else 0 from rfl)
  generalize cmpJ x y = r at *
  go_enter Tryz.func191, Tryz.ntmps191
  go_wp2
  · obtain rfl : r = -1 := by rw [HC.out, if_pos (by assumption)]
    go_ret
    exact ⟨rfl, Grows.refl _⟩
  · obtain rfl : r = 1 := by rw [HC.out, if_neg (by omega), if_pos (by assumption)]
    go_ret
    exact ⟨rfl, Grows.refl _⟩
  · obtain rfl : r = 0 := by rw [HC.out, if_neg (by omega), if_neg (by omega)]
    go_ret
    exact ⟨rfl, Grows.refl _⟩
set_option maxHeartbeats 2000000 in
theorem cmpIJ (x y : Int) (w : World) : Calls Tryz.prog 251 #[.int .i64 x, .int .i64 y] w fun e w' => e = .returned (.int .i64 (cmpJ x y)) ∧ Grows w w' := by
  have h1 : (x != x) = false := by simp
  have h2 : (y != y) = false := by simp
  have HC := hide (show cmpJ x y = if x < y then -1 else if y < x then 1 else 0 from rfl)
  generalize cmpJ x y = r at *
  go_enter Tryz.func251, Tryz.ntmps251
  go_wp2
  · obtain rfl : r = -1 := by rw [HC.out, if_pos (by assumption)]
    go_ret
    exact ⟨rfl, Grows.refl _⟩
  · obtain rfl : r = 1 := by rw [HC.out, if_neg (by omega), if_pos (by assumption)]
    go_ret
    exact ⟨rfl, Grows.refl _⟩
  · obtain rfl : r = 0 := by rw [HC.out, if_neg (by omega), if_neg (by omega)]
    go_ret
    exact ⟨rfl, Grows.refl _⟩
theorem cmpL_cons {a b : Nat} {l m : List Nat} : cmpL (a :: l) (b :: m) = if cmpJ (a : Int) (b : Int) ≠ 0 then cmpJ (a : Int) (b : Int) else cmpL l m := by
  rw [cmpL]
  unfold cmpJ
  by_cases h1 : a < b
  · rw [if_pos h1, if_pos (show (a : Int) < b by omega), if_pos (by omega)]
  · rw [if_neg h1, if_neg (show ¬ (a : Int) < b by omega)]
    by_cases h2 : b < a
    · rw [if_pos h2, if_pos (show (b : Int) < a by omega), if_pos (by omega)]
    · rw [if_neg h2, if_neg (show ¬ (b : Int) < a by omega), if_neg (by omega)]
set_option maxRecDepth 20000 in
set_option maxHeartbeats 4000000 in
theorem slCmpI (A : Option Addr) (n c : Nat) (l : List Nat) (B : Option Addr) (m d : Nat) (l' : List Nat) (w : World) (h : Rd w A 1 n (nv l)) (hn : n ≤ 1000000) (h' : Rd w B 1 m (nv l')) (hm : m ≤ 1000000) :
    Calls Tryz.prog 227 #[.slice A n c, .slice B m d] w fun e w' => e = .returned (.int .i64 (cmpL l l')) ∧ Grows w w' := by
  have HL := hide (show l.length = n by simpa [nv] using h.len)
  have HM := hide (show l'.length = m by simpa [nv] using h'.len)
  have HR := hide h
  have HR2 := hide h'
  have CC := hide (fun (x y : Int) (W : World) => cmpIJ x y W)
  clear h h'
  go_enter Tryz.func227, Tryz.ntmps227
  go_wp2_with fail
  go_loopw [11] (fun i wr => ∃ k : Nat, k ≤ n ∧ k ≤ m ∧ i = .int .i64 (k : Int) ∧ Hid (l.take k = l'.take k) ∧ (∃ x : Later w, wr = x.now)) (fun i _ => n - (Go.RowKit.intOf i).toNat)
  case atStart => exact ⟨0, by omega, by omega, by go_num, rfl, ⟨⟨w, Grows.refl w⟩, rfl⟩⟩
  case round =>
    obtain ⟨q, hq, hqm, rfl, HT, ⟨x, rfl⟩⟩ := hrel
    have HC := hide (cmpL_drop HT.out)
    by_cases hend : q < n
    · have HD := hide (drop_gn (l := l) (k := q) (by rw [HL.out]; exact hend))
      have HS := hide (take_succ_gn (l := l) (i := q) (by rw [HL.out]; exact hend))
      obtain ⟨b, off, rfl, hc⟩ := HR.out.natsH (by omega)
      have hc1 := hc q hend
      clear hc
      by_cases hend2 : q < m
      · obtain ⟨b2, off2, rfl, hc2⟩ := HR2.out.natsH (by omega)
        have hc3 := hc2 q hend2
        clear hc2
        have HD2 := hide (drop_gn (l := l') (k := q) (by rw [HM.out]; exact hend2))
        have HS2 := hide (take_succ_gn (l := l') (i := q) (by rw [HM.out]; exact hend2))
        have HZ := hide (cmpL_cons (a := gn l q) (b := gn l' q) (l := l.drop (q + 1)) (m := l'.drop (q + 1)))
        by_cases hz : gn l q = gn l' q
        · rw [← hz] at hc3 HS2
          have HJ := hide (show cmpJ (gn l q : Int) (gn l q : Int) = 0 by unfold cmpJ; rw [if_neg (by omega), if_neg (by omega)])
          have CC2 := hide (fun (W : World) => CC.out (gn l q : Int) (gn l q : Int) W)
          rw [HJ.out] at CC2
          clear CC HJ HZ HD HD2 hz
          generalize gn l q = z at *
          go_wp2_with (go_at_call 251; refine (CC2.out _).mono ?_; rintro e w' ⟨rfl, hg⟩; obtain ⟨x1, rfl⟩ := hg.later; clear hg)
          exact ⟨⟨q + 1, by omega, by omega, by go_num, by rw [HS.out, HS2.out, HT.out]; exact rfl, ⟨⟨_, GG⟩, rfl⟩⟩, by simp [Go.RowKit.intOf]; omega⟩
        · have hj : cmpJ (gn l q : Int) (gn l' q : Int) ≠ 0 := by
            unfold cmpJ
            split
            · omega
            · split <;> omega
          have HV := hide (show cmpL l l' = cmpJ (gn l q : Int) (gn l' q : Int) by rw [HC.out, HD.out, HD2.out, HZ.out, if_pos hj])
          have CC2 := hide (fun (W : World) => CC.out (gn l q : Int) (gn l' q : Int) W)
          clear CC HZ HD HD2 HS HS2 hz
          generalize cmpJ (gn l q : Int) (gn l' q : Int) = j at *
          generalize gn l q = z at *
          generalize gn l' q = z' at *
          have hjb : (j != 0) = true := by simpa using hj
          go_wp2_with (go_at_call 251; refine (CC2.out _).mono ?_; rintro e w' ⟨rfl, hg⟩; obtain ⟨x1, rfl⟩ := hg.later; clear hg)
          go_ret
          exact ⟨ret_int HV.out.symm, GG⟩
      · obtain rfl : q = m := by omega
        have HE := hide (show l'.drop q = [] from List.drop_of_length_le (by rw [HM.out]; omega))
        generalize gn l q = z at *
        go_wp2_with fail
        go_ret
        exact ⟨ret_int (by rw [HC.out, HE.out, HD.out, cmpL]), GG⟩
    · obtain rfl : q = n := by omega
      have HE := hide (show l.drop q = [] from List.drop_of_length_le (by rw [HL.out]; omega))
      by_cases hend2 : q < m
      · have HD2 := hide (drop_gn (l := l') (k := q) (by rw [HM.out]; exact hend2))
        go_wp2_with fail
        go_ret
        exact ⟨ret_int (by rw [HC.out, HE.out, HD2.out, cmpL]), GG⟩
      · obtain rfl : q = m := by omega
        have HE2 := hide (show l'.drop q = [] from List.drop_of_length_le (by rw [HM.out]; omega))
        go_wp2_with fail
        go_ret
        exact ⟨ret_int (by rw [HC.out, HE.out, HE2.out, cmpL]), GG⟩
theorem pLess (A : Option Addr) (n c : Nat) (l : List Nat) (B : Option Addr) (m d : Nat) (l' : List Nat) (w : World) (h : Rd w A 1 n (nv l)) (hn : n ≤ 1000000) (h' : Rd w B 1 m (nv l')) (hm : m ≤ 1000000) :
    Calls Tryz.prog 189 #[.slice A n c, .slice B m d] w fun e w' => e = .returned (.int .i64 (cmpL l l')) ∧ Grows w w' := by
  have C1 := hide (fun (W : World) (g : Grows w W) => slCmpI A n c l B m d l' W (h.grows g) hn (h'.grows g) hm)
  clear h h'
  go_enter Tryz.func189, Tryz.ntmps189
  go_wp2_with (go_at_call 227; refine (C1.out _ GG).mono ?_; rintro e w' ⟨rfl, hg⟩; obtain ⟨x1, rfl⟩ := hg.later; clear hg)
  go_ret
  exact ⟨rfl, GG⟩
def orV (a b : Int) : Int := if a ≠ 0 then a else b
set_option maxHeartbeats 2000000 in
theorem cmpOr2 (g c : Nat) (a b : Int) (w : World) (h0 : Holds w ⟨g, 0, none⟩ (.int .i64 a)) (h1 : Holds w ⟨g, 1, none⟩ (.int .i64 b)) :
    Calls Tryz.prog 190 #[.slice (some ⟨g, 0, none⟩) 2 c] w fun e w' => e = .returned (.int .i64 (orV a b)) ∧ Grows w w' := by
  unfold orV
  by_cases ha : a = 0
  · subst ha
    rw [if_neg (by simp)]
    by_cases hb : b = 0
    · subst hb
      go_enter Tryz.func190, Tryz.ntmps190
      go_wp2_with fail
      refine wp_loop_rounds 3 ?_
      repeat (any_goals (rw [rounds_succ]; go_wp2))
      go_ret
      exact ⟨rfl, GG⟩
    · have hbb : (b != 0) = true := by simpa using hb
      go_enter Tryz.func190, Tryz.ntmps190
      go_wp2_with fail
      refine wp_loop_rounds 3 ?_
      repeat (any_goals (rw [rounds_succ]; go_wp2))
      go_ret
      exact ⟨rfl, GG⟩
  · rw [if_pos ha]
    have hbb : (a != 0) = true := by simpa using ha
    go_enter Tryz.func190, Tryz.ntmps190
    go_wp2_with fail
    refine wp_loop_rounds 3 ?_
    repeat (any_goals (rw [rounds_succ]; go_wp2))
    go_ret
    exact ⟨rfl, GG⟩
theorem cmpV_or (f g : Nat) (l l' : List Nat) : cmpV f g l l' = orV (cmpJ (f : Int) (g : Int)) (cmpL l l') := by
  unfold cmpV orV cmpJ
  by_cases h1 : f < g
  · rw [if_pos h1, if_pos (show (f : Int) < g by omega), if_pos (by omega)]
  · rw [if_neg h1, if_neg (show ¬ (f : Int) < g by omega)]
    by_cases h2 : g < f
    · rw [if_pos h2, if_pos (show (g : Int) < f by omega), if_pos (by omega)]
    · rw [if_neg h2, if_neg (show ¬ (g : Int) < f by omega), if_neg (by omega)]
set_option maxRecDepth 20000 in
set_option maxHeartbeats 4000000 in
theorem pCmp (A : Option Addr) (n c f : Nat) (l : List Nat) (B : Option Addr) (m d g : Nat) (l' : List Nat) (w : World) (h : Rd w A 1 n (nv l)) (hn : n ≤ 1000000) (h' : Rd w B 1 m (nv l')) (hm : m ≤ 1000000) :
    Calls Tryz.prog 141 #[rVal A n c f, rVal B m d g] w fun e w' => e = .returned (.int .i64 (cmpV f g l l')) ∧ Grows w w' := by
  have C1 := hide (fun (W : World) (k : Grows w W) => pLess A n c l B m d l' W (h.grows k) hn (h'.grows k) hm)
  have C2 := hide (fun (W : World) => cmpUJ (f : Int) (g : Int) W)
  have C3 := hide (fun (q d : Nat) (a b : Int) (W : World) (h0 : Holds W ⟨q, 0, none⟩ (.int .i64 a)) (h1 : Holds W ⟨q, 1, none⟩ (.int .i64 b)) => cmpOr2 q d a b W h0 h1)
  rw [cmpV_or]
  clear h h'
  unfold rVal
  generalize cmpL l l' = z at *
  generalize cmpJ (f : Int) (g : Int) = y at *
  go_enter Tryz.func141, Tryz.ntmps141
  go_upto_region 2 with fail
  (refine wp_region_tail1 11 (by kernel_rfl) (by kernel_rfl) ?_; simp only [List.take_succ_cons, List.take_zero, List.drop_succ_cons, List.drop_zero]; (repeat' (first | (refine gLex_val0 rfl (by kernel_rfl) (fun K hK => ?_); (go_simp; (try (simp only [↓IntWalk.iteOmega]; try go_simp)); (try simp (disch := omega) only [IntWalk.i64_in]); (try simp (disch := omega) only [IntWalk.u64_in]); first | (refine hK _ ?_; clear hK K) | (apply Exists.intro; refine ⟨fun x => ?_, hK _ ?_⟩; (first | (go_at_call 191; exact C2.out _) | (go_at_call 189; exact C1.out _ GG)); clear hK K))) | (refine gLex_undef rfl rfl rfl (by kernel_rfl) (fun K hK => ?_); go_simp; refine hK _ ?_; clear hK K) | (refine gLex_ask rfl rfl rfl ?_; first | (apply gAsk_yes; kernel_rfl; intro K hK; (go_simp; (try (simp only [↓IntWalk.iteOmega]; try go_simp)); (try simp (disch := omega) only [IntWalk.i64_in]); (try simp (disch := omega) only [IntWalk.u64_in]); first | (refine hK _ ?_; clear hK K) | (apply Exists.intro; refine ⟨fun x => ?_, hK _ ?_⟩; (first | (go_at_call 191; exact C2.out _) | (go_at_call 189; exact C1.out _ GG)); clear hK K))) | ((first | apply gAsk_no1 | apply gAsk_no2); kernel_rfl; intro K hK; simp [go_sem]; refine hK _ ?_; clear hK K)))); refine gLex_endT (fun x => ?_))
  go_wp2_with (go_at_call 190; refine (C3.out _ _ _ _ _ inferInstance inferInstance).mono ?_; rintro e w' ⟨rfl, hg⟩; obtain ⟨x1, rfl⟩ := hg.later; clear hg)
  go_ret
  exact ⟨rfl, GG⟩
set_option maxRecDepth 20000 in
set_option maxHeartbeats 4000000 in
theorem slEqI (A : Option Addr) (n c : Nat) (l : List Nat) (B : Option Addr) (m d : Nat) (l' : List Nat) (w : World) (h : Rd w A 1 n (nv l)) (hn : n ≤ 1000000) (h' : Rd w B 1 m (nv l')) (hm : m ≤ 1000000) :
    Calls Tryz.prog 99 #[.slice A n c, .slice B m d] w fun e w' => e = .returned (.bool (decide (l = l'))) ∧ Grows w w' := by
  have HL := hide (show l.length = n by simpa [nv] using h.len)
  have HM := hide (show l'.length = m by simpa [nv] using h'.len)
  have HR := hide h
  have HR2 := hide h'
  clear h h'
  by_cases hnm : n = m
  · subst hnm
    go_enter Tryz.func99, Tryz.ntmps99
    go_wp2_with fail
    go_loopw [13, 5] (fun i _ wr => ∃ k : Nat, k ≤ n ∧ i = .int .i64 (k : Int) ∧ Hid (l.take k = l'.take k) ∧ (∃ y : Later w, wr = y.now)) (fun i _ _ => n - (Go.RowKit.intOf i).toNat)
    case atStart => exact ⟨0, by omega, by go_num, rfl, ⟨⟨w, Grows.refl w⟩, rfl⟩⟩
    case round =>
      obtain ⟨k, hk, rfl, HT, ⟨y, rfl⟩⟩ := hrel
      by_cases hend : n ≤ k
      · have HV : Hid (l = l') := by
          have h1 := HT.out
          rw [List.take_of_length_le (by rw [HL.out]; omega), List.take_of_length_le (by rw [HM.out]; omega)] at h1
          exact h1
        go_wp2
        go_ret
        exact ⟨ret_bool (decide_eq_true HV.out).symm, GG⟩
      · obtain ⟨b, off, rfl, hc⟩ := HR.out.natsH (by omega)
        have c1 := hc k (by omega)
        obtain ⟨b2, off2, rfl, hc2⟩ := HR2.out.natsH (by omega)
        have c2 := hc2 k (by omega)
        clear hc hc2
        have HS := hide (take_succ_gn (l := l) (i := k) (by rw [HL.out]; omega))
        have HS2 := hide (take_succ_gn (l := l') (i := k) (by rw [HM.out]; omega))
        by_cases he : gn l k = gn l' k
        · rw [← he] at c2 HS2
          clear he
          generalize gn l k = u at *
          go_wp2_with fail
          ((first | refine wp_region_gen (by kernel_rfl) (by kernel_rfl) ?_); (repeat' (first | (refine gLex_val0 rfl (by kernel_rfl) (fun K hK => ?_); (go_simp; (try (simp only [↓IntWalk.iteOmega]; try go_simp)); (try simp (disch := omega) only [IntWalk.i64_in]); (try simp (disch := omega) only [IntWalk.u64_in]); first | (refine hK _ ?_; clear hK K) | (apply Exists.intro; refine ⟨fun x => ?_, hK _ ?_⟩; (first | fail); clear hK K))) | (refine gLex_undef rfl rfl rfl (by kernel_rfl) (fun K hK => ?_); go_simp; refine hK _ ?_; clear hK K) | (refine gLex_ask rfl rfl rfl ?_; first | (apply gAsk_yes; kernel_rfl; intro K hK; (go_simp; (try (simp only [↓IntWalk.iteOmega]; try go_simp)); (try simp (disch := omega) only [IntWalk.i64_in]); (try simp (disch := omega) only [IntWalk.u64_in]); first | (refine hK _ ?_; clear hK K) | (apply Exists.intro; refine ⟨fun x => ?_, hK _ ?_⟩; (first | fail); clear hK K))) | ((first | apply gAsk_no1 | apply gAsk_no2); kernel_rfl; intro K hK; simp [go_sem]; refine hK _ ?_; clear hK K) | (apply gAsk_part; kernel_rfl; all_goals (intro h K hK; (try simp only [Bool.not_true] at h); (try simp only [Bool.not_false] at h); (try simp only [decide_eq_true_eq] at h); (try simp only [decide_eq_false_iff_not] at h); first | (exfalso; first | contradiction | omega) | (go_simp; (try (simp only [↓IntWalk.iteOmega]; try go_simp)); (try simp (disch := omega) only [IntWalk.i64_in]); (try simp (disch := omega) only [IntWalk.u64_in]); first | (refine hK _ ?_; clear hK K) | (apply Exists.intro; refine ⟨fun x => ?_, hK _ ?_⟩; (first | fail); clear hK K))))))); all_goals ((apply gLex_end); intro x))
          go_wp2
          refine ⟨⟨k + 1, by omega, by go_num, by rw [HS.out, HS2.out, HT.out]; exact rfl, Grows.later GG⟩, by simp [Go.RowKit.intOf]; omega⟩
        · have HV : Hid (¬ l = l') := fun e => he (by rw [e])
          have hd : ((gn l k : Int) == (gn l' k : Int)) = false := beq_eq_false_iff_ne.2 (by omega)
          have hd2 : ((gn l k : Int) != (gn l' k : Int)) = true := by rw [bne, hd]; rfl
          clear he HS HS2
          generalize gn l k = u at *
          generalize gn l' k = v at *
          go_wp2_with fail
          ((first | refine wp_region_gen (by kernel_rfl) (by kernel_rfl) ?_); (repeat' (first | (refine gLex_val0 rfl (by kernel_rfl) (fun K hK => ?_); (go_simp; (try (simp only [↓IntWalk.iteOmega]; try go_simp)); (try simp (disch := omega) only [IntWalk.i64_in]); (try simp (disch := omega) only [IntWalk.u64_in]); first | (refine hK _ ?_; clear hK K) | (apply Exists.intro; refine ⟨fun x => ?_, hK _ ?_⟩; (first | fail); clear hK K))) | (refine gLex_undef rfl rfl rfl (by kernel_rfl) (fun K hK => ?_); go_simp; refine hK _ ?_; clear hK K) | (refine gLex_ask rfl rfl rfl ?_; first | (apply gAsk_yes; kernel_rfl; intro K hK; (go_simp; (try (simp only [↓IntWalk.iteOmega]; try go_simp)); (try simp (disch := omega) only [IntWalk.i64_in]); (try simp (disch := omega) only [IntWalk.u64_in]); first | (refine hK _ ?_; clear hK K) | (apply Exists.intro; refine ⟨fun x => ?_, hK _ ?_⟩; (first | fail); clear hK K))) | ((first | apply gAsk_no1 | apply gAsk_no2); kernel_rfl; intro K hK; simp [go_sem]; refine hK _ ?_; clear hK K) | (apply gAsk_part; kernel_rfl; all_goals (intro h K hK; (try simp only [Bool.not_true] at h); (try simp only [Bool.not_false] at h); (try simp only [decide_eq_true_eq] at h); (try simp only [decide_eq_false_iff_not] at h); first | (exfalso; first | contradiction | omega) | (go_simp; (try (simp only [↓IntWalk.iteOmega]; try go_simp)); (try simp (disch := omega) only [IntWalk.i64_in]); (try simp (disch := omega) only [IntWalk.u64_in]); first | (refine hK _ ?_; clear hK K) | (apply Exists.intro; refine ⟨fun x => ?_, hK _ ?_⟩; (first | fail); clear hK K))))))); all_goals ((apply gLex_end); intro x))
          go_wp2
          go_ret
          exact ⟨ret_bool (decide_eq_false HV.out).symm, GG⟩
  · have HV : Hid (¬ l = l') := fun e => hnm (by rw [← HL.out, ← HM.out, e])
    go_enter Tryz.func99, Tryz.ntmps99
    go_wp2_with fail
    go_ret
    exact ⟨ret_bool (decide_eq_false HV.out).symm, GG⟩
end Go.Proofs.YtgplpgldhoelcaaGreat

namespace Go.Proofs.YtgplpgldhoelcaaGreat
open Go Go.RowKit
attribute [local go_sem] Oper.semAt_some
set_option maxHeartbeats 1000000 in
theorem slIndex (A : Option Addr) (n c : Nat) (l : List Int) (v : Int) (w : World) (h : Rd w A 1 n (l.map (.int .i64))) (hn : n ≤ 1000000) :
    Calls Tryz.prog 224 #[.slice A n c, .int .i64 v] w fun e w' => (∃ k : Int, e = .returned (.int .i64 k) ∧ -1 ≤ k ∧ k ≤ n ∧ (0 ≤ k ↔ v ∈ l)) ∧ w = w' := by
  have HL := hide (show l.length = n by simpa using h.len)
  have HR := hide h
  clear h
  go_enter Tryz.func224, Tryz.ntmps224
  go_wp2
  go_loop [8] (fun i => ∃ k : Nat, k ≤ n ∧ i = .int .i64 (k : Int) ∧ ∀ j, j < k → gi l j ≠ v) (fun i => n - (intOf i).toNat)
  case atStart => exact ⟨0, by omega, by go_num, fun j h1 => by omega⟩
  case round =>
    obtain ⟨q, hq, rfl, hall⟩ := hrel
    have HA := hide hall
    clear hall
    by_cases hend : n ≤ q
    · go_wp2
      go_ret
      refine ⟨⟨-1, rfl, by omega, by omega, ?_⟩, rfl⟩
      refine ⟨fun h => by omega, fun hm => ?_⟩
      obtain ⟨j, hj, e⟩ := mem_gi hm
      exact absurd e (HA.out j (by have := HL.out; omega))
    · obtain ⟨b, off, rfl, hc⟩ := HR.out.ints (by omega)
      have hc1 := hc q (by omega)
      clear hc
      by_cases hv : v = gi l q
      · have HV := hide (show v ∈ l from hv ▸ gi_mem (by have := HL.out; omega))
        have hd : (v == gi l q) = true := by simpa using hv
        clear hv
        go_wp2
        go_ret
        refine ⟨⟨q, rfl, by omega, by omega, ?_⟩, rfl⟩
        exact ⟨fun _ => HV.out, fun _ => by omega⟩
      · have HV := hide (fun e => hv (Eq.symm e))
        have hd : (v == gi l q) = false := by simpa using hv
        clear hv
        go_wp2
        go_round
        case measure => simp [intOf]; omega
        case rel =>
          refine ⟨q + 1, by omega, by go_num, fun j h1 => ?_⟩
          by_cases hj : j = q
          · rw [hj]; exact HV.out
          · exact HA.out j (by omega)
theorem slContains (A : Option Addr) (n c : Nat) (l : List Int) (v : Int) (w : World) (h : Rd w A 1 n (l.map (.int .i64))) (hn : n ≤ 1000000) :
    Calls Tryz.prog 187 #[.slice A n c, .int .i64 v] w fun e w' => e = .returned (.bool (decide (v ∈ l))) ∧ w = w' := by
  have HC := hide (slIndex A n c l v w h hn)
  clear h
  go_enter Tryz.func187, Tryz.ntmps187
  go_wp2_with (go_at_call 224; refine HC.out.mono ?_; rintro e w' ⟨⟨k, rfl, h1, h2, h3⟩, rfl⟩)
  go_ret
  exact ⟨ret_bool (by simp), rfl⟩
set_option maxRecDepth 20000 in
set_option maxHeartbeats 4000000 in
theorem caNear (NN : Nat) (E : List Edg) (o : DOpt) (d : List Nat) (v i b6 b7 b8 b9 : Nat) (Af Aw Ae : Option Addr) (cf cw ce : Nat) (z0 z1 z3 z4 : Value) (w : World)
    (hE : InN NN E) (hi : i < E.length) (hiE : E.length ≤ 1000000) (hv : v < NN) (hN : NN ≤ 1000000) (hdl : d.length = NN) (hwl : (wtF NN E o.W).length = E.length) (hw2 : gn (wtF NN E o.W) i ≤ 17592186044416) (hne : o.ne.length ≤ 1000000)
    (h6 : Arr w b6 3 [.int .i64 (v : Int)]) (h7 : Arr w b7 82 [.slice Af NN cf]) (h8 : Arr w b8 82 [.slice Aw E.length cw]) (h9 : Arr w b9 134 [z0, z1, .slice Ae o.ne.length ce, z3, z4])
    (rf : Rd w Af 1 NN (wv d)) (rw_ : Rd w Aw 1 E.length (wv (wtF NN E o.W))) (re : Rd w Ae 1 o.ne.length (o.ne.map (.int .i64))) :
    Calls Tryz.prog 186 #[.int .i64 (i : Int), eVal (ge E i), .pointer (some ⟨b7, 0, none⟩), .pointer (some ⟨b8, 0, none⟩), .pointer (some ⟨b6, 0, none⟩), .pointer (some ⟨b9, 0, none⟩)] w fun e w' => e = .returned (.bool (nearB (srchOf NN E o) d v i)) ∧ Grows w w' := by
  have C1 := hide (fun (W1 : World) (g : Grows w W1) => slContains Ae o.ne.length ce o.ne (i : Int) W1 (re.grows g) hne)
  have ht := hE.t i hi
  unfold eVal
  rw [ht.2]
  have hne2 : (srchOf NN E o).ne i = decide ((i : Int) ∈ o.ne) := rfl
  have hu : tN E i < NN := ht.1
  obtain ⟨bf, of, rfl, hcf⟩ := rf.at_ (by omega)
  obtain ⟨bw, ow, rfl, hcw⟩ := rw_.at_ (by omega)
  have k1 : Holds w ⟨bf, of + tN E i, none⟩ (.int .u64 (gn d (tN E i) : Int)) := ⟨hcf _ _ (wv_at (by omega))⟩
  have k2 : Holds w ⟨bf, of + v, none⟩ (.int .u64 (gn d v : Int)) := ⟨hcf _ _ (wv_at (by omega))⟩
  have k3 : Holds w ⟨bw, ow + i, none⟩ (.int .u64 (gn (wtF NN E o.W) i : Int)) := ⟨hcw _ _ (wv_at (by omega))⟩
  have hB : nearB (srchOf NN E o) d v i = (decide (gn d (tN E i) < farV) && decide (gn d (tN E i) + gn (wtF NN E o.W) i = gn d v) && !decide ((i : Int) ∈ o.ne)) := rfl
  rw [hB]
  clear hcf hcw rf rw_ re hE ht hne2 hB hwl hdl
  generalize decide ((i : Int) ∈ o.ne) = q at *
  generalize gn (wtF NN E o.W) i = wi at *
  generalize tN E i = u at *
  generalize gn d u = du at *
  generalize gn d v = dv at *
  unfold farV
  by_cases h1 : du < 4611686018427387904
  · have hb1 : decide ((du : Int) < 4611686018427387904) = true := decide_eq_true (by omega)
    by_cases h2 : du + wi = dv
    · have hb2 : ((du : Int) + (wi : Int) == (dv : Int)) = true := by simpa using (by omega : (du : Int) + (wi : Int) = (dv : Int))
      rw [decide_eq_true h1, decide_eq_true h2]
      have HX := hide h2
      clear h2
      go_enter Tryz.func186, Tryz.ntmps186
      go_wp2_with fail
      ((first | refine wp_region_gen2 (by kernel_rfl) (by kernel_rfl) ?_ | refine wp_region_gen (by kernel_rfl) (by kernel_rfl) ?_); (repeat' (first | (refine gLex_val0 rfl (by kernel_rfl) (fun K hK => ?_); (go_simp; (try (simp only [↓IntWalk.iteOmega]; try go_simp)); (try simp (disch := omega) only [IntWalk.i64_in]); (try simp (disch := omega) only [IntWalk.u64_in]); first | (refine hK _ ?_; clear hK K) | (apply Exists.intro; refine ⟨fun x => ?_, hK _ ?_⟩; (first | (go_at_call 187; exact calls_same (C1.out _ GG))); clear hK K))) | (refine gLex_undef rfl rfl rfl (by kernel_rfl) (fun K hK => ?_); go_simp; refine hK _ ?_; clear hK K) | (refine gLex_ask rfl rfl rfl ?_; first | (apply gAsk_yes; kernel_rfl; intro K hK; (go_simp; (try (simp only [↓IntWalk.iteOmega]; try go_simp)); (try simp (disch := omega) only [IntWalk.i64_in]); (try simp (disch := omega) only [IntWalk.u64_in]); first | (refine hK _ ?_; clear hK K) | (apply Exists.intro; refine ⟨fun x => ?_, hK _ ?_⟩; (first | (go_at_call 187; exact calls_same (C1.out _ GG))); clear hK K))) | ((first | apply gAsk_no1 | apply gAsk_no2); kernel_rfl; intro K hK; simp [go_sem]; refine hK _ ?_; clear hK K) | (apply gAsk_part; kernel_rfl; all_goals (intro h K hK; (try simp only [Bool.not_true] at h); (try simp only [Bool.not_false] at h); (try simp only [decide_eq_true_eq] at h); (try simp only [decide_eq_false_iff_not] at h); first | (exfalso; first | contradiction | omega) | (go_simp; (try (simp only [↓IntWalk.iteOmega]; try go_simp)); (try simp (disch := omega) only [IntWalk.i64_in]); (try simp (disch := omega) only [IntWalk.u64_in]); first | (refine hK _ ?_; clear hK K) | (apply Exists.intro; refine ⟨fun x => ?_, hK _ ?_⟩; (first | (go_at_call 187; exact calls_same (C1.out _ GG))); clear hK K))))))); all_goals ((apply gLex_end); intro y))
      go_wp2_with fail
      go_ret
      exact ⟨rfl, GG⟩
    · have hb2 : ((du : Int) + (wi : Int) == (dv : Int)) = false := beq_eq_false_iff_ne.2 (by omega)
      rw [decide_eq_false h2, Bool.and_false, Bool.false_and]
      clear h2
      go_enter Tryz.func186, Tryz.ntmps186
      go_wp2_with fail
      ((first | refine wp_region_gen2 (by kernel_rfl) (by kernel_rfl) ?_ | refine wp_region_gen (by kernel_rfl) (by kernel_rfl) ?_); (repeat' (first | (refine gLex_val0 rfl (by kernel_rfl) (fun K hK => ?_); (go_simp; (try (simp only [↓IntWalk.iteOmega]; try go_simp)); (try simp (disch := omega) only [IntWalk.i64_in]); (try simp (disch := omega) only [IntWalk.u64_in]); first | (refine hK _ ?_; clear hK K) | (apply Exists.intro; refine ⟨fun x => ?_, hK _ ?_⟩; (first | fail); clear hK K))) | (refine gLex_undef rfl rfl rfl (by kernel_rfl) (fun K hK => ?_); go_simp; refine hK _ ?_; clear hK K) | (refine gLex_ask rfl rfl rfl ?_; first | (apply gAsk_yes; kernel_rfl; intro K hK; (go_simp; (try (simp only [↓IntWalk.iteOmega]; try go_simp)); (try simp (disch := omega) only [IntWalk.i64_in]); (try simp (disch := omega) only [IntWalk.u64_in]); first | (refine hK _ ?_; clear hK K) | (apply Exists.intro; refine ⟨fun x => ?_, hK _ ?_⟩; (first | fail); clear hK K))) | ((first | apply gAsk_no1 | apply gAsk_no2); kernel_rfl; intro K hK; simp [go_sem]; refine hK _ ?_; clear hK K) | (apply gAsk_part; kernel_rfl; all_goals (intro h K hK; (try simp only [Bool.not_true] at h); (try simp only [Bool.not_false] at h); (try simp only [decide_eq_true_eq] at h); (try simp only [decide_eq_false_iff_not] at h); first | (exfalso; first | contradiction | omega) | (go_simp; (try (simp only [↓IntWalk.iteOmega]; try go_simp)); (try simp (disch := omega) only [IntWalk.i64_in]); (try simp (disch := omega) only [IntWalk.u64_in]); first | (refine hK _ ?_; clear hK K) | (apply Exists.intro; refine ⟨fun x => ?_, hK _ ?_⟩; (first | fail); clear hK K))))))); all_goals ((apply gLex_end); intro y))
      go_wp2_with fail
      go_ret
      exact ⟨rfl, GG⟩
  · have hb1 : decide ((du : Int) < 4611686018427387904) = false := decide_eq_false (by omega)
    rw [decide_eq_false h1, Bool.false_and, Bool.false_and]
    clear h1
    go_enter Tryz.func186, Tryz.ntmps186
    go_wp2_with fail
    ((first | refine wp_region_gen2 (by kernel_rfl) (by kernel_rfl) ?_ | refine wp_region_gen (by kernel_rfl) (by kernel_rfl) ?_); (repeat' (first | (refine gLex_val0 rfl (by kernel_rfl) (fun K hK => ?_); (go_simp; (try (simp only [↓IntWalk.iteOmega]; try go_simp)); (try simp (disch := omega) only [IntWalk.i64_in]); (try simp (disch := omega) only [IntWalk.u64_in]); first | (refine hK _ ?_; clear hK K) | (apply Exists.intro; refine ⟨fun x => ?_, hK _ ?_⟩; (first | fail); clear hK K))) | (refine gLex_undef rfl rfl rfl (by kernel_rfl) (fun K hK => ?_); go_simp; refine hK _ ?_; clear hK K) | (refine gLex_ask rfl rfl rfl ?_; first | (apply gAsk_yes; kernel_rfl; intro K hK; (go_simp; (try (simp only [↓IntWalk.iteOmega]; try go_simp)); (try simp (disch := omega) only [IntWalk.i64_in]); (try simp (disch := omega) only [IntWalk.u64_in]); first | (refine hK _ ?_; clear hK K) | (apply Exists.intro; refine ⟨fun x => ?_, hK _ ?_⟩; (first | fail); clear hK K))) | ((first | apply gAsk_no1 | apply gAsk_no2); kernel_rfl; intro K hK; simp [go_sem]; refine hK _ ?_; clear hK K) | (apply gAsk_part; kernel_rfl; all_goals (intro h K hK; (try simp only [Bool.not_true] at h); (try simp only [Bool.not_false] at h); (try simp only [decide_eq_true_eq] at h); (try simp only [decide_eq_false_iff_not] at h); first | (exfalso; first | contradiction | omega) | (go_simp; (try (simp only [↓IntWalk.iteOmega]; try go_simp)); (try simp (disch := omega) only [IntWalk.i64_in]); (try simp (disch := omega) only [IntWalk.u64_in]); first | (refine hK _ ?_; clear hK K) | (apply Exists.intro; refine ⟨fun x => ?_, hK _ ?_⟩; (first | fail); clear hK K))))))); all_goals ((apply gLex_end); intro y))
    go_wp2_with fail
    go_ret
    exact ⟨rfl, GG⟩
end Go.Proofs.YtgplpgldhoelcaaGreat

namespace Go.Proofs.YtgplpgldhoelcaaGreat
open Go Go.RowKit
attribute [local go_sem] Oper.semAt_some
section
variable {F : Fence} {m : Nat} {w : World} {e : TypeId} {ops : Array Oper} {rest : List Oper} {o : Oper} {a : Act} {Q : Exit → Act → World → Prop}
theorem wp_appIn {t : TypeId} (E : Elem t e 1) (hgd : o.guard = none) (s x : Operand) (ho : o.op = .call { callee := .builtin .append, args := #[s, x], argTypes := #[t, t] })
    (lo : Nat) (hlo : lo ≤ w.heap.size) (n c : Nat) (A : Option Addr) (xs : List Value) (hs : a.eval s = .slice A n c) (hown : Own w lo e 1 A n c xs) (g c' : Nat) (v : Value) (hx : a.eval x = .slice (some ⟨g, 0, none⟩) 1 c')
    (hv : Holds w ⟨g, 0, none⟩ v) (h1 : v.oneCell' = true) (hnm : n + 1 ≤ 1000000000000)
    (h : ∀ A' c'' w', Own w' lo e 1 A' (n + 1) c'' (xs ++ [v]) → Touch (fun k => ∃ p, A = some p ∧ p.block = k) w w' → (∀ p, A' = some p → (∃ q, A = some q ∧ q.block = p.block) ∨ New w w' p.block) → wpListIn F m Tryz.prog ops Q rest (a.put o.dst (.slice A' (n + 1) c'')) w') :
    wpListIn F m Tryz.prog ops Q (o :: rest) a w := by
  obtain ⟨i, z, bytes, hi, hz, hsz, hby, hzs, hb64⟩ := E.info
  refine wpListIn_plain hgd fun K hK' => ?_
  obtain ⟨v', w', hr, hown', hgr, _, hat⟩ := run_append_own_at (P := Tryz.prog) w lo t o.type e i z 1 bytes E.under hi hz hsz hby hzs E.pos (.slice A n c) n xs hown ⟨g, 0, none⟩ 1 c' [v] rfl (fun j u hu => by
    have hj : j = 0 := by
      have := (List.getElem?_eq_some_iff.1 hu).1
      simpa using this
    subst hj
    simp at hu
    subst hu
    simpa [Addr.add] using hv.cell) (by intro u hu; simp at hu; rw [hu]; exact h1) (by unfold maxLen; omega) (Nat.le_trans (Nat.mul_le_mul hnm hb64) (by omega)) hlo
  obtain ⟨A', c'', rfl⟩ := own_form hown'
  have ht : Touch (fun k => ∃ p, A = some p ∧ p.block = k) w w' := (Touch.refl _ w).grown hgr fun k hk => .inl (by
    cases A with
    | none => simp [Value.ownBlock] at hk
    | some p => simp [Value.ownBlock] at hk; exact ⟨p, rfl, hk⟩)
  have hloc : ∀ p, A' = some p → (∃ q, A = some q ∧ q.block = p.block) ∨ New w w' p.block := fun p hp => by
    have hlt := (hown'.lt p.block (by subst hp; rfl)).2
    subst hp
    simp only [Value.ownBlock] at hat
    rcases hat with hat | hat
    · left
      cases A with
      | none => simp at hat
      | some q => exact ⟨q, rfl, by simpa using hat.symm⟩
    · right
      have e9 : p.block = w.heap.size := by simpa using hat
      exact ⟨Nat.le_of_eq e9.symm, hlt⟩
  unfold Oper.wpIn
  refine ⟨?_, ?_⟩
  · simp [Oper.about, ho, resolve, Target.leads, Sem.run_pure]
  · rw [Oper.semAt_plain F _ _ (by rw [ho]; intro c hc'; cases hc')]
    simp [execOp, ho, resolve, invoke, builtin, hs, hx, hr, Result.andThen]
    exact hK' _ _ (h A' c'' w' hown' ht hloc)
end
def ordL (xs : List (Nat × Nat)) : List Int := xs.map fun p => (p.1 : Int)
def OrdI (w : World) (lo b6 : Nat) (p : List (Nat × Nat)) (Mi : Nat → Prop) (W : World) : Prop :=
  ∃ A c, (∃ y : Later w, W = y.now) ∧ Arr W b6 22 [.slice A p.length c] ∧ Own W lo 3 1 A p.length c ((ordL p).map (.int .i64)) ∧ (∀ q, A = some q → ¬ Mi q.block) ∧ (∀ k, Mi k → lo ≤ k ∧ k < W.heap.size) ∧ lo ≤ W.heap.size
theorem OrdI.yields {w : World} {lo b6 : Nat} (h1 : b6 < lo) (hlo : w.heap.size ≤ lo) : Yields' (OrdI w lo b6) := by
  rintro p Mi W Mi' W' ⟨A, c, ⟨y, rfl⟩, a1, a2, a3, a4, a5⟩ ht hM'
  refine ⟨A, c, ⟨⟨W', ht.later y.grows (fun k hk => Nat.le_trans hlo (a4 k hk).1)⟩, rfl⟩, a1.touch ht (fun e => by have := (a4 _ e).1; omega), a2.touch ht a3, fun q hq e => ?_, fun k hk => ?_, Nat.le_trans a5 ht.size⟩
  · rcases (hM' _ e).1 with h | h
    · exact a3 q hq h
    · have := (a2.ty q hq).2.lt; omega
  · obtain ⟨h | h, h'⟩ := hM' k hk
    · exact ⟨(a4 k h).1, h'⟩
    · exact ⟨by omega, h'⟩
end Go.Proofs.YtgplpgldhoelcaaGreat

