/- Contracts: how much a row shares with others; whether that is little. -/
import Derived.Test.YtaoodmioehkebaaStretch
import Derived.Test.YtaoodmioehkebaaRef02
namespace Go.Proofs.Ytaoodmioehkebaa
open Go Go.RowKit Go.Maps

/-- A row of numbers as it lies. -/
structure Row where
  A : Option Addr
  n : Nat
  c : Nat
  xs : List Int
def rowVal (r : Row) : Value := .slice r.A r.n r.c
def rowOk (w : World) (r : Row) : Prop := Rd w r.A 1 r.n (r.xs.map (.int .i64)) ∧ r.n ≤ r.c
def gr (R : List Row) (k : Nat) : Row := R.getD k ⟨none, 0, 0, []⟩
def rowsOk (w : World) (R : List Row) : Prop := ∀ k, k < R.length → rowOk w (gr R k)
theorem rowsOk.grows {w w' : World} {R : List Row} (h : rowsOk w R) (hg : Grows w w') : rowsOk w' R := fun k hk => ⟨(h k hk).1.grows hg, (h k hk).2⟩
/-- Of a slice of rows: each row's value. -/
theorem Rd.rows {w : World} {A : Option Addr} {n : Nat} {R : List Row} (h : Rd w A 1 n (R.map rowVal)) (hn : 0 < n) :
    ∃ b off, A = some ⟨b, off, none⟩ ∧ ∀ j, j < n → w.cell? ⟨b, off + j, none⟩ = some (.slice (gr R j).A (gr R j).n (gr R j).c) := by
  have hl := h.len
  obtain ⟨b, off, e, hc⟩ := h.at_ hn
  refine ⟨b, off, e, fun j hj => hc j _ ?_⟩
  have : j < R.length := by simpa using (show j < (R.map rowVal).length by omega)
  simp [this, gr, rowVal]

/-- The most that a row shares with the first k others. -/
def withK (N : Int) (E : List Edg) (l : List Int) (R : List Row) : Nat → Int
  | 0 => 0
  | k + 1 => max (withK N E l R k) (sharedV N E l (gr R k).xs)
theorem withK_succ (N : Int) (E : List Edg) (l : List Int) (R : List Row) (k : Nat) : withK N E l R (k + 1) = max (withK N E l R k) (sharedV N E l (gr R k).xs) := rfl
theorem sharedV_u64 (N : Int) (E : List Edg) (a b : List Int) : U64 (sharedV N E a b) := by
  unfold sharedV
  split
  · unfold U64; rw [IntKind.wrap_u64]; omega
  · unfold U64; omega
theorem withK_u64 (N : Int) (E : List Edg) (l : List Int) (R : List Row) (k : Nat) : U64 (withK N E l R k) := by
  induction k with
  | zero => unfold withK U64; omega
  | succ k ih =>
    rw [withK_succ]
    have := sharedV_u64 N E l (gr R k).xs
    unfold U64 at *
    omega

set_option maxRecDepth 20000 in
set_option maxHeartbeats 2000000 in
theorem shWith (N : Int) (A : Option Addr) (m c : Nat) (E : List Edg) (B : Option Addr) (n d : Nat) (a : List Int) (B' : Option Addr) (n' d' : Nat) (R : List Row) (w : World) (h : Rd w A 3 m (esCells E)) (hm : m ≤ 1000000)
    (ha : Rd w B 1 n (a.map (.int .i64))) (hn : n ≤ 1000000) (hr : Rd w B' 1 n' (R.map rowVal)) (hn' : n' ≤ 1000000) (hR : rowsOk w R) (hs : ∀ k, k < n' → (gr R k).n ≤ 1000000) :
    Calls Try.prog 34 #[.agg #[.int .i64 N, .slice A m c], .slice B n d, .slice B' n' d'] w fun e w' => e = .returned (.int .u64 (withK N E a R n')) ∧ Grows w w' := by
  have HL := hide (show R.length = n' by simpa using hr.len)
  have HR := hide h
  have HA := hide ha
  have HM := hide (hr.new (.cells #[.int .i64 N, .slice A m c] 47))
  have HO := hide hR
  have HS := hide hs
  clear h ha hr hR hs
  go_enter Try.func34, Try.ntmps34
  go_wp2
  go_loopw [11, 6] (fun i u wr => ∃ k : Nat, k ≤ n' ∧ i = .int .i64 (k : Int) ∧ u = .int .u64 (withK N E a R k) ∧ ∃ y : Later (w.alloc (.cells #[.int .i64 N, .slice A m c] 47)), wr = y.now) (fun i _ _ => n' - (intOf i).toNat)
  case atStart => exact ⟨0, by omega, by go_num, rfl, ⟨_, Grows.refl _⟩, rfl⟩
  case round =>
    obtain ⟨k, hk, rfl, rfl, ⟨y, rfl⟩⟩ := hrel
    by_cases hend : n' ≤ k
    · have HE : Hid (withK N E a R k = withK N E a R n') := by rw [show k = n' by omega]; rfl
      go_wp2
      go_ret
      exact ⟨ret_int HE.out, (by repeat (first | exact Grows.refl _ | refine Grows.now ?_ _ | refine Grows.new ?_ _ | refine Grows.drewN ?_ _ | refine Grows.drew ?_ | assumption | (refine Grows.set ?_ (by first | omega | (simp; done) | (simp; omega)) _)))⟩
    · obtain ⟨b, off, rfl, hc⟩ := HM.out.rows (by omega)
      have hc1 := hc k (by omega)
      have HN := hide (withK_succ N E a R k)
      clear hc
      go_wp2_with (first | (go_at_call 68; refine (pShared N A m c E B n d a (gr R k).A (gr R k).n (gr R k).c (gr R k).xs _ (HR.out.grows (by repeat (first | exact Grows.refl _ | refine Grows.now ?_ _ | refine Grows.new ?_ _ | refine Grows.drewN ?_ _ | refine Grows.drew ?_ | assumption | (refine Grows.set ?_ (by first | omega | (simp; done) | (simp; omega)) _)))) hm (HA.out.grows (by repeat (first | exact Grows.refl _ | refine Grows.now ?_ _ | refine Grows.new ?_ _ | refine Grows.drewN ?_ _ | refine Grows.drew ?_ | assumption | (refine Grows.set ?_ (by first | omega | (simp; done) | (simp; omega)) _)))) hn ((HO.out k (by have := HL.out; omega)).1.grows (by repeat (first | exact Grows.refl _ | refine Grows.now ?_ _ | refine Grows.new ?_ _ | refine Grows.drewN ?_ _ | refine Grows.drew ?_ | assumption | (refine Grows.set ?_ (by first | omega | (simp; done) | (simp; omega)) _)))) (HS.out k (by omega))).mono ?_; rintro e w' ⟨rfl, hg⟩; (first | obtain ⟨x, rfl⟩ := Grows.later2 hg | obtain ⟨x, rfl⟩ := Grows.later hg); clear hg))
      go_roundw
      case measure => simp [intOf]; omega
      case rel => exact ⟨k + 1, by omega, by go_num, congrArg (Value.int .u64) (by rw [HN.out]; split <;> omega), _, rfl⟩

set_option maxRecDepth 20000 in
set_option maxHeartbeats 2000000 in
theorem r26With (N : Int) (A : Option Addr) (m c : Nat) (E : List Edg) (B : Option Addr) (n d : Nat) (a : List Int) (B' : Option Addr) (n' d' : Nat) (R : List Row) (w : World) (h : Rd w A 3 m (esCells E)) (hm : m ≤ 1000000)
    (ha : Rd w B 1 n (a.map (.int .i64))) (hn : n ≤ 1000000) (hnd : n ≤ d) (hr : Rd w B' 1 n' (R.map rowVal)) (hn' : n' ≤ 1000000) (hR : rowsOk w R) (hs : ∀ k, k < n' → (gr R k).n ≤ 1000000) :
    Calls Try.prog 33 #[.agg #[.int .i64 N, .slice A m c], .slice B n d, .slice B' n' d'] w fun e w' => e = .returned (.int .u64 (withK N E a R n')) ∧ Grows w w' := by
  have HL := hide (show R.length = n' by simpa using hr.len)
  have HR := hide h
  have HA := hide ha
  have HM := hide (hr.new (.cells #[.int .i64 N, .slice A m c] 47))
  have HO := hide hR
  have HS := hide hs
  clear h ha hr hR hs
  go_enter Try.func33, Try.ntmps33
  go_wp2
  go_loopw [8, 7] (fun i u wr => ∃ k : Nat, k ≤ n' ∧ i = .int .i64 (k : Int) ∧ u = .int .u64 (withK N E a R k) ∧ ∃ y : Later (w.alloc (.cells #[.int .i64 N, .slice A m c] 47)), wr = y.now) (fun i _ _ => n' - (intOf i).toNat)
  case atStart => exact ⟨0, by omega, by go_num, rfl, ⟨_, Grows.refl _⟩, rfl⟩
  case round =>
    obtain ⟨k, hk, rfl, rfl, ⟨y, rfl⟩⟩ := hrel
    by_cases hend : n' ≤ k
    · have HE : Hid (withK N E a R k = withK N E a R n') := by rw [show k = n' by omega]; rfl
      go_wp2
      go_ret
      exact ⟨ret_int HE.out, (by repeat (first | exact Grows.refl _ | refine Grows.now ?_ _ | refine Grows.new ?_ _ | refine Grows.drewN ?_ _ | refine Grows.drew ?_ | assumption | (refine Grows.set ?_ (by first | omega | (simp; done) | (simp; omega)) _)))⟩
    · obtain ⟨b, off, rfl, hc⟩ := HM.out.rows (by omega)
      have hc1 := hc k (by omega)
      have HN := hide (withK_succ N E a R k)
      clear hc
      go_wp2_with fail
      ((first | refine wp_region_gen2 (by kernel_rfl) (by kernel_rfl) ?_ | refine wp_region_gen (by kernel_rfl) (by kernel_rfl) ?_); (repeat' (first | (refine gLex_val0 rfl (by kernel_rfl) (fun K hK => ?_); (go_simp; (try (simp only [↓IntWalk.iteOmega]; try go_simp)); (try simp (disch := omega) only [IntWalk.i64_in]); (try simp (disch := omega) only [IntWalk.u64_in]); first | (refine hK _ ?_; clear hK K) | (apply Exists.intro; refine ⟨fun x => ?_, hK _ ?_⟩; (first | (go_at_call 67; exact r8Shared N A m c E B n d a (gr R k).A (gr R k).n (gr R k).c (gr R k).xs _ (HR.out.grows (by repeat (first | exact Grows.refl _ | refine Grows.now ?_ _ | refine Grows.new ?_ _ | refine Grows.drewN ?_ _ | refine Grows.drew ?_ | assumption | (refine Grows.set ?_ (by first | omega | (simp; done) | (simp; omega)) _)))) hm (HA.out.grows (by repeat (first | exact Grows.refl _ | refine Grows.now ?_ _ | refine Grows.new ?_ _ | refine Grows.drewN ?_ _ | refine Grows.drew ?_ | assumption | (refine Grows.set ?_ (by first | omega | (simp; done) | (simp; omega)) _)))) hn hnd ((HO.out k (by have := HL.out; omega)).1.grows (by repeat (first | exact Grows.refl _ | refine Grows.now ?_ _ | refine Grows.new ?_ _ | refine Grows.drewN ?_ _ | refine Grows.drew ?_ | assumption | (refine Grows.set ?_ (by first | omega | (simp; done) | (simp; omega)) _)))) (HS.out k (by omega)))); clear hK K))) | (refine gLex_undef rfl rfl rfl (by kernel_rfl) (fun K hK => ?_); go_simp; refine hK _ ?_; clear hK K) | (refine gLex_ask rfl rfl rfl ?_; first | (apply gAsk_yes; kernel_rfl; intro K hK; (go_simp; (try (simp only [↓IntWalk.iteOmega]; try go_simp)); (try simp (disch := omega) only [IntWalk.i64_in]); (try simp (disch := omega) only [IntWalk.u64_in]); first | (refine hK _ ?_; clear hK K) | (apply Exists.intro; refine ⟨fun x => ?_, hK _ ?_⟩; (first | (go_at_call 67; exact r8Shared N A m c E B n d a (gr R k).A (gr R k).n (gr R k).c (gr R k).xs _ (HR.out.grows (by repeat (first | exact Grows.refl _ | refine Grows.now ?_ _ | refine Grows.new ?_ _ | refine Grows.drewN ?_ _ | refine Grows.drew ?_ | assumption | (refine Grows.set ?_ (by first | omega | (simp; done) | (simp; omega)) _)))) hm (HA.out.grows (by repeat (first | exact Grows.refl _ | refine Grows.now ?_ _ | refine Grows.new ?_ _ | refine Grows.drewN ?_ _ | refine Grows.drew ?_ | assumption | (refine Grows.set ?_ (by first | omega | (simp; done) | (simp; omega)) _)))) hn hnd ((HO.out k (by have := HL.out; omega)).1.grows (by repeat (first | exact Grows.refl _ | refine Grows.now ?_ _ | refine Grows.new ?_ _ | refine Grows.drewN ?_ _ | refine Grows.drew ?_ | assumption | (refine Grows.set ?_ (by first | omega | (simp; done) | (simp; omega)) _)))) (HS.out k (by omega)))); clear hK K))) | ((first | apply gAsk_no1 | apply gAsk_no2); kernel_rfl; intro K hK; simp [go_sem]; refine hK _ ?_; clear hK K) | (apply gAsk_part; kernel_rfl; all_goals (intro h K hK; (try simp only [Bool.not_true] at h); (try simp only [Bool.not_false] at h); (try simp only [decide_eq_true_eq] at h); (try simp only [decide_eq_false_iff_not] at h); first | (exfalso; first | contradiction | omega) | (go_simp; (try (simp only [↓IntWalk.iteOmega]; try go_simp)); (try simp (disch := omega) only [IntWalk.i64_in]); (try simp (disch := omega) only [IntWalk.u64_in]); first | (refine hK _ ?_; clear hK K) | (apply Exists.intro; refine ⟨fun x => ?_, hK _ ?_⟩; (first | (go_at_call 67; exact r8Shared N A m c E B n d a (gr R k).A (gr R k).n (gr R k).c (gr R k).xs _ (HR.out.grows (by repeat (first | exact Grows.refl _ | refine Grows.now ?_ _ | refine Grows.new ?_ _ | refine Grows.drewN ?_ _ | refine Grows.drew ?_ | assumption | (refine Grows.set ?_ (by first | omega | (simp; done) | (simp; omega)) _)))) hm (HA.out.grows (by repeat (first | exact Grows.refl _ | refine Grows.now ?_ _ | refine Grows.new ?_ _ | refine Grows.drewN ?_ _ | refine Grows.drew ?_ | assumption | (refine Grows.set ?_ (by first | omega | (simp; done) | (simp; omega)) _)))) hn hnd ((HO.out k (by have := HL.out; omega)).1.grows (by repeat (first | exact Grows.refl _ | refine Grows.now ?_ _ | refine Grows.new ?_ _ | refine Grows.drewN ?_ _ | refine Grows.drew ?_ | assumption | (refine Grows.set ?_ (by first | omega | (simp; done) | (simp; omega)) _)))) (HS.out k (by omega)))); clear hK K))))))); all_goals ((apply gLex_end); intro x))
      go_wp2
      go_roundw
      case measure => simp [intOf]; omega
      case rel => exact ⟨k + 1, by omega, by go_num, congrArg (Value.int .u64) (by rw [HN.out]; split <;> omega), _, rfl⟩

set_option maxHeartbeats 400000 in
theorem shShort (n a b base : Int) (w : World) (hn : U64 n) (hb : U64 base) :
    Calls Try.prog 37 #[.int .u64 n, .agg #[.int .u64 a, .int .u64 b], .int .u64 base] w fun e w' => e = .returned (.bool (stB n a b base)) ∧ Grows w w' := by
  have HC := hide (fun W => ratioStretched n a b base W hn hb)
  clear hn hb
  go_enter Try.func37, Try.ntmps37
  go_wp2_with (first | (go_at_call 70; refine (HC.out _).mono ?_; rintro e w' ⟨rfl, hg⟩; (first | obtain ⟨x, rfl⟩ := Grows.later2 hg | obtain ⟨x, rfl⟩ := Grows.later hg); clear hg))
  go_ret
  exact ⟨rfl, (by repeat (first | exact Grows.refl _ | refine Grows.now ?_ _ | refine Grows.new ?_ _ | refine Grows.drewN ?_ _ | refine Grows.drew ?_ | assumption | (refine Grows.set ?_ (by first | omega | (simp; done) | (simp; omega)) _)))⟩

def littleB (N : Int) (E : List Edg) (l : List Int) (R : List Row) (a b base : Int) : Bool := decide (R.length = 0) || wiB (withK N E l R R.length) a b base

set_option maxHeartbeats 2000000 in
theorem shLittle (N : Int) (A : Option Addr) (m c : Nat) (E : List Edg) (B : Option Addr) (n d : Nat) (l : List Int) (B' : Option Addr) (n' d' : Nat) (R : List Row) (a b base : Int) (w : World) (h : Rd w A 3 m (esCells E)) (hm : m ≤ 1000000)
    (ha : Rd w B 1 n (l.map (.int .i64))) (hn : n ≤ 1000000) (hr : Rd w B' 1 n' (R.map rowVal)) (hn' : n' ≤ 1000000) (hR : rowsOk w R) (hs : ∀ k, k < n' → (gr R k).n ≤ 1000000) (hb : U64 base) :
    Calls Try.prog 35 #[.agg #[.int .i64 N, .slice A m c], .slice B n d, .slice B' n' d', .agg #[.int .u64 a, .int .u64 b], .int .u64 base] w fun e w' => e = .returned (.bool (littleB N E l R a b base)) ∧ Grows w w' := by
  have hl : R.length = n' := by simpa using hr.len
  have C1 := hide (fun W (g : Grows w W) => shWith N A m c E B n d l B' n' d' R W (h.grows g) hm (ha.grows g) hn (hr.grows g) hn' (hR.grows g) hs)
  have C2 := hide (fun W => ratioWithin (withK N E l R n') a b base W (withK_u64 _ _ _ _ _) hb)
  clear h ha hr hR hs hb
  by_cases h0 : n' = 0
  · have HW : Hid (littleB N E l R a b base = true) := by unfold littleB; rw [hl, decide_eq_true h0]; rfl
    clear hl C1 C2
    subst h0
    go_enter Try.func35, Try.ntmps35
    go_wp2_with fail
    ((first | refine wp_region_gen2 (by kernel_rfl) (by kernel_rfl) ?_ | refine wp_region_gen (by kernel_rfl) (by kernel_rfl) ?_); (repeat' (first | (refine gLex_val0 rfl (by kernel_rfl) (fun K hK => ?_); (go_simp; (try (simp only [↓IntWalk.iteOmega]; try go_simp)); (try simp (disch := omega) only [IntWalk.i64_in]); (try simp (disch := omega) only [IntWalk.u64_in]); first | (refine hK _ ?_; clear hK K) | (apply Exists.intro; refine ⟨fun x => ?_, hK _ ?_⟩; (first | fail); clear hK K))) | (refine gLex_undef rfl rfl rfl (by kernel_rfl) (fun K hK => ?_); go_simp; refine hK _ ?_; clear hK K) | (refine gLex_ask rfl rfl rfl ?_; first | (apply gAsk_yes; kernel_rfl; intro K hK; (go_simp; (try (simp only [↓IntWalk.iteOmega]; try go_simp)); (try simp (disch := omega) only [IntWalk.i64_in]); (try simp (disch := omega) only [IntWalk.u64_in]); first | (refine hK _ ?_; clear hK K) | (apply Exists.intro; refine ⟨fun x => ?_, hK _ ?_⟩; (first | fail); clear hK K))) | ((first | apply gAsk_no1 | apply gAsk_no2); kernel_rfl; intro K hK; simp [go_sem]; refine hK _ ?_; clear hK K) | (apply gAsk_part; kernel_rfl; all_goals (intro h K hK; (try simp only [Bool.not_true] at h); (try simp only [Bool.not_false] at h); (try simp only [decide_eq_true_eq] at h); (try simp only [decide_eq_false_iff_not] at h); first | (exfalso; first | contradiction | omega) | (go_simp; (try (simp only [↓IntWalk.iteOmega]; try go_simp)); (try simp (disch := omega) only [IntWalk.i64_in]); (try simp (disch := omega) only [IntWalk.u64_in]); first | (refine hK _ ?_; clear hK K) | (apply Exists.intro; refine ⟨fun x => ?_, hK _ ?_⟩; (first | fail); clear hK K))))))); all_goals ((apply gLex_end); intro x))
    go_wp2
    go_ret
    exact ⟨ret_bool HW.out.symm, (by repeat (first | exact Grows.refl _ | refine Grows.now ?_ _ | refine Grows.new ?_ _ | refine Grows.drewN ?_ _ | refine Grows.drew ?_ | assumption | (refine Grows.set ?_ (by first | omega | (simp; done) | (simp; omega)) _)))⟩
  · have HW : Hid (littleB N E l R a b base = wiB (withK N E l R n') a b base) := by unfold littleB; rw [hl, decide_eq_false h0]; rfl
    have hd : ((n' : Int) == 0) = false := by simp; omega
    clear hl h0
    go_enter Try.func35, Try.ntmps35
    go_wp2_with fail
    ((first | refine wp_region_gen2 (by kernel_rfl) (by kernel_rfl) ?_ | refine wp_region_gen (by kernel_rfl) (by kernel_rfl) ?_); (repeat' (first | (refine gLex_val0 rfl (by kernel_rfl) (fun K hK => ?_); (go_simp; (try (simp only [↓IntWalk.iteOmega]; try go_simp)); (try simp (disch := omega) only [IntWalk.i64_in]); (try simp (disch := omega) only [IntWalk.u64_in]); first | (refine hK _ ?_; clear hK K) | (apply Exists.intro; refine ⟨fun x => ?_, hK _ ?_⟩; (first | (go_at_call 34; exact C1.out _ (by repeat (first | exact Grows.refl _ | refine Grows.now ?_ _ | refine Grows.new ?_ _ | refine Grows.drewN ?_ _ | refine Grows.drew ?_ | assumption | (refine Grows.set ?_ (by first | omega | (simp; done) | (simp; omega)) _)))) | (go_at_call 57; exact C2.out _)); clear hK K))) | (refine gLex_undef rfl rfl rfl (by kernel_rfl) (fun K hK => ?_); go_simp; refine hK _ ?_; clear hK K) | (refine gLex_ask rfl rfl rfl ?_; first | (apply gAsk_yes; kernel_rfl; intro K hK; (go_simp; (try (simp only [↓IntWalk.iteOmega]; try go_simp)); (try simp (disch := omega) only [IntWalk.i64_in]); (try simp (disch := omega) only [IntWalk.u64_in]); first | (refine hK _ ?_; clear hK K) | (apply Exists.intro; refine ⟨fun x => ?_, hK _ ?_⟩; (first | (go_at_call 34; exact C1.out _ (by repeat (first | exact Grows.refl _ | refine Grows.now ?_ _ | refine Grows.new ?_ _ | refine Grows.drewN ?_ _ | refine Grows.drew ?_ | assumption | (refine Grows.set ?_ (by first | omega | (simp; done) | (simp; omega)) _)))) | (go_at_call 57; exact C2.out _)); clear hK K))) | ((first | apply gAsk_no1 | apply gAsk_no2); kernel_rfl; intro K hK; simp [go_sem]; refine hK _ ?_; clear hK K) | (apply gAsk_part; kernel_rfl; all_goals (intro h K hK; (try simp only [Bool.not_true] at h); (try simp only [Bool.not_false] at h); (try simp only [decide_eq_true_eq] at h); (try simp only [decide_eq_false_iff_not] at h); first | (exfalso; first | contradiction | omega) | (go_simp; (try (simp only [↓IntWalk.iteOmega]; try go_simp)); (try simp (disch := omega) only [IntWalk.i64_in]); (try simp (disch := omega) only [IntWalk.u64_in]); first | (refine hK _ ?_; clear hK K) | (apply Exists.intro; refine ⟨fun x => ?_, hK _ ?_⟩; (first | (go_at_call 34; exact C1.out _ (by repeat (first | exact Grows.refl _ | refine Grows.now ?_ _ | refine Grows.new ?_ _ | refine Grows.drewN ?_ _ | refine Grows.drew ?_ | assumption | (refine Grows.set ?_ (by first | omega | (simp; done) | (simp; omega)) _)))) | (go_at_call 57; exact C2.out _)); clear hK K))))))); all_goals ((apply gLex_end); intro x))
    go_wp2
    go_ret
    exact ⟨ret_bool HW.out.symm, (by repeat (first | exact Grows.refl _ | refine Grows.now ?_ _ | refine Grows.new ?_ _ | refine Grows.drewN ?_ _ | refine Grows.drew ?_ | assumption | (refine Grows.set ?_ (by first | omega | (simp; done) | (simp; omega)) _)))⟩

theorem little_plain (N : Int) (E : List Edg) (l : List Int) (R : List Row) (a b base : Int) (hr : rrB a b = true) (k : Nat) :
    decide (withK N E l R k * b ≤ base * a) = true ↔ 0 ≤ base * a ∧ ∀ j, j < k → sharedV N E l (gr R j).xs * b ≤ base * a := by
  have hb : 1 ≤ b := (rrB_spec hr).2.2.1
  induction k with
  | zero => simp [withK]
  | succ k ih =>
    rw [withK_succ, decide_eq_true_eq]
    rw [decide_eq_true_eq] at ih
    constructor
    · intro h
      have h1 : withK N E l R k * b ≤ base * a := Int.le_trans (Int.mul_le_mul_of_nonneg_right (by omega) (by omega)) h
      have h2 : sharedV N E l (gr R k).xs * b ≤ base * a := Int.le_trans (Int.mul_le_mul_of_nonneg_right (by omega) (by omega)) h
      refine ⟨(ih.1 h1).1, fun j hj => ?_⟩
      by_cases e : j = k
      · rw [e]; exact h2
      · exact (ih.1 h1).2 j (by omega)
    · rintro ⟨h0, h⟩
      have h1 := ih.2 ⟨h0, fun j hj => h j (by omega)⟩
      have h2 := h k (by omega)
      rcases Int.le_total (withK N E l R k) (sharedV N E l (gr R k).xs) with e | e
      · rw [Int.max_eq_right e]; exact h2
      · rw [Int.max_eq_left e]; exact h1

set_option maxRecDepth 20000 in
set_option maxHeartbeats 2000000 in
theorem r26Little (N : Int) (A : Option Addr) (m c : Nat) (E : List Edg) (B : Option Addr) (n d : Nat) (l : List Int) (B' : Option Addr) (n' d' : Nat) (R : List Row) (a b base : Int) (w : World) (h : Rd w A 3 m (esCells E)) (hm : m ≤ 1000000)
    (ha : Rd w B 1 n (l.map (.int .i64))) (hn : n ≤ 1000000) (hnd : n ≤ d) (hr : Rd w B' 1 n' (R.map rowVal)) (hn' : n' ≤ 1000000) (hR : rowsOk w R) (hs : ∀ k, k < n' → (gr R k).n ≤ 1000000) (hua : U64 a) (hb : U64 base) :
    Calls Try.prog 36 #[.agg #[.int .i64 N, .slice A m c], .slice B n d, .slice B' n' d', .agg #[.int .u64 a, .int .u64 b], .int .u64 base] w fun e w' => e = .returned (.bool (littleB N E l R a b base)) ∧ Grows w w' := by
  have hl : R.length = n' := by simpa using hr.len
  have HR := hide h
  have HA := hide ha
  have HM := hide (hr.grows (((Grows.refl w).new (.cells #[.int .i64 N, .slice A m c] 47)).new (.cells #[.int .u64 a, .int .u64 b] 32)))
  have HO := hide hR
  have HS := hide hs
  have HL := hide hl
  have C0 := fun W => rRight a b W hua
  have HB := hide hb
  have HP := hide (fun hr => little_plain N E l R a b base hr)
  have HU := hide hua
  clear h ha hr hR hs hua hb hl
  cases hrr : rrB a b with
  | false =>
    rw [hrr] at C0
    have H0 := hide C0
    by_cases h0 : n' = 0
    · have HW : Hid (littleB N E l R a b base = true) := by unfold littleB; rw [HL.out, decide_eq_true h0]; rfl
      clear C0 hrr HM HR HA HO HS
      subst h0
      go_enter Try.func36, Try.ntmps36
      go_wp2_with (first | (go_at_call 59; refine (H0.out _).mono ?_; rintro e w' ⟨rfl, hg⟩; (first | obtain ⟨x, rfl⟩ := Grows.later2 hg | obtain ⟨x, rfl⟩ := Grows.later hg); clear hg))
      go_ret
      exact ⟨ret_bool HW.out.symm, (by repeat (first | exact Grows.refl _ | refine Grows.now ?_ _ | refine Grows.new ?_ _ | refine Grows.drewN ?_ _ | refine Grows.drew ?_ | assumption | (refine Grows.set ?_ (by first | omega | (simp; done) | (simp; omega)) _)))⟩
    · have HW : Hid (littleB N E l R a b base = false) := by unfold littleB wiB; rw [HL.out, decide_eq_false h0, hrr]; rfl
      have hd : ((n' : Int) == 0) = false := by simp; omega
      clear C0 hrr h0
      go_enter Try.func36, Try.ntmps36
      go_wp2_with (first | (go_at_call 59; refine (H0.out _).mono ?_; rintro e w' ⟨rfl, hg⟩; (first | obtain ⟨x, rfl⟩ := Grows.later2 hg | obtain ⟨x, rfl⟩ := Grows.later hg); clear hg))
      go_ret
      exact ⟨ret_bool HW.out.symm, (by repeat (first | exact Grows.refl _ | refine Grows.now ?_ _ | refine Grows.new ?_ _ | refine Grows.drewN ?_ _ | refine Grows.drew ?_ | assumption | (refine Grows.set ?_ (by first | omega | (simp; done) | (simp; omega)) _)))⟩
  | true =>
    rw [hrr] at C0
    have H0 := hide C0
    have HU2 := hide (rrB_u64 hrr)
    have H00 : Hid (0 ≤ base * a) := Int.mul_nonneg HB.out.1 HU.out.1
    have HT : Hid ((∀ j, j < n' → sharedV N E l (gr R j).xs * b ≤ base * a) → littleB N E l R a b base = true) := fun h => by
      unfold littleB wiB
      rw [HL.out, hrr, (HP.out hrr n').2 ⟨H00.out, h⟩]; simp
    have HF : Hid (∀ j, j < n' → ¬ sharedV N E l (gr R j).xs * b ≤ base * a → littleB N E l R a b base = false) := fun j hj h => by
      unfold littleB wiB
      rw [HL.out, hrr, decide_eq_false (by omega)]
      cases hx : decide (withK N E l R n' * b ≤ base * a) with
      | false => rfl
      | true => exact absurd (((HP.out hrr n').1 hx).2 j hj) h
    have HRR := hide hrr
    clear C0 hrr
    go_enter Try.func36, Try.ntmps36
    go_wp2_with (first | (go_at_call 59; refine (H0.out _).mono ?_; rintro e w' ⟨rfl, hg⟩; (first | obtain ⟨x, rfl⟩ := Grows.later2 hg | obtain ⟨x, rfl⟩ := Grows.later hg); clear hg))
    go_loopw [11] (fun i wr => ∃ k : Nat, k ≤ n' ∧ i = .int .i64 (k : Int) ∧ (∃ y : Later ((w.alloc (.cells #[.int .i64 N, .slice A m c] 47)).alloc (.cells #[.int .u64 a, .int .u64 b] 32)), wr = y.now) ∧ ∀ j, j < k → sharedV N E l (gr R j).xs * b ≤ base * a) (fun i _ => n' - (intOf i).toNat)
    case atStart => exact ⟨0, by omega, by go_num, ⟨_, rfl⟩, fun j h => by omega⟩
    case round =>
      obtain ⟨k, hk, rfl, ⟨y, rfl⟩, hall⟩ := hrel
      have HH := hide hall
      clear hall
      by_cases hend : n' ≤ k
      · have HW := hide (HT.out fun j hj => HH.out j (by omega))
        go_wp2
        go_ret
        exact ⟨ret_bool HW.out.symm, (by repeat (first | exact Grows.refl _ | refine Grows.now ?_ _ | refine Grows.new ?_ _ | refine Grows.drewN ?_ _ | refine Grows.drew ?_ | assumption | (refine Grows.set ?_ (by first | omega | (simp; done) | (simp; omega)) _)))⟩
      · obtain ⟨bb, off, rfl, hc⟩ := HM.out.rows (by omega)
        have hc1 := hc k (by omega)
        clear hc
        have C1 := hide (fun W (g : Grows w W) => r8Shared N A m c E B n d l (gr R k).A (gr R k).n (gr R k).c (gr R k).xs W (HR.out.grows g) hm (HA.out.grows g) hn hnd ((HO.out k (by have := HL.out; omega)).1.grows g) (HS.out k (by omega)))
        have C2 := fun W => rWithin (sharedV N E l (gr R k).xs) a b base W (sharedV_u64 _ _ _ _) HU2.out.1 HB.out
        cases hx : decide (sharedV N E l (gr R k).xs * b ≤ base * a) with
        | true =>
          rw [show wiB (sharedV N E l (gr R k).xs) a b base = true by unfold wiB; rw [HRR.out, hx]; rfl] at C2
          have K2 := hide C2
          have HX := hide (of_decide_eq_true hx)
          clear C2 hx
          go_wp2_with fail
          ((first | refine wp_region_gen2 (by kernel_rfl) (by kernel_rfl) ?_ | refine wp_region_gen (by kernel_rfl) (by kernel_rfl) ?_); (repeat' (first | (refine gLex_val0 rfl (by kernel_rfl) (fun K hK => ?_); (go_simp; (try (simp only [↓IntWalk.iteOmega]; try go_simp)); (try simp (disch := omega) only [IntWalk.i64_in]); (try simp (disch := omega) only [IntWalk.u64_in]); first | (refine hK _ ?_; clear hK K) | (apply Exists.intro; refine ⟨fun x => ?_, hK _ ?_⟩; (first | (go_at_call 67; exact C1.out _ (by repeat (first | exact Grows.refl _ | refine Grows.now ?_ _ | refine Grows.new ?_ _ | refine Grows.drewN ?_ _ | refine Grows.drew ?_ | assumption | (refine Grows.set ?_ (by first | omega | (simp; done) | (simp; omega)) _)))) | (go_at_call 69; exact K2.out _)); clear hK K))) | (refine gLex_undef rfl rfl rfl (by kernel_rfl) (fun K hK => ?_); go_simp; refine hK _ ?_; clear hK K) | (refine gLex_ask rfl rfl rfl ?_; first | (apply gAsk_yes; kernel_rfl; intro K hK; (go_simp; (try (simp only [↓IntWalk.iteOmega]; try go_simp)); (try simp (disch := omega) only [IntWalk.i64_in]); (try simp (disch := omega) only [IntWalk.u64_in]); first | (refine hK _ ?_; clear hK K) | (apply Exists.intro; refine ⟨fun x => ?_, hK _ ?_⟩; (first | (go_at_call 67; exact C1.out _ (by repeat (first | exact Grows.refl _ | refine Grows.now ?_ _ | refine Grows.new ?_ _ | refine Grows.drewN ?_ _ | refine Grows.drew ?_ | assumption | (refine Grows.set ?_ (by first | omega | (simp; done) | (simp; omega)) _)))) | (go_at_call 69; exact K2.out _)); clear hK K))) | ((first | apply gAsk_no1 | apply gAsk_no2); kernel_rfl; intro K hK; simp [go_sem]; refine hK _ ?_; clear hK K) | (apply gAsk_part; kernel_rfl; all_goals (intro h K hK; (try simp only [Bool.not_true] at h); (try simp only [Bool.not_false] at h); (try simp only [decide_eq_true_eq] at h); (try simp only [decide_eq_false_iff_not] at h); first | (exfalso; first | contradiction | omega) | (go_simp; (try (simp only [↓IntWalk.iteOmega]; try go_simp)); (try simp (disch := omega) only [IntWalk.i64_in]); (try simp (disch := omega) only [IntWalk.u64_in]); first | (refine hK _ ?_; clear hK K) | (apply Exists.intro; refine ⟨fun x => ?_, hK _ ?_⟩; (first | (go_at_call 67; exact C1.out _ (by repeat (first | exact Grows.refl _ | refine Grows.now ?_ _ | refine Grows.new ?_ _ | refine Grows.drewN ?_ _ | refine Grows.drew ?_ | assumption | (refine Grows.set ?_ (by first | omega | (simp; done) | (simp; omega)) _)))) | (go_at_call 69; exact K2.out _)); clear hK K))))))); all_goals ((apply gLex_end); intro x))
          go_wp2
          go_roundw
          case measure => simp [intOf]; omega
          case rel =>
            refine ⟨k + 1, by omega, by go_num, ⟨_, rfl⟩, fun j hj => ?_⟩
            by_cases e : j = k
            · rw [e]; exact HX.out
            · exact HH.out j (by omega)
        | false =>
          rw [show wiB (sharedV N E l (gr R k).xs) a b base = false by unfold wiB; rw [HRR.out, hx]; rfl] at C2
          have K2 := hide C2
          have HW := hide (HF.out k (by omega) (Int.not_le.1 (of_decide_eq_false hx)))
          clear C2 hx
          go_wp2_with fail
          ((first | refine wp_region_gen2 (by kernel_rfl) (by kernel_rfl) ?_ | refine wp_region_gen (by kernel_rfl) (by kernel_rfl) ?_); (repeat' (first | (refine gLex_val0 rfl (by kernel_rfl) (fun K hK => ?_); (go_simp; (try (simp only [↓IntWalk.iteOmega]; try go_simp)); (try simp (disch := omega) only [IntWalk.i64_in]); (try simp (disch := omega) only [IntWalk.u64_in]); first | (refine hK _ ?_; clear hK K) | (apply Exists.intro; refine ⟨fun x => ?_, hK _ ?_⟩; (first | (go_at_call 67; exact C1.out _ (by repeat (first | exact Grows.refl _ | refine Grows.now ?_ _ | refine Grows.new ?_ _ | refine Grows.drewN ?_ _ | refine Grows.drew ?_ | assumption | (refine Grows.set ?_ (by first | omega | (simp; done) | (simp; omega)) _)))) | (go_at_call 69; exact K2.out _)); clear hK K))) | (refine gLex_undef rfl rfl rfl (by kernel_rfl) (fun K hK => ?_); go_simp; refine hK _ ?_; clear hK K) | (refine gLex_ask rfl rfl rfl ?_; first | (apply gAsk_yes; kernel_rfl; intro K hK; (go_simp; (try (simp only [↓IntWalk.iteOmega]; try go_simp)); (try simp (disch := omega) only [IntWalk.i64_in]); (try simp (disch := omega) only [IntWalk.u64_in]); first | (refine hK _ ?_; clear hK K) | (apply Exists.intro; refine ⟨fun x => ?_, hK _ ?_⟩; (first | (go_at_call 67; exact C1.out _ (by repeat (first | exact Grows.refl _ | refine Grows.now ?_ _ | refine Grows.new ?_ _ | refine Grows.drewN ?_ _ | refine Grows.drew ?_ | assumption | (refine Grows.set ?_ (by first | omega | (simp; done) | (simp; omega)) _)))) | (go_at_call 69; exact K2.out _)); clear hK K))) | ((first | apply gAsk_no1 | apply gAsk_no2); kernel_rfl; intro K hK; simp [go_sem]; refine hK _ ?_; clear hK K) | (apply gAsk_part; kernel_rfl; all_goals (intro h K hK; (try simp only [Bool.not_true] at h); (try simp only [Bool.not_false] at h); (try simp only [decide_eq_true_eq] at h); (try simp only [decide_eq_false_iff_not] at h); first | (exfalso; first | contradiction | omega) | (go_simp; (try (simp only [↓IntWalk.iteOmega]; try go_simp)); (try simp (disch := omega) only [IntWalk.i64_in]); (try simp (disch := omega) only [IntWalk.u64_in]); first | (refine hK _ ?_; clear hK K) | (apply Exists.intro; refine ⟨fun x => ?_, hK _ ?_⟩; (first | (go_at_call 67; exact C1.out _ (by repeat (first | exact Grows.refl _ | refine Grows.now ?_ _ | refine Grows.new ?_ _ | refine Grows.drewN ?_ _ | refine Grows.drew ?_ | assumption | (refine Grows.set ?_ (by first | omega | (simp; done) | (simp; omega)) _)))) | (go_at_call 69; exact K2.out _)); clear hK K))))))); all_goals ((apply gLex_end); intro x))
          go_wp2
          go_ret
          exact ⟨ret_bool HW.out.symm, (by repeat (first | exact Grows.refl _ | refine Grows.now ?_ _ | refine Grows.new ?_ _ | refine Grows.drewN ?_ _ | refine Grows.drew ?_ | assumption | (refine Grows.set ?_ (by first | omega | (simp; done) | (simp; omega)) _)))⟩

end Go.Proofs.Ytaoodmioehkebaa
