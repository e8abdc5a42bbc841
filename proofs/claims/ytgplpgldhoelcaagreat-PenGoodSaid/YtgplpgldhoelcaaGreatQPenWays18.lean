/- Contracts: whether a row is short, and shares little with others. -/
import Derived.Test.YtgplpgldhoelcaaGreatQPenWays00
import Derived.Test.YtgplpgldhoelcaaGreatQPenWays01
import Derived.Test.YtgplpgldhoelcaaGreatQPenWays02
import Derived.Test.YtgplpgldhoelcaaGreatQPenWays13
import Derived.Test.YtgplpgldhoelcaaGreatQPenWays17
namespace Go.Proofs.YtgplpgldhoelcaaGreat
open Go Go.RowKit Go.Maps
set_option maxHeartbeats 400000 in
theorem shShort (n a b base : Int) (w : World) (hn : U64 n) (hb : U64 base) :
    Calls Tryz.prog 105 #[.int .u64 n, .agg #[.int .u64 a, .int .u64 b], .int .u64 base] w fun e w' => e = .returned (.bool (stB n a b base)) ∧ Grows w w' := by
  have HC := hide (fun W => ratioStretched n a b base W hn hb)
  clear hn hb
  go_enter Tryz.func105, Tryz.ntmps105
  go_wp2_with (first | (go_at_call 157; refine (HC.out _).mono ?_; rintro e w' ⟨rfl, hg⟩; (first | obtain ⟨x, rfl⟩ := Grows.later2 hg | obtain ⟨x, rfl⟩ := Grows.later hg); clear hg))
  go_ret
  exact ⟨rfl, GG⟩

def littleB (N : Int) (E : List Edg) (l : List Int) (R : List Row) (a b base : Int) : Bool := decide (R.length = 0) || wiB (withK N E l R R.length) a b base

set_option maxHeartbeats 2000000 in
theorem shLittle (N : Int) (A : Option Addr) (m c : Nat) (E : List Edg) (B : Option Addr) (n d : Nat) (l : List Int) (B' : Option Addr) (n' d' : Nat) (R : List Row) (a b base : Int) (w : World) (h : Rd w A 3 m (esCells E)) (hm : m ≤ 1000000)
    (ha : Rd w B 1 n (l.map (.int .i64))) (hn : n ≤ 1000000) (hr : Rd w B' 1 n' (R.map rowVal)) (hn' : n' ≤ 1000000) (hR : rowsOk w R) (hs : ∀ k, k < n' → (gr R k).n ≤ 1000000) (hb : U64 base) :
    Calls Tryz.prog 107 #[.agg #[.int .i64 N, .slice A m c], .slice B n d, .slice B' n' d', .agg #[.int .u64 a, .int .u64 b], .int .u64 base] w fun e w' => e = .returned (.bool (littleB N E l R a b base)) ∧ Grows w w' := by
  have hl : R.length = n' := by simpa using hr.len
  have C1 := hide (fun W (g : Grows w W) => shWith N A m c E B n d l B' n' d' R W (h.grows g) hm (ha.grows g) hn (hr.grows g) hn' (hR.grows g) hs)
  have C2 := hide (fun W => ratioWithin (withK N E l R n') a b base W (withK_u64 _ _ _ _ _) hb)
  clear h ha hr hR hs hb
  by_cases h0 : n' = 0
  · have HW : Hid (littleB N E l R a b base = true) := by unfold littleB; rw [hl, decide_eq_true h0]; rfl
    clear hl C1 C2
    subst h0
    go_enter Tryz.func107, Tryz.ntmps107
    go_wp2_with fail
    ((first | refine wp_region_gen2 (by kernel_rfl) (by kernel_rfl) ?_ | refine wp_region_gen (by kernel_rfl) (by kernel_rfl) ?_); (repeat' ((first | refine gLex_val0 rfl (by kernel_rfl) (fun K hK => ?_) | refine gLex_undef rfl rfl rfl (by kernel_rfl) (fun K hK => ?_) | (refine gLex_ask rfl rfl rfl ?_; first | (apply gAsk_yes; kernel_rfl; intro K hK) | ((first | apply gAsk_no1 | apply gAsk_no2); kernel_rfl; intro K hK) | (apply gAsk_part; kernel_rfl; all_goals (intro h K hK; (try simp only [Bool.not_true] at h); (try simp only [Bool.not_false] at h); (try simp only [decide_eq_true_eq] at h); (try simp only [decide_eq_false_iff_not] at h); try (exfalso; first | contradiction | omega))))) <;> (go_simp; (try (simp only [↓IntWalk.iteOmega]; try go_simp)); (try simp (disch := omega) only [IntWalk.i64_in]); (try simp (disch := omega) only [IntWalk.u64_in]); refine hK _ ?_; clear hK K))); all_goals ((apply gLex_end); intro x))
    go_wp2
    go_ret
    exact ⟨ret_bool HW.out.symm, GG⟩
  · have HW : Hid (littleB N E l R a b base = wiB (withK N E l R n') a b base) := by unfold littleB; rw [hl, decide_eq_false h0]; rfl
    have hd : ((n' : Int) == 0) = false := by simp; omega
    clear hl h0
    go_enter Tryz.func107, Tryz.ntmps107
    go_wp2_with fail
    ((first | refine wp_region_gen2 (by kernel_rfl) (by kernel_rfl) ?_ | refine wp_region_gen (by kernel_rfl) (by kernel_rfl) ?_); (repeat' ((first | refine gLex_val0 rfl (by kernel_rfl) (fun K hK => ?_) | refine gLex_undef rfl rfl rfl (by kernel_rfl) (fun K hK => ?_) | (refine gLex_ask rfl rfl rfl ?_; first | (apply gAsk_yes; kernel_rfl; intro K hK) | ((first | apply gAsk_no1 | apply gAsk_no2); kernel_rfl; intro K hK) | (apply gAsk_part; kernel_rfl; all_goals (intro h K hK; (try simp only [Bool.not_true] at h); (try simp only [Bool.not_false] at h); (try simp only [decide_eq_true_eq] at h); (try simp only [decide_eq_false_iff_not] at h); try (exfalso; first | contradiction | omega))))) <;> (go_simp; (try (simp only [↓IntWalk.iteOmega]; try go_simp)); (try simp (disch := omega) only [IntWalk.i64_in]); (try simp (disch := omega) only [IntWalk.u64_in]); first | (refine hK _ ?_; clear hK K) | (apply Exists.intro; refine ⟨fun x => ?_, hK _ ?_⟩; (first | (go_at_call 159; exact C1.out _ GG) | (go_at_call 158; exact C2.out _)); clear hK K)))); all_goals ((apply gLex_end); intro x))
    go_wp2
    go_ret
    exact ⟨ret_bool HW.out.symm, GG⟩

theorem little_plain (N : Int) (E : List Edg) (l : List Int) (R : List Row) (a b base : Int) (hr : rrB a b = true) (k : Nat) :
    decide (withK N E l R k * b ≤ base * a) = true ↔ 0 ≤ base * a ∧ ∀ j, j < k → sharedV N E l (gr R j).xs * b ≤ base * a := by
  have hb : 1 ≤ b := (rrB_spec hr).2.2.1
  induction k with
  | zero => simp [withK]
  | succ k ih =>
    rw [withK_succ, decide_eq_true_eq]
    rw [decide_eq_true_eq] at ih
    constructor
    · intro h
      have h1 : withK N E l R k * b ≤ base * a := Int.le_trans (Int.mul_le_mul_of_nonneg_right (by omega) (by omega)) h
      have h2 : sharedV N E l (gr R k).xs * b ≤ base * a := Int.le_trans (Int.mul_le_mul_of_nonneg_right (by omega) (by omega)) h
      refine ⟨(ih.1 h1).1, fun j hj => ?_⟩
      by_cases e : j = k
      · rw [e]; exact h2
      · exact (ih.1 h1).2 j (by omega)
    · rintro ⟨h0, h⟩
      have h1 := ih.2 ⟨h0, fun j hj => h j (by omega)⟩
      have h2 := h k (by omega)
      rcases Int.le_total (withK N E l R k) (sharedV N E l (gr R k).xs) with e | e
      · rw [Int.max_eq_right e]; exact h2
      · rw [Int.max_eq_left e]; exact h1

set_option maxRecDepth 20000 in
set_option maxHeartbeats 2000000 in
theorem r26Little (N : Int) (A : Option Addr) (m c : Nat) (E : List Edg) (B : Option Addr) (n d : Nat) (l : List Int) (B' : Option Addr) (n' d' : Nat) (R : List Row) (a b base : Int) (w : World) (h : Rd w A 3 m (esCells E)) (hm : m ≤ 1000000)
    (ha : Rd w B 1 n (l.map (.int .i64))) (hn : n ≤ 1000000) (hnd : n ≤ d) (hr : Rd w B' 1 n' (R.map rowVal)) (hn' : n' ≤ 1000000) (hR : rowsOk w R) (hs : ∀ k, k < n' → (gr R k).n ≤ 1000000) (hua : U64 a) (hb : U64 base) :
    Calls Tryz.prog 112 #[.agg #[.int .i64 N, .slice A m c], .slice B n d, .slice B' n' d', .agg #[.int .u64 a, .int .u64 b], .int .u64 base] w fun e w' => e = .returned (.bool (littleB N E l R a b base)) ∧ Grows w w' := by
  have hl : R.length = n' := by simpa using hr.len
  have HR := hide h
  have HA := hide ha
  have HM := hide (hr.grows (((Grows.refl w).new (.cells #[.int .i64 N, .slice A m c] 35)).new (.cells #[.int .u64 a, .int .u64 b] 71)))
  have HO := hide hR
  have HS := hide hs
  have HL := hide hl
  have C0 := fun W => rRight a b W hua
  have HB := hide hb
  have HP := hide (fun hr => little_plain N E l R a b base hr)
  have HU := hide hua
  clear h ha hr hR hs hua hb hl
  cases hrr : rrB a b with
  | false =>
    rw [hrr] at C0
    have H0 := hide C0
    by_cases h0 : n' = 0
    · have HW : Hid (littleB N E l R a b base = true) := by unfold littleB; rw [HL.out, decide_eq_true h0]; rfl
      clear C0 hrr HM HR HA HO HS
      subst h0
      go_enter Tryz.func112, Tryz.ntmps112
      go_wp2_with (first | (go_at_call 94; refine (H0.out _).mono ?_; rintro e w' ⟨rfl, hg⟩; (first | obtain ⟨x, rfl⟩ := Grows.later2 hg | obtain ⟨x, rfl⟩ := Grows.later hg); clear hg))
      go_ret
      exact ⟨ret_bool HW.out.symm, GG⟩
    · have HW : Hid (littleB N E l R a b base = false) := by unfold littleB wiB; rw [HL.out, decide_eq_false h0, hrr]; rfl
      have hd : ((n' : Int) == 0) = false := by simp; omega
      clear C0 hrr h0
      go_enter Tryz.func112, Tryz.ntmps112
      go_wp2_with (first | (go_at_call 94; refine (H0.out _).mono ?_; rintro e w' ⟨rfl, hg⟩; (first | obtain ⟨x, rfl⟩ := Grows.later2 hg | obtain ⟨x, rfl⟩ := Grows.later hg); clear hg))
      go_ret
      exact ⟨ret_bool HW.out.symm, GG⟩
  | true =>
    rw [hrr] at C0
    have H0 := hide C0
    have HU2 := hide (rrB_u64 hrr)
    have H00 : Hid (0 ≤ base * a) := Int.mul_nonneg HB.out.1 HU.out.1
    have HT : Hid ((∀ j, j < n' → sharedV N E l (gr R j).xs * b ≤ base * a) → littleB N E l R a b base = true) := fun h => by
      unfold littleB wiB
      rw [HL.out, hrr, (HP.out hrr n').2 ⟨H00.out, h⟩]; simp
    have HF : Hid (∀ j, j < n' → ¬ sharedV N E l (gr R j).xs * b ≤ base * a → littleB N E l R a b base = false) := fun j hj h => by
      unfold littleB wiB
      rw [HL.out, hrr, decide_eq_false (by omega)]
      cases hx : decide (withK N E l R n' * b ≤ base * a) with
      | false => rfl
      | true => exact absurd (((HP.out hrr n').1 hx).2 j hj) h
    have HRR := hide hrr
    clear C0 hrr
    go_enter Tryz.func112, Tryz.ntmps112
    go_wp2_with (first | (go_at_call 94; refine (H0.out _).mono ?_; rintro e w' ⟨rfl, hg⟩; (first | obtain ⟨x, rfl⟩ := Grows.later2 hg | obtain ⟨x, rfl⟩ := Grows.later hg); clear hg))
    go_loopw [11] (fun i wr => ∃ k : Nat, k ≤ n' ∧ i = .int .i64 (k : Int) ∧ (∃ y : Later ((w.alloc (.cells #[.int .i64 N, .slice A m c] 35)).alloc (.cells #[.int .u64 a, .int .u64 b] 71)), wr = y.now) ∧ ∀ j, j < k → sharedV N E l (gr R j).xs * b ≤ base * a) (fun i _ => n' - (intOf i).toNat)
    case atStart => exact ⟨0, by omega, by go_num, ⟨_, rfl⟩, fun j h => by omega⟩
    case round =>
      obtain ⟨k, hk, rfl, ⟨y, rfl⟩, hall⟩ := hrel
      have HH := hide hall
      clear hall
      by_cases hend : n' ≤ k
      · have HW := hide (HT.out fun j hj => HH.out j (by omega))
        go_wp2
        go_ret
        exact ⟨ret_bool HW.out.symm, GG⟩
      · obtain ⟨bb, off, rfl, hc⟩ := HM.out.rows (by omega)
        have hc1 := hc k (by omega)
        clear hc
        have C1 := hide (fun W (g : Grows w W) => r8Shared N A m c E B n d l (gr R k).A (gr R k).n (gr R k).c (gr R k).xs W (HR.out.grows g) hm (HA.out.grows g) hn hnd ((HO.out k (by have := HL.out; omega)).1.grows g) (HS.out k (by omega)))
        have C2 := fun W => rWithin (sharedV N E l (gr R k).xs) a b base W (sharedV_u64 _ _ _ _) HU2.out.1 HB.out
        cases hx : decide (sharedV N E l (gr R k).xs * b ≤ base * a) with
        | true =>
          rw [show wiB (sharedV N E l (gr R k).xs) a b base = true by unfold wiB; rw [HRR.out, hx]; rfl] at C2
          have K2 := hide C2
          have HX := hide (of_decide_eq_true hx)
          clear C2 hx
          go_wp2_with fail
          ((first | refine wp_region_gen2 (by kernel_rfl) (by kernel_rfl) ?_ | refine wp_region_gen (by kernel_rfl) (by kernel_rfl) ?_); (repeat' ((first | refine gLex_val0 rfl (by kernel_rfl) (fun K hK => ?_) | refine gLex_undef rfl rfl rfl (by kernel_rfl) (fun K hK => ?_) | (refine gLex_ask rfl rfl rfl ?_; first | (apply gAsk_yes; kernel_rfl; intro K hK) | ((first | apply gAsk_no1 | apply gAsk_no2); kernel_rfl; intro K hK) | (apply gAsk_part; kernel_rfl; all_goals (intro h K hK; (try simp only [Bool.not_true] at h); (try simp only [Bool.not_false] at h); (try simp only [decide_eq_true_eq] at h); (try simp only [decide_eq_false_iff_not] at h); try (exfalso; first | contradiction | omega))))) <;> (go_simp; (try (simp only [↓IntWalk.iteOmega]; try go_simp)); (try simp (disch := omega) only [IntWalk.i64_in]); (try simp (disch := omega) only [IntWalk.u64_in]); first | (refine hK _ ?_; clear hK K) | (apply Exists.intro; refine ⟨fun x => ?_, hK _ ?_⟩; (first | (go_at_call 50; exact C1.out _ GG) | (go_at_call 49; exact K2.out _)); clear hK K)))); all_goals ((apply gLex_end); intro x))
          go_wp2
          go_roundw
          case measure => simp [intOf]; omega
          case rel =>
            refine ⟨k + 1, by omega, by go_num, ⟨_, rfl⟩, fun j hj => ?_⟩
            by_cases e : j = k
            · rw [e]; exact HX.out
            · exact HH.out j (by omega)
        | false =>
          rw [show wiB (sharedV N E l (gr R k).xs) a b base = false by unfold wiB; rw [HRR.out, hx]; rfl] at C2
          have K2 := hide C2
          have HW := hide (HF.out k (by omega) (Int.not_le.1 (of_decide_eq_false hx)))
          clear C2 hx
          go_wp2_with fail
          ((first | refine wp_region_gen2 (by kernel_rfl) (by kernel_rfl) ?_ | refine wp_region_gen (by kernel_rfl) (by kernel_rfl) ?_); (repeat' ((first | refine gLex_val0 rfl (by kernel_rfl) (fun K hK => ?_) | refine gLex_undef rfl rfl rfl (by kernel_rfl) (fun K hK => ?_) | (refine gLex_ask rfl rfl rfl ?_; first | (apply gAsk_yes; kernel_rfl; intro K hK) | ((first | apply gAsk_no1 | apply gAsk_no2); kernel_rfl; intro K hK) | (apply gAsk_part; kernel_rfl; all_goals (intro h K hK; (try simp only [Bool.not_true] at h); (try simp only [Bool.not_false] at h); (try simp only [decide_eq_true_eq] at h); (try simp only [decide_eq_false_iff_not] at h); try (exfalso; first | contradiction | omega))))) <;> (go_simp; (try (simp only [↓IntWalk.iteOmega]; try go_simp)); (try simp (disch := omega) only [IntWalk.i64_in]); (try simp (disch := omega) only [IntWalk.u64_in]); first | (refine hK _ ?_; clear hK K) | (apply Exists.intro; refine ⟨fun x => ?_, hK _ ?_⟩; (first | (go_at_call 50; exact C1.out _ GG) | (go_at_call 49; exact K2.out _)); clear hK K)))); all_goals ((apply gLex_end); intro x))
          go_wp2
          go_ret
          exact ⟨ret_bool HW.out.symm, GG⟩

end Go.Proofs.YtgplpgldhoelcaaGreat

namespace Go.Proofs.YtgplpgldhoelcaaGreat
open Go Go.RowKit Go.Maps
theorem wpList_want {P : Program} {ops : Array Oper} {rest : List Oper} {o : Oper} {a : Act} {Q : Exit → Act → World → Prop} {w : World} (hw : Region.wanted o (yielded ops a.tmps) = true) (h : wpList P ops Q ({ o with guard := none } :: rest) a w) : wpList P ops Q (o :: rest) a w := by
  unfold wpList at h ⊢
  rw [hw]
  exact h
set_option maxRecDepth 20000 in
set_option maxHeartbeats 1000000 in
theorem indexM (A : Option Addr) (n c : Nat) (vs : List Value) (k : FuncId) (cap : Array Value) (p : Nat → Bool) (w : World) (h : Rd w A 1 n vs) (hn : n ≤ 1000000) (hk : ∀ args W, (callFunc k args).run Tryz.prog W = .ok (.enter k args) W) (h1 : ∀ v ∈ vs, ∃ b, v = .map b)
    (hf : ∀ W, Grows w W → ∀ j v, vs[j]? = some v → Calls Tryz.prog k (#[v] ++ cap) W fun x w' => x = .returned (.bool (p j)) ∧ Grows W w') :
    Calls Tryz.prog 209 #[.slice A n c, .func (.func k) #[] cap] w fun e w' => e = .returned (.int .i64 (firstI p (List.range n))) ∧ Grows w w' := by
  have HL := hide h.len
  have HR := hide h
  have HF := hide hf
  have HV := hide h1
  clear h hf h1
  go_enter Tryz.func209, Tryz.ntmps209
  go_wp2
  go_loopw [8] (fun i wr => ∃ k : Nat, k ≤ n ∧ i = .int .i64 (k : Int) ∧ (∃ x : Later w, wr = x.now) ∧ ∀ j, j < k → p j = false) (fun i _ => n - (intOf i).toNat)
  case atStart => exact ⟨0, by omega, by go_num, ⟨⟨w, Grows.refl w⟩, rfl⟩, fun j h1 => by omega⟩
  case round =>
    obtain ⟨q, hq, rfl, ⟨x, rfl⟩, hall⟩ := hrel
    have HA := hide hall
    clear hall
    by_cases hend : n ≤ q
    · go_wp2
      go_ret
      refine ⟨ret_int ?_, GG⟩
      rw [firstI_none]
      intro e he
      exact HA.out e (by have := List.mem_range.1 he; omega)
    · obtain ⟨b, off, rfl, hc⟩ := HR.out.at_ (by omega)
      obtain ⟨v, hv⟩ : ∃ v, vs[q]? = some v := ⟨_, List.getElem?_eq_getElem (by rw [HL.out]; omega)⟩
      have c1 := Holds.mk (hc q v hv)
      obtain ⟨b', rfl⟩ := HV.out v (List.mem_of_getElem? hv)
      have HC := hide (fun W g => HF.out W g q _ hv)
      clear hc hv
      go_wp2_with fail
      refine (HC.out _ GG).mono ?_; rintro e w' ⟨rfl, hg⟩; obtain ⟨x1, rfl⟩ := Grows.later2 hg; clear hg
      cases hp : p q with
      | true =>
        have HW : Hid (firstI p (List.range n) = q) := firstI_at p 0 (List.range n) q (by simp; omega) (fun j hj => by rw [List.getD_eq_getElem?_getD, List.getElem?_range (by omega)]; exact HA.out j hj) (by rw [List.getD_eq_getElem?_getD, List.getElem?_range (by omega)]; exact hp)
        clear hp
        go_wp2
        go_ret
        exact ⟨ret_int HW.out.symm, GG⟩
      | false =>
        have HP := hide hp
        clear hp
        go_wp2
        go_roundw
        case measure => simp [intOf]; omega
        case rel =>
          refine ⟨q + 1, by omega, by go_num, ⟨_, rfl⟩, fun j h1 => ?_⟩
          by_cases hj : j = q
          · rw [hj]; exact HP.out
          · exact HA.out j (by omega)
set_option maxHeartbeats 1000000 in
theorem containsM (A : Option Addr) (n c : Nat) (vs : List Value) (k : FuncId) (cap : Array Value) (p : Nat → Bool) (w : World) (h : Rd w A 1 n vs) (hn : n ≤ 1000000) (hk : ∀ args W, (callFunc k args).run Tryz.prog W = .ok (.enter k args) W) (h1 : ∀ v ∈ vs, ∃ b, v = .map b)
    (hf : ∀ W, Grows w W → ∀ j v, vs[j]? = some v → Calls Tryz.prog k (#[v] ++ cap) W fun x w' => x = .returned (.bool (p j)) ∧ Grows W w') :
    Calls Tryz.prog 165 #[.slice A n c, .func (.func k) #[] cap] w fun e w' => e = .returned (.bool ((List.range n).any p)) ∧ Grows w w' := by
  have HC := hide (indexM A n c vs k cap p w h hn hk h1 hf)
  have HV := hide (firstI_any p (List.range n))
  clear h hf hk h1
  go_enter Tryz.func165, Tryz.ntmps165
  go_wp2_with (first | (go_at_call 209; refine (HC.out).mono ?_; rintro e w' ⟨rfl, hg⟩; (first | obtain ⟨x, rfl⟩ := Grows.later2 hg | obtain ⟨x, rfl⟩ := Grows.later hg); clear hg))
  all_goals go_ret
  all_goals exact ⟨ret_bool (by rw [← HV.out]), GG⟩
def lvO (l : List Int) (k : Nat) (o : List Int) : Bool := !decide (gi l k ∈ o) && (decide (k = 0) || decide (gi l (k - 1) ∈ o))
def lvB (l : List Int) (R : List Row) (k : Nat) : Bool := (List.range R.length).any fun j => lvO l k (gr R j).xs
def lvK (l : List Int) (R : List Row) : Nat → List Int
  | 0 => []
  | k + 1 => if lvB l R k then lvK l R k ++ [(k : Int)] else lvK l R k
theorem lvK_succ (l : List Int) (R : List Row) (k : Nat) : lvK l R (k + 1) = if lvB l R k then lvK l R k ++ [(k : Int)] else lvK l R k := rfl
theorem lvK_len (l : List Int) (R : List Row) (k : Nat) : (lvK l R k).length ≤ k := by
  induction k with
  | zero => simp [lvK]
  | succ k ih =>
    rw [lvK_succ]
    split
    · rw [List.length_append]; simp; omega
    · omega
theorem cntF_pos (l : List Int) (z : Int) : decide (0 < (cntF l z).getD 0) = decide (z ∈ l) := by
  have h := cntF_zero l z
  have h2 := (cntF_le l z).1
  by_cases hz : z ∈ l
  · rw [decide_eq_true hz] at h ⊢
    have : ¬ (cntF l z).getD 0 = 0 := by simpa using h
    exact decide_eq_true (by omega)
  · rw [decide_eq_false hz] at h ⊢
    have : (cntF l z).getD 0 = 0 := by simpa using h
    rw [this]; rfl
set_option maxRecDepth 20000 in
set_option maxHeartbeats 1000000 in
theorem shLeaves1 (b n s : Nat) (o l : List Int) (k : Nat) (g1 g2 g3 : Addr) (A : Option Addr) (m c : Nat) (w : World) (hmap : MapII w b n s (cntF o)) (c1 : Holds w g1 (.int .i64 (gi l k))) (c2 : Holds w g2 (.int .i64 (k : Int))) (c3 : Holds w g3 (.slice A m c)) (h : Rd w A 1 m (l.map (.int .i64))) (hk : k < m) (hm : m ≤ 1000000) (hw : ∀ j, j < m → I64 (gi l j)) :
    Calls Tryz.prog 164 #[.map (some b), .pointer (some g1), .pointer (some g2), .pointer (some g3)] w fun e w' => e = .returned (.bool (lvO l k o)) ∧ Grows w w' := by
  have HM := hide hmap
  have w1 := hw k hk
  have HZ := hide (cntF_zero o (gi l k))
  have HD : lvO l k o = (!decide (gi l k ∈ o) && (decide (k = 0) || decide (gi l (k - 1) ∈ o))) := rfl
  rw [HD]
  clear hmap HD
  cases hin : decide (gi l k ∈ o) with
  | true =>
    have hz : ((cntF o (gi l k)).getD 0 == 0) = false := by rw [HZ.out, hin]; rfl
    clear hin h hw
    go_enter Tryz.func164, Tryz.ntmps164
    go_wp2_with (at_lookup; refine wp_mapGet rfl _ _ rfl b n s _ rfl HM.out _ rfl w1 ?_)
    go_ret
    exact ⟨rfl, GG⟩
  | false =>
    have hz : ((cntF o (gi l k)).getD 0 == 0) = true := by rw [HZ.out, hin]; rfl
    clear hin
    rcases Nat.eq_zero_or_pos k with hk0 | hk0
    · subst hk0
      clear h hw
      go_enter Tryz.func164, Tryz.ntmps164
      go_wp2_with (at_lookup; refine wp_mapGet rfl _ _ rfl b n s _ rfl HM.out _ rfl w1 ?_)
      go_ret
      exact ⟨rfl, GG⟩
    · obtain ⟨k, rfl⟩ : ∃ j, k = j + 1 := ⟨k - 1, by omega⟩
      obtain ⟨b2, off, rfl, hc⟩ := h.intsH (by omega)
      have c4 := hc k (by omega)
      have w2 := hw k (by omega)
      have HP := hide (cntF_pos o (gi l k))
      rw [Nat.add_sub_cancel]
      clear h hw hc
      generalize gi l (k + 1) = u at *
      generalize gi l k = v at *
      have hk1 : decide (k + 1 = 0) = false := by simp
      rw [hk1]
      simp only [Int.natCast_add, Int.natCast_one] at c2
      go_enter Tryz.func164, Tryz.ntmps164
      go_wp2_with (at_lookup; first | refine wp_mapGet rfl _ _ rfl b n s _ rfl HM.out u rfl w1 ?_ | (refine wpList_want ((wanted_of rfl rfl rfl).trans rfl) ?_; refine wp_mapGet rfl _ _ rfl b n s _ rfl HM.out v rfl w2 ?_))
      go_ret
      exact ⟨ret_bool (by rw [HP.out, show ((k : Int) + 1 == 0) = false from beq_eq_false_iff_ne.2 (by omega)]; simp), GG⟩
theorem elemMap : Elem 208 204 1 := by
  have h : (Tryz.prog.info? 204).map (fun i => (i.zero, i.size, i.bytes)) = some (some (.map none), 1, 8) := by kernel_rfl
  obtain ⟨i, hi, hz, hs, hb⟩ := info_parts h
  exact ⟨Tryz.underlying208, ⟨i, _, 8, hi, hz, hs, hb, rfl, by omega⟩, by omega⟩
def GiveI (w : World) (l : List Int) (e : Ending) (w' : World) : Prop := ∃ A c, e = .returned (.slice A l.length c) ∧ Rd w' A 1 l.length (l.map (.int .i64)) ∧ Grows w w'
def SetsOk (w : World) (R : List Row) (bs : List Nat) : Prop := ∀ j b, bs[j]? = some b → ∃ n s, MapII w b n s (cntF (gr R j).xs)
theorem SetsOk.grows {w w' : World} {R : List Row} {bs : List Nat} (h : SetsOk w R bs) (hg : Grows w w') : SetsOk w' R bs := fun j b hb => by
  obtain ⟨n, s, hm⟩ := h j b hb
  exact ⟨n, s, hm.grows hg⟩
set_option maxRecDepth 20000 in
set_option maxHeartbeats 4000000 in
theorem shLeaves (G : Value) (N : Int) (AG : Option Addr) (mg cg : Nat) (hG : G = .agg #[.int .i64 N, .slice AG mg cg]) (A : Option Addr) (n c : Nat) (l : List Int) (B : Option Addr) (m d : Nat) (R : List Row) (w : World) (h : Rd w A 1 n (l.map (.int .i64))) (hn : n ≤ 100000) (hw : ∀ j, j < n → I64 (gi l j))
    (hr : Rd w B 1 m (R.map rowVal)) (hm : m ≤ 100000) (hR : ∀ k, k < m → Rd w (gr R k).A 1 (gr R k).n ((gr R k).xs.map (.int .i64)) ∧ (gr R k).n ≤ 1000000 ∧ ∀ j, j < (gr R k).n → I64 (gi (gr R k).xs j)) :
    Calls Tryz.prog 110 #[G, .slice A n c, .slice B m d] w (GiveI w (lvK l R n)) := by
  subst hG
  have HL := hide (show l.length = n by simpa using h.len)
  have HM := hide (show R.length = m by simpa using hr.len)
  have HA := hide h
  have HB := hide hr
  have HR := hide hR
  have HI := hide hw
  have HK1 := hide (fun args W => run_callGo (P := Tryz.prog) Tryz.func164 (by kernel_rfl) (by kernel_rfl) args W)
  clear h hr hR hw
  go_enter Tryz.func110, Tryz.ntmps110
  go_wp2_with fail
  obtain ⟨W0, hW0⟩ : ∃ W0, W0 = ((w.alloc (.cells #[.int .i64 N, .slice AG mg cg] 35)).alloc (.cells #[.slice A n c] 22)) := ⟨_, rfl⟩
  have hg0 : Grows w W0 := by rw [hW0]; exact GG
  have m0 : Mine W0 ⟨w.heap.size + 1, 0, none⟩ (.slice A n c) := by rw [hW0]; exact inferInstance
  rw [← hW0]
  clear hW0
  have HA := hide (HA.out.grows hg0)
  have HB := hide (HB.out.grows hg0)
  go_loopw [15, 7] (fun i u wr => ∃ k : Nat, k ≤ m ∧ i = .int .i64 (k : Int) ∧ ∃ y : Later W0, wr = y.now ∧ ∃ A' c' bs, u = .slice A' k c' ∧ Own y.now W0.heap.size 204 1 A' k c' ((bs : List Nat).map fun b => .map (some b)) ∧ Hid (SetsOk y.now R bs)) (fun i _ _ => m - (intOf i).toNat)
  case atStart => exact ⟨0, by omega, by go_num, ⟨_, Grows.refl _⟩, rfl, none, 0, [], rfl, Own.nil _ _ _ _, fun j b hb => by simp at hb⟩
  case round =>
    obtain ⟨k, hk, rfl, y, rfl, A', c', bs, rfl, hown, HS⟩ := hrel
    have HO := hide hown
    clear hown
    by_cases hend : m ≤ k
    · have hkm : k = m := by omega
      subst hkm
      have HBL := hide (show bs.length = k by have := HO.out.len; simpa using this)
      go_wp2_with fail
      go_loopw [27, 6] (fun i u wr => ∃ q : Nat, q ≤ n ∧ i = .int .i64 (q : Int) ∧ ∃ z : Later y.now, wr = z.now ∧ ∃ A2 c2 s2, u = .slice A2 s2 c2 ∧ Hid (s2 = (lvK l R q).length) ∧ Own z.now y.now.heap.size 3 1 A2 s2 c2 ((lvK l R q).map (.int .i64))) (fun i _ _ => n - (intOf i).toNat)
      case atStart => exact ⟨0, by omega, by go_num, ⟨_, Grows.refl _⟩, rfl, none, 0, 0, rfl, rfl, Own.nil _ _ _ _⟩
      case round =>
        obtain ⟨q, hq, rfl, z, rfl, A2, c2, s2, rfl, HS2, hown2⟩ := hrel
        have HO2 := hide hown2
        clear hown2
        by_cases hend2 : n ≤ q
        · have hqn : q = n := by omega
          subst hqn
          go_wp2
          go_ret
          refine ⟨A2, c2, by rw [← HS2.out]; rfl, by rw [← HS2.out]; exact HO2.out.rd, GG⟩
        · obtain ⟨b, off, rfl, hc⟩ := HA.out.intsH (by omega)
          have c1 := hc q (by omega)
          clear hc
          have HN := hide (lvK_succ l R q)
          have hs2 : s2 ≤ 1000000 := by have := HS2.out; have := lvK_len l R q; omega
          have HC := hide (fun (W : World) (g : Grows y.now W) (g1 g2 : Addr) (k1 : Holds W g1 (.int .i64 (gi l q))) (k2 : Holds W g2 (.int .i64 (q : Int))) => containsM A' k c' (bs.map fun b => .map (some b)) 164 #[.pointer (some g1), .pointer (some g2), .pointer (some ⟨w.heap.size + 1, 0, none⟩)] (fun j => lvO l q (gr R j).xs) W (HO.out.rd.grows g) (by omega) HK1.out (by intro v hv; obtain ⟨b, _, rfl⟩ := List.mem_map.1 hv; exact ⟨_, rfl⟩)
            (fun W' g' j v hv => by
              rw [List.getElem?_map] at hv
              obtain ⟨b', hb', rfl⟩ := Option.map_eq_some_iff.1 hv
              obtain ⟨n1, s1, hm1⟩ := HS.out j b' hb'
              exact shLeaves1 b' n1 s1 _ l q g1 g2 _ _ n c W' ((hm1.grows g).grows g') ⟨g'.keeps k1.cell⟩ ⟨g'.keeps k2.cell⟩ ⟨(y.grows.trans (g.trans g')).keeps m0.cell⟩ (HA.out.grows (y.grows.trans (g.trans g'))) (by omega) (by omega) HI.out))
          have HV : Hid ((List.range k).any (fun j => lvO l q (gr R j).xs) = lvB l R q) := by show _ = _; unfold lvB; rw [HM.out]
          rw [HV.out] at HC
          generalize gi l q = v at *
          cases hb : lvB l R q with
          | false =>
            have HN2 : Hid (lvK l R (q + 1) = lvK l R q) := by show _ = _; rw [HN.out, hb]; rfl
            rw [hb] at HC
            clear hb
            go_wp2_with (go_at_call 165; refine (HC.out _ GG _ _ inferInstance inferInstance).mono ?_; rintro e w' ⟨rfl, hg⟩; obtain ⟨x1, rfl⟩ := hg.later; clear hg)
            exact ⟨⟨q + 1, by omega, by go_num, ⟨x1.now, GG⟩, rfl, A2, c2, s2, rfl, by rw [HN2.out]; exact HS2, by rw [HN2.out]; exact (show Own x1.now _ _ _ _ _ _ _ from HO2.out.grows GG)⟩, by simp [intOf]; omega⟩
          | true =>
            have HN2 : Hid (lvK l R (q + 1) = lvK l R q ++ [(q : Int)]) := by show _ = _; rw [HN.out, hb]; rfl
            rw [hb] at HC
            clear hb
            go_wp2_with (first
              | (go_at_call 165; refine (HC.out _ GG _ _ inferInstance inferInstance).mono ?_; rintro e w' ⟨rfl, hg⟩; obtain ⟨x1, rfl⟩ := hg.later; clear hg)
              | (at_builtin; refine wp_app1 elemInt rfl _ _ rfl _ GG s2 c2 A2 _ rfl (HO2.out.grows GG) _ _ _ rfl inferInstance rfl (by omega) ?_; intro A3 c3 y3 hown3; have HO3 := hide hown3; clear hown3))
            exact ⟨⟨q + 1, by omega, by go_num, y3, rfl, A3, c3, s2 + 1, rfl, by rw [HN2.out]; show s2 + 1 = _; rw [List.length_append, HS2.out]; rfl, by rw [HN2.out, List.map_append]; exact HO3.out⟩, by simp [intOf]; omega⟩
    · obtain ⟨b, off, rfl, hc⟩ := HB.out.rows (by omega)
      have c1 := Holds.mk (hc k (by omega))
      obtain ⟨r1, r2, r3⟩ := HR.out k (by omega)
      have C1 := hide (fun (W : World) (g : Grows w W) => shSet (gr R k).A (gr R k).n (gr R k).c (gr R k).xs W (r1.grows g) r2 r3)
      have hbl0 : bs.length = k := by have := HO.out.len; simpa using this
      have HBL := hide hbl0
      clear hbl0
      clear hc r1 r2 r3
      go_wp2_with (first
        | (go_at_call 163; refine (C1.out _ GG).mono ?_; rintro e w' ⟨b1, s1, rfl, hb1, hmap1, hg1⟩; obtain ⟨x1, rfl⟩ := hg1.later; have HM1 := hide hmap1; clear hmap1 hg1)
        | (at_builtin; refine wp_app1M elemMap rfl _ _ rfl _ GG k c' A' _ rfl (HO.out.grows GG) _ _ _ rfl inferInstance rfl (by omega) ?_; intro A3 c3 y3 hown3 hgr3; have HO3 := hide hown3; have HG3 := hide hgr3; clear hown3 hgr3))
      refine ⟨⟨k + 1, by omega, by go_num, y3, rfl, A3, c3, bs ++ [b1], rfl, by rw [List.map_append]; exact HO3.out, ?_⟩, by simp [intOf]; omega⟩
      intro j b hj
      by_cases hjk : j < bs.length
      · rw [List.getElem?_append_left hjk] at hj
        obtain ⟨n1, s2, hm1⟩ := HS.out j b hj
        exact ⟨n1, s2, (hm1.grows GG).row (HO.out.grows GG) HG3.out⟩
      · have hlt := (List.getElem?_eq_some_iff.1 hj).1
        simp at hlt
        have e : j = bs.length := by omega
        subst e
        simp at hj
        subst hj
        rw [HBL.out]
        exact ⟨_, s1, (HM1.out.grows GG).row (HO.out.grows GG) HG3.out⟩
def lvJ (l : List Int) (R : List Row) (k j : Nat) : Bool := (List.range j).any fun j => lvO l k (gr R j).xs
theorem lvJ_succ (l : List Int) (R : List Row) (k j : Nat) : lvJ l R k (j + 1) = (lvJ l R k j || lvO l k (gr R j).xs) := by unfold lvJ; rw [List.range_succ, List.any_append]; simp
set_option maxRecDepth 20000 in
set_option maxHeartbeats 4000000 in
theorem r26Leaves (A : Option Addr) (n c : Nat) (l : List Int) (B : Option Addr) (m d : Nat) (R : List Row) (w : World) (h : Rd w A 1 n (l.map (.int .i64))) (hn : n ≤ 100000)
    (hr : Rd w B 1 m (R.map rowVal)) (hm : m ≤ 100000) (hR : ∀ k, k < m → Rd w (gr R k).A 1 (gr R k).n ((gr R k).xs.map (.int .i64)) ∧ (gr R k).n ≤ 1000000) :
    Calls Tryz.prog 113 #[.slice A n c, .slice B m d] w (GiveI w (lvK l R n)) := by
  have HL := hide (show l.length = n by simpa using h.len)
  have HM := hide (show R.length = m by simpa using hr.len)
  have HA := hide h
  have HB := hide hr
  have HR := hide hR
  clear h hr hR
  go_enter Tryz.func113, Tryz.ntmps113
  go_wp2_with fail
  go_loopw [6, 5] (fun i u wr => ∃ q : Nat, q ≤ n ∧ i = .int .i64 (q : Int) ∧ ∃ z : Later w, wr = z.now ∧ ∃ A2 c2 s2, u = .slice A2 s2 c2 ∧ Hid (s2 = (lvK l R q).length) ∧ Own z.now w.heap.size 3 1 A2 s2 c2 ((lvK l R q).map (.int .i64))) (fun i _ _ => n - (intOf i).toNat)
  case atStart => exact ⟨0, by omega, by go_num, ⟨_, Grows.refl _⟩, rfl, none, 0, 0, rfl, rfl, Own.nil _ _ _ _⟩
  case round =>
    obtain ⟨q, hq, rfl, z, rfl, A2, c2, s2, rfl, HS2, hown2⟩ := hrel
    have HO2 := hide hown2
    clear hown2
    by_cases hend2 : n ≤ q
    · have hqn : q = n := by omega
      subst hqn
      go_wp2
      go_ret
      refine ⟨A2, c2, by rw [← HS2.out]; rfl, by rw [← HS2.out]; exact HO2.out.rd, GG⟩
    · obtain ⟨b, off, rfl, hc⟩ := HA.out.intsH (by omega)
      have c1 := hc q (by omega)
      have HC := hide hc
      clear hc
      have HN := hide (lvK_succ l R q)
      have hs2 : s2 ≤ 1000000 := by have := HS2.out; have := lvK_len l R q; omega
      have HVM : Hid (lvJ l R q m = lvB l R q) := by show _ = _; unfold lvJ lvB; rw [HM.out]
      have hdq : decide (q < n) = true := decide_eq_true (by omega)
      go_wp2_with fail
      go_loopw [8, 7] (fun i u wr => ∃ j : Nat, j ≤ m ∧ i = .int .i64 (j : Int) ∧ u = .bool (lvJ l R q j) ∧ ∃ y : Later z.now, wr = y.now) (fun i _ _ => m - (intOf i).toNat)
      case atStart => exact ⟨0, by omega, by go_num, rfl, ⟨_, Grows.refl _⟩, rfl⟩
      case round =>
        obtain ⟨j, hj, rfl, rfl, y, rfl⟩ := hrel
        by_cases hend : m ≤ j
        · have hjm : j = m := by omega
          subst hjm
          rw [HVM.out]
          cases hb : lvB l R q with
          | false =>
            have HN2 : Hid (lvK l R (q + 1) = lvK l R q) := by show _ = _; rw [HN.out, hb]; rfl
            clear hb
            go_wp2
            exact ⟨⟨q + 1, by omega, by go_num, ⟨y.now, GG⟩, rfl, A2, c2, s2, rfl, by rw [HN2.out]; exact HS2, by rw [HN2.out]; exact (show Own y.now _ _ _ _ _ _ _ from HO2.out.grows GG)⟩, by simp [intOf]; omega⟩
          | true =>
            have HN2 : Hid (lvK l R (q + 1) = lvK l R q ++ [(q : Int)]) := by show _ = _; rw [HN.out, hb]; rfl
            clear hb
            go_wp2_with (at_builtin; refine wp_app1 elemInt rfl _ _ rfl _ GG s2 c2 A2 _ rfl (HO2.out.grows GG) _ _ _ rfl inferInstance rfl (by omega) ?_; intro A3 c3 y3 hown3; have HO3 := hide hown3; clear hown3)
            exact ⟨⟨q + 1, by omega, by go_num, y3, rfl, A3, c3, s2 + 1, rfl, by rw [HN2.out]; show s2 + 1 = _; rw [List.length_append, HS2.out]; rfl, by rw [HN2.out, List.map_append]; exact HO3.out⟩, by simp [intOf]; omega⟩
        · obtain ⟨b2, off2, rfl, hc2⟩ := HB.out.rows (by omega)
          have c2' := Holds.mk (hc2 j (by omega))
          obtain ⟨r1, r2⟩ := HR.out j (by omega)
          have H1 := hide (fun (W : World) (g : Grows w W) v => r1Has (gr R j).A (gr R j).n (gr R j).c (gr R j).xs v W (r1.grows g) r2)
          have HJ := hide (lvJ_succ l R q j)
          have HD : Hid (lvO l q (gr R j).xs = (!decide (gi l q ∈ (gr R j).xs) && (decide (q = 0) || decide (gi l (q - 1) ∈ (gr R j).xs)))) := rfl
          clear hc2 r1 r2
          have C1 := fun W (g : Grows w W) => H1.out W g (gi l q)
          cases hin : decide (gi l q ∈ (gr R j).xs) with
          | true =>
            have HJ2 : Hid (lvJ l R q (j + 1) = lvJ l R q j) := by show _ = _; rw [HJ.out, HD.out, hin]; simp
            rw [hin] at C1
            have H2 := hide C1
            clear C1 hin
            generalize lvJ l R q j = bj at *
            go_wp2_with fail
            ((first | refine wp_region_gen (by kernel_rfl) (by kernel_rfl) ?_); (repeat' ((first | refine gLex_val0 rfl (by kernel_rfl) (fun K hK => ?_) | refine gLex_undef rfl rfl rfl (by kernel_rfl) (fun K hK => ?_) | (refine gLex_ask rfl rfl rfl ?_; first | (apply gAsk_yes; kernel_rfl; intro K hK) | ((first | apply gAsk_no1 | apply gAsk_no2); kernel_rfl; intro K hK) | (apply gAsk_part; kernel_rfl; all_goals (intro h K hK; (try simp only [Bool.not_true] at h); (try simp only [Bool.not_false] at h); (try simp only [decide_eq_true_eq] at h); (try simp only [decide_eq_false_iff_not] at h); try (exfalso; first | contradiction | omega))))) <;> (go_simp; (try (simp only [↓IntWalk.iteOmega]; try go_simp)); (try simp (disch := omega) only [IntWalk.i64_in]); (try simp (disch := omega) only [IntWalk.u64_in]); first | (refine hK _ ?_; clear hK K) | (apply Exists.intro; refine ⟨fun x => ?_, hK _ ?_⟩; (first | (go_at_call 57; exact calls_same (H2.out _ GG))); clear hK K)))); all_goals ((apply gLex_end); intro x))
            go_wp2
            exact ⟨⟨j + 1, by omega, by go_num, by rw [HJ2.out], Grows.later GG⟩, by simp [intOf]; omega⟩
          | false =>
            rw [hin] at C1
            have H2 := hide C1
            rcases Nat.eq_zero_or_pos q with hq0 | hq0
            · have HJ2 : Hid (lvJ l R q (j + 1) = true) := by show _ = _; rw [HJ.out, HD.out, hin]; simp [hq0]
              have hq1 : ((q : Int) == 0) = true := beq_iff_eq.2 (by omega)
              clear C1 hin hq0
              go_wp2_with fail
              ((first | refine wp_region_gen (by kernel_rfl) (by kernel_rfl) ?_); (repeat' ((first | refine gLex_val0 rfl (by kernel_rfl) (fun K hK => ?_) | refine gLex_undef rfl rfl rfl (by kernel_rfl) (fun K hK => ?_) | (refine gLex_ask rfl rfl rfl ?_; first | (apply gAsk_yes; kernel_rfl; intro K hK) | ((first | apply gAsk_no1 | apply gAsk_no2); kernel_rfl; intro K hK) | (apply gAsk_part; kernel_rfl; all_goals (intro h K hK; (try simp only [Bool.not_true] at h); (try simp only [Bool.not_false] at h); (try simp only [decide_eq_true_eq] at h); (try simp only [decide_eq_false_iff_not] at h); try (exfalso; first | contradiction | omega))))) <;> (go_simp; (try (simp only [↓IntWalk.iteOmega]; try go_simp)); (try simp (disch := omega) only [IntWalk.i64_in]); (try simp (disch := omega) only [IntWalk.u64_in]); first | (refine hK _ ?_; clear hK K) | (apply Exists.intro; refine ⟨fun x => ?_, hK _ ?_⟩; (first | (go_at_call 57; exact calls_same (H2.out _ GG))); clear hK K)))); all_goals ((apply gLex_end); intro x))
              go_wp2
              exact ⟨⟨j + 1, by omega, by go_num, by rw [HJ2.out], Grows.later GG⟩, by simp [intOf]; omega⟩
            · obtain ⟨q, rfl⟩ : ∃ q', q = q' + 1 := ⟨q - 1, by omega⟩
              have hqz : decide (q + 1 = 0) = false := by simp
              have cq := HC.out q (by omega)
              have C2 := fun W (g : Grows w W) => H1.out W g (gi l q)
              rw [Nat.add_sub_cancel] at HD
              cases hin2 : decide (gi l q ∈ (gr R j).xs) with
              | true =>
                have HJ2 : Hid (lvJ l R (q + 1) (j + 1) = true) := by show _ = _; rw [HJ.out, HD.out, hin, hin2]; simp
                rw [hin2] at C2
                have H3 := hide C2
                clear C1 C2 hin hin2 hqz
                simp only [Int.natCast_add, Int.natCast_one]
                generalize gi l (q + 1) = v at *
                generalize gi l q = u at *
                go_wp2_with fail
                ((first | refine wp_region_gen (by kernel_rfl) (by kernel_rfl) ?_); (repeat' ((first | refine gLex_val0 rfl (by kernel_rfl) (fun K hK => ?_) | refine gLex_undef rfl rfl rfl (by kernel_rfl) (fun K hK => ?_) | (refine gLex_ask rfl rfl rfl ?_; first | (apply gAsk_yes; kernel_rfl; intro K hK) | ((first | apply gAsk_no1 | apply gAsk_no2); kernel_rfl; intro K hK) | (apply gAsk_part; kernel_rfl; all_goals (intro h K hK; (try simp only [Bool.not_true] at h); (try simp only [Bool.not_false] at h); (try simp only [decide_eq_true_eq] at h); (try simp only [decide_eq_false_iff_not] at h); try (exfalso; first | contradiction | omega))))) <;> (go_simp; (try (simp only [↓IntWalk.iteOmega]; try go_simp)); (try simp (disch := omega) only [IntWalk.i64_in]); (try simp (disch := omega) only [IntWalk.u64_in]); first | (refine hK _ ?_; clear hK K) | (apply Exists.intro; refine ⟨fun x => ?_, hK _ ?_⟩; (first | (go_at_call 57; first | with_reducible exact calls_same (H2.out _ GG) | with_reducible exact calls_same (H3.out _ GG))); clear hK K)))); all_goals ((apply gLex_end); intro x))
                go_wp2
                exact ⟨⟨j + 1, by omega, by go_num, by rw [HJ2.out], Grows.later GG⟩, by simp [intOf]; omega⟩
              | false =>
                have HJ2 : Hid (lvJ l R (q + 1) (j + 1) = lvJ l R (q + 1) j) := by show _ = _; rw [HJ.out, HD.out, hin, hin2]; simp
                rw [hin2] at C2
                have H3 := hide C2
                clear C1 C2 hin hin2 hqz
                generalize lvJ l R (q + 1) j = bj at *
                simp only [Int.natCast_add, Int.natCast_one]
                generalize gi l (q + 1) = v at *
                generalize gi l q = u at *
                go_wp2_with fail
                ((first | refine wp_region_gen (by kernel_rfl) (by kernel_rfl) ?_); (repeat' ((first | refine gLex_val0 rfl (by kernel_rfl) (fun K hK => ?_) | refine gLex_undef rfl rfl rfl (by kernel_rfl) (fun K hK => ?_) | (refine gLex_ask rfl rfl rfl ?_; first | (apply gAsk_yes; kernel_rfl; intro K hK) | ((first | apply gAsk_no1 | apply gAsk_no2); kernel_rfl; intro K hK) | (apply gAsk_part; kernel_rfl; all_goals (intro h K hK; (try simp only [Bool.not_true] at h); (try simp only [Bool.not_false] at h); (try simp only [decide_eq_true_eq] at h); (try simp only [decide_eq_false_iff_not] at h); try (exfalso; first | contradiction | omega))))) <;> (go_simp; (try (simp only [↓IntWalk.iteOmega]; try go_simp)); (try simp (disch := omega) only [IntWalk.i64_in]); (try simp (disch := omega) only [IntWalk.u64_in]); first | (refine hK _ ?_; clear hK K) | (apply Exists.intro; refine ⟨fun x => ?_, hK _ ?_⟩; (first | (go_at_call 57; first | with_reducible exact calls_same (H2.out _ GG) | with_reducible exact calls_same (H3.out _ GG))); clear hK K)))); all_goals ((apply gLex_end); intro x))
                go_wp2
                exact ⟨⟨j + 1, by omega, by go_num, by rw [HJ2.out], Grows.later GG⟩, by simp [intOf]; omega⟩
end Go.Proofs.YtgplpgldhoelcaaGreat

namespace Go.Proofs.YtgplpgldhoelcaaGreat
open Go Go.RowKit
def ciL (l : List Nat) : List Int := l.map fun (i : Nat) => (i : Int)
theorem ciL_len (l : List Nat) : (ciL l).length = l.length := by simp [ciL]
theorem ciL_gi {l : List Nat} {k : Nat} (h : k < l.length) : gi (ciL l) k = (l[k] : Int) := by simp [ciL, gi, h]
def ndsN (E : List Edg) (v : Nat) (l : List Nat) : List Nat := v :: l.map (tN E)
theorem Fol.link {x : Srch} {d : List Nat} {t v : Nat} {l : List Nat} (h : Fol x d t v l) : ∀ k (hk : k < l.length), fN x.E l[k] = (ndsN x.E v l)[k]'(by simp [ndsN]; omega) := by
  induction h with
  | here => intro k hk; simp at hk
  | @step v i l hne hi hfi hb hl hfol ih =>
    intro k hk
    match k, hk with
    | 0, _ => simpa [ndsN] using hfi
    | k + 1, hk =>
      have := ih k (by simpa using hk)
      simpa [ndsN] using this
theorem Fol.last {x : Srch} {d : List Nat} {t v : Nat} {l : List Nat} (h : Fol x d t v l) : (ndsN x.E v l)[l.length]'(by simp [ndsN]) = t := by
  induction h with
  | here => rfl
  | @step v i l hne hi hfi hb hl hfol ih => simpa [ndsN] using ih
theorem ndI_is {N : Nat} {E : List Edg} (hE : InN N E) {v : Nat} {l : List Nat} (hl : ∀ i ∈ l, i < E.length) : ∀ k (hk : k ≤ l.length), ndI E (v : Int) (ciL l) k = ((ndsN E v l)[k]'(by simp [ndsN]; omega) : Int)
  | 0, _ => rfl
  | k + 1, hk => by
    have hk' : k < l.length := by omega
    show (ge E (gi (ciL l) k).toNat).t = _
    rw [ciL_gi hk', Int.toNat_natCast, (hE.t _ (hl _ (List.getElem_mem hk'))).2]
    simp [ndsN]
theorem lkB_is {N : Nat} {x : Srch} {d : List Nat} {t v : Nat} {l : List Nat} (hE : InN N x.E) (h : Fol x d t v l) : ∀ k, k ≤ l.length → lkB x.E (v : Int) (ciL l) k = true
  | 0, _ => rfl
  | k + 1, hk => by
    have hk' : k < l.length := by omega
    show (lkB x.E (v : Int) (ciL l) k && decide ((ge x.E (gi (ciL l) k).toNat).f = ndI x.E v (ciL l) k)) = true
    rw [lkB_is hE h k (by omega), ndI_is hE h.edges k (by omega), ciL_gi hk', Int.toNat_natCast, (hE.f _ (h.edges _ (List.getElem_mem hk'))).2, h.link k hk']
    simp
theorem Fol.isB {N : Nat} {x : Srch} {d : List Nat} {t v : Nat} {l : List Nat} (hE : InN N x.E) (h : Fol x d t v l) (hr : rightF N x.E = 0) (hv : v < N) : isB N x.E (v : Int) (ciL l) = true := by
  unfold Go.Proofs.YtgplpgldhoelcaaGreat.isB edgesB
  rw [ciL_len, lkB_is hE h _ (Nat.le_refl _), decide_eq_true hr, show nodeB (N : Int) (v : Int) = true from decide_eq_true ⟨by omega, by omega⟩]
  have : (ciL l).any (fun e => !edgeB x.E.length e) = false := by
    rw [List.any_eq_false]
    intro e he
    obtain ⟨i, hi, rfl⟩ := List.mem_map.1 he
    have := h.edges i hi
    unfold edgeB
    simp
    omega
  rw [this]
  rfl
theorem Fol.nodesL {N : Nat} {x : Srch} {d : List Nat} {t v : Nat} {l : List Nat} (hE : InN N x.E) (h : Fol x d t v l) (hr : rightF N x.E = 0) (hv : v < N) : nodesL N x.E (v : Int) (ciL l) = ciL (ndsN x.E v l) := by
  unfold Go.Proofs.YtgplpgldhoelcaaGreat.nodesL
  rw [if_pos (h.isB hE hr hv), ciL_len]
  refine List.ext_getElem (by simp [ndL_len, ciL, ndsN]) fun k h1 h2 => ?_
  have hk : k ≤ l.length := by rw [ndL_len] at h1; omega
  have e := ndI_is hE (v := v) h.edges k hk
  simp only [ndL, List.getElem_map, List.getElem_range, ciL]
  exact e
theorem oneB_is {L : List Nat} (h : L.Nodup) : oneB (ciL L) (ciL L).length = true := by
  refine decide_eq_true fun j hj hm => ?_
  rw [ciL_len] at hj
  rw [ciL_gi hj] at hm
  have e : (ciL L).take j = ciL (L.take j) := by simp [ciL, List.map_take]
  rw [e] at hm
  obtain ⟨i, hi, he⟩ := List.mem_map.1 hm
  have he : i = L[j] := by omega
  subst he
  obtain ⟨k, hk, hke⟩ := List.getElem_of_mem hi
  simp at hk
  rw [List.getElem_take] at hke
  exact List.pairwise_iff_getElem.1 h k j (by omega) hj (by omega) hke
theorem Fol.simple {N : Nat} {x : Srch} {d : List Nat} {t v : Nat} {l : List Nat} (hn : Near x d t) (hE : InN N x.E) (h : Fol x d t v l) (hr : rightF N x.E = 0) (hv : v < N) (hv2 : v < x.N) : simB N x.E (v : Int) (ciL l) = true := by
  unfold simB
  rw [h.isB hE hr hv, h.nodesL hE hr hv, Bool.true_and]
  exact oneB_is (h.nodup hn hv2)
end Go.Proofs.YtgplpgldhoelcaaGreat

namespace Go.Proofs.YtgplpgldhoelcaaGreat
open Go Go.RowKit
def freeO (W : List Nat) : DOpt := ⟨false, [], [], W, 0⟩
theorem one_turned {NN sN tN u : Nat} {E : List Edg} {W : List Nat} {ys : List (Nat × Nat)} (hx : PathOk NN sN tN E (freeO W) ys) (hu : u < NN) :
    ∃ xs, WalkOk NN u E (freeO W) ∧ dcF NN u E W = 0 ∧ (if (u : Int) ∈ (freeO W).nn then xs = [] else Trace (srchOf NN E (freeO W)) (reachS (freeO W).most (st0 NN) u 0) xs) ∧ (xs.map Prod.fst).Nodup ∧
      (∀ f, (tN, f) ∈ xs → f = gn (outL NN ys) u ∧ f < farV) ∧ (tN ∉ xs.map Prod.fst → gn (outL NN ys) u = farV) := by
  have hb := hx.bound.1
  have ht := hx.ok.node
  have hdu : dcF NN u E W = 0 := dc_node hx.dcs ⟨by omega, by omega⟩
  have hok : WalkOk NN u E (freeO W) := ⟨hx.ok.right, hu, hx.ok.wts, by show (0 : Nat) < _; omega, by show 0 ≤ _; omega, by show 0 ≤ _; omega⟩
  obtain ⟨xs, h1, h2, h3⟩ := walk_is hok hx.wb (Nat.le_refl _) (by simp [freeO])
  have hf := hx.far (by simp [freeO])
  have hc : ∀ i, cntE (srchOf NN E (freeO W)) i = true := fun i => by simp [cntE, srchOf, freeO]
  have hc2 : ∀ i, cntE (turnX (srchOf NN E (freeO W))) i = true := fun i => by simp [cntE, srchOf, freeO, turnX]
  have e := h2.turned (t := tN) (ys := ys) hf hb rfl (fun i _ => hc2 i) (fun i _ => hc i) hu ht
  have e : gn (outL NN ys) u = gn (outL NN xs) tN := e
  refine ⟨xs, hok, hdu, h1, h2.nodup, fun f hfx => ?_, fun hn => ?_⟩
  · have e2 := outL_at (N := NN) h2.nodup ht hfx
    have h5 : f ≤ NN * 17592186044416 := (h2.way _ _ hfx).2.2.2
    exact ⟨by rw [e, e2], by omega⟩
  · rw [e]
    exact outL_no ht hn
end Go.Proofs.YtgplpgldhoelcaaGreat

namespace Go.Proofs.YtgplpgldhoelcaaGreat
open Go Go.RowKit
def allO (back : Bool) : DOpt := ⟨back, [], [], [], 0⟩
structure SeaOk (NN s : Nat) (E : List Edg) (back : Bool) (xs : List (Nat × Nat)) : Prop where
  ok : WalkOk NN s E (allO back)
  dc : dcF NN s E [] = 0
  tr : if (s : Int) ∈ (allO back).nn then xs = [] else Trace (srchOf NN E (allO back)) (reachS 0 (st0 NN) s 0) xs
  lt : ∀ p, p ∈ xs → p.1 < NN
  ref : refL (srchOf NN E (allO back)) s = outL NN xs
  far : Far (srchOf NN E (allO back)) s 17592186044416 xs
  wb : ∀ i, i < E.length → gn (wtF NN E []) i ≤ 17592186044416
theorem sea_any {NN s : Nat} {E : List Edg} (hr : rightF NN E = 0) (hs : s < NN) (back : Bool) : ∃ xs, SeaOk NN s E back xs := by
  obtain ⟨r1, r2, r3, r4, r5⟩ := right_in hr
  rw [Int.toNat_natCast] at r4
  have hd : dcF NN s E [] = 0 := by
    unfold dcF
    rw [if_neg (by omega), if_neg (by unfold nodeB; simp; omega), if_neg (by simp)]
    rfl
  obtain ⟨_, _, _, _, hwb⟩ := dc_ok hd
  have hok : WalkOk NN s E (allO back) := ⟨hr, hs, .inl rfl, by show (0 : Nat) < _; omega, by show 0 ≤ _; omega, by show 0 ≤ _; omega⟩
  have hb : NN * 17592186044416 < farV := by
    have : NN * 17592186044416 ≤ 4096 * 17592186044416 := Nat.mul_le_mul_right _ (by omega)
    unfold farV; omega
  obtain ⟨xs, h1, h2, h3⟩ := walk_is hok hwb (Nat.le_refl _) (by simp [allO])
  have hsr := hok.srch
  have hin : SrchIn (srchOf NN E (allO back)) 17592186044416 := ⟨fun i hi => by
    have h1 := hsr.ends.f i hi
    have h2 := hsr.ends.t i hi
    unfold toE
    split
    · exact h1.1
    · exact h2.1, fun i hi => (hwb i hi).1, fun i hi => (hwb i hi).2⟩
  obtain ⟨ys, h4, h5⟩ := trace_whole (x := freeX (srchOf NN E (allO back))) (s := s) (mw := 17592186044416) ⟨hin.ends, hin.low, hin.high⟩ hsr.nodes hok.node (by omega)
  refine ⟨xs, hok, hd, h1, h3, refL_is h2 h5 hin hb hok.node (by simp [srchOf, allO]) (fun i hi => ?_), h2, fun i hi => (hwb i hi).2⟩
  have h1 := hsr.ends.f i hi
  have h2 := hsr.ends.t i hi
  unfold nN
  split
  · exact h2.1
  · exact h1.1
structure Mks (NN : Nat) (E : List Edg) (F T : Nat → List Nat) : Prop where
  f : ∀ u, u < NN → ∃ xs, SeaOk NN u E false xs ∧ F u = outL NN xs
  t : ∀ u, u < NN → ∃ xs, SeaOk NN u E true xs ∧ T u = outL NN xs
  turn : ∀ u v, u < NN → v < NN → gn (T v) u = gn (F u) v
  le : ∀ u v, u < NN → v < NN → gn (F u) v ≤ farV
  flen : ∀ u, u < NN → (F u).length = NN
  tlen : ∀ u, u < NN → (T u).length = NN
theorem mks_any {NN : Nat} {E : List Edg} (hr : rightF NN E = 0) : ∃ F T, Mks NN E F T := by
  have hb : NN * 17592186044416 < farV := by
    obtain ⟨_, r2, _⟩ := right_in hr
    have : NN * 17592186044416 ≤ 4096 * 17592186044416 := Nat.mul_le_mul_right _ (by omega)
    unfold farV; omega
  have hF : ∀ u, ∃ xs, u < NN → SeaOk NN u E false xs := fun u => by
    by_cases h : u < NN
    · obtain ⟨xs, hx⟩ := sea_any hr h false
      exact ⟨xs, fun _ => hx⟩
    · exact ⟨[], fun h2 => absurd h2 h⟩
  have hT : ∀ u, ∃ xs, u < NN → SeaOk NN u E true xs := fun u => by
    by_cases h : u < NN
    · obtain ⟨xs, hx⟩ := sea_any hr h true
      exact ⟨xs, fun _ => hx⟩
    · exact ⟨[], fun h2 => absurd h2 h⟩
  refine ⟨fun u => outL NN (Classical.choose (hF u)), fun u => outL NN (Classical.choose (hT u)), ⟨fun u hu => ⟨_, Classical.choose_spec (hF u) hu, rfl⟩, fun u hu => ⟨_, Classical.choose_spec (hT u) hu, rfl⟩, fun u v hu hv => ?_, fun u v hu hv => ?_, fun u _ => outL_len _ _, fun u _ => outL_len _ _⟩⟩
  · have h1 := (Classical.choose_spec (hF u) hu).far
    have h2 := (Classical.choose_spec (hT v) hv).far
    have hc : ∀ i, cntE (srchOf NN E (allO false)) i = true := fun i => by simp [cntE, srchOf, allO]
    have hc2 : ∀ i, cntE (turnX (srchOf NN E (allO false))) i = true := fun i => by simp [cntE, srchOf, allO, turnX]
    exact h1.turned (t := v) (ys := Classical.choose (hT v)) h2 hb rfl (fun i _ => hc2 i) (fun i _ => hc i) hu hv
  · rcases outL_cases (x := srchOf NN E (allO false)) (Classical.choose_spec (hF u) hu).far hb hv with ⟨_, h⟩ | ⟨h, _⟩
    · exact Nat.le_of_lt h
    · exact Nat.le_of_eq h
end Go.Proofs.YtgplpgldhoelcaaGreat

namespace Go.Proofs.YtgplpgldhoelcaaGreat
open Go Go.RowKit
theorem Way.join {x : Srch} {s v t f g : Nat} (h : Way x s v f) (k : Way x v t g) : Way x s t (f + g) := by
  induction k with
  | here => exact h
  | @step g i k hi hc ih =>
    have := Way.step ih hi hc
    rwa [Nat.add_assoc] at this
section
variable {NN : Nat} {E : List Edg} {F T : Nat → List Nat}
theorem net_bound (hr : rightF NN E = 0) : NN * 17592186044416 ≤ 72057594037927936 := by
  obtain ⟨_, r2, _⟩ := right_in hr
  have : NN * 17592186044416 ≤ 4096 * 17592186044416 := Nat.mul_le_mul_right _ (by omega)
  omega
theorem Mks.fin (h : Mks NN E F T) (hr : rightF NN E = 0) {u v : Nat} (hu : u < NN) (hv : v < NN) (hf : gn (F u) v < farV) : gn (F u) v ≤ 72057594037927936 := by
  obtain ⟨xs, hx, e⟩ := h.f u hu
  have hb := net_bound hr
  rw [e] at hf ⊢
  rcases outL_cases (x := srchOf NN E (allO false)) hx.far (by show NN * _ < _; unfold farV; omega) hv with ⟨h1, _⟩ | ⟨h1, _⟩
  · have h2 : gn (outL NN xs) v ≤ NN * 17592186044416 := (hx.far.way _ _ h1).2.2.2
    omega
  · have h2 : gn (outL NN xs) v = farV := h1
    omega
theorem Mks.tri (h : Mks NN E F T) (hr : rightF NN E = 0) {u v t : Nat} (hu : u < NN) (hv : v < NN) (ht : t < NN) (h1 : gn (F u) v < farV) (h2 : gn (F v) t < farV) : gn (F u) t ≤ gn (F u) v + gn (F v) t ∧ gn (F u) t < farV := by
  obtain ⟨xs, hx, e⟩ := h.f u hu
  obtain ⟨ys, hy, e2⟩ := h.f v hv
  have hb := net_bound hr
  have hbf : (srchOf NN E (allO false)).N * 17592186044416 < farV := by show NN * _ < _; unfold farV; omega
  rw [e] at h1 ⊢
  rw [e2] at h2 ⊢
  rcases outL_cases (x := srchOf NN E (allO false)) hx.far hbf hv with ⟨k1, _⟩ | ⟨k1, _⟩
  · rcases outL_cases (x := srchOf NN E (allO false)) hy.far hbf ht with ⟨k2, _⟩ | ⟨k2, _⟩
    · obtain ⟨g, hg, hle⟩ := hx.far.all _ _ ((hx.far.way _ _ k1).2.1.join (hy.far.way _ _ k2).2.1) (fun h0 => absurd h0 (by show ¬ (0 : Nat) < 0; omega))
      have e3 : gn (outL NN xs) t = g := outL_at hx.far.nodup ht hg
      have e4 : g ≤ NN * 17592186044416 := (hx.far.way _ _ hg).2.2.2
      rw [e3]
      exact ⟨hle, by unfold farV; omega⟩
    · have k3 : gn (outL NN ys) t = farV := k2
      omega
  · have k3 : gn (outL NN xs) v = farV := k1
    omega
theorem Mks.self (h : Mks NN E F T) {u : Nat} (hu : u < NN) : gn (F u) u = 0 := by
  obtain ⟨xs, hx, e⟩ := h.f u hu
  rw [e]
  exact hx.far.begin_ hu
theorem Mks.hop (h : Mks NN E F T) (hr : rightF NN E = 0) {i : Nat} (hi : i < E.length) : fN E i < NN ∧ tN E i < NN ∧ gn (F (fN E i)) (tN E i) ≤ gn (wtF NN E []) i ∧ gn (F (fN E i)) (tN E i) < farV := by
  obtain ⟨r1, _, _⟩ := right_in hr
  have hb := net_bound hr
  have hbf : (srchOf NN E (allO false)).N * 17592186044416 < farV := by show NN * _ < _; unfold farV; omega
  have hends : fN E i < NN ∧ tN E i < NN := by
    obtain ⟨xs, hx, _⟩ := h.f 0 (by omega)
    exact ⟨(hx.ok.srch.ends.f i hi).1, (hx.ok.srch.ends.t i hi).1⟩
  obtain ⟨xs, hx, e⟩ := h.f (fN E i) hends.1
  have h1 := hx.far.edge (i := i) hbf rfl hends.1 hends.2 hi (by simp [cntE, srchOf, allO]) (by
    have : gn (outL NN xs) (fN E i) = 0 := hx.far.begin_ hends.1
    show gn (outL NN xs) (fN E i) < farV
    rw [this]; unfold farV; omega)
  have h0 : gn (outL NN xs) (fN E i) = 0 := hx.far.begin_ hends.1
  have h2 : gn (outL NN xs) (tN E i) ≤ gn (outL NN xs) (fN E i) + gn (wtF NN E []) i := h1
  have h3 : gn (wtF NN E []) i ≤ 17592186044416 := hx.wb i hi
  rw [e]
  refine ⟨hends.1, hends.2, by omega, by unfold farV; omega⟩
variable {l : List Nat}
end
end Go.Proofs.YtgplpgldhoelcaaGreat

