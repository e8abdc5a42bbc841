/- The law MarksSound: for every input it returns true, and each argument reads as before. No condition. -/
import Derived.Test.YtiljgkaffgclgaaQMarksBounds17
import Derived.Test.YtiljgkaffgclgaaQMarksBounds20
import Derived.Test.YtiljgkaffgclgaaQMarksBounds19
import Derived.Test.YtiljgkaffgclgaaQMarksBounds15
/- Contracts: may nodes be asked for; is a row of bounds consistent. -/
namespace Go.Proofs.Ytiljgkaffgclgaa
open Go Go.RowKit
set_option maxRecDepth 20000 in
set_option maxHeartbeats 1000000 in
theorem indexE2 (A : Option Addr) (n c : Nat) (E : List Edg) (k : FuncId) (cap : Array Value) (p : Edg → Bool) (w : World) (h : Rd w A 3 n (esCells E)) (hn : n ≤ 1000000) (hk : ∀ args W, (callFunc k args).run Try.prog W = .ok (.enter k args) W)
    (hf : ∀ W, Grows w W → ∀ j, j < n → Calls Try.prog k (#[eVal (ge E j)] ++ cap) W fun x w' => x = .returned (.bool (p (ge E j))) ∧ Grows W w') :
    Calls Try.prog 128 #[.slice A n c, .func (.func k) #[] cap] w fun e w' => e = .returned (.int .i64 (firstI p E)) ∧ Grows w w' := by
  have HL := hide h.elen
  have HR := hide h
  have HF := hide hf
  clear h hf
  unfold eVal at HF
  go_enter Try.func128, Try.ntmps128
  go_wp2
  go_loopw [8] (fun i wr => ∃ k : Nat, k ≤ n ∧ i = .int .i64 (k : Int) ∧ (∃ x : Later w, wr = x.now) ∧ ∀ j, j < k → p (ge E j) = false) (fun i _ => n - (intOf i).toNat)
  case atStart => exact ⟨0, by omega, by go_num, ⟨⟨w, Grows.refl w⟩, rfl⟩, fun j h1 => by omega⟩
  case round =>
    obtain ⟨q, hq, rfl, ⟨x, rfl⟩, hall⟩ := hrel
    have HA := hide hall
    clear hall
    by_cases hend : n ≤ q
    · go_wp2
      go_ret
      refine ⟨ret_int ?_, (by repeat (first | exact Grows.refl _ | refine Grows.now ?_ _ | refine Grows.new ?_ _ | refine Grows.drewN ?_ _ | refine Grows.drew ?_ | assumption | (refine Grows.set ?_ (by first | omega | (simp; done) | (simp; omega)) _)))⟩
      have hl := HL.out
      have hh := HA.out
      rw [firstI_none]
      intro e he
      obtain ⟨j, hj, rfl⟩ := List.mem_iff_getElem.1 he
      have := hh j (by omega)
      simpa [ge, hj] using this
    · obtain ⟨b, off, rfl, hc⟩ := HR.out.edges (by omega)
      obtain ⟨hc1, hc2, hc3⟩ := hc q (by omega)
      clear hc
      go_wp2_with fail
      refine (HF.out _ (by repeat (first | exact Grows.refl _ | refine Grows.now ?_ _ | refine Grows.new ?_ _ | refine Grows.drewN ?_ _ | refine Grows.drew ?_ | assumption | (refine Grows.set ?_ (by first | omega | (simp; done) | (simp; omega)) _))) q (by omega)).mono ?_; rintro e w' ⟨rfl, hg⟩; obtain ⟨x1, rfl⟩ := Grows.later2 hg; clear hg
      cases hp : p (ge E q) with
      | true =>
        have HW : Hid (firstI p E = q) := firstI_at p ⟨0, 0, 0⟩ E q (by have := HL.out; omega) HA.out hp
        clear hp
        go_wp2
        go_ret
        exact ⟨ret_int HW.out.symm, (by repeat (first | exact Grows.refl _ | refine Grows.now ?_ _ | refine Grows.new ?_ _ | refine Grows.drewN ?_ _ | refine Grows.drew ?_ | assumption | (refine Grows.set ?_ (by first | omega | (simp; done) | (simp; omega)) _)))⟩
      | false =>
        have HP := hide hp
        clear hp
        go_wp2
        go_roundw
        case measure => simp [intOf]; omega
        case rel =>
          refine ⟨q + 1, by omega, by go_num, ⟨_, rfl⟩, fun j h1 => ?_⟩
          by_cases hj : j = q
          · rw [hj]; exact HP.out
          · exact HA.out j (by omega)

set_option maxHeartbeats 1000000 in
theorem containsE2 (A : Option Addr) (n c : Nat) (E : List Edg) (k : FuncId) (cap : Array Value) (p : Edg → Bool) (w : World) (h : Rd w A 3 n (esCells E)) (hn : n ≤ 1000000) (hk : ∀ args W, (callFunc k args).run Try.prog W = .ok (.enter k args) W)
    (hf : ∀ W, Grows w W → ∀ j, j < n → Calls Try.prog k (#[eVal (ge E j)] ++ cap) W fun x w' => x = .returned (.bool (p (ge E j))) ∧ Grows W w') :
    Calls Try.prog 81 #[.slice A n c, .func (.func k) #[] cap] w fun e w' => e = .returned (.bool (E.any p)) ∧ Grows w w' := by
  have HC := hide (indexE2 A n c E k cap p w h hn hk hf)
  have HV := hide (firstI_any p E)
  clear h hf hk
  go_enter Try.func81, Try.ntmps81
  go_wp2_with (first | (go_at_call 128; refine (HC.out).mono ?_; rintro e w' ⟨rfl, hg⟩; (first | obtain ⟨x, rfl⟩ := Grows.later2 hg | obtain ⟨x, rfl⟩ := Grows.later hg); clear hg))
  all_goals go_ret
  all_goals exact ⟨ret_bool (by rw [← HV.out]), (by repeat (first | exact Grows.refl _ | refine Grows.now ?_ _ | refine Grows.new ?_ _ | refine Grows.drewN ?_ _ | refine Grows.drew ?_ | assumption | (refine Grows.set ?_ (by first | omega | (simp; done) | (simp; omega)) _)))⟩

set_option maxRecDepth 20000 in
set_option maxHeartbeats 2000000 in
theorem asRight1 (N e : Int) (b : Nat) (A : Option Addr) (n c : Nat) (w : World) (h2 : Holds w ⟨b, 0, none⟩ (.int .i64 N)) (h3 : Holds w ⟨b, 1, none⟩ (.slice A n c)) :
    Calls Try.prog 129 #[.int .i64 e, .pointer (some ⟨b, 0, none⟩)] w fun x w' => x = .returned (.bool (!nodeB N e)) ∧ Grows w w' := by
  have C := hide (fun (W : World) => gNode N e (.slice A n c) W)
  generalize nodeB N e = r at *
  go_enter Try.func129, Try.ntmps129
  go_wp2_with (go_at_call 65; refine (C.out _).mono ?_; rintro e w' ⟨rfl, hg⟩; obtain ⟨x1, rfl⟩ := hg.later; clear hg)
  all_goals go_ret
  all_goals exact ⟨rfl, (by repeat (first | exact Grows.refl _ | refine Grows.now ?_ _ | refine Grows.new ?_ _ | refine Grows.drewN ?_ _ | refine Grows.drew ?_ | assumption | (refine Grows.set ?_ (by first | omega | (simp; done) | (simp; omega)) _)))⟩
/-- Why nodes may not be asked for; 0: they may. -/
def askF (N : Int) (E : List Edg) (l : List Int) : Int := if rightF N E ≠ 0 then 1 else if (l.any fun e => !nodeB N e) = true then 7 else 0
set_option maxRecDepth 20000 in
set_option maxHeartbeats 4000000 in
theorem asRight (N : Int) (A : Option Addr) (c : Nat) (E : List Edg) (B : Option Addr) (n cl : Nat) (l : List Int) (w : World) (h : Rd w A 3 E.length (esCells E)) (hE : E.length ≤ 1000000) (h2 : Rd w B 1 n (l.map (.int .i64))) (hl : n ≤ 1000000) :
    Calls Try.prog 82 #[.agg #[.int .i64 N, .slice A E.length c], .slice B n cl] w fun e w' => e = .returned (.int .i64 (askF N E l)) ∧ Grows w w' := by
  have C1 := hide (fun (W : World) (g : Grows w W) => gRight N A E.length c E W (h.grows g) hE)
  have C2 := hide (fun (W : World) (g : Grows w W) (b : Nat) (h1 : Holds W ⟨b, 0, none⟩ (.int .i64 N)) (h3 : Holds W ⟨b, 1, none⟩ (.slice A E.length c)) => show Calls Try.prog 63 #[.slice B n cl, .func (.func 129) #[] #[.pointer (some ⟨b, 0, none⟩)]] W fun e w' => e = .returned (.bool (l.any fun e => !nodeB N e)) ∧ Grows W w' from
    containsI B n cl l 129 #[.pointer (some ⟨b, 0, none⟩)] (fun e => !nodeB N e) W (h2.grows g) hl (fun args W => by kernel_rfl) (fun W2 g2 e => asRight1 N e b A E.length c W2 ⟨g2.keeps h1.cell⟩ ⟨g2.keeps h3.cell⟩))
  clear h h2
  by_cases h1 : rightF N E = 0
  · rw [h1] at C1
    have HV := hide (show askF N E l = if (l.any fun e => !nodeB N e) = true then 7 else 0 by unfold askF; rw [if_neg (by omega)])
    clear h1
    generalize (l.any fun e => !nodeB N e) = r at *
    go_enter Try.func82, Try.ntmps82
    go_wp2_with (first | (go_at_call 62; refine (C1.out _ (by repeat (first | exact Grows.refl _ | refine Grows.now ?_ _ | refine Grows.new ?_ _ | refine Grows.drewN ?_ _ | refine Grows.drew ?_ | assumption | (refine Grows.set ?_ (by first | omega | (simp; done) | (simp; omega)) _)))).mono ?_; rintro e w' ⟨rfl, hg⟩; obtain ⟨x1, rfl⟩ := hg.later; clear hg) | (go_at_call 63; refine (C2.out _ (by repeat (first | exact Grows.refl _ | refine Grows.now ?_ _ | refine Grows.new ?_ _ | refine Grows.drewN ?_ _ | refine Grows.drew ?_ | assumption | (refine Grows.set ?_ (by first | omega | (simp; done) | (simp; omega)) _))) _ inferInstance inferInstance).mono ?_; rintro e w' ⟨rfl, hg⟩; obtain ⟨x2, rfl⟩ := hg.later; clear hg))
    all_goals go_ret
    all_goals exact ⟨by rw [HV.out]; first | rfl | simp [*], (by repeat (first | exact Grows.refl _ | refine Grows.now ?_ _ | refine Grows.new ?_ _ | refine Grows.drewN ?_ _ | refine Grows.drew ?_ | assumption | (refine Grows.set ?_ (by first | omega | (simp; done) | (simp; omega)) _)))⟩
  · have HV := hide (show askF N E l = 1 by unfold askF; rw [if_pos h1])
    have hr2 : (rightF N E == 0) = false := beq_eq_false_iff_ne.2 h1
    clear h1
    generalize rightF N E = r at *
    go_enter Try.func82, Try.ntmps82
    go_wp2_with (first | (go_at_call 62; refine (C1.out _ (by repeat (first | exact Grows.refl _ | refine Grows.now ?_ _ | refine Grows.new ?_ _ | refine Grows.drewN ?_ _ | refine Grows.drew ?_ | assumption | (refine Grows.set ?_ (by first | omega | (simp; done) | (simp; omega)) _)))).mono ?_; rintro e w' ⟨rfl, hg⟩; obtain ⟨x1, rfl⟩ := hg.later; clear hg))
    all_goals go_ret
    all_goals exact ⟨by rw [HV.out]; rfl, (by repeat (first | exact Grows.refl _ | refine Grows.now ?_ _ | refine Grows.new ?_ _ | refine Grows.drewN ?_ _ | refine Grows.drew ?_ | assumption | (refine Grows.set ?_ (by first | omega | (simp; done) | (simp; omega)) _)))⟩
/-- Is an edge steeper than it weighs? -/
def steepB (H : List Nat) (e : Edg) : Bool := decide (gn H e.t.toNat < gn H e.f.toNat) && decide (e.w < (gn H e.f.toNat : Int) - gn H e.t.toNat)
set_option maxRecDepth 20000 in
set_option maxHeartbeats 4000000 in
theorem asCons1 (H : List Nat) (e : Edg) (bx : Nat) (B : Option Addr) (n c : Nat) (w : World) (hb : Holds w ⟨bx, 0, none⟩ (.slice B n c)) (h : Rd w B 1 n (wv H)) (hn : n ≤ 1000000) (hf : 0 ≤ e.f ∧ e.f < n) (ht : 0 ≤ e.t ∧ e.t < n) (hH : ∀ j, j < n → gn H j < 18446744073709551616) :
    Calls Try.prog 80 #[eVal e, .pointer (some ⟨bx, 0, none⟩)] w fun x w' => x = .returned (.bool (steepB H e)) ∧ Grows w w' := by
  obtain ⟨f, hfe⟩ : ∃ f : Nat, e.f = f := ⟨e.f.toNat, by omega⟩
  obtain ⟨t, hte⟩ : ∃ t : Nat, e.t = t := ⟨e.t.toNat, by omega⟩
  have hlen : H.length = n := h.wlen
  obtain ⟨b, off, rfl, hc⟩ := h.at_ (by omega)
  have c1 : Holds w ⟨b, off + f, none⟩ (.int .u64 (gn H f : Int)) := ⟨hc f _ (wv_at (by omega))⟩
  have c2 : Holds w ⟨b, off + t, none⟩ (.int .u64 (gn H t : Int)) := ⟨hc t _ (wv_at (by omega))⟩
  have hfn : f < n := by omega
  have htn : t < n := by omega
  have b1 := hH f hfn
  have b2 := hH t htn
  have HS := hide (show steepB H e = (decide (gn H t < gn H f) && decide (e.w < (gn H f : Int) - gn H t)) by unfold steepB; rw [hfe, hte]; simp)
  unfold eVal
  rw [hfe, hte]
  generalize e.w = ew at *
  generalize gn H f = p at *
  generalize gn H t = q at *
  clear h hc hf ht hH hfe hte hlen
  obtain ⟨r, hr⟩ : ∃ r, steepB H e = r := ⟨_, rfl⟩
  rw [hr] at HS ⊢
  clear hr
  obtain ⟨pi, hpi⟩ : ∃ z : Int, (p : Int) = z := ⟨_, rfl⟩
  obtain ⟨qi, hqi⟩ : ∃ z : Int, (q : Int) = z := ⟨_, rfl⟩
  rw [hpi] at c1
  rw [hqi] at c2
  have hp0 : 0 ≤ pi := by omega
  have hq0 : 0 ≤ qi := by omega
  have hp1 : pi < 18446744073709551616 := by omega
  have hq1 : qi < 18446744073709551616 := by omega
  have HP := hide hpi
  have HQ := hide hqi
  clear b1 b2 hpi hqi
  by_cases hlt : qi < pi
  · have d1 : decide (qi < pi) = true := decide_eq_true hlt
    go_enter Try.func80, Try.ntmps80
    go_upto_region 1 with fail
    ((first | refine wp_region_gen (by kernel_rfl) (by kernel_rfl) ?_); (repeat' (first | (refine gLex_val0 rfl (by kernel_rfl) (fun K hK => ?_); (go_simp; (try (simp only [↓IntWalk.iteOmega]; try go_simp)); (try simp (disch := omega) only [IntWalk.i64_in]); (try simp (disch := omega) only [IntWalk.u64_in]); first | (refine hK _ ?_; clear hK K) | (apply Exists.intro; refine ⟨fun x => ?_, hK _ ?_⟩; (first | fail); clear hK K))) | (refine gLex_undef rfl rfl rfl (by kernel_rfl) (fun K hK => ?_); go_simp; refine hK _ ?_; clear hK K) | (refine gLex_ask rfl rfl rfl ?_; first | (apply gAsk_yes; kernel_rfl; intro K hK; (go_simp; (try (simp only [↓IntWalk.iteOmega]; try go_simp)); (try simp (disch := omega) only [IntWalk.i64_in]); (try simp (disch := omega) only [IntWalk.u64_in]); first | (refine hK _ ?_; clear hK K) | (apply Exists.intro; refine ⟨fun x => ?_, hK _ ?_⟩; (first | fail); clear hK K))) | ((first | apply gAsk_no1 | apply gAsk_no2); kernel_rfl; intro K hK; simp [go_sem]; refine hK _ ?_; clear hK K) | (apply gAsk_part; kernel_rfl; all_goals (intro h K hK; (try simp only [Bool.not_true] at h); (try simp only [Bool.not_false] at h); (try simp only [decide_eq_true_eq] at h); (try simp only [decide_eq_false_iff_not] at h); first | (exfalso; first | contradiction | omega) | (go_simp; (try (simp only [↓IntWalk.iteOmega]; try go_simp)); (try simp (disch := omega) only [IntWalk.i64_in]); (try simp (disch := omega) only [IntWalk.u64_in]); first | (refine hK _ ?_; clear hK K) | (apply Exists.intro; refine ⟨fun x => ?_, hK _ ?_⟩; (first | fail); clear hK K))))))); all_goals ((apply gLex_end); intro x))
    go_wp2_with fail
    go_ret
    refine ⟨?_, (by repeat (first | exact Grows.refl _ | refine Grows.now ?_ _ | refine Grows.new ?_ _ | refine Grows.drewN ?_ _ | refine Grows.drew ?_ | assumption | (refine Grows.set ?_ (by first | omega | (simp; done) | (simp; omega)) _)))⟩
    rw [HS.out]
    have h1 := HP.out
    have h2 := HQ.out
    rw [decide_eq_true (show q < p by omega)]
    refine ret_bool ?_
    apply bool_ext
    simp
    omega
  · have d1 : decide (qi < pi) = false := decide_eq_false (by omega)
    go_enter Try.func80, Try.ntmps80
    go_upto_region 1 with fail
    ((first | refine wp_region_gen (by kernel_rfl) (by kernel_rfl) ?_); (repeat' (first | (refine gLex_val0 rfl (by kernel_rfl) (fun K hK => ?_); (go_simp; (try (simp only [↓IntWalk.iteOmega]; try go_simp)); (try simp (disch := omega) only [IntWalk.i64_in]); (try simp (disch := omega) only [IntWalk.u64_in]); first | (refine hK _ ?_; clear hK K) | (apply Exists.intro; refine ⟨fun x => ?_, hK _ ?_⟩; (first | fail); clear hK K))) | (refine gLex_undef rfl rfl rfl (by kernel_rfl) (fun K hK => ?_); go_simp; refine hK _ ?_; clear hK K) | (refine gLex_ask rfl rfl rfl ?_; first | (apply gAsk_yes; kernel_rfl; intro K hK; (go_simp; (try (simp only [↓IntWalk.iteOmega]; try go_simp)); (try simp (disch := omega) only [IntWalk.i64_in]); (try simp (disch := omega) only [IntWalk.u64_in]); first | (refine hK _ ?_; clear hK K) | (apply Exists.intro; refine ⟨fun x => ?_, hK _ ?_⟩; (first | fail); clear hK K))) | ((first | apply gAsk_no1 | apply gAsk_no2); kernel_rfl; intro K hK; simp [go_sem]; refine hK _ ?_; clear hK K) | (apply gAsk_part; kernel_rfl; all_goals (intro h K hK; (try simp only [Bool.not_true] at h); (try simp only [Bool.not_false] at h); (try simp only [decide_eq_true_eq] at h); (try simp only [decide_eq_false_iff_not] at h); first | (exfalso; first | contradiction | omega) | (go_simp; (try (simp only [↓IntWalk.iteOmega]; try go_simp)); (try simp (disch := omega) only [IntWalk.i64_in]); (try simp (disch := omega) only [IntWalk.u64_in]); first | (refine hK _ ?_; clear hK K) | (apply Exists.intro; refine ⟨fun x => ?_, hK _ ?_⟩; (first | fail); clear hK K))))))); all_goals ((apply gLex_end); intro x))
    go_wp2_with fail
    go_ret
    refine ⟨?_, (by repeat (first | exact Grows.refl _ | refine Grows.now ?_ _ | refine Grows.new ?_ _ | refine Grows.drewN ?_ _ | refine Grows.drew ?_ | assumption | (refine Grows.set ?_ (by first | omega | (simp; done) | (simp; omega)) _)))⟩
    rw [HS.out]
    have h1 := HP.out
    have h2 := HQ.out
    rw [decide_eq_false (show ¬ q < p by omega)]
    rfl
end Go.Proofs.Ytiljgkaffgclgaa

/- Contracts: is a row of bounds consistent; is it admissible. -/
namespace Go.Proofs.Ytiljgkaffgclgaa
open Go Go.RowKit
attribute [local go_sem] Oper.semAt_some
def consB (N : Int) (E : List Edg) (n : Nat) (H : List Nat) : Bool := decide (rightF N E = 0) && (decide ((n : Int) = N) && !(E.any (steepB H)))
set_option maxRecDepth 20000 in
set_option maxHeartbeats 4000000 in
theorem asCons (N : Int) (A : Option Addr) (c : Nat) (E : List Edg) (B : Option Addr) (n cb : Nat) (H : List Nat) (w : World) (h : Rd w A 3 E.length (esCells E)) (hE : E.length ≤ 1000000) (h2 : Rd w B 1 n (wv H)) (hn : n ≤ 1000000) (hH : ∀ j, j < n → gn H j < 18446744073709551616) :
    Calls Try.prog 27 #[.agg #[.int .i64 N, .slice A E.length c], .slice B n cb] w fun e w' => e = .returned (.bool (consB N E n H)) ∧ Grows w w' := by
  have C1 := hide (fun (W : World) (g : Grows w W) => gRight N A E.length c E W (h.grows g) hE)
  by_cases h1 : rightF N E = 0
  · by_cases h3 : (n : Int) = N
    · subst h3
      have hin := (right_in h1).2.2.2.1
      have C2 := hide (fun (W : World) (g : Grows w W) (bx : Nat) (q : Holds W ⟨bx, 0, none⟩ (.slice B n cb)) => show Calls Try.prog 81 #[.slice A E.length c, .func (.func 80) #[] #[.pointer (some ⟨bx, 0, none⟩)]] W fun e w' => e = .returned (.bool (E.any (steepB H))) ∧ Grows W w' from
        containsE2 A E.length c E 80 #[.pointer (some ⟨bx, 0, none⟩)] (steepB H) W (h.grows g) hE (fun args W => by kernel_rfl) (fun W2 g2 j hj => asCons1 H (ge E j) bx B n cb W2 ⟨g2.keeps q.cell⟩ (h2.grows (g.trans g2)) hn (by have := (hin j hj).1; omega) (by have := (hin j hj).2; omega) hH))
      have HV := hide (show consB (n : Int) E n H = !(E.any (steepB H)) by unfold consB; rw [decide_eq_true h1, decide_eq_true rfl]; rfl)
      rw [h1] at C1
      clear h h1 h2 hin hH
      generalize E.any (steepB H) = r at *
      go_enter Try.func27, Try.ntmps27
      go_wp2_with (first | (go_at_call 62; refine (C1.out _ (by repeat (first | exact Grows.refl _ | refine Grows.now ?_ _ | refine Grows.new ?_ _ | refine Grows.drewN ?_ _ | refine Grows.drew ?_ | assumption | (refine Grows.set ?_ (by first | omega | (simp; done) | (simp; omega)) _)))).mono ?_; rintro e w' ⟨rfl, hg⟩; obtain ⟨x1, rfl⟩ := hg.later; clear hg) | (go_at_call 81; refine (C2.out _ (by repeat (first | exact Grows.refl _ | refine Grows.now ?_ _ | refine Grows.new ?_ _ | refine Grows.drewN ?_ _ | refine Grows.drew ?_ | assumption | (refine Grows.set ?_ (by first | omega | (simp; done) | (simp; omega)) _))) _ inferInstance).mono ?_; rintro e w' ⟨rfl, hg⟩; obtain ⟨x2, rfl⟩ := hg.later; clear hg))
      all_goals go_ret
      all_goals exact ⟨by rw [HV.out]; rfl, (by repeat (first | exact Grows.refl _ | refine Grows.now ?_ _ | refine Grows.new ?_ _ | refine Grows.drewN ?_ _ | refine Grows.drew ?_ | assumption | (refine Grows.set ?_ (by first | omega | (simp; done) | (simp; omega)) _)))⟩
    · have HV := hide (show consB N E n H = false by unfold consB; rw [decide_eq_false h3]; simp)
      have d1 : ((n : Int) == N) = false := beq_eq_false_iff_ne.2 h3
      rw [h1] at C1
      clear h h1 h2 h3 hH
      go_enter Try.func27, Try.ntmps27
      go_wp2_with (first | (go_at_call 62; refine (C1.out _ (by repeat (first | exact Grows.refl _ | refine Grows.now ?_ _ | refine Grows.new ?_ _ | refine Grows.drewN ?_ _ | refine Grows.drew ?_ | assumption | (refine Grows.set ?_ (by first | omega | (simp; done) | (simp; omega)) _)))).mono ?_; rintro e w' ⟨rfl, hg⟩; obtain ⟨x1, rfl⟩ := hg.later; clear hg))
      all_goals go_ret
      all_goals exact ⟨by rw [HV.out]; rfl, (by repeat (first | exact Grows.refl _ | refine Grows.now ?_ _ | refine Grows.new ?_ _ | refine Grows.drewN ?_ _ | refine Grows.drew ?_ | assumption | (refine Grows.set ?_ (by first | omega | (simp; done) | (simp; omega)) _)))⟩
  · have HV := hide (show consB N E n H = false by unfold consB; rw [decide_eq_false h1]; rfl)
    have hr2 : (rightF N E == 0) = false := beq_eq_false_iff_ne.2 h1
    clear h h1 h2 hH
    generalize rightF N E = r at *
    go_enter Try.func27, Try.ntmps27
    go_wp2_with (first | (go_at_call 62; refine (C1.out _ (by repeat (first | exact Grows.refl _ | refine Grows.now ?_ _ | refine Grows.new ?_ _ | refine Grows.drewN ?_ _ | refine Grows.drew ?_ | assumption | (refine Grows.set ?_ (by first | omega | (simp; done) | (simp; omega)) _)))).mono ?_; rintro e w' ⟨rfl, hg⟩; obtain ⟨x1, rfl⟩ := hg.later; clear hg))
    all_goals go_ret
    all_goals exact ⟨by rw [HV.out]; rfl, (by repeat (first | exact Grows.refl _ | refine Grows.now ?_ _ | refine Grows.new ?_ _ | refine Grows.drewN ?_ _ | refine Grows.drew ?_ | assumption | (refine Grows.set ?_ (by first | omega | (simp; done) | (simp; omega)) _)))⟩
/-- Between two nodes: none has been too far. -/
def AdmI (w : World) (lo b5 b6 : Nat) (B : Option Addr) (n cb : Nat) (H : List Nat) (z6 : Value) (p : List (Nat × Nat)) (Mi : Nat → Prop) (W : World) : Prop :=
  (∃ y : Later w, W = y.now) ∧ (Arr W b5 40 [.slice B n cb] ∧ Arr W b6 4 [z6]) ∧ (∀ q ∈ p, gn H q.1 ≤ q.2) ∧ (∀ k, Mi k → lo ≤ k ∧ k < W.heap.size) ∧ lo ≤ W.heap.size
theorem AdmI.yields {w : World} {lo b5 b6 n cb : Nat} {B : Option Addr} {H : List Nat} {z6 : Value} (h1 : b5 < lo) (h2 : b6 < lo) (hlo : w.heap.size ≤ lo) : Yields' (AdmI w lo b5 b6 B n cb H z6) := by
  rintro p Mi W Mi' W' ⟨⟨y, rfl⟩, ⟨a1, a2⟩, a4, a5, a6⟩ ht hM'
  have nb : ∀ k, k < lo → ¬ Mi k := fun k hk e => by have := (a5 _ e).1; omega
  refine ⟨⟨⟨W', ht.later y.grows (fun k hk => Nat.le_trans hlo (a5 k hk).1)⟩, rfl⟩, ⟨a1.touch ht (nb _ h1), a2.touch ht (nb _ h2)⟩, a4, fun k hk => ?_, Nat.le_trans a6 ht.size⟩
  obtain ⟨h | h, h'⟩ := hM' k hk
  · exact ⟨(a5 k h).1, h'⟩
  · exact ⟨by omega, h'⟩
/-- One was. -/
def AdmX (w : World) (lo b6 : Nat) (H : List Nat) (xs : List (Nat × Nat)) (c : Code) (p : List (Nat × Nat)) (Mi : Nat → Prop) (W : World) : Prop :=
  c = .ret ∧ (∃ q ∈ xs, q.2 < gn H q.1) ∧ (∃ y : Later w, W = y.now) ∧ Arr W b6 4 [.bool false] ∧ (∀ k, Mi k → lo ≤ k ∧ k < W.heap.size) ∧ lo ≤ W.heap.size
theorem AdmX.yields {w : World} {lo b6 : Nat} {H : List Nat} {xs : List (Nat × Nat)} (h2 : b6 < lo) (hlo : w.heap.size ≤ lo) (c : Code) : Yields' (AdmX w lo b6 H xs c) := by
  rintro p Mi W Mi' W' ⟨e, a0, ⟨y, rfl⟩, a2, a5, a6⟩ ht hM'
  have nb : ∀ k, k < lo → ¬ Mi k := fun k hk e => by have := (a5 _ e).1; omega
  refine ⟨e, a0, ⟨⟨W', ht.later y.grows (fun k hk => Nat.le_trans hlo (a5 k hk).1)⟩, rfl⟩, a2.touch ht (nb _ h2), fun k hk => ?_, Nat.le_trans a6 ht.size⟩
  obtain ⟨h | h, h'⟩ := hM' k hk
  · exact ⟨(a5 k h).1, h'⟩
  · exact ⟨by omega, h'⟩
def FrameAdm (b5 b6 v far : Nat) (a' : Act) : Prop := ∃ u0 u1 u2 u3 u4 u9 u10 u11 u12 u13 u14 u15 u16 u17 u18 u19 u20 u21 u22 u23 u24 u25 u26 u27 u28 u29 u30 u31 u32 : Value, a' = { tmps := #[u0, u1, u2, u3, u4, .pointer (some ⟨b5, 0, none⟩), .pointer (some ⟨b6, 0, none⟩), .int .i64 (v : Int), .int .u64 (far : Int), u9, u10, u11, u12, u13, u14, u15, u16, u17, u18, u19, u20, u21, u22, u23, u24, u25, u26, u27, u28, u29, u30, u31, u32], defers := [] }
def AdmB (w : World) (lo b5 b6 : Nat) (B : Option Addr) (n cb : Nat) (H : List Nat) (z6 : Value) (x : Nat × Nat) (a' : Act) (p : List (Nat × Nat)) (Mi : Nat → Prop) (W : World) : Prop := FrameAdm b5 b6 x.1 x.2 a' ∧ AdmI w lo b5 b6 B n cb H z6 p Mi W
def admB (xs : List (Nat × Nat)) (H : List Nat) : Bool := xs.all fun q => decide (gn H q.1 ≤ q.2)
set_option maxRecDepth 40000 in
set_option maxHeartbeats 8000000 in
theorem asAdm (N t : Nat) (A : Option Addr) (c : Nat) (E : List Edg) (B : Option Addr) (cb : Nat) (H : List Nat) (xs : List (Nat × Nat)) (w : World) (h : Rd w A 3 E.length (esCells E)) (h2 : Rd w B 1 N (wv H)) (hx : SeaOk N t E true xs) (ht : t < N) (hH : ∀ j, j < N → gn H j < 18446744073709551616) :
    Calls Try.prog 28 #[.agg #[.int .i64 (N : Int), .slice A E.length c], .int .i64 (t : Int), .slice B N cb] w fun e w' => e = .returned (.bool (admB xs H)) ∧ Grows w w' := by
  obtain ⟨r1, r2, r3, r4, r5⟩ := right_in hx.ok.right
  have hask : askF (N : Int) E [(t : Int)] = 0 := by
    have h1 : nodeB (N : Int) (t : Int) = true := decide_eq_true (by omega)
    unfold askF
    rw [if_neg (by have := hx.ok.right; omega)]
    simp [h1]
  have C1 := hide (fun (W : World) (g : Grows w W) (Bt : Option Addr) (q : Rd W Bt 1 1 [.int .i64 (t : Int)]) => by
    have := asRight (N : Int) A c E Bt 1 1 [(t : Int)] W (h.grows g) (by omega) q (by omega)
    rw [hask] at this
    exact this)
  have C3 := hide (fun (W : World) => djWalk (.agg #[.int .i64 (N : Int), .slice A E.length c]) (.int .i64 (t : Int)) (.agg #[.bool true, .slice none 0 0, .slice none 0 0, .slice none 0 0, .int .u64 0]) (N : Int) (.slice A E.length c) rfl (t : Int) rfl _ _ _ _ _ rfl W)
  have HM := hide (And.intro h h2)
  have HX := hide hx
  have HHB := hide hH
  have HNN := hide r2
  clear h h2 hx hask r1 r2 r3 r4 r5 hH
  refine calls_of_marks Try.func28 rfl ?_
  simp only [Try.ntmps28, List.size_toArray, List.length_cons, List.length_nil, Nat.reduceAdd, Nat.reduceSub, Array.replicate_succ, Array.replicate_zero, List.push_toArray, List.append_toArray, List.nil_append, List.cons_append]
  go_wp2_with fail
  refine (C1.out _ (by repeat (first | exact Grows.refl _ | refine Grows.now ?_ _ | refine Grows.new ?_ _ | refine Grows.drewN ?_ _ | refine Grows.drew ?_ | assumption | (refine Grows.set ?_ (by first | omega | (simp; done) | (simp; omega)) _))) _ (Arr.rd (t := 3) (cs := [.int .i64 (t : Int)]) ⟨by simp [heap_push, Array.getElem_push]⟩ rfl)).mono ?_; rintro e w' ⟨rfl, hg⟩; obtain ⟨x1, rfl⟩ := hg.later; clear hg
  go_wp2_with fail
  refine (C3.out _).mono ?_; rintro e W0 ⟨b, rfl, hb, z1, z2, z3, hg⟩
  have hx1 := x1.size
  have hs5 : w.heap.size + 1 + 1 < b := by rw [← hb]; simp at hx1; omega
  have q5 : Arr W0 (w.heap.size + 1) 40 [.slice B N cb] := Arr.grow ⟨by simp [heap_push, Array.getElem_push, Array.getElem?_push, eq_add2]⟩ (x1.grows.trans hg)
  have q6 : Arr W0 (w.heap.size + 1 + 1) 4 [.bool false] := Arr.grow ⟨by simp [heap_push, Array.getElem_push, Array.getElem?_push, eq_add2]⟩ (x1.grows.trans hg)
  have hgw : Grows w W0 := Grows.trans (by show Grows w x1.now; exact (by repeat (first | exact Grows.refl _ | refine Grows.now ?_ _ | refine Grows.new ?_ _ | refine Grows.drewN ?_ _ | refine Grows.drew ?_ | assumption | (refine Grows.set ?_ (by first | omega | (simp; done) | (simp; omega)) _)))) hg
  have hW0 := z3.lt
  have hsz0 := hgw.size
  have g5 : w.heap.size ≤ w.heap.size + 1 := by omega
  have g6 : w.heap.size ≤ w.heap.size + 1 + 1 := by omega
  have l5 : w.heap.size + 1 < b := by omega
  have l6 : w.heap.size + 1 + 1 < b := hs5
  have n56 : w.heap.size + 1 ≠ w.heap.size + 1 + 1 := by omega
  clear hb hg C1 C3 hx1 hs5
  generalize w.heap.size + 1 + 1 = b6 at *
  generalize w.heap.size + 1 = b5 at *
  have hwalk : WalkAt (fun k => k < w.heap.size ∨ (b ≤ k ∧ k ≤ b + 1 + 1)) W0 b (b + 1 + 1) (b + 1) N t E (allO true) := by
    obtain ⟨h1, _⟩ := HM.out
    exact ⟨A, c, none, 0, none, 0, none, 0, z1, z3, z2, h1.grows hgw, rdNone _ _, rdNone _ _, rdNone _ _, .inr ⟨by omega, by omega⟩, .inr ⟨by omega, by omega⟩, .inr ⟨by omega, by omega⟩, fun h p hp => .inl (h1.block_lt (by omega) h p hp), fun h p hp => (by cases hp), fun h p hp => (by cases hp), fun h p hp => (by cases hp)⟩
  have hBW : ∀ k, (k < w.heap.size ∨ (b ≤ k ∧ k ≤ b + 1 + 1)) → k < W0.heap.size := fun k hk => by rcases hk with hk | hk <;> omega
  have hGV := djWalk1 (fun k => k < w.heap.size ∨ (b ≤ k ∧ k ≤ b + 1 + 1)) (fun k => k < w.heap.size ∨ (b ≤ k ∧ k ≤ b + 1 + 1)) (fun _ => False) b (b + 1 + 1) (b + 1) N t E (allO true) xs W0 hwalk (fun k hk => .inl hk) (fun k hk => hk.elim) hBW HX.out.ok HX.out.tr
  have h0 : AdmI w W0.heap.size b5 b6 B N cb H (.bool false) [] (fun _ => False) W0 := ⟨⟨⟨W0, hgw⟩, rfl⟩, ⟨q5, q6⟩, by simp, fun k hk => hk.elim, Nat.le_refl _⟩
  have hIy := AdmI.yields (w := w) (lo := W0.heap.size) (b5 := b5) (b6 := b6) (B := B) (n := N) (cb := cb) (H := H) (z6 := .bool false) (by omega) (by omega) hsz0
  have hXy := AdmX.yields (w := w) (lo := W0.heap.size) (b6 := b6) (H := H) (xs := xs) (by omega) hsz0
  have HLT := hide HX.out.lt
  have HGV := hide hGV
  have H0 := hide h0
  clear hGV h0 hwalk q5 q6 z1 z2 z3 HX
  go_wp2_with fail
  refine (wpIn_wide (n := 0)).1 ?_
  have hGV := HGV.out
  have h0 := H0.out
  clear HGV H0
  refine wp_rangeG (w0 := W0) (gf := 130) rfl (enters_of Try.func130 (by kernel_rfl) rfl) hGV (Keeps.refl _ _ _) hBW (fun k hk => hk.elim) (fun _ => rfl)
    (AdmI w W0.heap.size b5 b6 B N cb H (.bool false)) (AdmX w W0.heap.size b6 H xs) hIy hXy h0 (AdmB w W0.heap.size b5 b6 B N cb H (.bool false)) ?hIb ?assign ?body ?done ?stop
  case hIb =>
    rintro x a' p Mi W1 Mi' W' ⟨hf, hI⟩ ht hM'
    exact ⟨hf, hIy p Mi W1 Mi' W' hI ht hM'⟩
  case assign =>
    intro l2 p x rest Mi W1 hsp hI
    have HI := hide hI
    clear hI
    unfold encD
    gi_wp2
    refine ⟨⟨?_, HI.out⟩, Keeps.refl _ _ _⟩
    unfold FrameAdm
    (repeat apply Exists.intro)
    rfl
  case body =>
    rintro l2 p ⟨v, far⟩ rest Mi a' W1 hsp hl2 hMl hrec ⟨⟨u0, u1, u2, u3, u4, u9, u10, u11, u12, u13, u14, u15, u16, u17, u18, u19, u20, u21, u22, u23, u24, u25, u26, u27, u28, u29, u30, u31, u32, rfl⟩, ⟨⟨y, rfl⟩, ⟨q5, q6⟩, hnt, hm, hlo⟩⟩
    have HMEM := hide (show (v, far) ∈ xs from by rw [hsp]; simp)
    have hvN : v < N := HLT.out _ HMEM.out
    have HMM := hide hm
    have HNT := hide hnt
    have hr := HM.out.2.grows y.grows
    have hlen : H.length = N := hr.wlen
    obtain ⟨bB, oB, rfl, hcB⟩ := hr.at_ (by omega)
    have ck : Holds y.now ⟨bB, oB + v, none⟩ (.int .u64 (gn H v : Int)) := ⟨hcB v _ (wv_at (by omega))⟩
    have hbv := HHB.out v hvN
    clear hsp hl2 hMl hrec hm h0 hIy hXy hGV hnt hr hcB hlen
    simp only
    have HKN : ∀ k, k = b6 → ¬ ((k < w.heap.size ∨ (b ≤ k ∧ k ≤ b + 1 + 1)) ∨ Mi k) := fun k hk e => by
      rcases e with (e | e) | e
      · omega
      · omega
      · have := (HMM.out _ e).1
        omega
    have HKN2 := hide HKN
    clear HKN
    by_cases hvt : far < gn H v
    · have HLE := hide (show ∃ q ∈ xs, q.2 < gn H q.1 from ⟨_, HMEM.out, hvt⟩)
      generalize gn H v = hv at *
      clear hbv
      gi_wp2
      have e6 : Arr (y.now.setCell ⟨b6, 0, none⟩ (.bool false)) b6 4 [.bool false] := q6.set 0 _
      refine ⟨(Touch.refl _ _).set (.inl (HKN2.out _ rfl)) _, rfl, HLE.out, ⟨⟨_, y.grows.set g6 _⟩, rfl⟩, e6, fun k hk => ?_, ?_⟩
      · rw [size_setCell]; exact HMM.out k hk
      · rw [size_setCell]; exact hlo
    · have HLE := hide (show ∀ q ∈ p ++ [(v, far)], gn H q.1 ≤ q.2 from fun q hq => by
        rcases List.mem_append.1 hq with h | h
        · exact HNT.out q h
        · rw [List.mem_singleton.1 h]; show gn H v ≤ far; omega)
      generalize gn H v = hv at *
      clear hbv
      gi_wp2
      exact ⟨Keeps.refl _ _ _, ⟨y, rfl⟩, ⟨q5, q6⟩, HLE.out, HMM.out, hlo⟩
  case done =>
    intro D Mi W1 hlD hMD hI hDW
    obtain ⟨⟨y, rfl⟩, ⟨q5, q6⟩, hnt, hm, hlo⟩ := hI
    have HV := hide (show admB xs H = true from by unfold admB; rw [List.all_eq_true]; exact fun q hq => decide_eq_true (hnt q hq))
    have HDW := hide hDW
    clear hm hDW hIy hXy h0 hGV hnt
    gi_wp2
    go_wp2_with fail
    have e6 : Arr (y.now.setCell ⟨b6, 0, none⟩ (.bool true)) b6 4 [.bool true] := q6.set 0 _
    have hDl : w.heap.size ≤ D ∧ b6 ≠ D := by omega
    have hyg : Grows w (y.now.setCell ⟨b6, 0, none⟩ (.bool true)) := y.grows.set g6 _
    have hD3 : (y.now.setCell ⟨b6, 0, none⟩ (.bool true)).heap[D]? = some (.deferred (some [])) := by
      rw [heap_setCell _ _ _ _ (Ne.symm hDl.2)]
      exact HDW.out
    refine marks_ret [D] rfl ((Marks.nil _).cons hD3 (by simp)) (fun W' htt => ?_)
    have k6 := (e6.touch htt (fun e => hDl.2 (List.mem_singleton.1 e))).cell 0
    refine ⟨.bool true, by simp (maxDischargeDepth := 6) [results, Try.results28, go_sem, k6], by rw [HV.out], htt.later hyg (fun k hk => by rw [List.mem_singleton.1 hk]; exact hDl.1)⟩
  case stop =>
    intro D c' p i rest Mi W1 hlD hMD _ hX hDW
    obtain ⟨rfl, ⟨q, hq, hql⟩, ⟨y, rfl⟩, q6, hm, hlo⟩ := hX
    have HV := hide (show admB xs H = false from by
      unfold admB
      rw [List.all_eq_false]
      exact ⟨q, hq, by rw [decide_eq_false (by omega)]; simp⟩)
    have HDW := hide hDW
    clear hq hql hDW hIy hXy h0 hGV hm
    gi_wp2
    have hDl : w.heap.size ≤ D ∧ b6 ≠ D := by omega
    refine marks_ret [D] rfl ((Marks.nil _).cons HDW.out (by simp)) (fun W' htt => ?_)
    have k6 := (q6.touch htt (fun e => hDl.2 (List.mem_singleton.1 e))).cell 0
    refine ⟨.bool false, by simp (maxDischargeDepth := 6) [results, Try.results28, go_sem, k6], by rw [HV.out], htt.later y.grows (fun k hk => by rw [List.mem_singleton.1 hk]; exact hDl.1)⟩
end Go.Proofs.Ytiljgkaffgclgaa

/- The law MarksSound, walked: what landmarks tell is consistent, and admissible, and how far it is lies between both. -/
namespace Go.Proofs.Ytiljgkaffgclgaa
open Go Go.RowKit
set_option maxRecDepth 20000 in
set_option maxHeartbeats 2000000 in
theorem mkDistNil (s t : Int) (w : World) : Calls Try.prog 26 #[.pointer none, .int .i64 s, .int .i64 t] w fun x w' => x = .returned (.tuple #[.agg #[.int .u64 0, .int .i64 0], .int .i64 1]) ∧ Grows w w' := by
  go_enter Try.func26, Try.ntmps26
  go_wp2_with fail
  refine bodyPost_ret (v := .tuple #[.agg #[.int .u64 0, .int .i64 0], .int .i64 1]) (by simp (maxDischargeDepth := 6) [results, Try.results26, go_sem, *]) rfl ?_
  exact ⟨rfl, (by repeat (first | exact Grows.refl _ | refine Grows.now ?_ _ | refine Grows.new ?_ _ | refine Grows.drewN ?_ _ | refine Grows.drew ?_ | assumption | (refine Grows.set ?_ (by first | omega | (simp; done) | (simp; omega)) _)))⟩
set_option maxRecDepth 20000 in
set_option maxHeartbeats 2000000 in
theorem mkNodesNil (w : World) : Calls Try.prog 24 #[.pointer none] w fun x w' => x = .returned (.slice none 0 0) ∧ Grows w w' := by
  go_enter Try.func24, Try.ntmps24
  go_wp2_with fail
  all_goals go_ret
  all_goals exact ⟨rfl, (by repeat (first | exact Grows.refl _ | refine Grows.now ?_ _ | refine Grows.new ?_ _ | refine Grows.drewN ?_ _ | refine Grows.drew ?_ | assumption | (refine Grows.set ?_ (by first | omega | (simp; done) | (simp; omega)) _)))⟩
set_option maxRecDepth 20000 in
theorem report_eqv (a b a' b' : Int) (W : World) : (Op.equalIn 10000 50 (.agg #[.int .u64 a, .int .i64 b]) (.agg #[.int .u64 a', .int .i64 b'])).run Try.prog W = .ok (a == a' && b == b') W := by
  have h1 : ∀ x z : Int, ∀ w : World, (Op.equalIn 9999 3 (.int .i64 x) (.int .i64 z)).run Try.prog w = .ok (x == z) w := fun x z w => by
    rw [show (9999 : Nat) = 9998 + 1 from rfl, run_equalIn_int w 9998 3 .i64 .i64 x z Try.underlying3]
  have h2 : ∀ x z : Int, ∀ w : World, (Op.equalIn 9999 33 (.int .u64 x) (.int .u64 z)).run Try.prog w = .ok (x == z) w := fun x z w => by
    rw [show (9999 : Nat) = 9998 + 1 from rfl, run_equalIn_int w 9998 33 .u64 .u64 x z Try.underlying33]
  rw [show (10000 : Nat) = 9999 + 1 from rfl]
  unfold Op.equalIn
  have hp0 : ∀ (a b : Int) (w : World), (part 33 #[Value.int .u64 a, Value.int .i64 b] 0).run Try.prog w = .ok (.int .u64 a) w := fun a b w => by kernel_rfl
  have hp1 : ∀ (a b : Int) (w : World), (part 3 #[Value.int .u64 a, Value.int .i64 b] 1).run Try.prog w = .ok (.int .i64 b) w := fun a b w => by kernel_rfl
  have hst : Try.prog.stoodInHeld 50 = false := by kernel_rfl
  have hpr : ∀ w : World, (program).run Try.prog w = .ok Try.prog w := fun w => rfl
  simp only [Sem.run_bind, run_underlying Try.underlying50, Result.andThen_ok, hpr, hst, Bool.false_eq_true, if_false, List.forIn_toArray, List.forIn_cons, List.forIn_nil]
  cases ha : a == a' <;> cases hb : b == b' <;> simp [h1, h2, hp0, hp1, Sem.run_bind, Result.andThen_ok, ha, hb]
theorem rightF_wt {NN : Nat} {E : List Edg} (h : rightF NN E = 0) {i : Nat} (hi : i < E.length) : ((gn (wtF (NN : Int) E []) i : Nat) : Int) = (ge E i).w := by
  have : wtF (NN : Int) E [] = eW E := by
    unfold wtF
    rw [if_neg (by omega), if_neg (by simp), if_neg (by simp)]
  rw [this]
  have e : gn (eW E) i = (ge E i).w.toNat := by simp [gn, eW, ge, hi]
  have := (right_in h).2.2.2.2 i hi
  rw [e]
  omega
/-- What landmarks tell is consistent. -/
theorem bnds_cons {NN : Nat} {E : List Edg} {F T : Nat → List Nat} {l : List Nat} {t : Nat} (hM : Mks NN E F T) (hK : MarkOk NN E l) (ht : t < NN) : consB (NN : Int) E NN (bndsL F T l t NN) = true := by
  unfold consB
  rw [decide_eq_true hK.right, decide_eq_true rfl]
  have : E.any (steepB (bndsL F T l t NN)) = false := by
    rw [List.any_eq_false]
    intro e he
    obtain ⟨i, hi, rfl⟩ := List.mem_iff_getElem.1 he
    have e1 : ge E i = E[i] := by simp [ge, hi]
    obtain ⟨hf, hto, _, _⟩ := hM.hop hK.right hi
    have h1 := bnd_step (l := l) hM hK.right hi ht l.length (Nat.le_refl _) hK.node
    have h2 := rightF_wt hK.right hi
    rw [← e1]
    unfold steepB
    have e2 : (ge E i).f.toNat = fN E i := rfl
    have e3 : (ge E i).t.toNat = tN E i := rfl
    rw [e2, e3, bndsL_at F T l t hf, bndsL_at F T l t hto]
    simp
    omega
  rw [this]
  rfl
/-- And admissible. -/
theorem bnds_adm {NN : Nat} {E : List Edg} {F T : Nat → List Nat} {l : List Nat} {t : Nat} {xs : List (Nat × Nat)} (hM : Mks NN E F T) (hK : MarkOk NN E l) (ht : t < NN) (hx : SeaOk NN t E true xs) (hT : T t = outL NN xs) : admB xs (bndsL F T l t NN) = true := by
  unfold admB
  rw [List.all_eq_true]
  rintro ⟨v, f⟩ hq
  have hv : v < NN := hx.lt _ hq
  have e1 : gn (T t) v = f := by rw [hT]; exact outL_at hx.far.nodup hv hq
  have hb := net_bound hK.right
  have hf : f ≤ NN * 17592186044416 := (hx.far.way _ _ hq).2.2.2
  have e2 := hM.turn v t hv ht
  have h1 := bnd_le (l := l) hM hK.right hv ht (by rw [← e2, e1]; unfold farV; omega) l.length (Nat.le_refl _) hK.node
  refine decide_eq_true ?_
  show gn (bndsL F T l t NN) v ≤ f
  rw [bndsL_at F T l t hv]
  omega
set_option maxRecDepth 40000 in
set_option maxHeartbeats 8000000 in
theorem marksSoundW (N : Int) (A : Option Addr) (n c : Nat) (E : List Edg) (B : Option Addr) (m d : Nat) (l : List Int) (v t : Int) (w : World)
    (_ : I64 N) (_ : n ≤ c) (h : Rd w A 3 n (esCells E)) (_ : ∀ k, k < n → edgOk (ge E k)) (_ : m ≤ d) (h2 : Rd w B 1 m (l.map (.int .i64))) (_ : ∀ z ∈ l, (Lit.int .i64 z).wf = true) (_ : -9223372036854775808 ≤ v ∧ v < 9223372036854775808) (_ : -9223372036854775808 ≤ t ∧ t < 9223372036854775808) :
    Calls Try.prog 4 #[.agg #[.int .i64 N, .slice A n c], .slice B m d, .int .i64 v, .int .i64 t] w fun e w' => e = .returned (.bool true) ∧ Grows w w' := by
  obtain rfl : E.length = n := h.elen
  obtain rfl : l.length = m := by simpa using h2.len
  have CL := hide (fun (W : World) => lLight46 N A E.length c B l.length d W)
  cases hq : light46 N E.length l.length with
  | false =>
    rw [hq] at CL
    clear h h2
    go_enter Try.func4, Try.ntmps4
    go_wp2_with (first | (go_at_call 13; refine (CL.out _).mono ?_; rintro e w' ⟨rfl, hg⟩; (first | obtain ⟨x, rfl⟩ := Grows.later2 hg | obtain ⟨x, rfl⟩ := Grows.later hg); clear hg) | (go_at_call 14; refine (alive46 _).mono ?_; rintro e w' ⟨rfl, hg⟩; (first | obtain ⟨x, rfl⟩ := Grows.later2 hg | obtain ⟨x, rfl⟩ := Grows.later hg); clear hg))
    go_ret
    exact ⟨rfl, (by repeat (first | exact Grows.refl _ | refine Grows.now ?_ _ | refine Grows.new ?_ _ | refine Grows.drewN ?_ _ | refine Grows.drew ?_ | assumption | (refine Grows.set ?_ (by first | omega | (simp; done) | (simp; omega)) _)))⟩
  | true =>
    rw [hq] at CL
    have hsz : E.length ≤ 60 ∧ l.length < 100 := by
      unfold light46 at hq
      simp at hq
      omega
    have hE : E.length ≤ 1000000 := by omega
    have hl : l.length ≤ 1000000 := by omega
    clear hq
    by_cases hf : mkF N E l = 0
    · obtain ⟨NN, l', rfl, rfl, hK, h64⟩ := mkF_zero hf
      obtain ⟨F, T, hM⟩ := mks_any hK.right
      simp only [List.length_map] at *
      rw [nv_cast] at h2
      have C0 := hide (fun (W : World) (g : Grows w W) => mkNew NN A c E B d l' F T hM hK W (h.grows g) (h2.grows g) h64)
      have HK := hide hK
      have HM := hide hM
      have HR := hide (And.intro h h2)
      clear hf h h2 hK hM
      by_cases hin : (nodeB (NN : Int) v && nodeB (NN : Int) t) = true
      · obtain ⟨vN, rfl⟩ : ∃ vN : Nat, v = vN := ⟨v.toNat, by unfold nodeB at hin; simp at hin; omega⟩
        obtain ⟨tN, rfl⟩ : ∃ tN : Nat, t = tN := ⟨t.toNat, by unfold nodeB at hin; simp at hin; omega⟩
        have hv : vN < NN := by unfold nodeB at hin; simp at hin; omega
        have ht : tN < NN := by unfold nodeB at hin; simp at hin; omega
        have hN4 : NN ≤ 4096 := by have := (right_in HK.out.right).2.1; omega
        obtain ⟨xs, hxs, hFv⟩ := HM.out.f vN hv
        obtain ⟨ys, hys, hTt⟩ := HM.out.t tN ht
        have C1 := hide (fun (gm : Nat) (W : World) (hm : MkAt W gm NN E l' F T) => mkBounds NN gm E l' F T HM.out HK.out tN ht W hm hl hN4)
        have C2 := hide (fun (gm : Nat) (W : World) (hm : MkAt W gm NN E l' F T) => mkBetween NN gm E l' F T HM.out HK.out vN tN hv ht W hm hl)
        have C3 := hide (fun (W : World) (g : Grows w W) => show Calls Try.prog 25 #[.agg #[.int .i64 (NN : Int), .slice A E.length c], .int .i64 (vN : Int), .agg #[.bool false, .slice none 0 0, .slice none 0 0, .slice none 0 0, .int .u64 0]] W fun e w' =>
            ∃ gd, e = .returned (.slice (some ⟨gd, 0, none⟩) NN NN) ∧ Row1 w' gd 33 1 NN NN (wv (F vN)) ∧ Grows W w' from by
          rw [hFv, ← hxs.ref]
          exact r14All NN vN A c E (allO false) none none none 0 0 0 W (HR.out.1.grows g) (rdNone _ _) (rdNone _ _) (rdNone _ _) hxs.ok hxs.wb)
        have C4 := hide (fun (B' : Option Addr) (cb : Nat) (W : World) (g : Grows w W) (q : Rd W B' 1 NN (wv (bndsL F T l' tN NN))) => by
          have := asCons (NN : Int) A c E B' NN cb (bndsL F T l' tN NN) W (HR.out.1.grows g) hE q (by omega) (fun j hj => by
            rw [bndsL_at F T l' tN hj]
            have := bnd_top (l := l') HM.out HK.out.right hj ht l'.length (Nat.le_refl _) HK.out.node
            omega)
          rw [bnds_cons HM.out HK.out ht] at this
          exact this)
        have C5 := hide (fun (B' : Option Addr) (cb : Nat) (W : World) (g : Grows w W) (q : Rd W B' 1 NN (wv (bndsL F T l' tN NN))) => by
          have := asAdm NN tN A c E B' cb (bndsL F T l' tN NN) ys W (HR.out.1.grows g) q hys ht (fun j hj => by
            rw [bndsL_at F T l' tN hj]
            have := bnd_top (l := l') HM.out HK.out.right hj ht l'.length (Nat.le_refl _) HK.out.node
            omega)
          rw [bnds_adm HM.out HK.out ht hys hTt] at this
          exact this)
        have hlo : gn (F vN) tN < farV → bndT F T l' vN tN l'.length ≤ gn (F vN) tN := fun hd => bnd_le (l := l') HM.out HK.out.right hv ht hd l'.length (Nat.le_refl _) HK.out.node
        have hhi := abv_ge (l := l') HM.out HK.out.right hv ht l'.length (Nat.le_refl _) HK.out.node
        have hFl := HM.out.flen vN hv
        obtain ⟨bv, hb⟩ : ∃ bv, bndT F T l' vN tN l'.length = bv := ⟨_, rfl⟩
        obtain ⟨av, ha⟩ : ∃ av, abvT F T l' vN tN l'.length = av := ⟨_, rfl⟩
        obtain ⟨dv, hdv⟩ : ∃ dv, gn (F vN) tN = dv := ⟨_, rfl⟩
        rw [hb] at C2 hlo
        rw [ha] at C2 hhi
        rw [hdv] at hlo hhi
        have HDV := hide hdv
        have HFL := hide hFl
        have HLO := hide hlo
        have hrep := hide (fun (W : World) => report_eqv 0 0 0 0 W)
        clear hb ha hin hxs hys hFv hTt hdv hFl hlo
        have hdv1 : decide ((NN : Int) ≤ (vN : Int)) = false := decide_eq_false (by omega)
        have hdt1 : decide ((NN : Int) ≤ (tN : Int)) = false := decide_eq_false (by omega)
        have HHI := hide hhi
        clear hhi
        go_enter Try.func4, Try.ntmps4
        go_wp2_with fail
        refine (CL.out _).mono ?_; rintro e w' ⟨rfl, hg⟩; obtain ⟨x1, rfl⟩ := hg.later; clear hg
        have b1 : Arr x1.now w.heap.size 24 [.int .i64 (NN : Int), .slice A E.length c] := Arr.grow ⟨by simp [heap_push]⟩ x1.grows
        go_wp2_with fail
        refine (C0.out _ (by repeat (first | exact Grows.refl _ | refine Grows.now ?_ _ | refine Grows.new ?_ _ | refine Grows.drewN ?_ _ | refine Grows.drew ?_ | assumption | (refine Grows.set ?_ (by first | omega | (simp; done) | (simp; omega)) _)))).mono ?_; rintro e w' ⟨gm, rfl, hm, hg⟩; obtain ⟨x2, rfl⟩ := hg.later; have HMK := hide hm; clear hg hm
        go_wp2_with fail
        refine (C1.out _ _ HMK.out).mono ?_; rintro e w' ⟨A3, c3, rfl, hr3, hg⟩; obtain ⟨x3, rfl⟩ := hg.later; have HR3 := hide hr3; clear hg hr3
        go_wp2_with fail
        refine (C3.out _ (by repeat (first | exact Grows.refl _ | refine Grows.now ?_ _ | refine Grows.new ?_ _ | refine Grows.drewN ?_ _ | refine Grows.drew ?_ | assumption | (refine Grows.set ?_ (by first | omega | (simp; done) | (simp; omega)) _)))).mono ?_; rintro e w' ⟨gd, rfl, hrow, hg⟩; obtain ⟨x4, rfl⟩ := hg.later
        have q4 : Holds x4.now ⟨gd, tN, none⟩ (.int .u64 (dv : Int)) := by have := hrow.wvH HFL.out ht; rwa [HDV.out] at this
        clear hg hrow
        go_wp2_with fail
        refine (C2.out _ _ (HMK.out.grows (by repeat (first | exact Grows.refl _ | refine Grows.now ?_ _ | refine Grows.new ?_ _ | refine Grows.drewN ?_ _ | refine Grows.drew ?_ | assumption | (refine Grows.set ?_ (by first | omega | (simp; done) | (simp; omega)) _))))).mono ?_; rintro e w' ⟨rfl, hg⟩; obtain ⟨x5, rfl⟩ := hg.later; clear hg
        go_wp2_with fail
        refine (mkDistNil _ _ _).mono ?_; rintro e w' ⟨rfl, hg⟩; obtain ⟨x6, rfl⟩ := hg.later; clear hg
        go_wp2_with fail
        refine (mkNodesNil _).mono ?_; rintro e w' ⟨rfl, hg⟩; obtain ⟨x7, rfl⟩ := hg.later; clear hg
        go_wp2_with fail
        refine (mkBoundsNil _ _).mono ?_; rintro e w' ⟨rfl, hg⟩; obtain ⟨x8, rfl⟩ := hg.later; clear hg
        have hrq := hrep.out
        go_wp2_with fail
        refine (C4.out _ _ _ (by repeat (first | exact Grows.refl _ | refine Grows.now ?_ _ | refine Grows.new ?_ _ | refine Grows.drewN ?_ _ | refine Grows.drew ?_ | assumption | (refine Grows.set ?_ (by first | omega | (simp; done) | (simp; omega)) _))) (HR3.out.grows (by repeat (first | exact Grows.refl _ | refine Grows.now ?_ _ | refine Grows.new ?_ _ | refine Grows.drewN ?_ _ | refine Grows.drew ?_ | assumption | (refine Grows.set ?_ (by first | omega | (simp; done) | (simp; omega)) _))))).mono ?_; rintro e w' ⟨rfl, hg⟩; obtain ⟨x9, rfl⟩ := hg.later; clear hg
        go_wp2_with fail
        refine (C5.out _ _ _ (by repeat (first | exact Grows.refl _ | refine Grows.now ?_ _ | refine Grows.new ?_ _ | refine Grows.drewN ?_ _ | refine Grows.drew ?_ | assumption | (refine Grows.set ?_ (by first | omega | (simp; done) | (simp; omega)) _))) (HR3.out.grows (by repeat (first | exact Grows.refl _ | refine Grows.now ?_ _ | refine Grows.new ?_ _ | refine Grows.drewN ?_ _ | refine Grows.drew ?_ | assumption | (refine Grows.set ?_ (by first | omega | (simp; done) | (simp; omega)) _))))).mono ?_; rintro e w' ⟨rfl, hg⟩; obtain ⟨x10, rfl⟩ := hg.later; clear hg hrq
        obtain ⟨di, hdi⟩ : ∃ z : Int, (dv : Int) = z := ⟨_, rfl⟩
        obtain ⟨bi, hbi⟩ : ∃ z : Int, (bv : Int) = z := ⟨_, rfl⟩
        obtain ⟨ai, hai⟩ : ∃ z : Int, (av : Int) = z := ⟨_, rfl⟩
        have hda : di ≤ ai := by have := HHI.out; omega
        rw [hdi, hbi, hai]
        by_cases hfar : dv < farV
        · have hbd : bi ≤ di := by have := HLO.out hfar; omega
          have hd1 : decide (4611686018427387904 ≤ di) = false := decide_eq_false (by unfold farV at hfar; omega)
          have hd2 : decide (bi ≤ di) = true := decide_eq_true hbd
          have hd3 : decide (di ≤ ai) = true := decide_eq_true hda
          clear hdi hbi hai hda hbd hfar q4
          go_wp2_with fail
          refine (alive46 _).mono ?_; rintro e w' ⟨rfl, hg⟩; obtain ⟨x11, rfl⟩ := hg.later; clear hg
          go_wp2_with fail
          go_ret
          exact ⟨rfl, (by repeat (first | exact Grows.refl _ | refine Grows.now ?_ _ | refine Grows.new ?_ _ | refine Grows.drewN ?_ _ | refine Grows.drew ?_ | assumption | (refine Grows.set ?_ (by first | omega | (simp; done) | (simp; omega)) _)))⟩
        · have hd1 : decide (4611686018427387904 ≤ di) = true := decide_eq_true (by unfold farV at hfar; omega)
          have hd3 : decide (di ≤ ai) = true := decide_eq_true hda
          clear hdi hbi hai hda hfar q4
          go_wp2_with fail
          refine (alive46 _).mono ?_; rintro e w' ⟨rfl, hg⟩; obtain ⟨x11, rfl⟩ := hg.later; clear hg
          go_wp2_with fail
          go_ret
          exact ⟨rfl, (by repeat (first | exact Grows.refl _ | refine Grows.now ?_ _ | refine Grows.new ?_ _ | refine Grows.drewN ?_ _ | refine Grows.drew ?_ | assumption | (refine Grows.set ?_ (by first | omega | (simp; done) | (simp; omega)) _)))⟩
      · have hout : v < 0 ∨ (0 ≤ v ∧ (NN : Int) ≤ v) ∨ (0 ≤ v ∧ v < NN ∧ t < 0) ∨ (0 ≤ v ∧ v < NN ∧ 0 ≤ t ∧ (NN : Int) ≤ t) := by
          have hin' : (nodeB (NN : Int) v && nodeB (NN : Int) t) = false := by simpa using hin
          unfold nodeB at hin'
          simp at hin'
          omega
        clear hin
        go_enter Try.func4, Try.ntmps4
        go_wp2_with fail
        refine (CL.out _).mono ?_; rintro e w' ⟨rfl, hg⟩; obtain ⟨x1, rfl⟩ := hg.later; clear hg
        have b1 : Arr x1.now w.heap.size 24 [.int .i64 (NN : Int), .slice A E.length c] := Arr.grow ⟨by simp [heap_push]⟩ x1.grows
        go_wp2_with fail
        refine (C0.out _ (by repeat (first | exact Grows.refl _ | refine Grows.now ?_ _ | refine Grows.new ?_ _ | refine Grows.drewN ?_ _ | refine Grows.drew ?_ | assumption | (refine Grows.set ?_ (by first | omega | (simp; done) | (simp; omega)) _)))).mono ?_; rintro e w' ⟨gm, rfl, hm, hg⟩; obtain ⟨x2, rfl⟩ := hg.later; clear hg hm
        rcases hout with h1 | ⟨h1, h2⟩ | ⟨h1, h2, h3⟩ | ⟨h1, h2, h3, h4⟩
        · have d1 : decide (v < 0) = true := decide_eq_true h1
          clear h1
          go_wp2_with fail
          refine (alive46 _).mono ?_; rintro e w' ⟨rfl, hg⟩; obtain ⟨x7, rfl⟩ := hg.later; clear hg
          go_wp2_with fail
          go_ret
          exact ⟨rfl, (by repeat (first | exact Grows.refl _ | refine Grows.now ?_ _ | refine Grows.new ?_ _ | refine Grows.drewN ?_ _ | refine Grows.drew ?_ | assumption | (refine Grows.set ?_ (by first | omega | (simp; done) | (simp; omega)) _)))⟩
        · have d1 : decide (v < 0) = false := decide_eq_false (by omega)
          have d2 : decide ((NN : Int) ≤ v) = true := decide_eq_true h2
          clear h1 h2
          go_wp2_with fail
          refine (alive46 _).mono ?_; rintro e w' ⟨rfl, hg⟩; obtain ⟨x7, rfl⟩ := hg.later; clear hg
          go_wp2_with fail
          go_ret
          exact ⟨rfl, (by repeat (first | exact Grows.refl _ | refine Grows.now ?_ _ | refine Grows.new ?_ _ | refine Grows.drewN ?_ _ | refine Grows.drew ?_ | assumption | (refine Grows.set ?_ (by first | omega | (simp; done) | (simp; omega)) _)))⟩
        · have d1 : decide (v < 0) = false := decide_eq_false (by omega)
          have d2 : decide ((NN : Int) ≤ v) = false := decide_eq_false (by omega)
          have d3 : decide (t < 0) = true := decide_eq_true h3
          clear h1 h2 h3
          go_wp2_with fail
          refine (alive46 _).mono ?_; rintro e w' ⟨rfl, hg⟩; obtain ⟨x7, rfl⟩ := hg.later; clear hg
          go_wp2_with fail
          go_ret
          exact ⟨rfl, (by repeat (first | exact Grows.refl _ | refine Grows.now ?_ _ | refine Grows.new ?_ _ | refine Grows.drewN ?_ _ | refine Grows.drew ?_ | assumption | (refine Grows.set ?_ (by first | omega | (simp; done) | (simp; omega)) _)))⟩
        · have d1 : decide (v < 0) = false := decide_eq_false (by omega)
          have d2 : decide ((NN : Int) ≤ v) = false := decide_eq_false (by omega)
          have d3 : decide (t < 0) = false := decide_eq_false (by omega)
          have d4 : decide ((NN : Int) ≤ t) = true := decide_eq_true h4
          clear h1 h2 h3 h4
          go_wp2_with fail
          refine (alive46 _).mono ?_; rintro e w' ⟨rfl, hg⟩; obtain ⟨x7, rfl⟩ := hg.later; clear hg
          go_wp2_with fail
          go_ret
          exact ⟨rfl, (by repeat (first | exact Grows.refl _ | refine Grows.now ?_ _ | refine Grows.new ?_ _ | refine Grows.drewN ?_ _ | refine Grows.drew ?_ | assumption | (refine Grows.set ?_ (by first | omega | (simp; done) | (simp; omega)) _)))⟩
    · have C0 := hide (fun (W : World) (g : Grows w W) => mkNewNo N A c E B d l W (h.grows g) hE (h2.grows g) hl hf)
      have HF := hide hf
      clear h h2 hf
      generalize mkF N E l = why at *
      have hwn : (why == 0) = false := beq_eq_false_iff_ne.2 HF.out
      go_enter Try.func4, Try.ntmps4
      go_wp2_with fail
      refine (CL.out _).mono ?_; rintro e w' ⟨rfl, hg⟩; obtain ⟨x1, rfl⟩ := hg.later; clear hg
      go_wp2_with fail
      refine (C0.out _ (by repeat (first | exact Grows.refl _ | refine Grows.now ?_ _ | refine Grows.new ?_ _ | refine Grows.drewN ?_ _ | refine Grows.drew ?_ | assumption | (refine Grows.set ?_ (by first | omega | (simp; done) | (simp; omega)) _)))).mono ?_; rintro e w' ⟨rfl, hg⟩; obtain ⟨x2, rfl⟩ := hg.later; clear hg
      go_wp2_with fail
      refine (alive46 _).mono ?_; rintro e w' ⟨rfl, hg⟩; obtain ⟨x7, rfl⟩ := hg.later; clear hg
      go_wp2_with fail
      go_ret
      exact ⟨rfl, (by repeat (first | exact Grows.refl _ | refine Grows.now ?_ _ | refine Grows.new ?_ _ | refine Grows.drewN ?_ _ | refine Grows.drew ?_ | assumption | (refine Grows.set ?_ (by first | omega | (simp; done) | (simp; omega)) _)))⟩
end Go.Proofs.Ytiljgkaffgclgaa

/- The law MarksSound: for every input it returns true, and each argument reads as before. No condition. -/
namespace Go.Proofs.Ytiljgkaffgclgaa.lawMarksSound
open Go Go.ChangeShapes Go.WideShapes Go.ChangeAt Go.RowKit Go.Proofs.Ytiljgkaffgclgaa

theorem own : ownKnob Try.prog.godebug = none := by kernel_rfl
theorem laidOut : laidOutB Try.prog = true := by kernel_rfl

set_option maxRecDepth 100000 in
theorem lifted (os : Os) (started : os.Started) (H : Type) (enc : TypeId × Value → H) :
    ReturnsInHanded {} Try.checked os 4 .any (Rows.marksSoundSpec.pre6 enc Try.prog Try.f4 Rows.marksSoundRow.domain false) (Rows.marksSoundSpec.post enc Try.prog Try.f4 false true false false) := by
  refine returnsInHanded_of_change (C := Try.checked) own started (by kernel_rfl) Try.func4
    (ChangeSpec.witness6 (enc := enc) (C := Try.checked) false ⟨#[], #[.agg #[.int .i64 0, .slice none 0 0], .slice none 0 0, .int .i64 0, .int .i64 0], []⟩ 8 (by kernel_rfl) (by kernel_rfl) (by kernel_rfl) (by kernel_rfl)) ?_
  intro W base args ds gs before hval0 hW hcnd _
  have hval : ∀ (j : Nat) t v, Try.f4.params[j]? = some t → args[j]? = some v → Value.okWide Try.prog W .any base t v := hval0
  have hW' := hW
  obtain ⟨p, q, hA0, hV, rfl, hfz, hnd⟩ := hW
  have hA : DataW.TrodAll enc Try.prog W 0 (fun _ => true) true Try.f4.params.toList args.toList ds p := hA0
  rw [Try.params4] at hA hval
  obtain ⟨v0, vs0, d0, ds0, p0, q0, hargs, rfl, rfl, h0, r0⟩ := trodAll_cons hA
  obtain ⟨v1, vs1, d1, ds1, p1, q1, rfl, rfl, rfl, h1, r1⟩ := trodAll_cons r0
  obtain ⟨v2, vs2, d2, ds2, p2, q2, rfl, rfl, rfl, h2, r2⟩ := trodAll_cons r1
  obtain ⟨v3, vs3, d3, ds3, p3, q3, rfl, rfl, rfl, h3, r3⟩ := trodAll_cons r2
  obtain ⟨rfl, rfl, rfl⟩ := trodAll_nil r3
  obtain rfl : args = #[v0, v1, v2, v3] := by cases args; simp_all
  obtain ⟨rfl, rfl⟩ := trodVars_none hV
  have k0 := h0
  have lt0 : ∀ x ∈ p0, x.block < W.heap.size := by obtain ⟨m, hm⟩ := k0; exact DataW.trod_lt m _ _ _ hm
  obtain ⟨a0, A0, n0, c0, z0, rfl, x0, l0, w0, u0⟩ := open_graph Try.underlying24 Try.underlying3 Try.underlying22 Try.underlying77 Try.underlying3 Try.underlying3 Try.underlying33 ⟨rfl, rfl, rfl⟩ ⟨by kernel_rfl, by kernel_rfl, by kernel_rfl⟩ (by kernel_rfl) (by kernel_rfl) (by kernel_rfl) (hval 0 24 v0 rfl rfl) h0
  have k1 := h1
  have lt1 : ∀ x ∈ p1, x.block < W.heap.size := by obtain ⟨m, hm⟩ := k1; exact DataW.trod_lt m _ _ _ hm
  obtain ⟨A1, n1, c1, z1, rfl, l1, w1, u1⟩ := open_numsC Try.underlying25 Try.underlying3 (by kernel_rfl) (hval 1 25 v1 rfl rfl) h1
  have k2 := h2
  have lt2 : ∀ x ∈ p2, x.block < W.heap.size := by obtain ⟨m, hm⟩ := k2; exact DataW.trod_lt m _ _ _ hm
  obtain ⟨a2, rfl, w2⟩ := open_i64 Try.underlying3 (hval 2 3 v2 rfl rfl) h2
  have k3 := h3
  have lt3 : ∀ x ∈ p3, x.block < W.heap.size := by obtain ⟨m, hm⟩ := k3; exact DataW.trod_lt m _ _ _ hm
  obtain ⟨a3, rfl, w3⟩ := open_i64 Try.underlying3 (hval 3 3 v3 rfl rfl) h3
  clear hA0 hval0
  refine (marksSoundW a0 A0 n0 c0 z0 A1 n1 c1 z1 a2 a3 W x0 l0 w0 u0 l1 w1 u1 w2 w3).mono fun e W' ⟨he, bel⟩ => ?_
  subst he
  exact ⟨_, rfl, _, _, _, [], _, [], hW', trodAll_mk1 (shut_bool Try.underlying4 _), (trodAll_cons_mk (Below.trod laidOut (by kernel_rfl) (of_decide_eq_true (by kernel_rfl)) k0 bel lt0) (trodAll_cons_mk (Below.trod laidOut (by kernel_rfl) (of_decide_eq_true (by kernel_rfl)) k1 bel lt1) (trodAll_cons_mk (Below.trod laidOut (by kernel_rfl) (of_decide_eq_true (by kernel_rfl)) k2 bel lt2) (trodAll_cons_mk (Below.trod laidOut (by kernel_rfl) (of_decide_eq_true (by kernel_rfl)) k3 bel lt3) trodAll_mk0)))), rfl, Below.frame bel _, fun h => by cases h⟩

theorem over : Rows.marksSoundRow.holds Try.pinned (OpenSpec.ofChange Rows.marksSoundSpec) :=
  OpenClaim.holds_of_wide 4 Try.f4 rfl rfl rfl rfl rfl rfl rfl ⟨rfl, rfl, rfl, rfl, rfl⟩ rfl rfl rfl rfl rfl (by kernel_rfl) Try.func4 (by kernel_rfl)
    (of_decide_eq_true (by kernel_rfl)) (by unfold Func.isWrapper; first | (rw [if_pos (by decide +kernel)]; kernel_rfl) | (rw [if_neg (by decide +kernel)]; exact ⟨rfl, rfl⟩))
    (fun os started H enc _ => lifted os started H enc)

end Go.Proofs.Ytiljgkaffgclgaa.lawMarksSound
namespace Go.Proofs.Ytiljgkaffgclgaa
/-- The statement. -/
theorem marksSound_proved : Rows.MarksSoundSaid := lawMarksSound.over
#print axioms marksSound_proved
end Go.Proofs.Ytiljgkaffgclgaa
