/- Contracts: what may be searched, and the weights that count, by the program and by its answer. -/
import Derived.Test.YtpnncadglhlclaaBits
import Derived.Test.YtpnncadglhlclaaClone
namespace Go.Proofs.Ytpnncadglhlclaa
open Go Go.RowKit
theorem Rd.wordsH {w : World} {A : Option Addr} {n : Nat} {W : List Nat} (h : Rd w A 1 n (wv W)) (hn : 0 < n) : W.length = n ∧ ∃ b off, A = some ⟨b, off, none⟩ ∧ ∀ k, k < n → Holds w ⟨b, off + k, none⟩ (.int .u64 (gn W k : Int)) := by
  have hl : W.length = n := by have := h.len; rw [wv_len] at this; omega
  obtain ⟨b, off, e, hc⟩ := h.at_ hn
  exact ⟨hl, b, off, e, fun k hk => ⟨hc k _ (wv_at (by omega))⟩⟩
theorem Rd.wlen {w : World} {A : Option Addr} {n : Nat} {W : List Nat} (h : Rd w A 1 n (wv W)) : W.length = n := by have := h.len; rw [wv_len] at this; omega
theorem wv_one (W : List Nat) : ∀ u ∈ wv W, u.oneCell' = true := by
  intro u hu
  unfold wv at hu
  obtain ⟨x, _, rfl⟩ := List.mem_map.1 hu
  rfl
set_option maxRecDepth 20000 in
set_option maxHeartbeats 1000000 in
theorem indexU (A : Option Addr) (n c : Nat) (E : List Nat) (k : FuncId) (cap : Array Value) (p : Nat → Bool) (w : World) (h : Rd w A 1 n (wv E)) (hn : n ≤ 1000000) (hk : ∀ args W, (callFunc k args).run Try.prog W = .ok (.enter k args) W)
    (hf : ∀ W, Grows w W → ∀ j, j < n → Calls Try.prog k (#[.int .u64 (gn E j : Int)] ++ cap) W fun x w' => x = .returned (.bool (p (gn E j))) ∧ Grows W w') :
    Calls Try.prog 127 #[.slice A n c, .func (.func k) #[] cap] w fun e w' => e = .returned (.int .i64 (firstI p E)) ∧ Grows w w' := by
  have HL := hide h.wlen
  have HR := hide h
  have HF := hide hf
  clear h hf
  go_enter Try.func127, Try.ntmps127
  go_wp2
  go_loopw [8] (fun i wr => ∃ k : Nat, k ≤ n ∧ i = .int .i64 (k : Int) ∧ (∃ x : Later w, wr = x.now) ∧ ∀ j, j < k → p (gn E j) = false) (fun i _ => n - (Go.RowKit.intOf i).toNat)
  case atStart => exact ⟨0, by omega, by go_num, ⟨⟨w, Grows.refl w⟩, rfl⟩, fun j h1 => by omega⟩
  case round =>
    obtain ⟨q, hq, rfl, ⟨x, rfl⟩, hall⟩ := hrel
    have HA := hide hall
    clear hall
    by_cases hend : n ≤ q
    · go_wp2
      go_ret
      refine ⟨ret_int ?_, (by repeat (first | exact Grows.refl _ | refine Grows.now ?_ _ | refine Grows.new ?_ _ | refine Grows.drewN ?_ _ | refine Grows.drew ?_ | assumption | (refine Grows.set ?_ (by first | omega | (simp; done) | (simp; omega)) _)))⟩
      have hl := HL.out
      have hh := HA.out
      rw [firstI_none]
      intro e he
      obtain ⟨j, hj, rfl⟩ := List.mem_iff_getElem.1 he
      have := hh j (by omega)
      simpa [gn, hj] using this
    · obtain ⟨_, b, off, rfl, hc⟩ := HR.out.wordsH (by omega)
      have hc1 := hc q (by omega)
      clear hc
      have CF := hide (fun (W : World) (g : Grows w W) => HF.out W g q (by omega))
      have HP0 : Hid (∀ (p' : Bool), p (gn E q) = p' → p (E.getD q 0) = p') := fun p' h => h
      cases hp : p (gn E q) with
      | true =>
        have HW : Hid (firstI p E = q) := firstI_at p 0 E q (by have := HL.out; omega) HA.out hp
        rw [hp] at CF
        clear hp HP0
        go_wp2_with fail
        refine (CF.out _ (by repeat (first | exact Grows.refl _ | refine Grows.now ?_ _ | refine Grows.new ?_ _ | refine Grows.drewN ?_ _ | refine Grows.drew ?_ | assumption | (refine Grows.set ?_ (by first | omega | (simp; done) | (simp; omega)) _)))).mono ?_; rintro e w' ⟨rfl, hg⟩; obtain ⟨x1, rfl⟩ := Grows.later2 hg; clear hg
        go_wp2
        go_ret
        exact ⟨ret_int HW.out.symm, (by repeat (first | exact Grows.refl _ | refine Grows.now ?_ _ | refine Grows.new ?_ _ | refine Grows.drewN ?_ _ | refine Grows.drew ?_ | assumption | (refine Grows.set ?_ (by first | omega | (simp; done) | (simp; omega)) _)))⟩
      | false =>
        have HP := hide hp
        rw [hp] at CF
        clear hp HP0
        go_wp2_with fail
        refine (CF.out _ (by repeat (first | exact Grows.refl _ | refine Grows.now ?_ _ | refine Grows.new ?_ _ | refine Grows.drewN ?_ _ | refine Grows.drew ?_ | assumption | (refine Grows.set ?_ (by first | omega | (simp; done) | (simp; omega)) _)))).mono ?_; rintro e w' ⟨rfl, hg⟩; obtain ⟨x1, rfl⟩ := Grows.later2 hg; clear hg
        go_wp2
        go_roundw
        case measure => simp [Go.RowKit.intOf]; omega
        case rel =>
          refine ⟨q + 1, by omega, by go_num, ⟨_, rfl⟩, fun j h1 => ?_⟩
          by_cases hj : j = q
          · rw [hj]; exact HP.out
          · exact HA.out j (by omega)
set_option maxHeartbeats 1000000 in
theorem containsU (A : Option Addr) (n c : Nat) (E : List Nat) (k : FuncId) (cap : Array Value) (p : Nat → Bool) (w : World) (h : Rd w A 1 n (wv E)) (hn : n ≤ 1000000) (hk : ∀ args W, (callFunc k args).run Try.prog W = .ok (.enter k args) W)
    (hf : ∀ W, Grows w W → ∀ j, j < n → Calls Try.prog k (#[.int .u64 (gn E j : Int)] ++ cap) W fun x w' => x = .returned (.bool (p (gn E j))) ∧ Grows W w') :
    Calls Try.prog 87 #[.slice A n c, .func (.func k) #[] cap] w fun e w' => e = .returned (.bool (E.any p)) ∧ Grows w w' := by
  have HC := hide (indexU A n c E k cap p w h hn hk hf)
  have HV := hide (firstI_any p E)
  clear h hf hk
  go_enter Try.func87, Try.ntmps87
  go_wp2_with (first | (go_at_call 127; refine (HC.out).mono ?_; rintro e w' ⟨rfl, hg⟩; (first | obtain ⟨x, rfl⟩ := Grows.later2 hg | obtain ⟨x, rfl⟩ := Grows.later hg); clear hg))
  all_goals go_ret
  all_goals exact ⟨ret_bool (by rw [← HV.out]), (by repeat (first | exact Grows.refl _ | refine Grows.now ?_ _ | refine Grows.new ?_ _ | refine Grows.drewN ?_ _ | refine Grows.drew ?_ | assumption | (refine Grows.set ?_ (by first | omega | (simp; done) | (simp; omega)) _)))⟩
def penB (w : Nat) : Bool := decide (w < 1 ∨ 17592186044416 < w)
set_option maxHeartbeats 400000 in
theorem djCheck1 (x : Nat) (w : World) : Calls Try.prog 86 #[.int .u64 (x : Int)] w fun e w' => e = .returned (.bool (penB x)) ∧ Grows w w' := by
  go_enter Try.func86, Try.ntmps86
  go_wp2
  all_goals go_ret
  all_goals exact ⟨ret_bool (bool_ext (by unfold penB; simp; try omega)), (by repeat (first | exact Grows.refl _ | refine Grows.now ?_ _ | refine Grows.new ?_ _ | refine Grows.drewN ?_ _ | refine Grows.drew ?_ | assumption | (refine Grows.set ?_ (by first | omega | (simp; done) | (simp; omega)) _)))⟩
/-- Why there may be no search; 0: there may. -/
def dcF (N s : Int) (E : List Edg) (W : List Nat) : Int := if rightF N E ≠ 0 then 1 else if nodeB N s = false then 7 else if 0 < W.length ∧ W.length ≠ E.length then 1 else if W.any penB then 2 else 0
/-- What counts, as it stands in a call. -/
abbrev oVal (back : Bool) (nn ne : Value) (Aw : Option Addr) (nw cw most : Nat) : Value := .agg #[.bool back, nn, ne, .slice Aw nw cw, .int .u64 (most : Int)]
set_option maxRecDepth 20000 in
set_option maxHeartbeats 4000000 in
theorem djCheck (N s : Int) (A : Option Addr) (n c : Nat) (E : List Edg) (back : Bool) (nn ne : Value) (Aw : Option Addr) (nw cw most : Nat) (W : List Nat) (w : World) (h : Rd w A 3 n (esCells E)) (hW : Rd w Aw 1 nw (wv W)) (hn : n ≤ 1000000) (hnw : nw ≤ 1000000) :
    Calls Try.prog 35 #[.agg #[.int .i64 N, .slice A n c], .int .i64 s, oVal back nn ne Aw nw cw most] w fun e w' => e = .returned (.int .i64 (dcF N s E W)) ∧ Grows w w' := by
  unfold oVal
  have HL := hide h.elen
  have HLW := hide hW.wlen
  have C1 := hide (fun (W : World) (g : Grows w W) => gRight N A n c E W (h.grows g) hn)
  have K1 := fun args W => run_callGo (P := Try.prog) Try.func86 (by kernel_rfl) (by kernel_rfl) args W
  have C3 := hide (fun (W1 : World) (g : Grows w W1) => containsU Aw nw cw W 86 #[] penB W1 (hW.grows g) hnw K1 (fun W2 _ j _ => djCheck1 (gn W j) W2))
  clear h hW K1
  by_cases hr : rightF N E = 0
  · have C2 := hide (fun (W : World) => gNode N s (.slice A n c) W)
    rw [hr] at C1
    cases hb : nodeB N s with
    | false =>
      have HD := hide (show dcF N s E W = 7 from by unfold dcF; rw [hr, hb]; simp)
      rw [hb] at C2
      clear hb hr
      go_enter Try.func35, Try.ntmps35
      go_wp2_with fail
      refine (C1.out _ (by repeat (first | exact Grows.refl _ | refine Grows.now ?_ _ | refine Grows.new ?_ _ | refine Grows.drewN ?_ _ | refine Grows.drew ?_ | assumption | (refine Grows.set ?_ (by first | omega | (simp; done) | (simp; omega)) _)))).mono ?_; rintro e w' ⟨rfl, hg⟩; obtain ⟨x1, rfl⟩ := hg.later; clear hg
      go_wp2_with fail
      refine (C2.out _).mono ?_; rintro e w' ⟨rfl, hg⟩; obtain ⟨x2, rfl⟩ := Grows.later2 hg; clear hg
      go_wp2_with fail
      go_ret
      exact ⟨ret_int HD.out.symm, (by repeat (first | exact Grows.refl _ | refine Grows.now ?_ _ | refine Grows.new ?_ _ | refine Grows.drewN ?_ _ | refine Grows.drew ?_ | assumption | (refine Grows.set ?_ (by first | omega | (simp; done) | (simp; omega)) _)))⟩
    | true =>
      rw [hb] at C2
      by_cases hl : 0 < nw ∧ nw ≠ n
      · have HD := hide (show dcF N s E W = 1 from by unfold dcF; rw [hr, hb, HLW.out, HL.out, if_pos hl]; simp)
        obtain ⟨hl1, hl2⟩ := hl
        have hl3 : ((nw : Int) == (n : Int)) = false := beq_eq_false_iff_ne.2 (by omega)
        clear hb hr hl2
        go_enter Try.func35, Try.ntmps35
        go_wp2_with fail
        refine (C1.out _ (by repeat (first | exact Grows.refl _ | refine Grows.now ?_ _ | refine Grows.new ?_ _ | refine Grows.drewN ?_ _ | refine Grows.drew ?_ | assumption | (refine Grows.set ?_ (by first | omega | (simp; done) | (simp; omega)) _)))).mono ?_; rintro e w' ⟨rfl, hg⟩; obtain ⟨x1, rfl⟩ := hg.later; clear hg
        go_wp2_with fail
        refine (C2.out _).mono ?_; rintro e w' ⟨rfl, hg⟩; obtain ⟨x2, rfl⟩ := Grows.later2 hg; clear hg
        go_wp2_with fail
        go_ret
        exact ⟨ret_int HD.out.symm, (by repeat (first | exact Grows.refl _ | refine Grows.now ?_ _ | refine Grows.new ?_ _ | refine Grows.drewN ?_ _ | refine Grows.drew ?_ | assumption | (refine Grows.set ?_ (by first | omega | (simp; done) | (simp; omega)) _)))⟩
      · have HD := hide (show dcF N s E W = if W.any penB then 2 else 0 from by unfold dcF; rw [hr, hb, HLW.out, HL.out, if_neg hl]; simp)
        cases ha : W.any penB with
        | true =>
          rw [ha] at C3 HD
          clear ha hb hr
          by_cases hz : nw = 0
          · subst hz
            clear hl
            go_enter Try.func35, Try.ntmps35
            go_wp2_with fail
            refine (C1.out _ (by repeat (first | exact Grows.refl _ | refine Grows.now ?_ _ | refine Grows.new ?_ _ | refine Grows.drewN ?_ _ | refine Grows.drew ?_ | assumption | (refine Grows.set ?_ (by first | omega | (simp; done) | (simp; omega)) _)))).mono ?_; rintro e w' ⟨rfl, hg⟩; obtain ⟨x1, rfl⟩ := hg.later; clear hg
            go_wp2_with fail
            refine (C2.out _).mono ?_; rintro e w' ⟨rfl, hg⟩; obtain ⟨x2, rfl⟩ := Grows.later2 hg; clear hg
            go_wp2_with fail
            refine (C3.out _ (by repeat (first | exact Grows.refl _ | refine Grows.now ?_ _ | refine Grows.new ?_ _ | refine Grows.drewN ?_ _ | refine Grows.drew ?_ | assumption | (refine Grows.set ?_ (by first | omega | (simp; done) | (simp; omega)) _)))).mono ?_; rintro e w' ⟨rfl, hg⟩; obtain ⟨x3, rfl⟩ := Grows.later2 hg; clear hg
            go_wp2_with fail
            go_ret
            exact ⟨ret_int HD.out.symm, (by repeat (first | exact Grows.refl _ | refine Grows.now ?_ _ | refine Grows.new ?_ _ | refine Grows.drewN ?_ _ | refine Grows.drew ?_ | assumption | (refine Grows.set ?_ (by first | omega | (simp; done) | (simp; omega)) _)))⟩
          · obtain rfl : nw = n := by omega
            have hp : 0 < nw := by omega
            clear hl hz
            go_enter Try.func35, Try.ntmps35
            go_wp2_with fail
            refine (C1.out _ (by repeat (first | exact Grows.refl _ | refine Grows.now ?_ _ | refine Grows.new ?_ _ | refine Grows.drewN ?_ _ | refine Grows.drew ?_ | assumption | (refine Grows.set ?_ (by first | omega | (simp; done) | (simp; omega)) _)))).mono ?_; rintro e w' ⟨rfl, hg⟩; obtain ⟨x1, rfl⟩ := hg.later; clear hg
            go_wp2_with fail
            refine (C2.out _).mono ?_; rintro e w' ⟨rfl, hg⟩; obtain ⟨x2, rfl⟩ := Grows.later2 hg; clear hg
            go_wp2_with fail
            refine (C3.out _ (by repeat (first | exact Grows.refl _ | refine Grows.now ?_ _ | refine Grows.new ?_ _ | refine Grows.drewN ?_ _ | refine Grows.drew ?_ | assumption | (refine Grows.set ?_ (by first | omega | (simp; done) | (simp; omega)) _)))).mono ?_; rintro e w' ⟨rfl, hg⟩; obtain ⟨x3, rfl⟩ := Grows.later2 hg; clear hg
            go_wp2_with fail
            go_ret
            exact ⟨ret_int HD.out.symm, (by repeat (first | exact Grows.refl _ | refine Grows.now ?_ _ | refine Grows.new ?_ _ | refine Grows.drewN ?_ _ | refine Grows.drew ?_ | assumption | (refine Grows.set ?_ (by first | omega | (simp; done) | (simp; omega)) _)))⟩
        | false =>
          rw [ha] at C3 HD
          clear ha hb hr
          by_cases hz : nw = 0
          · subst hz
            clear hl
            go_enter Try.func35, Try.ntmps35
            go_wp2_with fail
            refine (C1.out _ (by repeat (first | exact Grows.refl _ | refine Grows.now ?_ _ | refine Grows.new ?_ _ | refine Grows.drewN ?_ _ | refine Grows.drew ?_ | assumption | (refine Grows.set ?_ (by first | omega | (simp; done) | (simp; omega)) _)))).mono ?_; rintro e w' ⟨rfl, hg⟩; obtain ⟨x1, rfl⟩ := hg.later; clear hg
            go_wp2_with fail
            refine (C2.out _).mono ?_; rintro e w' ⟨rfl, hg⟩; obtain ⟨x2, rfl⟩ := Grows.later2 hg; clear hg
            go_wp2_with fail
            refine (C3.out _ (by repeat (first | exact Grows.refl _ | refine Grows.now ?_ _ | refine Grows.new ?_ _ | refine Grows.drewN ?_ _ | refine Grows.drew ?_ | assumption | (refine Grows.set ?_ (by first | omega | (simp; done) | (simp; omega)) _)))).mono ?_; rintro e w' ⟨rfl, hg⟩; obtain ⟨x3, rfl⟩ := Grows.later2 hg; clear hg
            go_wp2_with fail
            go_ret
            exact ⟨ret_int HD.out.symm, (by repeat (first | exact Grows.refl _ | refine Grows.now ?_ _ | refine Grows.new ?_ _ | refine Grows.drewN ?_ _ | refine Grows.drew ?_ | assumption | (refine Grows.set ?_ (by first | omega | (simp; done) | (simp; omega)) _)))⟩
          · obtain rfl : nw = n := by omega
            have hp : 0 < nw := by omega
            clear hl hz
            go_enter Try.func35, Try.ntmps35
            go_wp2_with fail
            refine (C1.out _ (by repeat (first | exact Grows.refl _ | refine Grows.now ?_ _ | refine Grows.new ?_ _ | refine Grows.drewN ?_ _ | refine Grows.drew ?_ | assumption | (refine Grows.set ?_ (by first | omega | (simp; done) | (simp; omega)) _)))).mono ?_; rintro e w' ⟨rfl, hg⟩; obtain ⟨x1, rfl⟩ := hg.later; clear hg
            go_wp2_with fail
            refine (C2.out _).mono ?_; rintro e w' ⟨rfl, hg⟩; obtain ⟨x2, rfl⟩ := Grows.later2 hg; clear hg
            go_wp2_with fail
            refine (C3.out _ (by repeat (first | exact Grows.refl _ | refine Grows.now ?_ _ | refine Grows.new ?_ _ | refine Grows.drewN ?_ _ | refine Grows.drew ?_ | assumption | (refine Grows.set ?_ (by first | omega | (simp; done) | (simp; omega)) _)))).mono ?_; rintro e w' ⟨rfl, hg⟩; obtain ⟨x3, rfl⟩ := Grows.later2 hg; clear hg
            go_wp2_with fail
            go_ret
            exact ⟨ret_int HD.out.symm, (by repeat (first | exact Grows.refl _ | refine Grows.now ?_ _ | refine Grows.new ?_ _ | refine Grows.drewN ?_ _ | refine Grows.drew ?_ | assumption | (refine Grows.set ?_ (by first | omega | (simp; done) | (simp; omega)) _)))⟩
  · have hr2 : (rightF N E == 0) = false := beq_eq_false_iff_ne.2 hr
    have HD := hide (show dcF N s E W = 1 from by unfold dcF; rw [if_pos hr])
    clear hr
    generalize rightF N E = r at *
    go_enter Try.func35, Try.ntmps35
    go_wp2_with fail
    refine (C1.out _ (by repeat (first | exact Grows.refl _ | refine Grows.now ?_ _ | refine Grows.new ?_ _ | refine Grows.drewN ?_ _ | refine Grows.drew ?_ | assumption | (refine Grows.set ?_ (by first | omega | (simp; done) | (simp; omega)) _)))).mono ?_; rintro e w' ⟨rfl, hg⟩; obtain ⟨x1, rfl⟩ := hg.later; clear hg
    go_wp2_with fail
    go_ret
    exact ⟨ret_int HD.out.symm, (by repeat (first | exact Grows.refl _ | refine Grows.now ?_ _ | refine Grows.new ?_ _ | refine Grows.drewN ?_ _ | refine Grows.drew ?_ | assumption | (refine Grows.set ?_ (by first | omega | (simp; done) | (simp; omega)) _)))⟩
set_option maxRecDepth 20000 in
set_option maxHeartbeats 4000000 in
theorem r14Check (N s : Int) (A : Option Addr) (n c : Nat) (E : List Edg) (back : Bool) (nn ne : Value) (Aw : Option Addr) (nw cw most : Nat) (W : List Nat) (w : World) (h : Rd w A 3 n (esCells E)) (hW : Rd w Aw 1 nw (wv W)) (hn : n ≤ 1000000) (hnw : nw ≤ 1000000) :
    Calls Try.prog 27 #[.agg #[.int .i64 N, .slice A n c], .int .i64 s, oVal back nn ne Aw nw cw most] w fun e w' => e = .returned (.int .i64 (dcF N s E W)) ∧ Grows w w' := by
  unfold oVal
  have HL := hide h.elen
  have HLW := hide hW.wlen
  have HRW := hide hW
  have C1 := hide (fun (W : World) (g : Grows w W) => r5Right N A n c E W (h.grows g) hn)
  clear h hW
  by_cases hr : rightF N E = 0
  · rw [hr] at C1
    cases hb : nodeB N s with
    | false =>
      have HD := hide (show dcF N s E W = 7 from by unfold dcF; rw [hr, hb]; simp)
      unfold nodeB at hb
      have hb1 := of_decide_eq_false hb
      clear hb hr
      by_cases hb3 : s < 0
      · clear hb1
        go_enter Try.func27, Try.ntmps27
        go_wp2_with (go_at_call 74; refine (C1.out _ (by repeat (first | exact Grows.refl _ | refine Grows.now ?_ _ | refine Grows.new ?_ _ | refine Grows.drewN ?_ _ | refine Grows.drew ?_ | assumption | (refine Grows.set ?_ (by first | omega | (simp; done) | (simp; omega)) _)))).mono ?_; rintro e w' ⟨rfl, hg⟩; obtain ⟨x1, rfl⟩ := hg.later; clear hg)
        go_ret
        exact ⟨ret_int HD.out.symm, (by repeat (first | exact Grows.refl _ | refine Grows.now ?_ _ | refine Grows.new ?_ _ | refine Grows.drewN ?_ _ | refine Grows.drew ?_ | assumption | (refine Grows.set ?_ (by first | omega | (simp; done) | (simp; omega)) _)))⟩
      · have hb2 : N ≤ s := by omega
        clear hb1
        go_enter Try.func27, Try.ntmps27
        go_wp2_with (go_at_call 74; refine (C1.out _ (by repeat (first | exact Grows.refl _ | refine Grows.now ?_ _ | refine Grows.new ?_ _ | refine Grows.drewN ?_ _ | refine Grows.drew ?_ | assumption | (refine Grows.set ?_ (by first | omega | (simp; done) | (simp; omega)) _)))).mono ?_; rintro e w' ⟨rfl, hg⟩; obtain ⟨x1, rfl⟩ := hg.later; clear hg)
        go_ret
        exact ⟨ret_int HD.out.symm, (by repeat (first | exact Grows.refl _ | refine Grows.now ?_ _ | refine Grows.new ?_ _ | refine Grows.drewN ?_ _ | refine Grows.drew ?_ | assumption | (refine Grows.set ?_ (by first | omega | (simp; done) | (simp; omega)) _)))⟩
    | true =>
      have hb1 := hb
      unfold nodeB at hb1
      obtain ⟨hb2, hb3⟩ := of_decide_eq_true hb1
      clear hb1
      by_cases hz : nw = 0
      · have HD := hide (show dcF N s E W = 0 from by
          have : W = [] := List.eq_nil_of_length_eq_zero (by rw [HLW.out, hz])
          unfold dcF; rw [hr, hb, this]; simp)
        subst hz
        clear hb hr
        go_enter Try.func27, Try.ntmps27
        go_wp2_with (go_at_call 74; refine (C1.out _ (by repeat (first | exact Grows.refl _ | refine Grows.now ?_ _ | refine Grows.new ?_ _ | refine Grows.drewN ?_ _ | refine Grows.drew ?_ | assumption | (refine Grows.set ?_ (by first | omega | (simp; done) | (simp; omega)) _)))).mono ?_; rintro e w' ⟨rfl, hg⟩; obtain ⟨x1, rfl⟩ := hg.later; clear hg)
        go_ret
        exact ⟨ret_int HD.out.symm, (by repeat (first | exact Grows.refl _ | refine Grows.now ?_ _ | refine Grows.new ?_ _ | refine Grows.drewN ?_ _ | refine Grows.drew ?_ | assumption | (refine Grows.set ?_ (by first | omega | (simp; done) | (simp; omega)) _)))⟩
      have hz2 : ((nw : Int) == 0) = false := beq_eq_false_iff_ne.2 (by omega)
      by_cases hl : nw = n
      · have HD := hide (show ∀ x : Int, (if W.any penB then 2 else 0) = x → dcF N s E W = x from fun x hx => by unfold dcF; rw [if_neg (show ¬ rightF N E ≠ 0 by omega), if_neg (by simp [hb]), HLW.out, HL.out, if_neg (by omega)]; exact hx)
        subst hl
        clear hb hr hz
        go_enter Try.func27, Try.ntmps27
        go_wp2_with (go_at_call 74; refine (C1.out _ (by repeat (first | exact Grows.refl _ | refine Grows.now ?_ _ | refine Grows.new ?_ _ | refine Grows.drewN ?_ _ | refine Grows.drew ?_ | assumption | (refine Grows.set ?_ (by first | omega | (simp; done) | (simp; omega)) _)))).mono ?_; rintro e w' ⟨rfl, hg⟩; obtain ⟨x1, rfl⟩ := hg.later; clear hg)
        go_loopw [7] (fun i wr => ∃ k : Nat, k ≤ nw ∧ i = .int .i64 (k : Int) ∧ (∃ y : Later x1.now, wr = y.now) ∧ ∀ j, j < k → penB (gn W j) = false) (fun i _ => nw - (Go.RowKit.intOf i).toNat)
        case atStart => exact ⟨0, by omega, by go_num, ⟨⟨_, Grows.refl _⟩, rfl⟩, fun j h1 => by omega⟩
        case round =>
          obtain ⟨q, hq, rfl, ⟨y, rfl⟩, hall⟩ := hrel
          have HA := hide hall
          clear hall
          by_cases hend : nw ≤ q
          · go_wp2
            go_ret
            refine ⟨ret_int (HD.out 0 ?_).symm, (by repeat (first | exact Grows.refl _ | refine Grows.now ?_ _ | refine Grows.new ?_ _ | refine Grows.drewN ?_ _ | refine Grows.drew ?_ | assumption | (refine Grows.set ?_ (by first | omega | (simp; done) | (simp; omega)) _)))⟩
            have hl := HLW.out
            have : W.any penB = false := by
              rw [List.any_eq_false]
              intro e he
              obtain ⟨j, hj, rfl⟩ := List.mem_iff_getElem.1 he
              have := HA.out j (by omega)
              simpa [gn, hj] using this
            rw [this]; rfl
          · obtain ⟨_, b, off, rfl, hc⟩ := HRW.out.wordsH (by omega)
            have hc1 := hc q (by omega)
            clear hc
            obtain ⟨u, hu⟩ : ∃ u, gn W q = u := ⟨_, rfl⟩
            rw [hu] at hc1
            have HU := hide hu
            clear hu
            by_cases hp : u < 1 ∨ 17592186044416 < u
            · have HB : Hid (W.any penB = true) := by
                refine List.any_eq_true.2 ⟨gn W q, ?_, ?_⟩
                · have : q < W.length := by rw [HLW.out]; omega
                  unfold gn; rw [List.getD_eq_getElem?_getD, List.getElem?_eq_getElem this]; exact List.getElem_mem this
                · rw [HU.out]; unfold penB; exact decide_eq_true hp
              rcases hp with hp | hp
              · go_wp2
                go_ret
                exact ⟨ret_int (HD.out 2 (by rw [HB.out]; rfl)).symm, (by repeat (first | exact Grows.refl _ | refine Grows.now ?_ _ | refine Grows.new ?_ _ | refine Grows.drewN ?_ _ | refine Grows.drew ?_ | assumption | (refine Grows.set ?_ (by first | omega | (simp; done) | (simp; omega)) _)))⟩
              · have hp1 : ¬ u < 1 := by omega
                go_wp2
                go_ret
                exact ⟨ret_int (HD.out 2 (by rw [HB.out]; rfl)).symm, (by repeat (first | exact Grows.refl _ | refine Grows.now ?_ _ | refine Grows.new ?_ _ | refine Grows.drewN ?_ _ | refine Grows.drew ?_ | assumption | (refine Grows.set ?_ (by first | omega | (simp; done) | (simp; omega)) _)))⟩
            · have hp1 : ¬ u < 1 := by omega
              have hp2 : ¬ 17592186044416 < u := by omega
              have HB : Hid (penB u = false) := decide_eq_false hp
              clear hp
              go_wp2
              go_roundw
              case measure => simp [Go.RowKit.intOf]; omega
              case rel =>
                refine ⟨q + 1, by omega, by go_num, ⟨_, rfl⟩, fun j h1 => ?_⟩
                by_cases hj : j = q
                · rw [hj, HU.out]; exact HB.out
                · exact HA.out j (by omega)
      · have HD := hide (show dcF N s E W = 1 from by unfold dcF; rw [if_neg (show ¬ rightF N E ≠ 0 by omega), if_neg (by simp [hb]), HLW.out, HL.out, if_pos ⟨by omega, hl⟩])
        have hl3 : ((nw : Int) == (n : Int)) = false := beq_eq_false_iff_ne.2 (by omega)
        clear hb hr hl hz
        go_enter Try.func27, Try.ntmps27
        go_wp2_with (go_at_call 74; refine (C1.out _ (by repeat (first | exact Grows.refl _ | refine Grows.now ?_ _ | refine Grows.new ?_ _ | refine Grows.drewN ?_ _ | refine Grows.drew ?_ | assumption | (refine Grows.set ?_ (by first | omega | (simp; done) | (simp; omega)) _)))).mono ?_; rintro e w' ⟨rfl, hg⟩; obtain ⟨x1, rfl⟩ := hg.later; clear hg)
        go_ret
        exact ⟨ret_int HD.out.symm, (by repeat (first | exact Grows.refl _ | refine Grows.now ?_ _ | refine Grows.new ?_ _ | refine Grows.drewN ?_ _ | refine Grows.drew ?_ | assumption | (refine Grows.set ?_ (by first | omega | (simp; done) | (simp; omega)) _)))⟩
  · have hr2 : (rightF N E == 0) = false := beq_eq_false_iff_ne.2 hr
    have HD := hide (show dcF N s E W = 1 from by unfold dcF; rw [if_pos hr])
    clear hr
    generalize rightF N E = r at *
    go_enter Try.func27, Try.ntmps27
    go_wp2_with (go_at_call 74; refine (C1.out _ (by repeat (first | exact Grows.refl _ | refine Grows.now ?_ _ | refine Grows.new ?_ _ | refine Grows.drewN ?_ _ | refine Grows.drew ?_ | assumption | (refine Grows.set ?_ (by first | omega | (simp; done) | (simp; omega)) _)))).mono ?_; rintro e w' ⟨rfl, hg⟩; obtain ⟨x1, rfl⟩ := hg.later; clear hg)
    go_ret
    exact ⟨ret_int HD.out.symm, (by repeat (first | exact Grows.refl _ | refine Grows.now ?_ _ | refine Grows.new ?_ _ | refine Grows.drewN ?_ _ | refine Grows.drew ?_ | assumption | (refine Grows.set ?_ (by first | omega | (simp; done) | (simp; omega)) _)))⟩
end Go.Proofs.Ytpnncadglhlclaa
