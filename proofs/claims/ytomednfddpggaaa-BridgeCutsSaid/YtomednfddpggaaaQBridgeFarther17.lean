/- Contracts: what may be searched, and the weights that count, by the program and by its answer. -/
import Derived.Test.YtomednfddpggaaaQBridgeFarther07
import Derived.Test.YtomednfddpggaaaQBridgeFarther02
import Derived.Test.YtomednfddpggaaaQBridgeFarther01
import Derived.Test.YtomednfddpggaaaQBridgeFarther05
import Derived.Test.YtomednfddpggaaaQBridgeFarther15
import Derived.Test.YtomednfddpggaaaQBridgeFarther16
/- Contracts: what may be searched, and the weights that count, by the program and by its answer. -/
namespace Go.Proofs.Ytomednfddpggaaa
open Go Go.RowKit
theorem Rd.wordsH {w : World} {A : Option Addr} {n : Nat} {W : List Nat} (h : Rd w A 1 n (wv W)) (hn : 0 < n) : W.length = n ∧ ∃ b off, A = some ⟨b, off, none⟩ ∧ ∀ k, k < n → Holds w ⟨b, off + k, none⟩ (.int .u64 (gn W k : Int)) := by
  have hl : W.length = n := by have := h.len; rw [wv_len] at this; omega
  obtain ⟨b, off, e, hc⟩ := h.at_ hn
  exact ⟨hl, b, off, e, fun k hk => ⟨hc k _ (wv_at (by omega))⟩⟩
theorem Rd.wlen {w : World} {A : Option Addr} {n : Nat} {W : List Nat} (h : Rd w A 1 n (wv W)) : W.length = n := by have := h.len; rw [wv_len] at this; omega
theorem wv_one (W : List Nat) : ∀ u ∈ wv W, u.oneCell' = true := by
  intro u hu
  unfold wv at hu
  obtain ⟨x, _, rfl⟩ := List.mem_map.1 hu
  rfl
set_option maxRecDepth 20000 in
set_option maxHeartbeats 1000000 in
theorem indexU (A : Option Addr) (n c : Nat) (E : List Nat) (k : FuncId) (cap : Array Value) (p : Nat → Bool) (w : World) (h : Rd w A 1 n (wv E)) (hn : n ≤ 1000000) (hk : ∀ args W, (callFunc k args).run Try.prog W = .ok (.enter k args) W)
    (hf : ∀ W, Grows w W → ∀ j, j < n → Calls Try.prog k (#[.int .u64 (gn E j : Int)] ++ cap) W fun x w' => x = .returned (.bool (p (gn E j))) ∧ Grows W w') :
    Calls Try.prog 114 #[.slice A n c, .func (.func k) #[] cap] w fun e w' => e = .returned (.int .i64 (firstI p E)) ∧ Grows w w' := by
  have HL := hide h.wlen
  have HR := hide h
  have HF := hide hf
  clear h hf
  go_enter Try.func114, Try.ntmps114
  go_wp2
  go_loopw [8] (fun i wr => ∃ k : Nat, k ≤ n ∧ i = .int .i64 (k : Int) ∧ (∃ x : Later w, wr = x.now) ∧ ∀ j, j < k → p (gn E j) = false) (fun i _ => n - (Go.RowKit.intOf i).toNat)
  case atStart => exact ⟨0, by omega, by go_num, ⟨⟨w, Grows.refl w⟩, rfl⟩, fun j h1 => by omega⟩
  case round =>
    obtain ⟨q, hq, rfl, ⟨x, rfl⟩, hall⟩ := hrel
    have HA := hide hall
    clear hall
    by_cases hend : n ≤ q
    · go_wp2
      go_ret
      refine ⟨ret_int ?_, (by repeat (first | exact Grows.refl _ | refine Grows.now ?_ _ | refine Grows.new ?_ _ | refine Grows.drewN ?_ _ | refine Grows.drew ?_ | assumption | (refine Grows.set ?_ (by first | omega | (simp; done) | (simp; omega)) _)))⟩
      have hl := HL.out
      have hh := HA.out
      rw [firstI_none]
      intro e he
      obtain ⟨j, hj, rfl⟩ := List.mem_iff_getElem.1 he
      have := hh j (by omega)
      simpa [gn, hj] using this
    · obtain ⟨_, b, off, rfl, hc⟩ := HR.out.wordsH (by omega)
      have hc1 := hc q (by omega)
      clear hc
      have CF := hide (fun (W : World) (g : Grows w W) => HF.out W g q (by omega))
      have HP0 : Hid (∀ (p' : Bool), p (gn E q) = p' → p (E.getD q 0) = p') := fun p' h => h
      cases hp : p (gn E q) with
      | true =>
        have HW : Hid (firstI p E = q) := firstI_at p 0 E q (by have := HL.out; omega) HA.out hp
        rw [hp] at CF
        clear hp HP0
        go_wp2_with fail
        refine (CF.out _ (by repeat (first | exact Grows.refl _ | refine Grows.now ?_ _ | refine Grows.new ?_ _ | refine Grows.drewN ?_ _ | refine Grows.drew ?_ | assumption | (refine Grows.set ?_ (by first | omega | (simp; done) | (simp; omega)) _)))).mono ?_; rintro e w' ⟨rfl, hg⟩; obtain ⟨x1, rfl⟩ := Grows.later2 hg; clear hg
        go_wp2
        go_ret
        exact ⟨ret_int HW.out.symm, (by repeat (first | exact Grows.refl _ | refine Grows.now ?_ _ | refine Grows.new ?_ _ | refine Grows.drewN ?_ _ | refine Grows.drew ?_ | assumption | (refine Grows.set ?_ (by first | omega | (simp; done) | (simp; omega)) _)))⟩
      | false =>
        have HP := hide hp
        rw [hp] at CF
        clear hp HP0
        go_wp2_with fail
        refine (CF.out _ (by repeat (first | exact Grows.refl _ | refine Grows.now ?_ _ | refine Grows.new ?_ _ | refine Grows.drewN ?_ _ | refine Grows.drew ?_ | assumption | (refine Grows.set ?_ (by first | omega | (simp; done) | (simp; omega)) _)))).mono ?_; rintro e w' ⟨rfl, hg⟩; obtain ⟨x1, rfl⟩ := Grows.later2 hg; clear hg
        go_wp2
        go_roundw
        case measure => simp [Go.RowKit.intOf]; omega
        case rel =>
          refine ⟨q + 1, by omega, by go_num, ⟨_, rfl⟩, fun j h1 => ?_⟩
          by_cases hj : j = q
          · rw [hj]; exact HP.out
          · exact HA.out j (by omega)
set_option maxHeartbeats 1000000 in
theorem containsU (A : Option Addr) (n c : Nat) (E : List Nat) (k : FuncId) (cap : Array Value) (p : Nat → Bool) (w : World) (h : Rd w A 1 n (wv E)) (hn : n ≤ 1000000) (hk : ∀ args W, (callFunc k args).run Try.prog W = .ok (.enter k args) W)
    (hf : ∀ W, Grows w W → ∀ j, j < n → Calls Try.prog k (#[.int .u64 (gn E j : Int)] ++ cap) W fun x w' => x = .returned (.bool (p (gn E j))) ∧ Grows W w') :
    Calls Try.prog 79 #[.slice A n c, .func (.func k) #[] cap] w fun e w' => e = .returned (.bool (E.any p)) ∧ Grows w w' := by
  have HC := hide (indexU A n c E k cap p w h hn hk hf)
  have HV := hide (firstI_any p E)
  clear h hf hk
  go_enter Try.func79, Try.ntmps79
  go_wp2_with (first | (go_at_call 114; refine (HC.out).mono ?_; rintro e w' ⟨rfl, hg⟩; (first | obtain ⟨x, rfl⟩ := Grows.later2 hg | obtain ⟨x, rfl⟩ := Grows.later hg); clear hg))
  all_goals go_ret
  all_goals exact ⟨ret_bool (by rw [← HV.out]), (by repeat (first | exact Grows.refl _ | refine Grows.now ?_ _ | refine Grows.new ?_ _ | refine Grows.drewN ?_ _ | refine Grows.drew ?_ | assumption | (refine Grows.set ?_ (by first | omega | (simp; done) | (simp; omega)) _)))⟩
def penB (w : Nat) : Bool := decide (w < 1 ∨ 17592186044416 < w)
set_option maxHeartbeats 400000 in
theorem djCheck1 (x : Nat) (w : World) : Calls Try.prog 78 #[.int .u64 (x : Int)] w fun e w' => e = .returned (.bool (penB x)) ∧ Grows w w' := by
  go_enter Try.func78, Try.ntmps78
  go_wp2
  all_goals go_ret
  all_goals exact ⟨ret_bool (bool_ext (by unfold penB; simp; try omega)), (by repeat (first | exact Grows.refl _ | refine Grows.now ?_ _ | refine Grows.new ?_ _ | refine Grows.drewN ?_ _ | refine Grows.drew ?_ | assumption | (refine Grows.set ?_ (by first | omega | (simp; done) | (simp; omega)) _)))⟩
/-- Why there may be no search; 0: there may. -/
def dcF (N s : Int) (E : List Edg) (W : List Nat) : Int := if rightF N E ≠ 0 then 1 else if nodeB N s = false then 7 else if 0 < W.length ∧ W.length ≠ E.length then 1 else if W.any penB then 2 else 0
/-- What counts, as it stands in a call. -/
abbrev oVal (back : Bool) (nn ne : Value) (Aw : Option Addr) (nw cw most : Nat) : Value := .agg #[.bool back, nn, ne, .slice Aw nw cw, .int .u64 (most : Int)]
set_option maxRecDepth 20000 in
set_option maxHeartbeats 4000000 in
theorem djCheck (N s : Int) (A : Option Addr) (n c : Nat) (E : List Edg) (back : Bool) (nn ne : Value) (Aw : Option Addr) (nw cw most : Nat) (W : List Nat) (w : World) (h : Rd w A 3 n (esCells E)) (hW : Rd w Aw 1 nw (wv W)) (hn : n ≤ 1000000) (hnw : nw ≤ 1000000) :
    Calls Try.prog 40 #[.agg #[.int .i64 N, .slice A n c], .int .i64 s, oVal back nn ne Aw nw cw most] w fun e w' => e = .returned (.int .i64 (dcF N s E W)) ∧ Grows w w' := by
  unfold oVal
  have HL := hide h.elen
  have HLW := hide hW.wlen
  have C1 := hide (fun (W : World) (g : Grows w W) => gRight N A n c E W (h.grows g) hn)
  have K1 := fun args W => run_callGo (P := Try.prog) Try.func78 (by kernel_rfl) (by kernel_rfl) args W
  have C3 := hide (fun (W1 : World) (g : Grows w W1) => containsU Aw nw cw W 78 #[] penB W1 (hW.grows g) hnw K1 (fun W2 _ j _ => djCheck1 (gn W j) W2))
  clear h hW K1
  by_cases hr : rightF N E = 0
  · have C2 := hide (fun (W : World) => gNode N s (.slice A n c) W)
    rw [hr] at C1
    cases hb : nodeB N s with
    | false =>
      have HD := hide (show dcF N s E W = 7 from by unfold dcF; rw [hr, hb]; simp)
      rw [hb] at C2
      clear hb hr
      go_enter Try.func40, Try.ntmps40
      go_wp2_with fail
      refine (C1.out _ (by repeat (first | exact Grows.refl _ | refine Grows.now ?_ _ | refine Grows.new ?_ _ | refine Grows.drewN ?_ _ | refine Grows.drew ?_ | assumption | (refine Grows.set ?_ (by first | omega | (simp; done) | (simp; omega)) _)))).mono ?_; rintro e w' ⟨rfl, hg⟩; obtain ⟨x1, rfl⟩ := hg.later; clear hg
      go_wp2_with fail
      refine (C2.out _).mono ?_; rintro e w' ⟨rfl, hg⟩; obtain ⟨x2, rfl⟩ := Grows.later2 hg; clear hg
      go_wp2_with fail
      go_ret
      exact ⟨ret_int HD.out.symm, (by repeat (first | exact Grows.refl _ | refine Grows.now ?_ _ | refine Grows.new ?_ _ | refine Grows.drewN ?_ _ | refine Grows.drew ?_ | assumption | (refine Grows.set ?_ (by first | omega | (simp; done) | (simp; omega)) _)))⟩
    | true =>
      rw [hb] at C2
      by_cases hl : 0 < nw ∧ nw ≠ n
      · have HD := hide (show dcF N s E W = 1 from by unfold dcF; rw [hr, hb, HLW.out, HL.out, if_pos hl]; simp)
        obtain ⟨hl1, hl2⟩ := hl
        have hl3 : ((nw : Int) == (n : Int)) = false := beq_eq_false_iff_ne.2 (by omega)
        clear hb hr hl2
        go_enter Try.func40, Try.ntmps40
        go_wp2_with fail
        refine (C1.out _ (by repeat (first | exact Grows.refl _ | refine Grows.now ?_ _ | refine Grows.new ?_ _ | refine Grows.drewN ?_ _ | refine Grows.drew ?_ | assumption | (refine Grows.set ?_ (by first | omega | (simp; done) | (simp; omega)) _)))).mono ?_; rintro e w' ⟨rfl, hg⟩; obtain ⟨x1, rfl⟩ := hg.later; clear hg
        go_wp2_with fail
        refine (C2.out _).mono ?_; rintro e w' ⟨rfl, hg⟩; obtain ⟨x2, rfl⟩ := Grows.later2 hg; clear hg
        go_wp2_with fail
        go_ret
        exact ⟨ret_int HD.out.symm, (by repeat (first | exact Grows.refl _ | refine Grows.now ?_ _ | refine Grows.new ?_ _ | refine Grows.drewN ?_ _ | refine Grows.drew ?_ | assumption | (refine Grows.set ?_ (by first | omega | (simp; done) | (simp; omega)) _)))⟩
      · have HD := hide (show dcF N s E W = if W.any penB then 2 else 0 from by unfold dcF; rw [hr, hb, HLW.out, HL.out, if_neg hl]; simp)
        cases ha : W.any penB with
        | true =>
          rw [ha] at C3 HD
          clear ha hb hr
          by_cases hz : nw = 0
          · subst hz
            clear hl
            go_enter Try.func40, Try.ntmps40
            go_wp2_with fail
            refine (C1.out _ (by repeat (first | exact Grows.refl _ | refine Grows.now ?_ _ | refine Grows.new ?_ _ | refine Grows.drewN ?_ _ | refine Grows.drew ?_ | assumption | (refine Grows.set ?_ (by first | omega | (simp; done) | (simp; omega)) _)))).mono ?_; rintro e w' ⟨rfl, hg⟩; obtain ⟨x1, rfl⟩ := hg.later; clear hg
            go_wp2_with fail
            refine (C2.out _).mono ?_; rintro e w' ⟨rfl, hg⟩; obtain ⟨x2, rfl⟩ := Grows.later2 hg; clear hg
            go_wp2_with fail
            refine (C3.out _ (by repeat (first | exact Grows.refl _ | refine Grows.now ?_ _ | refine Grows.new ?_ _ | refine Grows.drewN ?_ _ | refine Grows.drew ?_ | assumption | (refine Grows.set ?_ (by first | omega | (simp; done) | (simp; omega)) _)))).mono ?_; rintro e w' ⟨rfl, hg⟩; obtain ⟨x3, rfl⟩ := Grows.later2 hg; clear hg
            go_wp2_with fail
            go_ret
            exact ⟨ret_int HD.out.symm, (by repeat (first | exact Grows.refl _ | refine Grows.now ?_ _ | refine Grows.new ?_ _ | refine Grows.drewN ?_ _ | refine Grows.drew ?_ | assumption | (refine Grows.set ?_ (by first | omega | (simp; done) | (simp; omega)) _)))⟩
          · obtain rfl : nw = n := by omega
            have hp : 0 < nw := by omega
            clear hl hz
            go_enter Try.func40, Try.ntmps40
            go_wp2_with fail
            refine (C1.out _ (by repeat (first | exact Grows.refl _ | refine Grows.now ?_ _ | refine Grows.new ?_ _ | refine Grows.drewN ?_ _ | refine Grows.drew ?_ | assumption | (refine Grows.set ?_ (by first | omega | (simp; done) | (simp; omega)) _)))).mono ?_; rintro e w' ⟨rfl, hg⟩; obtain ⟨x1, rfl⟩ := hg.later; clear hg
            go_wp2_with fail
            refine (C2.out _).mono ?_; rintro e w' ⟨rfl, hg⟩; obtain ⟨x2, rfl⟩ := Grows.later2 hg; clear hg
            go_wp2_with fail
            refine (C3.out _ (by repeat (first | exact Grows.refl _ | refine Grows.now ?_ _ | refine Grows.new ?_ _ | refine Grows.drewN ?_ _ | refine Grows.drew ?_ | assumption | (refine Grows.set ?_ (by first | omega | (simp; done) | (simp; omega)) _)))).mono ?_; rintro e w' ⟨rfl, hg⟩; obtain ⟨x3, rfl⟩ := Grows.later2 hg; clear hg
            go_wp2_with fail
            go_ret
            exact ⟨ret_int HD.out.symm, (by repeat (first | exact Grows.refl _ | refine Grows.now ?_ _ | refine Grows.new ?_ _ | refine Grows.drewN ?_ _ | refine Grows.drew ?_ | assumption | (refine Grows.set ?_ (by first | omega | (simp; done) | (simp; omega)) _)))⟩
        | false =>
          rw [ha] at C3 HD
          clear ha hb hr
          by_cases hz : nw = 0
          · subst hz
            clear hl
            go_enter Try.func40, Try.ntmps40
            go_wp2_with fail
            refine (C1.out _ (by repeat (first | exact Grows.refl _ | refine Grows.now ?_ _ | refine Grows.new ?_ _ | refine Grows.drewN ?_ _ | refine Grows.drew ?_ | assumption | (refine Grows.set ?_ (by first | omega | (simp; done) | (simp; omega)) _)))).mono ?_; rintro e w' ⟨rfl, hg⟩; obtain ⟨x1, rfl⟩ := hg.later; clear hg
            go_wp2_with fail
            refine (C2.out _).mono ?_; rintro e w' ⟨rfl, hg⟩; obtain ⟨x2, rfl⟩ := Grows.later2 hg; clear hg
            go_wp2_with fail
            refine (C3.out _ (by repeat (first | exact Grows.refl _ | refine Grows.now ?_ _ | refine Grows.new ?_ _ | refine Grows.drewN ?_ _ | refine Grows.drew ?_ | assumption | (refine Grows.set ?_ (by first | omega | (simp; done) | (simp; omega)) _)))).mono ?_; rintro e w' ⟨rfl, hg⟩; obtain ⟨x3, rfl⟩ := Grows.later2 hg; clear hg
            go_wp2_with fail
            go_ret
            exact ⟨ret_int HD.out.symm, (by repeat (first | exact Grows.refl _ | refine Grows.now ?_ _ | refine Grows.new ?_ _ | refine Grows.drewN ?_ _ | refine Grows.drew ?_ | assumption | (refine Grows.set ?_ (by first | omega | (simp; done) | (simp; omega)) _)))⟩
          · obtain rfl : nw = n := by omega
            have hp : 0 < nw := by omega
            clear hl hz
            go_enter Try.func40, Try.ntmps40
            go_wp2_with fail
            refine (C1.out _ (by repeat (first | exact Grows.refl _ | refine Grows.now ?_ _ | refine Grows.new ?_ _ | refine Grows.drewN ?_ _ | refine Grows.drew ?_ | assumption | (refine Grows.set ?_ (by first | omega | (simp; done) | (simp; omega)) _)))).mono ?_; rintro e w' ⟨rfl, hg⟩; obtain ⟨x1, rfl⟩ := hg.later; clear hg
            go_wp2_with fail
            refine (C2.out _).mono ?_; rintro e w' ⟨rfl, hg⟩; obtain ⟨x2, rfl⟩ := Grows.later2 hg; clear hg
            go_wp2_with fail
            refine (C3.out _ (by repeat (first | exact Grows.refl _ | refine Grows.now ?_ _ | refine Grows.new ?_ _ | refine Grows.drewN ?_ _ | refine Grows.drew ?_ | assumption | (refine Grows.set ?_ (by first | omega | (simp; done) | (simp; omega)) _)))).mono ?_; rintro e w' ⟨rfl, hg⟩; obtain ⟨x3, rfl⟩ := Grows.later2 hg; clear hg
            go_wp2_with fail
            go_ret
            exact ⟨ret_int HD.out.symm, (by repeat (first | exact Grows.refl _ | refine Grows.now ?_ _ | refine Grows.new ?_ _ | refine Grows.drewN ?_ _ | refine Grows.drew ?_ | assumption | (refine Grows.set ?_ (by first | omega | (simp; done) | (simp; omega)) _)))⟩
  · have hr2 : (rightF N E == 0) = false := beq_eq_false_iff_ne.2 hr
    have HD := hide (show dcF N s E W = 1 from by unfold dcF; rw [if_pos hr])
    clear hr
    generalize rightF N E = r at *
    go_enter Try.func40, Try.ntmps40
    go_wp2_with fail
    refine (C1.out _ (by repeat (first | exact Grows.refl _ | refine Grows.now ?_ _ | refine Grows.new ?_ _ | refine Grows.drewN ?_ _ | refine Grows.drew ?_ | assumption | (refine Grows.set ?_ (by first | omega | (simp; done) | (simp; omega)) _)))).mono ?_; rintro e w' ⟨rfl, hg⟩; obtain ⟨x1, rfl⟩ := hg.later; clear hg
    go_wp2_with fail
    go_ret
    exact ⟨ret_int HD.out.symm, (by repeat (first | exact Grows.refl _ | refine Grows.now ?_ _ | refine Grows.new ?_ _ | refine Grows.drewN ?_ _ | refine Grows.drew ?_ | assumption | (refine Grows.set ?_ (by first | omega | (simp; done) | (simp; omega)) _)))⟩
set_option maxRecDepth 20000 in
set_option maxHeartbeats 4000000 in
theorem r14Check (N s : Int) (A : Option Addr) (n c : Nat) (E : List Edg) (back : Bool) (nn ne : Value) (Aw : Option Addr) (nw cw most : Nat) (W : List Nat) (w : World) (h : Rd w A 3 n (esCells E)) (hW : Rd w Aw 1 nw (wv W)) (hn : n ≤ 1000000) (hnw : nw ≤ 1000000) :
    Calls Try.prog 16 #[.agg #[.int .i64 N, .slice A n c], .int .i64 s, oVal back nn ne Aw nw cw most] w fun e w' => e = .returned (.int .i64 (dcF N s E W)) ∧ Grows w w' := by
  unfold oVal
  have HL := hide h.elen
  have HLW := hide hW.wlen
  have HRW := hide hW
  have C1 := hide (fun (W : World) (g : Grows w W) => r5Right N A n c E W (h.grows g) hn)
  clear h hW
  by_cases hr : rightF N E = 0
  · rw [hr] at C1
    cases hb : nodeB N s with
    | false =>
      have HD := hide (show dcF N s E W = 7 from by unfold dcF; rw [hr, hb]; simp)
      unfold nodeB at hb
      have hb1 := of_decide_eq_false hb
      clear hb hr
      by_cases hb3 : s < 0
      · clear hb1
        go_enter Try.func16, Try.ntmps16
        go_wp2_with (go_at_call 31; refine (C1.out _ (by repeat (first | exact Grows.refl _ | refine Grows.now ?_ _ | refine Grows.new ?_ _ | refine Grows.drewN ?_ _ | refine Grows.drew ?_ | assumption | (refine Grows.set ?_ (by first | omega | (simp; done) | (simp; omega)) _)))).mono ?_; rintro e w' ⟨rfl, hg⟩; obtain ⟨x1, rfl⟩ := hg.later; clear hg)
        go_ret
        exact ⟨ret_int HD.out.symm, (by repeat (first | exact Grows.refl _ | refine Grows.now ?_ _ | refine Grows.new ?_ _ | refine Grows.drewN ?_ _ | refine Grows.drew ?_ | assumption | (refine Grows.set ?_ (by first | omega | (simp; done) | (simp; omega)) _)))⟩
      · have hb2 : N ≤ s := by omega
        clear hb1
        go_enter Try.func16, Try.ntmps16
        go_wp2_with (go_at_call 31; refine (C1.out _ (by repeat (first | exact Grows.refl _ | refine Grows.now ?_ _ | refine Grows.new ?_ _ | refine Grows.drewN ?_ _ | refine Grows.drew ?_ | assumption | (refine Grows.set ?_ (by first | omega | (simp; done) | (simp; omega)) _)))).mono ?_; rintro e w' ⟨rfl, hg⟩; obtain ⟨x1, rfl⟩ := hg.later; clear hg)
        go_ret
        exact ⟨ret_int HD.out.symm, (by repeat (first | exact Grows.refl _ | refine Grows.now ?_ _ | refine Grows.new ?_ _ | refine Grows.drewN ?_ _ | refine Grows.drew ?_ | assumption | (refine Grows.set ?_ (by first | omega | (simp; done) | (simp; omega)) _)))⟩
    | true =>
      have hb1 := hb
      unfold nodeB at hb1
      obtain ⟨hb2, hb3⟩ := of_decide_eq_true hb1
      clear hb1
      by_cases hz : nw = 0
      · have HD := hide (show dcF N s E W = 0 from by
          have : W = [] := List.eq_nil_of_length_eq_zero (by rw [HLW.out, hz])
          unfold dcF; rw [hr, hb, this]; simp)
        subst hz
        clear hb hr
        go_enter Try.func16, Try.ntmps16
        go_wp2_with (go_at_call 31; refine (C1.out _ (by repeat (first | exact Grows.refl _ | refine Grows.now ?_ _ | refine Grows.new ?_ _ | refine Grows.drewN ?_ _ | refine Grows.drew ?_ | assumption | (refine Grows.set ?_ (by first | omega | (simp; done) | (simp; omega)) _)))).mono ?_; rintro e w' ⟨rfl, hg⟩; obtain ⟨x1, rfl⟩ := hg.later; clear hg)
        go_ret
        exact ⟨ret_int HD.out.symm, (by repeat (first | exact Grows.refl _ | refine Grows.now ?_ _ | refine Grows.new ?_ _ | refine Grows.drewN ?_ _ | refine Grows.drew ?_ | assumption | (refine Grows.set ?_ (by first | omega | (simp; done) | (simp; omega)) _)))⟩
      have hz2 : ((nw : Int) == 0) = false := beq_eq_false_iff_ne.2 (by omega)
      by_cases hl : nw = n
      · have HD := hide (show ∀ x : Int, (if W.any penB then 2 else 0) = x → dcF N s E W = x from fun x hx => by unfold dcF; rw [if_neg (show ¬ rightF N E ≠ 0 by omega), if_neg (by simp [hb]), HLW.out, HL.out, if_neg (by omega)]; exact hx)
        subst hl
        clear hb hr hz
        go_enter Try.func16, Try.ntmps16
        go_wp2_with (go_at_call 31; refine (C1.out _ (by repeat (first | exact Grows.refl _ | refine Grows.now ?_ _ | refine Grows.new ?_ _ | refine Grows.drewN ?_ _ | refine Grows.drew ?_ | assumption | (refine Grows.set ?_ (by first | omega | (simp; done) | (simp; omega)) _)))).mono ?_; rintro e w' ⟨rfl, hg⟩; obtain ⟨x1, rfl⟩ := hg.later; clear hg)
        go_loopw [7] (fun i wr => ∃ k : Nat, k ≤ nw ∧ i = .int .i64 (k : Int) ∧ (∃ y : Later x1.now, wr = y.now) ∧ ∀ j, j < k → penB (gn W j) = false) (fun i _ => nw - (Go.RowKit.intOf i).toNat)
        case atStart => exact ⟨0, by omega, by go_num, ⟨⟨_, Grows.refl _⟩, rfl⟩, fun j h1 => by omega⟩
        case round =>
          obtain ⟨q, hq, rfl, ⟨y, rfl⟩, hall⟩ := hrel
          have HA := hide hall
          clear hall
          by_cases hend : nw ≤ q
          · go_wp2
            go_ret
            refine ⟨ret_int (HD.out 0 ?_).symm, (by repeat (first | exact Grows.refl _ | refine Grows.now ?_ _ | refine Grows.new ?_ _ | refine Grows.drewN ?_ _ | refine Grows.drew ?_ | assumption | (refine Grows.set ?_ (by first | omega | (simp; done) | (simp; omega)) _)))⟩
            have hl := HLW.out
            have : W.any penB = false := by
              rw [List.any_eq_false]
              intro e he
              obtain ⟨j, hj, rfl⟩ := List.mem_iff_getElem.1 he
              have := HA.out j (by omega)
              simpa [gn, hj] using this
            rw [this]; rfl
          · obtain ⟨_, b, off, rfl, hc⟩ := HRW.out.wordsH (by omega)
            have hc1 := hc q (by omega)
            clear hc
            obtain ⟨u, hu⟩ : ∃ u, gn W q = u := ⟨_, rfl⟩
            rw [hu] at hc1
            have HU := hide hu
            clear hu
            by_cases hp : u < 1 ∨ 17592186044416 < u
            · have HB : Hid (W.any penB = true) := by
                refine List.any_eq_true.2 ⟨gn W q, ?_, ?_⟩
                · have : q < W.length := by rw [HLW.out]; omega
                  unfold gn; rw [List.getD_eq_getElem?_getD, List.getElem?_eq_getElem this]; exact List.getElem_mem this
                · rw [HU.out]; unfold penB; exact decide_eq_true hp
              rcases hp with hp | hp
              · go_wp2
                go_ret
                exact ⟨ret_int (HD.out 2 (by rw [HB.out]; rfl)).symm, (by repeat (first | exact Grows.refl _ | refine Grows.now ?_ _ | refine Grows.new ?_ _ | refine Grows.drewN ?_ _ | refine Grows.drew ?_ | assumption | (refine Grows.set ?_ (by first | omega | (simp; done) | (simp; omega)) _)))⟩
              · have hp1 : ¬ u < 1 := by omega
                go_wp2
                go_ret
                exact ⟨ret_int (HD.out 2 (by rw [HB.out]; rfl)).symm, (by repeat (first | exact Grows.refl _ | refine Grows.now ?_ _ | refine Grows.new ?_ _ | refine Grows.drewN ?_ _ | refine Grows.drew ?_ | assumption | (refine Grows.set ?_ (by first | omega | (simp; done) | (simp; omega)) _)))⟩
            · have hp1 : ¬ u < 1 := by omega
              have hp2 : ¬ 17592186044416 < u := by omega
              have HB : Hid (penB u = false) := decide_eq_false hp
              clear hp
              go_wp2
              go_roundw
              case measure => simp [Go.RowKit.intOf]; omega
              case rel =>
                refine ⟨q + 1, by omega, by go_num, ⟨_, rfl⟩, fun j h1 => ?_⟩
                by_cases hj : j = q
                · rw [hj, HU.out]; exact HB.out
                · exact HA.out j (by omega)
      · have HD := hide (show dcF N s E W = 1 from by unfold dcF; rw [if_neg (show ¬ rightF N E ≠ 0 by omega), if_neg (by simp [hb]), HLW.out, HL.out, if_pos ⟨by omega, hl⟩])
        have hl3 : ((nw : Int) == (n : Int)) = false := beq_eq_false_iff_ne.2 (by omega)
        clear hb hr hl hz
        go_enter Try.func16, Try.ntmps16
        go_wp2_with (go_at_call 31; refine (C1.out _ (by repeat (first | exact Grows.refl _ | refine Grows.now ?_ _ | refine Grows.new ?_ _ | refine Grows.drewN ?_ _ | refine Grows.drew ?_ | assumption | (refine Grows.set ?_ (by first | omega | (simp; done) | (simp; omega)) _)))).mono ?_; rintro e w' ⟨rfl, hg⟩; obtain ⟨x1, rfl⟩ := hg.later; clear hg)
        go_ret
        exact ⟨ret_int HD.out.symm, (by repeat (first | exact Grows.refl _ | refine Grows.now ?_ _ | refine Grows.new ?_ _ | refine Grows.drewN ?_ _ | refine Grows.drew ?_ | assumption | (refine Grows.set ?_ (by first | omega | (simp; done) | (simp; omega)) _)))⟩
  · have hr2 : (rightF N E == 0) = false := beq_eq_false_iff_ne.2 hr
    have HD := hide (show dcF N s E W = 1 from by unfold dcF; rw [if_pos hr])
    clear hr
    generalize rightF N E = r at *
    go_enter Try.func16, Try.ntmps16
    go_wp2_with (go_at_call 31; refine (C1.out _ (by repeat (first | exact Grows.refl _ | refine Grows.now ?_ _ | refine Grows.new ?_ _ | refine Grows.drewN ?_ _ | refine Grows.drew ?_ | assumption | (refine Grows.set ?_ (by first | omega | (simp; done) | (simp; omega)) _)))).mono ?_; rintro e w' ⟨rfl, hg⟩; obtain ⟨x1, rfl⟩ := hg.later; clear hg)
    go_ret
    exact ⟨ret_int HD.out.symm, (by repeat (first | exact Grows.refl _ | refine Grows.now ?_ _ | refine Grows.new ?_ _ | refine Grows.drewN ?_ _ | refine Grows.drew ?_ | assumption | (refine Grows.set ?_ (by first | omega | (simp; done) | (simp; omega)) _)))⟩
end Go.Proofs.Ytomednfddpggaaa

/- Contract: are two rows of numbers the same? -/
namespace Go.Proofs.Ytomednfddpggaaa
open Go Go.RowKit
set_option maxHeartbeats 1000000 in
theorem r1Same (A : Option Addr) (n c : Nat) (l : List Int) (B : Option Addr) (m d : Nat) (l' : List Int) (w : World) (h : Rd w A 1 n (l.map (.int .i64))) (hn : n ≤ 1000000) (h' : Rd w B 1 m (l'.map (.int .i64))) (hm : m ≤ 1000000) :
    Calls Try.prog 13 #[.slice A n c, .slice B m d] w fun e w' => e = .returned (.bool (decide (l = l'))) ∧ Grows w w' := by
  have HL := hide (show l.length = n by simpa using h.len)
  have HM := hide (show l'.length = m by simpa using h'.len)
  have HR := hide h
  have HS := hide h'
  clear h h'
  by_cases hnm : n = m
  · subst hnm
    go_enter Try.func13, Try.ntmps13
    go_wp2
    go_loopw [5] (fun i wr => ∃ k : Nat, k ≤ n ∧ i = .int .i64 (k : Int) ∧ (∃ y : Later w, wr = y.now) ∧ ∀ j, j < k → gi l j = gi l' j) (fun i _ => n - (intOf i).toNat)
    case atStart => exact ⟨0, by omega, by go_num, ⟨⟨w, Grows.refl w⟩, rfl⟩, fun j h => by omega⟩
    case round =>
      obtain ⟨k, hk, rfl, ⟨y, rfl⟩, hall⟩ := hrel
      have HA := hide hall
      clear hall
      by_cases hend : n ≤ k
      · have HV : Hid (l = l') := by
          apply List.ext_getElem (by rw [HL.out, HM.out])
          intro j h1 h2
          have := HA.out j (by have := HL.out; omega)
          simpa [gi, h1, h2] using this
        go_wp2
        go_ret
        exact ⟨ret_bool (decide_eq_true HV.out).symm, (by repeat (first | exact Grows.refl _ | refine Grows.now ?_ _ | refine Grows.new ?_ _ | refine Grows.drewN ?_ _ | refine Grows.drew ?_ | assumption | (refine Grows.set ?_ (by first | omega | (simp; done) | (simp; omega)) _)))⟩
      · obtain ⟨b, off, rfl, hc⟩ := HR.out.intsH (by omega)
        obtain ⟨b2, off2, rfl, hc2⟩ := HS.out.intsH (by omega)
        have c1 := hc k (by omega)
        have c2 := hc2 k (by omega)
        clear hc hc2
        by_cases he : gi l k = gi l' k
        · have HE : Hid (∀ j, j < k + 1 → gi l j = gi l' j) := fun j hj => by
            by_cases e : j = k
            · rw [e]; exact he
            · exact HA.out j (by omega)
          have hd : (gi l k == gi l' k) = true := by simpa using he
          clear he
          generalize gi l k = u at *
          generalize gi l' k = v at *
          go_wp2_with fail
          ((first | refine wp_region_gen (by kernel_rfl) (by kernel_rfl) ?_); (repeat' (first | (refine gLex_val0 rfl (by kernel_rfl) (fun K hK => ?_); (go_simp; (try (simp only [↓IntWalk.iteOmega]; try go_simp)); (try simp (disch := omega) only [IntWalk.i64_in]); (try simp (disch := omega) only [IntWalk.u64_in]); first | (refine hK _ ?_; clear hK K) | (apply Exists.intro; refine ⟨fun x => ?_, hK _ ?_⟩; (first | fail); clear hK K))) | (refine gLex_undef rfl rfl rfl (by kernel_rfl) (fun K hK => ?_); go_simp; refine hK _ ?_; clear hK K) | (refine gLex_ask rfl rfl rfl ?_; first | (apply gAsk_yes; kernel_rfl; intro K hK; (go_simp; (try (simp only [↓IntWalk.iteOmega]; try go_simp)); (try simp (disch := omega) only [IntWalk.i64_in]); (try simp (disch := omega) only [IntWalk.u64_in]); first | (refine hK _ ?_; clear hK K) | (apply Exists.intro; refine ⟨fun x => ?_, hK _ ?_⟩; (first | fail); clear hK K))) | ((first | apply gAsk_no1 | apply gAsk_no2); kernel_rfl; intro K hK; simp [go_sem]; refine hK _ ?_; clear hK K) | (apply gAsk_part; kernel_rfl; all_goals (intro h K hK; (try simp only [Bool.not_true] at h); (try simp only [Bool.not_false] at h); (try simp only [decide_eq_true_eq] at h); (try simp only [decide_eq_false_iff_not] at h); first | (exfalso; first | contradiction | omega) | (go_simp; (try (simp only [↓IntWalk.iteOmega]; try go_simp)); (try simp (disch := omega) only [IntWalk.i64_in]); (try simp (disch := omega) only [IntWalk.u64_in]); first | (refine hK _ ?_; clear hK K) | (apply Exists.intro; refine ⟨fun x => ?_, hK _ ?_⟩; (first | fail); clear hK K))))))); all_goals ((apply gLex_end); intro x))
          go_wp2
          refine ⟨⟨k + 1, by omega, by go_num, Grows.later (by repeat (first | exact Grows.refl _ | refine Grows.now ?_ _ | refine Grows.new ?_ _ | refine Grows.drewN ?_ _ | refine Grows.drew ?_ | assumption | (refine Grows.set ?_ (by first | omega | (simp; done) | (simp; omega)) _))), HE.out⟩, by simp [intOf]; omega⟩
        · have HV : Hid (¬ l = l') := fun e => he (by rw [e])
          have hd : (gi l k == gi l' k) = false := by simpa using he
          clear he
          go_wp2_with fail
          ((first | refine wp_region_gen (by kernel_rfl) (by kernel_rfl) ?_); (repeat' (first | (refine gLex_val0 rfl (by kernel_rfl) (fun K hK => ?_); (go_simp; (try (simp only [↓IntWalk.iteOmega]; try go_simp)); (try simp (disch := omega) only [IntWalk.i64_in]); (try simp (disch := omega) only [IntWalk.u64_in]); first | (refine hK _ ?_; clear hK K) | (apply Exists.intro; refine ⟨fun x => ?_, hK _ ?_⟩; (first | fail); clear hK K))) | (refine gLex_undef rfl rfl rfl (by kernel_rfl) (fun K hK => ?_); go_simp; refine hK _ ?_; clear hK K) | (refine gLex_ask rfl rfl rfl ?_; first | (apply gAsk_yes; kernel_rfl; intro K hK; (go_simp; (try (simp only [↓IntWalk.iteOmega]; try go_simp)); (try simp (disch := omega) only [IntWalk.i64_in]); (try simp (disch := omega) only [IntWalk.u64_in]); first | (refine hK _ ?_; clear hK K) | (apply Exists.intro; refine ⟨fun x => ?_, hK _ ?_⟩; (first | fail); clear hK K))) | ((first | apply gAsk_no1 | apply gAsk_no2); kernel_rfl; intro K hK; simp [go_sem]; refine hK _ ?_; clear hK K) | (apply gAsk_part; kernel_rfl; all_goals (intro h K hK; (try simp only [Bool.not_true] at h); (try simp only [Bool.not_false] at h); (try simp only [decide_eq_true_eq] at h); (try simp only [decide_eq_false_iff_not] at h); first | (exfalso; first | contradiction | omega) | (go_simp; (try (simp only [↓IntWalk.iteOmega]; try go_simp)); (try simp (disch := omega) only [IntWalk.i64_in]); (try simp (disch := omega) only [IntWalk.u64_in]); first | (refine hK _ ?_; clear hK K) | (apply Exists.intro; refine ⟨fun x => ?_, hK _ ?_⟩; (first | fail); clear hK K))))))); all_goals ((apply gLex_end); intro x))
          go_wp2
          go_ret
          exact ⟨ret_bool (decide_eq_false HV.out).symm, (by repeat (first | exact Grows.refl _ | refine Grows.now ?_ _ | refine Grows.new ?_ _ | refine Grows.drewN ?_ _ | refine Grows.drew ?_ | assumption | (refine Grows.set ?_ (by first | omega | (simp; done) | (simp; omega)) _)))⟩
  · have HV : Hid (¬ l = l') := fun e => hnm (by rw [← HL.out, ← HM.out, e])
    have hd : ((n : Int) == (m : Int)) = false := beq_eq_false_iff_ne.2 (by omega)
    go_enter Try.func13, Try.ntmps13
    go_wp2
    go_ret
    exact ⟨ret_bool (decide_eq_false HV.out).symm, (by repeat (first | exact Grows.refl _ | refine Grows.now ?_ _ | refine Grows.new ?_ _ | refine Grows.drewN ?_ _ | refine Grows.drew ?_ | assumption | (refine Grows.set ?_ (by first | omega | (simp; done) | (simp; omega)) _)))⟩
end Go.Proofs.Ytomednfddpggaaa

/- Contracts: two rows of truths compared; which edges are needed, of the chapter's example; the chapter's example (bridge). -/
namespace Go.Proofs.Ytomednfddpggaaa
open Go Go.RowKit
attribute [local go_sem] Oper.semAt_some
def gbb (l : List Bool) (k : Nat) : Bool := l.getD k false
set_option maxHeartbeats 2000000 in
theorem eqBool (g1 g2 n : Nat) (l l' : List Bool) (w : World) (h : Arr w g1 4 (l.map .bool)) (h' : Arr w g2 4 (l'.map .bool)) (hl : l.length = n) (hl' : l'.length = n) (hn : n ≤ 1000000) :
    Calls Try.prog 42 #[.slice (some ⟨g1, 0, none⟩) n n, .slice (some ⟨g2, 0, none⟩) n n] w fun e w' => e = .returned (.bool (decide (l = l'))) ∧ Grows w w' := by
  have HL := hide hl
  have HM := hide hl'
  have HC := hide (show ∀ j, j < n → Holds w ⟨g1, j, none⟩ (.bool (gbb l j)) from fun j hj => ⟨by rw [h.cell, List.getElem?_map]; simp [gbb, List.getElem?_eq_getElem (show j < l.length by omega)]⟩)
  have HD := hide (show ∀ j, j < n → Holds w ⟨g2, j, none⟩ (.bool (gbb l' j)) from fun j hj => ⟨by rw [h'.cell, List.getElem?_map]; simp [gbb, List.getElem?_eq_getElem (show j < l'.length by omega)]⟩)
  clear h h' hl hl'
  go_enter Try.func42, Try.ntmps42
  go_wp2
  go_loopw [13, 5] (fun i _ wr => ∃ k : Nat, k ≤ n ∧ i = .int .i64 (k : Int) ∧ (∃ y : Later w, wr = y.now) ∧ ∀ j, j < k → gbb l j = gbb l' j) (fun i _ _ => n - (intOf i).toNat)
  case atStart => exact ⟨0, by omega, by go_num, ⟨⟨w, Grows.refl w⟩, rfl⟩, fun j h => by omega⟩
  case round =>
    obtain ⟨k, hk, rfl, ⟨y, rfl⟩, hall⟩ := hrel
    have HA := hide hall
    clear hall
    by_cases hend : n ≤ k
    · have HV : Hid (l = l') := by
        apply List.ext_getElem (by rw [HL.out, HM.out])
        intro j h1 h2
        have := HA.out j (by have := HL.out; omega)
        simpa [gbb, h1, h2] using this
      go_wp2
      go_ret
      exact ⟨ret_bool (decide_eq_true HV.out).symm, (by repeat (first | exact Grows.refl _ | refine Grows.now ?_ _ | refine Grows.new ?_ _ | refine Grows.drewN ?_ _ | refine Grows.drew ?_ | assumption | (refine Grows.set ?_ (by first | omega | (simp; done) | (simp; omega)) _)))⟩
    · have c1 := HC.out k (by omega)
      have c2 := HD.out k (by omega)
      by_cases he : gbb l k = gbb l' k
      · have HE : Hid (∀ j, j < k + 1 → gbb l j = gbb l' j) := fun j hj => by
          by_cases e : j = k
          · rw [e]; exact he
          · exact HA.out j (by omega)
        rw [← he] at c2
        clear he
        generalize gbb l k = u at *
        go_wp2_with fail
        ((first | refine wp_region_gen (by kernel_rfl) (by kernel_rfl) ?_); (repeat' (first | (refine gLex_val0 rfl (by kernel_rfl) (fun K hK => ?_); (go_simp; (try (simp only [↓IntWalk.iteOmega]; try go_simp)); (try simp (disch := omega) only [IntWalk.i64_in]); (try simp (disch := omega) only [IntWalk.u64_in]); first | (refine hK _ ?_; clear hK K) | (apply Exists.intro; refine ⟨fun x => ?_, hK _ ?_⟩; (first | fail); clear hK K))) | (refine gLex_undef rfl rfl rfl (by kernel_rfl) (fun K hK => ?_); go_simp; refine hK _ ?_; clear hK K) | (refine gLex_ask rfl rfl rfl ?_; first | (apply gAsk_yes; kernel_rfl; intro K hK; (go_simp; (try (simp only [↓IntWalk.iteOmega]; try go_simp)); (try simp (disch := omega) only [IntWalk.i64_in]); (try simp (disch := omega) only [IntWalk.u64_in]); first | (refine hK _ ?_; clear hK K) | (apply Exists.intro; refine ⟨fun x => ?_, hK _ ?_⟩; (first | fail); clear hK K))) | ((first | apply gAsk_no1 | apply gAsk_no2); kernel_rfl; intro K hK; simp [go_sem]; refine hK _ ?_; clear hK K) | (apply gAsk_part; kernel_rfl; all_goals (intro h K hK; (try simp only [Bool.not_true] at h); (try simp only [Bool.not_false] at h); (try simp only [decide_eq_true_eq] at h); (try simp only [decide_eq_false_iff_not] at h); first | (exfalso; first | contradiction | omega) | (go_simp; (try (simp only [↓IntWalk.iteOmega]; try go_simp)); (try simp (disch := omega) only [IntWalk.i64_in]); (try simp (disch := omega) only [IntWalk.u64_in]); first | (refine hK _ ?_; clear hK K) | (apply Exists.intro; refine ⟨fun x => ?_, hK _ ?_⟩; (first | fail); clear hK K))))))); all_goals ((apply gLex_end); intro x))
        go_wp2
        refine ⟨⟨k + 1, by omega, by go_num, Grows.later (by repeat (first | exact Grows.refl _ | refine Grows.now ?_ _ | refine Grows.new ?_ _ | refine Grows.drewN ?_ _ | refine Grows.drew ?_ | assumption | (refine Grows.set ?_ (by first | omega | (simp; done) | (simp; omega)) _))), HE.out⟩, by simp [intOf]; omega⟩
      · have HV : Hid (¬ l = l') := fun e => he (by rw [e])
        have hd : (gbb l k == gbb l' k) = false := by simpa using he
        clear he
        generalize gbb l k = u at *
        generalize gbb l' k = v at *
        go_wp2_with fail
        ((first | refine wp_region_gen (by kernel_rfl) (by kernel_rfl) ?_); (repeat' (first | (refine gLex_val0 rfl (by kernel_rfl) (fun K hK => ?_); (go_simp; (try (simp only [↓IntWalk.iteOmega]; try go_simp)); (try simp (disch := omega) only [IntWalk.i64_in]); (try simp (disch := omega) only [IntWalk.u64_in]); first | (refine hK _ ?_; clear hK K) | (apply Exists.intro; refine ⟨fun x => ?_, hK _ ?_⟩; (first | fail); clear hK K))) | (refine gLex_undef rfl rfl rfl (by kernel_rfl) (fun K hK => ?_); go_simp; refine hK _ ?_; clear hK K) | (refine gLex_ask rfl rfl rfl ?_; first | (apply gAsk_yes; kernel_rfl; intro K hK; (go_simp; (try (simp only [↓IntWalk.iteOmega]; try go_simp)); (try simp (disch := omega) only [IntWalk.i64_in]); (try simp (disch := omega) only [IntWalk.u64_in]); first | (refine hK _ ?_; clear hK K) | (apply Exists.intro; refine ⟨fun x => ?_, hK _ ?_⟩; (first | fail); clear hK K))) | ((first | apply gAsk_no1 | apply gAsk_no2); kernel_rfl; intro K hK; simp [go_sem]; refine hK _ ?_; clear hK K) | (apply gAsk_part; kernel_rfl; all_goals (intro h K hK; (try simp only [Bool.not_true] at h); (try simp only [Bool.not_false] at h); (try simp only [decide_eq_true_eq] at h); (try simp only [decide_eq_false_iff_not] at h); first | (exfalso; first | contradiction | omega) | (go_simp; (try (simp only [↓IntWalk.iteOmega]; try go_simp)); (try simp (disch := omega) only [IntWalk.i64_in]); (try simp (disch := omega) only [IntWalk.u64_in]); first | (refine hK _ ?_; clear hK K) | (apply Exists.intro; refine ⟨fun x => ?_, hK _ ?_⟩; (first | fail); clear hK K))))))); all_goals ((apply gLex_end); intro x))
        go_wp2
        go_ret
        exact ⟨ret_bool (decide_eq_false HV.out).symm, (by repeat (first | exact Grows.refl _ | refine Grows.now ?_ _ | refine Grows.new ?_ _ | refine Grows.drewN ?_ _ | refine Grows.drew ?_ | assumption | (refine Grows.set ?_ (by first | omega | (simp; done) | (simp; omega)) _)))⟩
def ex48 : List Edg := [⟨0, 1, 3⟩]
set_option maxRecDepth 20000 in
set_option maxHeartbeats 4000000 in
theorem needs48 (A : Option Addr) (w : World) (h : Rd w A 3 1 (esCells ex48)) : Calls Try.prog 11 #[.agg #[.int .i64 2, .slice A 1 1], .int .i64 0] w fun x w' => ∃ A' c', x = .returned (.tuple #[.slice A' 1 c', .int .i64 0]) ∧ Rd w' A' 1 1 (([0] : List Int).map (.int .i64)) ∧ Grows w w' := by
  have h0 : Rd w none 1 0 (wv []) := ⟨by simp [wv], fun h => absurd h (by simp)⟩
  have C1 := hide (fun (W : World) (g : Grows w W) => show Calls Try.prog 40 #[.agg #[.int .i64 2, .slice A 1 1], .int .i64 0, .agg #[.bool false, .slice none 0 0, .slice none 0 0, .slice none 0 0, .int .u64 0]] W fun e w' => e = .returned (.int .i64 0) ∧ Grows W w' from by
    have := djCheck 2 0 A 1 1 ex48 false (.slice none 0 0) (.slice none 0 0) none 0 0 0 [] W (h.grows g) (h0.grows g) (by omega) (by omega)
    rw [show dcF 2 0 ex48 [] = 0 by decide +kernel] at this
    exact this)
  have C2 := hide (fun (W : World) (g : Grows w W) => show Calls Try.prog 41 #[.agg #[.int .i64 2, .slice A 1 1], .int .i64 0, .bool false] W fun e w' => ∃ g, e = .returned (.slice (some ⟨g, 0, none⟩) 2 2) ∧ Arr w' g 4 ([true, true].map .bool) ∧ Grows W w' from by
    have := ptReach 2 0 A 1 ex48 false W (h.grows g) (by decide +kernel) (by omega)
    rw [show reachL 2 ex48 0 false = [true, true] by decide +kernel] at this
    exact this)
  have C3 := hide (fun (W : World) (g : Grows w W) => show Calls Try.prog 9 #[.agg #[.int .i64 2, .slice A 1 1], .int .i64 0] W fun x w' => ∃ A' c', x = .returned (.tuple #[.agg #[.int .i64 2, .slice A' 0 c'], .int .i64 0]) ∧ Rd w' A' 3 0 [] ∧ Grows W w' from
    withoutW 2 A 1 ex48 0 W (h.grows g) (by decide +kernel) (by decide))
  have C4 := hide (fun (W : World) (A : Option Addr) (c : Nat) (h : Rd W A 3 0 []) => show Calls Try.prog 41 #[.agg #[.int .i64 2, .slice A 0 c], .int .i64 0, .bool false] W fun e w' => ∃ g, e = .returned (.slice (some ⟨g, 0, none⟩) 2 2) ∧ Arr w' g 4 ([true, false].map .bool) ∧ Grows W w' from by
    have := ptReach 2 0 A c [] false W h (by decide +kernel) (by omega)
    rw [show reachL 2 [] 0 false = [true, false] by decide +kernel] at this
    exact this)
  have HL := hide h.elen
  clear h h0
  go_enter Try.func11, Try.ntmps11
  go_upto_region 4 with (go_at_call 40; refine (C1.out _ (by repeat (first | exact Grows.refl _ | refine Grows.now ?_ _ | refine Grows.new ?_ _ | refine Grows.drewN ?_ _ | refine Grows.drew ?_ | assumption | (refine Grows.set ?_ (by first | omega | (simp; done) | (simp; omega)) _)))).mono ?_; rintro e w' ⟨rfl, hg⟩; obtain ⟨x1, rfl⟩ := hg.later; clear hg)
  go_wp2_with (go_at_call 41; refine (C2.out _ (by repeat (first | exact Grows.refl _ | refine Grows.now ?_ _ | refine Grows.new ?_ _ | refine Grows.drewN ?_ _ | refine Grows.drew ?_ | assumption | (refine Grows.set ?_ (by first | omega | (simp; done) | (simp; omega)) _)))).mono ?_; rintro e w' ⟨g2, rfl, ha2, hg⟩; obtain ⟨x2, rfl⟩ := hg.later; have HA2 := hide ha2; clear hg ha2)
  refine wp_loop_rounds 2 ?_
  show Code.wp _ _ _ _ _
  have k0 : (decide ((0 : Int) < 1)) = true := rfl
  go_wp2_with (first
    | (go_at_call 9; refine (C3.out _ (by repeat (first | exact Grows.refl _ | refine Grows.now ?_ _ | refine Grows.new ?_ _ | refine Grows.drewN ?_ _ | refine Grows.drew ?_ | assumption | (refine Grows.set ?_ (by first | omega | (simp; done) | (simp; omega)) _)))).mono ?_; rintro e w' ⟨A3, c3, rfl, hr3, hg⟩; obtain ⟨x3, rfl⟩ := hg.later; have HR3 := hide hr3; clear hg hr3)
    | (go_at_call 41; refine (C4.out _ A3 c3 (HR3.out.grows (by repeat (first | exact Grows.refl _ | refine Grows.now ?_ _ | refine Grows.new ?_ _ | refine Grows.drewN ?_ _ | refine Grows.drew ?_ | assumption | (refine Grows.set ?_ (by first | omega | (simp; done) | (simp; omega)) _))))).mono ?_; rintro e w' ⟨g4, rfl, ha4, hg⟩; obtain ⟨x4, rfl⟩ := Grows.later2 (((Grows.refl x3.now).new _).trans hg); have HA4 := hide ha4; clear hg ha4)
    | (go_at_call 42; refine (eqBool g4 g2 2 [true, false] [true, true] _ HA4.out (HA2.out.grow (by repeat (first | exact Grows.refl _ | refine Grows.now ?_ _ | refine Grows.new ?_ _ | refine Grows.drewN ?_ _ | refine Grows.drew ?_ | assumption | (refine Grows.set ?_ (by first | omega | (simp; done) | (simp; omega)) _)))) rfl rfl (by omega)).mono ?_; rintro e w' ⟨rfl, hg⟩; obtain ⟨x5, rfl⟩ := hg.later; clear hg)
    | (at_builtin; refine wp_app1 elemInt rfl _ _ rfl _ (by repeat (first | exact Grows.refl _ | refine Grows.now ?_ _ | refine Grows.new ?_ _ | refine Grows.drewN ?_ _ | refine Grows.drew ?_ | assumption | (refine Grows.set ?_ (by first | omega | (simp; done) | (simp; omega)) _))) 0 0 none [] rfl (Own.nil _ w.heap.size _ _) _ _ _ rfl inferInstance rfl (by omega) ?_; intro A6 c6 y6 hown6; have HO6 := hide hown6; clear hown6))
  show Code.wp _ _ _ _ _
  have k1 : (decide ((1 : Int) < 1)) = false := rfl
  go_wp2_with fail
  refine bodyPost_ret (v := .tuple #[.slice A6 1 c6, .int .i64 0]) (by simp (maxDischargeDepth := 6) [results, Try.results11, go_sem, *]) rfl ⟨A6, ⟨c6, rfl⟩, HO6.out.rd, (by repeat (first | exact Grows.refl _ | refine Grows.now ?_ _ | refine Grows.new ?_ _ | refine Grows.drewN ?_ _ | refine Grows.drew ?_ | assumption | (refine Grows.set ?_ (by first | omega | (simp; done) | (simp; omega)) _)))⟩
theorem cuts48 : cutsL 2 ex48 = [0] := by decide +kernel
set_option maxRecDepth 20000 in
set_option maxHeartbeats 2000000 in
theorem alive48 (w : World) : Calls Try.prog 8 #[] w fun e w' => e = .returned (.bool true) ∧ Grows w w' := by
  have C := hide (fun (W : World) (A : Option Addr) (h : Rd W A 3 1 (esCells ex48)) => needs48 A W h)
  have C2 := hide (fun (W : World) (A : Option Addr) (h : Rd W A 3 1 (esCells ex48)) => show Calls Try.prog 14 #[.agg #[.int .i64 2, .slice A 1 1]] W fun e w' => ∃ A' c', e = .returned (.slice A' 1 c') ∧ Rd w' A' 1 1 (([0] : List Int).map (.int .i64)) ∧ Grows W w' from by
    have := bwCuts 2 A 1 ex48 W h (by decide +kernel)
    rw [cuts48] at this
    exact this)
  have HR := hide (show Rd (w.alloc (.cells #[.int .i64 0, .int .i64 1, .int .u64 3] 68)) (some ⟨w.heap.size, 0, none⟩) 3 1 (esCells ex48) from Rd.made (w := w) (t := 68) (size := 3) (n := 1) (esCells ex48) rfl)
  have HS := hide (fun (W : World) (A : Option Addr) (c : Nat) (h : Rd W A 1 1 (([0] : List Int).map (.int .i64))) (B : Option Addr) (h2 : Rd W B 1 1 (([0] : List Int).map (.int .i64))) => show Calls Try.prog 13 #[.slice A 1 c, .slice B 1 1] W fun e w' => e = .returned (.bool true) ∧ Grows W w' from by
    have := r1Same A 1 c [0] B 1 1 [0] W h (by omega) h2 (by omega)
    rw [decide_eq_true rfl] at this
    exact this)
  go_enter Try.func8, Try.ntmps8
  go_wp2_with fail
  refine (C.out _ _ (HR.out.grows (by repeat (first | exact Grows.refl _ | refine Grows.now ?_ _ | refine Grows.new ?_ _ | refine Grows.drewN ?_ _ | refine Grows.drew ?_ | assumption | (refine Grows.set ?_ (by first | omega | (simp; done) | (simp; omega)) _))))).mono ?_
  rintro e w' ⟨A2, c2, rfl, hr2, hg⟩
  obtain ⟨x1, rfl⟩ := hg.later
  have HR2 := hide hr2
  clear hg hr2
  go_wp2_with fail
  refine (HS.out _ A2 c2 (HR2.out.grows (by repeat (first | exact Grows.refl _ | refine Grows.now ?_ _ | refine Grows.new ?_ _ | refine Grows.drewN ?_ _ | refine Grows.drew ?_ | assumption | (refine Grows.set ?_ (by first | omega | (simp; done) | (simp; omega)) _)))) _ (Rd.made (w := x1.now) (t := 3) (size := 1) (n := 1) (([0] : List Int).map (.int .i64)) rfl)).mono ?_
  rintro e w2 ⟨rfl, hg⟩
  obtain ⟨y, rfl⟩ := Grows.later2 (((Grows.refl x1.now).new _).trans hg)
  clear hg
  go_wp2_with fail
  refine (C2.out _ _ (HR.out.grows (by repeat (first | exact Grows.refl _ | refine Grows.now ?_ _ | refine Grows.new ?_ _ | refine Grows.drewN ?_ _ | refine Grows.drew ?_ | assumption | (refine Grows.set ?_ (by first | omega | (simp; done) | (simp; omega)) _))))).mono ?_
  rintro e w' ⟨A3, c3, rfl, hr3, hg⟩
  obtain ⟨x3, rfl⟩ := hg.later
  have HR3 := hide hr3
  clear hg hr3
  go_wp2_with fail
  refine (HS.out _ A3 c3 (HR3.out.grows (by repeat (first | exact Grows.refl _ | refine Grows.now ?_ _ | refine Grows.new ?_ _ | refine Grows.drewN ?_ _ | refine Grows.drew ?_ | assumption | (refine Grows.set ?_ (by first | omega | (simp; done) | (simp; omega)) _)))) _ (Rd.made (w := x3.now) (t := 3) (size := 1) (n := 1) (([0] : List Int).map (.int .i64)) rfl)).mono ?_
  rintro e w2 ⟨rfl, hg⟩
  obtain ⟨y3, rfl⟩ := Grows.later2 (((Grows.refl x3.now).new _).trans hg)
  clear hg
  go_wp2_with fail
  go_ret
  exact ⟨rfl, (by repeat (first | exact Grows.refl _ | refine Grows.now ?_ _ | refine Grows.new ?_ _ | refine Grows.drewN ?_ _ | refine Grows.drew ?_ | assumption | (refine Grows.set ?_ (by first | omega | (simp; done) | (simp; omega)) _)))⟩
def light48 (N : Int) (n : Nat) : Bool := lightG N n && (decide (N ≤ 16) || decide (4096 < N)) && decide (n ≤ 40)
set_option maxRecDepth 20000 in
set_option maxHeartbeats 2000000 in
theorem lLight48 (N : Int) (A : Option Addr) (n c : Nat) (w : World) : Calls Try.prog 7 #[.agg #[.int .i64 N, .slice A n c]] w fun e w' => e = .returned (.bool (light48 N n)) ∧ Grows w w' := by
  have C := hide (fun (W : World) => lLight N A n c W)
  have HD : Hid (light48 N n = (lightG N n && (decide (N ≤ 16) || decide (4096 < N)) && decide (n ≤ 40))) := rfl
  generalize light48 N n = r at *
  generalize lightG N n = q at *
  go_enter Try.func7, Try.ntmps7
  go_wp2_with (go_at_call 18; refine (C.out _).mono ?_; rintro e w' ⟨rfl, hg⟩; obtain ⟨x1, rfl⟩ := hg.later; clear hg)
  all_goals go_ret
  all_goals exact ⟨ret_bool (by rw [HD.out]; apply bool_ext; simp_all; try omega), (by repeat (first | exact Grows.refl _ | refine Grows.now ?_ _ | refine Grows.new ?_ _ | refine Grows.drewN ?_ _ | refine Grows.drew ?_ | assumption | (refine Grows.set ?_ (by first | omega | (simp; done) | (simp; omega)) _)))⟩
end Go.Proofs.Ytomednfddpggaaa
