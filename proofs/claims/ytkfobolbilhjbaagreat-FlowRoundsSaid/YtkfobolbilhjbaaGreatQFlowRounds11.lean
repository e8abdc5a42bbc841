/- Contracts: which demands may be, by the program and by its answer; demands as the program has them. -/
import Derived.Test.YtkfobolbilhjbaaGreatQFlowRounds04
import Derived.Test.YtkfobolbilhjbaaGreatQFlowRounds10
namespace Go.Proofs.YtkfobolbilhjbaaGreat
open Go Go.RowKit
def nowhereB (N : Int) (e : Edg) : Bool := !nodeB N e.f || !nodeB N e.t
def manyB (e : Edg) : Bool := decide (1099511627776 < e.w)
def fRightF (N : Int) (E D : List Edg) : Int := if rightF N E ≠ 0 then 1 else if 1000 < D.length then 5 else if D.any (nowhereB N) then 7 else if D.any manyB then 2 else 0
set_option maxRecDepth 20000 in
set_option maxHeartbeats 1000000 in
theorem indexD (A : Option Addr) (n c : Nat) (E : List Edg) (k : FuncId) (cap : Array Value) (p : Edg → Bool) (w : World) (h : Rd w A 3 n (esCells E)) (hn : n ≤ 1000000) (hk : ∀ args W, (callFunc k args).run Tryz.prog W = .ok (.enter k args) W)
    (hf : ∀ W, Grows w W → ∀ e, Calls Tryz.prog k (#[eVal e] ++ cap) W fun x w' => x = .returned (.bool (p e)) ∧ Grows W w') :
    Calls Tryz.prog 53 #[.slice A n c, .func (.func k) #[] cap] w fun e w' => e = .returned (.int .i64 (firstI p E)) ∧ Grows w w' := by
  have HL := hide h.elen
  have HR := hide h
  have HF := hide hf
  clear h hf
  unfold eVal at HF
  go_enter Tryz.func53, Tryz.ntmps53
  go_wp2
  go_loopw [8] (fun i wr => ∃ k : Nat, k ≤ n ∧ i = .int .i64 (k : Int) ∧ (∃ x : Later w, wr = x.now) ∧ ∀ j, j < k → p (ge E j) = false) (fun i _ => n - (intOf i).toNat)
  case atStart => exact ⟨0, by omega, by go_num, ⟨⟨w, Grows.refl w⟩, rfl⟩, fun j h1 => by omega⟩
  case round =>
    obtain ⟨q, hq, rfl, ⟨x, rfl⟩, hall⟩ := hrel
    have HA := hide hall
    clear hall
    by_cases hend : n ≤ q
    · go_wp2
      go_ret
      refine ⟨ret_int ?_, GG⟩
      have hl := HL.out
      have hh := HA.out
      rw [firstI_none]
      intro e he
      obtain ⟨j, hj, rfl⟩ := List.mem_iff_getElem.1 he
      have := hh j (by omega)
      simpa [ge, hj] using this
    · obtain ⟨b, off, rfl, hc⟩ := HR.out.edges (by omega)
      obtain ⟨hc1, hc2, hc3⟩ := hc q (by omega)
      clear hc
      go_wp2_with fail
      refine (HF.out _ GG (ge E q)).mono ?_; rintro e w' ⟨rfl, hg⟩; obtain ⟨x1, rfl⟩ := Grows.later2 hg; clear hg
      cases hp : p (ge E q) with
      | true =>
        have HW : Hid (firstI p E = q) := firstI_at p ⟨0, 0, 0⟩ E q (by have := HL.out; omega) HA.out hp
        clear hp
        go_wp2
        go_ret
        exact ⟨ret_int HW.out.symm, GG⟩
      | false =>
        have HP := hide hp
        clear hp
        go_wp2
        go_roundw
        case measure => simp [intOf]; omega
        case rel =>
          refine ⟨q + 1, by omega, by go_num, ⟨_, rfl⟩, fun j h1 => ?_⟩
          by_cases hj : j = q
          · rw [hj]; exact HP.out
          · exact HA.out j (by omega)

set_option maxHeartbeats 1000000 in
theorem containsD (A : Option Addr) (n c : Nat) (E : List Edg) (k : FuncId) (cap : Array Value) (p : Edg → Bool) (w : World) (h : Rd w A 3 n (esCells E)) (hn : n ≤ 1000000) (hk : ∀ args W, (callFunc k args).run Tryz.prog W = .ok (.enter k args) W)
    (hf : ∀ W, Grows w W → ∀ e, Calls Tryz.prog k (#[eVal e] ++ cap) W fun x w' => x = .returned (.bool (p e)) ∧ Grows W w') :
    Calls Tryz.prog 32 #[.slice A n c, .func (.func k) #[] cap] w fun e w' => e = .returned (.bool (E.any p)) ∧ Grows w w' := by
  have HC := hide (indexD A n c E k cap p w h hn hk hf)
  have HV := hide (firstI_any p E)
  clear h hf hk
  go_enter Tryz.func32, Tryz.ntmps32
  go_wp2_with (first | (go_at_call 53; refine (HC.out).mono ?_; rintro e w' ⟨rfl, hg⟩; (first | obtain ⟨x, rfl⟩ := Grows.later2 hg | obtain ⟨x, rfl⟩ := Grows.later hg); clear hg))
  all_goals go_ret
  all_goals exact ⟨ret_bool (by rw [← HV.out]), GG⟩


set_option maxHeartbeats 400000 in
theorem fRight2 (x : Edg) (w : World) : Calls Tryz.prog 31 #[eVal x] w fun e w' => e = .returned (.bool (manyB x)) ∧ Grows w w' := by
  unfold eVal
  go_enter Tryz.func31, Tryz.ntmps31
  go_wp2
  all_goals go_ret
  all_goals exact ⟨ret_bool (by unfold manyB; first | rfl | (apply bool_ext; simp)), GG⟩
set_option maxHeartbeats 1000000 in
theorem fRight1 (x : Edg) (N : Int) (s : Value) (g : Nat) (w : World) (c0 : w.cell? ⟨g, 0, none⟩ = some (.int .i64 N)) (c1 : w.cell? ⟨g, 1, none⟩ = some s) :
    Calls Tryz.prog 29 #[eVal x, .pointer (some ⟨g, 0, none⟩)] w fun e w' => e = .returned (.bool (nowhereB N x)) ∧ Grows w w' := by
  unfold eVal
  have C1 := fun W => gNode N x.f s W
  have C2 := fun W => gNode N x.t s W
  cases h1 : nodeB N x.f with
  | false =>
    have HW : Hid (nowhereB N x = true) := by unfold nowhereB; rw [h1]; rfl
    rw [h1] at C1
    have H1 := hide C1
    clear C1 C2 h1
    go_enter Tryz.func29, Tryz.ntmps29
    go_wp2_with (first | (go_at_call 30; refine (H1.out _).mono ?_; rintro e w' ⟨rfl, hg⟩; (first | obtain ⟨x, rfl⟩ := Grows.later2 hg | obtain ⟨x, rfl⟩ := Grows.later hg); clear hg))
    go_ret
    exact ⟨ret_bool HW.out.symm, GG⟩
  | true =>
    have HW : Hid (nowhereB N x = !nodeB N x.t) := by unfold nowhereB; rw [h1]; rfl
    rw [h1] at C1
    have H1 := hide C1
    have H2 := hide C2
    clear C1 C2 h1
    go_enter Tryz.func29, Tryz.ntmps29
    go_wp2_with fail
    refine (H1.out _).mono ?_; rintro e w' ⟨rfl, hg⟩; obtain ⟨x1, rfl⟩ := Grows.later hg; clear hg
    go_wp2_with fail
    refine (H2.out _).mono ?_; rintro e w' ⟨rfl, hg⟩; obtain ⟨x2, rfl⟩ := Grows.later2 hg; clear hg
    go_wp2
    go_ret
    exact ⟨ret_bool HW.out.symm, GG⟩
set_option maxHeartbeats 4000000 in
theorem fRight (N : Int) (A : Option Addr) (c : Nat) (E : List Edg) (B : Option Addr) (d : Nat) (D : List Edg) (w : World) (h : Rd w A 3 E.length (esCells E)) (hD : Rd w B 3 D.length (esCells D)) (hn : E.length ≤ 1000000) (hd : D.length ≤ 1000000) :
    Calls Tryz.prog 15 #[.agg #[.int .i64 N, .slice A E.length c], .slice B D.length d] w fun e w' => e = .returned (.int .i64 (fRightF N E D)) ∧ Grows w w' := by
  have C0 := hide (fun (W : World) (g : Grows w W) => gRight N A E.length c E W (h.grows g) hn)
  have HD := hide hD
  have K1 := fun args W => run_callGo (P := Tryz.prog) Tryz.func29 (by kernel_rfl) (by kernel_rfl) args W
  have K2 := fun args W => run_callGo (P := Tryz.prog) Tryz.func31 (by kernel_rfl) (by kernel_rfl) args W
  have HK1 := hide K1
  have HK2 := hide K2
  clear K1 K2 h hD
  by_cases h0 : rightF N E = 0
  · rw [h0] at C0
    by_cases h1 : 1000 < D.length
    · have HW : Hid (fRightF N E D = 5) := by unfold fRightF; rw [if_neg (by omega), if_pos h1]; rfl
      clear h0
      go_enter Tryz.func15, Tryz.ntmps15
      go_wp2_with (first | (go_at_call 20; refine (C0.out _ GG).mono ?_; rintro e w' ⟨rfl, hg⟩; (first | obtain ⟨x, rfl⟩ := Grows.later2 hg | obtain ⟨x, rfl⟩ := Grows.later hg); clear hg))
      go_ret
      exact ⟨ret_int HW.out.symm, GG⟩
    · have C1 := fun (W : World) (g : Grows w W) c0 c1 => containsD B D.length d D 29 #[.pointer (some ⟨w.heap.size, 0, none⟩)] (nowhereB N) W (HD.out.grows g) hd HK1.out (fun W' g' e => fRight1 e N (.slice A E.length c) w.heap.size W' (g'.keeps c0) (g'.keeps c1))
      have C2 := fun (W : World) (g : Grows w W) => containsD B D.length d D 31 #[] manyB W (HD.out.grows g) hd HK2.out (fun W' _ e => fRight2 e W')
      cases hl : D.any (nowhereB N) with
      | true =>
        have HW : Hid (fRightF N E D = 7) := by unfold fRightF; rw [if_neg (by omega), if_neg h1, hl]; rfl
        rw [hl] at C1
        have H1 := hide C1
        clear C1 C2 hl h0
        go_enter Tryz.func15, Tryz.ntmps15
        go_wp2_with fail
        refine (C0.out _ GG).mono ?_; rintro e w' ⟨rfl, hg⟩; obtain ⟨x1, rfl⟩ := Grows.later hg; clear hg
        go_wp2_with fail
        refine (H1.out _ GG (by simp [go_sem]) (by simp [go_sem])).mono ?_; rintro e w' ⟨rfl, hg⟩; obtain ⟨x2, rfl⟩ := Grows.later2 hg; clear hg
        go_wp2
        go_ret
        exact ⟨ret_int HW.out.symm, GG⟩
      | false =>
        rw [hl] at C1
        have H1 := hide C1
        clear C1
        cases hh : D.any manyB with
        | true =>
          have HW : Hid (fRightF N E D = 2) := by unfold fRightF; rw [if_neg (by omega), if_neg h1, hl, hh]; rfl
          rw [hh] at C2
          have H2 := hide C2
          clear C2 hl h0 hh
          go_enter Tryz.func15, Tryz.ntmps15
          go_wp2_with fail
          refine (C0.out _ GG).mono ?_; rintro e w' ⟨rfl, hg⟩; obtain ⟨x1, rfl⟩ := Grows.later hg; clear hg
          go_wp2_with fail
          refine (H1.out _ GG (by simp [go_sem]) (by simp [go_sem])).mono ?_; rintro e w' ⟨rfl, hg⟩; obtain ⟨x2, rfl⟩ := Grows.later2 hg; clear hg
          go_wp2_with fail
          refine (H2.out _ GG).mono ?_; rintro e w' ⟨rfl, hg⟩; obtain ⟨x3, rfl⟩ := Grows.later2 hg; clear hg
          go_wp2
          go_ret
          exact ⟨ret_int HW.out.symm, GG⟩
        | false =>
          have HW : Hid (fRightF N E D = 0) := by unfold fRightF; rw [if_neg (by omega), if_neg h1, hl, hh]; rfl
          rw [hh] at C2
          have H2 := hide C2
          clear C2 hl h0 hh
          go_enter Tryz.func15, Tryz.ntmps15
          go_wp2_with fail
          refine (C0.out _ GG).mono ?_; rintro e w' ⟨rfl, hg⟩; obtain ⟨x1, rfl⟩ := Grows.later hg; clear hg
          go_wp2_with fail
          refine (H1.out _ GG (by simp [go_sem]) (by simp [go_sem])).mono ?_; rintro e w' ⟨rfl, hg⟩; obtain ⟨x2, rfl⟩ := Grows.later2 hg; clear hg
          go_wp2_with fail
          refine (H2.out _ GG).mono ?_; rintro e w' ⟨rfl, hg⟩; obtain ⟨x3, rfl⟩ := Grows.later2 hg; clear hg
          go_wp2
          go_ret
          exact ⟨ret_int HW.out.symm, GG⟩
  · have HW : Hid (fRightF N E D = 1) := by unfold fRightF; rw [if_pos h0]; rfl
    have hb : (rightF N E == 0) = false := beq_eq_false_iff_ne.2 h0
    clear h0
    generalize rightF N E = r at *
    go_enter Tryz.func15, Tryz.ntmps15
    go_wp2_with (first | (go_at_call 20; refine (C0.out _ GG).mono ?_; rintro e w' ⟨rfl, hg⟩; (first | obtain ⟨x, rfl⟩ := Grows.later2 hg | obtain ⟨x, rfl⟩ := Grows.later hg); clear hg))
    go_ret
    exact ⟨ret_int HW.out.symm, GG⟩
end Go.Proofs.YtkfobolbilhjbaaGreat

namespace Go.Proofs.YtkfobolbilhjbaaGreat
open Go Go.RowKit
set_option maxHeartbeats 1000000 in
theorem r1Has (A : Option Addr) (n c : Nat) (l : List Int) (v : Int) (w : World) (h : Rd w A 1 n (l.map (.int .i64))) (hn : n ≤ 1000000) :
    Calls Tryz.prog 72 #[.slice A n c, .int .i64 v] w fun e w' => e = .returned (.bool (decide (v ∈ l))) ∧ w = w' := by
  have HL := hide (show l.length = n by simpa using h.len)
  have HR := hide h
  clear h
  go_enter Tryz.func72, Tryz.ntmps72
  go_wp2
  go_loop [5] (fun i => ∃ k : Nat, k ≤ n ∧ i = .int .i64 (k : Int) ∧ ∀ j, j < k → gi l j ≠ v) (fun i => n - (intOf i).toNat)
  case atStart => exact ⟨0, by omega, by go_num, fun j h1 => by omega⟩
  case round =>
    obtain ⟨q, hq, rfl, hall⟩ := hrel
    have HA := hide hall
    clear hall
    by_cases hend : n ≤ q
    · go_wp2
      go_ret
      refine ⟨ret_bool (decide_eq_false fun hm => ?_).symm, rfl⟩
      obtain ⟨j, hj, e⟩ := mem_gi hm
      exact HA.out j (by have := HL.out; omega) e
    · obtain ⟨b, off, rfl, hc⟩ := HR.out.ints (by omega)
      have hc1 := hc q (by omega)
      clear hc
      by_cases hv : gi l q = v
      · have HV := hide (show v ∈ l from hv ▸ gi_mem (by have := HL.out; omega))
        have hd : (gi l q == v) = true := by simpa using hv
        clear hv
        go_wp2
        go_ret
        exact ⟨ret_bool (decide_eq_true HV.out).symm, rfl⟩
      · have HV := hide hv
        have hd : (gi l q == v) = false := by simpa using hv
        clear hv
        go_wp2
        go_round
        case measure => simp [intOf]; omega
        case rel =>
          refine ⟨q + 1, by omega, by go_num, fun j h1 => ?_⟩
          by_cases hj : j = q
          · rw [hj]; exact HV.out
          · exact HA.out j (by omega)

end Go.Proofs.YtkfobolbilhjbaaGreat

