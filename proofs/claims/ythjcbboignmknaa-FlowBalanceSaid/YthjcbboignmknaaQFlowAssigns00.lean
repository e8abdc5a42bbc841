/- The chapter's example: one demand on one edge. -/
import Derived.Test.YthjcbboignmknaaQCanonAll15
import Derived.Test.YthjcbboignmknaaQCanonAll17
import Derived.Test.YthjcbboignmknaaQCanonAll05
/- Contracts: which demands may be, by the program and by its answer; demands as the program has them. -/
namespace Go.Proofs.Ythjcbboignmknaa
open Go Go.RowKit
/-- A demand is made of two nodes and a number, as an edge is. Is one of its ends no node? -/
def nowhereB (N : Int) (e : Edg) : Bool := !nodeB N e.f || !nodeB N e.t
def manyB (e : Edg) : Bool := decide (1099511627776 < e.w)
/-- Why demands may not be; 0: they may. -/
def fRightF (N : Int) (E D : List Edg) : Int := if rightF N E ≠ 0 then 1 else if 1000 < D.length then 5 else if D.any (nowhereB N) then 7 else if D.any manyB then 2 else 0
set_option maxRecDepth 20000 in
set_option maxHeartbeats 1000000 in
theorem indexD (A : Option Addr) (n c : Nat) (E : List Edg) (k : FuncId) (cap : Array Value) (p : Edg → Bool) (w : World) (h : Rd w A 3 n (esCells E)) (hn : n ≤ 1000000) (hk : ∀ args W, (callFunc k args).run Try.prog W = .ok (.enter k args) W)
    (hf : ∀ W, Grows w W → ∀ e, Calls Try.prog k (#[eVal e] ++ cap) W fun x w' => x = .returned (.bool (p e)) ∧ Grows W w') :
    Calls Try.prog 153 #[.slice A n c, .func (.func k) #[] cap] w fun e w' => e = .returned (.int .i64 (firstI p E)) ∧ Grows w w' := by
  have HL := hide h.elen
  have HR := hide h
  have HF := hide hf
  clear h hf
  unfold eVal at HF
  go_enter Try.func153, Try.ntmps153
  go_wp2
  go_loopw [8] (fun i wr => ∃ k : Nat, k ≤ n ∧ i = .int .i64 (k : Int) ∧ (∃ x : Later w, wr = x.now) ∧ ∀ j, j < k → p (ge E j) = false) (fun i _ => n - (intOf i).toNat)
  case atStart => exact ⟨0, by omega, by go_num, ⟨⟨w, Grows.refl w⟩, rfl⟩, fun j h1 => by omega⟩
  case round =>
    obtain ⟨q, hq, rfl, ⟨x, rfl⟩, hall⟩ := hrel
    have HA := hide hall
    clear hall
    by_cases hend : n ≤ q
    · go_wp2
      go_ret
      refine ⟨ret_int ?_, (by repeat (first | exact Grows.refl _ | refine Grows.now ?_ _ | refine Grows.new ?_ _ | refine Grows.drewN ?_ _ | refine Grows.drew ?_ | assumption | (refine Grows.set ?_ (by first | omega | (simp; done) | (simp; omega)) _)))⟩
      have hl := HL.out
      have hh := HA.out
      rw [firstI_none]
      intro e he
      obtain ⟨j, hj, rfl⟩ := List.mem_iff_getElem.1 he
      have := hh j (by omega)
      simpa [ge, hj] using this
    · obtain ⟨b, off, rfl, hc⟩ := HR.out.edges (by omega)
      obtain ⟨hc1, hc2, hc3⟩ := hc q (by omega)
      clear hc
      go_wp2_with fail
      refine (HF.out _ (by repeat (first | exact Grows.refl _ | refine Grows.now ?_ _ | refine Grows.new ?_ _ | refine Grows.drewN ?_ _ | refine Grows.drew ?_ | assumption | (refine Grows.set ?_ (by first | omega | (simp; done) | (simp; omega)) _))) (ge E q)).mono ?_; rintro e w' ⟨rfl, hg⟩; obtain ⟨x1, rfl⟩ := Grows.later2 hg; clear hg
      cases hp : p (ge E q) with
      | true =>
        have HW : Hid (firstI p E = q) := firstI_at p ⟨0, 0, 0⟩ E q (by have := HL.out; omega) HA.out hp
        clear hp
        go_wp2
        go_ret
        exact ⟨ret_int HW.out.symm, (by repeat (first | exact Grows.refl _ | refine Grows.now ?_ _ | refine Grows.new ?_ _ | refine Grows.drewN ?_ _ | refine Grows.drew ?_ | assumption | (refine Grows.set ?_ (by first | omega | (simp; done) | (simp; omega)) _)))⟩
      | false =>
        have HP := hide hp
        clear hp
        go_wp2
        go_roundw
        case measure => simp [intOf]; omega
        case rel =>
          refine ⟨q + 1, by omega, by go_num, ⟨_, rfl⟩, fun j h1 => ?_⟩
          by_cases hj : j = q
          · rw [hj]; exact HP.out
          · exact HA.out j (by omega)

set_option maxHeartbeats 1000000 in
theorem containsD (A : Option Addr) (n c : Nat) (E : List Edg) (k : FuncId) (cap : Array Value) (p : Edg → Bool) (w : World) (h : Rd w A 3 n (esCells E)) (hn : n ≤ 1000000) (hk : ∀ args W, (callFunc k args).run Try.prog W = .ok (.enter k args) W)
    (hf : ∀ W, Grows w W → ∀ e, Calls Try.prog k (#[eVal e] ++ cap) W fun x w' => x = .returned (.bool (p e)) ∧ Grows W w') :
    Calls Try.prog 96 #[.slice A n c, .func (.func k) #[] cap] w fun e w' => e = .returned (.bool (E.any p)) ∧ Grows w w' := by
  have HC := hide (indexD A n c E k cap p w h hn hk hf)
  have HV := hide (firstI_any p E)
  clear h hf hk
  go_enter Try.func96, Try.ntmps96
  go_wp2_with (first | (go_at_call 153; refine (HC.out).mono ?_; rintro e w' ⟨rfl, hg⟩; (first | obtain ⟨x, rfl⟩ := Grows.later2 hg | obtain ⟨x, rfl⟩ := Grows.later hg); clear hg))
  all_goals go_ret
  all_goals exact ⟨ret_bool (by rw [← HV.out]), (by repeat (first | exact Grows.refl _ | refine Grows.now ?_ _ | refine Grows.new ?_ _ | refine Grows.drewN ?_ _ | refine Grows.drew ?_ | assumption | (refine Grows.set ?_ (by first | omega | (simp; done) | (simp; omega)) _)))⟩


set_option maxHeartbeats 400000 in
theorem fRight2 (x : Edg) (w : World) : Calls Try.prog 95 #[eVal x] w fun e w' => e = .returned (.bool (manyB x)) ∧ Grows w w' := by
  unfold eVal
  go_enter Try.func95, Try.ntmps95
  go_wp2
  all_goals go_ret
  all_goals exact ⟨ret_bool (by unfold manyB; first | rfl | (apply bool_ext; simp)), (by repeat (first | exact Grows.refl _ | refine Grows.now ?_ _ | refine Grows.new ?_ _ | refine Grows.drewN ?_ _ | refine Grows.drew ?_ | assumption | (refine Grows.set ?_ (by first | omega | (simp; done) | (simp; omega)) _)))⟩
set_option maxHeartbeats 1000000 in
theorem fRight1 (x : Edg) (N : Int) (s : Value) (g : Nat) (w : World) (c0 : w.cell? ⟨g, 0, none⟩ = some (.int .i64 N)) (c1 : w.cell? ⟨g, 1, none⟩ = some s) :
    Calls Try.prog 94 #[eVal x, .pointer (some ⟨g, 0, none⟩)] w fun e w' => e = .returned (.bool (nowhereB N x)) ∧ Grows w w' := by
  unfold eVal
  have C1 := fun W => gNode N x.f s W
  have C2 := fun W => gNode N x.t s W
  cases h1 : nodeB N x.f with
  | false =>
    have HW : Hid (nowhereB N x = true) := by unfold nowhereB; rw [h1]; rfl
    rw [h1] at C1
    have H1 := hide C1
    clear C1 C2 h1
    go_enter Try.func94, Try.ntmps94
    go_wp2_with (first | (go_at_call 75; refine (H1.out _).mono ?_; rintro e w' ⟨rfl, hg⟩; (first | obtain ⟨x, rfl⟩ := Grows.later2 hg | obtain ⟨x, rfl⟩ := Grows.later hg); clear hg))
    go_ret
    exact ⟨ret_bool HW.out.symm, (by repeat (first | exact Grows.refl _ | refine Grows.now ?_ _ | refine Grows.new ?_ _ | refine Grows.drewN ?_ _ | refine Grows.drew ?_ | assumption | (refine Grows.set ?_ (by first | omega | (simp; done) | (simp; omega)) _)))⟩
  | true =>
    have HW : Hid (nowhereB N x = !nodeB N x.t) := by unfold nowhereB; rw [h1]; rfl
    rw [h1] at C1
    have H1 := hide C1
    have H2 := hide C2
    clear C1 C2 h1
    go_enter Try.func94, Try.ntmps94
    go_wp2_with fail
    refine (H1.out _).mono ?_; rintro e w' ⟨rfl, hg⟩; obtain ⟨x1, rfl⟩ := Grows.later hg; clear hg
    go_wp2_with fail
    refine (H2.out _).mono ?_; rintro e w' ⟨rfl, hg⟩; obtain ⟨x2, rfl⟩ := Grows.later2 hg; clear hg
    go_wp2
    go_ret
    exact ⟨ret_bool HW.out.symm, (by repeat (first | exact Grows.refl _ | refine Grows.now ?_ _ | refine Grows.new ?_ _ | refine Grows.drewN ?_ _ | refine Grows.drew ?_ | assumption | (refine Grows.set ?_ (by first | omega | (simp; done) | (simp; omega)) _)))⟩
set_option maxHeartbeats 4000000 in
theorem fRight (N : Int) (A : Option Addr) (c : Nat) (E : List Edg) (B : Option Addr) (d : Nat) (D : List Edg) (w : World) (h : Rd w A 3 E.length (esCells E)) (hD : Rd w B 3 D.length (esCells D)) (hn : E.length ≤ 1000000) (hd : D.length ≤ 1000000) :
    Calls Try.prog 42 #[.agg #[.int .i64 N, .slice A E.length c], .slice B D.length d] w fun e w' => e = .returned (.int .i64 (fRightF N E D)) ∧ Grows w w' := by
  have C0 := hide (fun (W : World) (g : Grows w W) => gRight N A E.length c E W (h.grows g) hn)
  have HD := hide hD
  have K1 := fun args W => run_callGo (P := Try.prog) Try.func94 (by kernel_rfl) (by kernel_rfl) args W
  have K2 := fun args W => run_callGo (P := Try.prog) Try.func95 (by kernel_rfl) (by kernel_rfl) args W
  have HK1 := hide K1
  have HK2 := hide K2
  clear K1 K2 h hD
  by_cases h0 : rightF N E = 0
  · rw [h0] at C0
    by_cases h1 : 1000 < D.length
    · have HW : Hid (fRightF N E D = 5) := by unfold fRightF; rw [if_neg (by omega), if_pos h1]; rfl
      clear h0
      go_enter Try.func42, Try.ntmps42
      go_wp2_with (first | (go_at_call 90; refine (C0.out _ (by repeat (first | exact Grows.refl _ | refine Grows.now ?_ _ | refine Grows.new ?_ _ | refine Grows.drewN ?_ _ | refine Grows.drew ?_ | assumption | (refine Grows.set ?_ (by first | omega | (simp; done) | (simp; omega)) _)))).mono ?_; rintro e w' ⟨rfl, hg⟩; (first | obtain ⟨x, rfl⟩ := Grows.later2 hg | obtain ⟨x, rfl⟩ := Grows.later hg); clear hg))
      go_ret
      exact ⟨ret_int HW.out.symm, (by repeat (first | exact Grows.refl _ | refine Grows.now ?_ _ | refine Grows.new ?_ _ | refine Grows.drewN ?_ _ | refine Grows.drew ?_ | assumption | (refine Grows.set ?_ (by first | omega | (simp; done) | (simp; omega)) _)))⟩
    · have C1 := fun (W : World) (g : Grows w W) c0 c1 => containsD B D.length d D 94 #[.pointer (some ⟨w.heap.size, 0, none⟩)] (nowhereB N) W (HD.out.grows g) hd HK1.out (fun W' g' e => fRight1 e N (.slice A E.length c) w.heap.size W' (g'.keeps c0) (g'.keeps c1))
      have C2 := fun (W : World) (g : Grows w W) => containsD B D.length d D 95 #[] manyB W (HD.out.grows g) hd HK2.out (fun W' _ e => fRight2 e W')
      cases hl : D.any (nowhereB N) with
      | true =>
        have HW : Hid (fRightF N E D = 7) := by unfold fRightF; rw [if_neg (by omega), if_neg h1, hl]; rfl
        rw [hl] at C1
        have H1 := hide C1
        clear C1 C2 hl h0
        go_enter Try.func42, Try.ntmps42
        go_wp2_with fail
        refine (C0.out _ (by repeat (first | exact Grows.refl _ | refine Grows.now ?_ _ | refine Grows.new ?_ _ | refine Grows.drewN ?_ _ | refine Grows.drew ?_ | assumption | (refine Grows.set ?_ (by first | omega | (simp; done) | (simp; omega)) _)))).mono ?_; rintro e w' ⟨rfl, hg⟩; obtain ⟨x1, rfl⟩ := Grows.later hg; clear hg
        go_wp2_with fail
        refine (H1.out _ (by repeat (first | exact Grows.refl _ | refine Grows.now ?_ _ | refine Grows.new ?_ _ | refine Grows.drewN ?_ _ | refine Grows.drew ?_ | assumption | (refine Grows.set ?_ (by first | omega | (simp; done) | (simp; omega)) _))) (by simp [go_sem]) (by simp [go_sem])).mono ?_; rintro e w' ⟨rfl, hg⟩; obtain ⟨x2, rfl⟩ := Grows.later2 hg; clear hg
        go_wp2
        go_ret
        exact ⟨ret_int HW.out.symm, (by repeat (first | exact Grows.refl _ | refine Grows.now ?_ _ | refine Grows.new ?_ _ | refine Grows.drewN ?_ _ | refine Grows.drew ?_ | assumption | (refine Grows.set ?_ (by first | omega | (simp; done) | (simp; omega)) _)))⟩
      | false =>
        rw [hl] at C1
        have H1 := hide C1
        clear C1
        cases hh : D.any manyB with
        | true =>
          have HW : Hid (fRightF N E D = 2) := by unfold fRightF; rw [if_neg (by omega), if_neg h1, hl, hh]; rfl
          rw [hh] at C2
          have H2 := hide C2
          clear C2 hl h0 hh
          go_enter Try.func42, Try.ntmps42
          go_wp2_with fail
          refine (C0.out _ (by repeat (first | exact Grows.refl _ | refine Grows.now ?_ _ | refine Grows.new ?_ _ | refine Grows.drewN ?_ _ | refine Grows.drew ?_ | assumption | (refine Grows.set ?_ (by first | omega | (simp; done) | (simp; omega)) _)))).mono ?_; rintro e w' ⟨rfl, hg⟩; obtain ⟨x1, rfl⟩ := Grows.later hg; clear hg
          go_wp2_with fail
          refine (H1.out _ (by repeat (first | exact Grows.refl _ | refine Grows.now ?_ _ | refine Grows.new ?_ _ | refine Grows.drewN ?_ _ | refine Grows.drew ?_ | assumption | (refine Grows.set ?_ (by first | omega | (simp; done) | (simp; omega)) _))) (by simp [go_sem]) (by simp [go_sem])).mono ?_; rintro e w' ⟨rfl, hg⟩; obtain ⟨x2, rfl⟩ := Grows.later2 hg; clear hg
          go_wp2_with fail
          refine (H2.out _ (by repeat (first | exact Grows.refl _ | refine Grows.now ?_ _ | refine Grows.new ?_ _ | refine Grows.drewN ?_ _ | refine Grows.drew ?_ | assumption | (refine Grows.set ?_ (by first | omega | (simp; done) | (simp; omega)) _)))).mono ?_; rintro e w' ⟨rfl, hg⟩; obtain ⟨x3, rfl⟩ := Grows.later2 hg; clear hg
          go_wp2
          go_ret
          exact ⟨ret_int HW.out.symm, (by repeat (first | exact Grows.refl _ | refine Grows.now ?_ _ | refine Grows.new ?_ _ | refine Grows.drewN ?_ _ | refine Grows.drew ?_ | assumption | (refine Grows.set ?_ (by first | omega | (simp; done) | (simp; omega)) _)))⟩
        | false =>
          have HW : Hid (fRightF N E D = 0) := by unfold fRightF; rw [if_neg (by omega), if_neg h1, hl, hh]; rfl
          rw [hh] at C2
          have H2 := hide C2
          clear C2 hl h0 hh
          go_enter Try.func42, Try.ntmps42
          go_wp2_with fail
          refine (C0.out _ (by repeat (first | exact Grows.refl _ | refine Grows.now ?_ _ | refine Grows.new ?_ _ | refine Grows.drewN ?_ _ | refine Grows.drew ?_ | assumption | (refine Grows.set ?_ (by first | omega | (simp; done) | (simp; omega)) _)))).mono ?_; rintro e w' ⟨rfl, hg⟩; obtain ⟨x1, rfl⟩ := Grows.later hg; clear hg
          go_wp2_with fail
          refine (H1.out _ (by repeat (first | exact Grows.refl _ | refine Grows.now ?_ _ | refine Grows.new ?_ _ | refine Grows.drewN ?_ _ | refine Grows.drew ?_ | assumption | (refine Grows.set ?_ (by first | omega | (simp; done) | (simp; omega)) _))) (by simp [go_sem]) (by simp [go_sem])).mono ?_; rintro e w' ⟨rfl, hg⟩; obtain ⟨x2, rfl⟩ := Grows.later2 hg; clear hg
          go_wp2_with fail
          refine (H2.out _ (by repeat (first | exact Grows.refl _ | refine Grows.now ?_ _ | refine Grows.new ?_ _ | refine Grows.drewN ?_ _ | refine Grows.drew ?_ | assumption | (refine Grows.set ?_ (by first | omega | (simp; done) | (simp; omega)) _)))).mono ?_; rintro e w' ⟨rfl, hg⟩; obtain ⟨x3, rfl⟩ := Grows.later2 hg; clear hg
          go_wp2
          go_ret
          exact ⟨ret_int HW.out.symm, (by repeat (first | exact Grows.refl _ | refine Grows.now ?_ _ | refine Grows.new ?_ _ | refine Grows.drewN ?_ _ | refine Grows.drew ?_ | assumption | (refine Grows.set ?_ (by first | omega | (simp; done) | (simp; omega)) _)))⟩
  · have HW : Hid (fRightF N E D = 1) := by unfold fRightF; rw [if_pos h0]; rfl
    have hb : (rightF N E == 0) = false := beq_eq_false_iff_ne.2 h0
    clear h0
    generalize rightF N E = r at *
    go_enter Try.func42, Try.ntmps42
    go_wp2_with (first | (go_at_call 90; refine (C0.out _ (by repeat (first | exact Grows.refl _ | refine Grows.now ?_ _ | refine Grows.new ?_ _ | refine Grows.drewN ?_ _ | refine Grows.drew ?_ | assumption | (refine Grows.set ?_ (by first | omega | (simp; done) | (simp; omega)) _)))).mono ?_; rintro e w' ⟨rfl, hg⟩; (first | obtain ⟨x, rfl⟩ := Grows.later2 hg | obtain ⟨x, rfl⟩ := Grows.later hg); clear hg))
    go_ret
    exact ⟨ret_int HW.out.symm, (by repeat (first | exact Grows.refl _ | refine Grows.now ?_ _ | refine Grows.new ?_ _ | refine Grows.drewN ?_ _ | refine Grows.drew ?_ | assumption | (refine Grows.set ?_ (by first | omega | (simp; done) | (simp; omega)) _)))⟩
end Go.Proofs.Ythjcbboignmknaa

/- What demands do: which loads come of the shortest ways. -/
namespace Go.Proofs.Ythjcbboignmknaa
open Go Go.RowKit
theorem IsPath.edges {E : List Edg} {o : DOpt} {N s t : Int} {l : List Nat} {f : Nat} {r : Int} (h : IsPath E o N s t l f r) : ∀ i ∈ l, i < E.length := by
  cases h with
  | bad => intro i hi; cases hi
  | noNode => intro i hi; cases hi
  | noPath => intro i hi; cases hi
  | way NN sN tN xs l hN hs ht hok hf hn hl => exact hl.edges
theorem IsPath.ways2 {E : List Edg} {o : DOpt} {N s t : Int} {l : List Nat} {f : Nat} (hp : IsPath E o N s t l f 0) : ∃ (NN sN tN : Nat) (ys : List (Nat × Nat)), N = NN ∧ s = sN ∧ t = tN ∧ PathOk NN sN tN E o ys ∧ f = gn (outL NN ys) sN ∧ gn (outL NN ys) sN < farV ∧ Near (srchOf NN E (backO o)) (outL NN ys) tN ∧ Fol (srchOf NN E (backO o)) (outL NN ys) tN sN l := by
  generalize h0 : (0 : Int) = r at hp
  cases hp with
  | bad hd => exact absurd h0.symm hd
  | noNode => cases h0
  | noPath => cases h0
  | way NN sN tN xs l hN hs ht hok hf hn hl => exact ⟨NN, sN, tN, xs, hN, hs, ht, hok, rfl, hf, hn, hl⟩
/-- Each edge of a way gets so many more. -/
def addOne (n : Int) (L : List Int) (e : Nat) : List Int := L.set e (IntKind.u64.wrap (gi L e + n))
def addAt (L : List Int) (n : Int) (es : List Nat) : List Int := es.foldl (addOne n) L
theorem addOne_len (n : Int) (L : List Int) (e : Nat) : (addOne n L e).length = L.length := by simp [addOne]
theorem addAt_len (n : Int) (es : List Nat) : ∀ L : List Int, (addAt L n es).length = L.length := by
  induction es with
  | nil => intro L; rfl
  | cons e es ih => intro L; exact (ih _).trans (addOne_len n L e)
theorem addAt_succ (L : List Int) (n : Int) (es : List Nat) (k : Nat) (hk : k < es.length) : addAt L n (es.take (k + 1)) = addOne n (addAt L n (es.take k)) (gn es k) := by
  have e1 : es.take (k + 1) = es.take k ++ [gn es k] := by
    rw [List.take_succ_eq_append_getElem hk]
    have : gn es k = es[k] := by simp [gn, hk]
    rw [this]
  unfold addAt
  rw [e1, List.foldl_append]
  rfl
/-- The ways that the demands go, each with its fault; what comes of the first k of them: loads, and how many are lost. -/
abbrev Ways := Nat → List Nat × Nat × Int
def asgS (D : List Edg) (P : Ways) (m : Nat) : Nat → List Int × Int
  | 0 => (List.replicate m 0, 0)
  | k + 1 => if (P k).2.2 = 0 then (addAt (asgS D P m k).1 (ge D k).w (P k).1, (asgS D P m k).2) else ((asgS D P m k).1, IntKind.u64.wrap ((asgS D P m k).2 + (ge D k).w))
theorem asgS_len (D : List Edg) (P : Ways) (m k : Nat) : (asgS D P m k).1.length = m := by
  induction k with
  | zero => simp [asgS]
  | succ k ih =>
    unfold asgS
    split
    · rw [addAt_len]; exact ih
    · exact ih
def WaysOf (E : List Edg) (o : DOpt) (N : Int) (D : List Edg) (P : Ways) : Prop := ∀ k, k < D.length → IsPath E o N (ge D k).f (ge D k).t (P k).1 (P k).2.1 (P k).2.2
theorem ways_any (E : List Edg) (o : DOpt) (N : Int) (D : List Edg) (hnn : o.nn.length ≤ 1000000) (hne : o.ne.length ≤ 1000000) : ∃ P, WaysOf E o N D P := by
  have h : ∀ k : Nat, ∃ p : List Nat × Nat × Int, IsPath E o N (ge D k).f (ge D k).t p.1 p.2.1 p.2.2 := fun k => by
    obtain ⟨l, f, r, hp⟩ := isPath_any E o N (ge D k).f (ge D k).t hnn hne
    exact ⟨(l, f, r), hp⟩
  exact ⟨fun k => Classical.choose (h k), fun k _ => Classical.choose_spec (h k)⟩
theorem fRight_ok {N : Int} {E D : List Edg} (h : fRightF N E D = 0) : rightF N E = 0 ∧ D.length ≤ 1000 ∧ ∀ k, k < D.length → (nodeB N (ge D k).f = true ∧ nodeB N (ge D k).t = true) ∧ (ge D k).w ≤ 1099511627776 := by
  unfold fRightF at h
  split at h
  · cases h
  split at h
  · cases h
  split at h
  · cases h
  split at h
  · cases h
  rename_i h1 h2 h3 h4
  refine ⟨by omega, by omega, fun k hk => ?_⟩
  have hm : ge D k ∈ D := by unfold ge; rw [List.getD_eq_getElem?_getD, List.getElem?_eq_getElem hk]; exact List.getElem_mem hk
  have q1 : nowhereB N (ge D k) = false := by
    cases hh : nowhereB N (ge D k) with
    | false => rfl
    | true => exact absurd (List.any_eq_true.2 ⟨_, hm, hh⟩) h3
  have q2 : manyB (ge D k) = false := by
    cases hh : manyB (ge D k) with
    | false => rfl
    | true => exact absurd (List.any_eq_true.2 ⟨_, hm, hh⟩) h4
  unfold nowhereB at q1
  simp only [Bool.or_eq_false_iff, Bool.not_eq_false'] at q1
  have := of_decide_eq_false q2
  exact ⟨q1, by omega⟩
end Go.Proofs.Ythjcbboignmknaa

/- Contracts: what demands do, by the program. -/
namespace Go.Proofs.Ythjcbboignmknaa
open Go Go.RowKit
def uv (L : List Int) : List Value := L.map (.int .u64)
theorem uv_len (L : List Int) : (uv L).length = L.length := by simp [uv]
theorem uv_at {L : List Int} {j : Nat} (h : j < L.length) : (uv L)[j]? = some (.int .u64 (gi L j)) := by simp [uv, gi, h]
theorem uv_one (n : Int) (L : List Int) (e : Nat) : uv (addOne n L e) = (uv L).set e (.int .u64 (IntKind.u64.wrap (gi L e + n))) := by simp [uv, addOne, List.map_set]
/-- A number is no number of edges: two rows of unlike elements lie apart. -/
theorem Arr.own_ne {w : World} {g lo n c size : Nat} {t e : TypeId} {cs xs : List Value} {A : Option Addr} (h : Arr w g t cs) (ho : Own w lo e size A n c xs) (hte : t ≠ e) : ∀ p, A = some p → p.block ≠ g := fun p hp e1 => by
  have h1 := (ho.ty p hp).2.one (by rw [e1]; exact h.ty)
  exact absurd h1.symm hte
set_option maxRecDepth 20000 in
set_option maxHeartbeats 4000000 in
/-- Each edge of a way gets so many more. -/
theorem fAssign1 (A : Option Addr) (c : Nat) (es : List Nat) (n : Int) (b g : Nat) (L : List Int) (lost : Value) (w : World) (hr : Rd w A 1 es.length (nv es)) (hes : es.length ≤ 1000000) (a : Arr w b 68 [.slice (some ⟨g, 0, none⟩) L.length L.length, lost]) (ag : Arr w g 37 (uv L))
    (he : ∀ e ∈ es, e < L.length) (hne : ∀ p, A = some p → p.block ≠ g) :
    Calls Try.prog 93 #[.slice A es.length c, .int .u64 n, .pointer (some ⟨b, 0, none⟩)] w fun e w' => (∃ v, e = .returned v) ∧ Arr w' g 37 (uv (addAt L n es)) ∧ Touch (fun k => k = g) w w' := by
  have HR := hide hr
  have HE := hide he
  have HN := hide hne
  have hbg : b ≠ g := a.ne ag (by decide)
  have HA := hide a
  have HG := hide ag
  clear hr he hne a ag
  go_enter Try.func93, Try.ntmps93
  go_wp2_with fail
  go_loopw [9] (fun i wr => ∃ k : Nat, k ≤ es.length ∧ i = .int .i64 (k : Int) ∧ Touch (fun k => k = g) w wr ∧ Arr wr g 37 (uv (addAt L n (es.take k)))) (fun i _ => es.length - (Go.RowKit.intOf i).toNat)
  case atStart => exact ⟨0, by omega, by go_num, Touch.refl _ _, by rw [List.take_zero]; exact HG.out⟩
  case round =>
    obtain ⟨k, hk, rfl, ht, ag⟩ := hrel
    have HT := hide ht
    by_cases hlt : k < es.length
    · have a1 := HA.out.touch ht hbg
      have hR2 := HR.out.touch ht HN.out
      obtain ⟨bE, oE, rfl, hc⟩ := hR2.at_ (by omega)
      have c1 : Holds wr ⟨bE, oE + k, none⟩ (.int .i64 (gn es k : Int)) := ⟨hc k _ (nv_at hlt)⟩
      have hin : gn es k < L.length := HE.out _ (by unfold gn; rw [List.getD_eq_getElem?_getD, List.getElem?_eq_getElem hlt]; exact List.getElem_mem hlt)
      have hll : (addAt L n (es.take k)).length = L.length := addAt_len _ _ _
      have m1 : Mine wr ⟨g, gn es k, none⟩ (.int .u64 (gi (addAt L n (es.take k)) (gn es k))) := ag.mine _ (uv_at (by rw [hll]; exact hin))
      have HS := hide (addAt_succ L n es k hlt)
      have HAG := hide ag
      clear hc ht ag hR2 hll
      generalize addAt L n (es.take k) = L' at *
      go_wp2_with fail
      go_roundw
      case measure => simp [Go.RowKit.intOf]; omega
      case rel =>
        refine ⟨k + 1, by omega, by go_num, HT.out.set (.inl rfl) _, ?_⟩
        rw [HS.out, uv_one]
        exact HAG.out.set _ _
    · have hke : es.take k = es := List.take_of_length_le (by omega)
      rw [hke] at ag
      have HAG := hide ag
      clear ag ht hke
      go_wp2_with fail
      go_end0
      exact ⟨⟨_, rfl⟩, HAG.out, HT.out⟩
end Go.Proofs.Ythjcbboignmknaa

/- Contract: what demands do, by the program. -/
namespace Go.Proofs.Ythjcbboignmknaa
open Go Go.RowKit
/-- What comes of demands: loads, who is lost, and the fault. -/
def asgR (N : Int) (E D : List Edg) (o : DOpt) (P : Ways) : List Int × Int × Int :=
  if fRightF N E D ≠ 0 then ([], 0, fRightF N E D) else if dcF N 0 E o.W ≠ 0 then ([], 0, dcF N 0 E o.W) else ((asgS D P E.length D.length).1, (asgS D P E.length D.length).2, 0)
def AsgP (w : World) (L : List Int) (lost f : Int) (e : Ending) (w' : World) : Prop := ∃ A c, e = .returned (.tuple #[.agg #[.slice A L.length c, .int .u64 lost], .int .i64 f]) ∧ Rd w' A 1 L.length (uv L) ∧ (∀ p, A = some p → w.heap.size ≤ p.block) ∧ Grows w w'
/-- Between two demands. -/
def AsgI (w : World) (b3 b5 b6 g : Nat) (G O : List Value) (n : Nat) (L : List Int) (lost : Int) (W : World) : Prop :=
  (∃ y : Later w, W = y.now) ∧ Arr W b3 24 G ∧ Arr W b5 39 O ∧ Arr W b6 68 [.slice (some ⟨g, 0, none⟩) n n, .int .u64 lost] ∧ Arr W g 37 (uv L)
set_option maxRecDepth 40000 in
set_option maxHeartbeats 16000000 in
theorem fAssign (N : Int) (A : Option Addr) (c : Nat) (E : List Edg) (B : Option Addr) (d : Nat) (D : List Edg) (o : DOpt) (An Ae Aw : Option Addr) (cn ce cw : Nat) (P : Ways) (w : World) (h : Rd w A 3 E.length (esCells E)) (hD : Rd w B 3 D.length (esCells D)) (h2 : Rd w An 1 o.nn.length (o.nn.map (.int .i64))) (h3 : Rd w Ae 1 o.ne.length (o.ne.map (.int .i64))) (h4 : Rd w Aw 1 o.W.length (wv o.W))
    (hn : E.length ≤ 1000000) (hn3 : o.W.length ≤ 1000000) (hd : D.length ≤ 1000000) (hP : WaysOf E o N D P) :
    Calls Try.prog 38 #[.agg #[.int .i64 N, .slice A E.length c], .slice B D.length d, oVal o.back (.slice An o.nn.length cn) (.slice Ae o.ne.length ce) Aw o.W.length cw o.most] w (AsgP w (asgR N E D o P).1 (asgR N E D o P).2.1 (asgR N E D o P).2.2) := by
  have C1 := hide (fun (W : World) (g : Grows w W) => fRight N A c E B d D W (h.grows g) (hD.grows g) hn hd)
  have C2 := hide (fun (W : World) (g : Grows w W) => show Calls Try.prog 82 #[.agg #[.int .i64 N, .slice A E.length c], .int .i64 0, .agg #[.bool o.back, .slice An o.nn.length cn, .slice Ae o.ne.length ce, .slice Aw o.W.length cw, .int .u64 (o.most : Int)]] W fun e w' => e = .returned (.int .i64 (dcF N 0 E o.W)) ∧ Grows W w' from djCheck N 0 A E.length c E o.back (.slice An o.nn.length cn) (.slice Ae o.ne.length ce) Aw o.W.length cw o.most o.W W (h.grows g) (h4.grows g) hn hn3)
  unfold oVal
  by_cases hf : fRightF N E D = 0
  · by_cases hc : dcF N 0 E o.W = 0
    · have e1 : asgR N E D o P = ((asgS D P E.length D.length).1, (asgS D P E.length D.length).2, 0) := by unfold asgR; rw [if_neg (by omega), if_neg (by omega)]
      rw [e1]
      rw [hf] at C1
      rw [hc] at C2
      have HD := hide hD
      have HP := hide hP
      have K1 := hide (fun (k : Nat) (hk : k < D.length) (W1 : World) (g : Grows w W1) => show Calls Try.prog 30 #[.agg #[.int .i64 N, .slice A E.length c], .int .i64 (ge D k).f, .int .i64 (ge D k).t, .agg #[.bool o.back, .slice An o.nn.length cn, .slice Ae o.ne.length ce, .slice Aw o.W.length cw, .int .u64 (o.most : Int)]] W1 fun e w' =>
          ∃ A' c', e = .returned (.tuple #[.agg #[.slice A' (P k).1.length c', .int .u64 ((P k).2.1 : Int)], .int .i64 (P k).2.2]) ∧ Own w' W1.heap.size 3 1 A' (P k).1.length c' (nv (P k).1) ∧ Grows W1 w' from
        caPath N _ _ A c E o An Ae Aw cn ce cw _ _ _ W1 (h.grows g) (h2.grows g) (h3.grows g) (h4.grows g) hn hn3 (hP k hk))
      clear e1 h h2 h3 h4 hD hP hf hc
      have hm : E.length ≤ 1000000 := hn
      generalize o.most = mo at *
      generalize o.back = back at *
      go_enter Try.func38, Try.ntmps38
      go_wp2_with fail
      refine (C1.out _ (by repeat (first | exact Grows.refl _ | refine Grows.now ?_ _ | refine Grows.new ?_ _ | refine Grows.drewN ?_ _ | refine Grows.drew ?_ | assumption | (refine Grows.set ?_ (by first | omega | (simp; done) | (simp; omega)) _)))).mono ?_; rintro e w' ⟨rfl, hg⟩; obtain ⟨x1, rfl⟩ := Grows.later hg; clear hg
      go_wp2_with fail
      refine (C2.out _ (by repeat (first | exact Grows.refl _ | refine Grows.now ?_ _ | refine Grows.new ?_ _ | refine Grows.drewN ?_ _ | refine Grows.drew ?_ | assumption | (refine Grows.set ?_ (by first | omega | (simp; done) | (simp; omega)) _)))).mono ?_; rintro e W0 ⟨rfl, hg⟩
      have a3 : Arr W0 w.heap.size 24 [.int .i64 N, .slice A E.length c] := Arr.grow ⟨by simp [heap_push, Array.getElem_push, Array.getElem?_push, eq_add2]⟩ (x1.grows.trans hg)
      have a5 : Arr W0 (w.heap.size + 1) 39 [.bool back, .slice An o.nn.length cn, .slice Ae o.ne.length ce, .slice Aw o.W.length cw, .int .u64 (mo : Int)] := Arr.grow ⟨by simp [heap_push, Array.getElem_push, Array.getElem?_push, eq_add2]⟩ (x1.grows.trans hg)
      have a6 : Arr W0 (w.heap.size + 1 + 1) 68 [.slice none 0 0, .int .u64 0] := Arr.grow ⟨by simp [heap_push, Array.getElem_push, Array.getElem?_push, eq_add2]⟩ (x1.grows.trans hg)
      have hgw : Grows w W0 := Grows.trans (by show Grows w x1.now; exact (by repeat (first | exact Grows.refl _ | refine Grows.now ?_ _ | refine Grows.new ?_ _ | refine Grows.drewN ?_ _ | refine Grows.drew ?_ | assumption | (refine Grows.set ?_ (by first | omega | (simp; done) | (simp; omega)) _)))) hg
      clear hg C1 C2
      obtain ⟨lo, hlo⟩ : ∃ lo, w.heap.size = lo := ⟨_, rfl⟩
      have hl3 : w.heap.size ≤ lo := by omega
      have hl6 : lo < lo + 1 ∧ lo + 1 < lo + 1 + 1 := by omega
      rw [hlo] at a3 a5 a6 ⊢
      clear hlo
      generalize lo + 1 + 1 = b6 at *
      generalize lo + 1 = b5 at *
      obtain ⟨y0, rfl⟩ := hgw.later
      clear hgw
      have mk := run_makeU64s E.length (by omega)
      have hb6 := a6.ty.lt
      go_wp2_with fail
      have hgr := y0.grows.size
      have HI0 : Hid (AsgI w lo b5 b6 y0.now.heap.size [.int .i64 N, .slice A E.length c] [.bool back, .slice An o.nn.length cn, .slice Ae o.ne.length ce, .slice Aw o.W.length cw, .int .u64 (mo : Int)] E.length (asgS D P E.length 0).1 (asgS D P E.length 0).2
          ((y0.now.setCell ⟨b6, 0, none⟩ (.slice (some ⟨y0.now.heap.size, 0, none⟩) E.length E.length)).alloc (.cells (Array.replicate E.length (Value.int .u64 0)) 37))) := by
        refine ⟨⟨⟨_, (y0.grows.set (p := ⟨b6, 0, none⟩) (by show _ ≤ b6; omega) _).new _⟩, rfl⟩, (a3.other (p := ⟨b6, 0, none⟩) (by show b6 ≠ lo; omega) _).grow ((Grows.refl _).new _), (a5.other (p := ⟨b6, 0, none⟩) (by show b6 ≠ b5; omega) _).grow ((Grows.refl _).new _), (a6.set 0 _).grow ((Grows.refl _).new _), ?_⟩
        have := Arr.make (y0.now.setCell ⟨b6, 0, none⟩ (.slice (some ⟨y0.now.heap.size, 0, none⟩) E.length E.length)) (List.replicate E.length (Value.int .u64 0)) 37
        rw [size_setCell] at this
        simpa [uv, asgS] using this
      clear a3 a5 a6 mk
      have hgb : b6 < y0.now.heap.size := hb6
      generalize hgg : y0.now.heap.size = g at *
      clear hgg hb6
      go_loopw [37] (fun i wr => ∃ k : Nat, k ≤ D.length ∧ i = .int .i64 (k : Int) ∧ AsgI w lo b5 b6 g [.int .i64 N, .slice A E.length c] [.bool back, .slice An o.nn.length cn, .slice Ae o.ne.length ce, .slice Aw o.W.length cw, .int .u64 (mo : Int)] E.length (asgS D P E.length k).1 (asgS D P E.length k).2 wr) (fun i _ => D.length - (Go.RowKit.intOf i).toNat)
      case atStart => exact ⟨0, by omega, by go_num, HI0.out⟩
      case round =>
        clear HI0
        obtain ⟨k, hk, rfl, ⟨y, rfl⟩, a3, a5, a6, ag⟩ := hrel
        have HGL := ag.ty.lt
        by_cases hlt : k < D.length
        · obtain ⟨bD, oD, rfl, hcc⟩ := HD.out.edgesH (by omega)
          obtain ⟨z1, z2, z3⟩ := hcc k hlt
          have hle : (asgS D P E.length k).1.length = E.length := asgS_len D P E.length k
          have HLE := hide hle
          have HAG := hide ag
          clear hcc ag hle
          go_wp2_with fail
          refine (K1.out k hlt _ (by repeat (first | exact Grows.refl _ | refine Grows.now ?_ _ | refine Grows.new ?_ _ | refine Grows.drewN ?_ _ | refine Grows.drew ?_ | assumption | (refine Grows.set ?_ (by first | omega | (simp; done) | (simp; omega)) _)))).mono ?_; rintro e W1 ⟨A', c', rfl, ho, hg⟩
          have gn1 := ((Grows.refl y.now).new (.cells #[.int .i64 (ge D k).f, .int .i64 (ge D k).t, .int .u64 (ge D k).w] 141)).trans hg
          have a12 : Arr W1 y.now.heap.size 141 [.int .i64 (ge D k).f, .int .i64 (ge D k).t, .int .u64 (ge D k).w] := (Arr.make _ _ _).grow hg
          replace a3 := a3.grow gn1
          replace a5 := a5.grow gn1
          replace a6 := a6.grow gn1
          have HAG := hide (HAG.out.grow gn1)
          have HO := hide ho
          have hyg := y.grows.trans gn1
          have hys := y.grows.size
          have hgy := a12.ty.lt
          have hyl := (HAG.out.ty.lt)
          have hb12 : g < y.now.heap.size := HGL
          clear ho hg gn1
          generalize y.now.heap.size = b12 at *
          obtain ⟨y1, rfl⟩ := hyg.later
          clear hyg
          by_cases hr : (P k).2.2 = 0
          · have hS1 : asgS D P E.length (k + 1) = (addAt (asgS D P E.length k).1 (ge D k).w (P k).1, (asgS D P E.length k).2) := by rw [asgS, if_pos hr]
            have HS1 := hide hS1
            have hsh : (P k).1.length ≤ 1000000 := by have := (HP.out k hlt).short.1; omega
            have hed := (HP.out k hlt).edges
            rw [← HLE.out] at hed
            have CL := hide (fun (W : World) (g1 : Grows y1.now W) => fAssign1 A' c' (P k).1 (ge D k).w b6 g (asgS D P E.length k).1 (.int .u64 (asgS D P E.length k).2) W (HO.out.rd.grows g1) hsh (by rw [HLE.out]; exact a6.grow g1) (HAG.out.grow g1) hed (HAG.out.own_ne HO.out (by decide)))
            have hr9 : ((P k).2.2 == 0) = true := by simp [hr]
            rw [hr]
            clear hS1 hr hr9 K1 hsh hed HO HAG
            generalize asgS D P E.length k = S at *
            go_wp2_with fail
            refine (CL.out _ ((Grows.refl _).new _)).mono ?_; rintro e W3 ⟨⟨v, rfl⟩, ag3, ht⟩
            have hyg3 : Grows w W3 := ht.later (y1.grows.new _) (fun k hk => by rw [hk]; omega)
            replace a3 := (a3.grow ((Grows.refl _).new (.cells #[.slice A' (P k).1.length c', .int .u64 ((P k).2.1 : Int)] 53))).touch ht (by omega)
            replace a5 := (a5.grow ((Grows.refl _).new (.cells #[.slice A' (P k).1.length c', .int .u64 ((P k).2.1 : Int)] 53))).touch ht (by omega)
            replace a6 := (a6.grow ((Grows.refl _).new (.cells #[.slice A' (P k).1.length c', .int .u64 ((P k).2.1 : Int)] 53))).touch ht (by omega)
            have HAG3 := hide ag3
            clear ht ag3 CL
            obtain ⟨y3, rfl⟩ := hyg3.later
            clear hyg3
            go_wp2_with fail
            go_roundw
            case measure => simp [Go.RowKit.intOf]; omega
            case rel =>
              refine ⟨k + 1, by omega, by go_num, ?_⟩
              rw [HS1.out]
              exact ⟨⟨_, rfl⟩, a3, a5, a6, HAG3.out⟩
          · have hS1 : asgS D P E.length (k + 1) = ((asgS D P E.length k).1, IntKind.u64.wrap ((asgS D P E.length k).2 + (ge D k).w)) := by rw [asgS, if_neg hr]
            have HS1 := hide hS1
            have hr9 : ((P k).2.2 == 0) = false := beq_eq_false_iff_ne.2 hr
            clear hS1 hr K1
            generalize asgS D P E.length k = S at *
            go_wp2_with fail
            go_roundw
            case measure => simp [Go.RowKit.intOf]; omega
            case rel =>
              refine ⟨k + 1, by omega, by go_num, ?_⟩
              rw [HS1.out]
              exact ⟨⟨⟨_, (y1.grows.new _).set (p := ⟨b6, 1, none⟩) (by show _ ≤ b6; omega) _⟩, rfl⟩, (a3.grow ((Grows.refl _).new _)).other (p := ⟨b6, 1, none⟩) (by show b6 ≠ lo; omega) _, (a5.grow ((Grows.refl _).new _)).other (p := ⟨b6, 1, none⟩) (by show b6 ≠ b5; omega) _, (a6.grow ((Grows.refl _).new _)).set 1 _, (HAG.out.grow ((Grows.refl _).new _)).other (p := ⟨b6, 1, none⟩) (by show b6 ≠ g; omega) _⟩
        · have hkk : k = D.length := by omega
          subst hkk
          have HLE := hide (asgS_len D P E.length D.length)
          have HAG := hide ag
          clear ag
          generalize asgS D P E.length D.length = S at *
          go_wp2_with fail
          refine bodyPost_ret (v := .tuple #[.agg #[.slice (some ⟨g, 0, none⟩) E.length E.length, .int .u64 S.2], .int .i64 0]) (by simp (maxDischargeDepth := 6) [results, Try.results38, go_sem, *]) rfl ?_
          have hag := (HAG.out.other (p := ⟨b6, 0, none⟩) (by show b6 ≠ g; omega) (.slice (some ⟨g, 0, none⟩) E.length E.length)).other (p := ⟨b6, 1, none⟩) (by show b6 ≠ g; omega) (.int .u64 S.2)
          refine ⟨some ⟨g, 0, none⟩, E.length, by rw [HLE.out], hag.rd (by rw [uv_len]; omega), fun p hp => (by injection hp with hp; subst hp; show _ ≤ g; omega), (y.grows.set (p := ⟨b6, 0, none⟩) (by show _ ≤ b6; omega) _).set (p := ⟨b6, 1, none⟩) (by show _ ≤ b6; omega) _⟩
    · have e1 : asgR N E D o P = ([], 0, dcF N 0 E o.W) := by unfold asgR; rw [if_neg (by omega), if_pos hc]
      rw [e1]
      rw [hf] at C1
      have hr9 : (dcF N 0 E o.W == 0) = false := beq_eq_false_iff_ne.2 hc
      clear e1 h h2 h3 h4 hD hP hf hc
      generalize dcF N 0 E o.W = r at *
      generalize o.most = mo at *
      generalize o.back = back at *
      go_enter Try.func38, Try.ntmps38
      go_wp2_with fail
      refine (C1.out _ (by repeat (first | exact Grows.refl _ | refine Grows.now ?_ _ | refine Grows.new ?_ _ | refine Grows.drewN ?_ _ | refine Grows.drew ?_ | assumption | (refine Grows.set ?_ (by first | omega | (simp; done) | (simp; omega)) _)))).mono ?_; rintro e w' ⟨rfl, hg⟩; obtain ⟨x1, rfl⟩ := Grows.later hg; clear hg
      go_wp2_with fail
      refine (C2.out _ (by repeat (first | exact Grows.refl _ | refine Grows.now ?_ _ | refine Grows.new ?_ _ | refine Grows.drewN ?_ _ | refine Grows.drew ?_ | assumption | (refine Grows.set ?_ (by first | omega | (simp; done) | (simp; omega)) _)))).mono ?_; rintro e W0 ⟨rfl, hg⟩; obtain ⟨x2, hx2⟩ : ∃ x2 : Later x1.now, W0 = x2.now := hg.later; subst hx2; clear hg
      go_wp2_with fail
      refine bodyPost_ret (v := .tuple #[.agg #[.slice none 0 0, .int .u64 0], .int .i64 r]) (by simp (maxDischargeDepth := 6) [results, Try.results38, go_sem, *]) rfl ?_
      exact ⟨none, 0, rfl, ⟨rfl, fun h => absurd h (by simp)⟩, fun p hp => (by cases hp), (by repeat (first | exact Grows.refl _ | refine Grows.now ?_ _ | refine Grows.new ?_ _ | refine Grows.drewN ?_ _ | refine Grows.drew ?_ | assumption | (refine Grows.set ?_ (by first | omega | (simp; done) | (simp; omega)) _)))⟩
  · have e1 : asgR N E D o P = ([], 0, fRightF N E D) := by unfold asgR; rw [if_pos hf]
    rw [e1]
    have hr9 : (fRightF N E D == 0) = false := beq_eq_false_iff_ne.2 hf
    clear e1 h h2 h3 h4 hD hP hf
    generalize fRightF N E D = r at *
    generalize o.most = mo at *
    generalize o.back = back at *
    go_enter Try.func38, Try.ntmps38
    go_wp2_with fail
    refine (C1.out _ (by repeat (first | exact Grows.refl _ | refine Grows.now ?_ _ | refine Grows.new ?_ _ | refine Grows.drewN ?_ _ | refine Grows.drew ?_ | assumption | (refine Grows.set ?_ (by first | omega | (simp; done) | (simp; omega)) _)))).mono ?_; rintro e w' ⟨rfl, hg⟩; obtain ⟨x1, rfl⟩ := Grows.later hg; clear hg
    go_wp2_with fail
    refine bodyPost_ret (v := .tuple #[.agg #[.slice none 0 0, .int .u64 0], .int .i64 r]) (by simp (maxDischargeDepth := 6) [results, Try.results38, go_sem, *]) rfl ?_
    exact ⟨none, 0, rfl, ⟨rfl, fun h => absurd h (by simp)⟩, fun p hp => (by cases hp), (by repeat (first | exact Grows.refl _ | refine Grows.now ?_ _ | refine Grows.new ?_ _ | refine Grows.drewN ?_ _ | refine Grows.drew ?_ | assumption | (refine Grows.set ?_ (by first | omega | (simp; done) | (simp; omega)) _)))⟩
end Go.Proofs.Ythjcbboignmknaa

/- Contracts: demands as the program has them; are loads the same. -/
namespace Go.Proofs.Ythjcbboignmknaa
open Go Go.RowKit
theorem elemDem : Elem 71 141 3 := by
  have h : (Try.prog.info? 141).map (fun i => (i.zero, i.size, i.bytes)) = some (some (.agg #[.int .i64 0, .int .i64 0, .int .u64 0]), 3, 24) := by kernel_rfl
  obtain ⟨i, hi, hz, hs, hb⟩ := info_parts h
  exact ⟨Try.underlying71, ⟨i, _, 24, hi, hz, hs, hb, rfl, by omega⟩, by omega⟩
theorem ge_take_succ {L : List Edg} {k : Nat} (hk : k < L.length) : L.take (k + 1) = L.take k ++ [ge L k] := by
  rw [List.take_succ_eq_append_getElem hk]
  have : ge L k = L[k] := by simp [ge, hk]
  rw [this]
theorem esCells_snoc (L : List Edg) (e : Edg) : esCells (L ++ [e]) = esCells L ++ eCells e := by simp [esCells]
def GiveD (w : World) (t : TypeId) (L : List Edg) (e : Ending) (w' : World) : Prop := ∃ A c, e = .returned (.slice A L.length c) ∧ Own w' w.heap.size t 3 A L.length c (esCells L) ∧ Grows w w'
theorem e3_new {w : World} {g : Nat} {a b c : Value} (h1 : Holds w ⟨g, 0, none⟩ a) (h2 : Holds w ⟨g, 1, none⟩ b) (h3 : Holds w ⟨g, 2, none⟩ c) : ∀ j u, ([a, b, c] : List Value)[j]? = some u → w.cell? ⟨g, j, none⟩ = some u := by
  intro j u hu
  have hj : j < 3 := by have := (List.getElem?_eq_some_iff.1 hu).1; simpa using this
  match j, hj with
  | 0, _ => simp at hu; subst hu; exact h1.cell
  | 1, _ => simp at hu; subst hu; exact h2.cell
  | 2, _ => simp at hu; subst hu; exact h3.cell
/-- A slice of one element of three cells that was just made. -/
def Three (v u x : Value) : Pr := fun y w => ∃ g, y = .slice (some ⟨g, 0, none⟩) 1 1 ∧ Holds w ⟨g, 0, none⟩ v ∧ Holds w ⟨g, 1, none⟩ u ∧ Holds w ⟨g, 2, none⟩ x
theorem Three.lasts (v u x : Value) : Lasts (Three v u x) := fun _ _ _ hg ⟨g, e, h, h2, h3⟩ => ⟨g, e, ⟨hg.keeps h.cell⟩, ⟨hg.keeps h2.cell⟩, ⟨hg.keeps h3.cell⟩⟩
set_option maxRecDepth 20000 in
set_option maxHeartbeats 4000000 in
theorem law47of (B : Option Addr) (m d : Nat) (L : List Edg) (w : World) (hc : Rd w B 3 m (esCells L)) (hm : m ≤ 1000000) :
    Calls Try.prog 39 #[.slice B m d] w (GiveD w 141 L) := by
  have HLm := hide hc.elen
  have HC := hide hc
  clear hc
  go_enter Try.func39, Try.ntmps39
  go_wp2_with fail
  go_loopw [4, 3] (fun i u wr => ∃ k : Nat, k ≤ m ∧ i = .int .i64 (k : Int) ∧ ∃ y : Later w, wr = y.now ∧ ∃ A1 c1, u = .slice A1 k c1 ∧ Own y.now w.heap.size 141 3 A1 k c1 (esCells (L.take k))) (fun i _ _ => m - (intOf i).toNat)
  case atStart => exact ⟨0, by omega, by go_num, ⟨_, Grows.refl _⟩, rfl, none, 0, rfl, Own.nil _ _ _ _⟩
  case round =>
    obtain ⟨k, hk, rfl, y, rfl, A1, c1, rfl, hown⟩ := hrel
    have HO := hide hown
    clear hown
    by_cases hend : m ≤ k
    · have hkm : k = m := by omega
      subst hkm
      go_wp2
      go_ret
      refine ⟨A1, c1, by rw [HLm.out]; rfl, ?_, (by repeat (first | exact Grows.refl _ | refine Grows.now ?_ _ | refine Grows.new ?_ _ | refine Grows.drewN ?_ _ | refine Grows.drew ?_ | assumption | (refine Grows.set ?_ (by first | omega | (simp; done) | (simp; omega)) _)))⟩
      have := HO.out
      rw [← HLm.out, List.take_length] at this
      rw [HLm.out] at this ⊢
      exact this
    · obtain ⟨b, off, rfl, hcc⟩ := HC.out.edgesH (by omega)
      obtain ⟨c2, c3, c4⟩ := hcc k (by omega)
      clear hcc
      have HN := hide (ge_take_succ (L := L) (k := k) (by rw [HLm.out]; omega))
      generalize ge L k = x at *
      obtain ⟨e, v, u⟩ := x
      dsimp only at c2 c3 c4
      go_wp2_with fail
      (refine wp_region_tail1 18 (by kernel_rfl) (by kernel_rfl) ?_; simp only [List.take_succ_cons, List.take_zero, List.drop_succ_cons, List.drop_zero]; (repeat' (first | (refine gLex_val0 rfl (by kernel_rfl) (fun K hK => ?_); (go_simp; (try (simp only [↓IntWalk.iteOmega]; try go_simp)); (try simp (disch := omega) only [IntWalk.i64_in]); (try simp (disch := omega) only [IntWalk.u64_in]); first | (refine hK _ ?_; clear hK K) | (apply Exists.intro; refine ⟨fun x => ?_, hK _ ?_⟩; (first | fail); clear hK K))) | (refine gLex_undef rfl rfl rfl (by kernel_rfl) (fun K hK => ?_); go_simp; refine hK _ ?_; clear hK K) | (refine gLex_ask rfl rfl rfl ?_; first | (apply gAsk_yes; kernel_rfl; intro K hK; (go_simp; (try (simp only [↓IntWalk.iteOmega]; try go_simp)); (try simp (disch := omega) only [IntWalk.i64_in]); (try simp (disch := omega) only [IntWalk.u64_in]); first | (refine hK _ ?_; clear hK K) | (apply Exists.intro; refine ⟨fun x => ?_, hK _ ?_⟩; (first | fail); clear hK K))) | ((first | apply gAsk_no1 | apply gAsk_no2); kernel_rfl; intro K hK; simp [go_sem]; refine hK _ ?_; clear hK K)))); refine gLex_prop rfl (by kernel_rfl) rfl (by simp) (Three (.int .i64 e) (.int .i64 v) (.int .u64 u)) (Three.lasts _ _ _) (fun x => by (go_simp; exact ⟨(Grows.refl _).new _, _, rfl, inferInstance, inferInstance, inferInstance⟩)) ?_; refine gLex_endT1 (by simp) (fun x v hv => ?_); obtain ⟨gnew, rfl, hgnew, hgnew2, hgnew3⟩ := hv; simp only [Act.put, List.setIfInBounds_toArray, List.set_cons_zero, List.set_cons_succ])
      go_wp2_with (at_builtin; refine wp_appS elemDem rfl _ _ rfl w (by repeat (first | exact Grows.refl _ | refine Grows.now ?_ _ | refine Grows.new ?_ _ | refine Grows.drewN ?_ _ | refine Grows.drew ?_ | assumption | (refine Grows.set ?_ (by first | omega | (simp; done) | (simp; omega)) _))) k c1 A1 _ rfl (HO.out.grows (by repeat (first | exact Grows.refl _ | refine Grows.now ?_ _ | refine Grows.new ?_ _ | refine Grows.drewN ?_ _ | refine Grows.drew ?_ | assumption | (refine Grows.set ?_ (by first | omega | (simp; done) | (simp; omega)) _)))) _ _ [.int .i64 e, .int .i64 v, .int .u64 u] rfl rfl (e3_new hgnew hgnew2 hgnew3) (by intro u hu; simp at hu; rcases hu with rfl | rfl | rfl <;> rfl) (by omega) ?_; intro A3 c3 y3 hown3; have HO3 := hide hown3; clear hown3)
      refine ⟨⟨k + 1, by omega, by go_num, y3, rfl, A3, c3, rfl, ?_⟩, by simp [intOf]; omega⟩
      rw [HN.out, esCells_snoc]
      exact HO3.out
def light47 (N : Int) (n m : Nat) : Bool := light14 N n 0 0 0 && decide (N ≤ 12 ∨ 4096 < N) && decide (n ≤ 60) && decide (m ≤ 20 ∨ (1000 < m ∧ m < 1100))
set_option maxRecDepth 20000 in
set_option maxHeartbeats 4000000 in
theorem lLight47 (N : Int) (A : Option Addr) (n c : Nat) (B : Option Addr) (m d : Nat) (w : World) : Calls Try.prog 36 #[.agg #[.int .i64 N, .slice A n c], .slice B m d] w fun e w' => e = .returned (.bool (light47 N n m)) ∧ Grows w w' := by
  have CL := fun (W1 : World) => lLight14 N A n c false none none none 0 0 0 0 0 0 0 W1
  unfold oVal at CL
  cases h1 : light14 N n 0 0 0 with
  | false =>
    rw [h1] at CL
    have HW : Hid (light47 N n m = false) := by unfold light47; rw [h1]; rfl
    have H1 := hide CL
    clear CL h1
    go_enter Try.func36, Try.ntmps36
    go_wp2_with (first | (go_at_call 22; refine (H1.out _).mono ?_; rintro e w' ⟨rfl, hg⟩; (first | obtain ⟨x, rfl⟩ := Grows.later2 hg | obtain ⟨x, rfl⟩ := Grows.later hg); clear hg))
    go_ret
    exact ⟨ret_bool HW.out.symm, (by repeat (first | exact Grows.refl _ | refine Grows.now ?_ _ | refine Grows.new ?_ _ | refine Grows.drewN ?_ _ | refine Grows.drew ?_ | assumption | (refine Grows.set ?_ (by first | omega | (simp; done) | (simp; omega)) _)))⟩
  | true =>
    rw [h1] at CL
    have HW : Hid (light47 N n m = (decide (N ≤ 12 ∨ 4096 < N) && decide (n ≤ 60) && decide (m ≤ 20 ∨ (1000 < m ∧ m < 1100)))) := by unfold light47; rw [h1]; rfl
    have H1 := hide CL
    clear CL h1
    go_enter Try.func36, Try.ntmps36
    go_wp2_with (first | (go_at_call 22; refine (H1.out _).mono ?_; rintro e w' ⟨rfl, hg⟩; (first | obtain ⟨x, rfl⟩ := Grows.later2 hg | obtain ⟨x, rfl⟩ := Grows.later hg); clear hg))
    all_goals go_ret
    all_goals exact ⟨ret_bool (by rw [HW.out]; apply bool_ext; simp; try omega), (by repeat (first | exact Grows.refl _ | refine Grows.now ?_ _ | refine Grows.new ?_ _ | refine Grows.drewN ?_ _ | refine Grows.drew ?_ | assumption | (refine Grows.set ?_ (by first | omega | (simp; done) | (simp; omega)) _)))⟩
set_option maxRecDepth 20000 in
set_option maxHeartbeats 4000000 in
/-- Two reports are the same. -/
theorem law47same (A : Option Addr) (c : Nat) (L : List Nat) (lost : Int) (A2 : Option Addr) (c2 : Nat) (w : World) (h : Rd w A 1 L.length (wv L)) (h2 : Rd w A2 1 L.length (wv L)) (hl : L.length ≤ 1000000) :
    Calls Try.prog 41 #[.agg #[.slice A L.length c, .int .u64 lost], .agg #[.slice A2 L.length c2, .int .u64 lost]] w fun e w' => e = .returned (.bool true) ∧ Grows w w' := by
  have C := hide (fun (W : World) (g : Grows w W) => show Calls Try.prog 92 #[.slice A L.length c, .slice A2 L.length c2] W fun e w' => e = .returned (.bool true) ∧ Grows W w' from by
    have := r1Wide A L.length c L A2 L.length c2 L W (h.grows g) (h2.grows g) hl hl
    rw [decide_eq_true rfl] at this
    exact this)
  clear h h2
  go_enter Try.func41, Try.ntmps41
  go_wp2_with (first | (go_at_call 92; refine (C.out _ (by repeat (first | exact Grows.refl _ | refine Grows.now ?_ _ | refine Grows.new ?_ _ | refine Grows.drewN ?_ _ | refine Grows.drew ?_ | assumption | (refine Grows.set ?_ (by first | omega | (simp; done) | (simp; omega)) _)))).mono ?_; rintro e w' ⟨rfl, hg⟩; (first | obtain ⟨x, rfl⟩ := Grows.later2 hg | obtain ⟨x, rfl⟩ := Grows.later hg); clear hg))
  go_ret
  exact ⟨rfl, (by repeat (first | exact Grows.refl _ | refine Grows.now ?_ _ | refine Grows.new ?_ _ | refine Grows.drewN ?_ _ | refine Grows.drew ?_ | assumption | (refine Grows.set ?_ (by first | omega | (simp; done) | (simp; omega)) _)))⟩
end Go.Proofs.Ythjcbboignmknaa

/- The chapter's example: one demand on one edge. -/
namespace Go.Proofs.Ythjcbboignmknaa
open Go Go.RowKit
def faE : List Edg := [⟨0, 1, 3⟩]
def faD : List Edg := [⟨0, 1, 5⟩]
def faO : DOpt := ⟨false, [], [], [], 0⟩
def faDist (v : Nat) : Nat := if v = 0 then 3 else 0
theorem faIs : IsPath faE faO 2 0 1 [0] 3 0 := by
  have hw : wtF ((2 : Nat) : Int) faE faO.W = [3] := by decide +kernel
  obtain ⟨xs, hx⟩ := path_walk (NN := 2) (sN := 0) (tN := 1) (E := faE) (o := faO) (by decide +kernel) (by omega) (by show 0 ≤ _; omega) (by show 0 ≤ _; omega)
  have hnn : ((1 : Nat) : Int) ∉ faO.nn := by simp [faO]
  have hf := hx.far hnn
  have hnear := hx.near hnn
  have hww : ∀ j, gn (srchOf 2 faE (backO faO)).W j = gn [3] j := fun j => by show gn (wtF ((2 : Nat) : Int) faE faO.W) j = _; rw [hw]
  have w1 : Way (srchOf 2 faE (backO faO)) 1 0 3 := by
    have := Way.step (x := srchOf 2 faE (backO faO)) (s := 1) (f := 0) (i := 0) (by exact Way.here) (by decide) (by decide)
    rw [hww] at this
    exact this
  have ge : ∀ {v f}, Way (srchOf 2 faE (backO faO)) 1 v f → faDist v ≤ f := fun {v f} h => Way.ge (x := srchOf 2 faE (backO faO)) faDist rfl (fun i hi => by
    have hi : i < 1 := hi
    rw [hww]
    match i, hi with
    | 0, _ => decide) h
  have d0 : gn (outL 2 xs) 0 = 3 := hf.is (v := 0) rfl (by show 0 < 2; omega) w1 (fun g hg => ge hg)
  have hz : gn (outL 2 xs) 1 = 0 := hnear.zero
  have hfol : Fol (srchOf 2 faE (backO faO)) (outL 2 xs) 1 0 [0] := by
    refine Fol.step (i := 0) (by omega) (by decide) (by decide) ?_ (fun j hj => by omega) ?_
    · have e1 : tN (srchOf 2 faE (backO faO)).E 0 = 1 := by decide
      unfold nearB
      rw [e1, hz, d0, hww]
      decide
    · exact Fol.here
  have := IsPath.way (E := faE) (o := faO) 2 0 1 xs [0] rfl rfl rfl hx (by rw [d0]; decide) hnear hfol
  rw [d0] at this
  exact this
def faP : Ways := fun _ => ([0], 3, 0)
theorem faWays : WaysOf faE faO 2 faD faP := fun k hk => by
  have : k = 0 := by have h : k < 1 := hk; omega
  subst this
  exact faIs
theorem faR : asgR 2 faE faD faO faP = ([5], 0, 0) := by decide +kernel
set_option maxRecDepth 20000 in
set_option maxHeartbeats 4000000 in
theorem alive47 (w : World) : Calls Try.prog 37 #[] w fun e w' => e = .returned (.bool true) ∧ Grows w w' := by
  have C := hide (fun (W : World) (A B : Option Addr) (h : Rd W A 3 1 (esCells faE)) (hD : Rd W B 3 1 (esCells faD)) => show Calls Try.prog 38 #[.agg #[.int .i64 2, .slice A 1 1], .slice B 1 1, .agg #[.bool false, .slice none 0 0, .slice none 0 0, .slice none 0 0, .int .u64 0]] W fun e w' =>
      ∃ A' c', e = .returned (.tuple #[.agg #[.slice A' 1 c', .int .u64 0], .int .i64 0]) ∧ Rd w' A' 1 1 (wv [5]) ∧ Grows W w' from by
    have := fAssign 2 A 1 faE B 1 faD faO none none none 0 0 0 faP W h hD ⟨rfl, fun h => absurd h (by simp [faO])⟩ ⟨rfl, fun h => absurd h (by simp [faO])⟩ ⟨rfl, fun h => absurd h (by simp [faO])⟩ (by show 1 ≤ _; omega) (by show 0 ≤ _; omega) (by show 1 ≤ _; omega) faWays
    rw [faR] at this
    refine this.mono ?_
    rintro e w' ⟨A', c', h1, h2, _, h3⟩
    exact ⟨A', c', h1, h2, h3⟩)
  go_enter Try.func37, Try.ntmps37
  go_wp2_with fail
  have h1 : Rd ((w.alloc (.cells #[.int .i64 0, .int .i64 1, .int .u64 3] 62)).alloc (.cells #[.int .i64 0, .int .i64 1, .int .u64 5] 141)) (some ⟨w.heap.size, 0, none⟩) 3 1 (esCells faE) := (Rd.made (w := w) (t := 62) (size := 3) (n := 1) (esCells faE) rfl).new _
  have h2 : Rd ((w.alloc (.cells #[.int .i64 0, .int .i64 1, .int .u64 3] 62)).alloc (.cells #[.int .i64 0, .int .i64 1, .int .u64 5] 141)) (some ⟨w.heap.size + 1, 0, none⟩) 3 1 (esCells faD) := by
    have := Rd.made (w := w.alloc (.cells #[.int .i64 0, .int .i64 1, .int .u64 3] 62)) (t := 141) (size := 3) (n := 1) (esCells faD) rfl
    rw [show (w.alloc (.cells #[.int .i64 0, .int .i64 1, .int .u64 3] 62)).heap.size = w.heap.size + 1 by simp] at this
    exact this
  refine (C.out _ _ _ h1 h2).mono ?_
  rintro e w1 ⟨A', c', rfl, ho, hg⟩
  obtain ⟨x, hx⟩ : ∃ x : Later w, w1 = x.now := ((((Grows.refl w).new _).new _).trans hg).later
  subst hx
  have HR := hide (fun (W : World) (hg : Grows x.now W) (A : Option Addr) (h : Rd W A 1 1 (wv [5])) => show Calls Try.prog 92 #[.slice A' 1 c', .slice A 1 1] W fun e w' => e = .returned (.bool true) ∧ Grows W w' from by
    have := r1Wide A' 1 c' [5] A 1 1 [5] W (ho.grows hg) h (by omega) (by omega)
    rw [decide_eq_true rfl] at this
    exact this)
  clear hg ho h1 h2 C
  go_wp2_with fail
  have hR : Rd ((x.now.alloc (.cells #[.slice A' 1 c', .int .u64 0] 68)).alloc (.cells #[.int .u64 5] 37)) (some ⟨x.now.heap.size + 1, 0, none⟩) 1 1 (wv [5]) := by
    have := Rd.made (w := x.now.alloc (.cells #[.slice A' 1 c', .int .u64 0] 68)) (t := 37) (size := 1) (n := 1) [.int .u64 5] rfl
    rw [show (x.now.alloc (.cells #[.slice A' 1 c', .int .u64 0] 68)).heap.size = x.now.heap.size + 1 by simp] at this
    exact this
  refine (HR.out _ (by repeat (first | exact Grows.refl _ | refine Grows.now ?_ _ | refine Grows.new ?_ _ | refine Grows.drewN ?_ _ | refine Grows.drew ?_ | assumption | (refine Grows.set ?_ (by first | omega | (simp; done) | (simp; omega)) _))) _ hR).mono ?_
  rintro e w2 ⟨rfl, hg⟩
  have a1 : Arr w2 x.now.heap.size 68 [.slice A' 1 c', .int .u64 0] := ((Arr.make x.now [.slice A' 1 c', .int .u64 0] 68).grow ((Grows.refl _).new (.cells #[.int .u64 5] 37))).grow hg
  obtain ⟨y, rfl⟩ := Grows.later2 ((((Grows.refl x.now).new _).new _).trans hg)
  clear hg
  go_wp2_with fail
  go_ret
  exact ⟨rfl, (by repeat (first | exact Grows.refl _ | refine Grows.now ?_ _ | refine Grows.new ?_ _ | refine Grows.drewN ?_ _ | refine Grows.drew ?_ | assumption | (refine Grows.set ?_ (by first | omega | (simp; done) | (simp; omega)) _)))⟩
end Go.Proofs.Ythjcbboignmknaa
