/- Contracts: the weights that count, by the program and by its answer; are two rows of wide numbers the same? -/
import Derived.Test.YtomednfddpggaaaQBridgeFarther17
import Derived.Test.YtomednfddpggaaaQBridgeFarther05
/- Contracts: the weights that count, by the program and by its answer; are two rows of wide numbers the same? -/
namespace Go.Proofs.Ytomednfddpggaaa
open Go Go.RowKit
/-- A slice of wide numbers in memory of the call's own. -/
def GiveU (w : World) (L : List Nat) (e : Ending) (w' : World) : Prop := ∃ A c, e = .returned (.slice A L.length c) ∧ Own w' w.heap.size 38 1 A L.length c (wv L) ∧ Grows w w'
theorem GiveU.nil (w : World) {w' : World} (h : Grows w w') : GiveU w [] (.returned (.slice none 0 0)) w' := ⟨none, 0, rfl, Own.nil _ _ _ _, h⟩
set_option maxRecDepth 20000 in
set_option maxHeartbeats 2000000 in
theorem cloneU (A : Option Addr) (n c : Nat) (E : List Nat) (w : World) (h : Rd w A 1 n (wv E)) (hn : n ≤ 1000000) :
    Calls Try.prog 92 #[.slice A n c] w fun e w' => ∃ A' c', e = .returned (.slice A' n c') ∧ Own w' w.heap.size 38 1 A' n c' (wv E) ∧ Grows w w' := by
  cases A with
  | none =>
    have hn0 : n = 0 := by
      rcases Nat.eq_zero_or_pos n with h0 | h0
      · exact h0
      · obtain ⟨_, _, e, _⟩ := h.2 h0 (by omega); cases e
    subst hn0
    have hE : E = [] := List.eq_nil_of_length_eq_zero h.wlen
    subst hE
    clear h
    have hnil := fun (w : World) (a : Option Addr) (n c n' c' : Nat) => Lib.run_eql_slice_nil (P := Try.prog) w 37 38 a n c n' c' Try.underlying37
    go_enter Try.func92, Try.ntmps92
    go_wp2
    go_ret
    exact ⟨none, 0, rfl, Own.nil _ _ _ _, (by repeat (first | exact Grows.refl _ | refine Grows.now ?_ _ | refine Grows.new ?_ _ | refine Grows.drewN ?_ _ | refine Grows.drew ?_ | assumption | (refine Grows.set ?_ (by first | omega | (simp; done) | (simp; omega)) _)))⟩
  | some ad =>
    have HR := hide h
    clear h
    have hnil := fun (w : World) (a : Option Addr) (n c n' c' : Nat) => Lib.run_eql_slice_nil (P := Try.prog) w 37 38 a n c n' c' Try.underlying37
    go_enter Try.func92, Try.ntmps92
    go_wp2_with (at_builtin; refine wp_appAll elemU64.elem rfl _ _ rfl w (by repeat (first | exact Grows.refl _ | refine Grows.now ?_ _ | refine Grows.new ?_ _ | refine Grows.drewN ?_ _ | refine Grows.drew ?_ | assumption | (refine Grows.set ?_ (by first | omega | (simp; done) | (simp; omega)) _))) 0 0 _ [] rfl (Own.empty _ _ _ _ (Nat.le_refl _)) ad n c _ rfl (HR.out.grows (by repeat (first | exact Grows.refl _ | refine Grows.now ?_ _ | refine Grows.new ?_ _ | refine Grows.drewN ?_ _ | refine Grows.drew ?_ | assumption | (refine Grows.set ?_ (by first | omega | (simp; done) | (simp; omega)) _)))) (wv_one E) (by omega) ?_; intro A3 c3 y3 hown3; have HO3 := hide hown3; clear hown3)
    go_ret
    exact ⟨A3, c3, by first | rfl | (simp; done) | (rw [Nat.zero_add]; rfl), by have := HO3.out; rwa [Nat.zero_add, List.nil_append] at this, (by repeat (first | exact Grows.refl _ | refine Grows.now ?_ _ | refine Grows.new ?_ _ | refine Grows.drewN ?_ _ | refine Grows.drew ?_ | assumption | (refine Grows.set ?_ (by first | omega | (simp; done) | (simp; omega)) _)))⟩
def eW (E : List Edg) : List Nat := E.map fun e => e.w.toNat
theorem eW_take (E : List Edg) (k : Nat) (hk : k < E.length) : (eW E).take (k + 1) = (eW E).take k ++ [(ge E k).w.toNat] := by
  have : k < (eW E).length := by simpa [eW] using hk
  rw [List.take_succ_eq_append_getElem this]
  simp [eW, ge, hk]
/-- The weights that count. -/
def wtF (N : Int) (E : List Edg) (W : List Nat) : List Nat := if rightF N E ≠ 0 then [] else if 0 < W.length ∧ W.length ≠ E.length then [] else if 0 < W.length then W else eW E
set_option maxRecDepth 20000 in
set_option maxHeartbeats 4000000 in
theorem djWeights (N : Int) (A : Option Addr) (n c : Nat) (E : List Edg) (back : Bool) (nn ne : Value) (Aw : Option Addr) (nw cw most : Nat) (W : List Nat) (w : World) (h : Rd w A 3 n (esCells E)) (hW : Rd w Aw 1 nw (wv W)) (hn : n ≤ 1000000) (hnw : nw ≤ 1000000) :
    Calls Try.prog 54 #[.agg #[.int .i64 N, .slice A n c], oVal back nn ne Aw nw cw most] w (GiveU w (wtF N E W)) := by
  unfold oVal
  have HL := hide h.elen
  have HLW := hide hW.wlen
  have HR := hide h
  have C1 := hide (fun (W : World) (g : Grows w W) => gRight N A n c E W (h.grows g) hn)
  have C2 := hide (fun (W1 : World) (g : Grows w W1) => cloneU Aw nw cw W W1 (hW.grows g) hnw)
  clear h hW
  by_cases hr : rightF N E = 0
  · rw [hr] at C1
    by_cases hl : 0 < nw ∧ nw ≠ n
    · have HD := hide (show wtF N E W = [] from by unfold wtF; rw [if_neg (show ¬ rightF N E ≠ 0 by omega), HLW.out, HL.out, if_pos hl])
      obtain ⟨hl1, hl2⟩ := hl
      have hl3 : ((nw : Int) == (n : Int)) = false := beq_eq_false_iff_ne.2 (by omega)
      clear hr hl2
      rw [HD.out]
      go_enter Try.func54, Try.ntmps54
      go_wp2_with (go_at_call 36; refine (C1.out _ (by repeat (first | exact Grows.refl _ | refine Grows.now ?_ _ | refine Grows.new ?_ _ | refine Grows.drewN ?_ _ | refine Grows.drew ?_ | assumption | (refine Grows.set ?_ (by first | omega | (simp; done) | (simp; omega)) _)))).mono ?_; rintro e w' ⟨rfl, hg⟩; obtain ⟨x1, rfl⟩ := hg.later; clear hg)
      go_ret
      exact GiveU.nil w (by repeat (first | exact Grows.refl _ | refine Grows.now ?_ _ | refine Grows.new ?_ _ | refine Grows.drewN ?_ _ | refine Grows.drew ?_ | assumption | (refine Grows.set ?_ (by first | omega | (simp; done) | (simp; omega)) _)))
    · by_cases hz : nw = 0
      · have HD := hide (show wtF N E W = eW E from by unfold wtF; rw [if_neg (show ¬ rightF N E ≠ 0 by omega), HLW.out, HL.out, if_neg hl, if_neg (by omega)])
        obtain ⟨r1, r2, r3, r4, r5⟩ := right_in hr
        have HP := hide (show ∀ k, k < n → (ge E k).w = ((ge E k).w.toNat : Int) from fun k hk => by have := (r5 k (by rw [HL.out]; exact hk)).1; omega)
        subst hz
        clear hl hr r4 r5
        rw [HD.out]
        go_enter Try.func54, Try.ntmps54
        go_wp2_with (go_at_call 36; refine (C1.out _ (by repeat (first | exact Grows.refl _ | refine Grows.now ?_ _ | refine Grows.new ?_ _ | refine Grows.drewN ?_ _ | refine Grows.drew ?_ | assumption | (refine Grows.set ?_ (by first | omega | (simp; done) | (simp; omega)) _)))).mono ?_; rintro e w' ⟨rfl, hg⟩; obtain ⟨x1, rfl⟩ := hg.later; clear hg)
        go_loopw [35, 4] (fun i u wr => ∃ k : Nat, k ≤ n ∧ i = .int .i64 (k : Int) ∧ ∃ y : Later x1.now, wr = y.now ∧ ∃ A' c', u = .slice A' k c' ∧ Own y.now x1.now.heap.size 38 1 A' k c' (wv ((eW E).take k))) (fun i _ _ => n - (Go.RowKit.intOf i).toNat)
        case atStart => exact ⟨0, by omega, by go_num, ⟨_, Grows.refl _⟩, rfl, none, 0, by go_num, Own.nil _ _ _ _⟩
        case round =>
          obtain ⟨k, hk, rfl, y, rfl, A', c', rfl, hown⟩ := hrel
          have HO := hide hown
          clear hown
          by_cases hend : n ≤ k
          · obtain rfl : k = n := by omega
            go_wp2
            go_ret
            have hl : (eW E).length = k := by simp [eW, HL.out]
            have ho := HO.out
            rw [List.take_of_length_le (by omega)] at ho
            exact ⟨A', c', by rw [hl]; rfl, by rw [hl]; exact ho.base (by have := x1.size; simp at this; omega), (by repeat (first | exact Grows.refl _ | refine Grows.now ?_ _ | refine Grows.new ?_ _ | refine Grows.drewN ?_ _ | refine Grows.drew ?_ | assumption | (refine Grows.set ?_ (by first | omega | (simp; done) | (simp; omega)) _)))⟩
          · obtain ⟨b2, off2, rfl, hc2⟩ := HR.out.edgesH (by omega)
            obtain ⟨c2, c3, c4⟩ := hc2 k (by omega)
            have HT := hide (eW_take E k (by rw [HL.out]; omega))
            rw [HP.out k (by omega)] at c4
            clear hc2
            generalize (ge E k).w.toNat = v at *
            generalize (ge E k).f = f at *
            generalize (ge E k).t = t at *
            go_wp2_with (at_builtin; refine wp_app1 elemU64.elem rfl _ _ rfl _ (by repeat (first | exact Grows.refl _ | refine Grows.now ?_ _ | refine Grows.new ?_ _ | refine Grows.drewN ?_ _ | refine Grows.drew ?_ | assumption | (refine Grows.set ?_ (by first | omega | (simp; done) | (simp; omega)) _))) k c' A' _ rfl ((HO.out.new _).new _) _ _ _ rfl inferInstance rfl (by omega) ?_; intro A3 c3 y3 hown3; have HO3 := hide hown3; clear hown3)
            go_roundw
            case measure => simp [Go.RowKit.intOf]; omega
            case rel =>
              refine ⟨k + 1, by omega, by go_num, y3, rfl, A3, c3, rfl, ?_⟩
              rw [HT.out]
              have := HO3.out
              simpa [wv] using this
      · obtain rfl : nw = n := by omega
        have hp : 0 < nw := by omega
        have HD := hide (show wtF N E W = W from by unfold wtF; rw [if_neg (show ¬ rightF N E ≠ 0 by omega), HLW.out, HL.out, if_neg hl, if_pos hp])
        clear hl hz hr
        rw [HD.out]
        go_enter Try.func54, Try.ntmps54
        go_wp2_with fail
        refine (C1.out _ (by repeat (first | exact Grows.refl _ | refine Grows.now ?_ _ | refine Grows.new ?_ _ | refine Grows.drewN ?_ _ | refine Grows.drew ?_ | assumption | (refine Grows.set ?_ (by first | omega | (simp; done) | (simp; omega)) _)))).mono ?_; rintro e w' ⟨rfl, hg⟩; obtain ⟨x1, rfl⟩ := hg.later; clear hg
        go_wp2_with fail
        refine (C2.out _ (by repeat (first | exact Grows.refl _ | refine Grows.now ?_ _ | refine Grows.new ?_ _ | refine Grows.drewN ?_ _ | refine Grows.drew ?_ | assumption | (refine Grows.set ?_ (by first | omega | (simp; done) | (simp; omega)) _)))).mono ?_; rintro e w' ⟨A3, c3, rfl, ho, hg⟩; have HO := hide ho; have hg2 := x1.grows.trans hg; have hs2 := hg.size; have hs1 := x1.size; clear hg ho
        go_wp2_with fail
        go_ret
        exact ⟨A3, c3, by rw [HLW.out]; rfl, by rw [HLW.out]; exact HO.out.base (by simp at hs1; omega), Grows.trans (by repeat (first | exact Grows.refl _ | refine Grows.now ?_ _ | refine Grows.new ?_ _ | refine Grows.drewN ?_ _ | refine Grows.drew ?_ | assumption | (refine Grows.set ?_ (by first | omega | (simp; done) | (simp; omega)) _))) hg2⟩
  · have hr2 : (rightF N E == 0) = false := beq_eq_false_iff_ne.2 hr
    have HD := hide (show wtF N E W = [] from by unfold wtF; rw [if_pos hr])
    rw [HD.out]
    generalize rightF N E = r at *
    go_enter Try.func54, Try.ntmps54
    go_wp2_with (go_at_call 36; refine (C1.out _ (by repeat (first | exact Grows.refl _ | refine Grows.now ?_ _ | refine Grows.new ?_ _ | refine Grows.drewN ?_ _ | refine Grows.drew ?_ | assumption | (refine Grows.set ?_ (by first | omega | (simp; done) | (simp; omega)) _)))).mono ?_; rintro e w' ⟨rfl, hg⟩; obtain ⟨x1, rfl⟩ := hg.later; clear hg)
    go_ret
    exact GiveU.nil w (by repeat (first | exact Grows.refl _ | refine Grows.now ?_ _ | refine Grows.new ?_ _ | refine Grows.drewN ?_ _ | refine Grows.drew ?_ | assumption | (refine Grows.set ?_ (by first | omega | (simp; done) | (simp; omega)) _)))
set_option maxRecDepth 20000 in
set_option maxHeartbeats 4000000 in
theorem r14Weights (N : Int) (A : Option Addr) (n c : Nat) (E : List Edg) (back : Bool) (nn ne : Value) (Aw : Option Addr) (nw cw most : Nat) (W : List Nat) (w : World) (h : Rd w A 3 n (esCells E)) (hW : Rd w Aw 1 nw (wv W)) (hn : n ≤ 1000000) (hnw : nw ≤ 1000000) :
    Calls Try.prog 86 #[.agg #[.int .i64 N, .slice A n c], oVal back nn ne Aw nw cw most] w (GiveU w (wtF N E W)) := by
  unfold oVal
  have HL := hide h.elen
  have HLW := hide hW.wlen
  have HR := hide h
  have HRW := hide hW
  have C1 := hide (fun (W : World) (g : Grows w W) => r5Right N A n c E W (h.grows g) hn)
  clear h hW
  by_cases hr : rightF N E = 0
  · rw [hr] at C1
    by_cases hl : 0 < nw ∧ nw ≠ n
    · have HD := hide (show wtF N E W = [] from by unfold wtF; rw [if_neg (show ¬ rightF N E ≠ 0 by omega), HLW.out, HL.out, if_pos hl])
      obtain ⟨hl1, hl2⟩ := hl
      have hl3 : ((nw : Int) != (n : Int)) = true := bne_iff_ne.2 (by omega)
      have hl4 : ((nw : Int) != 0) = true := bne_iff_ne.2 (by omega)
      clear hr hl2
      rw [HD.out]
      go_enter Try.func86, Try.ntmps86
      go_wp2_with (go_at_call 31; refine (C1.out _ (by repeat (first | exact Grows.refl _ | refine Grows.now ?_ _ | refine Grows.new ?_ _ | refine Grows.drewN ?_ _ | refine Grows.drew ?_ | assumption | (refine Grows.set ?_ (by first | omega | (simp; done) | (simp; omega)) _)))).mono ?_; rintro e w' ⟨rfl, hg⟩; obtain ⟨x1, rfl⟩ := hg.later; clear hg)
      go_ret
      exact GiveU.nil w (by repeat (first | exact Grows.refl _ | refine Grows.now ?_ _ | refine Grows.new ?_ _ | refine Grows.drewN ?_ _ | refine Grows.drew ?_ | assumption | (refine Grows.set ?_ (by first | omega | (simp; done) | (simp; omega)) _)))
    · have HD := hide (show ∃ L, wtF N E W = L ∧ L.length = n ∧ ∀ k, k < n → if 0 < nw then gn L k = gn W k else (gn L k : Int) = (ge E k).w from by
        obtain ⟨r1, r2, r3, r4, r5⟩ := right_in hr
        unfold wtF
        rw [if_neg (show ¬ rightF N E ≠ 0 by omega), HLW.out, HL.out, if_neg hl]
        by_cases hz : 0 < nw
        · rw [if_pos hz]
          exact ⟨W, rfl, by rw [HLW.out]; omega, fun k _ => by rw [if_pos hz]⟩
        · rw [if_neg hz]
          refine ⟨eW E, rfl, by simp [eW, HL.out], fun k hk => ?_⟩
          rw [if_neg hz]
          have h1 := (r5 k (by rw [HL.out]; exact hk)).1
          have h2 : gn (eW E) k = (ge E k).w.toNat := by
            have h3 : k < E.length := by rw [HL.out]; exact hk
            simp [gn, eW, ge, h3]
          rw [h2]; omega)
      obtain ⟨L, e1, e2, e3⟩ := HD.out
      rw [e1]
      have HLL := hide e2
      have HAT := hide e3
      have hnw2 : nw = 0 ∨ nw = n := by omega
      clear hr e1 e2 e3 HD hl
      rcases hnw2 with rfl | rfl
      · clear HRW
        go_enter Try.func86, Try.ntmps86
        go_wp2_with (go_at_call 31; refine (C1.out _ (by repeat (first | exact Grows.refl _ | refine Grows.now ?_ _ | refine Grows.new ?_ _ | refine Grows.drewN ?_ _ | refine Grows.drew ?_ | assumption | (refine Grows.set ?_ (by first | omega | (simp; done) | (simp; omega)) _)))).mono ?_; rintro e w' ⟨rfl, hg⟩; obtain ⟨x1, rfl⟩ := hg.later; clear hg)
        go_loopw [6, 5] (fun i u wr => ∃ k : Nat, k ≤ n ∧ i = .int .i64 (k : Int) ∧ ∃ y : Later x1.now, wr = y.now ∧ ∃ A' c', u = .slice A' k c' ∧ Own y.now x1.now.heap.size 38 1 A' k c' (wv (L.take k))) (fun i _ _ => n - (Go.RowKit.intOf i).toNat)
        case atStart => exact ⟨0, by omega, by go_num, ⟨_, Grows.refl _⟩, rfl, none, 0, by go_num, Own.nil _ _ _ _⟩
        case round =>
          obtain ⟨k, hk, rfl, y, rfl, A', c', rfl, hown⟩ := hrel
          have HO := hide hown
          clear hown
          by_cases hend : n ≤ k
          · obtain rfl : k = n := by omega
            go_wp2
            go_ret
            have hl := HLL.out
            have ho := HO.out
            rw [List.take_of_length_le (by omega)] at ho
            exact ⟨A', c', by rw [hl]; rfl, by rw [hl]; exact ho.base (by have := x1.size; simp at this; omega), (by repeat (first | exact Grows.refl _ | refine Grows.now ?_ _ | refine Grows.new ?_ _ | refine Grows.drewN ?_ _ | refine Grows.drew ?_ | assumption | (refine Grows.set ?_ (by first | omega | (simp; done) | (simp; omega)) _)))⟩
          · have HT : Hid (L.take (k + 1) = L.take k ++ [gn L k]) := by
              have : k < L.length := by rw [HLL.out]; omega
              show _ = _
              rw [List.take_succ_eq_append_getElem this]
              simp [gn, this]
            have hat := HAT.out k (by omega)
            rw [if_neg (by omega)] at hat
            obtain ⟨b2, off2, rfl, hc2⟩ := HR.out.edgesH (by omega)
            obtain ⟨_, _, c4⟩ := hc2 k (by omega)
            rw [← hat] at c4
            clear hc2
            clear hat
            generalize gn L k = v at *
            go_wp2_with (at_builtin; refine wp_app1 elemU64.elem rfl _ _ rfl _ (by repeat (first | exact Grows.refl _ | refine Grows.now ?_ _ | refine Grows.new ?_ _ | refine Grows.drewN ?_ _ | refine Grows.drew ?_ | assumption | (refine Grows.set ?_ (by first | omega | (simp; done) | (simp; omega)) _))) k c' A' _ rfl (HO.out.new _) _ _ _ rfl inferInstance rfl (by omega) ?_; intro A3 c3 y3 hown3; have HO3 := hide hown3; clear hown3)
            go_roundw
            case measure => simp [Go.RowKit.intOf]; omega
            case rel =>
              refine ⟨k + 1, by omega, by go_num, y3, rfl, A3, c3, rfl, ?_⟩
              rw [HT.out]
              have := HO3.out
              simpa [wv] using this
      · by_cases hz : nw = 0
        · subst hz
          clear HRW
          go_enter Try.func86, Try.ntmps86
          go_wp2_with (go_at_call 31; refine (C1.out _ (by repeat (first | exact Grows.refl _ | refine Grows.now ?_ _ | refine Grows.new ?_ _ | refine Grows.drewN ?_ _ | refine Grows.drew ?_ | assumption | (refine Grows.set ?_ (by first | omega | (simp; done) | (simp; omega)) _)))).mono ?_; rintro e w' ⟨rfl, hg⟩; obtain ⟨x1, rfl⟩ := hg.later; clear hg)
          go_loopw [6, 5] (fun i u wr => ∃ k : Nat, k ≤ 0 ∧ i = .int .i64 (k : Int) ∧ ∃ y : Later x1.now, wr = y.now ∧ ∃ A' c', u = .slice A' k c' ∧ Own y.now x1.now.heap.size 38 1 A' k c' (wv (L.take k))) (fun i _ _ => 0 - (Go.RowKit.intOf i).toNat)
          case atStart => exact ⟨0, by omega, by go_num, ⟨_, Grows.refl _⟩, rfl, none, 0, by go_num, Own.nil _ _ _ _⟩
          case round =>
            obtain ⟨k, hk, rfl, y, rfl, A', c', rfl, hown⟩ := hrel
            have HO := hide hown
            clear hown
            by_cases hend : 0 ≤ k
            · obtain rfl : k = 0 := by omega
              go_wp2
              go_ret
              have hl := HLL.out
              have ho := HO.out
              rw [List.take_of_length_le (by omega)] at ho
              exact ⟨A', c', by rw [hl]; rfl, by rw [hl]; exact ho.base (by have := x1.size; simp at this; omega), (by repeat (first | exact Grows.refl _ | refine Grows.now ?_ _ | refine Grows.new ?_ _ | refine Grows.drewN ?_ _ | refine Grows.drew ?_ | assumption | (refine Grows.set ?_ (by first | omega | (simp; done) | (simp; omega)) _)))⟩
            · exact absurd (Nat.zero_le k) hend
        · have hp : 0 < nw := by omega
          have hl4 : ((nw : Int) == 0) = false := beq_eq_false_iff_ne.2 (by omega)
          clear hz
          go_enter Try.func86, Try.ntmps86
          go_wp2_with (go_at_call 31; refine (C1.out _ (by repeat (first | exact Grows.refl _ | refine Grows.now ?_ _ | refine Grows.new ?_ _ | refine Grows.drewN ?_ _ | refine Grows.drew ?_ | assumption | (refine Grows.set ?_ (by first | omega | (simp; done) | (simp; omega)) _)))).mono ?_; rintro e w' ⟨rfl, hg⟩; obtain ⟨x1, rfl⟩ := hg.later; clear hg)
          go_loopw [6, 5] (fun i u wr => ∃ k : Nat, k ≤ nw ∧ i = .int .i64 (k : Int) ∧ ∃ y : Later x1.now, wr = y.now ∧ ∃ A' c', u = .slice A' k c' ∧ Own y.now x1.now.heap.size 38 1 A' k c' (wv (L.take k))) (fun i _ _ => nw - (Go.RowKit.intOf i).toNat)
          case atStart => exact ⟨0, by omega, by go_num, ⟨_, Grows.refl _⟩, rfl, none, 0, by go_num, Own.nil _ _ _ _⟩
          case round =>
            obtain ⟨k, hk, rfl, y, rfl, A', c', rfl, hown⟩ := hrel
            have HO := hide hown
            clear hown
            by_cases hend : nw ≤ k
            · obtain rfl : k = nw := by omega
              go_wp2
              go_ret
              have hl := HLL.out
              have ho := HO.out
              rw [List.take_of_length_le (by omega)] at ho
              exact ⟨A', c', by rw [hl]; rfl, by rw [hl]; exact ho.base (by have := x1.size; simp at this; omega), (by repeat (first | exact Grows.refl _ | refine Grows.now ?_ _ | refine Grows.new ?_ _ | refine Grows.drewN ?_ _ | refine Grows.drew ?_ | assumption | (refine Grows.set ?_ (by first | omega | (simp; done) | (simp; omega)) _)))⟩
            · have HT : Hid (L.take (k + 1) = L.take k ++ [gn L k]) := by
                have : k < L.length := by rw [HLL.out]; omega
                show _ = _
                rw [List.take_succ_eq_append_getElem this]
                simp [gn, this]
              have hat := HAT.out k (by omega)
              rw [if_pos (by omega)] at hat
              obtain ⟨_, b2, off2, rfl, hc2⟩ := HRW.out.wordsH (by omega)
              have c4 := hc2 k (by omega)
              rw [← hat] at c4
              clear hc2
              clear hat
              generalize gn L k = v at *
              go_wp2_with (at_builtin; refine wp_app1 elemU64.elem rfl _ _ rfl _ (by repeat (first | exact Grows.refl _ | refine Grows.now ?_ _ | refine Grows.new ?_ _ | refine Grows.drewN ?_ _ | refine Grows.drew ?_ | assumption | (refine Grows.set ?_ (by first | omega | (simp; done) | (simp; omega)) _))) k c' A' _ rfl (HO.out.new _) _ _ _ rfl inferInstance rfl (by omega) ?_; intro A3 c3 y3 hown3; have HO3 := hide hown3; clear hown3)
              go_roundw
              case measure => simp [Go.RowKit.intOf]; omega
              case rel =>
                refine ⟨k + 1, by omega, by go_num, y3, rfl, A3, c3, rfl, ?_⟩
                rw [HT.out]
                have := HO3.out
                simpa [wv] using this
  · have hr2 : (rightF N E == 0) = false := beq_eq_false_iff_ne.2 hr
    have HD := hide (show wtF N E W = [] from by unfold wtF; rw [if_pos hr])
    rw [HD.out]
    generalize rightF N E = r at *
    go_enter Try.func86, Try.ntmps86
    go_wp2_with (go_at_call 31; refine (C1.out _ (by repeat (first | exact Grows.refl _ | refine Grows.now ?_ _ | refine Grows.new ?_ _ | refine Grows.drewN ?_ _ | refine Grows.drew ?_ | assumption | (refine Grows.set ?_ (by first | omega | (simp; done) | (simp; omega)) _)))).mono ?_; rintro e w' ⟨rfl, hg⟩; obtain ⟨x1, rfl⟩ := hg.later; clear hg)
    go_ret
    exact GiveU.nil w (by repeat (first | exact Grows.refl _ | refine Grows.now ?_ _ | refine Grows.new ?_ _ | refine Grows.drewN ?_ _ | refine Grows.drew ?_ | assumption | (refine Grows.set ?_ (by first | omega | (simp; done) | (simp; omega)) _)))
/-- Are two rows of numbers the same? -/
theorem same_false {L M : List Nat} {j : Nat} (hl : L.length = M.length) (_ : j < L.length) (h : gn L j ≠ gn M j) : decide (L = M) = false := by
  rw [decide_eq_false_iff_not]
  rintro rfl
  exact h rfl
theorem same_true {L M : List Nat} (hl : L.length = M.length) (h : ∀ j, j < L.length → gn L j = gn M j) : decide (L = M) = true := by
  rw [decide_eq_true_eq]
  refine List.ext_getElem hl fun j h1 h2 => ?_
  have := h j h1
  simpa [gn, h1, h2] using this
end Go.Proofs.Ytomednfddpggaaa
