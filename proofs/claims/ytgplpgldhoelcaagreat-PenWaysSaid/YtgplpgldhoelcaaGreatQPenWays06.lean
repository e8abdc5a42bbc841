/- Contracts: the weights that count, by the program and by its answer; are two rows of wide numbers the same? -/
import Derived.WalkMore
import Derived.Deep.DeepCutAuto
import Derived.Test.YtgplpgldhoelcaaGreatQPenWays01
import Derived.Test.YtgplpgldhoelcaaGreatQPenWays03
import Derived.Test.YtgplpgldhoelcaaGreatQPenWays04
import Derived.Test.YtgplpgldhoelcaaGreatQPenWays05
namespace Go.Proofs.YtgplpgldhoelcaaGreat
open Go Go.RowKit
def GiveU (w : World) (L : List Nat) (e : Ending) (w' : World) : Prop := ∃ A c, e = .returned (.slice A L.length c) ∧ Own w' w.heap.size 41 1 A L.length c (wv L) ∧ Grows w w'
theorem GiveU.nil (w : World) {w' : World} (h : Grows w w') : GiveU w [] (.returned (.slice none 0 0)) w' := ⟨none, 0, rfl, Own.nil _ _ _ _, h⟩
set_option maxRecDepth 20000 in
set_option maxHeartbeats 2000000 in
theorem cloneU (A : Option Addr) (n c : Nat) (E : List Nat) (w : World) (h : Rd w A 1 n (wv E)) (hn : n ≤ 1000000) :
    Calls Tryz.prog 115 #[.slice A n c] w fun e w' => ∃ A' c', e = .returned (.slice A' n c') ∧ Own w' w.heap.size 41 1 A' n c' (wv E) ∧ Grows w w' := by
  cases A with
  | none =>
    have hn0 : n = 0 := by
      rcases Nat.eq_zero_or_pos n with h0 | h0
      · exact h0
      · obtain ⟨_, _, e, _⟩ := h.2 h0 (by omega); cases e
    subst hn0
    have hE : E = [] := List.eq_nil_of_length_eq_zero h.wlen
    subst hE
    clear h
    have hnil := fun (w : World) (a : Option Addr) (n c n' c' : Nat) => Lib.run_eql_slice_nil (P := Tryz.prog) w 82 41 a n c n' c' Tryz.underlying82
    go_enter Tryz.func115, Tryz.ntmps115
    go_wp2
    go_ret
    exact ⟨none, 0, rfl, Own.nil _ _ _ _, GG⟩
  | some ad =>
    have HR := hide h
    clear h
    have hnil := fun (w : World) (a : Option Addr) (n c n' c' : Nat) => Lib.run_eql_slice_nil (P := Tryz.prog) w 82 41 a n c n' c' Tryz.underlying82
    go_enter Tryz.func115, Tryz.ntmps115
    go_wp2_with (at_builtin; refine wp_appAll elemU64.elem rfl _ _ rfl w GG 0 0 _ [] rfl (Own.empty _ _ _ _ (Nat.le_refl _)) ad n c _ rfl (HR.out.grows GG) (wv_one E) (by omega) ?_; intro A3 c3 y3 hown3; have HO3 := hide hown3; clear hown3)
    go_ret
    exact ⟨A3, c3, by first | rfl | (simp; done) | (rw [Nat.zero_add]; rfl), by have := HO3.out; rwa [Nat.zero_add, List.nil_append] at this, GG⟩
def eW (E : List Edg) : List Nat := E.map fun e => e.w.toNat
theorem eW_take (E : List Edg) (k : Nat) (hk : k < E.length) : (eW E).take (k + 1) = (eW E).take k ++ [(ge E k).w.toNat] := by
  have : k < (eW E).length := by simpa [eW] using hk
  rw [List.take_succ_eq_append_getElem this]
  simp [eW, ge, hk]
def wtF (N : Int) (E : List Edg) (W : List Nat) : List Nat := if rightF N E ≠ 0 then [] else if 0 < W.length ∧ W.length ≠ E.length then [] else if 0 < W.length then W else eW E
set_option maxRecDepth 20000 in
set_option maxHeartbeats 4000000 in
theorem djWeights (N : Int) (A : Option Addr) (n c : Nat) (E : List Edg) (back : Bool) (nn ne : Value) (Aw : Option Addr) (nw cw most : Nat) (W : List Nat) (w : World) (h : Rd w A 3 n (esCells E)) (hW : Rd w Aw 1 nw (wv W)) (hn : n ≤ 1000000) (hnw : nw ≤ 1000000) :
    Calls Tryz.prog 86 #[.agg #[.int .i64 N, .slice A n c], oVal back nn ne Aw nw cw most] w (GiveU w (wtF N E W)) := by
  unfold oVal
  have HL := hide h.elen
  have HLW := hide hW.wlen
  have HR := hide h
  have C1 := hide (fun (W : World) (g : Grows w W) => gRight N A n c E W (h.grows g) hn)
  have C2 := hide (fun (W1 : World) (g : Grows w W1) => cloneU Aw nw cw W W1 (hW.grows g) hnw)
  clear h hW
  by_cases hr : rightF N E = 0
  · rw [hr] at C1
    by_cases hl : 0 < nw ∧ nw ≠ n
    · have HD := hide (show wtF N E W = [] from by unfold wtF; rw [if_neg (show ¬ rightF N E ≠ 0 by omega), HLW.out, HL.out, if_pos hl])
      obtain ⟨hl1, hl2⟩ := hl
      have hl3 : ((nw : Int) == (n : Int)) = false := beq_eq_false_iff_ne.2 (by omega)
      clear hr hl2
      rw [HD.out]
      go_enter Tryz.func86, Tryz.ntmps86
      go_wp2_with (go_at_call 76; refine (C1.out _ GG).mono ?_; rintro e w' ⟨rfl, hg⟩; obtain ⟨x1, rfl⟩ := hg.later; clear hg)
      go_ret
      exact GiveU.nil w GG
    · by_cases hz : nw = 0
      · have HD := hide (show wtF N E W = eW E from by unfold wtF; rw [if_neg (show ¬ rightF N E ≠ 0 by omega), HLW.out, HL.out, if_neg hl, if_neg (by omega)])
        obtain ⟨r1, r2, r3, r4, r5⟩ := right_in hr
        have HP := hide (show ∀ k, k < n → (ge E k).w = ((ge E k).w.toNat : Int) from fun k hk => by have := (r5 k (by rw [HL.out]; exact hk)).1; omega)
        subst hz
        clear hl hr r4 r5
        rw [HD.out]
        go_enter Tryz.func86, Tryz.ntmps86
        go_wp2_with (go_at_call 76; refine (C1.out _ GG).mono ?_; rintro e w' ⟨rfl, hg⟩; obtain ⟨x1, rfl⟩ := hg.later; clear hg)
        go_loopw [35, 4] (fun i u wr => ∃ k : Nat, k ≤ n ∧ i = .int .i64 (k : Int) ∧ ∃ y : Later x1.now, wr = y.now ∧ ∃ A' c', u = .slice A' k c' ∧ Own y.now x1.now.heap.size 41 1 A' k c' (wv ((eW E).take k))) (fun i _ _ => n - (Go.RowKit.intOf i).toNat)
        case atStart => exact ⟨0, by omega, by go_num, ⟨_, Grows.refl _⟩, rfl, none, 0, by go_num, Own.nil _ _ _ _⟩
        case round =>
          obtain ⟨k, hk, rfl, y, rfl, A', c', rfl, hown⟩ := hrel
          have HO := hide hown
          clear hown
          by_cases hend : n ≤ k
          · obtain rfl : k = n := by omega
            go_wp2
            go_ret
            have hl : (eW E).length = k := by simp [eW, HL.out]
            have ho := HO.out
            rw [List.take_of_length_le (by omega)] at ho
            exact ⟨A', c', by rw [hl]; rfl, by rw [hl]; exact ho.base (by have := x1.size; simp at this; omega), GG⟩
          · obtain ⟨b2, off2, rfl, hc2⟩ := HR.out.edgesH (by omega)
            obtain ⟨c2, c3, c4⟩ := hc2 k (by omega)
            have HT := hide (eW_take E k (by rw [HL.out]; omega))
            rw [HP.out k (by omega)] at c4
            clear hc2
            generalize (ge E k).w.toNat = v at *
            generalize (ge E k).f = f at *
            generalize (ge E k).t = t at *
            go_wp2_with (at_builtin; refine wp_app1 elemU64.elem rfl _ _ rfl _ GG k c' A' _ rfl ((HO.out.new _).new _) _ _ _ rfl inferInstance rfl (by omega) ?_; intro A3 c3 y3 hown3; have HO3 := hide hown3; clear hown3)
            go_roundw
            case measure => simp [Go.RowKit.intOf]; omega
            case rel =>
              refine ⟨k + 1, by omega, by go_num, y3, rfl, A3, c3, rfl, ?_⟩
              rw [HT.out]
              have := HO3.out
              simpa [wv] using this
      · obtain rfl : nw = n := by omega
        have hp : 0 < nw := by omega
        have HD := hide (show wtF N E W = W from by unfold wtF; rw [if_neg (show ¬ rightF N E ≠ 0 by omega), HLW.out, HL.out, if_neg hl, if_pos hp])
        clear hl hz hr
        rw [HD.out]
        go_enter Tryz.func86, Tryz.ntmps86
        go_wp2_with fail
        refine (C1.out _ GG).mono ?_; rintro e w' ⟨rfl, hg⟩; obtain ⟨x1, rfl⟩ := hg.later; clear hg
        go_wp2_with fail
        refine (C2.out _ GG).mono ?_; rintro e w' ⟨A3, c3, rfl, ho, hg⟩; have HO := hide ho; have hg2 := x1.grows.trans hg; have hs2 := hg.size; have hs1 := x1.size; clear hg ho
        go_wp2_with fail
        go_ret
        exact ⟨A3, c3, by rw [HLW.out]; rfl, by rw [HLW.out]; exact HO.out.base (by simp at hs1; omega), Grows.trans GG hg2⟩
  · have hr2 : (rightF N E == 0) = false := beq_eq_false_iff_ne.2 hr
    have HD := hide (show wtF N E W = [] from by unfold wtF; rw [if_pos hr])
    rw [HD.out]
    generalize rightF N E = r at *
    go_enter Tryz.func86, Tryz.ntmps86
    go_wp2_with (go_at_call 76; refine (C1.out _ GG).mono ?_; rintro e w' ⟨rfl, hg⟩; obtain ⟨x1, rfl⟩ := hg.later; clear hg)
    go_ret
    exact GiveU.nil w GG
set_option maxRecDepth 20000 in
set_option maxHeartbeats 4000000 in
theorem r14Weights (N : Int) (A : Option Addr) (n c : Nat) (E : List Edg) (back : Bool) (nn ne : Value) (Aw : Option Addr) (nw cw most : Nat) (W : List Nat) (w : World) (h : Rd w A 3 n (esCells E)) (hW : Rd w Aw 1 nw (wv W)) (hn : n ≤ 1000000) (hnw : nw ≤ 1000000) :
    Calls Tryz.prog 89 #[.agg #[.int .i64 N, .slice A n c], oVal back nn ne Aw nw cw most] w (GiveU w (wtF N E W)) := by
  unfold oVal
  have HL := hide h.elen
  have HLW := hide hW.wlen
  have HR := hide h
  have HRW := hide hW
  have C1 := hide (fun (W : World) (g : Grows w W) => r5Right N A n c E W (h.grows g) hn)
  clear h hW
  by_cases hr : rightF N E = 0
  · rw [hr] at C1
    by_cases hl : 0 < nw ∧ nw ≠ n
    · have HD := hide (show wtF N E W = [] from by unfold wtF; rw [if_neg (show ¬ rightF N E ≠ 0 by omega), HLW.out, HL.out, if_pos hl])
      obtain ⟨hl1, hl2⟩ := hl
      have hl3 : ((nw : Int) != (n : Int)) = true := bne_iff_ne.2 (by omega)
      have hl4 : ((nw : Int) != 0) = true := bne_iff_ne.2 (by omega)
      clear hr hl2
      rw [HD.out]
      go_enter Tryz.func89, Tryz.ntmps89
      go_wp2_with (go_at_call 81; refine (C1.out _ GG).mono ?_; rintro e w' ⟨rfl, hg⟩; obtain ⟨x1, rfl⟩ := hg.later; clear hg)
      go_ret
      exact GiveU.nil w GG
    · have HD := hide (show ∃ L, wtF N E W = L ∧ L.length = n ∧ ∀ k, k < n → if 0 < nw then gn L k = gn W k else (gn L k : Int) = (ge E k).w from by
        obtain ⟨r1, r2, r3, r4, r5⟩ := right_in hr
        unfold wtF
        rw [if_neg (show ¬ rightF N E ≠ 0 by omega), HLW.out, HL.out, if_neg hl]
        by_cases hz : 0 < nw
        · rw [if_pos hz]
          exact ⟨W, rfl, by rw [HLW.out]; omega, fun k _ => by rw [if_pos hz]⟩
        · rw [if_neg hz]
          refine ⟨eW E, rfl, by simp [eW, HL.out], fun k hk => ?_⟩
          rw [if_neg hz]
          have h1 := (r5 k (by rw [HL.out]; exact hk)).1
          have h2 : gn (eW E) k = (ge E k).w.toNat := by
            have h3 : k < E.length := by rw [HL.out]; exact hk
            simp [gn, eW, ge, h3]
          rw [h2]; omega)
      obtain ⟨L, e1, e2, e3⟩ := HD.out
      rw [e1]
      have HLL := hide e2
      have HAT := hide e3
      have hnw2 : nw = 0 ∨ nw = n := by omega
      clear hr e1 e2 e3 HD hl
      rcases hnw2 with rfl | rfl
      · clear HRW
        go_enter Tryz.func89, Tryz.ntmps89
        go_wp2_with (go_at_call 81; refine (C1.out _ GG).mono ?_; rintro e w' ⟨rfl, hg⟩; obtain ⟨x1, rfl⟩ := hg.later; clear hg)
        go_loopw [6, 5] (fun i u wr => ∃ k : Nat, k ≤ n ∧ i = .int .i64 (k : Int) ∧ ∃ y : Later x1.now, wr = y.now ∧ ∃ A' c', u = .slice A' k c' ∧ Own y.now x1.now.heap.size 41 1 A' k c' (wv (L.take k))) (fun i _ _ => n - (Go.RowKit.intOf i).toNat)
        case atStart => exact ⟨0, by omega, by go_num, ⟨_, Grows.refl _⟩, rfl, none, 0, by go_num, Own.nil _ _ _ _⟩
        case round =>
          obtain ⟨k, hk, rfl, y, rfl, A', c', rfl, hown⟩ := hrel
          have HO := hide hown
          clear hown
          by_cases hend : n ≤ k
          · obtain rfl : k = n := by omega
            go_wp2
            go_ret
            have hl := HLL.out
            have ho := HO.out
            rw [List.take_of_length_le (by omega)] at ho
            exact ⟨A', c', by rw [hl]; rfl, by rw [hl]; exact ho.base (by have := x1.size; simp at this; omega), GG⟩
          · have HT : Hid (L.take (k + 1) = L.take k ++ [gn L k]) := by
              have : k < L.length := by rw [HLL.out]; omega
              show _ = _
              rw [List.take_succ_eq_append_getElem this]
              simp [gn, this]
            have hat := HAT.out k (by omega)
            rw [if_neg (by omega)] at hat
            obtain ⟨b2, off2, rfl, hc2⟩ := HR.out.edgesH (by omega)
            obtain ⟨_, _, c4⟩ := hc2 k (by omega)
            rw [← hat] at c4
            clear hc2
            clear hat
            generalize gn L k = v at *
            go_wp2_with (at_builtin; refine wp_app1 elemU64.elem rfl _ _ rfl _ GG k c' A' _ rfl (HO.out.new _) _ _ _ rfl inferInstance rfl (by omega) ?_; intro A3 c3 y3 hown3; have HO3 := hide hown3; clear hown3)
            go_roundw
            case measure => simp [Go.RowKit.intOf]; omega
            case rel =>
              refine ⟨k + 1, by omega, by go_num, y3, rfl, A3, c3, rfl, ?_⟩
              rw [HT.out]
              have := HO3.out
              simpa [wv] using this
      · by_cases hz : nw = 0
        · subst hz
          clear HRW
          go_enter Tryz.func89, Tryz.ntmps89
          go_wp2_with (go_at_call 81; refine (C1.out _ GG).mono ?_; rintro e w' ⟨rfl, hg⟩; obtain ⟨x1, rfl⟩ := hg.later; clear hg)
          go_loopw [6, 5] (fun i u wr => ∃ k : Nat, k ≤ 0 ∧ i = .int .i64 (k : Int) ∧ ∃ y : Later x1.now, wr = y.now ∧ ∃ A' c', u = .slice A' k c' ∧ Own y.now x1.now.heap.size 41 1 A' k c' (wv (L.take k))) (fun i _ _ => 0 - (Go.RowKit.intOf i).toNat)
          case atStart => exact ⟨0, by omega, by go_num, ⟨_, Grows.refl _⟩, rfl, none, 0, by go_num, Own.nil _ _ _ _⟩
          case round =>
            obtain ⟨k, hk, rfl, y, rfl, A', c', rfl, hown⟩ := hrel
            have HO := hide hown
            clear hown
            by_cases hend : 0 ≤ k
            · obtain rfl : k = 0 := by omega
              go_wp2
              go_ret
              have hl := HLL.out
              have ho := HO.out
              rw [List.take_of_length_le (by omega)] at ho
              exact ⟨A', c', by rw [hl]; rfl, by rw [hl]; exact ho.base (by have := x1.size; simp at this; omega), GG⟩
            · exact absurd (Nat.zero_le k) hend
        · have hp : 0 < nw := by omega
          have hl4 : ((nw : Int) == 0) = false := beq_eq_false_iff_ne.2 (by omega)
          clear hz
          go_enter Tryz.func89, Tryz.ntmps89
          go_wp2_with (go_at_call 81; refine (C1.out _ GG).mono ?_; rintro e w' ⟨rfl, hg⟩; obtain ⟨x1, rfl⟩ := hg.later; clear hg)
          go_loopw [6, 5] (fun i u wr => ∃ k : Nat, k ≤ nw ∧ i = .int .i64 (k : Int) ∧ ∃ y : Later x1.now, wr = y.now ∧ ∃ A' c', u = .slice A' k c' ∧ Own y.now x1.now.heap.size 41 1 A' k c' (wv (L.take k))) (fun i _ _ => nw - (Go.RowKit.intOf i).toNat)
          case atStart => exact ⟨0, by omega, by go_num, ⟨_, Grows.refl _⟩, rfl, none, 0, by go_num, Own.nil _ _ _ _⟩
          case round =>
            obtain ⟨k, hk, rfl, y, rfl, A', c', rfl, hown⟩ := hrel
            have HO := hide hown
            clear hown
            by_cases hend : nw ≤ k
            · obtain rfl : k = nw := by omega
              go_wp2
              go_ret
              have hl := HLL.out
              have ho := HO.out
              rw [List.take_of_length_le (by omega)] at ho
              exact ⟨A', c', by rw [hl]; rfl, by rw [hl]; exact ho.base (by have := x1.size; simp at this; omega), GG⟩
            · have HT : Hid (L.take (k + 1) = L.take k ++ [gn L k]) := by
                have : k < L.length := by rw [HLL.out]; omega
                show _ = _
                rw [List.take_succ_eq_append_getElem this]
                simp [gn, this]
              have hat := HAT.out k (by omega)
              rw [if_pos (by omega)] at hat
              obtain ⟨_, b2, off2, rfl, hc2⟩ := HRW.out.wordsH (by omega)
              have c4 := hc2 k (by omega)
              rw [← hat] at c4
              clear hc2
              clear hat
              generalize gn L k = v at *
              go_wp2_with (at_builtin; refine wp_app1 elemU64.elem rfl _ _ rfl _ GG k c' A' _ rfl (HO.out.new _) _ _ _ rfl inferInstance rfl (by omega) ?_; intro A3 c3 y3 hown3; have HO3 := hide hown3; clear hown3)
              go_roundw
              case measure => simp [Go.RowKit.intOf]; omega
              case rel =>
                refine ⟨k + 1, by omega, by go_num, y3, rfl, A3, c3, rfl, ?_⟩
                rw [HT.out]
                have := HO3.out
                simpa [wv] using this
  · have hr2 : (rightF N E == 0) = false := beq_eq_false_iff_ne.2 hr
    have HD := hide (show wtF N E W = [] from by unfold wtF; rw [if_pos hr])
    rw [HD.out]
    generalize rightF N E = r at *
    go_enter Tryz.func89, Tryz.ntmps89
    go_wp2_with (go_at_call 81; refine (C1.out _ GG).mono ?_; rintro e w' ⟨rfl, hg⟩; obtain ⟨x1, rfl⟩ := hg.later; clear hg)
    go_ret
    exact GiveU.nil w GG
end Go.Proofs.YtgplpgldhoelcaaGreat

namespace Go.Proofs.YtgplpgldhoelcaaGreat
open Go Go.RowKit
def maxPen : Nat := 17592186044416
def rsK (W : List Nat) (l : List Int) (a b : Int) (q : Nat) : List Nat := (List.range W.length).map fun (i : Nat) => if rrB a b && decide ((i : Int) ∈ l.take q) then upV (gn W i) a b maxPen else gn W i
theorem rsK_len (W : List Nat) (l : List Int) (a b : Int) (q : Nat) : (rsK W l a b q).length = W.length := by simp [rsK]
theorem map_gn (W : List Nat) : (List.range W.length).map (fun (i : Nat) => gn W i) = W := by
  apply List.ext_getElem
  · simp
  · intro i h1 h2
    simp [gn, h2]
theorem rsK_zero (W : List Nat) (l : List Int) (a b : Int) : rsK W l a b 0 = W := by
  unfold rsK
  refine (List.map_congr_left fun i _ => ?_).trans (map_gn W)
  simp
theorem rsK_no {W : List Nat} {l : List Int} {a b : Int} (h : rrB a b = false) (q : Nat) : rsK W l a b q = W := by
  unfold rsK
  refine (List.map_congr_left fun i _ => ?_).trans (map_gn W)
  rw [h]
  simp
theorem rsK_at {W : List Nat} {l : List Int} {a b : Int} {q i : Nat} (h : i < W.length) : gn (rsK W l a b q) i = if rrB a b && decide ((i : Int) ∈ l.take q) then upV (gn W i) a b maxPen else gn W i := by
  unfold rsK
  rw [gn, List.getD_eq_getElem?_getD, List.getElem?_map, List.getElem?_range h]
  rfl
theorem take_gi {l : List Int} {q : Nat} (h : q < l.length) (z : Int) : z ∈ l.take (q + 1) ↔ z ∈ l.take q ∨ z = gi l q := by
  rw [List.take_succ_eq_append_getElem h, List.mem_append, List.mem_singleton]
  simp [gi, h]
theorem rsK_in {W : List Nat} {l : List Int} {a b : Int} {q zi : Nat} (hr : rrB a b = true) (h : q < l.length) (hz : gi l q = (zi : Int)) (hzi : zi < W.length) : (rsK W l a b q).set zi (upV (gn W zi) a b maxPen) = rsK W l a b (q + 1) := by
  apply List.ext_getElem
  · simp [rsK_len]
  · intro i h1 h2
    have hi : i < W.length := by rw [rsK_len] at h2; exact h2
    have e1 := rsK_at (W := W) (l := l) (a := a) (b := b) (q := q) hi
    have e2 := rsK_at (W := W) (l := l) (a := a) (b := b) (q := q + 1) hi
    rw [gn, List.getD_eq_getElem?_getD, List.getElem?_eq_getElem (by rw [rsK_len]; exact hi), Option.getD_some] at e1 e2
    rw [List.getElem_set, e2, hr, Bool.true_and]
    by_cases hc : zi = i
    · subst hc
      rw [if_pos rfl, if_pos (decide_eq_true ((take_gi h _).2 (.inr hz.symm)))]
    · rw [if_neg hc, e1, hr, Bool.true_and]
      have : ((i : Int) ∈ l.take (q + 1)) ↔ ((i : Int) ∈ l.take q) := by
        rw [take_gi h]
        exact ⟨fun e => e.elim id (fun e => absurd e (by rw [hz]; omega)), .inl⟩
      by_cases hm : (i : Int) ∈ l.take q
      · rw [if_pos (decide_eq_true hm), if_pos (decide_eq_true (this.2 hm))]
      · rw [if_neg (by simpa using hm), if_neg (by simpa using fun e => hm (this.1 e))]
theorem rsK_out {W : List Nat} {l : List Int} {a b : Int} {q : Nat} (h : q < l.length) (hz : ¬ (0 ≤ gi l q ∧ gi l q < (W.length : Int))) : rsK W l a b (q + 1) = rsK W l a b q := by
  unfold rsK
  refine List.map_congr_left fun i hi => ?_
  have hi := List.mem_range.1 hi
  have : decide ((i : Int) ∈ l.take (q + 1)) = decide ((i : Int) ∈ l.take q) := by
    refine decide_eq_decide.2 ?_
    rw [take_gi h]
    exact ⟨fun e => e.elim id (fun e => absurd (show 0 ≤ gi l q ∧ gi l q < (W.length : Int) by rw [← e]; omega) hz), .inl⟩
  rw [this]
def raiseL (W : List Nat) (l : List Int) (a b : Int) : List Nat := rsK W l a b l.length
theorem raiseL_at {W : List Nat} {l : List Int} {a b : Int} {i : Nat} (h : i < W.length) : gn (raiseL W l a b) i = if decide ((i : Int) ∈ l) && rrB a b then upV (gn W i) a b maxPen else gn W i := by
  unfold raiseL
  rw [rsK_at h, List.take_length, Bool.and_comm]
theorem upV_le (w : Nat) (a b : Int) (m : Nat) : upV w a b m ≤ m := by unfold upV; split <;> omega
end Go.Proofs.YtgplpgldhoelcaaGreat

namespace Go.Proofs.YtgplpgldhoelcaaGreat
open Go Go.RowKit
set_option maxHeartbeats 1000000 in
theorem r1Has (A : Option Addr) (n c : Nat) (l : List Int) (v : Int) (w : World) (h : Rd w A 1 n (l.map (.int .i64))) (hn : n ≤ 1000000) :
    Calls Tryz.prog 57 #[.slice A n c, .int .i64 v] w fun e w' => e = .returned (.bool (decide (v ∈ l))) ∧ w = w' := by
  have HL := hide (show l.length = n by simpa using h.len)
  have HR := hide h
  clear h
  go_enter Tryz.func57, Tryz.ntmps57
  go_wp2
  go_loop [5] (fun i => ∃ k : Nat, k ≤ n ∧ i = .int .i64 (k : Int) ∧ ∀ j, j < k → gi l j ≠ v) (fun i => n - (intOf i).toNat)
  case atStart => exact ⟨0, by omega, by go_num, fun j h1 => by omega⟩
  case round =>
    obtain ⟨q, hq, rfl, hall⟩ := hrel
    have HA := hide hall
    clear hall
    by_cases hend : n ≤ q
    · go_wp2
      go_ret
      refine ⟨ret_bool (decide_eq_false fun hm => ?_).symm, rfl⟩
      obtain ⟨j, hj, e⟩ := mem_gi hm
      exact HA.out j (by have := HL.out; omega) e
    · obtain ⟨b, off, rfl, hc⟩ := HR.out.ints (by omega)
      have hc1 := hc q (by omega)
      clear hc
      by_cases hv : gi l q = v
      · have HV := hide (show v ∈ l from hv ▸ gi_mem (by have := HL.out; omega))
        have hd : (gi l q == v) = true := by simpa using hv
        clear hv
        go_wp2
        go_ret
        exact ⟨ret_bool (decide_eq_true HV.out).symm, rfl⟩
      · have HV := hide hv
        have hd : (gi l q == v) = false := by simpa using hv
        clear hv
        go_wp2
        go_round
        case measure => simp [intOf]; omega
        case rel =>
          refine ⟨q + 1, by omega, by go_num, fun j h1 => ?_⟩
          by_cases hj : j = q
          · rw [hj]; exact HV.out
          · exact HA.out j (by omega)

theorem anyI_false {l : List Int} {p : Int → Bool} {n : Nat} (hl : l.length = n) (h : ∀ j, j < n → p (gi l j) = false) : l.any p = false := by
  rw [List.any_eq_false]
  intro e he
  obtain ⟨j, hj, rfl⟩ := mem_gi he
  rw [h j (by omega)]
  simp
theorem anyI_true {l : List Int} {p : Int → Bool} {j : Nat} (hj : j < l.length) (h : p (gi l j) = true) : l.any p = true := by
  rw [List.any_eq_true]
  exact ⟨gi l j, gi_mem hj, h⟩

set_option maxHeartbeats 2000000 in
theorem r8edges (N : Int) (A : Option Addr) (m c : Nat) (E : List Edg) (B : Option Addr) (n d : Nat) (l : List Int) (w : World) (h : Rd w A 3 m (esCells E)) (hm : m ≤ 1000000) (h' : Rd w B 1 n (l.map (.int .i64))) (hn : n ≤ 1000000) :
    Calls Tryz.prog 85 #[.agg #[.int .i64 N, .slice A m c], .slice B n d] w fun e w' => e = .returned (.bool (edgesB N E l)) ∧ Grows w w' := by
  have HL := hide h.elen
  have HL' := hide (show l.length = n by simpa using h'.len)
  have HR := hide h
  have HS := hide (h'.new (.cells #[.int .i64 N, .slice A m c] 35))
  clear h h'
  have C1 := fun (W : World) (g : Grows w W) => r5Right N A m c E W (HR.out.grows g) hm
  by_cases h0 : rightF N E = 0
  · have HW : Hid (edgesB N E l = !l.any fun e => !edgeB m e) := by unfold edgesB; rw [HL.out, decide_eq_true h0]; rfl
    rw [h0] at C1
    have H1 := hide C1
    clear C1 h0
    go_enter Tryz.func85, Tryz.ntmps85
    go_wp2_with (first | (go_at_call 81; refine (H1.out _ GG).mono ?_; rintro e w' ⟨rfl, hg⟩; (first | obtain ⟨x, rfl⟩ := Grows.later2 hg | obtain ⟨x, rfl⟩ := Grows.later hg); clear hg))
    go_loopw [5] (fun i wr => ∃ k : Nat, k ≤ n ∧ i = .int .i64 (k : Int) ∧ (∃ x : Later (w.alloc (.cells #[.int .i64 N, .slice A m c] 35)), wr = x.now) ∧ ∀ j, j < k → (!edgeB m (gi l j)) = false) (fun i _ => n - (intOf i).toNat)
    case atStart => exact ⟨0, by omega, by go_num, ⟨_, rfl⟩, fun j h1 => by omega⟩
    case round =>
      obtain ⟨q, hq, rfl, ⟨y, rfl⟩, hall⟩ := hrel
      have HA := hide hall
      clear hall
      by_cases hend : n ≤ q
      · go_wp2
        go_ret
        refine ⟨ret_bool ?_, GG⟩
        rw [HW.out, anyI_false (p := fun e => !edgeB m e) HL'.out fun j hj => HA.out j (by omega)]
        rfl
      · obtain ⟨b, off, rfl, hc⟩ := HS.out.ints (by omega)
        have hc1 := hc q (by omega)
        clear hc
        cases hp : edgeB m (gi l q) with
        | true =>
          have HP : Hid ((!edgeB m (gi l q)) = false) := by rw [show Hid ((!edgeB m (gi l q)) = false) = ((!edgeB m (gi l q)) = false) from rfl, hp]; rfl
          have hp' : 0 ≤ gi l q ∧ gi l q < m := by simpa [edgeB] using hp
          obtain ⟨hp1, hp2⟩ := hp'
          clear hp
          go_wp2_with fail
          ((first | refine wp_region_gen2 (by kernel_rfl) (by kernel_rfl) ?_ | refine wp_region_gen (by kernel_rfl) (by kernel_rfl) ?_); (repeat' ((first | refine gLex_val0 rfl (by kernel_rfl) (fun K hK => ?_) | refine gLex_undef rfl rfl rfl (by kernel_rfl) (fun K hK => ?_) | (refine gLex_ask rfl rfl rfl ?_; first | (apply gAsk_yes; kernel_rfl; intro K hK) | ((first | apply gAsk_no1 | apply gAsk_no2); kernel_rfl; intro K hK) | (apply gAsk_part; kernel_rfl; all_goals (intro h K hK; (try simp only [Bool.not_true, Bool.not_false, decide_eq_true_eq, decide_eq_false_iff_not] at h); try (exfalso; first | contradiction | omega))))) <;> (go_simp; (try (simp only [↓IntWalk.iteOmega]; try go_simp)); (try simp (disch := omega) only [IntWalk.i64_in, IntWalk.u64_in]); refine hK _ ?_; clear hK K))); all_goals ((apply gLex_end); intro x))
          go_wp2
          go_roundw
          case measure => simp [intOf]; omega
          case rel =>
            refine ⟨q + 1, by omega, by go_num, ⟨_, rfl⟩, fun j h1 => ?_⟩
            by_cases hj : j = q
            · rw [hj]; exact HP.out
            · exact HA.out j (by omega)
        | false =>
          have HW2 : Hid (edgesB N E l = false) := by
            rw [show Hid (edgesB N E l = false) = (edgesB N E l = false) from rfl, HW.out, anyI_true (p := fun e => !edgeB m e) (l := l) (j := q) (by have := HL'.out; omega) (by simp [hp])]; rfl
          have hp' : gi l q < 0 ∨ (m : Int) ≤ gi l q := by
            have : ¬ (0 ≤ gi l q ∧ gi l q < m) := by simpa [edgeB] using hp
            omega
          clear hp HW
          rcases hp' with hp | hp
          all_goals
            go_wp2_with fail
            ((first | refine wp_region_gen2 (by kernel_rfl) (by kernel_rfl) ?_ | refine wp_region_gen (by kernel_rfl) (by kernel_rfl) ?_); (repeat' ((first | refine gLex_val0 rfl (by kernel_rfl) (fun K hK => ?_) | refine gLex_undef rfl rfl rfl (by kernel_rfl) (fun K hK => ?_) | (refine gLex_ask rfl rfl rfl ?_; first | (apply gAsk_yes; kernel_rfl; intro K hK) | ((first | apply gAsk_no1 | apply gAsk_no2); kernel_rfl; intro K hK) | (apply gAsk_part; kernel_rfl; all_goals (intro h K hK; (try simp only [Bool.not_true, Bool.not_false, decide_eq_true_eq, decide_eq_false_iff_not] at h); try (exfalso; first | contradiction | omega))))) <;> (go_simp; (try (simp only [↓IntWalk.iteOmega]; try go_simp)); (try simp (disch := omega) only [IntWalk.i64_in, IntWalk.u64_in]); refine hK _ ?_; clear hK K))); all_goals ((apply gLex_end); intro x))
            go_wp2
            go_ret
            exact ⟨ret_bool HW2.out.symm, GG⟩
  · have HW : Hid (edgesB N E l = false) := by unfold edgesB; rw [decide_eq_false h0]; rfl
    have hd : (rightF N E != 0) = true := by simpa using h0
    have H1 := hide C1
    clear C1 h0
    go_enter Tryz.func85, Tryz.ntmps85
    go_wp2_with (first | (go_at_call 81; refine (H1.out _ GG).mono ?_; rintro e w' ⟨rfl, hg⟩; (first | obtain ⟨x, rfl⟩ := Grows.later2 hg | obtain ⟨x, rfl⟩ := Grows.later hg); clear hg))
    go_ret
    exact ⟨ret_bool HW.out.symm, GG⟩

end Go.Proofs.YtgplpgldhoelcaaGreat

namespace Go.Proofs.YtgplpgldhoelcaaGreat
open Go Go.RowKit
def RiseAt (w : World) (S : Nat → Prop) (b N bx : Nat) (s : HS) (i : Nat) (x : Itm) (k : Nat) (wr : World) : Prop :=
  ∃ s' : HS, HpAt wr S b s' ∧ s'.In N ∧ s'.L.length = s.L.length ∧ k < s.L.length ∧ s'.rise k x = s.rise i x ∧ Touch S w wr ∧ Arr wr bx 320 [.int .i64 (x.1 : Int), .int .u64 (x.2 : Int)]
set_option maxRecDepth 20000 in
set_option maxHeartbeats 4000000 in
theorem hpRise (b N : Nat) (s : HS) (i : Nat) (x : Itm) (S : Nat → Prop) (w : World) (h : HpAt w S b s) (hs : ∀ k, S k → k < w.heap.size) (hin : s.In N) (hi : i < s.L.length) (hx : x.1 < N) (hl : s.L.length ≤ 100000) :
    Calls Tryz.prog 255 #[.pointer (some ⟨b, 0, none⟩), .int .i64 (i : Int), itVal x] w fun e w' => e = .returned (.tuple #[]) ∧ HpAt w' S b (s.rise i x) ∧ Touch S w w' := by
  have hbx : ¬ S w.heap.size := fun e => by have := hs _ e; omega
  have H0 : Hid (RiseAt w S b N w.heap.size s i x i (w.alloc (.cells #[.int .i64 (x.1 : Int), .int .u64 (x.2 : Int)] 320))) :=
    ⟨s, h.grow ((Grows.refl w).new _), hin, rfl, hi, rfl, ((Grows.refl w).new _).touch S, Arr.make _ _ _⟩
  clear h hs hin
  unfold itVal
  go_enter Tryz.func255, Tryz.ntmps255
  go_wp2_with fail
  go_step3
  go_wp2_with fail
  go_step3
  go_wp2_with fail
  go_loopw [1] (fun v wr => ∃ k : Nat, v = .int .i64 (k : Int) ∧ RiseAt w S b N w.heap.size s i x k wr) (fun v _ => (Go.RowKit.intOf v).toNat)
  case atStart => exact ⟨i, rfl, H0.out⟩
  case round =>
    obtain ⟨k, rfl, s', h1, h2, h3, h4, h5, h6, h7⟩ := hrel
    clear H0
    have hk' : k < s'.L.length := by omega
    have HLX := hide (fun (W : World) (hg : Grows wr W) => hpLay b s' k x S W (h1.grow hg) hk' (by rw [h2.1]; exact hx))
    by_cases hk0 : k = 0
    · subst hk0
      have HE : Hid (s'.lay 0 x = s.rise i x) := by rw [← h5, HS.rise, dif_neg (fun e => absurd e.1 (by omega))]; rfl
      have H6 := hide h6
      clear h1 h2 h3 h5 h6
      go_wp2_with (go_at_call 269; refine (HLX.out _ GG).mono ?_; rintro e w' ⟨rfl, hp, ht⟩; have HP := hide hp; have HT := hide ht; clear hp ht)
      rw [Exit.noGoto_normal]
      go_end0
      exact ⟨rfl, HE.out ▸ HP.out, H6.out.trans HT.out⟩
    · obtain ⟨u, rfl⟩ : ∃ u, k = u + 1 := ⟨k - 1, by omega⟩
      obtain ⟨p, hp⟩ : ∃ p, u / 2 = p := ⟨_, rfl⟩
      have hq : (u : Int) / 2 = (p : Int) := by omega
      have hpl : p < s'.L.length := by omega
      have hpu : p ≤ u := by omega
      obtain ⟨A, c, G, r1, r2, r3, r4, r5, r6⟩ := h1
      obtain ⟨g, rfl, m1, m2⟩ := r2.item hpl
      have hT := h2.1
      have H2 := hide h2
      have H6 := hide h6
      have HLU := hide (fun (W : World) (hg : Grows wr W) => hpLay b s' (u + 1) (gi2 s'.L p) S W ((show HpAt wr S b s' from ⟨_, c, G, r1, r2, r3, r4, r5, r6⟩).grow hg) hk' (by rw [hT]; exact h2.2 p hpl))
      have HLE := hide (fun (W : World) => hpLess x (gi2 s'.L p) W)
      have HR : Hid (s'.rise (u + 1) x = if ahead x (gi2 s'.L p) = true then (s'.lay (u + 1) (gi2 s'.L p)).rise p x else s'.lay (u + 1) x) := by
        show _ = _
        rw [HS.rise, Nat.add_sub_cancel, hp]
        by_cases ha : ahead x (gi2 s'.L p) = true
        · rw [dif_pos ⟨by omega, ha⟩, if_pos ha]
        · rw [dif_neg (fun e => ha e.2), if_neg ha]
      have H5 := hide h5
      have HP0 := hide hp
      clear h2 h5 h6 r2 r3 r6 hT hp
      cases ha : ahead x (gi2 s'.L p) with
      | true =>
        rw [ha] at HLE HR
        generalize hgi : gi2 s'.L p = y at *
        have HGI := hide hgi
        clear ha hgi
        unfold itVal at HLU
        obtain ⟨y1, y2⟩ := y
        dsimp only at *
        rw [Int.natCast_add, Int.natCast_one] at HLU
        go_wp2_with fail
        ((first | refine wp_region_gen2 (by kernel_rfl) (by kernel_rfl) ?_ | refine wp_region_gen (by kernel_rfl) (by kernel_rfl) ?_); (repeat' ((first | refine gLex_val0 rfl (by kernel_rfl) (fun K hK => ?_) | refine gLex_undef rfl rfl rfl (by kernel_rfl) (fun K hK => ?_) | (refine gLex_ask rfl rfl rfl ?_; first | (apply gAsk_yes; kernel_rfl; intro K hK) | ((first | apply gAsk_no1 | apply gAsk_no2); kernel_rfl; intro K hK) | (apply gAsk_part; kernel_rfl; all_goals (intro h K hK; (try simp only [Bool.not_true, Bool.not_false, decide_eq_true_eq, decide_eq_false_iff_not] at h); try (exfalso; first | contradiction | omega))))) <;> (go_simp; (try (simp only [↓IntWalk.iteOmega]; try go_simp)); (try simp (disch := omega) only [IntWalk.i64_in, IntWalk.u64_in]); first | (refine hK _ ?_; clear hK K) | (apply Exists.intro; refine ⟨fun x => ?_, hK _ ?_⟩; (first | (exact HLE.out _)); clear hK K)))); all_goals ((apply gLex_end); intro z))
        go_wp2_with (go_at_call 269; refine (HLU.out _ GG).mono ?_; rintro e w' ⟨rfl, hp, ht⟩; have HPP := hide hp; have HTT := hide ht; clear hp ht)
        have hgz : Grows wr z.now := GG
        go_roundw
        case rel =>
          refine ⟨p, by go_num, s'.lay (u + 1) (y1, y2), HPP.out, H2.out.lay _ _ (by have := HGI.out; have h := H2.out.2 p hpl; rw [this] at h; exact h), by rw [(HS.lay_len _ _ _).1]; exact h3, by omega, ?_, (H6.out.grows hgz).trans HTT.out, ?_⟩
          · rw [← H5.out, HR.out]; rfl
          · exact (h7.grow hgz).touch HTT.out hbx
        case measure => simp [Go.RowKit.intOf]; omega
      | false =>
        rw [ha] at HLE HR
        clear ha HLU
        generalize gi2 s'.L p = y at *
        unfold itVal at HLE
        obtain ⟨y1, y2⟩ := y
        dsimp only at *
        rw [Int.natCast_add, Int.natCast_one] at HLX
        go_wp2_with fail
        ((first | refine wp_region_gen2 (by kernel_rfl) (by kernel_rfl) ?_ | refine wp_region_gen (by kernel_rfl) (by kernel_rfl) ?_); (repeat' ((first | refine gLex_val0 rfl (by kernel_rfl) (fun K hK => ?_) | refine gLex_undef rfl rfl rfl (by kernel_rfl) (fun K hK => ?_) | (refine gLex_ask rfl rfl rfl ?_; first | (apply gAsk_yes; kernel_rfl; intro K hK) | ((first | apply gAsk_no1 | apply gAsk_no2); kernel_rfl; intro K hK) | (apply gAsk_part; kernel_rfl; all_goals (intro h K hK; (try simp only [Bool.not_true, Bool.not_false, decide_eq_true_eq, decide_eq_false_iff_not] at h); try (exfalso; first | contradiction | omega))))) <;> (go_simp; (try (simp only [↓IntWalk.iteOmega]; try go_simp)); (try simp (disch := omega) only [IntWalk.i64_in, IntWalk.u64_in]); first | (refine hK _ ?_; clear hK K) | (apply Exists.intro; refine ⟨fun x => ?_, hK _ ?_⟩; (first | (exact HLE.out _)); clear hK K)))); all_goals ((apply gLex_end); intro z))
        go_wp2_with (go_at_call 269; refine (HLX.out _ GG).mono ?_; rintro e w' ⟨rfl, hp, ht⟩; have HPP := hide hp; have HTT := hide ht; clear hp ht)
        have hgz : Grows wr z.now := GG
        have HE : Hid (s'.lay (u + 1) x = s.rise i x) := by rw [← H5.out, HR.out]; rfl
        rw [Exit.noGoto_normal]
        go_end0
        exact ⟨rfl, HE.out ▸ HPP.out, (H6.out.grows hgz).trans HTT.out⟩
end Go.Proofs.YtgplpgldhoelcaaGreat

namespace Go.Proofs.YtgplpgldhoelcaaGreat
open Go Go.RowKit
theorem HS.sink_in {s : HS} {N : Nat} (h : s.In N) (i : Nat) (x : Itm) (hx : x.1 < N) : (s.sink i x).In N ∧ (s.sink i x).L.length = s.L.length := by
  induction hm : s.L.length - i using Nat.strongRecOn generalizing s i with
  | _ m ih =>
    subst hm
    rw [HS.sink]
    split
    · rename_i hc
      have h1 := HS.low_gt s i
      have h2 := (HS.lay_len s i (gi2 s.L (s.low i))).1
      have := ih _ (by rw [h2]; omega) (h.lay i _ (h.2 _ hc.1)) (s.low i) rfl
      rw [h2] at this
      exact this
    · exact ⟨h.lay i x hx, (HS.lay_len s i x).1⟩
def lowB (s : HS) (lo : Nat) : Bool := decide (lo + 1 < s.L.length ∧ ahead (gi2 s.L (lo + 1)) (gi2 s.L lo) = true)
def SinkAt (w : World) (S : Nat → Prop) (b N bx : Nat) (s : HS) (i : Nat) (x : Itm) (k : Nat) (wr : World) : Prop :=
  ∃ s' : HS, HpAt wr S b s' ∧ s'.In N ∧ s'.L.length = s.L.length ∧ k < s.L.length ∧ s'.sink k x = s.sink i x ∧ Touch S w wr ∧ Arr wr bx 320 [.int .i64 (x.1 : Int), .int .u64 (x.2 : Int)]
set_option maxRecDepth 20000 in
set_option maxHeartbeats 4000000 in
theorem hpSink (b N : Nat) (s : HS) (i : Nat) (x : Itm) (S : Nat → Prop) (w : World) (h : HpAt w S b s) (hs : ∀ k, S k → k < w.heap.size) (hin : s.In N) (hi : i < s.L.length) (hx : x.1 < N) (hl : s.L.length ≤ 100000) :
    Calls Tryz.prog 271 #[.pointer (some ⟨b, 0, none⟩), .int .i64 (i : Int), itVal x] w fun e w' => e = .returned (.tuple #[]) ∧ HpAt w' S b (s.sink i x) ∧ Touch S w w' := by
  have hbx : ¬ S w.heap.size := fun e => by have := hs _ e; omega
  have H0 : Hid (SinkAt w S b N w.heap.size s i x i (w.alloc (.cells #[.int .i64 (x.1 : Int), .int .u64 (x.2 : Int)] 320))) :=
    ⟨s, h.grow ((Grows.refl w).new _), hin, rfl, hi, rfl, ((Grows.refl w).new _).touch S, Arr.make _ _ _⟩
  clear h hs hin
  unfold itVal
  go_enter Tryz.func271, Tryz.ntmps271
  go_wp2_with fail
  go_step3
  go_wp2_with fail
  go_step3
  go_wp2_with fail
  go_loopw [1] (fun v wr => ∃ k : Nat, v = .int .i64 (k : Int) ∧ SinkAt w S b N w.heap.size s i x k wr) (fun v _ => s.L.length - (Go.RowKit.intOf v).toNat)
  case atStart => exact ⟨i, rfl, H0.out⟩
  case round =>
    obtain ⟨k, rfl, s', h1, h2, h3, h4, h5, h6, h7⟩ := hrel
    clear H0
    have hk' : k < s'.L.length := by omega
    have HLX := hide (fun (W : World) (hg : Grows wr W) => hpLay b s' k x S W (h1.grow hg) hk' (by rw [h2.1]; exact hx))
    obtain ⟨lo, hlo⟩ : ∃ lo, 2 * k + 1 = lo := ⟨_, rfl⟩
    have hlo2 : 2 * (k : Int) + 1 = (lo : Int) := by omega
    obtain ⟨A, c, G, r1, r2, r3, r4, r5, r6⟩ := h1
    have HLOW : Hid (s'.low k = if lo + 1 < s'.L.length ∧ ahead (gi2 s'.L (lo + 1)) (gi2 s'.L lo) = true then lo + 1 else lo) := by
      unfold HS.low; rw [hlo]; exact rfl
    have HT := hide h2.1
    have hll : s'.L.length ≤ 100000 := by omega
    have hloB : lo ≤ 300000 := by omega
    have HLO := hide hlo
    have H1 := hide (show HpAt wr S b s' from ⟨A, c, G, r1, r2, r3, r4, r5, r6⟩)
    have H2 := hide h2
    have H3 := hide h3
    have H5 := hide h5
    have H6 := hide h6
    have R2 := hide r2
    clear h2 h3 h5 h6 r2 r3 r6 hlo
    go_upto_region 4 with fail
    go_cut [35] (fun v wx => v = .bool (lowB s' lo) ∧ ∃ y : Later wr, wx = y.now)
    case first =>
      by_cases hc : lo + 1 < s'.L.length
      · obtain ⟨g, rfl, m1, m2⟩ := R2.out.item (i := lo) (by omega)
        obtain ⟨g', e, m3, m4⟩ := R2.out.item (i := lo + 1) hc
        injection e with e
        injection e with e
        subst e
        have hc1 : decide ((lo : Int) + 1 < (s'.L.length : Int)) = true := decide_eq_true (by omega)
        have HLE := hide (fun (W : World) => hpLess (gi2 s'.L (lo + 1)) (gi2 s'.L lo) W)
        cases ha : ahead (gi2 s'.L (lo + 1)) (gi2 s'.L lo) with
        | true =>
          rw [ha] at HLE
          have HV : Hid (lowB s' lo = true) := decide_eq_true ⟨hc, ha⟩
          clear ha HLOW
          generalize gi2 s'.L (lo + 1) = y at *
          generalize gi2 s'.L lo = y' at *
          unfold itVal at HLE
          ((first | refine wp_region_gen2 (by kernel_rfl) (by kernel_rfl) ?_ | refine wp_region_gen (by kernel_rfl) (by kernel_rfl) ?_); (repeat' ((first | refine gLex_val0 rfl (by kernel_rfl) (fun K hK => ?_) | refine gLex_undef rfl rfl rfl (by kernel_rfl) (fun K hK => ?_) | (refine gLex_ask rfl rfl rfl ?_; first | (apply gAsk_yes; kernel_rfl; intro K hK) | ((first | apply gAsk_no1 | apply gAsk_no2); kernel_rfl; intro K hK) | (apply gAsk_part; kernel_rfl; all_goals (intro h K hK; (try simp only [Bool.not_true, Bool.not_false, decide_eq_true_eq, decide_eq_false_iff_not] at h); try (exfalso; first | contradiction | omega))))) <;> (go_simp; (try (simp only [↓IntWalk.iteOmega]; try go_simp)); (try simp (disch := omega) only [IntWalk.i64_in, IntWalk.u64_in]); first | (refine hK _ ?_; clear hK K) | (apply Exists.intro; refine ⟨fun x => ?_, hK _ ?_⟩; (first | (exact HLE.out _)); clear hK K)))); all_goals ((apply gLex_end); intro z))
          go_wp2_with fail
          go_meet
          case rel => exact ⟨by rw [HV.out], z, rfl⟩
        | false =>
          rw [ha] at HLE
          have HV : Hid (lowB s' lo = false) := decide_eq_false (fun e => by rw [ha] at e; cases e.2)
          clear ha HLOW
          generalize gi2 s'.L (lo + 1) = y at *
          generalize gi2 s'.L lo = y' at *
          unfold itVal at HLE
          ((first | refine wp_region_gen2 (by kernel_rfl) (by kernel_rfl) ?_ | refine wp_region_gen (by kernel_rfl) (by kernel_rfl) ?_); (repeat' ((first | refine gLex_val0 rfl (by kernel_rfl) (fun K hK => ?_) | refine gLex_undef rfl rfl rfl (by kernel_rfl) (fun K hK => ?_) | (refine gLex_ask rfl rfl rfl ?_; first | (apply gAsk_yes; kernel_rfl; intro K hK) | ((first | apply gAsk_no1 | apply gAsk_no2); kernel_rfl; intro K hK) | (apply gAsk_part; kernel_rfl; all_goals (intro h K hK; (try simp only [Bool.not_true, Bool.not_false, decide_eq_true_eq, decide_eq_false_iff_not] at h); try (exfalso; first | contradiction | omega))))) <;> (go_simp; (try (simp only [↓IntWalk.iteOmega]; try go_simp)); (try simp (disch := omega) only [IntWalk.i64_in, IntWalk.u64_in]); first | (refine hK _ ?_; clear hK K) | (apply Exists.intro; refine ⟨fun x => ?_, hK _ ?_⟩; (first | (exact HLE.out _)); clear hK K)))); all_goals ((apply gLex_end); intro z))
          go_wp2_with fail
          go_meet
          case rel => exact ⟨by rw [HV.out], z, rfl⟩
      · have hc1 : decide ((lo : Int) + 1 < (s'.L.length : Int)) = false := decide_eq_false (by omega)
        have HV : Hid (lowB s' lo = false) := decide_eq_false (fun e => hc e.1)
        clear HLOW
        ((first | refine wp_region_gen2 (by kernel_rfl) (by kernel_rfl) ?_ | refine wp_region_gen (by kernel_rfl) (by kernel_rfl) ?_); (repeat' ((first | refine gLex_val0 rfl (by kernel_rfl) (fun K hK => ?_) | refine gLex_undef rfl rfl rfl (by kernel_rfl) (fun K hK => ?_) | (refine gLex_ask rfl rfl rfl ?_; first | (apply gAsk_yes; kernel_rfl; intro K hK) | ((first | apply gAsk_no1 | apply gAsk_no2); kernel_rfl; intro K hK) | (apply gAsk_part; kernel_rfl; all_goals (intro h K hK; (try simp only [Bool.not_true, Bool.not_false, decide_eq_true_eq, decide_eq_false_iff_not] at h); try (exfalso; first | contradiction | omega))))) <;> (go_simp; (try (simp only [↓IntWalk.iteOmega]; try go_simp)); (try simp (disch := omega) only [IntWalk.i64_in, IntWalk.u64_in]); refine hK _ ?_; clear hK K))); all_goals ((apply gLex_end); intro z))
        go_wp2_with fail
        go_meet
        case rel => exact ⟨by rw [HV.out], z, rfl⟩
    case rest =>
      obtain ⟨rfl, y, rfl⟩ := hcut
      have HL2 : Hid (s'.low k = if lowB s' lo = true then lo + 1 else lo) := by
        show _ = _
        rw [HLOW.out]
        unfold lowB
        simp only [decide_eq_true_eq]
      cases hb : lowB s' lo with
      | true =>
        rw [hb] at HL2
        clear hb
        have hv : (lo : Int) + 1 = (s'.low k : Int) := by have := HL2.out; rw [if_pos rfl] at this; omega
        have HVV := hide hv
        clear hv HL2
        go_wp2_with fail
        rw [HVV.out]
        clear HVV hlo2
        have HS0 : Hid (s'.sink k x = if s'.low k < s'.L.length ∧ ahead (gi2 s'.L (s'.low k)) x = true then (s'.lay k (gi2 s'.L (s'.low k))).sink (s'.low k) x else s'.lay k x) := by
          show _ = _
          rw [HS.sink]
          by_cases hh : s'.low k < s'.L.length ∧ ahead (gi2 s'.L (s'.low k)) x = true
          · rw [dif_pos hh, if_pos hh]
          · rw [dif_neg hh, if_neg hh]
        have hgt := HS.low_gt s' k
        have hlw : s'.low k ≤ 300001 := by
          have := HLOW.out
          rw [this]; split <;> omega
        have HLU := hide (fun (W : World) (hg : Grows wr W) (hlt : s'.low k < s'.L.length) => hpLay b s' k (gi2 s'.L (s'.low k)) S W (H1.out.grow hg) hk' (by rw [HT.out]; exact H2.out.2 _ hlt))
        clear HLOW
        have hgy : Grows wr y.now := GG
        by_cases hc : s'.low k < s'.L.length
        · obtain ⟨g, rfl, m1, m2⟩ := R2.out.item (i := s'.low k) hc
          have HLE := hide (fun (W : World) => hpLess (gi2 s'.L (s'.low k)) x W)
          have hbb : (gi2 s'.L (s'.low k)).1 < N := H2.out.2 _ hc
          have HBB := hide hbb
          have HLU2 := hide (fun (W : World) (hg : Grows wr W) => HLU.out W hg hc)
          have hc1 : decide ((s'.L.length : Int) ≤ (s'.low k : Int)) = false := decide_eq_false (by omega)
          have hc2 : decide (s'.L.length ≤ s'.low k) = false := decide_eq_false (by omega)
          have hkk : k < s.L.length := by omega
          have hlk : s'.low k < s.L.length := by have := H3.out; omega
          have HLK := hide hlk
          have HLG := hide hgt
          have HIN : Hid ((s'.lay k (gi2 s'.L (s'.low k))).In N) := H2.out.lay _ _ hbb
          clear HLU hbb hgt hlk
          cases ha : ahead (gi2 s'.L (s'.low k)) x with
          | true =>
            have HS1 : Hid (s'.sink k x = (s'.lay k (gi2 s'.L (s'.low k))).sink (s'.low k) x) := by rw [HS0.out, if_pos ⟨hc, ha⟩]; exact rfl
            rw [ha] at HLE
            clear ha HS0
            generalize gi2 s'.L (s'.low k) = q at *
            generalize s'.low k = p at *
            unfold itVal at HLE HLU2
            obtain ⟨q1, q2⟩ := q
            dsimp only at *
            ((first | refine wp_region_gen2 (by kernel_rfl) (by kernel_rfl) ?_ | refine wp_region_gen (by kernel_rfl) (by kernel_rfl) ?_); (repeat' ((first | refine gLex_val0 rfl (by kernel_rfl) (fun K hK => ?_) | refine gLex_undef rfl rfl rfl (by kernel_rfl) (fun K hK => ?_) | (refine gLex_ask rfl rfl rfl ?_; first | (apply gAsk_yes; kernel_rfl; intro K hK) | ((first | apply gAsk_no1 | apply gAsk_no2); kernel_rfl; intro K hK) | (apply gAsk_part; kernel_rfl; all_goals (intro h K hK; (try simp only [Bool.not_true, Bool.not_false, decide_eq_true_eq, decide_eq_false_iff_not] at h); try (exfalso; first | contradiction | omega))))) <;> (go_simp; (try (simp only [↓IntWalk.iteOmega]; try go_simp)); (try simp (disch := omega) only [IntWalk.i64_in, IntWalk.u64_in]); first | (refine hK _ ?_; clear hK K) | (apply Exists.intro; refine ⟨fun x => ?_, hK _ ?_⟩; (first | (exact HLE.out _)); clear hK K)))); all_goals ((apply gLex_end); intro z))
            go_wp2_with (go_at_call 269; refine (HLU2.out _ GG).mono ?_; rintro e w' ⟨rfl, hp, ht⟩; have HPP := hide hp; have HTT := hide ht; clear hp ht)
            have hgz : Grows wr z.now := GG
            go_roundw
            case rel =>
              refine ⟨p, by go_num, s'.lay k (q1, q2), HPP.out, HIN.out, by rw [(HS.lay_len _ _ _).1]; exact H3.out, HLK.out, ?_, (H6.out.grows hgz).trans HTT.out, ?_⟩
              · rw [← H5.out, HS1.out]
              · exact (h7.grow hgz).touch HTT.out hbx
            case measure => have := HLG.out; have := HLK.out; simp [Go.RowKit.intOf]; omega
          | false =>
            have HE : Hid (s'.lay k x = s.sink i x) := by rw [← H5.out, HS0.out, if_neg (fun e => by rw [ha] at e; cases e.2)]; exact rfl
            rw [ha] at HLE
            clear ha HS0 HLU2
            generalize gi2 s'.L (s'.low k) = q at *
            generalize s'.low k = p at *
            unfold itVal at HLE
            obtain ⟨q1, q2⟩ := q
            dsimp only at *
            ((first | refine wp_region_gen2 (by kernel_rfl) (by kernel_rfl) ?_ | refine wp_region_gen (by kernel_rfl) (by kernel_rfl) ?_); (repeat' ((first | refine gLex_val0 rfl (by kernel_rfl) (fun K hK => ?_) | refine gLex_undef rfl rfl rfl (by kernel_rfl) (fun K hK => ?_) | (refine gLex_ask rfl rfl rfl ?_; first | (apply gAsk_yes; kernel_rfl; intro K hK) | ((first | apply gAsk_no1 | apply gAsk_no2); kernel_rfl; intro K hK) | (apply gAsk_part; kernel_rfl; all_goals (intro h K hK; (try simp only [Bool.not_true, Bool.not_false, decide_eq_true_eq, decide_eq_false_iff_not] at h); try (exfalso; first | contradiction | omega))))) <;> (go_simp; (try (simp only [↓IntWalk.iteOmega]; try go_simp)); (try simp (disch := omega) only [IntWalk.i64_in, IntWalk.u64_in]); first | (refine hK _ ?_; clear hK K) | (apply Exists.intro; refine ⟨fun x => ?_, hK _ ?_⟩; (first | (exact HLE.out _)); clear hK K)))); all_goals ((apply gLex_end); intro z))
            go_wp2_with (go_at_call 269; refine (HLX.out _ GG).mono ?_; rintro e w' ⟨rfl, hp, ht⟩; have HPP := hide hp; have HTT := hide ht; clear hp ht)
            have hgz : Grows wr z.now := GG
            rw [Exit.noGoto_normal]
            go_end0
            exact ⟨rfl, HE.out ▸ HPP.out, (H6.out.grows hgz).trans HTT.out⟩
        · have hc1 : decide ((s'.L.length : Int) ≤ (s'.low k : Int)) = true := decide_eq_true (by omega)
          have hc2 : decide (s'.L.length ≤ s'.low k) = true := decide_eq_true (by omega)
          have HE : Hid (s'.lay k x = s.sink i x) := by rw [← H5.out, HS0.out, if_neg (fun e => hc e.1)]; exact rfl
          clear HLU HS0 hgt
          generalize s'.low k = p at *
          ((first | refine wp_region_gen2 (by kernel_rfl) (by kernel_rfl) ?_ | refine wp_region_gen (by kernel_rfl) (by kernel_rfl) ?_); (repeat' ((first | refine gLex_val0 rfl (by kernel_rfl) (fun K hK => ?_) | refine gLex_undef rfl rfl rfl (by kernel_rfl) (fun K hK => ?_) | (refine gLex_ask rfl rfl rfl ?_; first | (apply gAsk_yes; kernel_rfl; intro K hK) | ((first | apply gAsk_no1 | apply gAsk_no2); kernel_rfl; intro K hK) | (apply gAsk_part; kernel_rfl; all_goals (intro h K hK; (try simp only [Bool.not_true, Bool.not_false, decide_eq_true_eq, decide_eq_false_iff_not] at h); try (exfalso; first | contradiction | omega))))) <;> (go_simp; (try (simp only [↓IntWalk.iteOmega]; try go_simp)); (try simp (disch := omega) only [IntWalk.i64_in, IntWalk.u64_in]); refine hK _ ?_; clear hK K))); all_goals ((apply gLex_end); intro z))
          go_wp2_with (go_at_call 269; refine (HLX.out _ GG).mono ?_; rintro e w' ⟨rfl, hp, ht⟩; have HPP := hide hp; have HTT := hide ht; clear hp ht)
          have hgz : Grows wr z.now := GG
          rw [Exit.noGoto_normal]
          go_end0
          exact ⟨rfl, HE.out ▸ HPP.out, (H6.out.grows hgz).trans HTT.out⟩
      | false =>
        rw [hb] at HL2
        clear hb
        have hv : (lo : Int) = (s'.low k : Int) := by have := HL2.out; rw [if_neg (by decide)] at this; omega
        have HVV := hide hv
        clear hv HL2
        go_wp2_with fail
        rw [HVV.out]
        clear HVV hlo2
        have HS0 : Hid (s'.sink k x = if s'.low k < s'.L.length ∧ ahead (gi2 s'.L (s'.low k)) x = true then (s'.lay k (gi2 s'.L (s'.low k))).sink (s'.low k) x else s'.lay k x) := by
          show _ = _
          rw [HS.sink]
          by_cases hh : s'.low k < s'.L.length ∧ ahead (gi2 s'.L (s'.low k)) x = true
          · rw [dif_pos hh, if_pos hh]
          · rw [dif_neg hh, if_neg hh]
        have hgt := HS.low_gt s' k
        have hlw : s'.low k ≤ 300001 := by
          have := HLOW.out
          rw [this]; split <;> omega
        have HLU := hide (fun (W : World) (hg : Grows wr W) (hlt : s'.low k < s'.L.length) => hpLay b s' k (gi2 s'.L (s'.low k)) S W (H1.out.grow hg) hk' (by rw [HT.out]; exact H2.out.2 _ hlt))
        clear HLOW
        have hgy : Grows wr y.now := GG
        by_cases hc : s'.low k < s'.L.length
        · obtain ⟨g, rfl, m1, m2⟩ := R2.out.item (i := s'.low k) hc
          have HLE := hide (fun (W : World) => hpLess (gi2 s'.L (s'.low k)) x W)
          have hbb : (gi2 s'.L (s'.low k)).1 < N := H2.out.2 _ hc
          have HBB := hide hbb
          have HLU2 := hide (fun (W : World) (hg : Grows wr W) => HLU.out W hg hc)
          have hc1 : decide ((s'.L.length : Int) ≤ (s'.low k : Int)) = false := decide_eq_false (by omega)
          have hc2 : decide (s'.L.length ≤ s'.low k) = false := decide_eq_false (by omega)
          have hkk : k < s.L.length := by omega
          have hlk : s'.low k < s.L.length := by have := H3.out; omega
          have HLK := hide hlk
          have HLG := hide hgt
          have HIN : Hid ((s'.lay k (gi2 s'.L (s'.low k))).In N) := H2.out.lay _ _ hbb
          clear HLU hbb hgt hlk
          cases ha : ahead (gi2 s'.L (s'.low k)) x with
          | true =>
            have HS1 : Hid (s'.sink k x = (s'.lay k (gi2 s'.L (s'.low k))).sink (s'.low k) x) := by rw [HS0.out, if_pos ⟨hc, ha⟩]; exact rfl
            rw [ha] at HLE
            clear ha HS0
            generalize gi2 s'.L (s'.low k) = q at *
            generalize s'.low k = p at *
            unfold itVal at HLE HLU2
            obtain ⟨q1, q2⟩ := q
            dsimp only at *
            ((first | refine wp_region_gen2 (by kernel_rfl) (by kernel_rfl) ?_ | refine wp_region_gen (by kernel_rfl) (by kernel_rfl) ?_); (repeat' ((first | refine gLex_val0 rfl (by kernel_rfl) (fun K hK => ?_) | refine gLex_undef rfl rfl rfl (by kernel_rfl) (fun K hK => ?_) | (refine gLex_ask rfl rfl rfl ?_; first | (apply gAsk_yes; kernel_rfl; intro K hK) | ((first | apply gAsk_no1 | apply gAsk_no2); kernel_rfl; intro K hK) | (apply gAsk_part; kernel_rfl; all_goals (intro h K hK; (try simp only [Bool.not_true, Bool.not_false, decide_eq_true_eq, decide_eq_false_iff_not] at h); try (exfalso; first | contradiction | omega))))) <;> (go_simp; (try (simp only [↓IntWalk.iteOmega]; try go_simp)); (try simp (disch := omega) only [IntWalk.i64_in, IntWalk.u64_in]); first | (refine hK _ ?_; clear hK K) | (apply Exists.intro; refine ⟨fun x => ?_, hK _ ?_⟩; (first | (exact HLE.out _)); clear hK K)))); all_goals ((apply gLex_end); intro z))
            go_wp2_with (go_at_call 269; refine (HLU2.out _ GG).mono ?_; rintro e w' ⟨rfl, hp, ht⟩; have HPP := hide hp; have HTT := hide ht; clear hp ht)
            have hgz : Grows wr z.now := GG
            go_roundw
            case rel =>
              refine ⟨p, by go_num, s'.lay k (q1, q2), HPP.out, HIN.out, by rw [(HS.lay_len _ _ _).1]; exact H3.out, HLK.out, ?_, (H6.out.grows hgz).trans HTT.out, ?_⟩
              · rw [← H5.out, HS1.out]
              · exact (h7.grow hgz).touch HTT.out hbx
            case measure => have := HLG.out; have := HLK.out; simp [Go.RowKit.intOf]; omega
          | false =>
            have HE : Hid (s'.lay k x = s.sink i x) := by rw [← H5.out, HS0.out, if_neg (fun e => by rw [ha] at e; cases e.2)]; exact rfl
            rw [ha] at HLE
            clear ha HS0 HLU2
            generalize gi2 s'.L (s'.low k) = q at *
            generalize s'.low k = p at *
            unfold itVal at HLE
            obtain ⟨q1, q2⟩ := q
            dsimp only at *
            ((first | refine wp_region_gen2 (by kernel_rfl) (by kernel_rfl) ?_ | refine wp_region_gen (by kernel_rfl) (by kernel_rfl) ?_); (repeat' ((first | refine gLex_val0 rfl (by kernel_rfl) (fun K hK => ?_) | refine gLex_undef rfl rfl rfl (by kernel_rfl) (fun K hK => ?_) | (refine gLex_ask rfl rfl rfl ?_; first | (apply gAsk_yes; kernel_rfl; intro K hK) | ((first | apply gAsk_no1 | apply gAsk_no2); kernel_rfl; intro K hK) | (apply gAsk_part; kernel_rfl; all_goals (intro h K hK; (try simp only [Bool.not_true, Bool.not_false, decide_eq_true_eq, decide_eq_false_iff_not] at h); try (exfalso; first | contradiction | omega))))) <;> (go_simp; (try (simp only [↓IntWalk.iteOmega]; try go_simp)); (try simp (disch := omega) only [IntWalk.i64_in, IntWalk.u64_in]); first | (refine hK _ ?_; clear hK K) | (apply Exists.intro; refine ⟨fun x => ?_, hK _ ?_⟩; (first | (exact HLE.out _)); clear hK K)))); all_goals ((apply gLex_end); intro z))
            go_wp2_with (go_at_call 269; refine (HLX.out _ GG).mono ?_; rintro e w' ⟨rfl, hp, ht⟩; have HPP := hide hp; have HTT := hide ht; clear hp ht)
            have hgz : Grows wr z.now := GG
            rw [Exit.noGoto_normal]
            go_end0
            exact ⟨rfl, HE.out ▸ HPP.out, (H6.out.grows hgz).trans HTT.out⟩
        · have hc1 : decide ((s'.L.length : Int) ≤ (s'.low k : Int)) = true := decide_eq_true (by omega)
          have hc2 : decide (s'.L.length ≤ s'.low k) = true := decide_eq_true (by omega)
          have HE : Hid (s'.lay k x = s.sink i x) := by rw [← H5.out, HS0.out, if_neg (fun e => hc e.1)]; exact rfl
          clear HLU HS0 hgt
          generalize s'.low k = p at *
          ((first | refine wp_region_gen2 (by kernel_rfl) (by kernel_rfl) ?_ | refine wp_region_gen (by kernel_rfl) (by kernel_rfl) ?_); (repeat' ((first | refine gLex_val0 rfl (by kernel_rfl) (fun K hK => ?_) | refine gLex_undef rfl rfl rfl (by kernel_rfl) (fun K hK => ?_) | (refine gLex_ask rfl rfl rfl ?_; first | (apply gAsk_yes; kernel_rfl; intro K hK) | ((first | apply gAsk_no1 | apply gAsk_no2); kernel_rfl; intro K hK) | (apply gAsk_part; kernel_rfl; all_goals (intro h K hK; (try simp only [Bool.not_true, Bool.not_false, decide_eq_true_eq, decide_eq_false_iff_not] at h); try (exfalso; first | contradiction | omega))))) <;> (go_simp; (try (simp only [↓IntWalk.iteOmega]; try go_simp)); (try simp (disch := omega) only [IntWalk.i64_in, IntWalk.u64_in]); refine hK _ ?_; clear hK K))); all_goals ((apply gLex_end); intro z))
          go_wp2_with (go_at_call 269; refine (HLX.out _ GG).mono ?_; rintro e w' ⟨rfl, hp, ht⟩; have HPP := hide hp; have HTT := hide ht; clear hp ht)
          have hgz : Grows wr z.now := GG
          rw [Exit.noGoto_normal]
          go_end0
          exact ⟨rfl, HE.out ▸ HPP.out, (H6.out.grows hgz).trans HTT.out⟩
end Go.Proofs.YtgplpgldhoelcaaGreat

namespace Go.Proofs.YtgplpgldhoelcaaGreat
open Go Go.RowKit
def Two (v u : Value) : Pr := fun x w => ∃ g, x = .slice (some ⟨g, 0, none⟩) 1 1 ∧ Holds w ⟨g, 0, none⟩ v ∧ Holds w ⟨g, 1, none⟩ u
theorem Two.lasts (v u : Value) : Lasts (Two v u) := fun _ _ _ hg ⟨g, e, h, h2⟩ => ⟨g, e, ⟨hg.keeps h.cell⟩, ⟨hg.keeps h2.cell⟩⟩
end Go.Proofs.YtgplpgldhoelcaaGreat

