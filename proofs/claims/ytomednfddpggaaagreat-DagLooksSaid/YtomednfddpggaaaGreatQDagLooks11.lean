/- Contracts: what may be searched, and the weights that count, by the program and by its answer. -/
import Derived.Test.YtomednfddpggaaaGreatQDagLooks05
import Derived.Test.YtomednfddpggaaaGreatQDagLooks08
/- Contracts: what may be searched, and the weights that count, by the program and by its answer. -/
namespace Go.Proofs.YtomednfddpggaaaGreat
open Go Go.RowKit
theorem Rd.wordsH {w : World} {A : Option Addr} {n : Nat} {W : List Nat} (h : Rd w A 1 n (wv W)) (hn : 0 < n) : W.length = n ∧ ∃ b off, A = some ⟨b, off, none⟩ ∧ ∀ k, k < n → Holds w ⟨b, off + k, none⟩ (.int .u64 (gn W k : Int)) := by
  have hl : W.length = n := by have := h.len; rw [wv_len] at this; omega
  obtain ⟨b, off, e, hc⟩ := h.at_ hn
  exact ⟨hl, b, off, e, fun k hk => ⟨hc k _ (wv_at (by omega))⟩⟩
theorem Rd.wlen {w : World} {A : Option Addr} {n : Nat} {W : List Nat} (h : Rd w A 1 n (wv W)) : W.length = n := by have := h.len; rw [wv_len] at this; omega
theorem wv_one (W : List Nat) : ∀ u ∈ wv W, u.oneCell' = true := by
  intro u hu
  unfold wv at hu
  obtain ⟨x, _, rfl⟩ := List.mem_map.1 hu
  rfl
set_option maxRecDepth 20000 in
set_option maxHeartbeats 1000000 in
theorem indexU (A : Option Addr) (n c : Nat) (E : List Nat) (k : FuncId) (cap : Array Value) (p : Nat → Bool) (w : World) (h : Rd w A 1 n (wv E)) (hn : n ≤ 1000000) (hk : ∀ args W, (callFunc k args).run Tryz.prog W = .ok (.enter k args) W)
    (hf : ∀ W, Grows w W → ∀ j, j < n → Calls Tryz.prog k (#[.int .u64 (gn E j : Int)] ++ cap) W fun x w' => x = .returned (.bool (p (gn E j))) ∧ Grows W w') :
    Calls Tryz.prog 133 #[.slice A n c, .func (.func k) #[] cap] w fun e w' => e = .returned (.int .i64 (firstI p E)) ∧ Grows w w' := by
  have HL := hide h.wlen
  have HR := hide h
  have HF := hide hf
  clear h hf
  go_enter Tryz.func133, Tryz.ntmps133
  go_wp2
  go_loopw [8] (fun i wr => ∃ k : Nat, k ≤ n ∧ i = .int .i64 (k : Int) ∧ (∃ x : Later w, wr = x.now) ∧ ∀ j, j < k → p (gn E j) = false) (fun i _ => n - (Go.RowKit.intOf i).toNat)
  case atStart => exact ⟨0, by omega, by go_num, ⟨⟨w, Grows.refl w⟩, rfl⟩, fun j h1 => by omega⟩
  case round =>
    obtain ⟨q, hq, rfl, ⟨x, rfl⟩, hall⟩ := hrel
    have HA := hide hall
    clear hall
    by_cases hend : n ≤ q
    · go_wp2
      go_ret
      refine ⟨ret_int ?_, GG⟩
      have hl := HL.out
      have hh := HA.out
      rw [firstI_none]
      intro e he
      obtain ⟨j, hj, rfl⟩ := List.mem_iff_getElem.1 he
      have := hh j (by omega)
      simpa [gn, hj] using this
    · obtain ⟨_, b, off, rfl, hc⟩ := HR.out.wordsH (by omega)
      have hc1 := hc q (by omega)
      clear hc
      have CF := hide (fun (W : World) (g : Grows w W) => HF.out W g q (by omega))
      have HP0 : Hid (∀ (p' : Bool), p (gn E q) = p' → p (E.getD q 0) = p') := fun p' h => h
      cases hp : p (gn E q) with
      | true =>
        have HW : Hid (firstI p E = q) := firstI_at p 0 E q (by have := HL.out; omega) HA.out hp
        rw [hp] at CF
        clear hp HP0
        go_wp2_with fail
        refine (CF.out _ GG).mono ?_; rintro e w' ⟨rfl, hg⟩; obtain ⟨x1, rfl⟩ := Grows.later2 hg; clear hg
        go_wp2
        go_ret
        exact ⟨ret_int HW.out.symm, GG⟩
      | false =>
        have HP := hide hp
        rw [hp] at CF
        clear hp HP0
        go_wp2_with fail
        refine (CF.out _ GG).mono ?_; rintro e w' ⟨rfl, hg⟩; obtain ⟨x1, rfl⟩ := Grows.later2 hg; clear hg
        go_wp2
        go_roundw
        case measure => simp [Go.RowKit.intOf]; omega
        case rel =>
          refine ⟨q + 1, by omega, by go_num, ⟨_, rfl⟩, fun j h1 => ?_⟩
          by_cases hj : j = q
          · rw [hj]; exact HP.out
          · exact HA.out j (by omega)
set_option maxHeartbeats 1000000 in
theorem containsU (A : Option Addr) (n c : Nat) (E : List Nat) (k : FuncId) (cap : Array Value) (p : Nat → Bool) (w : World) (h : Rd w A 1 n (wv E)) (hn : n ≤ 1000000) (hk : ∀ args W, (callFunc k args).run Tryz.prog W = .ok (.enter k args) W)
    (hf : ∀ W, Grows w W → ∀ j, j < n → Calls Tryz.prog k (#[.int .u64 (gn E j : Int)] ++ cap) W fun x w' => x = .returned (.bool (p (gn E j))) ∧ Grows W w') :
    Calls Tryz.prog 100 #[.slice A n c, .func (.func k) #[] cap] w fun e w' => e = .returned (.bool (E.any p)) ∧ Grows w w' := by
  have HC := hide (indexU A n c E k cap p w h hn hk hf)
  have HV := hide (firstI_any p E)
  clear h hf hk
  go_enter Tryz.func100, Tryz.ntmps100
  go_wp2_with (first | (go_at_call 133; refine (HC.out).mono ?_; rintro e w' ⟨rfl, hg⟩; (first | obtain ⟨x, rfl⟩ := Grows.later2 hg | obtain ⟨x, rfl⟩ := Grows.later hg); clear hg))
  all_goals go_ret
  all_goals exact ⟨ret_bool (by rw [← HV.out]), GG⟩
def penB (w : Nat) : Bool := decide (w < 1 ∨ 17592186044416 < w)
set_option maxHeartbeats 400000 in
theorem djCheck1 (x : Nat) (w : World) : Calls Tryz.prog 99 #[.int .u64 (x : Int)] w fun e w' => e = .returned (.bool (penB x)) ∧ Grows w w' := by
  go_enter Tryz.func99, Tryz.ntmps99
  go_wp2
  all_goals go_ret
  all_goals exact ⟨ret_bool (bool_ext (by unfold penB; simp; try omega)), GG⟩
def dcF (N s : Int) (E : List Edg) (W : List Nat) : Int := if rightF N E ≠ 0 then 1 else if nodeB N s = false then 7 else if 0 < W.length ∧ W.length ≠ E.length then 1 else if W.any penB then 2 else 0
abbrev oVal (back : Bool) (nn ne : Value) (Aw : Option Addr) (nw cw most : Nat) : Value := .agg #[.bool back, nn, ne, .slice Aw nw cw, .int .u64 (most : Int)]
set_option maxRecDepth 20000 in
set_option maxHeartbeats 4000000 in
theorem djCheck (N s : Int) (A : Option Addr) (n c : Nat) (E : List Edg) (back : Bool) (nn ne : Value) (Aw : Option Addr) (nw cw most : Nat) (W : List Nat) (w : World) (h : Rd w A 3 n (esCells E)) (hW : Rd w Aw 1 nw (wv W)) (hn : n ≤ 1000000) (hnw : nw ≤ 1000000) :
    Calls Tryz.prog 67 #[.agg #[.int .i64 N, .slice A n c], .int .i64 s, oVal back nn ne Aw nw cw most] w fun e w' => e = .returned (.int .i64 (dcF N s E W)) ∧ Grows w w' := by
  unfold oVal
  have HL := hide h.elen
  have HLW := hide hW.wlen
  have C1 := hide (fun (W : World) (g : Grows w W) => gRight N A n c E W (h.grows g) hn)
  have K1 := fun args W => run_callGo (P := Tryz.prog) Tryz.func99 (by kernel_rfl) (by kernel_rfl) args W
  have C3 := hide (fun (W1 : World) (g : Grows w W1) => containsU Aw nw cw W 99 #[] penB W1 (hW.grows g) hnw K1 (fun W2 _ j _ => djCheck1 (gn W j) W2))
  clear h hW K1
  by_cases hr : rightF N E = 0
  · have C2 := hide (fun (W : World) => gNode N s (.slice A n c) W)
    rw [hr] at C1
    cases hb : nodeB N s with
    | false =>
      have HD := hide (show dcF N s E W = 7 from by unfold dcF; rw [hr, hb]; simp)
      rw [hb] at C2
      clear hb hr
      go_enter Tryz.func67, Tryz.ntmps67
      go_wp2_with fail
      refine (C1.out _ GG).mono ?_; rintro e w' ⟨rfl, hg⟩; obtain ⟨x1, rfl⟩ := hg.later; clear hg
      go_wp2_with fail
      refine (C2.out _).mono ?_; rintro e w' ⟨rfl, hg⟩; obtain ⟨x2, rfl⟩ := Grows.later2 hg; clear hg
      go_wp2_with fail
      go_ret
      exact ⟨ret_int HD.out.symm, GG⟩
    | true =>
      rw [hb] at C2
      by_cases hl : 0 < nw ∧ nw ≠ n
      · have HD := hide (show dcF N s E W = 1 from by unfold dcF; rw [hr, hb, HLW.out, HL.out, if_pos hl]; simp)
        obtain ⟨hl1, hl2⟩ := hl
        have hl3 : ((nw : Int) == (n : Int)) = false := beq_eq_false_iff_ne.2 (by omega)
        clear hb hr hl2
        go_enter Tryz.func67, Tryz.ntmps67
        go_wp2_with fail
        refine (C1.out _ GG).mono ?_; rintro e w' ⟨rfl, hg⟩; obtain ⟨x1, rfl⟩ := hg.later; clear hg
        go_wp2_with fail
        refine (C2.out _).mono ?_; rintro e w' ⟨rfl, hg⟩; obtain ⟨x2, rfl⟩ := Grows.later2 hg; clear hg
        go_wp2_with fail
        go_ret
        exact ⟨ret_int HD.out.symm, GG⟩
      · have HD := hide (show dcF N s E W = if W.any penB then 2 else 0 from by unfold dcF; rw [hr, hb, HLW.out, HL.out, if_neg hl]; simp)
        cases ha : W.any penB with
        | true =>
          rw [ha] at C3 HD
          clear ha hb hr
          by_cases hz : nw = 0
          · subst hz
            clear hl
            go_enter Tryz.func67, Tryz.ntmps67
            go_wp2_with fail
            refine (C1.out _ GG).mono ?_; rintro e w' ⟨rfl, hg⟩; obtain ⟨x1, rfl⟩ := hg.later; clear hg
            go_wp2_with fail
            refine (C2.out _).mono ?_; rintro e w' ⟨rfl, hg⟩; obtain ⟨x2, rfl⟩ := Grows.later2 hg; clear hg
            go_wp2_with fail
            refine (C3.out _ GG).mono ?_; rintro e w' ⟨rfl, hg⟩; obtain ⟨x3, rfl⟩ := Grows.later2 hg; clear hg
            go_wp2_with fail
            go_ret
            exact ⟨ret_int HD.out.symm, GG⟩
          · obtain rfl : nw = n := by omega
            have hp : 0 < nw := by omega
            clear hl hz
            go_enter Tryz.func67, Tryz.ntmps67
            go_wp2_with fail
            refine (C1.out _ GG).mono ?_; rintro e w' ⟨rfl, hg⟩; obtain ⟨x1, rfl⟩ := hg.later; clear hg
            go_wp2_with fail
            refine (C2.out _).mono ?_; rintro e w' ⟨rfl, hg⟩; obtain ⟨x2, rfl⟩ := Grows.later2 hg; clear hg
            go_wp2_with fail
            refine (C3.out _ GG).mono ?_; rintro e w' ⟨rfl, hg⟩; obtain ⟨x3, rfl⟩ := Grows.later2 hg; clear hg
            go_wp2_with fail
            go_ret
            exact ⟨ret_int HD.out.symm, GG⟩
        | false =>
          rw [ha] at C3 HD
          clear ha hb hr
          by_cases hz : nw = 0
          · subst hz
            clear hl
            go_enter Tryz.func67, Tryz.ntmps67
            go_wp2_with fail
            refine (C1.out _ GG).mono ?_; rintro e w' ⟨rfl, hg⟩; obtain ⟨x1, rfl⟩ := hg.later; clear hg
            go_wp2_with fail
            refine (C2.out _).mono ?_; rintro e w' ⟨rfl, hg⟩; obtain ⟨x2, rfl⟩ := Grows.later2 hg; clear hg
            go_wp2_with fail
            refine (C3.out _ GG).mono ?_; rintro e w' ⟨rfl, hg⟩; obtain ⟨x3, rfl⟩ := Grows.later2 hg; clear hg
            go_wp2_with fail
            go_ret
            exact ⟨ret_int HD.out.symm, GG⟩
          · obtain rfl : nw = n := by omega
            have hp : 0 < nw := by omega
            clear hl hz
            go_enter Tryz.func67, Tryz.ntmps67
            go_wp2_with fail
            refine (C1.out _ GG).mono ?_; rintro e w' ⟨rfl, hg⟩; obtain ⟨x1, rfl⟩ := hg.later; clear hg
            go_wp2_with fail
            refine (C2.out _).mono ?_; rintro e w' ⟨rfl, hg⟩; obtain ⟨x2, rfl⟩ := Grows.later2 hg; clear hg
            go_wp2_with fail
            refine (C3.out _ GG).mono ?_; rintro e w' ⟨rfl, hg⟩; obtain ⟨x3, rfl⟩ := Grows.later2 hg; clear hg
            go_wp2_with fail
            go_ret
            exact ⟨ret_int HD.out.symm, GG⟩
  · have hr2 : (rightF N E == 0) = false := beq_eq_false_iff_ne.2 hr
    have HD := hide (show dcF N s E W = 1 from by unfold dcF; rw [if_pos hr])
    clear hr
    generalize rightF N E = r at *
    go_enter Tryz.func67, Tryz.ntmps67
    go_wp2_with fail
    refine (C1.out _ GG).mono ?_; rintro e w' ⟨rfl, hg⟩; obtain ⟨x1, rfl⟩ := hg.later; clear hg
    go_wp2_with fail
    go_ret
    exact ⟨ret_int HD.out.symm, GG⟩
set_option maxRecDepth 20000 in
set_option maxHeartbeats 4000000 in
theorem r14Check (N s : Int) (A : Option Addr) (n c : Nat) (E : List Edg) (back : Bool) (nn ne : Value) (Aw : Option Addr) (nw cw most : Nat) (W : List Nat) (w : World) (h : Rd w A 3 n (esCells E)) (hW : Rd w Aw 1 nw (wv W)) (hn : n ≤ 1000000) (hnw : nw ≤ 1000000) :
    Calls Tryz.prog 93 #[.agg #[.int .i64 N, .slice A n c], .int .i64 s, oVal back nn ne Aw nw cw most] w fun e w' => e = .returned (.int .i64 (dcF N s E W)) ∧ Grows w w' := by
  unfold oVal
  have HL := hide h.elen
  have HLW := hide hW.wlen
  have HRW := hide hW
  have C1 := hide (fun (W : World) (g : Grows w W) => r5Right N A n c E W (h.grows g) hn)
  clear h hW
  by_cases hr : rightF N E = 0
  · rw [hr] at C1
    cases hb : nodeB N s with
    | false =>
      have HD := hide (show dcF N s E W = 7 from by unfold dcF; rw [hr, hb]; simp)
      unfold nodeB at hb
      have hb1 := of_decide_eq_false hb
      clear hb hr
      by_cases hb3 : s < 0
      · clear hb1
        go_enter Tryz.func93, Tryz.ntmps93
        go_wp2_with (go_at_call 36; refine (C1.out _ GG).mono ?_; rintro e w' ⟨rfl, hg⟩; obtain ⟨x1, rfl⟩ := hg.later; clear hg)
        go_ret
        exact ⟨ret_int HD.out.symm, GG⟩
      · have hb2 : N ≤ s := by omega
        clear hb1
        go_enter Tryz.func93, Tryz.ntmps93
        go_wp2_with (go_at_call 36; refine (C1.out _ GG).mono ?_; rintro e w' ⟨rfl, hg⟩; obtain ⟨x1, rfl⟩ := hg.later; clear hg)
        go_ret
        exact ⟨ret_int HD.out.symm, GG⟩
    | true =>
      have hb1 := hb
      unfold nodeB at hb1
      obtain ⟨hb2, hb3⟩ := of_decide_eq_true hb1
      clear hb1
      by_cases hz : nw = 0
      · have HD := hide (show dcF N s E W = 0 from by
          have : W = [] := List.eq_nil_of_length_eq_zero (by rw [HLW.out, hz])
          unfold dcF; rw [hr, hb, this]; simp)
        subst hz
        clear hb hr
        go_enter Tryz.func93, Tryz.ntmps93
        go_wp2_with (go_at_call 36; refine (C1.out _ GG).mono ?_; rintro e w' ⟨rfl, hg⟩; obtain ⟨x1, rfl⟩ := hg.later; clear hg)
        go_ret
        exact ⟨ret_int HD.out.symm, GG⟩
      have hz2 : ((nw : Int) == 0) = false := beq_eq_false_iff_ne.2 (by omega)
      by_cases hl : nw = n
      · have HD := hide (show ∀ x : Int, (if W.any penB then 2 else 0) = x → dcF N s E W = x from fun x hx => by unfold dcF; rw [if_neg (show ¬ rightF N E ≠ 0 by omega), if_neg (by simp [hb]), HLW.out, HL.out, if_neg (by omega)]; exact hx)
        subst hl
        clear hb hr hz
        go_enter Tryz.func93, Tryz.ntmps93
        go_wp2_with (go_at_call 36; refine (C1.out _ GG).mono ?_; rintro e w' ⟨rfl, hg⟩; obtain ⟨x1, rfl⟩ := hg.later; clear hg)
        go_loopw [7] (fun i wr => ∃ k : Nat, k ≤ nw ∧ i = .int .i64 (k : Int) ∧ (∃ y : Later x1.now, wr = y.now) ∧ ∀ j, j < k → penB (gn W j) = false) (fun i _ => nw - (Go.RowKit.intOf i).toNat)
        case atStart => exact ⟨0, by omega, by go_num, ⟨⟨_, Grows.refl _⟩, rfl⟩, fun j h1 => by omega⟩
        case round =>
          obtain ⟨q, hq, rfl, ⟨y, rfl⟩, hall⟩ := hrel
          have HA := hide hall
          clear hall
          by_cases hend : nw ≤ q
          · go_wp2
            go_ret
            refine ⟨ret_int (HD.out 0 ?_).symm, GG⟩
            have hl := HLW.out
            have : W.any penB = false := by
              rw [List.any_eq_false]
              intro e he
              obtain ⟨j, hj, rfl⟩ := List.mem_iff_getElem.1 he
              have := HA.out j (by omega)
              simpa [gn, hj] using this
            rw [this]; rfl
          · obtain ⟨_, b, off, rfl, hc⟩ := HRW.out.wordsH (by omega)
            have hc1 := hc q (by omega)
            clear hc
            obtain ⟨u, hu⟩ : ∃ u, gn W q = u := ⟨_, rfl⟩
            rw [hu] at hc1
            have HU := hide hu
            clear hu
            by_cases hp : u < 1 ∨ 17592186044416 < u
            · have HB : Hid (W.any penB = true) := by
                refine List.any_eq_true.2 ⟨gn W q, ?_, ?_⟩
                · have : q < W.length := by rw [HLW.out]; omega
                  unfold gn; rw [List.getD_eq_getElem?_getD, List.getElem?_eq_getElem this]; exact List.getElem_mem this
                · rw [HU.out]; unfold penB; exact decide_eq_true hp
              rcases hp with hp | hp
              · go_wp2
                go_ret
                exact ⟨ret_int (HD.out 2 (by rw [HB.out]; rfl)).symm, GG⟩
              · have hp1 : ¬ u < 1 := by omega
                go_wp2
                go_ret
                exact ⟨ret_int (HD.out 2 (by rw [HB.out]; rfl)).symm, GG⟩
            · have hp1 : ¬ u < 1 := by omega
              have hp2 : ¬ 17592186044416 < u := by omega
              have HB : Hid (penB u = false) := decide_eq_false hp
              clear hp
              go_wp2
              go_roundw
              case measure => simp [Go.RowKit.intOf]; omega
              case rel =>
                refine ⟨q + 1, by omega, by go_num, ⟨_, rfl⟩, fun j h1 => ?_⟩
                by_cases hj : j = q
                · rw [hj, HU.out]; exact HB.out
                · exact HA.out j (by omega)
      · have HD := hide (show dcF N s E W = 1 from by unfold dcF; rw [if_neg (show ¬ rightF N E ≠ 0 by omega), if_neg (by simp [hb]), HLW.out, HL.out, if_pos ⟨by omega, hl⟩])
        have hl3 : ((nw : Int) == (n : Int)) = false := beq_eq_false_iff_ne.2 (by omega)
        clear hb hr hl hz
        go_enter Tryz.func93, Tryz.ntmps93
        go_wp2_with (go_at_call 36; refine (C1.out _ GG).mono ?_; rintro e w' ⟨rfl, hg⟩; obtain ⟨x1, rfl⟩ := hg.later; clear hg)
        go_ret
        exact ⟨ret_int HD.out.symm, GG⟩
  · have hr2 : (rightF N E == 0) = false := beq_eq_false_iff_ne.2 hr
    have HD := hide (show dcF N s E W = 1 from by unfold dcF; rw [if_pos hr])
    clear hr
    generalize rightF N E = r at *
    go_enter Tryz.func93, Tryz.ntmps93
    go_wp2_with (go_at_call 36; refine (C1.out _ GG).mono ?_; rintro e w' ⟨rfl, hg⟩; obtain ⟨x1, rfl⟩ := hg.later; clear hg)
    go_ret
    exact ⟨ret_int HD.out.symm, GG⟩
end Go.Proofs.YtomednfddpggaaaGreat

/- Contracts: the weights that count, by the program and by its answer; are two rows of wide numbers the same? -/
namespace Go.Proofs.YtomednfddpggaaaGreat
open Go Go.RowKit
def GiveU (w : World) (L : List Nat) (e : Ending) (w' : World) : Prop := ∃ A c, e = .returned (.slice A L.length c) ∧ Own w' w.heap.size 38 1 A L.length c (wv L) ∧ Grows w w'
theorem GiveU.nil (w : World) {w' : World} (h : Grows w w') : GiveU w [] (.returned (.slice none 0 0)) w' := ⟨none, 0, rfl, Own.nil _ _ _ _, h⟩
set_option maxRecDepth 20000 in
set_option maxHeartbeats 2000000 in
theorem cloneU (A : Option Addr) (n c : Nat) (E : List Nat) (w : World) (h : Rd w A 1 n (wv E)) (hn : n ≤ 1000000) :
    Calls Tryz.prog 130 #[.slice A n c] w fun e w' => ∃ A' c', e = .returned (.slice A' n c') ∧ Own w' w.heap.size 38 1 A' n c' (wv E) ∧ Grows w w' := by
  cases A with
  | none =>
    have hn0 : n = 0 := by
      rcases Nat.eq_zero_or_pos n with h0 | h0
      · exact h0
      · obtain ⟨_, _, e, _⟩ := h.2 h0 (by omega); cases e
    subst hn0
    have hE : E = [] := List.eq_nil_of_length_eq_zero h.wlen
    subst hE
    clear h
    have hnil := fun (w : World) (a : Option Addr) (n c n' c' : Nat) => Lib.run_eql_slice_nil (P := Tryz.prog) w 31 38 a n c n' c' Tryz.underlying31
    go_enter Tryz.func130, Tryz.ntmps130
    go_wp2
    go_ret
    exact ⟨none, 0, rfl, Own.nil _ _ _ _, GG⟩
  | some ad =>
    have HR := hide h
    clear h
    have hnil := fun (w : World) (a : Option Addr) (n c n' c' : Nat) => Lib.run_eql_slice_nil (P := Tryz.prog) w 31 38 a n c n' c' Tryz.underlying31
    go_enter Tryz.func130, Tryz.ntmps130
    go_wp2_with (at_builtin; refine wp_appAll elemU64.elem rfl _ _ rfl w GG 0 0 _ [] rfl (Own.empty _ _ _ _ (Nat.le_refl _)) ad n c _ rfl (HR.out.grows GG) (wv_one E) (by omega) ?_; intro A3 c3 y3 hown3; have HO3 := hide hown3; clear hown3)
    go_ret
    exact ⟨A3, c3, by first | rfl | (simp; done) | (rw [Nat.zero_add]; rfl), by have := HO3.out; rwa [Nat.zero_add, List.nil_append] at this, GG⟩
def eW (E : List Edg) : List Nat := E.map fun e => e.w.toNat
theorem eW_take (E : List Edg) (k : Nat) (hk : k < E.length) : (eW E).take (k + 1) = (eW E).take k ++ [(ge E k).w.toNat] := by
  have : k < (eW E).length := by simpa [eW] using hk
  rw [List.take_succ_eq_append_getElem this]
  simp [eW, ge, hk]
def wtF (N : Int) (E : List Edg) (W : List Nat) : List Nat := if rightF N E ≠ 0 then [] else if 0 < W.length ∧ W.length ≠ E.length then [] else if 0 < W.length then W else eW E
set_option maxRecDepth 20000 in
set_option maxHeartbeats 4000000 in
theorem djWeights (N : Int) (A : Option Addr) (n c : Nat) (E : List Edg) (back : Bool) (nn ne : Value) (Aw : Option Addr) (nw cw most : Nat) (W : List Nat) (w : World) (h : Rd w A 3 n (esCells E)) (hW : Rd w Aw 1 nw (wv W)) (hn : n ≤ 1000000) (hnw : nw ≤ 1000000) :
    Calls Tryz.prog 91 #[.agg #[.int .i64 N, .slice A n c], oVal back nn ne Aw nw cw most] w (GiveU w (wtF N E W)) := by
  unfold oVal
  have HL := hide h.elen
  have HLW := hide hW.wlen
  have HR := hide h
  have C1 := hide (fun (W : World) (g : Grows w W) => gRight N A n c E W (h.grows g) hn)
  have C2 := hide (fun (W1 : World) (g : Grows w W1) => cloneU Aw nw cw W W1 (hW.grows g) hnw)
  clear h hW
  by_cases hr : rightF N E = 0
  · rw [hr] at C1
    by_cases hl : 0 < nw ∧ nw ≠ n
    · have HD := hide (show wtF N E W = [] from by unfold wtF; rw [if_neg (show ¬ rightF N E ≠ 0 by omega), HLW.out, HL.out, if_pos hl])
      obtain ⟨hl1, hl2⟩ := hl
      have hl3 : ((nw : Int) == (n : Int)) = false := beq_eq_false_iff_ne.2 (by omega)
      clear hr hl2
      rw [HD.out]
      go_enter Tryz.func91, Tryz.ntmps91
      go_wp2_with (go_at_call 31; refine (C1.out _ GG).mono ?_; rintro e w' ⟨rfl, hg⟩; obtain ⟨x1, rfl⟩ := hg.later; clear hg)
      go_ret
      exact GiveU.nil w GG
    · by_cases hz : nw = 0
      · have HD := hide (show wtF N E W = eW E from by unfold wtF; rw [if_neg (show ¬ rightF N E ≠ 0 by omega), HLW.out, HL.out, if_neg hl, if_neg (by omega)])
        obtain ⟨r1, r2, r3, r4, r5⟩ := right_in hr
        have HP := hide (show ∀ k, k < n → (ge E k).w = ((ge E k).w.toNat : Int) from fun k hk => by have := (r5 k (by rw [HL.out]; exact hk)).1; omega)
        subst hz
        clear hl hr r4 r5
        rw [HD.out]
        go_enter Tryz.func91, Tryz.ntmps91
        go_wp2_with (go_at_call 31; refine (C1.out _ GG).mono ?_; rintro e w' ⟨rfl, hg⟩; obtain ⟨x1, rfl⟩ := hg.later; clear hg)
        go_loopw [35, 4] (fun i u wr => ∃ k : Nat, k ≤ n ∧ i = .int .i64 (k : Int) ∧ ∃ y : Later x1.now, wr = y.now ∧ ∃ A' c', u = .slice A' k c' ∧ Own y.now x1.now.heap.size 38 1 A' k c' (wv ((eW E).take k))) (fun i _ _ => n - (Go.RowKit.intOf i).toNat)
        case atStart => exact ⟨0, by omega, by go_num, ⟨_, Grows.refl _⟩, rfl, none, 0, by go_num, Own.nil _ _ _ _⟩
        case round =>
          obtain ⟨k, hk, rfl, y, rfl, A', c', rfl, hown⟩ := hrel
          have HO := hide hown
          clear hown
          by_cases hend : n ≤ k
          · obtain rfl : k = n := by omega
            go_wp2
            go_ret
            have hl : (eW E).length = k := by simp [eW, HL.out]
            have ho := HO.out
            rw [List.take_of_length_le (by omega)] at ho
            exact ⟨A', c', by rw [hl]; rfl, by rw [hl]; exact ho.base (by have := x1.size; simp at this; omega), GG⟩
          · obtain ⟨b2, off2, rfl, hc2⟩ := HR.out.edgesH (by omega)
            obtain ⟨c2, c3, c4⟩ := hc2 k (by omega)
            have HT := hide (eW_take E k (by rw [HL.out]; omega))
            rw [HP.out k (by omega)] at c4
            clear hc2
            generalize (ge E k).w.toNat = v at *
            generalize (ge E k).f = f at *
            generalize (ge E k).t = t at *
            go_wp2_with (at_builtin; refine wp_app1 elemU64.elem rfl _ _ rfl _ GG k c' A' _ rfl ((HO.out.new _).new _) _ _ _ rfl inferInstance rfl (by omega) ?_; intro A3 c3 y3 hown3; have HO3 := hide hown3; clear hown3)
            go_roundw
            case measure => simp [Go.RowKit.intOf]; omega
            case rel =>
              refine ⟨k + 1, by omega, by go_num, y3, rfl, A3, c3, rfl, ?_⟩
              rw [HT.out]
              have := HO3.out
              simpa [wv] using this
      · obtain rfl : nw = n := by omega
        have hp : 0 < nw := by omega
        have HD := hide (show wtF N E W = W from by unfold wtF; rw [if_neg (show ¬ rightF N E ≠ 0 by omega), HLW.out, HL.out, if_neg hl, if_pos hp])
        clear hl hz hr
        rw [HD.out]
        go_enter Tryz.func91, Tryz.ntmps91
        go_wp2_with fail
        refine (C1.out _ GG).mono ?_; rintro e w' ⟨rfl, hg⟩; obtain ⟨x1, rfl⟩ := hg.later; clear hg
        go_wp2_with fail
        refine (C2.out _ GG).mono ?_; rintro e w' ⟨A3, c3, rfl, ho, hg⟩; have HO := hide ho; have hg2 := x1.grows.trans hg; have hs2 := hg.size; have hs1 := x1.size; clear hg ho
        go_wp2_with fail
        go_ret
        exact ⟨A3, c3, by rw [HLW.out]; rfl, by rw [HLW.out]; exact HO.out.base (by simp at hs1; omega), Grows.trans GG hg2⟩
  · have hr2 : (rightF N E == 0) = false := beq_eq_false_iff_ne.2 hr
    have HD := hide (show wtF N E W = [] from by unfold wtF; rw [if_pos hr])
    rw [HD.out]
    generalize rightF N E = r at *
    go_enter Tryz.func91, Tryz.ntmps91
    go_wp2_with (go_at_call 31; refine (C1.out _ GG).mono ?_; rintro e w' ⟨rfl, hg⟩; obtain ⟨x1, rfl⟩ := hg.later; clear hg)
    go_ret
    exact GiveU.nil w GG
set_option maxRecDepth 20000 in
set_option maxHeartbeats 4000000 in
theorem r14Weights (N : Int) (A : Option Addr) (n c : Nat) (E : List Edg) (back : Bool) (nn ne : Value) (Aw : Option Addr) (nw cw most : Nat) (W : List Nat) (w : World) (h : Rd w A 3 n (esCells E)) (hW : Rd w Aw 1 nw (wv W)) (hn : n ≤ 1000000) (hnw : nw ≤ 1000000) :
    Calls Tryz.prog 73 #[.agg #[.int .i64 N, .slice A n c], oVal back nn ne Aw nw cw most] w (GiveU w (wtF N E W)) := by
  unfold oVal
  have HL := hide h.elen
  have HLW := hide hW.wlen
  have HR := hide h
  have HRW := hide hW
  have C1 := hide (fun (W : World) (g : Grows w W) => r5Right N A n c E W (h.grows g) hn)
  clear h hW
  by_cases hr : rightF N E = 0
  · rw [hr] at C1
    by_cases hl : 0 < nw ∧ nw ≠ n
    · have HD := hide (show wtF N E W = [] from by unfold wtF; rw [if_neg (show ¬ rightF N E ≠ 0 by omega), HLW.out, HL.out, if_pos hl])
      obtain ⟨hl1, hl2⟩ := hl
      have hl3 : ((nw : Int) != (n : Int)) = true := bne_iff_ne.2 (by omega)
      have hl4 : ((nw : Int) != 0) = true := bne_iff_ne.2 (by omega)
      clear hr hl2
      rw [HD.out]
      go_enter Tryz.func73, Tryz.ntmps73
      go_wp2_with (go_at_call 36; refine (C1.out _ GG).mono ?_; rintro e w' ⟨rfl, hg⟩; obtain ⟨x1, rfl⟩ := hg.later; clear hg)
      go_ret
      exact GiveU.nil w GG
    · have HD := hide (show ∃ L, wtF N E W = L ∧ L.length = n ∧ ∀ k, k < n → if 0 < nw then gn L k = gn W k else (gn L k : Int) = (ge E k).w from by
        obtain ⟨r1, r2, r3, r4, r5⟩ := right_in hr
        unfold wtF
        rw [if_neg (show ¬ rightF N E ≠ 0 by omega), HLW.out, HL.out, if_neg hl]
        by_cases hz : 0 < nw
        · rw [if_pos hz]
          exact ⟨W, rfl, by rw [HLW.out]; omega, fun k _ => by rw [if_pos hz]⟩
        · rw [if_neg hz]
          refine ⟨eW E, rfl, by simp [eW, HL.out], fun k hk => ?_⟩
          rw [if_neg hz]
          have h1 := (r5 k (by rw [HL.out]; exact hk)).1
          have h2 : gn (eW E) k = (ge E k).w.toNat := by
            have h3 : k < E.length := by rw [HL.out]; exact hk
            simp [gn, eW, ge, h3]
          rw [h2]; omega)
      obtain ⟨L, e1, e2, e3⟩ := HD.out
      rw [e1]
      have HLL := hide e2
      have HAT := hide e3
      have hnw2 : nw = 0 ∨ nw = n := by omega
      clear hr e1 e2 e3 HD hl
      rcases hnw2 with rfl | rfl
      · clear HRW
        go_enter Tryz.func73, Tryz.ntmps73
        go_wp2_with (go_at_call 36; refine (C1.out _ GG).mono ?_; rintro e w' ⟨rfl, hg⟩; obtain ⟨x1, rfl⟩ := hg.later; clear hg)
        go_loopw [6, 5] (fun i u wr => ∃ k : Nat, k ≤ n ∧ i = .int .i64 (k : Int) ∧ ∃ y : Later x1.now, wr = y.now ∧ ∃ A' c', u = .slice A' k c' ∧ Own y.now x1.now.heap.size 38 1 A' k c' (wv (L.take k))) (fun i _ _ => n - (Go.RowKit.intOf i).toNat)
        case atStart => exact ⟨0, by omega, by go_num, ⟨_, Grows.refl _⟩, rfl, none, 0, by go_num, Own.nil _ _ _ _⟩
        case round =>
          obtain ⟨k, hk, rfl, y, rfl, A', c', rfl, hown⟩ := hrel
          have HO := hide hown
          clear hown
          by_cases hend : n ≤ k
          · obtain rfl : k = n := by omega
            go_wp2
            go_ret
            have hl := HLL.out
            have ho := HO.out
            rw [List.take_of_length_le (by omega)] at ho
            exact ⟨A', c', by rw [hl]; rfl, by rw [hl]; exact ho.base (by have := x1.size; simp at this; omega), GG⟩
          · have HT : Hid (L.take (k + 1) = L.take k ++ [gn L k]) := by
              have : k < L.length := by rw [HLL.out]; omega
              show _ = _
              rw [List.take_succ_eq_append_getElem this]
              simp [gn, this]
            have hat := HAT.out k (by omega)
            rw [if_neg (by omega)] at hat
            obtain ⟨b2, off2, rfl, hc2⟩ := HR.out.edgesH (by omega)
            obtain ⟨_, _, c4⟩ := hc2 k (by omega)
            rw [← hat] at c4
            clear hc2
            clear hat
            generalize gn L k = v at *
            go_wp2_with (at_builtin; refine wp_app1 elemU64.elem rfl _ _ rfl _ GG k c' A' _ rfl (HO.out.new _) _ _ _ rfl inferInstance rfl (by omega) ?_; intro A3 c3 y3 hown3; have HO3 := hide hown3; clear hown3)
            go_roundw
            case measure => simp [Go.RowKit.intOf]; omega
            case rel =>
              refine ⟨k + 1, by omega, by go_num, y3, rfl, A3, c3, rfl, ?_⟩
              rw [HT.out]
              have := HO3.out
              simpa [wv] using this
      · by_cases hz : nw = 0
        · subst hz
          clear HRW
          go_enter Tryz.func73, Tryz.ntmps73
          go_wp2_with (go_at_call 36; refine (C1.out _ GG).mono ?_; rintro e w' ⟨rfl, hg⟩; obtain ⟨x1, rfl⟩ := hg.later; clear hg)
          go_loopw [6, 5] (fun i u wr => ∃ k : Nat, k ≤ 0 ∧ i = .int .i64 (k : Int) ∧ ∃ y : Later x1.now, wr = y.now ∧ ∃ A' c', u = .slice A' k c' ∧ Own y.now x1.now.heap.size 38 1 A' k c' (wv (L.take k))) (fun i _ _ => 0 - (Go.RowKit.intOf i).toNat)
          case atStart => exact ⟨0, by omega, by go_num, ⟨_, Grows.refl _⟩, rfl, none, 0, by go_num, Own.nil _ _ _ _⟩
          case round =>
            obtain ⟨k, hk, rfl, y, rfl, A', c', rfl, hown⟩ := hrel
            have HO := hide hown
            clear hown
            by_cases hend : 0 ≤ k
            · obtain rfl : k = 0 := by omega
              go_wp2
              go_ret
              have hl := HLL.out
              have ho := HO.out
              rw [List.take_of_length_le (by omega)] at ho
              exact ⟨A', c', by rw [hl]; rfl, by rw [hl]; exact ho.base (by have := x1.size; simp at this; omega), GG⟩
            · exact absurd (Nat.zero_le k) hend
        · have hp : 0 < nw := by omega
          have hl4 : ((nw : Int) == 0) = false := beq_eq_false_iff_ne.2 (by omega)
          clear hz
          go_enter Tryz.func73, Tryz.ntmps73
          go_wp2_with (go_at_call 36; refine (C1.out _ GG).mono ?_; rintro e w' ⟨rfl, hg⟩; obtain ⟨x1, rfl⟩ := hg.later; clear hg)
          go_loopw [6, 5] (fun i u wr => ∃ k : Nat, k ≤ nw ∧ i = .int .i64 (k : Int) ∧ ∃ y : Later x1.now, wr = y.now ∧ ∃ A' c', u = .slice A' k c' ∧ Own y.now x1.now.heap.size 38 1 A' k c' (wv (L.take k))) (fun i _ _ => nw - (Go.RowKit.intOf i).toNat)
          case atStart => exact ⟨0, by omega, by go_num, ⟨_, Grows.refl _⟩, rfl, none, 0, by go_num, Own.nil _ _ _ _⟩
          case round =>
            obtain ⟨k, hk, rfl, y, rfl, A', c', rfl, hown⟩ := hrel
            have HO := hide hown
            clear hown
            by_cases hend : nw ≤ k
            · obtain rfl : k = nw := by omega
              go_wp2
              go_ret
              have hl := HLL.out
              have ho := HO.out
              rw [List.take_of_length_le (by omega)] at ho
              exact ⟨A', c', by rw [hl]; rfl, by rw [hl]; exact ho.base (by have := x1.size; simp at this; omega), GG⟩
            · have HT : Hid (L.take (k + 1) = L.take k ++ [gn L k]) := by
                have : k < L.length := by rw [HLL.out]; omega
                show _ = _
                rw [List.take_succ_eq_append_getElem this]
                simp [gn, this]
              have hat := HAT.out k (by omega)
              rw [if_pos (by omega)] at hat
              obtain ⟨_, b2, off2, rfl, hc2⟩ := HRW.out.wordsH (by omega)
              have c4 := hc2 k (by omega)
              rw [← hat] at c4
              clear hc2
              clear hat
              generalize gn L k = v at *
              go_wp2_with (at_builtin; refine wp_app1 elemU64.elem rfl _ _ rfl _ GG k c' A' _ rfl (HO.out.new _) _ _ _ rfl inferInstance rfl (by omega) ?_; intro A3 c3 y3 hown3; have HO3 := hide hown3; clear hown3)
              go_roundw
              case measure => simp [Go.RowKit.intOf]; omega
              case rel =>
                refine ⟨k + 1, by omega, by go_num, y3, rfl, A3, c3, rfl, ?_⟩
                rw [HT.out]
                have := HO3.out
                simpa [wv] using this
  · have hr2 : (rightF N E == 0) = false := beq_eq_false_iff_ne.2 hr
    have HD := hide (show wtF N E W = [] from by unfold wtF; rw [if_pos hr])
    rw [HD.out]
    generalize rightF N E = r at *
    go_enter Tryz.func73, Tryz.ntmps73
    go_wp2_with (go_at_call 36; refine (C1.out _ GG).mono ?_; rintro e w' ⟨rfl, hg⟩; obtain ⟨x1, rfl⟩ := hg.later; clear hg)
    go_ret
    exact GiveU.nil w GG
theorem same_false {L M : List Nat} {j : Nat} (hl : L.length = M.length) (_ : j < L.length) (h : gn L j ≠ gn M j) : decide (L = M) = false := by
  rw [decide_eq_false_iff_not]
  rintro rfl
  exact h rfl
theorem same_true {L M : List Nat} (hl : L.length = M.length) (h : ∀ j, j < L.length → gn L j = gn M j) : decide (L = M) = true := by
  rw [decide_eq_true_eq]
  refine List.ext_getElem hl fun j h1 h2 => ?_
  have := h j h1
  simpa [gn, h1, h2] using this
end Go.Proofs.YtomednfddpggaaaGreat
