/- Contracts: the answer for which graphs may be. -/
import Derived.Deep.DeepCutAuto
import Derived.Lib.SliceRun
import Derived.Test.YtgplpgldhoelcaaGreatQPenWays00
import Derived.Test.YtgplpgldhoelcaaGreatQPenWays01
import Derived.Test.YtgplpgldhoelcaaGreatQPenWays04
namespace Go.Proofs.YtgplpgldhoelcaaGreat
open Go Go.RowKit
set_option maxHeartbeats 400000 in
theorem r5node (N v : Int) (s : Value) (w : World) : Calls Tryz.prog 143 #[.agg #[.int .i64 N, s], .int .i64 v] w fun e w' => e = .returned (.bool (nodeB N v)) ∧ Grows w w' := by
  go_enter Tryz.func143, Tryz.ntmps143
  go_wp2
  all_goals go_ret
  all_goals exact ⟨ret_bool (bool_ext (by unfold nodeB; simp; try omega)), GG⟩

set_option maxHeartbeats 400000 in
theorem r5weight (x : Int) (w : World) : Calls Tryz.prog 144 #[.int .u64 x] w fun e w' => e = .returned (.bool (wtB x)) ∧ w = w' := by
  go_enter Tryz.func144, Tryz.ntmps144
  go_wp2
  all_goals go_ret
  all_goals exact ⟨ret_bool (bool_ext (by unfold wtB; simp; try omega)), rfl⟩

theorem any_false_iff {E : List Edg} {p : Edg → Bool} {n : Nat} (hl : E.length = n) (h : ∀ j, j < n → p (ge E j) = false) : E.any p = false := by
  rw [List.any_eq_false]
  intro e he
  obtain ⟨j, hj, rfl⟩ := List.mem_iff_getElem.1 he
  have := h j (by omega)
  simpa [ge, hj] using this
theorem any_true_at {E : List Edg} {p : Edg → Bool} {j : Nat} (hj : j < E.length) (h : p (ge E j) = true) : E.any p = true := by
  rw [List.any_eq_true]
  exact ⟨ge E j, by simp [ge, hj], h⟩

set_option maxRecDepth 20000 in
set_option maxHeartbeats 4000000 in
theorem r5Right (N : Int) (A : Option Addr) (n c : Nat) (E : List Edg) (w : World) (h : Rd w A 3 n (esCells E)) (hn : n ≤ 1000000) :
    Calls Tryz.prog 81 #[.agg #[.int .i64 N, .slice A n c]] w fun e w' => e = .returned (.int .i64 (rightF N E)) ∧ Grows w w' := by
  have HL := hide h.elen
  have HR := hide h
  clear h
  by_cases h1 : N < 1 ∨ 4096 < N
  · have HW : Hid (rightF N E = 2) := by unfold rightF; rw [if_pos h1]; rfl
    go_enter Tryz.func81, Tryz.ntmps81
    go_wp2
    all_goals go_ret
    all_goals exact ⟨ret_int HW.out.symm, GG⟩
  have h3 : 1 ≤ N := by omega
  have h4 : N ≤ 4096 := by omega
  by_cases h2 : 16384 < n
  · have HW : Hid (rightF N E = 5) := by unfold rightF; rw [if_neg h1, if_pos (by have := HL.out; omega)]; rfl
    clear h1
    go_enter Tryz.func81, Tryz.ntmps81
    go_wp2
    all_goals go_ret
    all_goals exact ⟨ret_int HW.out.symm, GG⟩
  have HN := hide (show ∀ x, rightF N E = x ↔ (if E.any (looseB N) then (7 : Int) else if E.any heavyB then 2 else 0) = x from fun x => by unfold rightF; rw [if_neg h1, if_neg (by have := HL.out; omega)])
  have HG0 := hide (HR.out.new (.cells #[.int .i64 N, .slice A n c] 35))
  clear h1
  go_enter Tryz.func81, Tryz.ntmps81
  go_wp2
  go_loopw [3] (fun i wr => ∃ k : Nat, k ≤ n ∧ i = .int .i64 (k : Int) ∧ (∃ x : Later (w.alloc (.cells #[.int .i64 N, .slice A n c] 35)), wr = x.now) ∧ ∀ j, j < k → looseB N (ge E j) = false) (fun i _ => n - (intOf i).toNat)
  case atStart => exact ⟨0, by omega, by go_num, ⟨⟨_, Grows.refl _⟩, rfl⟩, fun j h1 => by omega⟩
  case round =>
    obtain ⟨q, hq, rfl, ⟨x, rfl⟩, hall⟩ := hrel
    have HA := hide hall
    clear hall
    by_cases hend : n ≤ q
    · have HB := hide (any_false_iff HL.out fun j hj => HA.out j (by omega))
      have hd : decide (q < n) = false := by simp; omega
      go_wp2
      go_loopw [4] (fun i wr => ∃ k : Nat, k ≤ n ∧ i = .int .i64 (k : Int) ∧ (∃ x : Later (w.alloc (.cells #[.int .i64 N, .slice A n c] 35)), wr = x.now) ∧ ∀ j, j < k → heavyB (ge E j) = false) (fun i _ => n - (intOf i).toNat)
      case atStart => exact ⟨0, by omega, by go_num, ⟨_, rfl⟩, fun j h1 => by omega⟩
      case round =>
        obtain ⟨r, hr, rfl, ⟨y, rfl⟩, hall⟩ := hrel
        have HC := hide hall
        clear hall
        by_cases hend2 : n ≤ r
        · have HW : Hid (rightF N E = 0) := by
            have h := any_false_iff (p := heavyB) HL.out fun j hj => HC.out j (by omega)
            rw [show Hid (rightF N E = 0) = (rightF N E = 0) from rfl, HN.out, HB.out, h]; rfl
          go_wp2
          go_ret
          exact ⟨ret_int HW.out.symm, GG⟩
        · obtain ⟨b, off, rfl, hc⟩ := HG0.out.edges (by omega)
          obtain ⟨hc1, hc2, hc3⟩ := hc r (by omega)
          clear hc hc1 hc2
          cases hp : wtB (ge E r).w with
          | false =>
            have HW : Hid (rightF N E = 2) := by
              have h := any_true_at (p := heavyB) (E := E) (j := r) (by have := HL.out; omega) (by unfold heavyB; rw [hp]; rfl)
              rw [show Hid (rightF N E = 2) = (rightF N E = 2) from rfl, HN.out, HB.out, h]; rfl
            have C := fun W => r5weight (ge E r).w W
            rw [hp] at C
            have HD := hide C
            clear hp C
            go_wp2_with (first | (go_at_call 144; refine (HD.out _).mono ?_; rintro e w' ⟨rfl, rfl⟩))
            go_ret
            exact ⟨ret_int HW.out.symm, GG⟩
          | true =>
            have HP : Hid (heavyB (ge E r) = false) := by unfold heavyB; rw [hp]; rfl
            have C := fun W => r5weight (ge E r).w W
            rw [hp] at C
            have HD := hide C
            clear hp C
            go_wp2_with (first | (go_at_call 144; refine (HD.out _).mono ?_; rintro e w' ⟨rfl, rfl⟩))
            go_roundw
            case measure => simp [intOf]; omega
            case rel =>
              refine ⟨r + 1, by omega, by go_num, ⟨_, rfl⟩, fun j h1 => ?_⟩
              by_cases hj : j = r
              · rw [hj]; exact HP.out
              · exact HC.out j (by omega)
    · obtain ⟨b, off, rfl, hc⟩ := HG0.out.edges (by omega)
      obtain ⟨hc1, hc2, hc3⟩ := hc q (by omega)
      clear hc hc3
      have C1 := fun W => r5node N (ge E q).f (.slice (some ⟨b, off, none⟩) n c) W
      have C2 := fun W => r5node N (ge E q).t (.slice (some ⟨b, off, none⟩) n c) W
      have HLo := hide (show looseB N (ge E q) = (!nodeB N (ge E q).f || (!nodeB N (ge E q).t || decide ((ge E q).f = (ge E q).t))) from rfl)
      have HT : Hid (looseB N (ge E q) = true → rightF N E = 7) := fun h => by
        have h' := any_true_at (p := looseB N) (E := E) (j := q) (by have := HL.out; omega) h
        rw [HN.out, h']; rfl
      cases h1 : nodeB N (ge E q).f with
      | false =>
        rw [h1] at C1
        have HD := hide C1
        have HW := hide (HT.out (by rw [HLo.out, h1]; rfl))
        clear C1 C2 h1
        go_wp2_with fail
        ((first | refine wp_region_gen2 (by kernel_rfl) (by kernel_rfl) ?_ | refine wp_region_gen (by kernel_rfl) (by kernel_rfl) ?_); (repeat' ((first | refine gLex_val0 rfl (by kernel_rfl) (fun K hK => ?_) | refine gLex_undef rfl rfl rfl (by kernel_rfl) (fun K hK => ?_) | (refine gLex_ask rfl rfl rfl ?_; first | (apply gAsk_yes; kernel_rfl; intro K hK) | ((first | apply gAsk_no1 | apply gAsk_no2); kernel_rfl; intro K hK) | (apply gAsk_part; kernel_rfl; all_goals (intro h K hK; (try simp only [Bool.not_true] at h); (try simp only [Bool.not_false] at h); (try simp only [decide_eq_true_eq] at h); (try simp only [decide_eq_false_iff_not] at h); try (exfalso; first | contradiction | omega))))) <;> (go_simp; (try (simp only [↓IntWalk.iteOmega]; try go_simp)); (try simp (disch := omega) only [IntWalk.i64_in]); (try simp (disch := omega) only [IntWalk.u64_in]); first | (refine hK _ ?_; clear hK K) | (apply Exists.intro; refine ⟨fun x => ?_, hK _ ?_⟩; (first | (go_at_call 143; exact HD.out _)); clear hK K)))); all_goals ((apply gLex_end); intro x))
        go_wp2
        go_ret
        exact ⟨ret_int HW.out.symm, GG⟩
      | true =>
        rw [h1] at C1
        have HD := hide C1
        clear C1
        cases h2 : nodeB N (ge E q).t with
        | false =>
          rw [h2] at C2
          have HE := hide C2
          have HW := hide (HT.out (by rw [HLo.out, h1, h2]; rfl))
          clear C2 h1 h2
          go_wp2_with fail
          ((first | refine wp_region_gen2 (by kernel_rfl) (by kernel_rfl) ?_ | refine wp_region_gen (by kernel_rfl) (by kernel_rfl) ?_); (repeat' ((first | refine gLex_val0 rfl (by kernel_rfl) (fun K hK => ?_) | refine gLex_undef rfl rfl rfl (by kernel_rfl) (fun K hK => ?_) | (refine gLex_ask rfl rfl rfl ?_; first | (apply gAsk_yes; kernel_rfl; intro K hK) | ((first | apply gAsk_no1 | apply gAsk_no2); kernel_rfl; intro K hK) | (apply gAsk_part; kernel_rfl; all_goals (intro h K hK; (try simp only [Bool.not_true] at h); (try simp only [Bool.not_false] at h); (try simp only [decide_eq_true_eq] at h); (try simp only [decide_eq_false_iff_not] at h); try (exfalso; first | contradiction | omega))))) <;> (go_simp; (try (simp only [↓IntWalk.iteOmega]; try go_simp)); (try simp (disch := omega) only [IntWalk.i64_in]); (try simp (disch := omega) only [IntWalk.u64_in]); first | (refine hK _ ?_; clear hK K) | (apply Exists.intro; refine ⟨fun x => ?_, hK _ ?_⟩; (first | (go_at_call_of 143 ((ge E q).f); exact HD.out _) | (go_at_call_of 143 ((ge E q).t); exact HE.out _)); clear hK K)))); all_goals ((apply gLex_end); intro x))
          go_wp2
          go_ret
          exact ⟨ret_int HW.out.symm, GG⟩
        | true =>
          rw [h2] at C2
          have HE := hide C2
          by_cases h5 : (ge E q).f = (ge E q).t
          · have HW := hide (HT.out (by rw [HLo.out, h1, h2, decide_eq_true h5]; rfl))
            have h5' : ((ge E q).f == (ge E q).t) = true := by simpa using h5
            clear C2 h1 h2 h5
            go_wp2_with fail
            ((first | refine wp_region_gen2 (by kernel_rfl) (by kernel_rfl) ?_ | refine wp_region_gen (by kernel_rfl) (by kernel_rfl) ?_); (repeat' ((first | refine gLex_val0 rfl (by kernel_rfl) (fun K hK => ?_) | refine gLex_undef rfl rfl rfl (by kernel_rfl) (fun K hK => ?_) | (refine gLex_ask rfl rfl rfl ?_; first | (apply gAsk_yes; kernel_rfl; intro K hK) | ((first | apply gAsk_no1 | apply gAsk_no2); kernel_rfl; intro K hK) | (apply gAsk_part; kernel_rfl; all_goals (intro h K hK; (try simp only [Bool.not_true] at h); (try simp only [Bool.not_false] at h); (try simp only [decide_eq_true_eq] at h); (try simp only [decide_eq_false_iff_not] at h); try (exfalso; first | contradiction | omega))))) <;> (go_simp; (try (simp only [↓IntWalk.iteOmega]; try go_simp)); (try simp (disch := omega) only [IntWalk.i64_in]); (try simp (disch := omega) only [IntWalk.u64_in]); first | (refine hK _ ?_; clear hK K) | (apply Exists.intro; refine ⟨fun x => ?_, hK _ ?_⟩; (first | (go_at_call_of 143 ((ge E q).f); exact HD.out _) | (go_at_call_of 143 ((ge E q).t); exact HE.out _)); clear hK K)))); all_goals ((apply gLex_end); intro x))
            go_wp2
            go_ret
            exact ⟨ret_int HW.out.symm, GG⟩
          · have HP : Hid (looseB N (ge E q) = false) := by rw [show Hid (looseB N (ge E q) = false) = (looseB N (ge E q) = false) from rfl, HLo.out, h1, h2, decide_eq_false h5]; rfl
            have h5' : ((ge E q).f == (ge E q).t) = false := by simpa using h5
            clear C2 h1 h2 h5
            go_wp2_with fail
            ((first | refine wp_region_gen2 (by kernel_rfl) (by kernel_rfl) ?_ | refine wp_region_gen (by kernel_rfl) (by kernel_rfl) ?_); (repeat' ((first | refine gLex_val0 rfl (by kernel_rfl) (fun K hK => ?_) | refine gLex_undef rfl rfl rfl (by kernel_rfl) (fun K hK => ?_) | (refine gLex_ask rfl rfl rfl ?_; first | (apply gAsk_yes; kernel_rfl; intro K hK) | ((first | apply gAsk_no1 | apply gAsk_no2); kernel_rfl; intro K hK) | (apply gAsk_part; kernel_rfl; all_goals (intro h K hK; (try simp only [Bool.not_true] at h); (try simp only [Bool.not_false] at h); (try simp only [decide_eq_true_eq] at h); (try simp only [decide_eq_false_iff_not] at h); try (exfalso; first | contradiction | omega))))) <;> (go_simp; (try (simp only [↓IntWalk.iteOmega]; try go_simp)); (try simp (disch := omega) only [IntWalk.i64_in]); (try simp (disch := omega) only [IntWalk.u64_in]); first | (refine hK _ ?_; clear hK K) | (apply Exists.intro; refine ⟨fun x => ?_, hK _ ?_⟩; (first | (go_at_call_of 143 ((ge E q).f); exact HD.out _) | (go_at_call_of 143 ((ge E q).t); exact HE.out _)); clear hK K)))); all_goals ((apply gLex_end); intro x))
            go_wp2
            go_roundw
            case measure => simp [intOf]; omega
            case rel =>
              refine ⟨q + 1, by omega, by go_num, ⟨_, rfl⟩, fun j h1 => ?_⟩
              by_cases hj : j = q
              · rw [hj]; exact HP.out
              · exact HA.out j (by omega)

end Go.Proofs.YtgplpgldhoelcaaGreat

namespace Go.Proofs.YtgplpgldhoelcaaGreat
open Go Go.RowKit
theorem gi_mem {l : List Int} {j : Nat} (h : j < l.length) : gi l j ∈ l := by
  unfold gi
  rw [List.getD_eq_getElem?_getD, List.getElem?_eq_getElem h]
  exact List.getElem_mem h
theorem mem_gi {l : List Int} {x : Int} (h : x ∈ l) : ∃ j, j < l.length ∧ gi l j = x := by
  obtain ⟨j, hj, rfl⟩ := List.mem_iff_getElem.1 h
  exact ⟨j, hj, by simp [gi, hj]⟩

set_option maxRecDepth 20000 in
set_option maxHeartbeats 1000000 in
theorem indexI (A : Option Addr) (n c : Nat) (E : List Int) (k : FuncId) (cap : Array Value) (p : Int → Bool) (w : World) (h : Rd w A 1 n (E.map (.int .i64))) (hn : n ≤ 1000000) (hk : ∀ args W, (callFunc k args).run Tryz.prog W = .ok (.enter k args) W)
    (hf : ∀ W, Grows w W → ∀ e, Calls Tryz.prog k (#[.int .i64 e] ++ cap) W fun x w' => x = .returned (.bool (p e)) ∧ Grows W w') :
    Calls Tryz.prog 208 #[.slice A n c, .func (.func k) #[] cap] w fun e w' => e = .returned (.int .i64 (firstI p E)) ∧ Grows w w' := by
  have HL := hide (show E.length = n by simpa using h.len)
  have HR := hide h
  have HF := hide hf
  clear h hf
  go_enter Tryz.func208, Tryz.ntmps208
  go_wp2
  go_loopw [8] (fun i wr => ∃ k : Nat, k ≤ n ∧ i = .int .i64 (k : Int) ∧ (∃ x : Later w, wr = x.now) ∧ ∀ j, j < k → p (gi E j) = false) (fun i _ => n - (intOf i).toNat)
  case atStart => exact ⟨0, by omega, by go_num, ⟨⟨w, Grows.refl w⟩, rfl⟩, fun j h1 => by omega⟩
  case round =>
    obtain ⟨q, hq, rfl, ⟨x, rfl⟩, hall⟩ := hrel
    have HA := hide hall
    clear hall
    by_cases hend : n ≤ q
    · go_wp2
      go_ret
      refine ⟨ret_int ?_, GG⟩
      have hl := HL.out
      have hh := HA.out
      rw [firstI_none]
      intro e he
      obtain ⟨j, hj, rfl⟩ := mem_gi he
      exact hh j (by omega)
    · obtain ⟨b, off, rfl, hc⟩ := HR.out.ints (by omega)
      have hc1 := hc q (by omega)
      clear hc
      go_wp2_with fail
      refine (HF.out _ GG (gi E q)).mono ?_; rintro e w' ⟨rfl, hg⟩; obtain ⟨x1, rfl⟩ := Grows.later2 hg; clear hg
      cases hp : p (gi E q) with
      | true =>
        have HW : Hid (firstI p E = q) := firstI_at p 0 E q (by have := HL.out; omega) HA.out hp
        clear hp
        go_wp2
        go_ret
        exact ⟨ret_int HW.out.symm, GG⟩
      | false =>
        have HP := hide hp
        clear hp
        go_wp2
        go_roundw
        case measure => simp [intOf]; omega
        case rel =>
          refine ⟨q + 1, by omega, by go_num, ⟨_, rfl⟩, fun j h1 => ?_⟩
          by_cases hj : j = q
          · rw [hj]; exact HP.out
          · exact HA.out j (by omega)

set_option maxHeartbeats 1000000 in
theorem containsI (A : Option Addr) (n c : Nat) (E : List Int) (k : FuncId) (cap : Array Value) (p : Int → Bool) (w : World) (h : Rd w A 1 n (E.map (.int .i64))) (hn : n ≤ 1000000) (hk : ∀ args W, (callFunc k args).run Tryz.prog W = .ok (.enter k args) W)
    (hf : ∀ W, Grows w W → ∀ e, Calls Tryz.prog k (#[.int .i64 e] ++ cap) W fun x w' => x = .returned (.bool (p e)) ∧ Grows W w') :
    Calls Tryz.prog 162 #[.slice A n c, .func (.func k) #[] cap] w fun e w' => e = .returned (.bool (E.any p)) ∧ Grows w w' := by
  have HC := hide (indexI A n c E k cap p w h hn hk hf)
  have HV := hide (firstI_any p E)
  clear h hf hk
  go_enter Tryz.func162, Tryz.ntmps162
  go_wp2_with (first | (go_at_call 208; refine (HC.out).mono ?_; rintro e w' ⟨rfl, hg⟩; (first | obtain ⟨x, rfl⟩ := Grows.later2 hg | obtain ⟨x, rfl⟩ := Grows.later hg); clear hg))
  all_goals go_ret
  all_goals exact ⟨ret_bool (by rw [← HV.out]), GG⟩

def edgeB (m : Nat) (e : Int) : Bool := decide (0 ≤ e ∧ e < m)
set_option maxHeartbeats 400000 in
theorem gEdge (N e : Int) (A : Option Addr) (m c : Nat) (w : World) : Calls Tryz.prog 221 #[.agg #[.int .i64 N, .slice A m c], .int .i64 e] w fun x w' => x = .returned (.bool (edgeB m e)) ∧ Grows w w' := by
  go_enter Tryz.func221, Tryz.ntmps221
  go_wp2
  all_goals go_ret
  all_goals exact ⟨ret_bool (bool_ext (by unfold edgeB; simp; try omega)), GG⟩

set_option maxHeartbeats 400000 in
theorem pEdges1 (N e : Int) (A : Option Addr) (m c : Nat) (g : Nat) (w : World) (c0 : w.cell? ⟨g, 0, none⟩ = some (.int .i64 N)) (c1 : w.cell? ⟨g, 1, none⟩ = some (.slice A m c)) :
    Calls Tryz.prog 230 #[.int .i64 e, .pointer (some ⟨g, 0, none⟩)] w fun x w' => x = .returned (.bool (!edgeB m e)) ∧ Grows w w' := by
  go_enter Tryz.func230, Tryz.ntmps230
  go_wp2_with (first | (go_at_call 221; refine (gEdge _ _ _ _ _ _).mono ?_; rintro e w' ⟨rfl, hg⟩; (first | obtain ⟨x, rfl⟩ := Grows.later2 hg | obtain ⟨x, rfl⟩ := Grows.later hg); clear hg))
  all_goals go_ret
  all_goals exact ⟨rfl, GG⟩

def edgesB (N : Int) (E : List Edg) (l : List Int) : Bool := decide (rightF N E = 0) && !(l.any fun e => !edgeB E.length e)

set_option maxHeartbeats 1000000 in
theorem pEdges (N : Int) (A : Option Addr) (m c : Nat) (E : List Edg) (B : Option Addr) (n d : Nat) (l : List Int) (w : World) (h : Rd w A 3 m (esCells E)) (hm : m ≤ 1000000) (h' : Rd w B 1 n (l.map (.int .i64))) (hn : n ≤ 1000000) :
    Calls Tryz.prog 194 #[.agg #[.int .i64 N, .slice A m c], .slice B n d] w fun e w' => e = .returned (.bool (edgesB N E l)) ∧ Grows w w' := by
  have HL := hide h.elen
  have HR := hide h
  have HS := hide h'
  clear h h'
  have HK1 := hide (fun args W => run_callGo (P := Tryz.prog) Tryz.func230 (by kernel_rfl) (by kernel_rfl) args W)
  have C1 := fun (W : World) (g : Grows w W) => gRight N A m c E W (HR.out.grows g) hm
  have C2 := hide (fun (W : World) (g : Grows w W) c0 c1 => containsI B n d l 230 #[.pointer (some ⟨w.heap.size, 0, none⟩)] (fun e => !edgeB m e) W (HS.out.grows g) hn HK1.out (fun W' g' e => pEdges1 N e A m c w.heap.size W' (g'.keeps c0) (g'.keeps c1)))
  by_cases h0 : rightF N E = 0
  · have HW : Hid (edgesB N E l = !l.any fun e => !edgeB m e) := by unfold edgesB; rw [HL.out, decide_eq_true h0]; rfl
    rw [h0] at C1
    have H1 := hide C1
    clear C1 h0
    go_enter Tryz.func194, Tryz.ntmps194
    go_wp2_with (first | (go_at_call 76; refine (H1.out _ GG).mono ?_; rintro e w' ⟨rfl, hg⟩; (first | obtain ⟨x, rfl⟩ := Grows.later2 hg | obtain ⟨x, rfl⟩ := Grows.later hg); clear hg) | (go_at_call 162; refine (C2.out _ GG (by simp [go_sem]) (by simp [go_sem])).mono ?_; rintro e w' ⟨rfl, hg⟩; (first | obtain ⟨x, rfl⟩ := Grows.later2 hg | obtain ⟨x, rfl⟩ := Grows.later hg); clear hg))
    go_ret
    exact ⟨ret_bool HW.out.symm, GG⟩
  · have HW : Hid (edgesB N E l = false) := by unfold edgesB; rw [decide_eq_false h0]; rfl
    have hd : (rightF N E == 0) = false := by simpa using h0
    have H1 := hide C1
    clear C1 h0
    go_enter Tryz.func194, Tryz.ntmps194
    go_wp2_with (first | (go_at_call 76; refine (H1.out _ GG).mono ?_; rintro e w' ⟨rfl, hg⟩; (first | obtain ⟨x, rfl⟩ := Grows.later2 hg | obtain ⟨x, rfl⟩ := Grows.later hg); clear hg))
    go_ret
    exact ⟨ret_bool HW.out.symm, GG⟩

end Go.Proofs.YtgplpgldhoelcaaGreat

namespace Go.Proofs.YtgplpgldhoelcaaGreat
open Go Go.RowKit
theorem es_one (E : List Edg) : ∀ u ∈ esCells E, u.oneCell' = true := by
  intro u hu
  obtain ⟨e, _, h⟩ := List.mem_flatMap.1 hu
  unfold eCells at h
  simp at h
  rcases h with rfl | rfl | rfl <;> rfl
set_option maxRecDepth 20000 in
set_option maxHeartbeats 2000000 in
theorem cloneE (A : Option Addr) (n c : Nat) (E : List Edg) (w : World) (h : Rd w A 3 n (esCells E)) (hn : n ≤ 1000000) :
    Calls Tryz.prog 134 #[.slice A n c] w fun e w' => ∃ A' c', e = .returned (.slice A' n c') ∧ Own w' w.heap.size 84 3 A' n c' (esCells E) ∧ Grows w w' := by
  cases A with
  | none =>
    have hn0 : n = 0 := by
      rcases Nat.eq_zero_or_pos n with h0 | h0
      · exact h0
      · obtain ⟨_, _, e, _⟩ := h.2 h0 (by omega); cases e
    subst hn0
    have hE : E = [] := List.eq_nil_of_length_eq_zero h.elen
    subst hE
    clear h
    have hnil := fun (w : World) (a : Option Addr) (n c n' c' : Nat) => Lib.run_eql_slice_nil (P := Tryz.prog) w 33 84 a n c n' c' Tryz.underlying33
    go_enter Tryz.func134, Tryz.ntmps134
    go_wp2
    go_ret
    exact ⟨none, 0, rfl, Own.nil _ _ _ _, GG⟩
  | some ad =>
    have HR := hide h
    clear h
    have hnil := fun (w : World) (a : Option Addr) (n c n' c' : Nat) => Lib.run_eql_slice_nil (P := Tryz.prog) w 33 84 a n c n' c' Tryz.underlying33
    go_enter Tryz.func134, Tryz.ntmps134
    go_wp2_with (at_builtin; refine wp_appAll elemEdge rfl _ _ rfl w GG 0 0 _ [] rfl (Own.empty _ _ _ _ (Nat.le_refl _)) ad n c _ rfl (HR.out.grows GG) (es_one E) (by omega) ?_; intro A3 c3 y3 hown3; have HO3 := hide hown3; clear hown3)
    go_ret
    exact ⟨A3, c3, by first | rfl | (simp; done) | (rw [Nat.zero_add]; rfl), by have := HO3.out; rwa [Nat.zero_add, List.nil_append] at this, GG⟩
theorem Own.low {w : World} {B n c size : Nat} {e : TypeId} {A : Option Addr} {xs : List Value} (h : Own w B e size A n c xs) {q : Addr} (hq : q.block < B) (u : Value) : Own (w.setCell q u) B e size A n c xs := by
  refine ⟨h.1, ?_⟩
  rcases h.2 with h1 | ⟨g, cap, cur, h1, h2, h3, h4⟩
  · exact .inl h1
  · refine .inr ⟨g, cap, cur, h1, h2, ?_, h4⟩
    rw [← h3]
    simp [World.setCell, Array.getElem?_modify]
    intro e
    omega
theorem Own.base {w : World} {B B' n c size : Nat} {e : TypeId} {A : Option Addr} {xs : List Value} (h : Own w B e size A n c xs) (hB : B' ≤ B) : Own w B' e size A n c xs := by
  refine ⟨h.1, ?_⟩
  rcases h.2 with h1 | ⟨g, cap, cur, h1, h2, h3⟩
  · exact .inl h1
  · exact .inr ⟨g, cap, cur, h1, Nat.le_trans hB h2, h3⟩
def GiveOG (w : World) (N : Int) (E : List Edg) (e : Ending) (w' : World) : Prop := ∃ A c, e = .returned (.agg #[.int .i64 N, .slice A E.length c]) ∧ Own w' w.heap.size 84 3 A E.length c (esCells E) ∧ Grows w w'
set_option maxRecDepth 20000 in
set_option maxHeartbeats 2000000 in
theorem gClone (N : Int) (A : Option Addr) (n c : Nat) (E : List Edg) (w : World) (h : Rd w A 3 n (esCells E)) (hn : n ≤ 1000000) :
    Calls Tryz.prog 78 #[.agg #[.int .i64 N, .slice A n c]] w (GiveOG w N E) := by
  have HL := hide h.elen
  have HC := hide (fun W (g : Grows w W) => cloneE A n c E W (h.grows g) hn)
  clear h
  go_enter Tryz.func78, Tryz.ntmps78
  go_upto_region 1 with fail
  go_region_with (go_at_call 134; refine (HC.out _ GG).mono ?_; rintro e w' ⟨A1, c1, rfl, ho1, hg⟩; obtain ⟨x1, rfl⟩ := hg.later; have HO1 := hide ho1; clear hg ho1)
  all_goals go_wp2_with fail
  all_goals refine bodyPost_ret (v := .agg #[.int .i64 N, .slice A1 n c1]) (by simp (maxDischargeDepth := 6) [results, Tryz.results78, go_sem, *]) rfl ⟨A1, c1, by rw [HL.out], ?_, GG⟩
  all_goals rw [HL.out]
  all_goals exact ((HO1.out.low (by simp) _).low (by simp) _).base (by simp; omega)
end Go.Proofs.YtgplpgldhoelcaaGreat

namespace Go.Proofs.YtgplpgldhoelcaaGreat
open Go Go.RowKit
theorem Rd.wordsH {w : World} {A : Option Addr} {n : Nat} {W : List Nat} (h : Rd w A 1 n (wv W)) (hn : 0 < n) : W.length = n ∧ ∃ b off, A = some ⟨b, off, none⟩ ∧ ∀ k, k < n → Holds w ⟨b, off + k, none⟩ (.int .u64 (gn W k : Int)) := by
  have hl : W.length = n := by have := h.len; rw [wv_len] at this; omega
  obtain ⟨b, off, e, hc⟩ := h.at_ hn
  exact ⟨hl, b, off, e, fun k hk => ⟨hc k _ (wv_at (by omega))⟩⟩
theorem Rd.wlen {w : World} {A : Option Addr} {n : Nat} {W : List Nat} (h : Rd w A 1 n (wv W)) : W.length = n := by have := h.len; rw [wv_len] at this; omega
theorem wv_one (W : List Nat) : ∀ u ∈ wv W, u.oneCell' = true := by
  intro u hu
  unfold wv at hu
  obtain ⟨x, _, rfl⟩ := List.mem_map.1 hu
  rfl
set_option maxRecDepth 20000 in
set_option maxHeartbeats 1000000 in
theorem indexU (A : Option Addr) (n c : Nat) (E : List Nat) (k : FuncId) (cap : Array Value) (p : Nat → Bool) (w : World) (h : Rd w A 1 n (wv E)) (hn : n ≤ 1000000) (hk : ∀ args W, (callFunc k args).run Tryz.prog W = .ok (.enter k args) W)
    (hf : ∀ W, Grows w W → ∀ j, j < n → Calls Tryz.prog k (#[.int .u64 (gn E j : Int)] ++ cap) W fun x w' => x = .returned (.bool (p (gn E j))) ∧ Grows W w') :
    Calls Tryz.prog 222 #[.slice A n c, .func (.func k) #[] cap] w fun e w' => e = .returned (.int .i64 (firstI p E)) ∧ Grows w w' := by
  have HL := hide h.wlen
  have HR := hide h
  have HF := hide hf
  clear h hf
  go_enter Tryz.func222, Tryz.ntmps222
  go_wp2
  go_loopw [8] (fun i wr => ∃ k : Nat, k ≤ n ∧ i = .int .i64 (k : Int) ∧ (∃ x : Later w, wr = x.now) ∧ ∀ j, j < k → p (gn E j) = false) (fun i _ => n - (Go.RowKit.intOf i).toNat)
  case atStart => exact ⟨0, by omega, by go_num, ⟨⟨w, Grows.refl w⟩, rfl⟩, fun j h1 => by omega⟩
  case round =>
    obtain ⟨q, hq, rfl, ⟨x, rfl⟩, hall⟩ := hrel
    have HA := hide hall
    clear hall
    by_cases hend : n ≤ q
    · go_wp2
      go_ret
      refine ⟨ret_int ?_, GG⟩
      have hl := HL.out
      have hh := HA.out
      rw [firstI_none]
      intro e he
      obtain ⟨j, hj, rfl⟩ := List.mem_iff_getElem.1 he
      have := hh j (by omega)
      simpa [gn, hj] using this
    · obtain ⟨_, b, off, rfl, hc⟩ := HR.out.wordsH (by omega)
      have hc1 := hc q (by omega)
      clear hc
      have CF := hide (fun (W : World) (g : Grows w W) => HF.out W g q (by omega))
      have HP0 : Hid (∀ (p' : Bool), p (gn E q) = p' → p (E.getD q 0) = p') := fun p' h => h
      cases hp : p (gn E q) with
      | true =>
        have HW : Hid (firstI p E = q) := firstI_at p 0 E q (by have := HL.out; omega) HA.out hp
        rw [hp] at CF
        clear hp HP0
        go_wp2_with fail
        refine (CF.out _ GG).mono ?_; rintro e w' ⟨rfl, hg⟩; obtain ⟨x1, rfl⟩ := Grows.later2 hg; clear hg
        go_wp2
        go_ret
        exact ⟨ret_int HW.out.symm, GG⟩
      | false =>
        have HP := hide hp
        rw [hp] at CF
        clear hp HP0
        go_wp2_with fail
        refine (CF.out _ GG).mono ?_; rintro e w' ⟨rfl, hg⟩; obtain ⟨x1, rfl⟩ := Grows.later2 hg; clear hg
        go_wp2
        go_roundw
        case measure => simp [Go.RowKit.intOf]; omega
        case rel =>
          refine ⟨q + 1, by omega, by go_num, ⟨_, rfl⟩, fun j h1 => ?_⟩
          by_cases hj : j = q
          · rw [hj]; exact HP.out
          · exact HA.out j (by omega)
set_option maxHeartbeats 1000000 in
theorem containsU (A : Option Addr) (n c : Nat) (E : List Nat) (k : FuncId) (cap : Array Value) (p : Nat → Bool) (w : World) (h : Rd w A 1 n (wv E)) (hn : n ≤ 1000000) (hk : ∀ args W, (callFunc k args).run Tryz.prog W = .ok (.enter k args) W)
    (hf : ∀ W, Grows w W → ∀ j, j < n → Calls Tryz.prog k (#[.int .u64 (gn E j : Int)] ++ cap) W fun x w' => x = .returned (.bool (p (gn E j))) ∧ Grows W w') :
    Calls Tryz.prog 181 #[.slice A n c, .func (.func k) #[] cap] w fun e w' => e = .returned (.bool (E.any p)) ∧ Grows w w' := by
  have HC := hide (indexU A n c E k cap p w h hn hk hf)
  have HV := hide (firstI_any p E)
  clear h hf hk
  go_enter Tryz.func181, Tryz.ntmps181
  go_wp2_with (first | (go_at_call 222; refine (HC.out).mono ?_; rintro e w' ⟨rfl, hg⟩; (first | obtain ⟨x, rfl⟩ := Grows.later2 hg | obtain ⟨x, rfl⟩ := Grows.later hg); clear hg))
  all_goals go_ret
  all_goals exact ⟨ret_bool (by rw [← HV.out]), GG⟩
def penB (w : Nat) : Bool := decide (w < 1 ∨ 17592186044416 < w)
set_option maxHeartbeats 400000 in
theorem djCheck1 (x : Nat) (w : World) : Calls Tryz.prog 180 #[.int .u64 (x : Int)] w fun e w' => e = .returned (.bool (penB x)) ∧ Grows w w' := by
  go_enter Tryz.func180, Tryz.ntmps180
  go_wp2
  all_goals go_ret
  all_goals exact ⟨ret_bool (bool_ext (by unfold penB; simp; try omega)), GG⟩
def dcF (N s : Int) (E : List Edg) (W : List Nat) : Int := if rightF N E ≠ 0 then 1 else if nodeB N s = false then 7 else if 0 < W.length ∧ W.length ≠ E.length then 1 else if W.any penB then 2 else 0
abbrev oVal (back : Bool) (nn ne : Value) (Aw : Option Addr) (nw cw most : Nat) : Value := .agg #[.bool back, nn, ne, .slice Aw nw cw, .int .u64 (most : Int)]
set_option maxRecDepth 20000 in
set_option maxHeartbeats 4000000 in
theorem djCheck (N s : Int) (A : Option Addr) (n c : Nat) (E : List Edg) (back : Bool) (nn ne : Value) (Aw : Option Addr) (nw cw most : Nat) (W : List Nat) (w : World) (h : Rd w A 3 n (esCells E)) (hW : Rd w Aw 1 nw (wv W)) (hn : n ≤ 1000000) (hnw : nw ≤ 1000000) :
    Calls Tryz.prog 136 #[.agg #[.int .i64 N, .slice A n c], .int .i64 s, oVal back nn ne Aw nw cw most] w fun e w' => e = .returned (.int .i64 (dcF N s E W)) ∧ Grows w w' := by
  unfold oVal
  have HL := hide h.elen
  have HLW := hide hW.wlen
  have C1 := hide (fun (W : World) (g : Grows w W) => gRight N A n c E W (h.grows g) hn)
  have K1 := fun args W => run_callGo (P := Tryz.prog) Tryz.func180 (by kernel_rfl) (by kernel_rfl) args W
  have C3 := hide (fun (W1 : World) (g : Grows w W1) => containsU Aw nw cw W 180 #[] penB W1 (hW.grows g) hnw K1 (fun W2 _ j _ => djCheck1 (gn W j) W2))
  clear h hW K1
  by_cases hr : rightF N E = 0
  · have C2 := hide (fun (W : World) => gNode N s (.slice A n c) W)
    rw [hr] at C1
    cases hb : nodeB N s with
    | false =>
      have HD := hide (show dcF N s E W = 7 from by unfold dcF; rw [hr, hb]; simp)
      rw [hb] at C2
      clear hb hr
      go_enter Tryz.func136, Tryz.ntmps136
      go_wp2_with fail
      refine (C1.out _ GG).mono ?_; rintro e w' ⟨rfl, hg⟩; obtain ⟨x1, rfl⟩ := hg.later; clear hg
      go_wp2_with fail
      refine (C2.out _).mono ?_; rintro e w' ⟨rfl, hg⟩; obtain ⟨x2, rfl⟩ := Grows.later2 hg; clear hg
      go_wp2_with fail
      go_ret
      exact ⟨ret_int HD.out.symm, GG⟩
    | true =>
      rw [hb] at C2
      by_cases hl : 0 < nw ∧ nw ≠ n
      · have HD := hide (show dcF N s E W = 1 from by unfold dcF; rw [hr, hb, HLW.out, HL.out, if_pos hl]; simp)
        obtain ⟨hl1, hl2⟩ := hl
        have hl3 : ((nw : Int) == (n : Int)) = false := beq_eq_false_iff_ne.2 (by omega)
        clear hb hr hl2
        go_enter Tryz.func136, Tryz.ntmps136
        go_wp2_with fail
        refine (C1.out _ GG).mono ?_; rintro e w' ⟨rfl, hg⟩; obtain ⟨x1, rfl⟩ := hg.later; clear hg
        go_wp2_with fail
        refine (C2.out _).mono ?_; rintro e w' ⟨rfl, hg⟩; obtain ⟨x2, rfl⟩ := Grows.later2 hg; clear hg
        go_wp2_with fail
        go_ret
        exact ⟨ret_int HD.out.symm, GG⟩
      · have HD := hide (show dcF N s E W = if W.any penB then 2 else 0 from by unfold dcF; rw [hr, hb, HLW.out, HL.out, if_neg hl]; simp)
        cases ha : W.any penB with
        | true =>
          rw [ha] at C3 HD
          clear ha hb hr
          by_cases hz : nw = 0
          · subst hz
            clear hl
            go_enter Tryz.func136, Tryz.ntmps136
            go_wp2_with fail
            refine (C1.out _ GG).mono ?_; rintro e w' ⟨rfl, hg⟩; obtain ⟨x1, rfl⟩ := hg.later; clear hg
            go_wp2_with fail
            refine (C2.out _).mono ?_; rintro e w' ⟨rfl, hg⟩; obtain ⟨x2, rfl⟩ := Grows.later2 hg; clear hg
            go_wp2_with fail
            refine (C3.out _ GG).mono ?_; rintro e w' ⟨rfl, hg⟩; obtain ⟨x3, rfl⟩ := Grows.later2 hg; clear hg
            go_wp2_with fail
            go_ret
            exact ⟨ret_int HD.out.symm, GG⟩
          · obtain rfl : nw = n := by omega
            have hp : 0 < nw := by omega
            clear hl hz
            go_enter Tryz.func136, Tryz.ntmps136
            go_wp2_with fail
            refine (C1.out _ GG).mono ?_; rintro e w' ⟨rfl, hg⟩; obtain ⟨x1, rfl⟩ := hg.later; clear hg
            go_wp2_with fail
            refine (C2.out _).mono ?_; rintro e w' ⟨rfl, hg⟩; obtain ⟨x2, rfl⟩ := Grows.later2 hg; clear hg
            go_wp2_with fail
            refine (C3.out _ GG).mono ?_; rintro e w' ⟨rfl, hg⟩; obtain ⟨x3, rfl⟩ := Grows.later2 hg; clear hg
            go_wp2_with fail
            go_ret
            exact ⟨ret_int HD.out.symm, GG⟩
        | false =>
          rw [ha] at C3 HD
          clear ha hb hr
          by_cases hz : nw = 0
          · subst hz
            clear hl
            go_enter Tryz.func136, Tryz.ntmps136
            go_wp2_with fail
            refine (C1.out _ GG).mono ?_; rintro e w' ⟨rfl, hg⟩; obtain ⟨x1, rfl⟩ := hg.later; clear hg
            go_wp2_with fail
            refine (C2.out _).mono ?_; rintro e w' ⟨rfl, hg⟩; obtain ⟨x2, rfl⟩ := Grows.later2 hg; clear hg
            go_wp2_with fail
            refine (C3.out _ GG).mono ?_; rintro e w' ⟨rfl, hg⟩; obtain ⟨x3, rfl⟩ := Grows.later2 hg; clear hg
            go_wp2_with fail
            go_ret
            exact ⟨ret_int HD.out.symm, GG⟩
          · obtain rfl : nw = n := by omega
            have hp : 0 < nw := by omega
            clear hl hz
            go_enter Tryz.func136, Tryz.ntmps136
            go_wp2_with fail
            refine (C1.out _ GG).mono ?_; rintro e w' ⟨rfl, hg⟩; obtain ⟨x1, rfl⟩ := hg.later; clear hg
            go_wp2_with fail
            refine (C2.out _).mono ?_; rintro e w' ⟨rfl, hg⟩; obtain ⟨x2, rfl⟩ := Grows.later2 hg; clear hg
            go_wp2_with fail
            refine (C3.out _ GG).mono ?_; rintro e w' ⟨rfl, hg⟩; obtain ⟨x3, rfl⟩ := Grows.later2 hg; clear hg
            go_wp2_with fail
            go_ret
            exact ⟨ret_int HD.out.symm, GG⟩
  · have hr2 : (rightF N E == 0) = false := beq_eq_false_iff_ne.2 hr
    have HD := hide (show dcF N s E W = 1 from by unfold dcF; rw [if_pos hr])
    clear hr
    generalize rightF N E = r at *
    go_enter Tryz.func136, Tryz.ntmps136
    go_wp2_with fail
    refine (C1.out _ GG).mono ?_; rintro e w' ⟨rfl, hg⟩; obtain ⟨x1, rfl⟩ := hg.later; clear hg
    go_wp2_with fail
    go_ret
    exact ⟨ret_int HD.out.symm, GG⟩
set_option maxRecDepth 20000 in
set_option maxHeartbeats 4000000 in
theorem r14Check (N s : Int) (A : Option Addr) (n c : Nat) (E : List Edg) (back : Bool) (nn ne : Value) (Aw : Option Addr) (nw cw most : Nat) (W : List Nat) (w : World) (h : Rd w A 3 n (esCells E)) (hW : Rd w Aw 1 nw (wv W)) (hn : n ≤ 1000000) (hnw : nw ≤ 1000000) :
    Calls Tryz.prog 150 #[.agg #[.int .i64 N, .slice A n c], .int .i64 s, oVal back nn ne Aw nw cw most] w fun e w' => e = .returned (.int .i64 (dcF N s E W)) ∧ Grows w w' := by
  unfold oVal
  have HL := hide h.elen
  have HLW := hide hW.wlen
  have HRW := hide hW
  have C1 := hide (fun (W : World) (g : Grows w W) => r5Right N A n c E W (h.grows g) hn)
  clear h hW
  by_cases hr : rightF N E = 0
  · rw [hr] at C1
    cases hb : nodeB N s with
    | false =>
      have HD := hide (show dcF N s E W = 7 from by unfold dcF; rw [hr, hb]; simp)
      unfold nodeB at hb
      have hb1 := of_decide_eq_false hb
      clear hb hr
      by_cases hb3 : s < 0
      · clear hb1
        go_enter Tryz.func150, Tryz.ntmps150
        go_wp2_with (go_at_call 81; refine (C1.out _ GG).mono ?_; rintro e w' ⟨rfl, hg⟩; obtain ⟨x1, rfl⟩ := hg.later; clear hg)
        go_ret
        exact ⟨ret_int HD.out.symm, GG⟩
      · have hb2 : N ≤ s := by omega
        clear hb1
        go_enter Tryz.func150, Tryz.ntmps150
        go_wp2_with (go_at_call 81; refine (C1.out _ GG).mono ?_; rintro e w' ⟨rfl, hg⟩; obtain ⟨x1, rfl⟩ := hg.later; clear hg)
        go_ret
        exact ⟨ret_int HD.out.symm, GG⟩
    | true =>
      have hb1 := hb
      unfold nodeB at hb1
      obtain ⟨hb2, hb3⟩ := of_decide_eq_true hb1
      clear hb1
      by_cases hz : nw = 0
      · have HD := hide (show dcF N s E W = 0 from by
          have : W = [] := List.eq_nil_of_length_eq_zero (by rw [HLW.out, hz])
          unfold dcF; rw [hr, hb, this]; simp)
        subst hz
        clear hb hr
        go_enter Tryz.func150, Tryz.ntmps150
        go_wp2_with (go_at_call 81; refine (C1.out _ GG).mono ?_; rintro e w' ⟨rfl, hg⟩; obtain ⟨x1, rfl⟩ := hg.later; clear hg)
        go_ret
        exact ⟨ret_int HD.out.symm, GG⟩
      have hz2 : ((nw : Int) == 0) = false := beq_eq_false_iff_ne.2 (by omega)
      by_cases hl : nw = n
      · have HD := hide (show ∀ x : Int, (if W.any penB then 2 else 0) = x → dcF N s E W = x from fun x hx => by unfold dcF; rw [if_neg (show ¬ rightF N E ≠ 0 by omega), if_neg (by simp [hb]), HLW.out, HL.out, if_neg (by omega)]; exact hx)
        subst hl
        clear hb hr hz
        go_enter Tryz.func150, Tryz.ntmps150
        go_wp2_with (go_at_call 81; refine (C1.out _ GG).mono ?_; rintro e w' ⟨rfl, hg⟩; obtain ⟨x1, rfl⟩ := hg.later; clear hg)
        go_loopw [7] (fun i wr => ∃ k : Nat, k ≤ nw ∧ i = .int .i64 (k : Int) ∧ (∃ y : Later x1.now, wr = y.now) ∧ ∀ j, j < k → penB (gn W j) = false) (fun i _ => nw - (Go.RowKit.intOf i).toNat)
        case atStart => exact ⟨0, by omega, by go_num, ⟨⟨_, Grows.refl _⟩, rfl⟩, fun j h1 => by omega⟩
        case round =>
          obtain ⟨q, hq, rfl, ⟨y, rfl⟩, hall⟩ := hrel
          have HA := hide hall
          clear hall
          by_cases hend : nw ≤ q
          · go_wp2
            go_ret
            refine ⟨ret_int (HD.out 0 ?_).symm, GG⟩
            have hl := HLW.out
            have : W.any penB = false := by
              rw [List.any_eq_false]
              intro e he
              obtain ⟨j, hj, rfl⟩ := List.mem_iff_getElem.1 he
              have := HA.out j (by omega)
              simpa [gn, hj] using this
            rw [this]; rfl
          · obtain ⟨_, b, off, rfl, hc⟩ := HRW.out.wordsH (by omega)
            have hc1 := hc q (by omega)
            clear hc
            obtain ⟨u, hu⟩ : ∃ u, gn W q = u := ⟨_, rfl⟩
            rw [hu] at hc1
            have HU := hide hu
            clear hu
            by_cases hp : u < 1 ∨ 17592186044416 < u
            · have HB : Hid (W.any penB = true) := by
                refine List.any_eq_true.2 ⟨gn W q, ?_, ?_⟩
                · have : q < W.length := by rw [HLW.out]; omega
                  unfold gn; rw [List.getD_eq_getElem?_getD, List.getElem?_eq_getElem this]; exact List.getElem_mem this
                · rw [HU.out]; unfold penB; exact decide_eq_true hp
              rcases hp with hp | hp
              · go_wp2
                go_ret
                exact ⟨ret_int (HD.out 2 (by rw [HB.out]; rfl)).symm, GG⟩
              · have hp1 : ¬ u < 1 := by omega
                go_wp2
                go_ret
                exact ⟨ret_int (HD.out 2 (by rw [HB.out]; rfl)).symm, GG⟩
            · have hp1 : ¬ u < 1 := by omega
              have hp2 : ¬ 17592186044416 < u := by omega
              have HB : Hid (penB u = false) := decide_eq_false hp
              clear hp
              go_wp2
              go_roundw
              case measure => simp [Go.RowKit.intOf]; omega
              case rel =>
                refine ⟨q + 1, by omega, by go_num, ⟨_, rfl⟩, fun j h1 => ?_⟩
                by_cases hj : j = q
                · rw [hj, HU.out]; exact HB.out
                · exact HA.out j (by omega)
      · have HD := hide (show dcF N s E W = 1 from by unfold dcF; rw [if_neg (show ¬ rightF N E ≠ 0 by omega), if_neg (by simp [hb]), HLW.out, HL.out, if_pos ⟨by omega, hl⟩])
        have hl3 : ((nw : Int) == (n : Int)) = false := beq_eq_false_iff_ne.2 (by omega)
        clear hb hr hl hz
        go_enter Tryz.func150, Tryz.ntmps150
        go_wp2_with (go_at_call 81; refine (C1.out _ GG).mono ?_; rintro e w' ⟨rfl, hg⟩; obtain ⟨x1, rfl⟩ := hg.later; clear hg)
        go_ret
        exact ⟨ret_int HD.out.symm, GG⟩
  · have hr2 : (rightF N E == 0) = false := beq_eq_false_iff_ne.2 hr
    have HD := hide (show dcF N s E W = 1 from by unfold dcF; rw [if_pos hr])
    clear hr
    generalize rightF N E = r at *
    go_enter Tryz.func150, Tryz.ntmps150
    go_wp2_with (go_at_call 81; refine (C1.out _ GG).mono ?_; rintro e w' ⟨rfl, hg⟩; obtain ⟨x1, rfl⟩ := hg.later; clear hg)
    go_ret
    exact ⟨ret_int HD.out.symm, GG⟩
end Go.Proofs.YtgplpgldhoelcaaGreat

