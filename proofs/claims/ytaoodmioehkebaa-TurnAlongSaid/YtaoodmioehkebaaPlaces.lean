/- Contracts: slices of places. -/
import Derived.Test.YtaoodmioehkebaaRoot
import Derived.Test.YtaoodmioehkebaaGraph
namespace Go.Proofs.Ytaoodmioehkebaa
open Go Go.RowKit

/-- A place. -/
structure Pl where
  x : Int
  y : Int
deriving DecidableEq
def pCells (e : Pl) : List Value := [.int .i64 e.x, .int .i64 e.y]
def pVal (e : Pl) : Value := .agg #[.int .i64 e.x, .int .i64 e.y]
def psCells (E : List Pl) : List Value := E.flatMap pCells
def gp (E : List Pl) (k : Nat) : Pl := E.getD k ⟨0, 0⟩

theorem psCells_length (E : List Pl) : (psCells E).length = E.length * 2 := by
  induction E with
  | nil => rfl
  | cons e E ih => simp [psCells, pCells] at *; omega
theorem psCells_at (E : List Pl) (k j : Nat) (hk : k < E.length) (hj : j < 2) : (psCells E)[k * 2 + j]? = (pCells (gp E k))[j]? := by
  induction E generalizing k with
  | nil => simp at hk
  | cons e E ih =>
    have h1 : psCells (e :: E) = pCells e ++ psCells E := rfl
    rw [h1]
    cases k with
    | zero => rw [List.getElem?_append_left (by simp [pCells]; omega)]; simp [gp]
    | succ k =>
      rw [List.getElem?_append_right (by simp [pCells]; omega)]
      have := ih k (by simpa using hk)
      rw [show (k + 1) * 2 + j - (pCells e).length = k * 2 + j by simp [pCells]; omega, this]
      simp [gp]

/-- Of a slice of places: each cell of each. -/
theorem Rd.places {w : World} {A : Option Addr} {n : Nat} {E : List Pl} (h : Rd w A 2 n (psCells E)) (hn : 0 < n) :
    ∃ b off, A = some ⟨b, off, none⟩ ∧ ∀ k, k < n → w.cell? ⟨b, off + k * 2, none⟩ = some (.int .i64 (gp E k).x) ∧ w.cell? ⟨b, off + k * 2 + 1, none⟩ = some (.int .i64 (gp E k).y) := by
  have hl := h.1
  rw [psCells_length] at hl
  obtain ⟨b, off, e, hc⟩ := h.2 hn (by omega)
  refine ⟨b, off, e, fun k hk => ⟨?_, ?_⟩⟩
  · exact hc (k * 2 + 0) _ (by rw [psCells_at E k 0 (by omega) (by omega)]; rfl)
  · have := hc (k * 2 + 1) _ (by rw [psCells_at E k 1 (by omega) (by omega)]; rfl)
    rwa [← Nat.add_assoc] at this
theorem Rd.plen {w : World} {A : Option Addr} {n : Nat} {E : List Pl} (h : Rd w A 2 n (psCells E)) : E.length = n := by
  have hl := h.1
  rw [psCells_length] at hl
  omega
def okP (p : Pl) : Bool := oneB p.x p.y

set_option maxRecDepth 20000 in
set_option maxHeartbeats 1000000 in
theorem indexP (A : Option Addr) (n c : Nat) (E : List Pl) (k : FuncId) (cap : Array Value) (p : Pl → Bool) (w : World) (h : Rd w A 2 n (psCells E)) (hn : n ≤ 1000000) (hk : ∀ args W, (callFunc k args).run Try.prog W = .ok (.enter k args) W)
    (hf : ∀ W, Grows w W → ∀ e, Calls Try.prog k (#[pVal e] ++ cap) W fun x w' => x = .returned (.bool (p e)) ∧ Grows W w') :
    Calls Try.prog 97 #[.slice A n c, .func (.func k) #[] cap] w fun e w' => e = .returned (.int .i64 (firstI p E)) ∧ Grows w w' := by
  have HL := hide h.plen
  have HR := hide h
  have HF := hide hf
  clear h hf
  unfold pVal at HF
  go_enter Try.func97, Try.ntmps97
  go_wp2
  go_loopw [8] (fun i wr => ∃ k : Nat, k ≤ n ∧ i = .int .i64 (k : Int) ∧ (∃ x : Later w, wr = x.now) ∧ ∀ j, j < k → p (gp E j) = false) (fun i _ => n - (intOf i).toNat)
  case atStart => exact ⟨0, by omega, by go_num, ⟨⟨w, Grows.refl w⟩, rfl⟩, fun j h1 => by omega⟩
  case round =>
    obtain ⟨q, hq, rfl, ⟨x, rfl⟩, hall⟩ := hrel
    have HA := hide hall
    clear hall
    by_cases hend : n ≤ q
    · go_wp2
      go_ret
      refine ⟨ret_int ?_, (by repeat (first | exact Grows.refl _ | refine Grows.now ?_ _ | refine Grows.new ?_ _ | refine Grows.drewN ?_ _ | refine Grows.drew ?_ | assumption | (refine Grows.set ?_ (by first | omega | (simp; done) | (simp; omega)) _)))⟩
      have hl := HL.out
      have hh := HA.out
      rw [firstI_none]
      intro e he
      obtain ⟨j, hj, rfl⟩ := List.mem_iff_getElem.1 he
      have := hh j (by omega)
      simpa [gp, hj] using this
    · obtain ⟨b, off, rfl, hc⟩ := HR.out.places (by omega)
      obtain ⟨hc1, hc2⟩ := hc q (by omega)
      clear hc
      go_wp2_with fail
      refine (HF.out _ (by repeat (first | exact Grows.refl _ | refine Grows.now ?_ _ | refine Grows.new ?_ _ | refine Grows.drewN ?_ _ | refine Grows.drew ?_ | assumption | (refine Grows.set ?_ (by first | omega | (simp; done) | (simp; omega)) _))) (gp E q)).mono ?_; rintro e w' ⟨rfl, hg⟩; obtain ⟨x1, rfl⟩ := Grows.later2 hg; clear hg
      cases hp : p (gp E q) with
      | true =>
        have HW : Hid (firstI p E = q) := firstI_at p ⟨0, 0⟩ E q (by have := HL.out; omega) HA.out hp
        clear hp
        go_wp2
        go_ret
        exact ⟨ret_int HW.out.symm, (by repeat (first | exact Grows.refl _ | refine Grows.now ?_ _ | refine Grows.new ?_ _ | refine Grows.drewN ?_ _ | refine Grows.drew ?_ | assumption | (refine Grows.set ?_ (by first | omega | (simp; done) | (simp; omega)) _)))⟩
      | false =>
        have HP := hide hp
        clear hp
        go_wp2
        go_roundw
        case measure => simp [intOf]; omega
        case rel =>
          refine ⟨q + 1, by omega, by go_num, ⟨_, rfl⟩, fun j h1 => ?_⟩
          by_cases hj : j = q
          · rw [hj]; exact HP.out
          · exact HA.out j (by omega)

set_option maxHeartbeats 1000000 in
theorem containsP (A : Option Addr) (n c : Nat) (E : List Pl) (k : FuncId) (cap : Array Value) (p : Pl → Bool) (w : World) (h : Rd w A 2 n (psCells E)) (hn : n ≤ 1000000) (hk : ∀ args W, (callFunc k args).run Try.prog W = .ok (.enter k args) W)
    (hf : ∀ W, Grows w W → ∀ e, Calls Try.prog k (#[pVal e] ++ cap) W fun x w' => x = .returned (.bool (p e)) ∧ Grows W w') :
    Calls Try.prog 76 #[.slice A n c, .func (.func k) #[] cap] w fun e w' => e = .returned (.bool (E.any p)) ∧ Grows w w' := by
  have HC := hide (indexP A n c E k cap p w h hn hk hf)
  have HV := hide (firstI_any p E)
  clear h hf hk
  go_enter Try.func76, Try.ntmps76
  go_wp2_with (first | (go_at_call 97; refine (HC.out).mono ?_; rintro e w' ⟨rfl, hg⟩; (first | obtain ⟨x, rfl⟩ := Grows.later2 hg | obtain ⟨x, rfl⟩ := Grows.later hg); clear hg))
  all_goals go_ret
  all_goals exact ⟨ret_bool (by rw [← HV.out]), (by repeat (first | exact Grows.refl _ | refine Grows.now ?_ _ | refine Grows.new ?_ _ | refine Grows.drewN ?_ _ | refine Grows.drew ?_ | assumption | (refine Grows.set ?_ (by first | omega | (simp; done) | (simp; omega)) _)))⟩

set_option maxHeartbeats 400000 in
theorem plRight1 (p : Pl) (w : World) : Calls Try.prog 77 #[pVal p] w fun e w' => e = .returned (.bool (!okP p)) ∧ Grows w w' := by
  unfold pVal
  go_enter Try.func77, Try.ntmps77
  go_wp2_with (first | (go_at_call 61; refine (plOne _ _ _).mono ?_; rintro e w' ⟨rfl, hg⟩; (first | obtain ⟨x, rfl⟩ := Grows.later2 hg | obtain ⟨x, rfl⟩ := Grows.later hg); clear hg))
  go_ret
  exact ⟨rfl, (by repeat (first | exact Grows.refl _ | refine Grows.now ?_ _ | refine Grows.new ?_ _ | refine Grows.drewN ?_ _ | refine Grows.drew ?_ | assumption | (refine Grows.set ?_ (by first | omega | (simp; done) | (simp; omega)) _)))⟩
set_option maxHeartbeats 400000 in
theorem plRight (A : Option Addr) (n c : Nat) (E : List Pl) (w : World) (h : Rd w A 2 n (psCells E)) (hn : n ≤ 1000000) : Calls Try.prog 41 #[.slice A n c] w fun e w' => e = .returned (.bool (E.all okP)) ∧ Grows w w' := by
  have HK1 := hide (fun args W => run_callGo (P := Try.prog) Try.func77 (by kernel_rfl) (by kernel_rfl) args W)
  have C2 := hide (containsP A n c E 77 #[] (fun e => !okP e) w h hn HK1.out (fun W' _ e => plRight1 e W'))
  have HV : Hid ((!E.any fun e => !okP e) = E.all okP) := by
    show _ = _
    rw [Bool.eq_iff_iff]
    simp
  clear h
  go_enter Try.func41, Try.ntmps41
  go_wp2_with (first | (go_at_call 76; refine (C2.out).mono ?_; rintro e w' ⟨rfl, hg⟩; (first | obtain ⟨x, rfl⟩ := Grows.later2 hg | obtain ⟨x, rfl⟩ := Grows.later hg); clear hg))
  go_ret
  exact ⟨ret_bool HV.out, (by repeat (first | exact Grows.refl _ | refine Grows.now ?_ _ | refine Grows.new ?_ _ | refine Grows.drewN ?_ _ | refine Grows.drew ?_ | assumption | (refine Grows.set ?_ (by first | omega | (simp; done) | (simp; omega)) _)))⟩
set_option maxRecDepth 20000 in
set_option maxHeartbeats 1000000 in
theorem r9Right (A : Option Addr) (n c : Nat) (E : List Pl) (w : World) (h : Rd w A 2 n (psCells E)) (hn : n ≤ 1000000) : Calls Try.prog 27 #[.slice A n c] w fun e w' => e = .returned (.bool (E.all okP)) ∧ Grows w w' := by
  have HL := hide h.plen
  have HR := hide h
  clear h
  go_enter Try.func27, Try.ntmps27
  go_wp2
  go_loopw [3] (fun i wr => ∃ k : Nat, k ≤ n ∧ i = .int .i64 (k : Int) ∧ (∃ x : Later w, wr = x.now) ∧ ∀ j, j < k → okP (gp E j) = true) (fun i _ => n - (intOf i).toNat)
  case atStart => exact ⟨0, by omega, by go_num, ⟨⟨w, Grows.refl w⟩, rfl⟩, fun j h1 => by omega⟩
  case round =>
    obtain ⟨q, hq, rfl, ⟨x, rfl⟩, hall⟩ := hrel
    have HA := hide hall
    clear hall
    by_cases hend : n ≤ q
    · go_wp2
      go_ret
      refine ⟨ret_bool ?_, (by repeat (first | exact Grows.refl _ | refine Grows.now ?_ _ | refine Grows.new ?_ _ | refine Grows.drewN ?_ _ | refine Grows.drew ?_ | assumption | (refine Grows.set ?_ (by first | omega | (simp; done) | (simp; omega)) _)))⟩
      have hl := HL.out
      have hh := HA.out
      symm
      rw [List.all_eq_true]
      intro e he
      obtain ⟨j, hj, rfl⟩ := List.mem_iff_getElem.1 he
      have := hh j (by omega)
      simpa [gp, hj] using this
    · obtain ⟨b, off, rfl, hc⟩ := HR.out.places (by omega)
      obtain ⟨hc1, hc2⟩ := hc q (by omega)
      clear hc
      have C1 := fun W => r9One (gp E q).x (gp E q).y W
      cases hp : okP (gp E q) with
      | false =>
        have HW : Hid (E.all okP = false) := by
          rw [List.all_eq_false]
          have hl := HL.out
          refine ⟨gp E q, ?_, by rw [hp]; simp⟩
          unfold gp
          rw [List.getD_eq_getElem?_getD, List.getElem?_eq_getElem (by omega)]
          exact List.getElem_mem _
        unfold okP at hp
        rw [hp] at C1
        have H1 := hide C1
        clear C1 hp
        go_wp2_with (first | (go_at_call 26; refine (H1.out _).mono ?_; rintro e w' ⟨rfl, hg⟩; (first | obtain ⟨x, rfl⟩ := Grows.later2 hg | obtain ⟨x, rfl⟩ := Grows.later hg); clear hg))
        go_ret
        exact ⟨ret_bool HW.out.symm, (by repeat (first | exact Grows.refl _ | refine Grows.now ?_ _ | refine Grows.new ?_ _ | refine Grows.drewN ?_ _ | refine Grows.drew ?_ | assumption | (refine Grows.set ?_ (by first | omega | (simp; done) | (simp; omega)) _)))⟩
      | true =>
        have HP := hide hp
        unfold okP at hp
        rw [hp] at C1
        have H1 := hide C1
        clear C1 hp
        go_wp2_with (first | (go_at_call 26; refine (H1.out _).mono ?_; rintro e w' ⟨rfl, hg⟩; (first | obtain ⟨x, rfl⟩ := Grows.later2 hg | obtain ⟨x, rfl⟩ := Grows.later hg); clear hg))
        go_roundw
        case measure => simp [intOf]; omega
        case rel =>
          refine ⟨q + 1, by omega, by go_num, ⟨_, rfl⟩, fun j h1 => ?_⟩
          by_cases hj : j = q
          · rw [hj]; exact HP.out
          · exact HA.out j (by omega)
end Go.Proofs.Ytaoodmioehkebaa
