/- Chapter 45: small graphs, what is consistent is admissible, the example. -/
import Derived.Test.YtiljgkaffgclgaaQAstarSound02
import Derived.Test.YtiljgkaffgclgaaQMarksBounds01
import Derived.Test.YtiljgkaffgclgaaQMarksSound00
import Derived.Test.YtiljgkaffgclgaaQMarksBounds02
import Derived.Test.YtiljgkaffgclgaaQAstarSound01
import Derived.Test.YtiljgkaffgclgaaQMarksBounds10
import Derived.Test.YtiljgkaffgclgaaQMarksBounds19
/- Contracts: slices of places. -/
namespace Go.Proofs.Ytiljgkaffgclgaa
open Go Go.RowKit

/-- A place. -/
structure Pl where
  x : Int
  y : Int
deriving DecidableEq
def pCells (e : Pl) : List Value := [.int .i64 e.x, .int .i64 e.y]
def pVal (e : Pl) : Value := .agg #[.int .i64 e.x, .int .i64 e.y]
def psCells (E : List Pl) : List Value := E.flatMap pCells
def gq (E : List Pl) (k : Nat) : Pl := E.getD k ⟨0, 0⟩

theorem psCells_length (E : List Pl) : (psCells E).length = E.length * 2 := by
  induction E with
  | nil => rfl
  | cons e E ih => simp [psCells, pCells] at *; omega
theorem psCells_at (E : List Pl) (k j : Nat) (hk : k < E.length) (hj : j < 2) : (psCells E)[k * 2 + j]? = (pCells (gq E k))[j]? := by
  induction E generalizing k with
  | nil => simp at hk
  | cons e E ih =>
    have h1 : psCells (e :: E) = pCells e ++ psCells E := rfl
    rw [h1]
    cases k with
    | zero => rw [List.getElem?_append_left (by simp [pCells]; omega)]; simp [gq]
    | succ k =>
      rw [List.getElem?_append_right (by simp [pCells]; omega)]
      have := ih k (by simpa using hk)
      rw [show (k + 1) * 2 + j - (pCells e).length = k * 2 + j by simp [pCells]; omega, this]
      simp [gq]

/-- Of a slice of places: each cell of each. -/
theorem Rd.places {w : World} {A : Option Addr} {n : Nat} {E : List Pl} (h : Rd w A 2 n (psCells E)) (hn : 0 < n) :
    ∃ b off, A = some ⟨b, off, none⟩ ∧ ∀ k, k < n → w.cell? ⟨b, off + k * 2, none⟩ = some (.int .i64 (gq E k).x) ∧ w.cell? ⟨b, off + k * 2 + 1, none⟩ = some (.int .i64 (gq E k).y) := by
  have hl := h.1
  rw [psCells_length] at hl
  obtain ⟨b, off, e, hc⟩ := h.2 hn (by omega)
  refine ⟨b, off, e, fun k hk => ⟨?_, ?_⟩⟩
  · exact hc (k * 2 + 0) _ (by rw [psCells_at E k 0 (by omega) (by omega)]; rfl)
  · have := hc (k * 2 + 1) _ (by rw [psCells_at E k 1 (by omega) (by omega)]; rfl)
    rwa [← Nat.add_assoc] at this
theorem Rd.plen {w : World} {A : Option Addr} {n : Nat} {E : List Pl} (h : Rd w A 2 n (psCells E)) : E.length = n := by
  have hl := h.1
  rw [psCells_length] at hl
  omega
def okP (p : Pl) : Bool := onePB p.x p.y

set_option maxRecDepth 20000 in
set_option maxHeartbeats 1000000 in
theorem indexP (A : Option Addr) (n c : Nat) (E : List Pl) (k : FuncId) (cap : Array Value) (p : Pl → Bool) (w : World) (h : Rd w A 2 n (psCells E)) (hn : n ≤ 1000000) (hk : ∀ args W, (callFunc k args).run Try.prog W = .ok (.enter k args) W)
    (hf : ∀ W, Grows w W → ∀ e, Calls Try.prog k (#[pVal e] ++ cap) W fun x w' => x = .returned (.bool (p e)) ∧ Grows W w') :
    Calls Try.prog 181 #[.slice A n c, .func (.func k) #[] cap] w fun e w' => e = .returned (.int .i64 (firstI p E)) ∧ Grows w w' := by
  have HL := hide h.plen
  have HR := hide h
  have HF := hide hf
  clear h hf
  unfold pVal at HF
  go_enter Try.func181, Try.ntmps181
  go_wp2
  go_loopw [8] (fun i wr => ∃ k : Nat, k ≤ n ∧ i = .int .i64 (k : Int) ∧ (∃ x : Later w, wr = x.now) ∧ ∀ j, j < k → p (gq E j) = false) (fun i _ => n - (intOf i).toNat)
  case atStart => exact ⟨0, by omega, by go_num, ⟨⟨w, Grows.refl w⟩, rfl⟩, fun j h1 => by omega⟩
  case round =>
    obtain ⟨q, hq, rfl, ⟨x, rfl⟩, hall⟩ := hrel
    have HA := hide hall
    clear hall
    by_cases hend : n ≤ q
    · go_wp2
      go_ret
      refine ⟨ret_int ?_, (by repeat (first | exact Grows.refl _ | refine Grows.now ?_ _ | refine Grows.new ?_ _ | refine Grows.drewN ?_ _ | refine Grows.drew ?_ | assumption | (refine Grows.set ?_ (by first | omega | (simp; done) | (simp; omega)) _)))⟩
      have hl := HL.out
      have hh := HA.out
      rw [firstI_none]
      intro e he
      obtain ⟨j, hj, rfl⟩ := List.mem_iff_getElem.1 he
      have := hh j (by omega)
      simpa [gq, hj] using this
    · obtain ⟨b, off, rfl, hc⟩ := HR.out.places (by omega)
      obtain ⟨hc1, hc2⟩ := hc q (by omega)
      clear hc
      go_wp2_with fail
      refine (HF.out _ (by repeat (first | exact Grows.refl _ | refine Grows.now ?_ _ | refine Grows.new ?_ _ | refine Grows.drewN ?_ _ | refine Grows.drew ?_ | assumption | (refine Grows.set ?_ (by first | omega | (simp; done) | (simp; omega)) _))) (gq E q)).mono ?_; rintro e w' ⟨rfl, hg⟩; obtain ⟨x1, rfl⟩ := Grows.later2 hg; clear hg
      cases hp : p (gq E q) with
      | true =>
        have HW : Hid (firstI p E = q) := firstI_at p ⟨0, 0⟩ E q (by have := HL.out; omega) HA.out hp
        clear hp
        go_wp2
        go_ret
        exact ⟨ret_int HW.out.symm, (by repeat (first | exact Grows.refl _ | refine Grows.now ?_ _ | refine Grows.new ?_ _ | refine Grows.drewN ?_ _ | refine Grows.drew ?_ | assumption | (refine Grows.set ?_ (by first | omega | (simp; done) | (simp; omega)) _)))⟩
      | false =>
        have HP := hide hp
        clear hp
        go_wp2
        go_roundw
        case measure => simp [intOf]; omega
        case rel =>
          refine ⟨q + 1, by omega, by go_num, ⟨_, rfl⟩, fun j h1 => ?_⟩
          by_cases hj : j = q
          · rw [hj]; exact HP.out
          · exact HA.out j (by omega)

set_option maxHeartbeats 1000000 in
theorem containsP (A : Option Addr) (n c : Nat) (E : List Pl) (k : FuncId) (cap : Array Value) (p : Pl → Bool) (w : World) (h : Rd w A 2 n (psCells E)) (hn : n ≤ 1000000) (hk : ∀ args W, (callFunc k args).run Try.prog W = .ok (.enter k args) W)
    (hf : ∀ W, Grows w W → ∀ e, Calls Try.prog k (#[pVal e] ++ cap) W fun x w' => x = .returned (.bool (p e)) ∧ Grows W w') :
    Calls Try.prog 150 #[.slice A n c, .func (.func k) #[] cap] w fun e w' => e = .returned (.bool (E.any p)) ∧ Grows w w' := by
  have HC := hide (indexP A n c E k cap p w h hn hk hf)
  have HV := hide (firstI_any p E)
  clear h hf hk
  go_enter Try.func150, Try.ntmps150
  go_wp2_with (first | (go_at_call 181; refine (HC.out).mono ?_; rintro e w' ⟨rfl, hg⟩; (first | obtain ⟨x, rfl⟩ := Grows.later2 hg | obtain ⟨x, rfl⟩ := Grows.later hg); clear hg))
  all_goals go_ret
  all_goals exact ⟨ret_bool (by rw [← HV.out]), (by repeat (first | exact Grows.refl _ | refine Grows.now ?_ _ | refine Grows.new ?_ _ | refine Grows.drewN ?_ _ | refine Grows.drew ?_ | assumption | (refine Grows.set ?_ (by first | omega | (simp; done) | (simp; omega)) _)))⟩

set_option maxHeartbeats 400000 in
theorem plRight1 (p : Pl) (w : World) : Calls Try.prog 151 #[pVal p] w fun e w' => e = .returned (.bool (!okP p)) ∧ Grows w w' := by
  unfold pVal
  go_enter Try.func151, Try.ntmps151
  go_wp2_with (first | (go_at_call 152; refine (plOne _ _ _).mono ?_; rintro e w' ⟨rfl, hg⟩; (first | obtain ⟨x, rfl⟩ := Grows.later2 hg | obtain ⟨x, rfl⟩ := Grows.later hg); clear hg))
  go_ret
  exact ⟨rfl, (by repeat (first | exact Grows.refl _ | refine Grows.now ?_ _ | refine Grows.new ?_ _ | refine Grows.drewN ?_ _ | refine Grows.drew ?_ | assumption | (refine Grows.set ?_ (by first | omega | (simp; done) | (simp; omega)) _)))⟩
set_option maxHeartbeats 400000 in
theorem plRight (A : Option Addr) (n c : Nat) (E : List Pl) (w : World) (h : Rd w A 2 n (psCells E)) (hn : n ≤ 1000000) : Calls Try.prog 98 #[.slice A n c] w fun e w' => e = .returned (.bool (E.all okP)) ∧ Grows w w' := by
  have HK1 := hide (fun args W => run_callGo (P := Try.prog) Try.func151 (by kernel_rfl) (by kernel_rfl) args W)
  have C2 := hide (containsP A n c E 151 #[] (fun e => !okP e) w h hn HK1.out (fun W' _ e => plRight1 e W'))
  have HV : Hid ((!E.any fun e => !okP e) = E.all okP) := by
    show _ = _
    rw [Bool.eq_iff_iff]
    simp
  clear h
  go_enter Try.func98, Try.ntmps98
  go_wp2_with (first | (go_at_call 150; refine (C2.out).mono ?_; rintro e w' ⟨rfl, hg⟩; (first | obtain ⟨x, rfl⟩ := Grows.later2 hg | obtain ⟨x, rfl⟩ := Grows.later hg); clear hg))
  go_ret
  exact ⟨ret_bool HV.out, (by repeat (first | exact Grows.refl _ | refine Grows.now ?_ _ | refine Grows.new ?_ _ | refine Grows.drewN ?_ _ | refine Grows.drew ?_ | assumption | (refine Grows.set ?_ (by first | omega | (simp; done) | (simp; omega)) _)))⟩
set_option maxRecDepth 20000 in
set_option maxHeartbeats 1000000 in
theorem r9Right (A : Option Addr) (n c : Nat) (E : List Pl) (w : World) (h : Rd w A 2 n (psCells E)) (hn : n ≤ 1000000) : Calls Try.prog 50 #[.slice A n c] w fun e w' => e = .returned (.bool (E.all okP)) ∧ Grows w w' := by
  have HL := hide h.plen
  have HR := hide h
  clear h
  go_enter Try.func50, Try.ntmps50
  go_wp2
  go_loopw [3] (fun i wr => ∃ k : Nat, k ≤ n ∧ i = .int .i64 (k : Int) ∧ (∃ x : Later w, wr = x.now) ∧ ∀ j, j < k → okP (gq E j) = true) (fun i _ => n - (intOf i).toNat)
  case atStart => exact ⟨0, by omega, by go_num, ⟨⟨w, Grows.refl w⟩, rfl⟩, fun j h1 => by omega⟩
  case round =>
    obtain ⟨q, hq, rfl, ⟨x, rfl⟩, hall⟩ := hrel
    have HA := hide hall
    clear hall
    by_cases hend : n ≤ q
    · go_wp2
      go_ret
      refine ⟨ret_bool ?_, (by repeat (first | exact Grows.refl _ | refine Grows.now ?_ _ | refine Grows.new ?_ _ | refine Grows.drewN ?_ _ | refine Grows.drew ?_ | assumption | (refine Grows.set ?_ (by first | omega | (simp; done) | (simp; omega)) _)))⟩
      have hl := HL.out
      have hh := HA.out
      symm
      rw [List.all_eq_true]
      intro e he
      obtain ⟨j, hj, rfl⟩ := List.mem_iff_getElem.1 he
      have := hh j (by omega)
      simpa [gq, hj] using this
    · obtain ⟨b, off, rfl, hc⟩ := HR.out.places (by omega)
      obtain ⟨hc1, hc2⟩ := hc q (by omega)
      clear hc
      have C1 := fun W => r9One (gq E q).x (gq E q).y W
      cases hp : okP (gq E q) with
      | false =>
        have HW : Hid (E.all okP = false) := by
          rw [List.all_eq_false]
          have hl := HL.out
          refine ⟨gq E q, ?_, by rw [hp]; simp⟩
          unfold gq
          rw [List.getD_eq_getElem?_getD, List.getElem?_eq_getElem (by omega)]
          exact List.getElem_mem _
        unfold okP at hp
        rw [hp] at C1
        have H1 := hide C1
        clear C1 hp
        go_wp2_with (first | (go_at_call 102; refine (H1.out _).mono ?_; rintro e w' ⟨rfl, hg⟩; (first | obtain ⟨x, rfl⟩ := Grows.later2 hg | obtain ⟨x, rfl⟩ := Grows.later hg); clear hg))
        go_ret
        exact ⟨ret_bool HW.out.symm, (by repeat (first | exact Grows.refl _ | refine Grows.now ?_ _ | refine Grows.new ?_ _ | refine Grows.drewN ?_ _ | refine Grows.drew ?_ | assumption | (refine Grows.set ?_ (by first | omega | (simp; done) | (simp; omega)) _)))⟩
      | true =>
        have HP := hide hp
        unfold okP at hp
        rw [hp] at C1
        have H1 := hide C1
        clear C1 hp
        go_wp2_with (first | (go_at_call 102; refine (H1.out _).mono ?_; rintro e w' ⟨rfl, hg⟩; (first | obtain ⟨x, rfl⟩ := Grows.later2 hg | obtain ⟨x, rfl⟩ := Grows.later hg); clear hg))
        go_roundw
        case measure => simp [intOf]; omega
        case rel =>
          refine ⟨q + 1, by omega, by go_num, ⟨_, rfl⟩, fun j h1 => ?_⟩
          by_cases hj : j = q
          · rw [hj]; exact HP.out
          · exact HA.out j (by omega)
end Go.Proofs.Ytiljgkaffgclgaa

/- Contracts: bounds by places, by the program and by the document. -/
namespace Go.Proofs.Ytiljgkaffgclgaa
open Go Go.RowKit
def sqP (p q : Pl) : Int := sqV p.x p.y q.x q.y
/-- The factor behind the first k edges. -/
noncomputable def kI (L : List Pl) (E : List Edg) : Nat → Int
  | 0 => 1024
  | k + 1 => kNext (kI L E k) (sqP (gq L (ge E k).f.toNat) (gq L (ge E k).t.toNat)) (ge E k).w
noncomputable def bndI (K : Int) (p q : Pl) : Int := rootV (K * K * sqP p q)
theorem sqP_bd (p q : Pl) : 0 ≤ sqP p q ∧ sqP p q ≤ 8796093022208 := sqV_bd _ _ _ _
theorem kI_in {L : List Pl} {E : List Edg} (hw : ∀ i, i < E.length → 1 ≤ (ge E i).w ∧ (ge E i).w ≤ 4294967296) : ∀ k, k ≤ E.length → 0 ≤ kI L E k ∧ kI L E k ≤ 1024
  | 0, _ => by simp [kI]
  | k + 1, hk => by
    obtain ⟨h1, h2⟩ := kI_in hw k (by omega)
    obtain ⟨w1, w2⟩ := hw k (by omega)
    obtain ⟨q1, q2⟩ := sqP_bd (gq L (ge E k).f.toNat) (gq L (ge E k).t.toNat)
    have := kNext_ok h1 h2 q1 q2 w1 w2
    exact ⟨this.1, Int.le_trans this.2.1 h2⟩
theorem kI_mono {L : List Pl} {E : List Edg} (hw : ∀ i, i < E.length → 1 ≤ (ge E i).w ∧ (ge E i).w ≤ 4294967296) : ∀ d k, k + d ≤ E.length → kI L E (k + d) ≤ kI L E k
  | 0, k, _ => Int.le_refl _
  | d + 1, k, hk => by
    have ih := kI_mono (L := L) hw d k (by omega)
    obtain ⟨h1, h2⟩ := kI_in (L := L) hw (k + d) (by omega)
    obtain ⟨w1, w2⟩ := hw (k + d) (by omega)
    obtain ⟨q1, q2⟩ := sqP_bd (gq L (ge E (k + d)).f.toNat) (gq L (ge E (k + d)).t.toNat)
    have := (kNext_ok h1 h2 q1 q2 w1 w2).2.1
    exact Int.le_trans this ih
/-- The factor fits each edge. -/
theorem kI_fits {L : List Pl} {E : List Edg} (hw : ∀ i, i < E.length → 1 ≤ (ge E i).w ∧ (ge E i).w ≤ 4294967296) {i : Nat} (hi : i < E.length) :
    kI L E E.length * kI L E E.length * sqP (gq L (ge E i).f.toNat) (gq L (ge E i).t.toNat) ≤ (ge E i).w * (ge E i).w := by
  obtain ⟨h1, h2⟩ := kI_in (L := L) hw i (by omega)
  obtain ⟨w1, w2⟩ := hw i hi
  obtain ⟨q1, q2⟩ := sqP_bd (gq L (ge E i).f.toNat) (gq L (ge E i).t.toNat)
  have h3 := (kNext_ok h1 h2 q1 q2 w1 w2).2.2.2.2
  have h4 := kI_mono (L := L) hw (E.length - (i + 1)) (i + 1) (by omega)
  rw [show i + 1 + (E.length - (i + 1)) = E.length by omega] at h4
  have h5 := kI_in (L := L) hw E.length (by omega)
  exact Int.le_trans (mul_le3 h5.1 h4 q1 (Int.le_refl _)) h3
theorem bnd_prod {K s : Int} (h0 : 0 ≤ K) (h1 : K ≤ 1024) (q1 : 0 ≤ s) (q2 : s ≤ 8796093022208) : 0 ≤ K * K * s ∧ K * K * s ≤ 9223372036854775808 :=
  ⟨Int.mul_nonneg (sq_nn K) q1, Int.le_trans (mul_le3 h0 h1 q1 q2) (by omega)⟩
theorem bndI_in {K : Int} {p q : Pl} (h0 : 0 ≤ K) (h1 : K ≤ 1024) : 0 ≤ bndI K p q ∧ bndI K p q < 4294967296 := by
  obtain ⟨q1, q2⟩ := sqP_bd p q
  obtain ⟨p1, p2⟩ := bnd_prod h0 h1 q1 q2
  obtain ⟨r1, r2, r3⟩ := root_spec p1
  exact ⟨r1, of_sq_lt (by omega) (by unfold bndI; omega)⟩
/-- One step. -/
theorem bndI_hop {L : List Pl} {E : List Edg} (hok : L.all okP = true) (hn : InN L.length E) (hw : ∀ i, i < E.length → 1 ≤ (ge E i).w ∧ (ge E i).w ≤ 4294967296) {i : Nat} (hi : i < E.length) {t : Nat} (ht : t < L.length) :
    bndI (kI L E E.length) (gq L (fN E i)) (gq L t) ≤ bndI (kI L E E.length) (gq L (tN E i)) (gq L t) + (ge E i).w := by
  have hin : ∀ j, j < L.length → okP (gq L j) = true := fun j hj => by
    have : gq L j = L[j] := by simp [gq, hj]
    rw [this]
    exact (List.all_eq_true.1 hok) _ (List.getElem_mem hj)
  obtain ⟨k0, k1⟩ := kI_in (L := L) hw E.length (by omega)
  have hfit := kI_fits (L := L) hw hi
  have e1 : (ge E i).f.toNat = fN E i := rfl
  have e2 : (ge E i).t.toNat = tN E i := rfl
  rw [e1, e2] at hfit
  have f1 := hin _ (hn.f i hi).1
  have f2 := hin _ (hn.t i hi).1
  have f3 := hin _ ht
  generalize gq L (fN E i) = P at *
  generalize gq L (tN E i) = Q at *
  generalize gq L t = T at *
  generalize kI L E E.length = K at *
  have sq : ∀ p q : Pl, okP p = true → okP q = true → sqP p q = (p.x - q.x) * (p.x - q.x) + (p.y - q.y) * (p.y - q.y) := fun p q hp hq => by
    unfold okP at hp hq
    unfold sqP sqV sqI
    rw [hp, hq]
    rfl
  obtain ⟨a0, a1, a2⟩ := root_spec (bnd_prod k0 k1 (sqP_bd P T).1 (sqP_bd P T).2).1
  obtain ⟨b0, b1, b2⟩ := root_spec (bnd_prod k0 k1 (sqP_bd Q T).1 (sqP_bd Q T).2).1
  unfold bndI
  rw [sq _ _ f1 f2] at hfit
  rw [sq _ _ f1 f3] at a0 a1 a2 ⊢
  rw [sq _ _ f2 f3] at b0 b1 b2 ⊢
  exact hop_le (hw i hi).1 b0 a0 hfit a1 b2
theorem bndI_self (K : Int) (p : Pl) : bndI K p p = 0 := by
  have : sqP p p = 0 := by
    unfold sqP sqV sqI
    split <;> simp
  unfold bndI
  rw [this, Int.mul_zero]
  exact rootV_eq ⟨by omega, by omega, by omega⟩
set_option maxRecDepth 20000 in
set_option maxHeartbeats 2000000 in
theorem asBounds1 (K : Int) (b1 b2 b3 : Nat) (B : Option Addr) (n d : Nat) (L : List Pl) (t : Nat) (p : Pl) (w : World) (k1 : Holds w ⟨b1, 0, none⟩ (.int .u64 K)) (k2 : Holds w ⟨b2, 0, none⟩ (.slice B n d)) (k3 : Holds w ⟨b3, 0, none⟩ (.int .i64 (t : Int))) (h : Rd w B 2 n (psCells L)) (hn : n ≤ 1000000) (ht : t < n) (h0 : 0 ≤ K) (h1 : K ≤ 1024) :
    Calls Try.prog 101 #[pVal p, .pointer (some ⟨b1, 0, none⟩), .pointer (some ⟨b2, 0, none⟩), .pointer (some ⟨b3, 0, none⟩)] w fun e w' => e = .returned (.int .u64 (bndI K p (gq L t))) ∧ Grows w w' := by
  obtain ⟨b, off, rfl, hc⟩ := h.places (by omega)
  obtain ⟨c1, c2⟩ := hc t ht
  have p1 : Holds w ⟨b, off + t * 2, none⟩ (.int .i64 (gq L t).x) := ⟨c1⟩
  have p2 : Holds w ⟨b, off + t * 2 + 1, none⟩ (.int .i64 (gq L t).y) := ⟨c2⟩
  clear h hc c1 c2
  have HV : Hid (bndI K p (gq L t) = rootV (K * K * sqP p (gq L t))) := rfl
  obtain ⟨q1, q2⟩ := sqP_bd p (gq L t)
  obtain ⟨z1, z2⟩ := bnd_prod h0 h1 q1 q2
  have y1 := sq_nn K
  have y2 : K * K ≤ 1048576 := by have := mul_self_le h0 h1; omega
  generalize gq L t = q at *
  have C1 := hide (fun (W : World) => show Calls Try.prog 99 #[.agg #[.int .i64 p.x, .int .i64 p.y], .agg #[.int .i64 q.x, .int .i64 q.y]] W fun e w' => e = .returned (.int .u64 (sqP p q)) ∧ Grows W w' from plSquareV p.x p.y q.x q.y W)
  have C2 := hide (fun (W : World) => plRoot (K * K * sqP p q) W z1 (by omega))
  rw [← HV.out] at C2
  clear HV
  generalize sqP p q = s at *
  obtain ⟨KK, hKK⟩ : ∃ KK, K * K = KK := ⟨_, rfl⟩
  obtain ⟨KS, hKS⟩ : ∃ KS, KK * s = KS := ⟨_, rfl⟩
  rw [hKK] at y1 y2 z1 z2 C2
  rw [hKS] at z1 z2 C2
  generalize bndI K p q = r at *
  unfold pVal
  go_enter Try.func101, Try.ntmps101
  go_upto_region 1 with fail
  ((first | refine wp_region_gen (by kernel_rfl) (by kernel_rfl) ?_); (repeat' (first | (refine gLex_val0 rfl (by kernel_rfl) (fun K hK => ?_); (go_simp; (try (simp only [↓IntWalk.iteOmega]; try go_simp)); (try simp (disch := omega) only [IntWalk.i64_in]); (try simp (disch := omega) only [IntWalk.u64_in]); first | (refine hK _ ?_; clear hK K) | (apply Exists.intro; refine ⟨fun x => ?_, hK _ ?_⟩; (first | (go_at_call 99; exact C1.out _) | (go_at_call 100; exact C2.out _)); clear hK K))) | (refine gLex_undef rfl rfl rfl (by kernel_rfl) (fun K hK => ?_); go_simp; refine hK _ ?_; clear hK K) | (refine gLex_ask rfl rfl rfl ?_; first | (apply gAsk_yes; kernel_rfl; intro K hK; (go_simp; (try (simp only [↓IntWalk.iteOmega]; try go_simp)); (try simp (disch := omega) only [IntWalk.i64_in]); (try simp (disch := omega) only [IntWalk.u64_in]); first | (refine hK _ ?_; clear hK K) | (apply Exists.intro; refine ⟨fun x => ?_, hK _ ?_⟩; (first | (go_at_call 99; exact C1.out _) | (go_at_call 100; exact C2.out _)); clear hK K))) | ((first | apply gAsk_no1 | apply gAsk_no2); kernel_rfl; intro K hK; simp [go_sem]; refine hK _ ?_; clear hK K) | (apply gAsk_part; kernel_rfl; all_goals (intro h K hK; (try simp only [Bool.not_true] at h); (try simp only [Bool.not_false] at h); (try simp only [decide_eq_true_eq] at h); (try simp only [decide_eq_false_iff_not] at h); first | (exfalso; first | contradiction | omega) | (go_simp; (try (simp only [↓IntWalk.iteOmega]; try go_simp)); (try simp (disch := omega) only [IntWalk.i64_in]); (try simp (disch := omega) only [IntWalk.u64_in]); first | (refine hK _ ?_; clear hK K) | (apply Exists.intro; refine ⟨fun x => ?_, hK _ ?_⟩; (first | (go_at_call 99; exact C1.out _) | (go_at_call 100; exact C2.out _)); clear hK K))))))); all_goals ((apply gLex_end); intro x))
  go_wp2_with fail
  go_ret
  exact ⟨rfl, (by repeat (first | exact Grows.refl _ | refine Grows.now ?_ _ | refine Grows.new ?_ _ | refine Grows.drewN ?_ _ | refine Grows.drew ?_ | assumption | (refine Grows.set ?_ (by first | omega | (simp; done) | (simp; omega)) _)))⟩
end Go.Proofs.Ytiljgkaffgclgaa

/- Contract: bounds by places, by the program. -/
namespace Go.Proofs.Ytiljgkaffgclgaa
open Go Go.RowKit
noncomputable def bndsN (K : Int) (L : List Pl) (t : Pl) (n : Nat) : List Nat := (List.range n).map fun v => (bndI K (gq L v) t).toNat
theorem bndsN_len (K : Int) (L : List Pl) (t : Pl) (n : Nat) : (bndsN K L t n).length = n := by simp [bndsN]
theorem bndsN_at (K : Int) (L : List Pl) (t : Pl) {n v : Nat} (h : v < n) : gn (bndsN K L t n) v = (bndI K (gq L v) t).toNat := by simp [bndsN, gn, h]
theorem bndsN_succ {K : Int} (h0 : 0 ≤ K) (h1 : K ≤ 1024) (L : List Pl) (t : Pl) (n : Nat) : wv (bndsN K L t (n + 1)) = wv (bndsN K L t n) ++ [.int .u64 (bndI K (gq L n) t)] := by
  have := (bndI_in (p := gq L n) (q := t) h0 h1).1
  simp only [bndsN, wv, List.range_succ, List.map_append, List.map_cons, List.map_nil]
  rw [Int.toNat_of_nonneg this]
theorem Rd.plH {w : World} {A : Option Addr} {n : Nat} {E : List Pl} (h : Rd w A 2 n (psCells E)) (hn : 0 < n) : ∃ b off, A = some ⟨b, off, none⟩ ∧ ∀ k, k < n → Holds w ⟨b, off + k * 2, none⟩ (.int .i64 (gq E k).x) ∧ Holds w ⟨b, off + k * 2 + 1, none⟩ (.int .i64 (gq E k).y) := by
  obtain ⟨b, off, e, hc⟩ := h.places hn
  exact ⟨b, off, e, fun k hk => ⟨⟨(hc k hk).1⟩, ⟨(hc k hk).2⟩⟩⟩
theorem Holds.grow' {w w' : World} {p : Addr} {v : Value} (h : Holds w p v) (g : Grows w w') : Holds w' p v := ⟨g.keeps h.cell⟩
set_option maxRecDepth 20000 in
set_option maxHeartbeats 8000000 in
theorem asBounds (N t : Nat) (A : Option Addr) (c : Nat) (E : List Edg) (B : Option Addr) (d : Nat) (L : List Pl) (w : World) (h : Rd w A 3 E.length (esCells E)) (hr : rightF (N : Int) E = 0) (h2 : Rd w B 2 N (psCells L)) (hok : L.all okP = true) (ht : t < N) :
    Calls Try.prog 48 #[.agg #[.int .i64 (N : Int), .slice A E.length c], .slice B N d, .int .i64 (t : Int)] w fun e w' => ∃ A' c', e = .returned (.tuple #[.slice A' N c', .int .i64 0]) ∧ Rd w' A' 1 N (wv (bndsN (kI L E E.length) L (gq L t) N)) ∧ Grows w w' := by
  obtain ⟨r1, r2, r3, r4, r5⟩ := right_in hr
  have hL : L.length = N := h2.plen
  have hask : askF (N : Int) E [(t : Int)] = 0 := by
    have h1 : nodeB (N : Int) (t : Int) = true := decide_eq_true (by omega)
    unfold askF
    rw [if_neg (by omega)]
    simp [h1]
  have C1 := hide (fun (W : World) (g : Grows w W) (Bt : Option Addr) (q : Rd W Bt 1 1 [.int .i64 (t : Int)]) => by
    have := asRight (N : Int) A c E Bt 1 1 [(t : Int)] W (h.grows g) (by omega) q (by omega)
    rw [hask] at this
    exact this)
  have C2 := hide (fun (W : World) (g : Grows w W) => by
    have := plRight B N d L W (h2.grows g) (by omega)
    rw [hok] at this
    exact this)
  have HK := hide (fun k (hk : k ≤ E.length) => kI_in (L := L) r5 k hk)
  have HR := hide h
  have HP := hide h2
  have HN := hide r4
  have HW := hide r5
  have HSZ := hide (And.intro r2 r3)
  clear h h2 hask r1 r2 r3 r4 r5 hr hok hL
  go_enter Try.func48, Try.ntmps48
  go_wp2_with (first | (go_at_call 82; refine (C1.out _ (by repeat (first | exact Grows.refl _ | refine Grows.now ?_ _ | refine Grows.new ?_ _ | refine Grows.drewN ?_ _ | refine Grows.drew ?_ | assumption | (refine Grows.set ?_ (by first | omega | (simp; done) | (simp; omega)) _))) _ (Arr.rd (t := 3) (cs := [.int .i64 (t : Int)]) ⟨by rw [show ∀ (w : World) (o : Obj), (w.alloc o).heap = w.heap.push o from fun _ _ => rfl, Array.getElem?_push, if_pos (by simp)]⟩ rfl)).mono ?_; rintro e w' ⟨rfl, hg⟩; obtain ⟨x1, rfl⟩ := hg.later; clear hg) | (go_at_call 98; refine (C2.out _ (by repeat (first | exact Grows.refl _ | refine Grows.now ?_ _ | refine Grows.new ?_ _ | refine Grows.drewN ?_ _ | refine Grows.drew ?_ | assumption | (refine Grows.set ?_ (by first | omega | (simp; done) | (simp; omega)) _)))).mono ?_; rintro e w' ⟨rfl, hg⟩; obtain ⟨x2, rfl⟩ := hg.later; clear hg))
  have a3 : Arr x2.now w.heap.size 24 [.int .i64 (N : Int), .slice A E.length c] := Arr.grow (Arr.grow ⟨by simp [heap_push, Array.getElem_push, Array.getElem?_push, eq_add2, eq_add3]⟩ x1.grows) x2.grows
  have a4 : Arr x2.now (w.heap.size + 1) 79 [.slice B N d] := Arr.grow (Arr.grow ⟨by simp [heap_push, Array.getElem_push, Array.getElem?_push, eq_add2, eq_add3]⟩ x1.grows) x2.grows
  have a5 : Arr x2.now (w.heap.size + 1 + 1) 3 [.int .i64 (t : Int)] := Arr.grow (Arr.grow ⟨by simp [heap_push, Array.getElem_push, Array.getElem?_push, eq_add2, eq_add3]⟩ x1.grows) x2.grows
  have hgX : Grows w x2.now := (by repeat (first | exact Grows.refl _ | refine Grows.now ?_ _ | refine Grows.new ?_ _ | refine Grows.drewN ?_ _ | refine Grows.drew ?_ | assumption | (refine Grows.set ?_ (by first | omega | (simp; done) | (simp; omega)) _)))
  have hHR := HR.out.grows hgX
  have hHP := HP.out.grows hgX
  have l9 := x2.size
  have l1 := x1.size
  have a9 : Arr (x2.now.alloc (.cells #[.int .u64 1024] 33)) x2.now.heap.size 33 [.int .u64 (kI L E 0)] := Arr.make _ _ _
  have HA9 := hide a9
  have HB9 := hide (show x2.now.heap.size ≤ x2.now.heap.size from Nat.le_refl _)
  have HS := hide (show w.heap.size + 1 + 1 < x2.now.heap.size from by simp at l1; omega)
  have hgY : Grows x2.now (x2.now.alloc (.cells #[.int .u64 1024] 33)) := (by repeat (first | exact Grows.refl _ | refine Grows.now ?_ _ | refine Grows.new ?_ _ | refine Grows.drewN ?_ _ | refine Grows.drew ?_ | assumption | (refine Grows.set ?_ (by first | omega | (simp; done) | (simp; omega)) _)))
  have HGX := hide hgX
  clear a9 l9 l1 C1 C2 HR HP hgX
  generalize x2.now.alloc (.cells #[.int .u64 1024] 33) = Y at *
  obtain ⟨b9, hb9⟩ : ∃ b9, x2.now.heap.size = b9 := ⟨_, rfl⟩
  rw [hb9] at HA9 HB9 HS ⊢
  have H9 := hide (show x2.now.heap.size ≤ b9 from by omega)
  generalize x2.now = X at *
  obtain ⟨b4, hb4⟩ : ∃ b4, w.heap.size + 1 = b4 := ⟨_, rfl⟩
  obtain ⟨b5, hb5⟩ : ∃ b5, b4 + 1 = b5 := ⟨_, rfl⟩
  obtain ⟨b3, hb3⟩ : ∃ b3, w.heap.size = b3 := ⟨_, rfl⟩
  rw [hb4] at a4 a5 HS ⊢
  rw [hb5] at a5 HS ⊢
  rw [hb3] at a3 ⊢
  clear hb3 hb4 hb5 hb9 x2 x1
  have HR := hide hHR
  have HP := hide hHP
  clear hHR hHP
  go_loopw [37] (fun s37 wr => ∃ k : Nat, k ≤ E.length ∧ s37 = .int .i64 (k : Int) ∧ ∃ y : Later X, wr = y.now ∧ Arr y.now b9 33 [.int .u64 (kI L E k)]) (fun s37 _ => E.length - (Go.RowKit.intOf s37).toNat)
  case atStart => exact ⟨0, by omega, by go_num, ⟨Y, hgY⟩, rfl, HA9.out⟩
  case round =>
    obtain ⟨k, hk, rfl, y, rfl, a9⟩ := hrel
    have hEz : E.length ≤ 16384 := HSZ.out.2
    by_cases hlt : k < E.length
    · have hdk : decide ((k : Int) < (E.length : Int)) = true := decide_eq_true (by omega)
      obtain ⟨bE, oE, rfl, hcE⟩ := (HR.out.grows y.grows).edgesH (by omega)
      obtain ⟨e1, e2, e3⟩ := hcE k hlt
      obtain ⟨bP, oP, rfl, hcP⟩ := (HP.out.grows y.grows).plH (by omega)
      have hin := HN.out
      rw [Int.toNat_natCast] at hin
      obtain ⟨f1, f2⟩ := hin.f k hlt
      obtain ⟨t1, t2⟩ := hin.t k hlt
      obtain ⟨p1, p2⟩ := hcP _ f1
      obtain ⟨p3, p4⟩ := hcP _ t1
      have hKS : kI L E (k + 1) = kNext (kI L E k) (sqP (gq L (fN E k)) (gq L (tN E k))) (ge E k).w := rfl
      have C3 := hide (fun (W : World) => show Calls Try.prog 99 #[.agg #[.int .i64 (gq L (fN E k)).x, .int .i64 (gq L (fN E k)).y], .agg #[.int .i64 (gq L (tN E k)).x, .int .i64 (gq L (tN E k)).y]] W fun e w' => e = .returned (.int .u64 (sqP (gq L (fN E k)) (gq L (tN E k)))) ∧ Grows W w' from plSquareV _ _ _ _ W)
      obtain ⟨s0, s1⟩ := sqP_bd (gq L (fN E k)) (gq L (tN E k))
      obtain ⟨w0, w1⟩ := HW.out k hlt
      obtain ⟨k0, k1⟩ := HK.out k hk
      rw [f2] at e1
      rw [t2] at e2
      generalize hs : sqP (gq L (fN E k)) (gq L (tN E k)) = s at *
      generalize (ge E k).w = W at *
      generalize gq L (fN E k) = pf at *
      generalize gq L (tN E k) = pt at *
      have HNX := hide hKS
      have hf1 : fN E k < N := f1
      have ht1 : tN E k < N := t1
      clear hs hKS hcE hcP hin f1 f2 t1 t2
      generalize kI L E k = kk at *
      generalize fN E k = nf at *
      generalize tN E k = nt at *
      unfold kNext at HNX
      by_cases hs0 : 0 < s
      · rw [if_pos hs0] at HNX
        go_upto_region 10 with fail
        ((first | refine wp_region_gen (by kernel_rfl) (by kernel_rfl) ?_); (repeat' (first | (refine gLex_val0 rfl (by kernel_rfl) (fun K hK => ?_); (go_simp; (try (simp only [↓IntWalk.iteOmega]; try go_simp)); (try simp (disch := omega) only [IntWalk.i64_in]); (try simp (disch := omega) only [IntWalk.u64_in]); first | (refine hK _ ?_; clear hK K) | (apply Exists.intro; refine ⟨fun x => ?_, hK _ ?_⟩; (first | (go_at_call 99; exact C3.out _)); clear hK K))) | (refine gLex_undef rfl rfl rfl (by kernel_rfl) (fun K hK => ?_); go_simp; refine hK _ ?_; clear hK K) | (refine gLex_ask rfl rfl rfl ?_; first | (apply gAsk_yes; kernel_rfl; intro K hK; (go_simp; (try (simp only [↓IntWalk.iteOmega]; try go_simp)); (try simp (disch := omega) only [IntWalk.i64_in]); (try simp (disch := omega) only [IntWalk.u64_in]); first | (refine hK _ ?_; clear hK K) | (apply Exists.intro; refine ⟨fun x => ?_, hK _ ?_⟩; (first | (go_at_call 99; exact C3.out _)); clear hK K))) | ((first | apply gAsk_no1 | apply gAsk_no2); kernel_rfl; intro K hK; simp [go_sem]; refine hK _ ?_; clear hK K) | (apply gAsk_part; kernel_rfl; all_goals (intro h K hK; (try simp only [Bool.not_true] at h); (try simp only [Bool.not_false] at h); (try simp only [decide_eq_true_eq] at h); (try simp only [decide_eq_false_iff_not] at h); first | (exfalso; first | contradiction | omega) | (go_simp; (try (simp only [↓IntWalk.iteOmega]; try go_simp)); (try simp (disch := omega) only [IntWalk.i64_in]); (try simp (disch := omega) only [IntWalk.u64_in]); first | (refine hK _ ?_; clear hK K) | (apply Exists.intro; refine ⟨fun x => ?_, hK _ ?_⟩; (first | (go_at_call 99; exact C3.out _)); clear hK K))))))); all_goals ((apply gLex_end); intro x10))
        go_upto_region 13 with fail
        obtain ⟨wm, hwm, hwm0, hwm1⟩ : ∃ wm, min W 4294967295 = wm ∧ 0 ≤ wm ∧ wm ≤ 4294967295 := ⟨_, rfl, by omega, by omega⟩
        rw [hwm] at HNX ⊢
        clear hwm
        have hq0 : 0 ≤ wm * wm := sq_nn wm
        have hq1 : wm * wm ≤ 18446744065119617025 := by have := mul_self_le hwm0 hwm1; omega
        refine wp_region_tail1 8 (by kernel_rfl) (by kernel_rfl) ?_; simp only [List.take_succ_cons, List.take_zero, List.drop_succ_cons, List.drop_zero]
        (refine gLex_val0 rfl (by kernel_rfl) (fun K hK => ?_); go_simp; refine hK _ ?_; clear hK K)
        (refine gLex_val0 rfl (by kernel_rfl) (fun K hK => ?_); go_simp; refine hK _ ?_; clear hK K)
        (refine gLex_val0 rfl (by kernel_rfl) (fun K hK => ?_); go_simp; refine hK _ ?_; clear hK K)
        (refine gLex_val0 rfl (by kernel_rfl) (fun K hK => ?_); go_simp; (try simp (disch := omega) only [IntWalk.u64_in]); refine hK _ ?_; clear hK K)
        generalize wm * wm = ww at *
        have hqd : 0 ≤ ww / s := Int.ediv_nonneg hq0 s0
        have hqd1 : ww / s ≤ ww := Int.ediv_le_self _ hq0
        have CR := hide (fun (W : World) => plRoot (ww / s) W hqd (by omega))
        generalize rootV (ww / s) = rr at *
        have htd : ww.tdiv s = ww / s := Int.tdiv_eq_ediv_of_nonneg hq0
        have hwr : IntKind.u64.wrap (ww / s) = ww / s := IntWalk.u64_in _ (by omega)
        have hsz : s ≠ 0 := by omega
        (refine gLex_val0 rfl (by kernel_rfl) (fun K hK => ?_); go_simp; refine hK _ ?_; clear hK K)
        (refine gLex_val0 rfl (by kernel_rfl) (fun K hK => ?_); go_simp; (try simp only [htd, hwr]); refine hK _ ?_; clear hK K)
        clear htd hwr
        (repeat' (first | (refine gLex_val0 rfl (by kernel_rfl) (fun K hK => ?_); (go_simp; (try (simp only [↓IntWalk.iteOmega]; try go_simp)); (try simp (disch := omega) only [IntWalk.i64_in]); (try simp (disch := omega) only [IntWalk.u64_in]); first | (refine hK _ ?_; clear hK K) | (apply Exists.intro; refine ⟨fun x => ?_, hK _ ?_⟩; (first | (go_at_call 100; exact CR.out _)); clear hK K))) | (refine gLex_undef rfl rfl rfl (by kernel_rfl) (fun K hK => ?_); go_simp; refine hK _ ?_; clear hK K) | (refine gLex_ask rfl rfl rfl ?_; first | (apply gAsk_yes; kernel_rfl; intro K hK; (go_simp; (try (simp only [↓IntWalk.iteOmega]; try go_simp)); (try simp (disch := omega) only [IntWalk.i64_in]); (try simp (disch := omega) only [IntWalk.u64_in]); first | (refine hK _ ?_; clear hK K) | (apply Exists.intro; refine ⟨fun x => ?_, hK _ ?_⟩; (first | (go_at_call 100; exact CR.out _)); clear hK K))) | ((first | apply gAsk_no1 | apply gAsk_no2); kernel_rfl; intro K hK; simp [go_sem]; refine hK _ ?_; clear hK K))))
        refine gLex_endT (fun x11 => ?_)
        go_wp2_with fail
        go_roundw
        case measure => simp [Go.RowKit.intOf]; omega
        case rel =>
          have a10 : Arr (x11.now.setCell ⟨b9, 0, none⟩ (.int .u64 (min kk rr))) b9 33 _ := Arr.set (show Arr x11.now b9 33 [.int .u64 kk] from inferInstance) 0 (.int .u64 (min kk rr))
          have h9 := H9.out
          exact ⟨k + 1, by omega, by go_num, ⟨x11.now.setCell ⟨b9, 0, none⟩ (.int .u64 (min kk rr)), (by repeat (first | exact Grows.refl _ | refine Grows.now ?_ _ | refine Grows.new ?_ _ | refine Grows.drewN ?_ _ | refine Grows.drew ?_ | assumption | (refine Grows.set ?_ (by first | omega | (simp; done) | (simp; omega)) _)))⟩, rfl, by rw [HNX.out]; exact a10⟩
      · rw [if_neg hs0] at HNX
        have hsz : s = 0 := by omega
        subst hsz
        clear s0 s1 hs0
        go_upto_region 10 with fail
        ((first | refine wp_region_gen (by kernel_rfl) (by kernel_rfl) ?_); (repeat' (first | (refine gLex_val0 rfl (by kernel_rfl) (fun K hK => ?_); (go_simp; (try (simp only [↓IntWalk.iteOmega]; try go_simp)); (try simp (disch := omega) only [IntWalk.i64_in]); (try simp (disch := omega) only [IntWalk.u64_in]); first | (refine hK _ ?_; clear hK K) | (apply Exists.intro; refine ⟨fun x => ?_, hK _ ?_⟩; (first | (go_at_call 99; exact C3.out _)); clear hK K))) | (refine gLex_undef rfl rfl rfl (by kernel_rfl) (fun K hK => ?_); go_simp; refine hK _ ?_; clear hK K) | (refine gLex_ask rfl rfl rfl ?_; first | (apply gAsk_yes; kernel_rfl; intro K hK; (go_simp; (try (simp only [↓IntWalk.iteOmega]; try go_simp)); (try simp (disch := omega) only [IntWalk.i64_in]); (try simp (disch := omega) only [IntWalk.u64_in]); first | (refine hK _ ?_; clear hK K) | (apply Exists.intro; refine ⟨fun x => ?_, hK _ ?_⟩; (first | (go_at_call 99; exact C3.out _)); clear hK K))) | ((first | apply gAsk_no1 | apply gAsk_no2); kernel_rfl; intro K hK; simp [go_sem]; refine hK _ ?_; clear hK K) | (apply gAsk_part; kernel_rfl; all_goals (intro h K hK; (try simp only [Bool.not_true] at h); (try simp only [Bool.not_false] at h); (try simp only [decide_eq_true_eq] at h); (try simp only [decide_eq_false_iff_not] at h); first | (exfalso; first | contradiction | omega) | (go_simp; (try (simp only [↓IntWalk.iteOmega]; try go_simp)); (try simp (disch := omega) only [IntWalk.i64_in]); (try simp (disch := omega) only [IntWalk.u64_in]); first | (refine hK _ ?_; clear hK K) | (apply Exists.intro; refine ⟨fun x => ?_, hK _ ?_⟩; (first | (go_at_call 99; exact C3.out _)); clear hK K))))))); all_goals ((apply gLex_end); intro x10))
        go_wp2_with fail
        go_roundw
        case measure => simp [Go.RowKit.intOf]; omega
        case rel =>
          have a10 : Arr x10.now b9 33 [.int .u64 kk] := inferInstance
          exact ⟨k + 1, by omega, by go_num, ⟨_, (by repeat (first | exact Grows.refl _ | refine Grows.now ?_ _ | refine Grows.new ?_ _ | refine Grows.drewN ?_ _ | refine Grows.drew ?_ | assumption | (refine Grows.set ?_ (by first | omega | (simp; done) | (simp; omega)) _)))⟩, rfl, by rw [HNX.out]; exact a10⟩
    · obtain rfl : k = E.length := by omega
      have hdk : decide ((E.length : Int) < (E.length : Int)) = false := decide_eq_false (by omega)
      obtain ⟨K, hKe⟩ : ∃ K, kI L E E.length = K := ⟨_, rfl⟩
      rw [hKe] at a9
      have hK1 := HK.out E.length (Nat.le_refl _)
      rw [hKe] at hK1
      obtain ⟨k0, k1⟩ := hK1
      have HKE := hide hKe
      clear hKe HW HN HK HA9 a3 hlt hk
      have hgw : Grows w y.now := HGX.out.trans y.grows
      have hNz : (N : Int) ≤ 4096 := HSZ.out.1
      have HRP := hide (HP.out.grows y.grows)
      have a4' : Arr y.now b4 79 [.slice B N d] := a4.grow y.grows
      have a5' : Arr y.now b5 3 [.int .i64 (t : Int)] := a5.grow y.grows
      clear a4 a5 HP HR HGX hgY HB9 H9
      generalize y.now = Z at *
      have CB := hide (fun (W : World) (g : Grows Z W) (p : Pl) => asBounds1 K b9 b4 b5 B N d L t p W ((show Holds Z ⟨b9, 0, none⟩ _ from inferInstance).grow' g) ((show Holds Z ⟨b4, 0, none⟩ _ from inferInstance).grow' g) ((show Holds Z ⟨b5, 0, none⟩ _ from inferInstance).grow' g) (HRP.out.grows g) (by omega) ht k0 k1)
      go_wp2_with fail
      go_loopw [6, 69] (fun s6 s69 wr => ∃ k : Nat, k ≤ N ∧ s69 = .int .i64 (k : Int) ∧ ∃ y : Later Z, wr = y.now ∧ ∃ A' c', s6 = .slice A' k c' ∧ Own y.now Z.heap.size 33 1 A' k c' (wv (bndsN K L (gq L t) k))) (fun _ s69 _ => N - (Go.RowKit.intOf s69).toNat)
      case atStart => exact ⟨0, by omega, by go_num, ⟨_, (by repeat (first | exact Grows.refl _ | refine Grows.now ?_ _ | refine Grows.new ?_ _ | refine Grows.drewN ?_ _ | refine Grows.drew ?_ | assumption | (refine Grows.set ?_ (by first | omega | (simp; done) | (simp; omega)) _)))⟩, rfl, none, 0, rfl, Own.nil _ _ _ _⟩
      case round =>
        obtain ⟨k, hk, rfl, y, rfl, A', c', rfl, hown⟩ := hrel
        have HO := hide hown
        clear hown
        by_cases hlt : k < N
        · have hdk : decide ((k : Int) < (N : Int)) = true := decide_eq_true (by omega)
          obtain ⟨bP, oP, rfl, hcP⟩ := (HRP.out.grows y.grows).plH (by omega)
          obtain ⟨p1, p2⟩ := hcP k hlt
          have HS := hide (bndsN_succ k0 k1 L (gq L t) k)
          have CK := hide (fun (W : World) (g : Grows Z W) => show Calls Try.prog 101 #[.agg #[.int .i64 (gq L k).x, .int .i64 (gq L k).y], .pointer (some ⟨b9, 0, none⟩), .pointer (some ⟨b4, 0, none⟩), .pointer (some ⟨b5, 0, none⟩)] W fun e w' => e = .returned (.int .u64 (bndI K (gq L k) (gq L t))) ∧ Grows W w' from CB.out W g (gq L k))
          generalize bndI K (gq L k) (gq L t) = bv at *
          generalize gq L k = pk at *
          clear hcP CB
          go_wp2_with (first | (go_at_call 101; refine (CK.out _ (by repeat (first | exact Grows.refl _ | refine Grows.now ?_ _ | refine Grows.new ?_ _ | refine Grows.drewN ?_ _ | refine Grows.drew ?_ | assumption | (refine Grows.set ?_ (by first | omega | (simp; done) | (simp; omega)) _)))).mono ?_; rintro e w' ⟨rfl, hg⟩; obtain ⟨x2, rfl⟩ := Grows.later hg; clear hg) | (at_builtin; refine wp_app1 elemU64.elem rfl _ _ rfl Z (by repeat (first | exact Grows.refl _ | refine Grows.now ?_ _ | refine Grows.new ?_ _ | refine Grows.drewN ?_ _ | refine Grows.drew ?_ | assumption | (refine Grows.set ?_ (by first | omega | (simp; done) | (simp; omega)) _))) k c' A' _ rfl (((HO.out.new _).now _).new _) _ _ _ rfl inferInstance rfl (by omega) ?_; intro A3 c3 y3 hown3; have HO3 := hide hown3; clear hown3))
          go_roundw
          case measure => simp [Go.RowKit.intOf]; omega
          case rel => exact ⟨k + 1, by omega, by go_num, y3, rfl, A3, c3, rfl, by rw [HS.out]; exact HO3.out⟩
        · obtain rfl : k = N := by omega
          have hdk : decide ((k : Int) < (k : Int)) = false := decide_eq_false (by omega)
          go_wp2_with fail
          refine bodyPost_ret (v := .tuple #[.slice A' k c', .int .i64 0]) (by simp (maxDischargeDepth := 6) [results, Try.results48, go_sem]) rfl ⟨A', c', rfl, by rw [HKE.out]; exact HO.out.rd, (by repeat (first | exact Grows.refl _ | refine Grows.now ?_ _ | refine Grows.new ?_ _ | refine Grows.drewN ?_ _ | refine Grows.drew ?_ | assumption | (refine Grows.set ?_ (by first | omega | (simp; done) | (simp; omega)) _)))⟩
/-- Why there are no bounds; 0: there are. -/
def bdF (N : Int) (E : List Edg) (t : Int) (L : List Pl) : Int := if askF N E [t] ≠ 0 then askF N E [t] else if (L.length : Int) = N ∧ L.all okP = true then 0 else 1
set_option maxRecDepth 20000 in
set_option maxHeartbeats 4000000 in
theorem asBoundsNo (N t : Int) (A : Option Addr) (c : Nat) (E : List Edg) (B : Option Addr) (d : Nat) (L : List Pl) (w : World) (h : Rd w A 3 E.length (esCells E)) (hE : E.length ≤ 1000000) (h2 : Rd w B 2 L.length (psCells L)) (hL : L.length ≤ 1000000) (hd : bdF N E t L ≠ 0) :
    Calls Try.prog 48 #[.agg #[.int .i64 N, .slice A E.length c], .slice B L.length d, .int .i64 t] w fun e w' => e = .returned (.tuple #[.slice none 0 0, .int .i64 (bdF N E t L)]) ∧ Grows w w' := by
  have C1 := hide (fun (W : World) (g : Grows w W) (Bt : Option Addr) (q : Rd W Bt 1 1 [.int .i64 t]) => asRight N A c E Bt 1 1 [t] W (h.grows g) hE q (by omega))
  have C2 := hide (fun (W : World) (g : Grows w W) => plRight B L.length d L W (h2.grows g) hL)
  clear h h2
  by_cases hk : askF N E [t] = 0
  · rw [hk] at C1
    have HV : Hid (bdF N E t L = 1) := by
      unfold bdF at hd ⊢
      rw [if_neg (by omega)] at hd ⊢
      by_cases hc : (L.length : Int) = N ∧ L.all okP = true
      · rw [if_pos hc] at hd; omega
      · rw [if_neg hc]; exact rfl
    have hc : ¬ (L.length : Int) = N ∨ ((L.length : Int) = N ∧ L.all okP = false) := by
      unfold bdF at hd
      rw [if_neg (by omega)] at hd
      by_cases h1 : (L.length : Int) = N
      · right
        refine ⟨h1, ?_⟩
        cases hh : L.all okP with
        | false => rfl
        | true => rw [if_pos ⟨h1, hh⟩] at hd; omega
      · exact .inl h1
    clear hk hd
    rcases hc with hc | ⟨hc, ho⟩
    · have d1 : ((L.length : Int) == N) = false := beq_eq_false_iff_ne.2 hc
      have d2 : ((L.length : Int) != N) = true := by rw [bne, d1]; rfl
      clear hc C2
      go_enter Try.func48, Try.ntmps48
      go_wp2_with (go_at_call 82; refine (C1.out _ (by repeat (first | exact Grows.refl _ | refine Grows.now ?_ _ | refine Grows.new ?_ _ | refine Grows.drewN ?_ _ | refine Grows.drew ?_ | assumption | (refine Grows.set ?_ (by first | omega | (simp; done) | (simp; omega)) _))) _ (Arr.rd (t := 3) (cs := [.int .i64 t]) ⟨by rw [heap_push, Array.getElem?_push, if_pos (by simp)]⟩ rfl)).mono ?_; rintro e w' ⟨rfl, hg⟩; obtain ⟨x1, rfl⟩ := hg.later; clear hg)
      all_goals refine bodyPost_ret (v := .tuple #[.slice none 0 0, .int .i64 1]) (by simp (maxDischargeDepth := 6) [results, Try.results48, go_sem]) rfl ⟨by rw [HV.out], (by repeat (first | exact Grows.refl _ | refine Grows.now ?_ _ | refine Grows.new ?_ _ | refine Grows.drewN ?_ _ | refine Grows.drew ?_ | assumption | (refine Grows.set ?_ (by first | omega | (simp; done) | (simp; omega)) _)))⟩
    · rw [ho] at C2
      have d1 : ((L.length : Int) == N) = true := beq_iff_eq.2 hc
      have d2 : ((L.length : Int) != N) = false := by rw [bne, d1]; rfl
      clear hc ho
      go_enter Try.func48, Try.ntmps48
      go_wp2_with (first | (go_at_call 82; refine (C1.out _ (by repeat (first | exact Grows.refl _ | refine Grows.now ?_ _ | refine Grows.new ?_ _ | refine Grows.drewN ?_ _ | refine Grows.drew ?_ | assumption | (refine Grows.set ?_ (by first | omega | (simp; done) | (simp; omega)) _))) _ (Arr.rd (t := 3) (cs := [.int .i64 t]) ⟨by rw [heap_push, Array.getElem?_push, if_pos (by simp)]⟩ rfl)).mono ?_; rintro e w' ⟨rfl, hg⟩; obtain ⟨x1, rfl⟩ := hg.later; clear hg) | (go_at_call 98; refine (C2.out _ (by repeat (first | exact Grows.refl _ | refine Grows.now ?_ _ | refine Grows.new ?_ _ | refine Grows.drewN ?_ _ | refine Grows.drew ?_ | assumption | (refine Grows.set ?_ (by first | omega | (simp; done) | (simp; omega)) _)))).mono ?_; rintro e w' ⟨rfl, hg⟩; obtain ⟨x2, rfl⟩ := hg.later; clear hg))
      all_goals refine bodyPost_ret (v := .tuple #[.slice none 0 0, .int .i64 1]) (by simp (maxDischargeDepth := 6) [results, Try.results48, go_sem]) rfl ⟨by rw [HV.out], (by repeat (first | exact Grows.refl _ | refine Grows.now ?_ _ | refine Grows.new ?_ _ | refine Grows.drewN ?_ _ | refine Grows.drew ?_ | assumption | (refine Grows.set ?_ (by first | omega | (simp; done) | (simp; omega)) _)))⟩
  · have HV : Hid (bdF N E t L = askF N E [t]) := by
      unfold bdF
      rw [if_pos hk]
      exact rfl
    have d1 : (askF N E [t] == 0) = false := beq_eq_false_iff_ne.2 hk
    clear hk hd C2
    generalize askF N E [t] = r at *
    go_enter Try.func48, Try.ntmps48
    go_wp2_with (go_at_call 82; refine (C1.out _ (by repeat (first | exact Grows.refl _ | refine Grows.now ?_ _ | refine Grows.new ?_ _ | refine Grows.drewN ?_ _ | refine Grows.drew ?_ | assumption | (refine Grows.set ?_ (by first | omega | (simp; done) | (simp; omega)) _))) _ (Arr.rd (t := 3) (cs := [.int .i64 t]) ⟨by rw [heap_push, Array.getElem?_push, if_pos (by simp)]⟩ rfl)).mono ?_; rintro e w' ⟨rfl, hg⟩; obtain ⟨x1, rfl⟩ := hg.later; clear hg)
    refine bodyPost_ret (v := .tuple #[.slice none 0 0, .int .i64 r]) (by simp (maxDischargeDepth := 6) [results, Try.results48, go_sem]) rfl ⟨by rw [HV.out], (by repeat (first | exact Grows.refl _ | refine Grows.now ?_ _ | refine Grows.new ?_ _ | refine Grows.drewN ?_ _ | refine Grows.drew ?_ | assumption | (refine Grows.set ?_ (by first | omega | (simp; done) | (simp; omega)) _)))⟩
/-- A row of bounds by places is consistent. -/
theorem bnds_all {N t : Nat} {E : List Edg} {L : List Pl} (hr : rightF (N : Int) E = 0) (hL : L.length = N) (hok : L.all okP = true) (ht : t < N) {i : Nat} (hi : i < E.length) :
    gn (bndsN (kI L E E.length) L (gq L t) N) (fN E i) ≤ (ge E i).w.toNat + gn (bndsN (kI L E E.length) L (gq L t) N) (tN E i) := by
  obtain ⟨r1, r2, r3, r4, r5⟩ := right_in hr
  rw [Int.toNat_natCast] at r4
  have h1 := (r4.f i hi).1
  have h2 := (r4.t i hi).1
  obtain ⟨k0, k1⟩ := kI_in (L := L) r5 E.length (by omega)
  rw [bndsN_at _ _ _ h1, bndsN_at _ _ _ h2]
  have h3 := bndI_hop hok (by rw [hL]; exact r4) r5 hi (t := t) (by omega)
  have h4 := (bndI_in (p := gq L (fN E i)) (q := gq L t) k0 k1).1
  have h5 := (bndI_in (p := gq L (tN E i)) (q := gq L t) k0 k1).1
  have h6 := r5 i hi
  omega
end Go.Proofs.Ytiljgkaffgclgaa

/- Chapter 45: small graphs, what is consistent is admissible, the example. -/
namespace Go.Proofs.Ytiljgkaffgclgaa
open Go Go.RowKit
def light45 (N : Int) (n : Nat) : Bool := lightG N n && (decide (N ≤ 30) || decide (4096 < N))
set_option maxRecDepth 20000 in
set_option maxHeartbeats 2000000 in
theorem lLight45 (N : Int) (A : Option Addr) (n c : Nat) (w : World) : Calls Try.prog 46 #[.agg #[.int .i64 N, .slice A n c]] w fun e w' => e = .returned (.bool (light45 N n)) ∧ Grows w w' := by
  have C := hide (fun (W : World) => lLight N A n c W)
  have HD : Hid (light45 N n = (lightG N n && (decide (N ≤ 30) || decide (4096 < N)))) := rfl
  generalize light45 N n = r at *
  generalize lightG N n = q at *
  go_enter Try.func46, Try.ntmps46
  go_wp2_with (go_at_call 29; refine (C.out _).mono ?_; rintro e w' ⟨rfl, hg⟩; obtain ⟨x1, rfl⟩ := hg.later; clear hg)
  all_goals go_ret
  all_goals exact ⟨ret_bool (by rw [HD.out]; apply bool_ext; simp_all; try omega), (by repeat (first | exact Grows.refl _ | refine Grows.now ?_ _ | refine Grows.new ?_ _ | refine Grows.drewN ?_ _ | refine Grows.drew ?_ | assumption | (refine Grows.set ?_ (by first | omega | (simp; done) | (simp; omega)) _)))⟩
/-- No edge falls by more than it weighs. -/
def ConsL (E : List Edg) (H : List Nat) : Prop := ∀ i, i < E.length → gn H (fN E i) ≤ (ge E i).w.toNat + gn H (tN E i)
theorem consB_true {N : Nat} {E : List Edg} {H : List Nat} (hr : rightF (N : Int) E = 0) (hc : ConsL E H) : consB (N : Int) E N H = true := by
  unfold consB
  rw [decide_eq_true hr, decide_eq_true rfl]
  have : E.any (steepB H) = false := by
    rw [List.any_eq_false]
    intro e he
    obtain ⟨i, hi, rfl⟩ := List.mem_iff_getElem.1 he
    have e1 : ge E i = E[i] := by simp [ge, hi]
    have h1 := hc i hi
    have h2 := (right_in hr).2.2.2.2 i hi
    rw [← e1]
    unfold steepB
    have e2 : (ge E i).f.toNat = fN E i := rfl
    have e3 : (ge E i).t.toNat = tN E i := rfl
    rw [e2, e3]
    simp
    omega
  rw [this]
  rfl
theorem admB_true {N t : Nat} {E : List Edg} {H : List Nat} {xs : List (Nat × Nat)} (hx : SeaOk N t E true xs) (hc : ConsL E H) (h0 : gn H t = 0) : admB xs H = true := by
  unfold admB
  rw [List.all_eq_true]
  rintro ⟨v, f⟩ hq
  have hw := (hx.far.way _ _ hq).2.1
  refine decide_eq_true (Way.ge (fun v => gn H v) h0 (fun i hi => ?_) hw)
  have h1 := hc i hi
  have h2 := rightF_wt hx.ok.right hi
  show gn H (fN E i) ≤ gn H (tN E i) + gn (wtF (N : Int) E []) i
  omega
/-- What a consistent row gives to such a search. -/
theorem cons_in {N : Nat} {E : List Edg} {H : List Nat} (hr : rightF (N : Int) E = 0) (hc : ConsL E H) (ht : ∀ v, v < N → gn H v ≤ 1152921504606846976) : AIn (srchOf N E (allO false)) H 4294967296 := by
  obtain ⟨r1, r2, r3, r4, r5⟩ := right_in hr
  rw [Int.toNat_natCast] at r4
  have hw := fun i hi => rightF_wt hr (i := i) hi
  refine ⟨fun i hi => (r4.t i hi).1, fun i hi => ?_, fun i hi => ?_, fun i hi => ?_, ht⟩
  · unfold cntE
    simp [srchOf, allO]
  · have h1 := hw i hi
    have h2 := r5 i hi
    show gn (wtF (N : Int) E []) i ≤ _
    omega
  · have h1 := hw i hi
    have h2 := hc i hi
    show gn H (fN E i) ≤ gn (wtF (N : Int) E []) i + gn H (tN E i)
    omega
theorem as_far3 : ∀ f, Way (srchOf 2 mkE (allO false)) 0 1 f → (∀ g, Way (srchOf 2 mkE (allO false)) 0 1 g → f ≤ g) → f = 3 := by
  have hw : wtF ((2 : Nat) : Int) mkE [] = [3] := by decide +kernel
  have hww : ∀ j, gn (srchOf 2 mkE (allO false)).W j = gn [3] j := fun j => by show gn (wtF ((2 : Nat) : Int) mkE []) j = _; rw [hw]
  have w1 : Way (srchOf 2 mkE (allO false)) 0 1 3 := by
    have := Way.step (x := srchOf 2 mkE (allO false)) (s := 0) (f := 0) (i := 0) (by exact Way.here) (by decide) (by decide)
    rw [hww] at this
    exact this
  intro f h1 h2
  have h3 := h2 3 w1
  have h4 : mkDist 1 ≤ f := Way.ge (x := srchOf 2 mkE (allO false)) mkDist rfl (fun i hi => by
    have hi : i < 1 := hi
    rw [hww]
    match i, hi with
    | 0, _ => decide) h1
  have : mkDist 1 = 3 := rfl
  omega
theorem as_way3 : Way (srchOf 2 mkE (allO false)) 0 1 3 := by
  have hw : wtF ((2 : Nat) : Int) mkE [] = [3] := by decide +kernel
  have := Way.step (x := srchOf 2 mkE (allO false)) (s := 0) (f := 0) (i := 0) (by exact Way.here) (by decide) (by decide)
  have e : gn (srchOf 2 mkE (allO false)).W 0 = 3 := by show gn (wtF ((2 : Nat) : Int) mkE []) 0 = _; rw [hw]; rfl
  rw [e] at this
  exact this
def pl0 : List Pl := [⟨0, 0⟩, ⟨0, 0⟩]
theorem bnd0 (K : Int) : bndsN K pl0 (gq pl0 1) 2 = [0, 0] := by
  have h0 : gq pl0 0 = gq pl0 1 := rfl
  have h1 := bndI_self K (gq pl0 1)
  show [(bndI K (gq pl0 0) (gq pl0 1)).toNat, (bndI K (gq pl0 1) (gq pl0 1)).toNat] = _
  rw [h0, h1]
  rfl
theorem cons0 : ConsL mkE [0, 0] := fun i hi => by
  have hi : i < 1 := hi
  match i, hi with
  | 0, _ => decide
theorem run_makePl2 (w : World) : (Instr.makeSlice 79 (.int .i64 2) (.int .i64 2)).run Try.prog w = .ok (.slice (some ⟨w.heap.size, 0, none⟩) 2 2) (w.alloc (.cells #[.int .i64 0, .int .i64 0, .int .i64 0, .int .i64 0] 132)) := by
  have h : (Try.prog.info? 132).map (fun i => (i.zero, i.size, i.bytes)) = some (some (.agg #[.int .i64 0, .int .i64 0]), 2, 16) := by kernel_rfl
  obtain ⟨i, hi, hz, hs, hb⟩ := info_parts h
  have := run_make (P := Try.prog) w 79 132 i _ Try.underlying79 hi hz .i64 .i64 2 2 (by omega) (Int.le_refl _) (by rw [hb]; omega) (by omega)
  rw [hs] at this
  have e : madeCells (Value.agg #[Value.int .i64 0, Value.int .i64 0]).cells 4 = #[Value.int .i64 0, Value.int .i64 0, Value.int .i64 0, Value.int .i64 0] := by kernel_rfl
  rw [this, show Int.toNat 2 * 2 = 4 from rfl, e]
  rfl
set_option maxRecDepth 20000 in
set_option maxHeartbeats 4000000 in
theorem alive45 (w : World) : Calls Try.prog 47 #[] w fun e w' => e = .returned (.bool true) ∧ Grows w w' := by
  have C1 := hide (fun (W : World) (A B : Option Addr) (h : Rd W A 3 1 (esCells mkE)) (h2 : Rd W B 2 2 (psCells pl0)) => show Calls Try.prog 48 #[.agg #[.int .i64 2, .slice A 1 1], .slice B 2 2, .int .i64 1] W fun e w' => ∃ A' c', e = .returned (.tuple #[.slice A' 2 c', .int .i64 0]) ∧ Rd w' A' 1 2 (wv [0, 0]) ∧ Grows W w' from by
    have := asBounds 2 1 A 1 mkE B 2 pl0 W h mkE_ok.right h2 (by decide) (by decide)
    rw [bnd0] at this
    exact this)
  obtain ⟨xs, t1, t2, t3⟩ := traceA_whole (s := 0) (t := 1) (cons_in (N := 2) mkE_ok.right cons0 (fun v hv => by
    match v, hv with
    | 0, _ => decide
    | 1, _ => decide)) (by decide) (by decide) (by decide)
  have C2 := hide (fun (W : World) (A B : Option Addr) (h : Rd W A 3 1 (esCells mkE)) (h2 : Rd W B 1 2 [.int .u64 0, .int .u64 0]) => show Calls Try.prog 79 #[.agg #[.int .i64 2, .slice A 1 1], .slice B 2 2, .int .i64 0, .int .i64 1] W fun e w' => ∃ n : Nat, e = .returned (.tuple #[.agg #[.int .u64 3, .int .i64 n], .int .i64 0]) ∧ 1 ≤ n ∧ n ≤ 2 ∧ Grows W w' from by
    refine (asWith 2 0 1 A 1 mkE B 2 [0, 0] xs W h mkE_ok.right h2 (by decide) (by decide) (cons_in (N := 2) mkE_ok.right cons0 (fun v hv => by
      match v, hv with
      | 0, _ => decide
      | 1, _ => decide)) t1 t2 t3).mono ?_
    rintro e w' ⟨rfl, hg⟩
    rcases resV_ok t2 t3 with ⟨f, n, e, h1, h2, h3, h4⟩ | ⟨_, h1⟩
    · obtain rfl := as_far3 f h1 h2
      exact ⟨n, by rw [e]; rfl, h3, h4, hg⟩
    · exact absurd as_way3 (h1 3))
  have C3 := hide (fun (A : Option Addr) (c : Nat) (B : Option Addr) (W : World) (h : Rd W A 1 2 (wv [0, 0])) (h2 : Rd W B 1 2 (wv [0, 0])) => show Calls Try.prog 51 #[.slice A 2 c, .slice B 2 2] W fun e w' => e = .returned (.bool true) ∧ Grows W w' from r1Wide A 2 c [0, 0] B 2 2 [0, 0] W h h2 (by decide) (by decide))
  clear t1 t2 t3
  go_enter Try.func47, Try.ntmps47
  go_upto_region 2 with fail
  obtain ⟨W0, hW0⟩ : ∃ W0, W0 = (w.alloc (.cells #[.int .i64 0, .int .i64 1, .int .u64 3] 77)).alloc (.cells #[.int .i64 2, .slice (some ⟨w.heap.size, 0, none⟩) 1 1] 24) := ⟨_, rfl⟩
  have hE : Rd W0 (some ⟨w.heap.size, 0, none⟩) 3 1 (esCells mkE) := by
    rw [hW0]; exact (Rd.made (w := w) (t := 77) (size := 3) (n := 1) (esCells mkE) rfl).new _
  have hg0 : Grows w W0 := by rw [hW0]; exact (by repeat (first | exact Grows.refl _ | refine Grows.now ?_ _ | refine Grows.new ?_ _ | refine Grows.drewN ?_ _ | refine Grows.drew ?_ | assumption | (refine Grows.set ?_ (by first | omega | (simp; done) | (simp; omega)) _)))
  have a1 : Arr W0 (w.heap.size + 1) 24 [.int .i64 2, .slice (some ⟨w.heap.size, 0, none⟩) 1 1] := by rw [hW0]; exact ⟨by simp [heap_push, Array.getElem_push, Array.getElem?_push]⟩
  rw [← hW0]
  have HE := hide hE
  obtain ⟨b, hb⟩ : ∃ b, w.heap.size = b := ⟨_, rfl⟩
  rw [hb] at HE a1 ⊢
  clear hW0 hE hb
  have C1' := hide (fun (W : World) (g : Grows W0 W) (k : Nat) (q : Rd W (some ⟨k, 0, none⟩) 2 2 (psCells pl0)) => C1.out W (some ⟨b, 0, none⟩) (some ⟨k, 0, none⟩) (HE.out.grows g) q)
  have mk := run_makePl2
  clear C1
  go_region_with (go_at_call 48; refine (C1'.out _ (by repeat (first | exact Grows.refl _ | refine Grows.now ?_ _ | refine Grows.new ?_ _ | refine Grows.drewN ?_ _ | refine Grows.drew ?_ | assumption | (refine Grows.set ?_ (by first | omega | (simp; done) | (simp; omega)) _))) _ (by first | exact (Rd.made (t := 132) (size := 2) (n := 2) (psCells pl0) rfl) | (refine Rd.grows ?_ (Grows.drew (Grows.refl _)); exact (Rd.made (t := 132) (size := 2) (n := 2) (psCells pl0) rfl)))).mono ?_; rintro e w' ⟨A2, c2, rfl, hr, hg⟩)
  all_goals (
    obtain ⟨x1, rfl⟩ : ∃ x1 : Later W0, w' = x1.now := (Grows.trans (show Grows W0 _ from (by repeat (first | exact Grows.refl _ | refine Grows.now ?_ _ | refine Grows.new ?_ _ | refine Grows.drewN ?_ _ | refine Grows.drew ?_ | assumption | (refine Grows.set ?_ (by first | omega | (simp; done) | (simp; omega)) _)))) hg).later
    have HR := hide hr
    clear hr hg mk C1'
    go_wp2_with fail
    refine (C2.out _ _ _ (HE.out.grows (by repeat (first | exact Grows.refl _ | refine Grows.now ?_ _ | refine Grows.new ?_ _ | refine Grows.drewN ?_ _ | refine Grows.drew ?_ | assumption | (refine Grows.set ?_ (by first | omega | (simp; done) | (simp; omega)) _)))) (Rd.made (w := x1.now) (t := 33) (size := 1) (n := 2) [.int .u64 0, .int .u64 0] rfl)).mono ?_
    rintro e w' ⟨n, rfl, hn1, hn2, hg⟩
    obtain ⟨x2, rfl⟩ : ∃ x2 : Later x1.now, w' = x2.now := (Grows.trans (show Grows x1.now _ from (by repeat (first | exact Grows.refl _ | refine Grows.now ?_ _ | refine Grows.new ?_ _ | refine Grows.drewN ?_ _ | refine Grows.drew ?_ | assumption | (refine Grows.set ?_ (by first | omega | (simp; done) | (simp; omega)) _)))) hg).later
    clear hg
    have hd1 : decide ((1 : Int) ≤ (n : Int)) = true := decide_eq_true (by omega)
    clear hn1 hn2
    go_wp2_with fail
    refine (C3.out _ _ _ _ (HR.out.grows (by repeat (first | exact Grows.refl _ | refine Grows.now ?_ _ | refine Grows.new ?_ _ | refine Grows.drewN ?_ _ | refine Grows.drew ?_ | assumption | (refine Grows.set ?_ (by first | omega | (simp; done) | (simp; omega)) _)))) (by
      have h3 : Rd ((x2.now.alloc (.cells #[.int .u64 3, .int .i64 (n : Int)] 50)).alloc (.cells #[.int .u64 0, .int .u64 0] 33)) (some ⟨(x2.now.alloc (.cells #[.int .u64 3, .int .i64 (n : Int)] 50)).heap.size, 0, none⟩) 1 2 (wv [0, 0]) := Rd.made (t := 33) (size := 1) (n := 2) [.int .u64 0, .int .u64 0] rfl
      rw [show (x2.now.alloc (.cells #[.int .u64 3, .int .i64 (n : Int)] 50)).heap.size = x2.now.heap.size + 1 by simp] at h3
      exact h3)).mono ?_
    rintro e w' ⟨rfl, hg⟩
    obtain ⟨x3, rfl⟩ := hg.later
    clear hg
    go_wp2_with fail
    go_ret
    exact ⟨rfl, hg0.trans (by repeat (first | exact Grows.refl _ | refine Grows.now ?_ _ | refine Grows.new ?_ _ | refine Grows.drewN ?_ _ | refine Grows.drew ?_ | assumption | (refine Grows.set ?_ (by first | omega | (simp; done) | (simp; omega)) _)))⟩)
end Go.Proofs.Ytiljgkaffgclgaa
