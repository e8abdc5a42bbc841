/- Contract: what all rows weigh together, by the answer. -/
import Derived.Test.YtpnncadglhlclaaRowsB
import Derived.Test.YtpnncadglhlclaaWeight
namespace Go.Proofs.Ytpnncadglhlclaa
open Go Go.RowKit
def insU (acc : List Int) (x : Int) : List Int := if x ∈ acc then acc else acc ++ [x]
/-- The unlike numbers: of a row's first k, behind others. -/
def unI (acc xs : List Int) : Nat → List Int
  | 0 => acc
  | k + 1 => insU (unI acc xs k) (gi xs k)
/-- Of the first i rows. -/
def unA (R : List Row) : Nat → List Int
  | 0 => []
  | i + 1 => unI (unA R i) (gr R i).xs (gr R i).n
theorem insU_len (acc : List Int) (x : Int) : (insU acc x).length ≤ acc.length + 1 := by unfold insU; split <;> simp
theorem unI_len (acc xs : List Int) (k : Nat) : (unI acc xs k).length ≤ acc.length + k := by
  induction k with
  | zero => exact Nat.le_refl _
  | succ k ih => have := insU_len (unI acc xs k) (gi xs k); show (insU _ _).length ≤ _; omega
theorem unA_len {R : List Row} (h : ∀ k, k < R.length → (gr R k).n ≤ 60) (i : Nat) (hi : i ≤ R.length) : (unA R i).length ≤ i * 60 := by
  induction i with
  | zero => simp [unA]
  | succ i ih =>
    have := unI_len (unA R i) (gr R i).xs (gr R i).n
    have := h i (by omega)
    have := ih (by omega)
    show (unI _ _ _).length ≤ _
    omega
def unionV (N : Int) (E : List Edg) (all : List Int) : Int := if edgesB N E all then wtK E all all.length else 0
set_option maxRecDepth 20000 in
set_option maxHeartbeats 4000000 in
theorem r26Union (N : Int) (A : Option Addr) (mg c : Nat) (E : List Edg) (B : Option Addr) (m d : Nat) (R : List Row) (w : World) (h : Rd w A 3 mg (esCells E)) (hmg : mg ≤ 1000000)
    (hr : Rd w B 1 m (R.map rowVal)) (hm : m ≤ 12) (hR : ∀ k, k < m → Rd w (gr R k).A 1 (gr R k).n ((gr R k).xs.map (.int .i64)) ∧ (gr R k).n ≤ 60) :
    Calls Try.prog 57 #[.agg #[.int .i64 N, .slice A mg c], .slice B m d] w fun e w' => e = .returned (.int .u64 (unionV N E (unA R m))) ∧ Grows w w' := by
  have HM := hide (show R.length = m by simpa using hr.len)
  have HLn := hide (fun i (hi : i ≤ m) => unA_len (R := R) (fun k hk => (hR k (by rw [← HM.out]; exact hk)).2) i (by rw [HM.out]; exact hi))
  have HA := hide h
  have HB := hide hr
  have HR := hide hR
  clear h hr hR
  go_enter Try.func57, Try.ntmps57
  go_wp2_with fail
  obtain ⟨W0, hW0⟩ : ∃ W0, W0 = (w.alloc (.cells #[.int .i64 N, .slice A mg c] 24)) := ⟨_, rfl⟩
  have hg0 : Grows w W0 := by rw [hW0]; exact (by repeat (first | exact Grows.refl _ | refine Grows.now ?_ _ | refine Grows.new ?_ _ | refine Grows.drewN ?_ _ | refine Grows.drew ?_ | assumption | (refine Grows.set ?_ (by first | omega | (simp; done) | (simp; omega)) _)))
  have m0 : Mine W0 ⟨w.heap.size, 0, none⟩ (.int .i64 N) := by rw [hW0]; exact inferInstance
  have m1 : Mine W0 ⟨w.heap.size, 1, none⟩ (.slice A mg c) := by rw [hW0]; exact inferInstance
  rw [← hW0]
  clear hW0
  go_loopw [6, 5, 7] (fun i u v wr => ∃ q : Nat, q ≤ m ∧ i = .int .i64 (q : Int) ∧ ∃ z : Later W0, wr = z.now ∧ ∃ A2 c2 s2, u = .slice A2 s2 c2 ∧ Hid (s2 = (unA R q).length) ∧ Own z.now W0.heap.size 3 1 A2 s2 c2 ((unA R q).map (.int .i64))) (fun i _ _ _ => m - (intOf i).toNat)
  case atStart => exact ⟨0, by omega, by go_num, ⟨_, Grows.refl _⟩, rfl, none, 0, 0, rfl, rfl, Own.nil _ _ _ _⟩
  case round =>
    obtain ⟨q, hq, rfl, z, rfl, A2, c2, s2, rfl, HS2, hown2⟩ := hrel
    have HO2 := hide hown2
    clear hown2
    by_cases hend : m ≤ q
    · have hqm : q = m := by omega
      subst hqm
      have hl := HLn.out q (Nat.le_refl _)
      have hs2 : s2 ≤ 1000000 := by have := HS2.out; omega
      have HW := hide (fun (W : World) (g : Grows z.now W) => r8Weight N A mg c E A2 s2 c2 (unA R q) W (HA.out.grows (hg0.trans (z.grows.trans g))) hmg (HO2.out.rd.grows g) hs2)
      have HV : Hid (unionV N E (unA R q) = if edgesB N E (unA R q) then wtK E (unA R q) (unA R q).length else 0) := rfl
      clear hl
      generalize hal : unA R q = al at *
      have HAL := hide hal
      clear hal
      cases hb : edgesB N E al with
      | false =>
        rw [hb] at HW HV
        clear hb
        go_wp2_with (go_at_call 58; refine (HW.out _ (by repeat (first | exact Grows.refl _ | refine Grows.now ?_ _ | refine Grows.new ?_ _ | refine Grows.drewN ?_ _ | refine Grows.drew ?_ | assumption | (refine Grows.set ?_ (by first | omega | (simp; done) | (simp; omega)) _)))).mono ?_; rintro e w' ⟨rfl, hg⟩; obtain ⟨x1, rfl⟩ := hg.later; clear hg)
        go_ret
        exact ⟨by rw [HAL.out, HV.out]; rfl, (by repeat (first | exact Grows.refl _ | refine Grows.now ?_ _ | refine Grows.new ?_ _ | refine Grows.drewN ?_ _ | refine Grows.drew ?_ | assumption | (refine Grows.set ?_ (by first | omega | (simp; done) | (simp; omega)) _)))⟩
      | true =>
        rw [hb] at HW HV
        clear hb
        go_wp2_with (go_at_call 58; refine (HW.out _ (by repeat (first | exact Grows.refl _ | refine Grows.now ?_ _ | refine Grows.new ?_ _ | refine Grows.drewN ?_ _ | refine Grows.drew ?_ | assumption | (refine Grows.set ?_ (by first | omega | (simp; done) | (simp; omega)) _)))).mono ?_; rintro e w' ⟨rfl, hg⟩; obtain ⟨x1, rfl⟩ := hg.later; clear hg)
        go_ret
        exact ⟨by rw [HAL.out, HV.out]; rfl, (by repeat (first | exact Grows.refl _ | refine Grows.now ?_ _ | refine Grows.new ?_ _ | refine Grows.drewN ?_ _ | refine Grows.drew ?_ | assumption | (refine Grows.set ?_ (by first | omega | (simp; done) | (simp; omega)) _)))⟩
    · obtain ⟨b, off, rfl, hc⟩ := HB.out.rows (by omega)
      have c1 := Holds.mk (hg0.keeps (hc q (by omega)))
      obtain ⟨r1, r2⟩ := HR.out q (by omega)
      have hl0 := HLn.out q (by omega)
      have HN : Hid (unA R (q + 1) = unI (unA R q) (gr R q).xs (gr R q).n) := rfl
      have HR1 := hide (r1.grows hg0)
      have hdq : decide (q < m) = true := decide_eq_true (by omega)
      clear hc r1
      generalize hrow : gr R q = row at *
      generalize hac : unA R q = ac at *
      obtain ⟨RA, rn, rc, rx⟩ := row
      dsimp only at *
      clear hrow hac
      go_wp2_with fail
      go_loopw [7, 5] (fun i u wr => ∃ k : Nat, k ≤ rn ∧ i = .int .i64 (k : Int) ∧ ∃ y : Later W0, wr = y.now ∧ ∃ A3 c3 s3, u = .slice A3 s3 c3 ∧ Hid (s3 = (unI ac rx k).length) ∧ Own y.now W0.heap.size 3 1 A3 s3 c3 ((unI ac rx k).map (.int .i64))) (fun i _ _ => rn - (intOf i).toNat)
      case atStart => exact ⟨0, by omega, by go_num, z, rfl, A2, c2, s2, rfl, HS2, HO2.out⟩
      case round =>
        obtain ⟨k, hk, rfl, y, rfl, A3, c3, s3, rfl, HS3, hown3⟩ := hrel
        have HO3 := hide hown3
        clear hown3
        by_cases hend2 : rn ≤ k
        · have hkr : k = rn := by omega
          subst hkr
          go_wp2
          exact ⟨⟨q + 1, by omega, by go_num, y, rfl, A3, c3, s3, rfl, by rw [HN.out]; exact HS3, by rw [HN.out]; exact HO3.out⟩, by simp [intOf]; omega⟩
        · obtain ⟨b3, off3, rfl, hc3⟩ := HR1.out.intsH (by omega)
          have c3' := hc3 k (by omega)
          have hl1 := unI_len ac rx k
          have hs3 : s3 ≤ 1000000 := by have := HS3.out; omega
          have HH := hide (fun (W : World) (g : Grows y.now W) v => r1Has A3 s3 c3 (unI ac rx k) v W (HO3.out.rd.grows g) hs3)
          have HU : Hid (unI ac rx (k + 1) = insU (unI ac rx k) (gi rx k)) := rfl
          clear hc3 hl1 hl0
          generalize unI ac rx k = al at *
          generalize gi rx k = v at *
          cases hin : decide (v ∈ al) with
          | true =>
            have HU2 : Hid (unI ac rx (k + 1) = al) := by show _ = _; rw [HU.out]; unfold insU; rw [if_pos (of_decide_eq_true hin)]
            have HH2 := hide (fun W g => HH.out W g v)
            rw [hin] at HH2
            clear hin
            go_wp2_with (go_at_call 79; refine (HH2.out _ (by repeat (first | exact Grows.refl _ | refine Grows.now ?_ _ | refine Grows.new ?_ _ | refine Grows.drewN ?_ _ | refine Grows.drew ?_ | assumption | (refine Grows.set ?_ (by first | omega | (simp; done) | (simp; omega)) _)))).mono ?_; rintro e w' ⟨rfl, rfl⟩)
            exact ⟨⟨k + 1, by omega, by go_num, y, rfl, A3, c3, s3, rfl, by rw [HU2.out]; exact HS3, by rw [HU2.out]; exact HO3.out⟩, by simp [intOf]; omega⟩
          | false =>
            have HU2 : Hid (unI ac rx (k + 1) = al ++ [v]) := by show _ = _; rw [HU.out]; unfold insU; rw [if_neg (of_decide_eq_false hin)]
            have HH2 := hide (fun W g => HH.out W g v)
            rw [hin] at HH2
            clear hin
            go_wp2_with (first | (go_at_call 79; refine (HH2.out _ (by repeat (first | exact Grows.refl _ | refine Grows.now ?_ _ | refine Grows.new ?_ _ | refine Grows.drewN ?_ _ | refine Grows.drew ?_ | assumption | (refine Grows.set ?_ (by first | omega | (simp; done) | (simp; omega)) _)))).mono ?_; rintro e w' ⟨rfl, rfl⟩) | (at_builtin; refine wp_app1 elemInt rfl _ _ rfl _ (by repeat (first | exact Grows.refl _ | refine Grows.now ?_ _ | refine Grows.new ?_ _ | refine Grows.drewN ?_ _ | refine Grows.drew ?_ | assumption | (refine Grows.set ?_ (by first | omega | (simp; done) | (simp; omega)) _))) s3 c3 A3 _ rfl (HO3.out.grows (by repeat (first | exact Grows.refl _ | refine Grows.now ?_ _ | refine Grows.new ?_ _ | refine Grows.drewN ?_ _ | refine Grows.drew ?_ | assumption | (refine Grows.set ?_ (by first | omega | (simp; done) | (simp; omega)) _)))) _ _ _ rfl inferInstance rfl (by omega) ?_; intro A4 c4 y4 hown4; have HO4 := hide hown4; clear hown4))
            exact ⟨⟨k + 1, by omega, by go_num, y4, rfl, A4, c4, s3 + 1, rfl, by rw [HU2.out]; show s3 + 1 = _; rw [List.length_append, HS3.out]; rfl, by rw [HU2.out, List.map_append]; exact HO4.out⟩, by simp [intOf]; omega⟩
end Go.Proofs.Ytpnncadglhlclaa
