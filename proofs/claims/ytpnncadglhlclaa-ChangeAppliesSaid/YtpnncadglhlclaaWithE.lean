/- Contracts: a graph with one weight changed. -/
import Derived.Test.YtpnncadglhlclaaClone
namespace Go.Proofs.Ytpnncadglhlclaa
open Go Go.RowKit
/-- Why an edge of m may not have a weight (0: it may). -/
def chF (m : Nat) (e w : Int) : Int := if edgeB m e then (if wtB w then 0 else 2) else 8
def withF (N : Int) (E : List Edg) (e w : Int) : Int := if rightF N E = 0 then chF E.length e w else 1
/-- A graph, and why not. -/
def GiveGF (w : World) (f : Int) (P : Int → Option Addr → Nat → Nat → World → Prop) (e : Ending) (w' : World) : Prop := ∃ N A n c, e = .returned (.tuple #[.agg #[.int .i64 N, .slice A n c], .int .i64 f]) ∧ P N A n c w' ∧ Grows w w'
theorem es_at2 {E : List Edg} {k : Nat} (hk : k < E.length) : (esCells E)[k * 3 + 2]? = some (.int .u64 (ge E k).w) := by rw [esCells_at E k 2 hk (by omega)]; rfl
set_option maxRecDepth 20000 in
set_option maxHeartbeats 4000000 in
theorem gWith (N : Int) (A : Option Addr) (n c : Nat) (E : List Edg) (e x : Int) (w : World) (h : Rd w A 3 n (esCells E)) (hn : n ≤ 1000000) :
    Calls Try.prog 101 #[.agg #[.int .i64 N, .slice A n c], .int .i64 e, .int .u64 x] w (GiveGF w (withF N E e x) fun _ _ _ _ _ => True) := by
  have hl := h.elen
  have HC := hide (fun W (g : Grows w W) => gClone N A n c E W (h.grows g) hn)
  have C1 := fun W (g : Grows w W) => gRight N A n c E W (h.grows g) hn
  have C2 := hide (fun W => gEdge N e A n c W)
  have C3 := hide (fun W => calls_same (gWeight x W))
  have HV : Hid (withF N E e x = if rightF N E = 0 then (if edgeB n e then (if wtB x then 0 else 2) else 8) else 1) := by unfold withF chF; rw [hl]; rfl
  rw [HV.out]
  have HH := hide hl
  clear h HV hl
  by_cases hr : rightF N E = 0
  · rw [if_pos hr]
    rw [hr] at C1
    have H1 := hide C1
    clear C1 hr
    cases he : edgeB n e with
    | false =>
      rw [he] at C2
      clear he
      rw [if_neg (by simp)]
      go_enter Try.func101, Try.ntmps101
      go_wp2_with (first | (go_at_call 82; refine (H1.out _ (by repeat (first | exact Grows.refl _ | refine Grows.now ?_ _ | refine Grows.new ?_ _ | refine Grows.drewN ?_ _ | refine Grows.drew ?_ | assumption | (refine Grows.set ?_ (by first | omega | (simp; done) | (simp; omega)) _)))).mono ?_; rintro e w' ⟨rfl, hg⟩; (first | obtain ⟨x, rfl⟩ := Grows.later2 hg | obtain ⟨x, rfl⟩ := Grows.later hg); clear hg) | (go_at_call 137; refine (C2.out _).mono ?_; rintro e w' ⟨rfl, hg⟩; (first | obtain ⟨x, rfl⟩ := Grows.later2 hg | obtain ⟨x, rfl⟩ := Grows.later hg); clear hg))
      refine bodyPost_ret (v := .tuple #[.agg #[.int .i64 0, .slice none 0 0], .int .i64 8]) (by simp (maxDischargeDepth := 6) [results, Try.results101, go_sem, *]) rfl ⟨_, _, _, _, rfl, trivial, (by repeat (first | exact Grows.refl _ | refine Grows.now ?_ _ | refine Grows.new ?_ _ | refine Grows.drewN ?_ _ | refine Grows.drew ?_ | assumption | (refine Grows.set ?_ (by first | omega | (simp; done) | (simp; omega)) _)))⟩
    | true =>
      rw [if_pos rfl]
      rw [he] at C2
      have hek : 0 ≤ e ∧ e < n := of_decide_eq_true he
      clear he
      cases hx : wtB x with
      | false =>
        rw [hx] at C3
        clear hx
        rw [if_neg (by simp)]
        go_enter Try.func101, Try.ntmps101
        go_wp2_with (first | (go_at_call 82; refine (H1.out _ (by repeat (first | exact Grows.refl _ | refine Grows.now ?_ _ | refine Grows.new ?_ _ | refine Grows.drewN ?_ _ | refine Grows.drew ?_ | assumption | (refine Grows.set ?_ (by first | omega | (simp; done) | (simp; omega)) _)))).mono ?_; rintro e w' ⟨rfl, hg⟩; (first | obtain ⟨x, rfl⟩ := Grows.later2 hg | obtain ⟨x, rfl⟩ := Grows.later hg); clear hg) | (go_at_call 137; refine (C2.out _).mono ?_; rintro e w' ⟨rfl, hg⟩; (first | obtain ⟨x, rfl⟩ := Grows.later2 hg | obtain ⟨x, rfl⟩ := Grows.later hg); clear hg) | (go_at_call 125; refine (C3.out _).mono ?_; rintro e w' ⟨rfl, hg⟩; (first | obtain ⟨x, rfl⟩ := Grows.later2 hg | obtain ⟨x, rfl⟩ := Grows.later hg); clear hg))
        refine bodyPost_ret (v := .tuple #[.agg #[.int .i64 0, .slice none 0 0], .int .i64 2]) (by simp (maxDischargeDepth := 6) [results, Try.results101, go_sem, *]) rfl ⟨_, _, _, _, rfl, trivial, (by repeat (first | exact Grows.refl _ | refine Grows.now ?_ _ | refine Grows.new ?_ _ | refine Grows.drewN ?_ _ | refine Grows.drew ?_ | assumption | (refine Grows.set ?_ (by first | omega | (simp; done) | (simp; omega)) _)))⟩
      | true =>
        rw [hx] at C3
        clear hx
        rw [if_pos rfl]
        obtain ⟨k, rfl⟩ := Int.eq_ofNat_of_zero_le hek.1
        have hk : k < n := by omega
        clear hek
        go_enter Try.func101, Try.ntmps101
        go_wp2_with (first
          | (go_at_call 82; refine (H1.out _ (by repeat (first | exact Grows.refl _ | refine Grows.now ?_ _ | refine Grows.new ?_ _ | refine Grows.drewN ?_ _ | refine Grows.drew ?_ | assumption | (refine Grows.set ?_ (by first | omega | (simp; done) | (simp; omega)) _)))).mono ?_; rintro e w' ⟨rfl, hg⟩; obtain ⟨x1, rfl⟩ := hg.later; clear hg)
          | (go_at_call 137; refine (C2.out _).mono ?_; rintro e w' ⟨rfl, hg⟩; obtain ⟨x2, rfl⟩ := hg.later; clear hg)
          | (go_at_call 125; refine (C3.out _).mono ?_; rintro e w' ⟨rfl, hg⟩; obtain ⟨x3, rfl⟩ := hg.later; clear hg)
          | (go_at_call 100; refine (HC.out _ (by repeat (first | exact Grows.refl _ | refine Grows.now ?_ _ | refine Grows.new ?_ _ | refine Grows.drewN ?_ _ | refine Grows.drew ?_ | assumption | (refine Grows.set ?_ (by first | omega | (simp; done) | (simp; omega)) _)))).mono ?_; rintro e w' ⟨A1, c1, rfl, ho1, hg⟩; obtain ⟨x4, rfl⟩ := hg.later; obtain ⟨g, rfl, hgB, hlt, hM⟩ := ho1.atS (by rw [HH.out]; omega); have c5 := hM _ _ (es_at2 (k := k) (by rw [HH.out]; exact hk)); have hkl : k < E.length := (by rw [HH.out]; exact hk); have HO1 := hide ho1; have hgw : w.heap.size ≤ g := (Nat.le_trans (show Grows w x3.now from (by repeat (first | exact Grows.refl _ | refine Grows.now ?_ _ | refine Grows.new ?_ _ | refine Grows.drewN ?_ _ | refine Grows.drew ?_ | assumption | (refine Grows.set ?_ (by first | omega | (simp; done) | (simp; omega)) _)))).size hgB); clear hg ho1 hM))
        refine bodyPost_ret (v := .tuple #[.agg #[.int .i64 N, .slice (some ⟨g, 0, none⟩) E.length c1], .int .i64 0]) (by simp (maxDischargeDepth := 6) [results, Try.results101, go_sem, *]) rfl ⟨_, _, _, _, rfl, trivial, (by repeat (first | exact Grows.refl _ | refine Grows.now ?_ _ | refine Grows.new ?_ _ | refine Grows.drewN ?_ _ | refine Grows.drew ?_ | assumption | (refine Grows.set ?_ (by first | omega | (simp; done) | (simp; omega)) _)))⟩
  · rw [if_neg hr]
    have hr2 : (rightF N E == 0) = false := beq_eq_false_iff_ne.2 hr
    have H1 := hide C1
    clear C1 hr
    go_enter Try.func101, Try.ntmps101
    go_wp2_with (first | (go_at_call 82; refine (H1.out _ (by repeat (first | exact Grows.refl _ | refine Grows.now ?_ _ | refine Grows.new ?_ _ | refine Grows.drewN ?_ _ | refine Grows.drew ?_ | assumption | (refine Grows.set ?_ (by first | omega | (simp; done) | (simp; omega)) _)))).mono ?_; rintro e w' ⟨rfl, hg⟩; (first | obtain ⟨x, rfl⟩ := Grows.later2 hg | obtain ⟨x, rfl⟩ := Grows.later hg); clear hg))
    refine bodyPost_ret (v := .tuple #[.agg #[.int .i64 0, .slice none 0 0], .int .i64 1]) (by simp (maxDischargeDepth := 6) [results, Try.results101, go_sem, *]) rfl ⟨_, _, _, _, rfl, trivial, (by repeat (first | exact Grows.refl _ | refine Grows.now ?_ _ | refine Grows.new ?_ _ | refine Grows.drewN ?_ _ | refine Grows.drew ?_ | assumption | (refine Grows.set ?_ (by first | omega | (simp; done) | (simp; omega)) _)))⟩
end Go.Proofs.Ytpnncadglhlclaa
