/- Contract: what undoes changes, by the answer. -/
import Derived.Test.YtpnncadglhlclaaDiff
import Derived.Test.YtpnncadglhlclaaRefApply
namespace Go.Proofs.Ytpnncadglhlclaa
open Go Go.RowKit
/-- Is edge e among the first i changes? -/
def hasK (L : List Chg) (e : Int) : Nat → Bool
  | 0 => false
  | i + 1 => hasK L e i || decide ((gc L i).e = e)
/-- What undoes changes, of the first k edges. -/
def unL (E : List Edg) (L : List Chg) : Nat → List Chg
  | 0 => []
  | k + 1 => if hasK L k L.length then unL E L k ++ [⟨k, (ge E k).w⟩] else unL E L k
theorem unL_len (E : List Edg) (L : List Chg) : ∀ k, (unL E L k).length ≤ k
  | 0 => Nat.le_refl _
  | k + 1 => by
    have := unL_len E L k
    show (if _ then _ else _ : List Chg).length ≤ _
    split
    · rw [List.length_append]; simp; omega
    · omega
def unV (N : Int) (E : List Edg) (L : List Chg) : List Chg := if apF N E L = 0 then unL E L E.length else []
/-- Changes, and why not. -/
def GiveU (w : World) (L : List Chg) (f : Int) (e : Ending) (w' : World) : Prop := ∃ A c, e = .returned (.tuple #[.slice A L.length c, .int .i64 f]) ∧ Rd w' A 2 L.length (csCells L) ∧ Grows w w'
set_option maxRecDepth 20000 in
set_option maxHeartbeats 8000000 in
theorem r33Undo (N : Int) (A : Option Addr) (n c : Nat) (E : List Edg) (B : Option Addr) (m d : Nat) (L : List Chg) (w : World) (h : Rd w A 3 n (esCells E)) (hn : n ≤ 1000000) (hc : Rd w B 2 m (csCells L)) (hm : m ≤ 1000000) :
    Calls Try.prog 65 #[.agg #[.int .i64 N, .slice A n c], .slice B m d] w (GiveU w (unV N E L) (apF N E L)) := by
  have C1 := hide (fun W (g : Grows w W) => r33Apply N A n c E B m d L W (h.grows g) hn (hc.grows g) hm)
  have HV : Hid (unV N E L = if apF N E L = 0 then unL E L E.length else []) := rfl
  have HL := hide h.elen
  have HLm := hide hc.clen
  have HA := hide h
  have HC := hide hc
  clear h hc
  by_cases hf : apF N E L = 0
  · rw [HV.out, if_pos hf, hf]
    rw [hf] at C1
    clear HV hf
    generalize apN N E L = N4 at *
    generalize apL N E L = E4 at *
    generalize apI N E L = i4 at *
    go_enter Try.func65, Try.ntmps65
    go_wp2_with (go_at_call 63; refine (C1.out _ (by repeat (first | exact Grows.refl _ | refine Grows.now ?_ _ | refine Grows.new ?_ _ | refine Grows.drewN ?_ _ | refine Grows.drew ?_ | assumption | (refine Grows.set ?_ (by first | omega | (simp; done) | (simp; omega)) _)))).mono ?_; rintro e w' ⟨A4, c4, rfl, _, hg⟩; obtain ⟨x1, rfl⟩ := hg.later; clear hg)
    have hg2 : Grows w x1.now := (by repeat (first | exact Grows.refl _ | refine Grows.now ?_ _ | refine Grows.new ?_ _ | refine Grows.drewN ?_ _ | refine Grows.drew ?_ | assumption | (refine Grows.set ?_ (by first | omega | (simp; done) | (simp; omega)) _)))
    have b0 : Mine x1.now ⟨w.heap.size, 0, none⟩ (.int .i64 N) := inferInstance
    have b1 : Mine x1.now ⟨w.heap.size, 1, none⟩ (.slice A n c) := inferInstance
    go_loopw [10, 9] (fun i u wr => ∃ k : Nat, k ≤ n ∧ i = .int .i64 (k : Int) ∧ ∃ y : Later x1.now, wr = y.now ∧ ∃ A1 c1 s1, u = .slice A1 s1 c1 ∧ Hid (s1 = (unL E L k).length) ∧ Own y.now x1.now.heap.size 153 2 A1 s1 c1 (csCells (unL E L k))) (fun i _ _ => n - (intOf i).toNat)
    case atStart => exact ⟨0, by omega, by go_num, ⟨x1.now.alloc _, (by repeat (first | exact Grows.refl _ | refine Grows.now ?_ _ | refine Grows.new ?_ _ | refine Grows.drewN ?_ _ | refine Grows.drew ?_ | assumption | (refine Grows.set ?_ (by first | omega | (simp; done) | (simp; omega)) _)))⟩, rfl, none, 0, 0, rfl, rfl, Own.nil _ _ _ _⟩
    case round =>
      obtain ⟨k, hk, rfl, y, rfl, A1, c1, s1, rfl, HS1, hown⟩ := hrel
      have HO := hide hown
      clear hown
      by_cases hend : n ≤ k
      · have hkn : k = n := by omega
        subst hkn
        go_wp2
        go_ret2
        rw [HL.out]
        refine ⟨A1, c1, by rw [← HS1.out]; rfl, ?_, (by repeat (first | exact Grows.refl _ | refine Grows.now ?_ _ | refine Grows.new ?_ _ | refine Grows.drewN ?_ _ | refine Grows.drew ?_ | assumption | (refine Grows.set ?_ (by first | omega | (simp; done) | (simp; omega)) _)))⟩
        rw [← HS1.out]
        exact HO.out.rd
      · have hkd : decide (k < n) = true := decide_eq_true (by omega)
        have hs1 : s1 ≤ 1000000 := by have := HS1.out; have := unL_len E L k; omega
        have HN : Hid (unL E L (k + 1) = if hasK L k L.length then unL E L k ++ [⟨k, (ge E k).w⟩] else unL E L k) := rfl
        obtain ⟨b, off, rfl, hcc⟩ := HA.out.edgesH (by omega)
        have c2 := Holds.mk (hg2.keeps (hcc k (by omega)).2.2.cell)
        clear hcc
        go_wp2_with fail
        go_loopw [12, 11] (fun i u wr => ∃ q : Nat, q ≤ m ∧ i = .int .i64 (q : Int) ∧ u = .bool (hasK L k q) ∧ wr = y.now) (fun i _ _ => m - (intOf i).toNat)
        case atStart => exact ⟨0, by omega, by go_num, rfl, rfl⟩
        case round =>
          obtain ⟨q, hq, rfl, rfl, rfl⟩ := hrel
          by_cases hend2 : m ≤ q
          · have hqm : q = m := by omega
            subst hqm
            rw [HLm.out] at HN
            cases hb : hasK L k q with
            | false =>
              have HN2 : Hid (unL E L (k + 1) = unL E L k) := by show _ = _; rw [HN.out, hb]; rfl
              clear hb
              go_wp2
              exact ⟨⟨k + 1, by omega, by go_num, y, rfl, A1, c1, s1, rfl, by rw [HN2.out]; exact HS1, by rw [HN2.out]; exact HO.out⟩, by simp [intOf]; omega⟩
            | true =>
              have HN2 : Hid (unL E L (k + 1) = unL E L k ++ [⟨k, (ge E k).w⟩]) := by show _ = _; rw [HN.out, hb]; rfl
              clear hb
              generalize (ge E k).w = v at *
              go_wp2_with (at_builtin; refine wp_appSM elemRChg rfl _ _ rfl x1.now (by repeat (first | exact Grows.refl _ | refine Grows.now ?_ _ | refine Grows.new ?_ _ | refine Grows.drewN ?_ _ | refine Grows.drew ?_ | assumption | (refine Grows.set ?_ (by first | omega | (simp; done) | (simp; omega)) _))) s1 c1 A1 _ rfl (HO.out.grows (by repeat (first | exact Grows.refl _ | refine Grows.now ?_ _ | refine Grows.new ?_ _ | refine Grows.drewN ?_ _ | refine Grows.drew ?_ | assumption | (refine Grows.set ?_ (by first | omega | (simp; done) | (simp; omega)) _)))) _ _ [.int .i64 (k : Int), .int .u64 v] rfl rfl (cs_new inferInstance inferInstance) (by intro u hu; simp at hu; rcases hu with rfl | rfl <;> rfl) (by omega) ?_; intro A3 c9 y3 hown3 _; have HO3 := hide hown3; clear hown3)
              refine ⟨⟨k + 1, by omega, by go_num, y3, rfl, A3, c9, s1 + 1, rfl, ?_, ?_⟩, by simp [intOf]; omega⟩
              · show s1 + 1 = _
                rw [HN2.out, List.length_append, HS1.out]; rfl
              · rw [HN2.out, csCells_app]
                exact HO3.out
          · obtain ⟨b', off', rfl, hcc⟩ := HC.out.chgsH (by omega)
            have c3 := Holds.mk (hg2.keeps (hcc q (by omega)).1.cell)
            clear hcc
            have HK : Hid (hasK L k (q + 1) = (hasK L k q || decide ((gc L q).e = k))) := rfl
            generalize (gc L q).e = e at *
            generalize hasK L k q = bb at *
            have hdd : (e == (k : Int)) = decide (e = k) := rfl
            cases bb with
            | true =>
              go_wp2
              exact ⟨⟨q + 1, by omega, by go_num, by rw [HK.out]; rfl, by trivial⟩, by simp [intOf]; omega⟩
            | false =>
              go_wp2
              exact ⟨⟨q + 1, by omega, by go_num, by rw [HK.out]; simp; try rfl, by trivial⟩, by simp [intOf]; omega⟩
  · rw [HV.out, if_neg hf]
    have hd2 : (apF N E L == 0) = false := beq_eq_false_iff_ne.2 hf
    have hd : (apF N E L != 0) = true := bne_iff_ne.2 hf
    clear HV
    generalize apN N E L = N4 at *
    generalize apL N E L = E4 at *
    generalize apI N E L = i4 at *
    generalize apF N E L = f at *
    go_enter Try.func65, Try.ntmps65
    go_wp2_with (go_at_call 63; refine (C1.out _ (by repeat (first | exact Grows.refl _ | refine Grows.now ?_ _ | refine Grows.new ?_ _ | refine Grows.drewN ?_ _ | refine Grows.drew ?_ | assumption | (refine Grows.set ?_ (by first | omega | (simp; done) | (simp; omega)) _)))).mono ?_; rintro e w' ⟨A4, c4, rfl, _, hg⟩; obtain ⟨x1, rfl⟩ := hg.later; clear hg)
    go_ret2
    exact ⟨none, 0, rfl, ⟨by simp [csCells], fun h => absurd h (by simp)⟩, (by repeat (first | exact Grows.refl _ | refine Grows.now ?_ _ | refine Grows.new ?_ _ | refine Grows.drewN ?_ _ | refine Grows.drew ?_ | assumption | (refine Grows.set ?_ (by first | omega | (simp; done) | (simp; omega)) _)))⟩
end Go.Proofs.Ytpnncadglhlclaa
