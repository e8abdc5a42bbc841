/- Contract: any graph with any changes, by the answer. -/
import Derived.Test.YtpnncadglhlclaaChApply
import Derived.Test.YtpnncadglhlclaaWithR
namespace Go.Proofs.Ytpnncadglhlclaa
open Go Go.RowKit
theorem Mine.other {w : World} {p q : Addr} {v : Value} (h : Mine w p v) (u : Value) (hne : q ≠ p) : Mine (w.setCell q u) p v := h.set_other u hne
theorem fin1 {f N4 N : Int} {n4 n c4 Y B : Nat} {A4 : Option Addr} {W : World} {xs : List Value} (hP : f = 0 → N4 = N ∧ n4 = n ∧ Own W B 49 3 A4 n4 c4 xs) (hB : Y ≤ B) :
    f = 0 → N4 = N ∧ n4 = n ∧ Rd W A4 3 n4 xs ∧ ∀ b off, A4 = some ⟨b, off, none⟩ → 0 < n4 → Y ≤ b := fun h => by
  obtain ⟨h1, h2, ho⟩ := hP h
  refine ⟨h1, h2, ho.rd, fun b off e h0 => ?_⟩
  obtain ⟨g, e', hg, _⟩ := ho.atS h0
  rw [e] at e'
  injection e' with e'
  injection e' with e1 _
  omega
theorem fin2 {f N4 N : Int} {n4 n c4 B : Nat} {A4 : Option Addr} {W : World} {xs : List Value} (hP : f = 0 → N4 = N ∧ n4 = n ∧ Own W B 49 3 A4 n4 c4 xs) {p q : Addr} (hp : p.block < B) (hq : q.block < B) (u v : Value) :
    f = 0 → N4 = N ∧ n4 = n ∧ Own ((W.setCell p u).setCell q v) B 49 3 A4 n4 c4 xs := fun h => by
  obtain ⟨h1, h2, ho⟩ := hP h
  exact ⟨h1, h2, (ho.low hp _).low hq _⟩
theorem fin3 {f N4 N : Int} {n4 n c4 Y B : Nat} {A4 : Option Addr} {W : World} {xs : List Value} {o : Obj} (hP : f = 0 → N4 = N ∧ n4 = n ∧ Own W B 49 3 A4 n4 c4 xs) (hB : Y ≤ B) :
    Hid (f = 0 → N4 = N ∧ n4 = n ∧ Rd (W.alloc o) A4 3 n4 xs ∧ ∀ b off, A4 = some ⟨b, off, none⟩ → 0 < n4 → Y ≤ b) := fun h => by
  obtain ⟨h1, h2, h3, h4⟩ := fin1 hP hB h
  exact ⟨h1, h2, h3.new _, h4⟩
theorem fin4 {f N4 N : Int} {n4 n c4 Y B : Nat} {A4 : Option Addr} {W : World} {xs : List Value} (hP : f = 0 → N4 = N ∧ n4 = n ∧ Own W B 49 3 A4 n4 c4 xs) (hB : Y ≤ B) {p q : Addr} (hp : p.block < B) (hq : q.block < B) (u v : Value) :
    Hid (f = 0 → N4 = N ∧ n4 = n ∧ Rd ((W.setCell p u).setCell q v) A4 3 n4 xs ∧ ∀ b off, A4 = some ⟨b, off, none⟩ → 0 < n4 → Y ≤ b) := fin1 (fin2 hP hp hq u v) hB
set_option maxRecDepth 20000 in
set_option maxHeartbeats 4000000 in
theorem r33Apply (N : Int) (A : Option Addr) (n c : Nat) (E : List Edg) (B : Option Addr) (m d : Nat) (L : List Chg) (w : World) (h : Rd w A 3 n (esCells E)) (hn : n ≤ 1000000) (hc : Rd w B 2 m (csCells L)) (hm : m ≤ 1000000) :
    Calls Try.prog 63 #[.agg #[.int .i64 N, .slice A n c], .slice B m d] w (GiveA w (apN N E L) (apL N E L) (apI N E L) (apF N E L)) := by
  have hl := h.elen
  have hlm := hc.clen
  have C1 := fun W (g : Grows w W) => r5Right N A n c E W (h.grows g) hn
  by_cases hr : rightF N E = 0
  · rw [hr] at C1
    have H1 := hide C1
    have HAP := hide (fun k (hj : ∀ j, j < k → chB n (gc L j) = true) => right_ap hr k (by rw [hl]; exact hj))
    have HBad := hide (fun k (hk : k < m) (hj : ∀ j, j < k → chB n (gc L j) = true) (h : chB n (gc L k) = false) => ap_bad (N := N) hr (L := L) (k := k) (by omega) (by rw [hl]; exact hj) (by rw [hl]; exact h))
    have HAll := hide (fun (hj : ∀ j, j < m → chB n (gc L j) = true) => ap_all (N := N) hr (L := L) (by rw [hl, hlm]; exact hj))
    have HC2 := hide hc
    have HLe := hide (fun k => (apE_len E L k).trans hl)
    have HLm := hide hlm
    have HL := hide hl
    have hne0 : ∀ b off, A = some ⟨b, off, none⟩ → 0 < n → b < w.heap.size := fun b off e h0 => by
      obtain ⟨b', off', e', hcc⟩ := h.2 h0 (by omega)
      have h3 : (esCells E)[0]? = some (.int .i64 (ge E 0).f) := by have := esCells_at E 0 0 (by omega) (by omega); rw [Nat.zero_mul] at this; exact this
      have := hcc 0 _ h3
      rw [e] at e'
      injection e' with e'
      injection e' with e1 e2
      subst e1
      exact cell_lt (p := ⟨b, off' + 0, none⟩) (by rw [this]; rfl)
    have HNE := hide hne0
    have HR0 := hide h
    clear C1 hr h hc hl hlm hne0
    go_enter Try.func63, Try.ntmps63
    go_wp2_with (first
      | (go_at_call 74; refine (H1.out _ (by repeat (first | exact Grows.refl _ | refine Grows.now ?_ _ | refine Grows.new ?_ _ | refine Grows.drewN ?_ _ | refine Grows.drew ?_ | assumption | (refine Grows.set ?_ (by first | omega | (simp; done) | (simp; omega)) _)))).mono ?_; rintro e w' ⟨rfl, hg⟩; obtain ⟨x1, rfl⟩ := hg.later; clear hg))
    go_loopw [7] (fun i wr => ∃ k : Nat, k ≤ m ∧ i = .int .i64 (k : Int) ∧ ∃ y : Later w, wr = y.now ∧ w.heap.size + 2 ≤ y.now.heap.size ∧ ∃ A1 c1, Mine y.now ⟨w.heap.size, 0, none⟩ (.int .i64 N) ∧ Mine y.now ⟨w.heap.size, 1, none⟩ (.slice A1 n c1) ∧ Mine y.now ⟨w.heap.size + 1, 0, none⟩ (.int .i64 0) ∧ Mine y.now ⟨w.heap.size + 1, 1, none⟩ (.slice none 0 0) ∧
      Hid (Rd y.now A1 3 n (esCells (apE E L k))) ∧ Hid (∀ b off, A1 = some ⟨b, off, none⟩ → 0 < n → b ≠ w.heap.size ∧ b ≠ w.heap.size + 1) ∧ Hid (∀ j, j < k → chB n (gc L j) = true)) (fun i _ => m - (intOf i).toNat)
    case atStart =>
      refine ⟨0, by omega, by go_num, ⟨x1.now, (by repeat (first | exact Grows.refl _ | refine Grows.now ?_ _ | refine Grows.new ?_ _ | refine Grows.drewN ?_ _ | refine Grows.drew ?_ | assumption | (refine Grows.set ?_ (by first | omega | (simp; done) | (simp; omega)) _)))⟩, rfl, by have := x1.size; simp only [World.size_alloc] at this; omega, A, c, (inferInstance : Mine x1.now _ _), (inferInstance : Mine x1.now _ _), (inferInstance : Mine x1.now _ _), (inferInstance : Mine x1.now _ _), HR0.out.grows (by repeat (first | exact Grows.refl _ | refine Grows.now ?_ _ | refine Grows.new ?_ _ | refine Grows.drewN ?_ _ | refine Grows.drew ?_ | assumption | (refine Grows.set ?_ (by first | omega | (simp; done) | (simp; omega)) _))), fun b off e h0 => by have := HNE.out b off e h0; omega, fun j h => by omega⟩
    case round =>
      obtain ⟨k, hk, rfl, y, rfl, hsz, A1, c1, b0, b1, r0, r1, HR, HN1, HJ⟩ := hrel
      by_cases hend : m ≤ k
      · have hkm : k = m := by omega
        subst hkm
        have HV := hide (HAll.out HJ.out)
        go_wp2
        refine bodyPost_ret (v := .tuple #[.agg #[.int .i64 N, .slice A1 n c1], .int .i64 0, .int .i64 0]) (by simp (maxDischargeDepth := 6) [results, Try.results63, go_sem, *]) rfl ?_
        obtain ⟨v1, v2, v3, v4⟩ := HV.out
        rw [v1, v2, v3, v4, HLm.out]
        refine ⟨A1, c1, by rw [HLe.out], ?_, (by repeat (first | exact Grows.refl _ | refine Grows.now ?_ _ | refine Grows.new ?_ _ | refine Grows.drewN ?_ _ | refine Grows.drew ?_ | assumption | (refine Grows.set ?_ (by first | omega | (simp; done) | (simp; omega)) _)))⟩
        rw [HLe.out]
        rcases Nat.eq_zero_or_pos n with h0 | h0
        · subst h0
          exact ⟨HR.out.1, fun h => absurd h (by omega)⟩
        · exact (HR.out.other _ (fun b off e => by have := (HN1.out b off e h0).2; show w.heap.size + 1 ≠ b; omega)).other _ (fun b off e => by have := (HN1.out b off e h0).2; show w.heap.size + 1 ≠ b; omega)
      · obtain ⟨b, off, rfl, hcc⟩ := HC2.out.chgsH (by omega)
        obtain ⟨c2, c3⟩ := hcc k (by omega)
        clear hcc
        have D1 := fun (W : World) (g : Grows y.now W) => r5With N A1 n c1 (apE E L k) (gc L k).e (gc L k).w W (HR.out.grows g) hn
        have hwf : withF N (apE E L k) (gc L k).e (gc L k).w = chF n (gc L k).e (gc L k).w := by unfold withF; rw [if_pos (HAP.out k HJ.out), HLe.out k]
        rw [hwf] at D1
        have hlk := HLe.out k
        have HBk := hide (fun (h : chB n (gc L k) = false) => HBad.out k (by omega) HJ.out h)
        have HFv : Hid (chF E.length (gc L k).e (gc L k).w = chF n (gc L k).e (gc L k).w) := by rw [HL.out]; rfl
        have HCB : Hid (chB n (gc L k) = true ↔ chF n (gc L k).e (gc L k).w = 0) := chB_at
        have HCS := hide (fun (h : chB n (gc L k) = true) => chB_spec h)
        have HN := hide (apE_succ E L k)
        rw [hlk] at D1
        have K1 := hide D1
        clear D1 hwf hlk
        generalize apE E L k = Ek at *
        generalize chF n (gc L k).e (gc L k).w = f at *
        generalize (gc L k).e = e at *
        generalize (gc L k).w = x at *
        go_upto_region 6 with fail
        go_cut [8, 9] (fun s8 s9 wx => s9 = .int .i64 f ∧ ∃ z : Later y.now, wx = z.now ∧ ∃ g8 N4 A4 n4 c4, s8 = .pointer (some ⟨g8, 0, none⟩) ∧ Mine z.now ⟨g8, 0, none⟩ (.int .i64 N4) ∧ Mine z.now ⟨g8, 1, none⟩ (.slice A4 n4 c4) ∧ Hid (f = 0 → N4 = N ∧ n4 = n ∧ Rd z.now A4 3 n4 (esCells (setW Ek e.toNat x)) ∧ ∀ b off, A4 = some ⟨b, off, none⟩ → 0 < n4 → y.now.heap.size ≤ b))
        case first =>
          clear HAP HBad HAll HLe HLm HL HNE HR0 HN1 HBk HFv HCB HCS HN HJ HR HC2 H1
          go_region_with (go_at_call 102; refine (K1.out _ (by repeat (first | exact Grows.refl _ | refine Grows.now ?_ _ | refine Grows.new ?_ _ | refine Grows.drewN ?_ _ | refine Grows.drew ?_ | assumption | (refine Grows.set ?_ (by first | omega | (simp; done) | (simp; omega)) _)))).mono ?_; rintro e w' ⟨N4, A4, n4, c4, rfl, hP, hg⟩; obtain ⟨x4, rfl⟩ := hg.later; have HPP := hide hP; clear hg hP)
          all_goals go_wp2_with fail
          all_goals go_meet
          all_goals (case rel =>
            first
              | (refine ⟨rfl, ⟨x4.now.alloc _, ?gg⟩, (by with_reducible rfl), _, N4, A4, n4, c4, rfl, Mine.new0 _ _ _ _, Mine.new1 _ _ _ _ _, ?mf⟩
                 case gg => exact (by repeat (first | exact Grows.refl _ | refine Grows.now ?_ _ | refine Grows.new ?_ _ | refine Grows.drewN ?_ _ | refine Grows.drew ?_ | assumption | (refine Grows.set ?_ (by first | omega | (simp; done) | (simp; omega)) _)))
                 case mf => exact fin3 HPP.out (by first | exact Nat.le_refl _ | (simp; done) | (simp; omega)))
              | (refine ⟨rfl, ⟨(x4.now.setCell _ _).setCell _ _, ?gg⟩, (by with_reducible rfl), _, N4, A4, n4, c4, rfl, ⟨by simp [go_sem], by simp [go_sem]⟩, ⟨by simp [go_sem], by simp [go_sem]⟩, ?mf⟩
                 case gg => exact (by repeat (first | exact Grows.refl _ | refine Grows.now ?_ _ | refine Grows.new ?_ _ | refine Grows.drewN ?_ _ | refine Grows.drew ?_ | assumption | (refine Grows.set ?_ (by first | omega | (simp; done) | (simp; omega)) _)))
                 case mf => exact fin4 HPP.out (by first | exact Nat.le_refl _ | (simp; done) | (simp; omega)) (by first | (simp; done) | (simp; omega)) (by first | (simp; done) | (simp; omega)) _ _))
        case rest =>
          obtain ⟨rfl, z, rfl, g8, N4, A4, n4, c4, rfl, m0, m1, HF⟩ := hcut
          cases hb : chB n (gc L k) with
          | false =>
            have HV := hide (HBk.out hb)
            have hf : (f == 0) = false := beq_eq_false_iff_ne.2 (fun e => by rw [HCB.out.2 e] at hb; cases hb)
            clear hb
            go_wp2
            refine bodyPost_ret (v := .tuple #[.agg #[.int .i64 0, .slice none 0 0], .int .i64 (k : Int), .int .i64 f]) (by simp (maxDischargeDepth := 6) [results, Try.results63, go_sem, *]) rfl ?_
            obtain ⟨v1, v2, v3, v4⟩ := HV.out
            rw [v1, v2, v3, v4, HFv.out]
            exact ⟨none, 0, rfl, Rd.none0 _ _, (by repeat (first | exact Grows.refl _ | refine Grows.now ?_ _ | refine Grows.new ?_ _ | refine Grows.drewN ?_ _ | refine Grows.drew ?_ | assumption | (refine Grows.set ?_ (by first | omega | (simp; done) | (simp; omega)) _)))⟩
          | true =>
            have HJ2 : Hid (∀ j, j < k + 1 → chB n (gc L j) = true) := fun j hj => by
              by_cases e : j = k
              · rw [e]; exact hb
              · exact HJ.out j (by omega)
            have hf : f = 0 := HCB.out.1 hb
            obtain ⟨e1, e2, _, _⟩ := HCS.out hb
            subst hf
            obtain ⟨rfl, rfl, hr4, hb4⟩ := HF.out rfl
            have HR4 := hide hr4
            have HB4 := hide hb4
            clear hb hr4 hb4 HF
            go_wp2
            refine ⟨⟨k + 1, by omega, by go_num, ⟨(z.now.setCell _ _).setCell _ _, (by repeat (first | exact Grows.refl _ | refine Grows.now ?_ _ | refine Grows.new ?_ _ | refine Grows.drewN ?_ _ | refine Grows.drew ?_ | assumption | (refine Grows.set ?_ (by first | omega | (simp; done) | (simp; omega)) _)))⟩, rfl, ?_, A4, c4, ⟨by simp [go_sem], by simp [go_sem]⟩, ⟨by simp [go_sem], by simp [go_sem]⟩, ((inferInstance : Mine z.now _ _).other _ (by simp)).other _ (by simp), ((inferInstance : Mine z.now _ _).other _ (by simp)).other _ (by simp), ?_, fun b off e h0 => by have := HB4.out b off e h0; omega, HJ2⟩, by simp [intOf]; omega⟩
            · have := z.size
              simp only [World.size_setCell]
              omega
            · show Rd _ _ _ _ _
              rw [HN.out]
              rcases Nat.eq_zero_or_pos n4 with h0 | h0
              · subst h0
                exact ⟨HR4.out.1, fun h => absurd h (by omega)⟩
              · exact (HR4.out.other _ (fun b off e => by have := HB4.out b off e h0; show w.heap.size ≠ b; omega)).other _ (fun b off e => by have := HB4.out b off e h0; show w.heap.size ≠ b; omega)
  · have HV := hide (ap_not (L := L) hr)
    have hr2 : (rightF N E == 0) = false := beq_eq_false_iff_ne.2 hr
    have H1 := hide C1
    clear C1 hr h hc
    go_enter Try.func63, Try.ntmps63
    go_wp2_with (first | (go_at_call 74; refine (H1.out _ (by repeat (first | exact Grows.refl _ | refine Grows.now ?_ _ | refine Grows.new ?_ _ | refine Grows.drewN ?_ _ | refine Grows.drew ?_ | assumption | (refine Grows.set ?_ (by first | omega | (simp; done) | (simp; omega)) _)))).mono ?_; rintro e w' ⟨rfl, hg⟩; (first | obtain ⟨x, rfl⟩ := Grows.later2 hg | obtain ⟨x, rfl⟩ := Grows.later hg); clear hg))
    refine bodyPost_ret (v := .tuple #[.agg #[.int .i64 0, .slice none 0 0], .int .i64 0, .int .i64 1]) (by simp (maxDischargeDepth := 6) [results, Try.results63, go_sem, *]) rfl ?_
    obtain ⟨v1, v2, v3, v4⟩ := HV.out
    rw [v1, v2, v3, v4]
    exact ⟨none, 0, rfl, Rd.none0 _ _, (by repeat (first | exact Grows.refl _ | refine Grows.now ?_ _ | refine Grows.new ?_ _ | refine Grows.drewN ?_ _ | refine Grows.drew ?_ | assumption | (refine Grows.set ?_ (by first | omega | (simp; done) | (simp; omega)) _)))⟩
end Go.Proofs.Ytpnncadglhlclaa
