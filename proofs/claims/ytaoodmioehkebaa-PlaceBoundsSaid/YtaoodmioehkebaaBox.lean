/- Contracts: the box about places. -/
import Derived.Test.YtaoodmioehkebaaPlaces
import Derived.Test.YtaoodmioehkebaaStep2
import Derived.Deep.DeepCutAuto
namespace Go.Proofs.Ytaoodmioehkebaa
open Go Go.RowKit
def lsI (a b : Int) : Int := if b < a then b else a
def grI (a b : Int) : Int := if a < b then b else a
/-- The box about the first k places (and the first one). -/
def bxI (E : List Pl) : Nat → Pl × Pl
  | 0 => (gp E 0, gp E 0)
  | k + 1 => (⟨lsI (bxI E k).1.x (gp E k).x, lsI (bxI E k).1.y (gp E k).y⟩, ⟨grI (bxI E k).2.x (gp E k).x, grI (bxI E k).2.y (gp E k).y⟩)
def boxI (E : List Pl) : Pl × Pl := if E.length = 0 ∨ E.all okP = false then (⟨0, 0⟩, ⟨0, 0⟩) else bxI E E.length
/-- A world in which two places lie in two boxes. -/
def BoxAt (w wr : World) (ga gb : Nat) (p q : Pl) : Prop := Grows w wr ∧ w.heap.size ≤ ga ∧ w.heap.size ≤ gb ∧ ga ≠ gb ∧ Mine wr ⟨ga, 0, none⟩ (.int .i64 p.x) ∧ Mine wr ⟨ga, 1, none⟩ (.int .i64 p.y) ∧ Mine wr ⟨gb, 0, none⟩ (.int .i64 q.x) ∧ Mine wr ⟨gb, 1, none⟩ (.int .i64 q.y)
section
variable {w W : World} {ga gb : Nat} {p q : Pl}
theorem BoxAt.alloc (h : BoxAt w W ga gb p q) (o : Obj) : BoxAt w (W.alloc o) ga gb p q := by
  obtain ⟨h1, h2, h3, h4, h5, h6, h7, h8⟩ := h
  exact ⟨h1.new o, h2, h3, h4, inferInstance, inferInstance, inferInstance, inferInstance⟩
theorem BoxAt.drew (h : BoxAt w W ga gb p q) : BoxAt w W.drew ga gb p q := by
  obtain ⟨h1, h2, h3, h4, h5, h6, h7, h8⟩ := h
  exact ⟨h1.drew, h2, h3, h4, inferInstance, inferInstance, inferInstance, inferInstance⟩
theorem BoxAt.now (h : BoxAt w W ga gb p q) (x : Later W) : BoxAt w x.now ga gb p q := by
  obtain ⟨h1, h2, h3, h4, h5, h6, h7, h8⟩ := h
  exact ⟨h1.now x, h2, h3, h4, inferInstance, inferInstance, inferInstance, inferInstance⟩
theorem BoxAt.ax (h : BoxAt w W ga gb p q) (v : Int) : BoxAt w (W.setCell ⟨ga, 0, none⟩ (.int .i64 v)) ga gb ⟨v, p.y⟩ q := by
  obtain ⟨h1, h2, h3, h4, h5, h6, h7, h8⟩ := h
  exact ⟨h1.set h2 _, h2, h3, h4, Mine.set_same _, Mine.set_other h6 _ (by simp), Mine.set_other h7 _ (by first | (simp; done) | simp [h4]), Mine.set_other h8 _ (by first | (simp; done) | simp [h4])⟩
theorem BoxAt.ay (h : BoxAt w W ga gb p q) (v : Int) : BoxAt w (W.setCell ⟨ga, 1, none⟩ (.int .i64 v)) ga gb ⟨p.x, v⟩ q := by
  obtain ⟨h1, h2, h3, h4, h5, h6, h7, h8⟩ := h
  exact ⟨h1.set h2 _, h2, h3, h4, Mine.set_other h5 _ (by simp), Mine.set_same _, Mine.set_other h7 _ (by first | (simp; done) | simp [h4]), Mine.set_other h8 _ (by first | (simp; done) | simp [h4])⟩
theorem BoxAt.bx (h : BoxAt w W ga gb p q) (v : Int) : BoxAt w (W.setCell ⟨gb, 0, none⟩ (.int .i64 v)) ga gb p ⟨v, q.y⟩ := by
  obtain ⟨h1, h2, h3, h4, h5, h6, h7, h8⟩ := h
  have h4' := Ne.symm h4
  exact ⟨h1.set h3 _, h2, h3, h4, Mine.set_other h5 _ (by first | (simp; done) | simp [h4']), Mine.set_other h6 _ (by first | (simp; done) | simp [h4']), Mine.set_same _, Mine.set_other h8 _ (by simp)⟩
theorem BoxAt.by_ (h : BoxAt w W ga gb p q) (v : Int) : BoxAt w (W.setCell ⟨gb, 1, none⟩ (.int .i64 v)) ga gb p ⟨q.x, v⟩ := by
  obtain ⟨h1, h2, h3, h4, h5, h6, h7, h8⟩ := h
  have h4' := Ne.symm h4
  exact ⟨h1.set h3 _, h2, h3, h4, Mine.set_other h5 _ (by first | (simp; done) | simp [h4']), Mine.set_other h6 _ (by first | (simp; done) | simp [h4']), Mine.set_other h7 _ (by simp), Mine.set_same _⟩
theorem BoxAt.off (h : BoxAt w W ga gb p q) {c : Nat} (i : Nat) (v : Value) (h0 : w.heap.size ≤ c) (h1 : c ≠ ga) (h2 : c ≠ gb) : BoxAt w (W.setCell ⟨c, i, none⟩ v) ga gb p q := by
  obtain ⟨k1, k2, k3, h4, h5, h6, h7, h8⟩ := h
  exact ⟨k1.set h0 _, k2, k3, h4, Mine.set_other h5 _ (fun e => h1 (congrArg Addr.block e)), Mine.set_other h6 _ (fun e => h1 (congrArg Addr.block e)), Mine.set_other h7 _ (fun e => h2 (congrArg Addr.block e)), Mine.set_other h8 _ (fun e => h2 (congrArg Addr.block e))⟩
theorem BoxAt.new2 (w : World) : BoxAt w ((w.alloc (.cells #[.int .i64 0, .int .i64 0] 23)).alloc (.cells #[.int .i64 0, .int .i64 0] 23)) w.heap.size (w.heap.size + 1) ⟨0, 0⟩ ⟨0, 0⟩ :=
  ⟨((Grows.refl w).new _).new _, by omega, by omega, by omega, inferInstance, inferInstance, inferInstance, inferInstance⟩
end
set_option maxRecDepth 20000 in
set_option maxHeartbeats 2000000 in
theorem plBox (A : Option Addr) (n c : Nat) (E : List Pl) (w : World) (h : Rd w A 2 n (psCells E)) (hn : n ≤ 1000000) : Calls Try.prog 47 #[.slice A n c] w fun e w' => e = .returned (.tuple #[pVal (boxI E).1, pVal (boxI E).2]) ∧ Grows w w' := by
  have HL := hide h.plen
  have C1 := fun W (g : Grows w W) => plRight A n c E W (h.grows g) hn
  have HR := hide h
  clear h
  by_cases h0 : n = 0
  · subst h0
    have HW : Hid (boxI E = (⟨0, 0⟩, ⟨0, 0⟩)) := by unfold boxI; exact if_pos (.inl HL.out)
    rw [HW.out]
    unfold pVal
    go_enter Try.func47, Try.ntmps47
    go_wp2
    go_region
    all_goals go_wp2
    refine bodyPost_ret (v := .tuple #[.agg #[.int .i64 0, .int .i64 0], .agg #[.int .i64 0, .int .i64 0]]) (by simp [results, Try.results47, go_sem]) rfl ⟨rfl, (by repeat (first | exact Grows.refl _ | refine Grows.now ?_ _ | refine Grows.new ?_ _ | refine Grows.drewN ?_ _ | refine Grows.drew ?_ | assumption | (refine Grows.set ?_ (by first | omega | (simp; done) | (simp; omega)) _)))⟩
  have hd : ((n : Int) == 0) = false := by simpa using h0
  cases h1 : E.all okP with
  | false =>
    have HW : Hid (boxI E = (⟨0, 0⟩, ⟨0, 0⟩)) := by unfold boxI; exact if_pos (.inr h1)
    rw [HW.out]
    rw [h1] at C1
    have H1 := hide C1
    clear C1 h1
    unfold pVal
    go_enter Try.func47, Try.ntmps47
    go_wp2_with (first | (go_at_call 41; refine (H1.out _ (by repeat (first | exact Grows.refl _ | refine Grows.now ?_ _ | refine Grows.new ?_ _ | refine Grows.drewN ?_ _ | refine Grows.drew ?_ | assumption | (refine Grows.set ?_ (by first | omega | (simp; done) | (simp; omega)) _)))).mono ?_; rintro e w' ⟨rfl, hg⟩; (first | obtain ⟨x, rfl⟩ := Grows.later2 hg | obtain ⟨x, rfl⟩ := Grows.later hg); clear hg))
    go_region
    all_goals go_wp2
    all_goals refine bodyPost_ret (v := .tuple #[.agg #[.int .i64 0, .int .i64 0], .agg #[.int .i64 0, .int .i64 0]]) (by simp [results, Try.results47, go_sem, *]) rfl ⟨rfl, (by repeat (first | exact Grows.refl _ | refine Grows.now ?_ _ | refine Grows.new ?_ _ | refine Grows.drewN ?_ _ | refine Grows.drew ?_ | assumption | (refine Grows.set ?_ (by first | omega | (simp; done) | (simp; omega)) _)))⟩
  | true =>
    have HW : Hid (boxI E = bxI E n) := by unfold boxI; rw [if_neg (by rw [h1, HL.out]; simp; omega), HL.out]; exact rfl
    rw [h1] at C1
    have H1 := hide C1
    clear C1 h1
    obtain ⟨b, off, rfl, hc⟩ := HR.out.places (by omega)
    have HC := hide hc
    obtain ⟨c1, c2⟩ := hc 0 (by omega)
    simp only [Nat.zero_mul, Nat.add_zero] at c1 c2
    have c3 := Holds.mk c1
    have c4 := Holds.mk c2
    have hblt : b < w.heap.size := cell_lt (p := ⟨b, off, none⟩) (by rw [c1]; rfl)
    clear hc c1 c2
    have b1 : ¬ b = w.heap.size := by omega
    have b2 : ¬ b = w.heap.size + 1 := by omega
    have b3 : ¬ w.heap.size = b := by omega
    have b4 : ¬ w.heap.size + 1 = b := by omega
    have hn0 : 0 < n := by omega
    have hlt : decide (0 < n) = true := by simp; omega
    go_enter Try.func47, Try.ntmps47
    go_wp2_with (first | (go_at_call 41; refine (H1.out _ (by repeat (first | exact Grows.refl _ | refine Grows.now ?_ _ | refine Grows.new ?_ _ | refine Grows.drewN ?_ _ | refine Grows.drew ?_ | assumption | (refine Grows.set ?_ (by first | omega | (simp; done) | (simp; omega)) _)))).mono ?_; rintro e w' ⟨rfl, hg⟩; (first | obtain ⟨x, rfl⟩ := Grows.later2 hg | obtain ⟨x, rfl⟩ := Grows.later hg); clear hg))
    have HB := hide (BoxAt.new2 w)
    go_upto_region 3 with fail
    go_cut [] (fun wx => BoxAt w wx w.heap.size (w.heap.size + 1) (gp E 0) (gp E 0))
    case first =>
      go_region
      all_goals (go_wp2_with fail; go_meet; case rel => exact (((((HB.out.now x).ax _).ay _).bx _).by_ _).drew)
    case rest =>
      have HB2 := hide hcut
      clear hcut HB
      go_wp2
      go_loopw [24] (fun i wr => ∃ k : Nat, k ≤ n ∧ i = .int .i64 (k : Int) ∧ BoxAt w wr w.heap.size (w.heap.size + 1) (bxI E k).1 (bxI E k).2) (fun i _ => n - (intOf i).toNat)
      case atStart => exact ⟨0, by omega, by go_num, HB2.out⟩
      case round =>
        obtain ⟨k, hk, rfl, hb⟩ := hrel
        have HB := hide hb
        obtain ⟨hg, _, _, _, a1, a2, a3, a4⟩ := hb
        have z1 : w.heap.size + 1 < wr.heap.size := cell_lt (w := wr) (p := ⟨w.heap.size + 1, 0, none⟩) (by rw [a3.cell]; rfl)
        have z2 : ¬ w.heap.size = wr.heap.size := by omega
        have z3 : ¬ w.heap.size + 1 = wr.heap.size := by omega
        have z4 : ¬ wr.heap.size = w.heap.size := by omega
        have z5 : ¬ wr.heap.size = w.heap.size + 1 := by omega
        by_cases hend : n ≤ k
        · have hkm : k = n := by omega
          subst hkm
          go_wp2
          go_region
          all_goals go_wp2
          all_goals refine bodyPost_ret (v := .tuple #[.agg #[.int .i64 (bxI E k).1.x, .int .i64 (bxI E k).1.y], .agg #[.int .i64 (bxI E k).2.x, .int .i64 (bxI E k).2.y]]) (by simp (maxDischargeDepth := 6) [results, Try.results47, go_sem, *]) rfl ⟨by rw [HW.out]; rfl, ?_⟩
          all_goals exact ((((HB.out.ax (bxI E k).1.x).ay (bxI E k).1.y).bx (bxI E k).2.x).by_ (bxI E k).2.y).drew.1
        · obtain ⟨d1, d2⟩ := HC.out k (by omega)
          have d3 := Holds.mk (hg.keeps d1)
          have d4 := Holds.mk (hg.keeps d2)
          clear d1 d2 c3 c4
          have hbx : Hid (bxI E (k + 1) = (⟨lsI (bxI E k).1.x (gp E k).x, lsI (bxI E k).1.y (gp E k).y⟩, ⟨grI (bxI E k).2.x (gp E k).x, grI (bxI E k).2.y (gp E k).y⟩)) := rfl
          generalize (bxI E k).1 = P at *
          generalize (bxI E k).2 = Q at *
          go_wp2
          refine ⟨⟨k + 1, by omega, by go_num, ?_⟩, by simp [intOf]; omega⟩
          rw [hbx.out]
          exact (((((HB.out.alloc _).ax _).ay _).bx _).by_ _)
set_option maxRecDepth 20000 in
set_option maxHeartbeats 2000000 in
theorem r9Box (A : Option Addr) (n c : Nat) (E : List Pl) (w : World) (h : Rd w A 2 n (psCells E)) (hn : n ≤ 1000000) : Calls Try.prog 48 #[.slice A n c] w fun e w' => e = .returned (.tuple #[pVal (boxI E).1, pVal (boxI E).2]) ∧ Grows w w' := by
  have HL := hide h.plen
  have C1 := fun W (g : Grows w W) => r9Right A n c E W (h.grows g) hn
  have HR := hide h
  clear h
  by_cases h0 : n = 0
  · subst h0
    have HW : Hid (boxI E = (⟨0, 0⟩, ⟨0, 0⟩)) := by unfold boxI; exact if_pos (.inl HL.out)
    rw [HW.out]
    unfold pVal
    go_enter Try.func48, Try.ntmps48
    go_wp2
    refine bodyPost_ret (v := .tuple #[.agg #[.int .i64 0, .int .i64 0], .agg #[.int .i64 0, .int .i64 0]]) (by simp [results, Try.results48, go_sem]) rfl ⟨rfl, (by repeat (first | exact Grows.refl _ | refine Grows.now ?_ _ | refine Grows.new ?_ _ | refine Grows.drewN ?_ _ | refine Grows.drew ?_ | assumption | (refine Grows.set ?_ (by first | omega | (simp; done) | (simp; omega)) _)))⟩
  have hd : ((n : Int) == 0) = false := by simpa using h0
  cases h1 : E.all okP with
  | false =>
    have HW : Hid (boxI E = (⟨0, 0⟩, ⟨0, 0⟩)) := by unfold boxI; exact if_pos (.inr h1)
    rw [HW.out]
    rw [h1] at C1
    have H1 := hide C1
    clear C1 h1
    unfold pVal
    go_enter Try.func48, Try.ntmps48
    go_wp2_with (first | (go_at_call 27; refine (H1.out _ (by repeat (first | exact Grows.refl _ | refine Grows.now ?_ _ | refine Grows.new ?_ _ | refine Grows.drewN ?_ _ | refine Grows.drew ?_ | assumption | (refine Grows.set ?_ (by first | omega | (simp; done) | (simp; omega)) _)))).mono ?_; rintro e w' ⟨rfl, hg⟩; (first | obtain ⟨x, rfl⟩ := Grows.later2 hg | obtain ⟨x, rfl⟩ := Grows.later hg); clear hg))
    all_goals refine bodyPost_ret (v := .tuple #[.agg #[.int .i64 0, .int .i64 0], .agg #[.int .i64 0, .int .i64 0]]) (by simp [results, Try.results48, go_sem, *]) rfl ⟨rfl, (by repeat (first | exact Grows.refl _ | refine Grows.now ?_ _ | refine Grows.new ?_ _ | refine Grows.drewN ?_ _ | refine Grows.drew ?_ | assumption | (refine Grows.set ?_ (by first | omega | (simp; done) | (simp; omega)) _)))⟩
  | true =>
    have HW : Hid (boxI E = bxI E n) := by unfold boxI; rw [if_neg (by rw [h1, HL.out]; simp; omega), HL.out]; exact rfl
    rw [h1] at C1
    have H1 := hide C1
    clear C1 h1
    obtain ⟨b, off, rfl, hc⟩ := HR.out.places (by omega)
    have HC := hide hc
    obtain ⟨c1, c2⟩ := hc 0 (by omega)
    simp only [Nat.zero_mul, Nat.add_zero] at c1 c2
    have c3 := Holds.mk c1
    have c4 := Holds.mk c2
    have hblt : b < w.heap.size := cell_lt (p := ⟨b, off, none⟩) (by rw [c1]; rfl)
    clear hc c1 c2
    have b1 : ¬ b = w.heap.size := by omega
    have b2 : ¬ b = w.heap.size + 1 := by omega
    have b3 : ¬ w.heap.size = b := by omega
    have b4 : ¬ w.heap.size + 1 = b := by omega
    have hn0 : 0 < n := by omega
    have hlt : decide (0 < n) = true := by simp; omega
    go_enter Try.func48, Try.ntmps48
    go_wp2_with (first | (go_at_call 27; refine (H1.out _ (by repeat (first | exact Grows.refl _ | refine Grows.now ?_ _ | refine Grows.new ?_ _ | refine Grows.drewN ?_ _ | refine Grows.drew ?_ | assumption | (refine Grows.set ?_ (by first | omega | (simp; done) | (simp; omega)) _)))).mono ?_; rintro e w' ⟨rfl, hg⟩; (first | obtain ⟨x, rfl⟩ := Grows.later2 hg | obtain ⟨x, rfl⟩ := Grows.later hg); clear hg))
    have HB := hide (BoxAt.new2 w)
    go_upto_region 3 with fail
    go_cut [4, 5] (fun s4 s5 wx => ∃ ga gb, s4 = .pointer (some ⟨ga, 0, none⟩) ∧ s5 = .pointer (some ⟨gb, 0, none⟩) ∧ BoxAt w wx ga gb (gp E 0) (gp E 0) ∧ BoxAt w wx w.heap.size (w.heap.size + 1) ⟨0, 0⟩ ⟨0, 0⟩ ∧ w.heap.size + 1 < ga ∧ w.heap.size + 1 < gb)
    case first =>
      go_region
      all_goals (go_wp2_with fail; go_meet; case rel => (
        have hx := x.size
        simp only [World.size_alloc] at hx
        refine ⟨_, _, rfl, rfl, ⟨(by repeat (first | exact Grows.refl _ | refine Grows.now ?_ _ | refine Grows.new ?_ _ | refine Grows.drewN ?_ _ | refine Grows.drew ?_ | assumption | (refine Grows.set ?_ (by first | omega | (simp; done) | (simp; omega)) _))), by omega, by omega, by omega, inferInstance, inferInstance, inferInstance, inferInstance⟩, (((HB.out.now x).alloc _).alloc _).drew, by omega, by omega⟩))
    case rest =>
      obtain ⟨ga, gb, rfl, rfl, hB, hR, hga, hgb⟩ := hcut
      have HB2 := hide hB
      have HR2 := hide hR
      clear hB hR HB
      go_wp2
      go_loopw [6] (fun i wr => ∃ k : Nat, k ≤ n ∧ i = .int .i64 (k : Int) ∧ BoxAt w wr ga gb (bxI E k).1 (bxI E k).2 ∧ BoxAt w wr w.heap.size (w.heap.size + 1) ⟨0, 0⟩ ⟨0, 0⟩) (fun i _ => n - (intOf i).toNat)
      case atStart => exact ⟨0, by omega, by go_num, HB2.out, HR2.out⟩
      case round =>
        obtain ⟨k, hk, rfl, hb, hr⟩ := hrel
        have HB := hide hb
        have HS := hide hr
        by_cases hend : n ≤ k
        · have hkm : k = n := by omega
          subst hkm
          obtain ⟨hg, _, _, hab, a1, a2, a3, a4⟩ := hb
          obtain ⟨_, _, _, _, e1, e2, e3, e4⟩ := hr
          have z1 : ¬ w.heap.size = ga := by omega
          have z2 : ¬ w.heap.size = gb := by omega
          have z3 : ¬ w.heap.size + 1 = ga := by omega
          have z4 : ¬ w.heap.size + 1 = gb := by omega
          have z5 : ¬ ga = w.heap.size := by omega
          have z6 : ¬ gb = w.heap.size := by omega
          have z7 : ¬ ga = w.heap.size + 1 := by omega
          have z8 : ¬ gb = w.heap.size + 1 := by omega
          go_wp2
          go_region
          all_goals go_wp2
          all_goals refine bodyPost_ret (v := .tuple #[.agg #[.int .i64 (bxI E k).1.x, .int .i64 (bxI E k).1.y], .agg #[.int .i64 (bxI E k).2.x, .int .i64 (bxI E k).2.y]]) (by simp (maxDischargeDepth := 6) [results, Try.results48, go_sem, *]) rfl ⟨by rw [HW.out]; rfl, ?_⟩
          all_goals exact ((((HS.out.ax (bxI E k).1.x).ay (bxI E k).1.y).bx (bxI E k).2.x).by_ (bxI E k).2.y).drew.1
        · obtain ⟨d1, d2⟩ := HC.out k (by omega)
          clear hb hr c3 c4
          have hbx : Hid (bxI E (k + 1) = (⟨lsI (bxI E k).1.x (gp E k).x, lsI (bxI E k).1.y (gp E k).y⟩, ⟨grI (bxI E k).2.x (gp E k).x, grI (bxI E k).2.y (gp E k).y⟩)) := rfl
          generalize (bxI E k).1 = P at *
          generalize (bxI E k).2 = Q at *
          go_upto_region 7 with fail
          go_cut [] (fun wx => BoxAt w wx ga gb ⟨lsI P.x (gp E k).x, P.y⟩ Q ∧ BoxAt w wx w.heap.size (w.heap.size + 1) ⟨0, 0⟩ ⟨0, 0⟩)
          case first =>
            obtain ⟨hg, _, _, hab, a1, a2, a3, a4⟩ := HB.out
            have d3 := Holds.mk (hg.keeps d1)
            have d4 := Holds.mk (hg.keeps d2)
            go_region
            all_goals go_wp2_with fail
            all_goals (go_meet; case rel => exact ⟨by first | (rw [show lsI P.x (gp E k).x = (gp E k).x by unfold lsI; split <;> omega]; exact (HB.out.ax _).drew) | (rw [show lsI P.x (gp E k).x = P.x by unfold lsI; split <;> omega]; exact (HB.out.ax _).drew), (HS.out.off _ _ (by omega) (by omega) (by omega)).drew⟩)
          case rest =>
          have HB := hide hcut.1
          have HS := hide hcut.2
          clear hcut
          go_upto_region 8 with fail
          go_cut [] (fun wx => BoxAt w wx ga gb ⟨lsI P.x (gp E k).x, lsI P.y (gp E k).y⟩ Q ∧ BoxAt w wx w.heap.size (w.heap.size + 1) ⟨0, 0⟩ ⟨0, 0⟩)
          case first =>
            obtain ⟨hg, _, _, hab, a1, a2, a3, a4⟩ := HB.out
            have d3 := Holds.mk (hg.keeps d1)
            have d4 := Holds.mk (hg.keeps d2)
            go_region
            all_goals go_wp2_with fail
            all_goals (go_meet; case rel => exact ⟨by first | (rw [show lsI P.y (gp E k).y = (gp E k).y by unfold lsI; split <;> omega]; exact (HB.out.ay _).drew) | (rw [show lsI P.y (gp E k).y = P.y by unfold lsI; split <;> omega]; exact (HB.out.ay _).drew), (HS.out.off _ _ (by omega) (by omega) (by omega)).drew⟩)
          case rest =>
          have HB := hide hcut.1
          have HS := hide hcut.2
          clear hcut
          go_upto_region 9 with fail
          go_cut [] (fun wx => BoxAt w wx ga gb ⟨lsI P.x (gp E k).x, lsI P.y (gp E k).y⟩ ⟨grI Q.x (gp E k).x, Q.y⟩ ∧ BoxAt w wx w.heap.size (w.heap.size + 1) ⟨0, 0⟩ ⟨0, 0⟩)
          case first =>
            obtain ⟨hg, _, _, hab, a1, a2, a3, a4⟩ := HB.out
            have d3 := Holds.mk (hg.keeps d1)
            have d4 := Holds.mk (hg.keeps d2)
            go_region
            all_goals go_wp2_with fail
            all_goals (go_meet; case rel => exact ⟨by first | (rw [show grI Q.x (gp E k).x = (gp E k).x by unfold grI; split <;> omega]; exact (HB.out.bx _).drew) | (rw [show grI Q.x (gp E k).x = Q.x by unfold grI; split <;> omega]; exact (HB.out.bx _).drew), (HS.out.off _ _ (by omega) (by omega) (by omega)).drew⟩)
          case rest =>
          have HB := hide hcut.1
          have HS := hide hcut.2
          clear hcut
          obtain ⟨hg, _, _, hab, a1, a2, a3, a4⟩ := HB.out
          have d3 := Holds.mk (hg.keeps d1)
          have d4 := Holds.mk (hg.keeps d2)
          go_upto_region 10 with fail
          go_region
          all_goals go_wp2
          all_goals refine ⟨⟨k + 1, by omega, by go_num, ?_, (HS.out.off _ _ (by omega) (by omega) (by omega)).drew⟩, by simp [intOf]; omega⟩
          all_goals rw [hbx.out]
          all_goals show BoxAt _ _ _ _ ⟨lsI P.x (gp E k).x, lsI P.y (gp E k).y⟩ ⟨grI Q.x (gp E k).x, grI Q.y (gp E k).y⟩
          all_goals exact (HB.out.by_ _).drew
end Go.Proofs.Ytaoodmioehkebaa
