/- Contracts: how much an edge weighs at least for each step. -/
import Derived.Test.YtaoodmioehkebaaNear
import Derived.Test.YtaoodmioehkebaaRef05
namespace Go.Proofs.Ytaoodmioehkebaa
open Go Go.RowKit
noncomputable def crI (L : List Pl) (e : Edg) : Int := rootV (sqV (gp L e.f.toNat).x (gp L e.f.toNat).y (gp L e.t.toNat).x (gp L e.t.toNat).y)
noncomputable def bdI (L : List Pl) (E : List Edg) : Nat → Int
  | 0 => 1024
  | k + 1 => if 0 < crI L (ge E k) then min (bdI L E k) ((ge E k).w / crI L (ge E k)) else bdI L E k
theorem bdI_succ (L : List Pl) (E : List Edg) (k : Nat) : bdI L E (k + 1) = if 0 < crI L (ge E k) then min (bdI L E k) ((ge E k).w / crI L (ge E k)) else bdI L E k := rfl
noncomputable def boundI (N : Int) (E : List Edg) (L : List Pl) : Int := if rightF N E ≠ 0 ∨ (L.length : Int) ≠ N ∨ L.all okP = false then 0 else bdI L E E.length
theorem loose_at {N : Int} {E : List Edg} {k m : Nat} (h : rightF N E = 0) (hm : m ≤ E.length) (hk : k < m) : nodeB N (ge E k).f = true ∧ nodeB N (ge E k).t = true := by
  have ha : E.any (looseB N) = false := by
    cases hh : E.any (looseB N) with
    | false => rfl
    | true =>
      unfold rightF at h
      rw [hh] at h
      split at h
      · cases h
      · split at h
        · cases h
        · cases h
  rw [List.any_eq_false] at ha
  have he : ge E k ∈ E := by
    unfold ge
    rw [List.getD_eq_getElem?_getD, List.getElem?_eq_getElem (by omega)]
    exact List.getElem_mem _
  have := ha _ he
  unfold looseB at this
  simp only [Bool.not_eq_true, Bool.or_eq_false_iff, Bool.not_eq_false'] at this
  exact ⟨this.1, this.2.1⟩
set_option maxRecDepth 20000 in
set_option maxHeartbeats 2000000 in
theorem plBound (N : Int) (A : Option Addr) (m c : Nat) (E : List Edg) (B : Option Addr) (n d : Nat) (L : List Pl) (w : World) (h : Rd w A 3 m (esCells E)) (hm : m ≤ 1000000) (h' : Rd w B 2 n (psCells L)) (hn : n ≤ 1000000) (hw : ∀ k, k < m → U64 (ge E k).w) :
    Calls Try.prog 49 #[.agg #[.int .i64 N, .slice A m c], .slice B n d] w fun e w' => e = .returned (.int .u64 (boundI N E L)) ∧ Grows w w' := by
  have HL := hide h.elen
  have HP := hide h'.plen
  have C1 := fun (W : World) (g : Grows w W) => gRight N A m c E W (h.grows g) hm
  have C2 := fun W (g : Grows w W) => plRight B n d L W (h'.grows g) hn
  have hR := (Grows.refl w).new (.cells #[.int .i64 N, .slice A m c] 47)
  have HR := hide (h.grows hR)
  have HS := hide (h'.grows hR)
  have HU := hide hw
  clear h h' hR hw
  by_cases h0 : rightF N E = 0
  · rw [h0] at C1
    have H1 := hide C1
    clear C1
    by_cases h1 : (n : Int) = N
    · cases h2 : L.all okP with
      | false =>
        have HW : Hid (boundI N E L = 0) := by unfold boundI; exact if_pos (.inr (.inr h2))
        rw [h2] at C2
        have H2 := hide C2
        have hd : ((n : Int) == N) = true := by simpa using h1
        clear C2 h2 h0
        go_enter Try.func49, Try.ntmps49
        go_wp2_with (first | (go_at_call 81; refine (H1.out _ (by repeat (first | exact Grows.refl _ | refine Grows.now ?_ _ | refine Grows.new ?_ _ | refine Grows.drewN ?_ _ | refine Grows.drew ?_ | assumption | (refine Grows.set ?_ (by first | omega | (simp; done) | (simp; omega)) _)))).mono ?_; rintro e w' ⟨rfl, hg⟩; (first | obtain ⟨x, rfl⟩ := Grows.later2 hg | obtain ⟨x, rfl⟩ := Grows.later hg); clear hg) | (go_at_call 41; refine (H2.out _ (by repeat (first | exact Grows.refl _ | refine Grows.now ?_ _ | refine Grows.new ?_ _ | refine Grows.drewN ?_ _ | refine Grows.drew ?_ | assumption | (refine Grows.set ?_ (by first | omega | (simp; done) | (simp; omega)) _)))).mono ?_; rintro e w' ⟨rfl, hg⟩; (first | obtain ⟨x, rfl⟩ := Grows.later2 hg | obtain ⟨x, rfl⟩ := Grows.later hg); clear hg))
        go_ret
        exact ⟨ret_int HW.out.symm, (by repeat (first | exact Grows.refl _ | refine Grows.now ?_ _ | refine Grows.new ?_ _ | refine Grows.drewN ?_ _ | refine Grows.drew ?_ | assumption | (refine Grows.set ?_ (by first | omega | (simp; done) | (simp; omega)) _)))⟩
      | true =>
        have HW : Hid (boundI N E L = bdI L E m) := by unfold boundI; rw [if_neg (by rw [h0, h2, HP.out]; simp; omega), HL.out]; exact rfl
        rw [h2] at C2
        have H2 := hide C2
        have HN := hide (show ∀ k, k < m → nodeB N (ge E k).f = true ∧ nodeB N (ge E k).t = true from fun k hk => by
          have := loose_at h0 (by have := HL.out; omega) hk
          exact this)
        clear C2 h2 h0
        subst h1
        have k0 : (w.alloc (.cells #[.int .i64 (n : Int), .slice A m c] 47)).cell? ⟨w.heap.size, 0, none⟩ = some (.int .i64 n) := by simp [go_sem]
        have k1 : (w.alloc (.cells #[.int .i64 (n : Int), .slice A m c] 47)).cell? ⟨w.heap.size, 1, none⟩ = some (.slice A m c) := by simp [go_sem]
        go_enter Try.func49, Try.ntmps49
        go_wp2_with (first | (go_at_call 81; refine (H1.out _ (by repeat (first | exact Grows.refl _ | refine Grows.now ?_ _ | refine Grows.new ?_ _ | refine Grows.drewN ?_ _ | refine Grows.drew ?_ | assumption | (refine Grows.set ?_ (by first | omega | (simp; done) | (simp; omega)) _)))).mono ?_; rintro e w' ⟨rfl, hg⟩; (first | obtain ⟨x, rfl⟩ := Grows.later2 hg | obtain ⟨x, rfl⟩ := Grows.later hg); clear hg) | (go_at_call 41; refine (H2.out _ (by repeat (first | exact Grows.refl _ | refine Grows.now ?_ _ | refine Grows.new ?_ _ | refine Grows.drewN ?_ _ | refine Grows.drew ?_ | assumption | (refine Grows.set ?_ (by first | omega | (simp; done) | (simp; omega)) _)))).mono ?_; rintro e w' ⟨rfl, hg⟩; (first | obtain ⟨x, rfl⟩ := Grows.later2 hg | obtain ⟨x, rfl⟩ := Grows.later hg); clear hg))
        go_loopw [27, 5] (fun i b wr => ∃ k : Nat, k ≤ m ∧ i = .int .i64 (k : Int) ∧ b = .int .u64 (bdI L E k) ∧ ∃ y : Later (w.alloc (.cells #[.int .i64 (n : Int), .slice A m c] 47)), wr = y.now) (fun i _ _ => m - (intOf i).toNat)
        case atStart => exact ⟨0, by omega, by go_num, rfl, _, rfl⟩
        case round =>
          obtain ⟨q, hq, rfl, rfl, y, rfl⟩ := hrel
          by_cases hend : m ≤ q
          · have hqn : q = m := by omega
            subst hqn
            go_wp2
            go_ret
            exact ⟨ret_int HW.out.symm, (by repeat (first | exact Grows.refl _ | refine Grows.now ?_ _ | refine Grows.new ?_ _ | refine Grows.drewN ?_ _ | refine Grows.drew ?_ | assumption | (refine Grows.set ?_ (by first | omega | (simp; done) | (simp; omega)) _)))⟩
          · obtain ⟨b, off, rfl, hc⟩ := HR.out.edges (by omega)
            obtain ⟨hc1, hc2, hc3⟩ := hc q (by omega)
            clear hc
            have hnd := HN.out q (by omega)
            unfold nodeB at hnd
            simp only [decide_eq_true_eq] at hnd
            obtain ⟨⟨f0, f1⟩, t0, t1⟩ := hnd
            have hU := HU.out q (by omega)
            obtain ⟨u0, u1⟩ := hU
            have C3 := fun W => plCrow (gp L (ge E q).f.toNat).x (gp L (ge E q).f.toNat).y (gp L (ge E q).t.toNat).x (gp L (ge E q).t.toNat).y W
            have e1 : rootV (sqV (gp L (ge E q).f.toNat).x (gp L (ge E q).f.toNat).y (gp L (ge E q).t.toNat).x (gp L (ge E q).t.toNat).y) = crI L (ge E q) := rfl
            rw [e1] at C3
            have HB := hide (bdI_succ L E q)
            obtain ⟨b', off', rfl, hc⟩ := HS.out.places (by omega)
            generalize ge E q = e at *
            obtain ⟨ef, et, ew⟩ := e
            dsimp only at *
            obtain ⟨F, rfl⟩ := Int.eq_ofNat_of_zero_le f0
            obtain ⟨T, rfl⟩ := Int.eq_ofNat_of_zero_le t0
            simp only [Int.toNat_natCast] at C3
            obtain ⟨p1, p2⟩ := hc F (by omega)
            obtain ⟨p3, p4⟩ := hc T (by omega)
            clear hc
            generalize crI L ⟨(F : Int), (T : Int), ew⟩ = cr at *
            have H3 := hide C3
            have G := y.grows.new (.cells #[.int .i64 (F : Int), .int .i64 (T : Int), .int .u64 ew] 90)
            have g1 := G.keeps p1
            have g2 := G.keeps p2
            have g3 := G.keeps p3
            have g4 := G.keeps p4
            clear G C3 e1 p1 p2 p3 p4
            by_cases hcr : 0 < cr
            · go_wp2_with fail
              ((first | refine wp_region_gen2 (by kernel_rfl) (by kernel_rfl) ?_ | refine wp_region_gen (by kernel_rfl) (by kernel_rfl) ?_); (repeat' (first | (refine gLex_val0 rfl (by kernel_rfl) (fun K hK => ?_); (go_simp; (try (simp only [↓IntWalk.iteOmega]; try go_simp)); (try simp (disch := omega) only [IntWalk.i64_in]); (try simp (disch := omega) only [IntWalk.u64_in]); first | (refine hK _ ?_; clear hK K) | (apply Exists.intro; refine ⟨fun x => ?_, hK _ ?_⟩; (first | (go_at_call 21; exact H3.out _)); clear hK K))) | (refine gLex_undef rfl rfl rfl (by kernel_rfl) (fun K hK => ?_); go_simp; refine hK _ ?_; clear hK K) | (refine gLex_ask rfl rfl rfl ?_; first | (apply gAsk_yes; kernel_rfl; intro K hK; (go_simp; (try (simp only [↓IntWalk.iteOmega]; try go_simp)); (try simp (disch := omega) only [IntWalk.i64_in]); (try simp (disch := omega) only [IntWalk.u64_in]); first | (refine hK _ ?_; clear hK K) | (apply Exists.intro; refine ⟨fun x => ?_, hK _ ?_⟩; (first | (go_at_call 21; exact H3.out _)); clear hK K))) | ((first | apply gAsk_no1 | apply gAsk_no2); kernel_rfl; intro K hK; simp [go_sem]; refine hK _ ?_; clear hK K) | (apply gAsk_part; kernel_rfl; all_goals (intro h K hK; (try simp only [Bool.not_true] at h); (try simp only [Bool.not_false] at h); (try simp only [decide_eq_true_eq] at h); (try simp only [decide_eq_false_iff_not] at h); first | (exfalso; first | contradiction | omega) | (go_simp; (try (simp only [↓IntWalk.iteOmega]; try go_simp)); (try simp (disch := omega) only [IntWalk.i64_in]); (try simp (disch := omega) only [IntWalk.u64_in]); first | (refine hK _ ?_; clear hK K) | (apply Exists.intro; refine ⟨fun x => ?_, hK _ ?_⟩; (first | (go_at_call 21; exact H3.out _)); clear hK K))))))); all_goals ((apply gLex_end); intro x))
              go_wp2
              exact ⟨⟨q + 1, by omega, by go_num, congrArg (Value.int .u64) (by rw [HB.out, if_pos hcr, Int.min_def]; generalize ew / cr = t; (repeat' split) <;> omega), Grows.later (by repeat (first | exact Grows.refl _ | refine Grows.now ?_ _ | refine Grows.new ?_ _ | refine Grows.drewN ?_ _ | refine Grows.drew ?_ | assumption | (refine Grows.set ?_ (by first | omega | (simp; done) | (simp; omega)) _)))⟩, by simp [intOf]; omega⟩
            · have hcd : decide (0 < cr) = false := decide_eq_false hcr
              go_wp2_with fail
              ((first | refine wp_region_gen2 (by kernel_rfl) (by kernel_rfl) ?_ | refine wp_region_gen (by kernel_rfl) (by kernel_rfl) ?_); (repeat' (first | (refine gLex_val0 rfl (by kernel_rfl) (fun K hK => ?_); (go_simp; (try (simp only [↓IntWalk.iteOmega]; try go_simp)); (try simp (disch := omega) only [IntWalk.i64_in]); (try simp (disch := omega) only [IntWalk.u64_in]); first | (refine hK _ ?_; clear hK K) | (apply Exists.intro; refine ⟨fun x => ?_, hK _ ?_⟩; (first | (go_at_call 21; exact H3.out _)); clear hK K))) | (refine gLex_undef rfl rfl rfl (by kernel_rfl) (fun K hK => ?_); go_simp; refine hK _ ?_; clear hK K) | (refine gLex_ask rfl rfl rfl ?_; first | (apply gAsk_yes; kernel_rfl; intro K hK; (go_simp; (try (simp only [↓IntWalk.iteOmega]; try go_simp)); (try simp (disch := omega) only [IntWalk.i64_in]); (try simp (disch := omega) only [IntWalk.u64_in]); first | (refine hK _ ?_; clear hK K) | (apply Exists.intro; refine ⟨fun x => ?_, hK _ ?_⟩; (first | (go_at_call 21; exact H3.out _)); clear hK K))) | ((first | apply gAsk_no1 | apply gAsk_no2); kernel_rfl; intro K hK; simp [go_sem]; refine hK _ ?_; clear hK K) | (apply gAsk_part; kernel_rfl; all_goals (intro h K hK; (try simp only [Bool.not_true] at h); (try simp only [Bool.not_false] at h); (try simp only [decide_eq_true_eq] at h); (try simp only [decide_eq_false_iff_not] at h); first | (exfalso; first | contradiction | omega) | (go_simp; (try (simp only [↓IntWalk.iteOmega]; try go_simp)); (try simp (disch := omega) only [IntWalk.i64_in]); (try simp (disch := omega) only [IntWalk.u64_in]); first | (refine hK _ ?_; clear hK K) | (apply Exists.intro; refine ⟨fun x => ?_, hK _ ?_⟩; (first | (go_at_call 21; exact H3.out _)); clear hK K))))))); all_goals ((apply gLex_end); intro x))
              go_wp2
              exact ⟨⟨q + 1, by omega, by go_num, congrArg (Value.int .u64) (by rw [HB.out, if_neg (Int.not_lt.2 hcr)]), Grows.later (by repeat (first | exact Grows.refl _ | refine Grows.now ?_ _ | refine Grows.new ?_ _ | refine Grows.drewN ?_ _ | refine Grows.drew ?_ | assumption | (refine Grows.set ?_ (by first | omega | (simp; done) | (simp; omega)) _)))⟩, by simp [intOf]; omega⟩
    · have HW : Hid (boundI N E L = 0) := by unfold boundI; exact if_pos (.inr (.inl (by rw [HP.out]; exact h1)))
      have hd : ((n : Int) == N) = false := by simpa using h1
      clear C2 h0
      go_enter Try.func49, Try.ntmps49
      go_wp2_with (first | (go_at_call 81; refine (H1.out _ (by repeat (first | exact Grows.refl _ | refine Grows.now ?_ _ | refine Grows.new ?_ _ | refine Grows.drewN ?_ _ | refine Grows.drew ?_ | assumption | (refine Grows.set ?_ (by first | omega | (simp; done) | (simp; omega)) _)))).mono ?_; rintro e w' ⟨rfl, hg⟩; (first | obtain ⟨x, rfl⟩ := Grows.later2 hg | obtain ⟨x, rfl⟩ := Grows.later hg); clear hg))
      go_ret
      exact ⟨ret_int HW.out.symm, (by repeat (first | exact Grows.refl _ | refine Grows.now ?_ _ | refine Grows.new ?_ _ | refine Grows.drewN ?_ _ | refine Grows.drew ?_ | assumption | (refine Grows.set ?_ (by first | omega | (simp; done) | (simp; omega)) _)))⟩
  · have HW : Hid (boundI N E L = 0) := by unfold boundI; exact if_pos (.inl h0)
    have hd : (rightF N E == 0) = false := by simpa using h0
    have H1 := hide C1
    clear C1 C2
    go_enter Try.func49, Try.ntmps49
    go_wp2_with (first | (go_at_call 81; refine (H1.out _ (by repeat (first | exact Grows.refl _ | refine Grows.now ?_ _ | refine Grows.new ?_ _ | refine Grows.drewN ?_ _ | refine Grows.drew ?_ | assumption | (refine Grows.set ?_ (by first | omega | (simp; done) | (simp; omega)) _)))).mono ?_; rintro e w' ⟨rfl, hg⟩; (first | obtain ⟨x, rfl⟩ := Grows.later2 hg | obtain ⟨x, rfl⟩ := Grows.later hg); clear hg))
    all_goals first | (exfalso; contradiction) | skip
    all_goals go_ret
    all_goals exact ⟨ret_int HW.out.symm, (by repeat (first | exact Grows.refl _ | refine Grows.now ?_ _ | refine Grows.new ?_ _ | refine Grows.drewN ?_ _ | refine Grows.drew ?_ | assumption | (refine Grows.set ?_ (by first | omega | (simp; done) | (simp; omega)) _)))⟩
set_option maxRecDepth 20000 in
set_option maxHeartbeats 2000000 in
theorem r9Bound (N : Int) (A : Option Addr) (m c : Nat) (E : List Edg) (B : Option Addr) (n d : Nat) (L : List Pl) (w : World) (h : Rd w A 3 m (esCells E)) (hm : m ≤ 1000000) (h' : Rd w B 2 n (psCells L)) (hn : n ≤ 1000000) (hw : ∀ k, k < m → U64 (ge E k).w) :
    Calls Try.prog 50 #[.agg #[.int .i64 N, .slice A m c], .slice B n d] w fun e w' => e = .returned (.int .u64 (boundI N E L)) ∧ Grows w w' := by
  have HL := hide h.elen
  have HP := hide h'.plen
  have C1 := fun (W : World) (g : Grows w W) => r5Right N A m c E W (h.grows g) hm
  have C2 := fun W (g : Grows w W) => r9Right B n d L W (h'.grows g) hn
  have hR := (Grows.refl w).new (.cells #[.int .i64 N, .slice A m c] 47)
  have HR := hide (h.grows hR)
  have HS := hide (h'.grows hR)
  have HU := hide hw
  clear h h' hR hw
  by_cases h0 : rightF N E = 0
  · rw [h0] at C1
    have H1 := hide C1
    clear C1
    by_cases h1 : (n : Int) = N
    · cases h2 : L.all okP with
      | false =>
        have HW : Hid (boundI N E L = 0) := by unfold boundI; exact if_pos (.inr (.inr h2))
        rw [h2] at C2
        have H2 := hide C2
        have hd : ((n : Int) == N) = true := by simpa using h1
        clear C2 h2 h0
        go_enter Try.func50, Try.ntmps50
        go_wp2_with (first | (go_at_call 82; refine (H1.out _ (by repeat (first | exact Grows.refl _ | refine Grows.now ?_ _ | refine Grows.new ?_ _ | refine Grows.drewN ?_ _ | refine Grows.drew ?_ | assumption | (refine Grows.set ?_ (by first | omega | (simp; done) | (simp; omega)) _)))).mono ?_; rintro e w' ⟨rfl, hg⟩; (first | obtain ⟨x, rfl⟩ := Grows.later2 hg | obtain ⟨x, rfl⟩ := Grows.later hg); clear hg) | (go_at_call 27; refine (H2.out _ (by repeat (first | exact Grows.refl _ | refine Grows.now ?_ _ | refine Grows.new ?_ _ | refine Grows.drewN ?_ _ | refine Grows.drew ?_ | assumption | (refine Grows.set ?_ (by first | omega | (simp; done) | (simp; omega)) _)))).mono ?_; rintro e w' ⟨rfl, hg⟩; (first | obtain ⟨x, rfl⟩ := Grows.later2 hg | obtain ⟨x, rfl⟩ := Grows.later hg); clear hg))
        go_ret
        exact ⟨ret_int HW.out.symm, (by repeat (first | exact Grows.refl _ | refine Grows.now ?_ _ | refine Grows.new ?_ _ | refine Grows.drewN ?_ _ | refine Grows.drew ?_ | assumption | (refine Grows.set ?_ (by first | omega | (simp; done) | (simp; omega)) _)))⟩
      | true =>
        have HW : Hid (boundI N E L = bdI L E m) := by unfold boundI; rw [if_neg (by rw [h0, h2, HP.out]; simp; omega), HL.out]; exact rfl
        rw [h2] at C2
        have H2 := hide C2
        have HN := hide (show ∀ k, k < m → nodeB N (ge E k).f = true ∧ nodeB N (ge E k).t = true from fun k hk => by
          have := loose_at h0 (by have := HL.out; omega) hk
          exact this)
        clear C2 h2 h0
        subst h1
        have k0 : (w.alloc (.cells #[.int .i64 (n : Int), .slice A m c] 47)).cell? ⟨w.heap.size, 0, none⟩ = some (.int .i64 n) := by simp [go_sem]
        have k1 : (w.alloc (.cells #[.int .i64 (n : Int), .slice A m c] 47)).cell? ⟨w.heap.size, 1, none⟩ = some (.slice A m c) := by simp [go_sem]
        go_enter Try.func50, Try.ntmps50
        go_wp2_with (first | (go_at_call 82; refine (H1.out _ (by repeat (first | exact Grows.refl _ | refine Grows.now ?_ _ | refine Grows.new ?_ _ | refine Grows.drewN ?_ _ | refine Grows.drew ?_ | assumption | (refine Grows.set ?_ (by first | omega | (simp; done) | (simp; omega)) _)))).mono ?_; rintro e w' ⟨rfl, hg⟩; (first | obtain ⟨x, rfl⟩ := Grows.later2 hg | obtain ⟨x, rfl⟩ := Grows.later hg); clear hg) | (go_at_call 27; refine (H2.out _ (by repeat (first | exact Grows.refl _ | refine Grows.now ?_ _ | refine Grows.new ?_ _ | refine Grows.drewN ?_ _ | refine Grows.drew ?_ | assumption | (refine Grows.set ?_ (by first | omega | (simp; done) | (simp; omega)) _)))).mono ?_; rintro e w' ⟨rfl, hg⟩; (first | obtain ⟨x, rfl⟩ := Grows.later2 hg | obtain ⟨x, rfl⟩ := Grows.later hg); clear hg))
        go_loopw [6, 5] (fun i b wr => ∃ k : Nat, k ≤ m ∧ i = .int .i64 (k : Int) ∧ b = .int .u64 (bdI L E k) ∧ ∃ y : Later (w.alloc (.cells #[.int .i64 (n : Int), .slice A m c] 47)), wr = y.now) (fun i _ _ => m - (intOf i).toNat)
        case atStart => exact ⟨0, by omega, by go_num, rfl, _, rfl⟩
        case round =>
          obtain ⟨q, hq, rfl, rfl, y, rfl⟩ := hrel
          by_cases hend : m ≤ q
          · have hqn : q = m := by omega
            subst hqn
            go_wp2
            go_ret
            exact ⟨ret_int HW.out.symm, (by repeat (first | exact Grows.refl _ | refine Grows.now ?_ _ | refine Grows.new ?_ _ | refine Grows.drewN ?_ _ | refine Grows.drew ?_ | assumption | (refine Grows.set ?_ (by first | omega | (simp; done) | (simp; omega)) _)))⟩
          · obtain ⟨b, off, rfl, hc⟩ := HR.out.edges (by omega)
            obtain ⟨hc1, hc2, hc3⟩ := hc q (by omega)
            clear hc
            have hnd := HN.out q (by omega)
            unfold nodeB at hnd
            simp only [decide_eq_true_eq] at hnd
            obtain ⟨⟨f0, f1⟩, t0, t1⟩ := hnd
            have hU := HU.out q (by omega)
            obtain ⟨u0, u1⟩ := hU
            have C3 := fun W => r9Crow (gp L (ge E q).f.toNat).x (gp L (ge E q).f.toNat).y (gp L (ge E q).t.toNat).x (gp L (ge E q).t.toNat).y W
            have e1 : rootV (sqV (gp L (ge E q).f.toNat).x (gp L (ge E q).f.toNat).y (gp L (ge E q).t.toNat).x (gp L (ge E q).t.toNat).y) = crI L (ge E q) := rfl
            rw [e1] at C3
            have HB := hide (bdI_succ L E q)
            obtain ⟨b', off', rfl, hc⟩ := HS.out.places (by omega)
            generalize ge E q = e at *
            obtain ⟨ef, et, ew⟩ := e
            dsimp only at *
            obtain ⟨F, rfl⟩ := Int.eq_ofNat_of_zero_le f0
            obtain ⟨T, rfl⟩ := Int.eq_ofNat_of_zero_le t0
            simp only [Int.toNat_natCast] at C3
            obtain ⟨p1, p2⟩ := hc F (by omega)
            obtain ⟨p3, p4⟩ := hc T (by omega)
            clear hc
            generalize crI L ⟨(F : Int), (T : Int), ew⟩ = cr at *
            have H3 := hide C3
            clear C3 e1
            by_cases hcr : 0 < cr
            · go_wp2_with fail
              ((first | refine wp_region_gen2 (by kernel_rfl) (by kernel_rfl) ?_ | refine wp_region_gen (by kernel_rfl) (by kernel_rfl) ?_); (repeat' (first | (refine gLex_val0 rfl (by kernel_rfl) (fun K hK => ?_); (go_simp; (try (simp only [↓IntWalk.iteOmega]; try go_simp)); (try simp (disch := omega) only [IntWalk.i64_in]); (try simp (disch := omega) only [IntWalk.u64_in]); first | (refine hK _ ?_; clear hK K) | (apply Exists.intro; refine ⟨fun x => ?_, hK _ ?_⟩; (first | (go_at_call 22; exact H3.out _)); clear hK K))) | (refine gLex_undef rfl rfl rfl (by kernel_rfl) (fun K hK => ?_); go_simp; refine hK _ ?_; clear hK K) | (refine gLex_ask rfl rfl rfl ?_; first | (apply gAsk_yes; kernel_rfl; intro K hK; (go_simp; (try (simp only [↓IntWalk.iteOmega]; try go_simp)); (try simp (disch := omega) only [IntWalk.i64_in]); (try simp (disch := omega) only [IntWalk.u64_in]); first | (refine hK _ ?_; clear hK K) | (apply Exists.intro; refine ⟨fun x => ?_, hK _ ?_⟩; (first | (go_at_call 22; exact H3.out _)); clear hK K))) | ((first | apply gAsk_no1 | apply gAsk_no2); kernel_rfl; intro K hK; simp [go_sem]; refine hK _ ?_; clear hK K) | (apply gAsk_part; kernel_rfl; all_goals (intro h K hK; (try simp only [Bool.not_true] at h); (try simp only [Bool.not_false] at h); (try simp only [decide_eq_true_eq] at h); (try simp only [decide_eq_false_iff_not] at h); first | (exfalso; first | contradiction | omega) | (go_simp; (try (simp only [↓IntWalk.iteOmega]; try go_simp)); (try simp (disch := omega) only [IntWalk.i64_in]); (try simp (disch := omega) only [IntWalk.u64_in]); first | (refine hK _ ?_; clear hK K) | (apply Exists.intro; refine ⟨fun x => ?_, hK _ ?_⟩; (first | (go_at_call 22; exact H3.out _)); clear hK K))))))); all_goals ((apply gLex_end); intro x))
              go_wp2
              exact ⟨⟨q + 1, by omega, by go_num, congrArg (Value.int .u64) (by rw [HB.out, if_pos hcr, Int.min_def]; generalize ew / cr = t; (repeat' split) <;> omega), Grows.later (by repeat (first | exact Grows.refl _ | refine Grows.now ?_ _ | refine Grows.new ?_ _ | refine Grows.drewN ?_ _ | refine Grows.drew ?_ | assumption | (refine Grows.set ?_ (by first | omega | (simp; done) | (simp; omega)) _)))⟩, by simp [intOf]; omega⟩
            · have hcd : decide (0 < cr) = false := decide_eq_false hcr
              go_wp2_with fail
              ((first | refine wp_region_gen2 (by kernel_rfl) (by kernel_rfl) ?_ | refine wp_region_gen (by kernel_rfl) (by kernel_rfl) ?_); (repeat' (first | (refine gLex_val0 rfl (by kernel_rfl) (fun K hK => ?_); (go_simp; (try (simp only [↓IntWalk.iteOmega]; try go_simp)); (try simp (disch := omega) only [IntWalk.i64_in]); (try simp (disch := omega) only [IntWalk.u64_in]); first | (refine hK _ ?_; clear hK K) | (apply Exists.intro; refine ⟨fun x => ?_, hK _ ?_⟩; (first | (go_at_call 22; exact H3.out _)); clear hK K))) | (refine gLex_undef rfl rfl rfl (by kernel_rfl) (fun K hK => ?_); go_simp; refine hK _ ?_; clear hK K) | (refine gLex_ask rfl rfl rfl ?_; first | (apply gAsk_yes; kernel_rfl; intro K hK; (go_simp; (try (simp only [↓IntWalk.iteOmega]; try go_simp)); (try simp (disch := omega) only [IntWalk.i64_in]); (try simp (disch := omega) only [IntWalk.u64_in]); first | (refine hK _ ?_; clear hK K) | (apply Exists.intro; refine ⟨fun x => ?_, hK _ ?_⟩; (first | (go_at_call 22; exact H3.out _)); clear hK K))) | ((first | apply gAsk_no1 | apply gAsk_no2); kernel_rfl; intro K hK; simp [go_sem]; refine hK _ ?_; clear hK K) | (apply gAsk_part; kernel_rfl; all_goals (intro h K hK; (try simp only [Bool.not_true] at h); (try simp only [Bool.not_false] at h); (try simp only [decide_eq_true_eq] at h); (try simp only [decide_eq_false_iff_not] at h); first | (exfalso; first | contradiction | omega) | (go_simp; (try (simp only [↓IntWalk.iteOmega]; try go_simp)); (try simp (disch := omega) only [IntWalk.i64_in]); (try simp (disch := omega) only [IntWalk.u64_in]); first | (refine hK _ ?_; clear hK K) | (apply Exists.intro; refine ⟨fun x => ?_, hK _ ?_⟩; (first | (go_at_call 22; exact H3.out _)); clear hK K))))))); all_goals ((apply gLex_end); intro x))
              go_wp2
              exact ⟨⟨q + 1, by omega, by go_num, congrArg (Value.int .u64) (by rw [HB.out, if_neg (Int.not_lt.2 hcr)]), Grows.later (by repeat (first | exact Grows.refl _ | refine Grows.now ?_ _ | refine Grows.new ?_ _ | refine Grows.drewN ?_ _ | refine Grows.drew ?_ | assumption | (refine Grows.set ?_ (by first | omega | (simp; done) | (simp; omega)) _)))⟩, by simp [intOf]; omega⟩
    · have HW : Hid (boundI N E L = 0) := by unfold boundI; exact if_pos (.inr (.inl (by rw [HP.out]; exact h1)))
      have hd : ((n : Int) == N) = false := by simpa using h1
      clear C2 h0
      go_enter Try.func50, Try.ntmps50
      go_wp2_with (first | (go_at_call 82; refine (H1.out _ (by repeat (first | exact Grows.refl _ | refine Grows.now ?_ _ | refine Grows.new ?_ _ | refine Grows.drewN ?_ _ | refine Grows.drew ?_ | assumption | (refine Grows.set ?_ (by first | omega | (simp; done) | (simp; omega)) _)))).mono ?_; rintro e w' ⟨rfl, hg⟩; (first | obtain ⟨x, rfl⟩ := Grows.later2 hg | obtain ⟨x, rfl⟩ := Grows.later hg); clear hg))
      go_ret
      exact ⟨ret_int HW.out.symm, (by repeat (first | exact Grows.refl _ | refine Grows.now ?_ _ | refine Grows.new ?_ _ | refine Grows.drewN ?_ _ | refine Grows.drew ?_ | assumption | (refine Grows.set ?_ (by first | omega | (simp; done) | (simp; omega)) _)))⟩
  · have HW : Hid (boundI N E L = 0) := by unfold boundI; exact if_pos (.inl h0)
    have hd : (rightF N E == 0) = false := by simpa using h0
    have H1 := hide C1
    clear C1 C2
    go_enter Try.func50, Try.ntmps50
    go_wp2_with (first | (go_at_call 82; refine (H1.out _ (by repeat (first | exact Grows.refl _ | refine Grows.now ?_ _ | refine Grows.new ?_ _ | refine Grows.drewN ?_ _ | refine Grows.drew ?_ | assumption | (refine Grows.set ?_ (by first | omega | (simp; done) | (simp; omega)) _)))).mono ?_; rintro e w' ⟨rfl, hg⟩; (first | obtain ⟨x, rfl⟩ := Grows.later2 hg | obtain ⟨x, rfl⟩ := Grows.later hg); clear hg))
    all_goals first | (exfalso; contradiction) | skip
    all_goals go_ret
    all_goals exact ⟨ret_int HW.out.symm, (by repeat (first | exact Grows.refl _ | refine Grows.now ?_ _ | refine Grows.new ?_ _ | refine Grows.drewN ?_ _ | refine Grows.drew ?_ | assumption | (refine Grows.set ?_ (by first | omega | (simp; done) | (simp; omega)) _)))⟩
end Go.Proofs.Ytaoodmioehkebaa
