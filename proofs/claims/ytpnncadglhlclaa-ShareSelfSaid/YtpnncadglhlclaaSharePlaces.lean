/- Walk: at which places any way leaves others, at which stretches it goes with another one, and what all weigh together. -/
import Derived.Test.YtpnncadglhlclaaShUnion
import Derived.Test.YtpnncadglhlclaaRefStretch
import Derived.Test.YtpnncadglhlclaaLeaves
import Derived.Test.YtpnncadglhlclaaSame
import Derived.Test.YtpnncadglhlclaaShareB
import Derived.Test.YtpnncadglhlclaaOpenB
import Derived.Deep.DeepCutAuto
namespace Go.Proofs.Ytpnncadglhlclaa
open Go Go.RowKit Go.Maps
/-- Pairs as they lie: each of the two cells of each. -/
theorem Rd.pairsH {w : World} {A : Option Addr} {n : Nat} {L : List (Int × Int)} (h : Rd w A 2 n (prCells L)) (hn : 0 < n) :
    ∃ b off, A = some ⟨b, off, none⟩ ∧ ∀ k, k < n → Holds w ⟨b, off + k * 2, none⟩ (.int .i64 (L.getD k (0, 0)).1) ∧ Holds w ⟨b, off + k * 2 + 1, none⟩ (.int .i64 (L.getD k (0, 0)).2) := by
  have hl := h.1
  rw [prCells_len] at hl
  obtain ⟨b, off, e, hc⟩ := h.2 hn (by omega)
  have key : ∀ (L : List (Int × Int)) (k j : Nat), k < L.length → j < 2 → (prCells L)[k * 2 + j]? = ([Value.int .i64 (L.getD k (0, 0)).1, Value.int .i64 (L.getD k (0, 0)).2] : List Value)[j]? := by
    intro L
    induction L with
    | nil => intro k j hk; simp at hk
    | cons p L ih =>
      intro k j hk hj
      have e1 : prCells (p :: L) = [.int .i64 p.1, .int .i64 p.2] ++ prCells L := rfl
      rw [e1]
      cases k with
      | zero => rw [List.getElem?_append_left (by simp; omega)]; simp
      | succ k =>
        rw [List.getElem?_append_right (by simp; omega)]
        have := ih k j (by simpa using hk) hj
        rw [show (k + 1) * 2 + j - ([Value.int .i64 p.1, Value.int .i64 p.2] : List Value).length = k * 2 + j by simp; omega, this]
        simp
  refine ⟨b, off, e, fun k hk => ⟨⟨?_⟩, ⟨?_⟩⟩⟩
  · exact hc (k * 2 + 0) _ (by rw [key L k 0 (by omega) (by omega)]; rfl)
  · have := hc (k * 2 + 1) _ (by rw [key L k 1 (by omega) (by omega)]; rfl)
    rwa [← Nat.add_assoc] at this
set_option maxRecDepth 20000 in
theorem pair_eq (a b : Int) (W : World) : (Op.equalIn 10000 83 (.agg #[.int .i64 a, .int .i64 b]) (.agg #[.int .i64 a, .int .i64 b])).run Try.prog W = .ok true W := by
  have h1 : ∀ z : Int, ∀ w : World, (Op.equalIn 9999 3 (.int .i64 z) (.int .i64 z)).run Try.prog w = .ok true w := fun z w => by
    rw [show (9999 : Nat) = 9998 + 1 from rfl, run_equalIn_int w 9998 3 .i64 .i64 z z Try.underlying3, beq_self_eq_true]
  have hs : ∀ w : World, (Go.sizeOf 3).run Try.prog w = .ok 1 w := fun w => Try.sizeOf3 w
  rw [show (10000 : Nat) = 9999 + 1 from rfl]
  unfold Op.equalIn
  simp only [Sem.run_bind, run_underlying Try.underlying83, Result.andThen_ok, hs]
  have hp0 : ∀ w : World, (part 3 #[Value.int .i64 a, Value.int .i64 b] 0).run Try.prog w = .ok (.int .i64 a) w := fun w => by kernel_rfl
  have hp1 : ∀ w : World, (part 3 #[Value.int .i64 a, Value.int .i64 b] 1).run Try.prog w = .ok (.int .i64 b) w := fun w => by kernel_rfl
  rw [Std.Legacy.Range.forIn_eq_forIn_range']
  simp [Std.Legacy.Range.size, List.range', List.forIn_cons, h1, hp0, hp1, Sem.run_bind, Result.andThen_ok]
set_option maxRecDepth 20000 in
set_option maxHeartbeats 8000000 in
theorem sharePlacesW (N : Int) (A : Option Addr) (mg c : Nat) (E : List Edg) (B : Option Addr) (n d : Nat) (l : List Int) (B' : Option Addr) (n' d' : Nat) (R : List Row) (w : World)
    (_ : I64 N) (_ : mg ≤ c) (h : Rd w A 3 mg (esCells E)) (_ : ∀ k, k < mg → edgOk (ge E k)) (_ : n ≤ d) (ha : Rd w B 1 n (l.map (.int .i64))) (hwf : ∀ z ∈ l, (Lit.int .i64 z).wf = true) (_ : n' ≤ d') (hr : Rd w B' 1 n' (R.map rowVal)) (hR : ∀ k, k < n' → rowIn w (gr R k)) :
    Calls Try.prog 11 #[.agg #[.int .i64 N, .slice A mg c], .slice B n d, .slice B' n' d'] w fun e w' => e = .returned (.bool true) ∧ Grows w w' := by
  have hl : R.length = n' := by simpa using hr.len
  have C1 := fun W => lLight N A mg c W
  have C2 := fun W (g : Grows w W) => calls_same (lLight26 B n d B' n' d' R W (hr.grows g))
  cases h1 : lightG N mg with
  | false =>
    rw [h1] at C1
    have H1 := hide C1
    clear C1 C2 h1 h ha hr hR hl hwf
    go_enter Try.func11, Try.ntmps11
    go_wp2_with (first | (go_at_call 49; refine (H1.out _).mono ?_; rintro e w' ⟨rfl, hg⟩; (first | obtain ⟨x, rfl⟩ := Grows.later2 hg | obtain ⟨x, rfl⟩ := Grows.later hg); clear hg) | (go_at_call 51; refine (alive26 _).mono ?_; rintro e w' ⟨rfl, hg⟩; (first | obtain ⟨x, rfl⟩ := Grows.later2 hg | obtain ⟨x, rfl⟩ := Grows.later hg); clear hg))
    go_ret
    exact ⟨rfl, (by repeat (first | exact Grows.refl _ | refine Grows.now ?_ _ | refine Grows.new ?_ _ | refine Grows.drewN ?_ _ | refine Grows.drew ?_ | assumption | (refine Grows.set ?_ (by first | omega | (simp; done) | (simp; omega)) _)))⟩
  | true =>
  cases h2 : lightR n R with
  | false =>
    rw [h1] at C1
    rw [h2] at C2
    have H1 := hide C1
    have H2 := hide C2
    clear C1 C2 h1 h2 h ha hr hR hl hwf
    go_enter Try.func11, Try.ntmps11
    go_wp2_with (first | (go_at_call 49; refine (H1.out _).mono ?_; rintro e w' ⟨rfl, hg⟩; (first | obtain ⟨x, rfl⟩ := Grows.later2 hg | obtain ⟨x, rfl⟩ := Grows.later hg); clear hg) | (go_at_call 50; refine (H2.out _ (by repeat (first | exact Grows.refl _ | refine Grows.now ?_ _ | refine Grows.new ?_ _ | refine Grows.drewN ?_ _ | refine Grows.drew ?_ | assumption | (refine Grows.set ?_ (by first | omega | (simp; done) | (simp; omega)) _)))).mono ?_; rintro e w' ⟨rfl, hg⟩; (first | obtain ⟨x, rfl⟩ := Grows.later2 hg | obtain ⟨x, rfl⟩ := Grows.later hg); clear hg) | (go_at_call 51; refine (alive26 _).mono ?_; rintro e w' ⟨rfl, hg⟩; (first | obtain ⟨x, rfl⟩ := Grows.later2 hg | obtain ⟨x, rfl⟩ := Grows.later hg); clear hg))
    go_ret
    exact ⟨rfl, (by repeat (first | exact Grows.refl _ | refine Grows.now ?_ _ | refine Grows.new ?_ _ | refine Grows.drewN ?_ _ | refine Grows.drew ?_ | assumption | (refine Grows.set ?_ (by first | omega | (simp; done) | (simp; omega)) _)))⟩
  | true =>
    have q1 : (N ≤ 100 ∨ 4096 < N) ∧ mg ≤ 300 := of_decide_eq_true h1
    have q2 : n ≤ 60 ∧ R.length ≤ 12 ∧ ∀ k, k < R.length → (gr R k).n ≤ 60 := of_decide_eq_true h2
    rw [h1] at C1
    rw [h2] at C2
    have H1 := hide C1
    have H2 := hide C2
    clear C1 C2 h1 h2
    go_enter Try.func11, Try.ntmps11
    go_wp2_with (first | (go_at_call 49; refine (H1.out _).mono ?_; rintro e w' ⟨rfl, hg⟩; (first | obtain ⟨x, rfl⟩ := Grows.later2 hg | obtain ⟨x, rfl⟩ := Grows.later hg); clear hg) | (go_at_call 50; refine (H2.out _ (by repeat (first | exact Grows.refl _ | refine Grows.now ?_ _ | refine Grows.new ?_ _ | refine Grows.drewN ?_ _ | refine Grows.drew ?_ | assumption | (refine Grows.set ?_ (by first | omega | (simp; done) | (simp; omega)) _)))).mono ?_; rintro e w' ⟨rfl, hg⟩; (first | obtain ⟨x, rfl⟩ := Grows.later2 hg | obtain ⟨x, rfl⟩ := Grows.later hg); clear hg))
    have h12 : n' ≤ 12 := by have := q2.2.1; omega
    have HI := hide (fun j (hj : j < n) => (show I64 (gi l j) from wf_i64 (hwf _ (gi_mem (by have : l.length = n := (by simpa using ha.len); omega)))))
    have hA60 := hide (show l.length ≤ 60 by have := ha.len; simp at this; omega)
    have HA := hide ha
    have HB := hide hr
    have HR := hide hR
    have HE := hide h
    go_loopw [7] (fun i wr => ∃ k : Nat, k ≤ n' ∧ i = .int .i64 (k : Int) ∧ ∃ y : Later x.now, wr = y.now) (fun i _ => n' - (intOf i).toNat)
    case atStart => exact ⟨0, by omega, by go_num, ⟨_, Grows.refl _⟩, rfl⟩
    case round =>
      obtain ⟨k, hk, rfl, y, rfl⟩ := hrel
      by_cases hend : n' ≤ k
      · have hdk : decide (k < n') = false := decide_eq_false (by omega)
        have hR60 := hide q2.2.2
        have S1 := hide (fun (W : World) (g : Grows w W) => shLeaves (.agg #[.int .i64 N, .slice A mg c]) N A mg c rfl B n d l B' n' d' R W (ha.grows g) (by omega) HI.out (hr.grows g) (by omega) (fun k hk => ⟨(hR k hk).1.1.grows g, by have := hR60.out k (by omega); omega, fun j hj => (hR k hk).2.1 _ (gi_mem (by have : (gr R k).xs.length = (gr R k).n := (by simpa using (hR k hk).1.1.len); omega))⟩))
        have S2 := hide (fun (W : World) (g : Grows w W) => r26Leaves B n d l B' n' d' R W (ha.grows g) (by omega) (hr.grows g) (by omega) (fun k hk => ⟨(hR k hk).1.1.grows g, by have := hR60.out k (by omega); omega⟩))
        have S3 := hide (fun (W : World) (g : Grows w W) => shUnion N A mg c E B' n' d' R W (h.grows g) (by omega) (hr.grows g) (by omega) (fun k hk => ⟨(hR k hk).1.1.grows g, hR60.out k (by omega), (hR k hk).2.2⟩))
        have S4 := hide (fun (W : World) (g : Grows w W) => r26Union N A mg c E B' n' d' R W (h.grows g) (by omega) (hr.grows g) (by omega) (fun k hk => ⟨(hR k hk).1.1.grows g, hR60.out k (by omega)⟩))
        have hlv : (lvK l R n).length ≤ 60 := by have := lvK_len l R n; omega
        clear h ha hr hR hwf q2 HI HA HB HR HE
        generalize lvK l R n = lv at *
        generalize unionV N E (unA R n') = uv at *
        have S5 := hide (fun (W : World) (A1 : Option Addr) (c1 : Nat) (A2 : Option Addr) (c2 : Nat) (g1 : Rd W A1 1 lv.length (lv.map (.int .i64))) (g2 : Rd W A2 1 lv.length (lv.map (.int .i64))) =>
          (r1Same A1 _ c1 lv A2 _ c2 lv W g1 (by omega) g2 (by omega)).mono (fun e w' (h : e = .returned (.bool (decide (lv = lv))) ∧ Grows W w') => (show e = .returned (.bool true) ∧ Grows W w' from ⟨by rw [h.1, decide_eq_true rfl], h.2⟩)))
        go_upto_region 14 with fail
        go_region_with (first
          | (go_at_call 54; refine (S1.out _ (by repeat (first | exact Grows.refl _ | refine Grows.now ?_ _ | refine Grows.new ?_ _ | refine Grows.drewN ?_ _ | refine Grows.drew ?_ | assumption | (refine Grows.set ?_ (by first | omega | (simp; done) | (simp; omega)) _)))).mono ?_; rintro e w' ⟨A1, c1', rfl, hr1, hg⟩; obtain ⟨x1, rfl⟩ := hg.later; have HR1 := hide hr1; clear hg hr1)
          | (go_at_call 55; refine (S2.out _ (by repeat (first | exact Grows.refl _ | refine Grows.now ?_ _ | refine Grows.new ?_ _ | refine Grows.drewN ?_ _ | refine Grows.drew ?_ | assumption | (refine Grows.set ?_ (by first | omega | (simp; done) | (simp; omega)) _)))).mono ?_; rintro e w' ⟨A2, c2', rfl, hr2, hg⟩; obtain ⟨x2, rfl⟩ := hg.later; have HR2 := hide hr2; clear hg hr2)
          | (go_at_call 31; refine (S5.out _ A1 c1' A2 c2' (HR1.out.grows (by repeat (first | exact Grows.refl _ | refine Grows.now ?_ _ | refine Grows.new ?_ _ | refine Grows.drewN ?_ _ | refine Grows.drew ?_ | assumption | (refine Grows.set ?_ (by first | omega | (simp; done) | (simp; omega)) _)))) (HR2.out.grows (by repeat (first | exact Grows.refl _ | refine Grows.now ?_ _ | refine Grows.new ?_ _ | refine Grows.drewN ?_ _ | refine Grows.drew ?_ | assumption | (refine Grows.set ?_ (by first | omega | (simp; done) | (simp; omega)) _))))).mono ?_; rintro e w' ⟨rfl, hg⟩; obtain ⟨x3, rfl⟩ := hg.later; clear hg)
          | (go_at_call 56; refine (S3.out _ (by repeat (first | exact Grows.refl _ | refine Grows.now ?_ _ | refine Grows.new ?_ _ | refine Grows.drewN ?_ _ | refine Grows.drew ?_ | assumption | (refine Grows.set ?_ (by first | omega | (simp; done) | (simp; omega)) _)))).mono ?_; rintro e w' ⟨rfl, hg⟩; obtain ⟨x4, rfl⟩ := hg.later; clear hg)
          | (go_at_call 57; refine (S4.out _ (by repeat (first | exact Grows.refl _ | refine Grows.now ?_ _ | refine Grows.new ?_ _ | refine Grows.drewN ?_ _ | refine Grows.drew ?_ | assumption | (refine Grows.set ?_ (by first | omega | (simp; done) | (simp; omega)) _)))).mono ?_; rintro e w' ⟨rfl, hg⟩; obtain ⟨x5, rfl⟩ := hg.later; clear hg)
          | (go_at_call 51; refine (alive26 _).mono ?_; rintro e w' ⟨rfl, hg⟩; obtain ⟨x6, rfl⟩ := hg.later; clear hg))
        all_goals go_wp2_with fail
        all_goals go_ret
        all_goals exact ⟨rfl, (by repeat (first | exact Grows.refl _ | refine Grows.now ?_ _ | refine Grows.new ?_ _ | refine Grows.drewN ?_ _ | refine Grows.drew ?_ | assumption | (refine Grows.set ?_ (by first | omega | (simp; done) | (simp; omega)) _)))⟩
      · obtain ⟨hro, hrw, hrn⟩ := hR k (by omega)
        have h60 := q2.2.2 k (by omega)
        obtain ⟨b2, off2, rfl, hc⟩ := hr.rows (by omega)
        have c1 := Holds.mk (hc k (by omega))
        have S1 := hide (fun (W : World) (g : Grows w W) => shStretches B n d l (gr R k).A (gr R k).n (gr R k).c (gr R k).xs W (ha.grows g) (by omega) HI.out (hro.1.grows g) (by omega) (fun j hj => hrw _ (gi_mem (by have : (gr R k).xs.length = (gr R k).n := (by simpa using hro.1.len); omega))))
        have S2 := hide (fun (W : World) (g : Grows w W) => r26Stretches B n d l (gr R k).A (gr R k).n (gr R k).c (gr R k).xs W (ha.grows g) (by omega) (hro.1.grows g) (by omega))
        clear h ha hr hR hwf hc hro hrw hrn q2
        go_upto_region 6 with fail
        go_cut [8, 9] (fun s8 s9 wx => ∃ z : Later y.now, wx = z.now ∧ ∃ A1 c1 A2 c2, s8 = .slice A1 (stK (fun z => decide (z ∈ (gr R k).xs)) l l.length).2.length c1 ∧ s9 = .slice A2 (stK (fun z => decide (z ∈ (gr R k).xs)) l l.length).2.length c2 ∧
          Rd z.now A1 2 (stK (fun z => decide (z ∈ (gr R k).xs)) l l.length).2.length (prCells (stK (fun z => decide (z ∈ (gr R k).xs)) l l.length).2) ∧ Rd z.now A2 2 (stK (fun z => decide (z ∈ (gr R k).xs)) l l.length).2.length (prCells (stK (fun z => decide (z ∈ (gr R k).xs)) l l.length).2))
        case first =>
          go_region_with (first
            | (go_at_call 52; refine (S1.out _ (by repeat (first | exact Grows.refl _ | refine Grows.now ?_ _ | refine Grows.new ?_ _ | refine Grows.drewN ?_ _ | refine Grows.drew ?_ | assumption | (refine Grows.set ?_ (by first | omega | (simp; done) | (simp; omega)) _)))).mono ?_; rintro e w' ⟨B1, A1, c1', rfl, _, ho1, hg⟩; obtain ⟨x1, rfl⟩ := hg.later; have HO1 := hide ho1; clear hg ho1)
            | (go_at_call 53; refine (S2.out _ (by repeat (first | exact Grows.refl _ | refine Grows.now ?_ _ | refine Grows.new ?_ _ | refine Grows.drewN ?_ _ | refine Grows.drew ?_ | assumption | (refine Grows.set ?_ (by first | omega | (simp; done) | (simp; omega)) _)))).mono ?_; rintro e w' ⟨B2, A2, c2', rfl, _, ho2, hg⟩; obtain ⟨x2, rfl⟩ := hg.later; have HO2 := hide ho2; clear hg ho2))
          all_goals go_wp2_with fail
          all_goals go_meet
          all_goals (case rel => first | exact ⟨⟨x1.now, (by repeat (first | exact Grows.refl _ | refine Grows.now ?_ _ | refine Grows.new ?_ _ | refine Grows.drewN ?_ _ | refine Grows.drew ?_ | assumption | (refine Grows.set ?_ (by first | omega | (simp; done) | (simp; omega)) _)))⟩, rfl, A1, c1', A2, c2', rfl, rfl, HO1.out.rd, (show Rd x1.now _ _ _ _ from HO2.out.rd.grows (by repeat (first | exact Grows.refl _ | refine Grows.now ?_ _ | refine Grows.new ?_ _ | refine Grows.drewN ?_ _ | refine Grows.drew ?_ | assumption | (refine Grows.set ?_ (by first | omega | (simp; done) | (simp; omega)) _))))⟩ | exact ⟨⟨x2.now, (by repeat (first | exact Grows.refl _ | refine Grows.now ?_ _ | refine Grows.new ?_ _ | refine Grows.drewN ?_ _ | refine Grows.drew ?_ | assumption | (refine Grows.set ?_ (by first | omega | (simp; done) | (simp; omega)) _)))⟩, rfl, A1, c1', A2, c2', rfl, rfl, (show Rd x2.now _ _ _ _ from HO1.out.rd.grows (by repeat (first | exact Grows.refl _ | refine Grows.now ?_ _ | refine Grows.new ?_ _ | refine Grows.drewN ?_ _ | refine Grows.drew ?_ | assumption | (refine Grows.set ?_ (by first | omega | (simp; done) | (simp; omega)) _)))), HO2.out.rd⟩)
        case rest =>
          obtain ⟨z, rfl, A1, c1', A2, c2', rfl, rfl, hr1, hr2⟩ := hcut
          have hst := (stK_inv (fun z => decide (z ∈ (gr R k).xs)) l l.length).1
          have hst60 : (stK (fun z => decide (z ∈ (gr R k).xs)) l l.length).2.length ≤ 60 := by have := hA60.out; omega
          clear hst
          generalize (stK (fun z => decide (z ∈ (gr R k).xs)) l l.length).2 = st at *
          have R1 := hide hr1
          have R2 := hide hr2
          clear hr1 hr2
          have hln : ((st.length : Int) == (st.length : Int)) = true := beq_self_eq_true _
          go_wp2_with fail
          go_loopw [10] (fun i wr => ∃ q : Nat, q ≤ st.length ∧ i = .int .i64 (q : Int) ∧ ∃ y2 : Later z.now, wr = y2.now) (fun i _ => st.length - (intOf i).toNat)
          case atStart => exact ⟨0, by omega, by go_num, ⟨_, Grows.refl _⟩, rfl⟩
          case round =>
            obtain ⟨q, hq, rfl, y2, rfl⟩ := hrel
            by_cases hend2 : st.length ≤ q
            · go_wp2
              exact ⟨⟨k + 1, by omega, by go_num, ⟨y2.now, (by repeat (first | exact Grows.refl _ | refine Grows.now ?_ _ | refine Grows.new ?_ _ | refine Grows.drewN ?_ _ | refine Grows.drew ?_ | assumption | (refine Grows.set ?_ (by first | omega | (simp; done) | (simp; omega)) _)))⟩, rfl⟩, by simp [intOf]; omega⟩
            · obtain ⟨b3, off3, rfl, hc3⟩ := R1.out.pairsH (by omega)
              obtain ⟨b4, off4, rfl, hc4⟩ := R2.out.pairsH (by omega)
              obtain ⟨p1, p2⟩ := hc3 q (by omega)
              obtain ⟨p3, p4⟩ := hc4 q (by omega)
              clear hc3 hc4
              have hqd : decide (q < st.length) = true := decide_eq_true (by omega)
              generalize st.getD q (0, 0) = pr at *
              obtain ⟨u, v⟩ := pr
              dsimp only at p1 p2 p3 p4
              have heq := pair_eq u v
              go_wp2_with fail
              ((first | refine wp_region_gen (by kernel_rfl) (by kernel_rfl) ?_); (repeat' (first | (refine gLex_val0 rfl (by kernel_rfl) (fun K hK => ?_); (go_simp; (try (simp only [↓IntWalk.iteOmega]; try go_simp)); (try simp (disch := omega) only [IntWalk.i64_in]); (try simp (disch := omega) only [IntWalk.u64_in]); first | (refine hK _ ?_; clear hK K) | (apply Exists.intro; refine ⟨fun x => ?_, hK _ ?_⟩; (first | fail); clear hK K))) | (refine gLex_undef rfl rfl rfl (by kernel_rfl) (fun K hK => ?_); go_simp; refine hK _ ?_; clear hK K) | (refine gLex_ask rfl rfl rfl ?_; first | (apply gAsk_yes; kernel_rfl; intro K hK; (go_simp; (try (simp only [↓IntWalk.iteOmega]; try go_simp)); (try simp (disch := omega) only [IntWalk.i64_in]); (try simp (disch := omega) only [IntWalk.u64_in]); first | (refine hK _ ?_; clear hK K) | (apply Exists.intro; refine ⟨fun x => ?_, hK _ ?_⟩; (first | fail); clear hK K))) | ((first | apply gAsk_no1 | apply gAsk_no2); kernel_rfl; intro K hK; simp [go_sem]; refine hK _ ?_; clear hK K) | (apply gAsk_part; kernel_rfl; all_goals (intro h K hK; (try simp only [Bool.not_true] at h); (try simp only [Bool.not_false] at h); (try simp only [decide_eq_true_eq] at h); (try simp only [decide_eq_false_iff_not] at h); first | (exfalso; first | contradiction | omega) | (go_simp; (try (simp only [↓IntWalk.iteOmega]; try go_simp)); (try simp (disch := omega) only [IntWalk.i64_in]); (try simp (disch := omega) only [IntWalk.u64_in]); first | (refine hK _ ?_; clear hK K) | (apply Exists.intro; refine ⟨fun x => ?_, hK _ ?_⟩; (first | fail); clear hK K))))))); all_goals ((apply gLex_end); intro x))
              go_wp2
              refine ⟨⟨q + 1, by omega, by go_num, Grows.later (by repeat (first | exact Grows.refl _ | refine Grows.now ?_ _ | refine Grows.new ?_ _ | refine Grows.drewN ?_ _ | refine Grows.drew ?_ | assumption | (refine Grows.set ?_ (by first | omega | (simp; done) | (simp; omega)) _)))⟩, by simp [intOf]; omega⟩
end Go.Proofs.Ytpnncadglhlclaa
