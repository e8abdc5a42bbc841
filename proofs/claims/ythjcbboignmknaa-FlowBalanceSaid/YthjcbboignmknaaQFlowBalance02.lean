/- The law FlowBalance: for every input it returns true, and each argument reads as before. No condition. -/
import Derived.Test.YthjcbboignmknaaQFlowAssigns03
import Derived.Test.YthjcbboignmknaaQFlowBalance00
import Derived.Test.YthjcbboignmknaaQFlowBalance01
import Derived.Test.YthjcbboignmknaaQCanonAll15
/- The law FlowBalance, walked: at each node as many come in, and begin, as go out, and end. -/
namespace Go.Proofs.Ythjcbboignmknaa
open Go Go.RowKit
theorem accW_yes {p : Nat → Bool} {X : Nat → Int} {a : Int} {n : Nat} (h : p n = true) : accW p X a (n + 1) = IntKind.u64.wrap (accW p X a n + X n) := by rw [accW_succ, if_pos h]
theorem accW_not {p : Nat → Bool} {X : Nat → Int} {a : Int} {n : Nat} (h : p n = false) : accW p X a (n + 1) = accW p X a n := by rw [accW_succ, if_neg (by rw [h]; simp)]
theorem asgR_cases (N : Int) (E D : List Edg) (o : DOpt) (P : Ways) : (∃ r, r ≠ 0 ∧ asgR N E D o P = ([], 0, r)) ∨ (fRightF N E D = 0 ∧ asgR N E D o P = ((asgS D P E.length D.length).1, (asgS D P E.length D.length).2, 0)) := by
  unfold asgR
  by_cases h1 : fRightF N E D ≠ 0
  · rw [if_pos h1]; exact .inl ⟨_, h1, rfl⟩
  · rw [if_neg h1]
    by_cases h2 : dcF N 0 E o.W ≠ 0
    · rw [if_pos h2]; exact .inl ⟨_, h2, rfl⟩
    · rw [if_neg h2]; exact .inr ⟨by omega, rfl⟩
set_option maxRecDepth 40000 in
set_option maxHeartbeats 16000000 in
theorem flowBalanceW (N : Int) (A : Option Addr) (n c : Nat) (E : List Edg) (Bd : Option Addr) (m d : Nat) (D : List Edg) (w : World)
    (_ : I64 N) (_ : n ≤ c) (h : Rd w A 3 n (esCells E)) (_ : ∀ k, k < n → edgOk (ge E k)) (_ : m ≤ d) (hD : Rd w Bd 3 m (esCells D)) (_ : ∀ k, k < m → edgOk (ge D k)) :
    Calls Try.prog 8 #[.agg #[.int .i64 N, .slice A n c], .slice Bd m d] w fun e w' => e = .returned (.bool true) ∧ Grows w w' := by
  have e4 : E.length = n := h.elen
  have e5 : D.length = m := hD.elen
  subst e4 e5
  have CM := fun (W1 : World) => lLight47 N A E.length c Bd D.length d W1
  cases hq0 : light47 N E.length D.length with
  | false =>
    rw [hq0] at CM
    have H0 := hide CM
    clear CM hq0 h hD
    go_enter Try.func8, Try.ntmps8
    go_wp2_with (first | (go_at_call 36; refine (H0.out _).mono ?_; rintro e w' ⟨rfl, hg⟩; (first | obtain ⟨x, rfl⟩ := Grows.later2 hg | obtain ⟨x, rfl⟩ := Grows.later hg); clear hg) | (go_at_call 37; refine (alive47 _).mono ?_; rintro e w' ⟨rfl, hg⟩; (first | obtain ⟨x, rfl⟩ := Grows.later2 hg | obtain ⟨x, rfl⟩ := Grows.later hg); clear hg))
    go_ret
    exact ⟨rfl, (by repeat (first | exact Grows.refl _ | refine Grows.now ?_ _ | refine Grows.new ?_ _ | refine Grows.drewN ?_ _ | refine Grows.drew ?_ | assumption | (refine Grows.set ?_ (by first | omega | (simp; done) | (simp; omega)) _)))⟩
  | true =>
  rw [hq0] at CM
  have H0 := hide CM
  have hsz : E.length ≤ 60 ∧ D.length ≤ 2000 := by
    unfold light47 at hq0
    simp at hq0
    omega
  obtain ⟨hn0, hdl⟩ := hsz
  have hn : E.length ≤ 1000000 := by omega
  clear CM hq0
  have nilR : ∀ W1 : World, Rd W1 none 1 0 [] := fun W1 => ⟨rfl, fun h => absurd h (by omega)⟩
  obtain ⟨P, hP⟩ := ways_any E (freeO []) N D (by show 0 ≤ _; omega) (by show 0 ≤ _; omega)
  have hLl := asgR_len N E D (freeO []) P
  have K1 := hide (fun (W1 : World) (Bq : Option Addr) (dq : Nat) (g : Grows w W1) (hq : Rd W1 Bq 3 D.length (esCells D)) => show Calls Try.prog 38 #[.agg #[.int .i64 N, .slice A E.length c], .slice Bq D.length dq, .agg #[.bool false, .slice none 0 0, .slice none 0 0, .slice none 0 0, .int .u64 0]] W1 (AsgP W1 (asgR N E D (freeO []) P).1 (asgR N E D (freeO []) P).2.1 (asgR N E D (freeO []) P).2.2) from
    fAssign N A c E Bq dq D (freeO []) none none none 0 0 0 P W1 (h.grows g) hq (nilR _) (nilR _) (nilR _) hn (by show 0 ≤ _; omega) (by omega) hP)
  have K3 := hide (fun (W1 : World) (g : Grows w W1) => law47of Bd D.length d D W1 (hD.grows g) (by omega))
  have K7 := hide (fun (j : Nat) (hj : j < D.length) (W1 : World) (g : Grows w W1) => show Calls Try.prog 31 #[.agg #[.int .i64 N, .slice A E.length c], .int .i64 (ge D j).f, .int .i64 (ge D j).t, .agg #[.bool false, .slice none 0 0, .slice none 0 0, .slice none 0 0, .int .u64 0]] W1 fun e w' => e = .returned (.tuple #[.int .u64 ((P j).2.1 : Int), .int .i64 (P j).2.2]) ∧ Grows W1 w' from
    djOneD (W := []) (hP j hj) A c none 0 W1 (h.grows g) (nilR _) (nilR _) hn (by show 0 ≤ _; omega))
  rcases asgR_cases N E D (freeO []) P with ⟨r, hr, hR⟩ | ⟨hf, hR⟩
  · rw [hR] at K1
    have hr9 : (r == 0) = false := beq_eq_false_iff_ne.2 hr
    clear h hD hP hLl nilR K7 hR hr
    go_enter Try.func8, Try.ntmps8
    go_wp2_with (first | (go_at_call 36; refine (H0.out _).mono ?_; rintro e w' ⟨rfl, hg⟩; obtain ⟨x2, rfl⟩ := hg.later; clear hg))
    have b1 : Arr x2.now w.heap.size 24 [.int .i64 N, .slice A E.length c] := Arr.grow ⟨by simp [heap_push]⟩ x2.grows
    go_upto_region 3 with fail
    refine wp_region_box (bxS 8 9 6 5 29 68 [.slice none 0 0, .int .u64 0]) (by kernel_rfl) (by kernel_rfl) (by kernel_rfl) (fun oa os h1 h2 => by injection h1 with h1; injection h2 with h2; subst h1 h2; exact bxS_runs (by kernel_rfl) rfl rfl) ?_
    (repeat' (refine gLexX_val0 rfl (by kernel_rfl) (by kernel_rfl) (fun K hK => ?_); go_simp; (try (simp only [↓IntWalk.iteOmega]; try go_simp)); (try simp (disch := omega) only [IntWalk.i64_in]); (try simp (disch := omega) only [IntWalk.u64_in]); first | (refine hK _ ?_; clear hK K) | (apply Exists.intro; refine ⟨fun x => ?_, hK _ ?_⟩; (first | fail); clear hK K)))
    refine gLexX_prop rfl (by kernel_rfl) (by kernel_rfl) rfl (by simp) (DemQ D.length D) (fun x S hS => ?_) ?_
    · go_simp
      refine (K3.out _ (by repeat (first | exact Grows.refl _ | refine Grows.now ?_ _ | refine Grows.new ?_ _ | refine Grows.drewN ?_ _ | refine Grows.drew ?_ | assumption | (refine Grows.set ?_ (by first | omega | (simp; done) | (simp; omega)) _)))).mono ?_
      rintro e w' ⟨A8, c8, rfl, ho, hg⟩
      exact ⟨_, rfl, hg, fun w'' ht => ⟨A8, c8, rfl, (ho.noBox (fun k hk => (hS k hk).2) ht).rd⟩⟩
    (repeat' (refine gLexX_val0 rfl (by kernel_rfl) (by kernel_rfl) (fun K hK => ?_); go_simp; (try (simp only [↓IntWalk.iteOmega]; try go_simp)); (try simp (disch := omega) only [IntWalk.i64_in]); (try simp (disch := omega) only [IntWalk.u64_in]); first | (refine hK _ ?_; clear hK K) | (apply Exists.intro; refine ⟨fun x => ?_, hK _ ?_⟩; (first | fail); clear hK K)))
    refine gLexX_depW (t0 := 26) rfl (by kernel_rfl) (by kernel_rfl) rfl (by simp) rfl (by simp) (PairQ (RepQ 0 0 (uv []) 0) (.int .i64 r)) (fun x S v hS hv => ?_) ?_
    · obtain ⟨Aq, cq, rfl, hq⟩ := hv
      go_simp
      refine (K1.out _ _ _ (by repeat (first | exact Grows.refl _ | refine Grows.now ?_ _ | refine Grows.new ?_ _ | refine Grows.drewN ?_ _ | refine Grows.drew ?_ | assumption | (refine Grows.set ?_ (by first | omega | (simp; done) | (simp; omega)) _))) hq).mono ?_
      rintro e w' ⟨A8, c8, rfl, ho, hlo, hg⟩
      exact ⟨_, rfl, hg, fun w'' ht => ⟨_, rfl, A8, c8, rfl, ho.noBox hlo (fun k hk => (hS k hk).2) ht, fun p hp => Nat.zero_le _⟩⟩
    refine gLexX_pair (by kernel_rfl) ⟨rfl, rfl, rfl, rfl, rfl, rfl⟩ ⟨rfl, rfl, rfl, rfl, rfl⟩ ⟨rfl, rfl, rfl, rfl, rfl⟩ (by decide) rfl (by decide) rfl (by simp) (by kernel_rfl) (by kernel_rfl) (by kernel_rfl) (by kernel_rfl) (by kernel_rfl) (by kernel_rfl) ?good ?_
    case good =>
      rintro v w1 ⟨A8, c8, rfl, _⟩
      exact ⟨_, rfl, rfl, by simp [Value.oneCell']⟩
    refine gLexX_end (fun y3 _ b7 hb7 => ?_)
    refine AtX.pop rfl (by simp) (fun z1 hz1 => ?_)
    obtain rfl : z1 = _ := hz1
    refine AtX.pop rfl (by simp [Act.put]) (fun z2 _ => ?_)
    refine AtX.pop rfl (by simp [Act.put]) (fun z3 hz3 => ?_)
    obtain rfl : z3 = _ := hz3
    refine AtX.pop rfl (by simp [Act.put]) (fun z4 hz4 => ?_)
    obtain ⟨A8, c8, rfl, ho8, _⟩ := hz4
    refine AtX.pop rfl (by simp [Act.put]) (fun z5 _ => ?_)
    refine AtX.pop rfl (by simp [Act.put]) (fun z6 _ => ?_)
    refine AtX.pop rfl (by simp [Act.put]) (fun z7 _ => ?_)
    refine AtX.base (by simp [Act.put, bxS]; rfl) (by simp [Act.put, bxS]; rfl) (fun e9 ha7 => ?_)
    subst e9
    simp only [Act.put, List.setIfInBounds_toArray, List.set_cons_zero, List.set_cons_succ]
    have a7 : Arr y3.now b7 68 [.slice A8 0 c8, .int .u64 0] := ha7
    clear ha7 ho8 hb7
    · go_wp2_with fail
      refine (alive47 _).mono ?_; rintro e w' ⟨rfl, hg⟩; obtain ⟨x7, rfl⟩ := Grows.later2 hg; clear hg
      go_wp2_with fail
      go_ret
      exact ⟨rfl, (by repeat (first | exact Grows.refl _ | refine Grows.now ?_ _ | refine Grows.new ?_ _ | refine Grows.drewN ?_ _ | refine Grows.drew ?_ | assumption | (refine Grows.set ?_ (by first | omega | (simp; done) | (simp; omega)) _)))⟩
  · rw [hR] at K1
    obtain ⟨hrr, _, hdd⟩ := fRight_ok hf
    obtain ⟨r1, r2, r3, r4, r5⟩ := right_in hrr
    obtain ⟨NN, rfl⟩ : ∃ NN : Nat, N = (NN : Int) := ⟨N.toNat, by omega⟩
    rw [Int.toNat_natCast] at r4
    have hNb : NN ≤ 4096 := by omega
    have HIN := hide r4
    have HBAL := hide (fun v => bal_at hP v)
    have HALL := hide (bal_all hP (fun j hj => ⟨of_decide_eq_true (hdd j hj).1.1, of_decide_eq_true (hdd j hj).1.2⟩))
    have HLE := hide (asgS_len D P E.length D.length)
    have HE := hide h
    have HD := hide hD
    clear h hD hP hLl nilR hR hrr hdd r1 r2 r3 r4 r5 hf
    generalize asgS D P E.length D.length = S at *
    dsimp only at K1
    unfold AsgP at K1
    rw [HLE.out] at K1
    go_enter Try.func8, Try.ntmps8
    go_wp2_with (first | (go_at_call 36; refine (H0.out _).mono ?_; rintro e w' ⟨rfl, hg⟩; obtain ⟨x2, rfl⟩ := hg.later; clear hg))
    have b1 : Arr x2.now w.heap.size 24 [.int .i64 (NN : Int), .slice A E.length c] := Arr.grow ⟨by simp [heap_push]⟩ x2.grows
    go_upto_region 3 with fail
    refine wp_region_box (bxS 8 9 6 5 29 68 [.slice none 0 0, .int .u64 0]) (by kernel_rfl) (by kernel_rfl) (by kernel_rfl) (fun oa os h1 h2 => by injection h1 with h1; injection h2 with h2; subst h1 h2; exact bxS_runs (by kernel_rfl) rfl rfl) ?_
    (repeat' (refine gLexX_val0 rfl (by kernel_rfl) (by kernel_rfl) (fun K hK => ?_); go_simp; (try (simp only [↓IntWalk.iteOmega]; try go_simp)); (try simp (disch := omega) only [IntWalk.i64_in]); (try simp (disch := omega) only [IntWalk.u64_in]); first | (refine hK _ ?_; clear hK K) | (apply Exists.intro; refine ⟨fun x => ?_, hK _ ?_⟩; (first | fail); clear hK K)))
    refine gLexX_prop rfl (by kernel_rfl) (by kernel_rfl) rfl (by simp) (DemQ D.length D) (fun x S hS => ?_) ?_
    · go_simp
      refine (K3.out _ (by repeat (first | exact Grows.refl _ | refine Grows.now ?_ _ | refine Grows.new ?_ _ | refine Grows.drewN ?_ _ | refine Grows.drew ?_ | assumption | (refine Grows.set ?_ (by first | omega | (simp; done) | (simp; omega)) _)))).mono ?_
      rintro e w' ⟨A8, c8, rfl, ho, hg⟩
      exact ⟨_, rfl, hg, fun w'' ht => ⟨A8, c8, rfl, (ho.noBox (fun k hk => (hS k hk).2) ht).rd⟩⟩
    (repeat' (refine gLexX_val0 rfl (by kernel_rfl) (by kernel_rfl) (fun K hK => ?_); go_simp; (try (simp only [↓IntWalk.iteOmega]; try go_simp)); (try simp (disch := omega) only [IntWalk.i64_in]); (try simp (disch := omega) only [IntWalk.u64_in]); first | (refine hK _ ?_; clear hK K) | (apply Exists.intro; refine ⟨fun x => ?_, hK _ ?_⟩; (first | fail); clear hK K)))
    refine gLexX_depW (t0 := 26) rfl (by kernel_rfl) (by kernel_rfl) rfl (by simp) rfl (by simp) (PairQ (RepQ 0 E.length (uv S.1) S.2) (.int .i64 0)) (fun x S v hS hv => ?_) ?_
    · obtain ⟨Aq, cq, rfl, hq⟩ := hv
      go_simp
      refine (K1.out _ _ _ (by repeat (first | exact Grows.refl _ | refine Grows.now ?_ _ | refine Grows.new ?_ _ | refine Grows.drewN ?_ _ | refine Grows.drew ?_ | assumption | (refine Grows.set ?_ (by first | omega | (simp; done) | (simp; omega)) _))) hq).mono ?_
      rintro e w' ⟨A8, c8, rfl, ho, hlo, hg⟩
      exact ⟨_, rfl, hg, fun w'' ht => ⟨_, rfl, A8, c8, rfl, ho.noBox hlo (fun k hk => (hS k hk).2) ht, fun p hp => Nat.zero_le _⟩⟩
    refine gLexX_pair (by kernel_rfl) ⟨rfl, rfl, rfl, rfl, rfl, rfl⟩ ⟨rfl, rfl, rfl, rfl, rfl⟩ ⟨rfl, rfl, rfl, rfl, rfl⟩ (by decide) rfl (by decide) rfl (by simp) (by kernel_rfl) (by kernel_rfl) (by kernel_rfl) (by kernel_rfl) (by kernel_rfl) (by kernel_rfl) ?good ?_
    case good =>
      rintro v w1 ⟨A8, c8, rfl, _⟩
      exact ⟨_, rfl, rfl, by simp [Value.oneCell']⟩
    refine gLexX_end (fun y3 _ b7 hb7 => ?_)
    refine AtX.pop rfl (by simp) (fun z1 hz1 => ?_)
    obtain rfl : z1 = _ := hz1
    refine AtX.pop rfl (by simp [Act.put]) (fun z2 _ => ?_)
    refine AtX.pop rfl (by simp [Act.put]) (fun z3 hz3 => ?_)
    obtain rfl : z3 = _ := hz3
    refine AtX.pop rfl (by simp [Act.put]) (fun z4 hz4 => ?_)
    obtain ⟨A8, c8, rfl, ho8, _⟩ := hz4
    refine AtX.pop rfl (by simp [Act.put]) (fun z5 _ => ?_)
    refine AtX.pop rfl (by simp [Act.put]) (fun z6 _ => ?_)
    refine AtX.pop rfl (by simp [Act.put]) (fun z7 _ => ?_)
    refine AtX.base (by simp [Act.put, bxS]; rfl) (by simp [Act.put, bxS]; rfl) (fun e9 ha7 => ?_)
    subst e9
    simp only [Act.put, List.setIfInBounds_toArray, List.set_cons_zero, List.set_cons_succ]
    have a7 : Arr y3.now b7 68 [.slice A8 E.length c8, .int .u64 S.2] := ha7
    have HO8 := hide ho8
    clear ha7 ho8 hb7 K1 K3 H0
    · go_wp2_with fail
      go_loopw [7, 8, 9] (fun s7 s8 s9 wr => ∃ v : Nat, v ≤ NN ∧ s9 = .int .i64 (v : Int) ∧ s7 = .int .u64 (begW (fun v => okS D P v) (dW D) D.length v) ∧ s8 = .int .u64 (begW (fun v => okT D P v) (dW D) D.length v) ∧ ∃ x : Later y3.now, wr = x.now) (fun _ _ s9 _ => NN - (Go.RowKit.intOf s9).toNat)
      case atStart => exact ⟨0, by omega, by go_num, rfl, rfl, ⟨_, Grows.refl _⟩, rfl⟩
      case round =>
        obtain ⟨v, hv, rfl, rfl, rfl, x, rfl⟩ := hrel
        by_cases hvn : v < NN
        · have HVN := hide hvn
          have hbv := HBAL.out v
          have HBE1 := hide (show begW (fun v => okS D P v) (dW D) D.length (v + 1) = accW (okS D P v) (dW D) (begW (fun v => okS D P v) (dW D) D.length v) D.length from rfl)
          have HBE2 := hide (show begW (fun v => okT D P v) (dW D) D.length (v + 1) = accW (okT D P v) (dW D) (begW (fun v => okT D P v) (dW D) D.length v) D.length from rfl)
          have HBV := hide hbv
          clear hbv
          generalize hbs : begW (fun v => okS D P v) (dW D) D.length v = bs at *
          generalize hbt : begW (fun v => okT D P v) (dW D) D.length v = bt at *
          clear hbs hbt
          go_wp2_with fail
          go_loopw [10, 11, 12] (fun s10 s11 s12 wr => ∃ i : Nat, i ≤ E.length ∧ s12 = .int .i64 (i : Int) ∧ s10 = .int .u64 (accW (toB E v) (gi S.1) 0 i) ∧ s11 = .int .u64 (accW (frB E v) (gi S.1) 0 i) ∧ ∃ x : Later y3.now, wr = x.now) (fun _ _ s12 _ => E.length - (Go.RowKit.intOf s12).toNat)
          case atStart => exact ⟨0, by omega, by go_num, rfl, rfl, x, rfl⟩
          case round =>
            obtain ⟨i, hi, rfl, rfl, rfl, x1, rfl⟩ := hrel
            by_cases hil : i < E.length
            · skip
              obtain ⟨bE, oE, rfl, hcE⟩ := HE.out.edgesH (by omega)
              obtain ⟨q1, q2, _⟩ := hcE i hil
              rw [(HIN.out.f i hil).2] at q1
              rw [(HIN.out.t i hil).2] at q2
              obtain ⟨g8, o8, rfl, hc8⟩ := HO8.out.at_ (by omega)
              have q8 : Holds y3.now ⟨g8, o8 + i, none⟩ (.int .u64 (gi S.1 i)) := ⟨hc8 i _ (uv_at (by rw [HLE.out]; exact hil))⟩
              have hdi : decide ((i : Int) < (E.length : Int)) = true := decide_eq_true (by omega)
              clear hcE hc8
              by_cases h1 : tN E i = v
              · by_cases h2 : fN E i = v
                · skip
                  have HA1 := hide (show accW (toB E v) (gi S.1) 0 (i + 1) = _ from accW_yes (show toB E v i = true from decide_eq_true h1))
                  have HA2 := hide (show accW (frB E v) (gi S.1) 0 (i + 1) = _ from accW_yes (show frB E v i = true from decide_eq_true h2))
                  have b1 : ((tN E i : Int) == (v : Int)) = true := by rw [h1]; simp
                  have b2 : ((fN E i : Int) == (v : Int)) = true := by rw [h2]; simp
                  clear h1 h2 HBE1 HBE2 HBV
                  generalize accW (toB E v) (gi S.1) 0 i = a1 at *
                  generalize accW (frB E v) (gi S.1) 0 i = a2 at *
                  go_wp2_with fail
                  go_roundw
                  case measure => simp [Go.RowKit.intOf]; omega
                  case rel => exact ⟨i + 1, by omega, by go_num, by rw [HA1.out], by rw [HA2.out], x1, rfl⟩
                · skip
                  have HA1 := hide (show accW (toB E v) (gi S.1) 0 (i + 1) = _ from accW_yes (show toB E v i = true from decide_eq_true h1))
                  have HA2 := hide (show accW (frB E v) (gi S.1) 0 (i + 1) = _ from accW_not (show frB E v i = false from decide_eq_false h2))
                  have b1 : ((tN E i : Int) == (v : Int)) = true := by rw [h1]; simp
                  have b2 : ((fN E i : Int) == (v : Int)) = false := beq_eq_false_iff_ne.2 (by omega)
                  clear h1 h2 HBE1 HBE2 HBV
                  generalize accW (toB E v) (gi S.1) 0 i = a1 at *
                  generalize accW (frB E v) (gi S.1) 0 i = a2 at *
                  go_wp2_with fail
                  go_roundw
                  case measure => simp [Go.RowKit.intOf]; omega
                  case rel => exact ⟨i + 1, by omega, by go_num, by rw [HA1.out], by rw [HA2.out], x1, rfl⟩
              · by_cases h2 : fN E i = v
                · skip
                  have HA1 := hide (show accW (toB E v) (gi S.1) 0 (i + 1) = _ from accW_not (show toB E v i = false from decide_eq_false h1))
                  have HA2 := hide (show accW (frB E v) (gi S.1) 0 (i + 1) = _ from accW_yes (show frB E v i = true from decide_eq_true h2))
                  have b1 : ((tN E i : Int) == (v : Int)) = false := beq_eq_false_iff_ne.2 (by omega)
                  have b2 : ((fN E i : Int) == (v : Int)) = true := by rw [h2]; simp
                  clear h1 h2 HBE1 HBE2 HBV
                  generalize accW (toB E v) (gi S.1) 0 i = a1 at *
                  generalize accW (frB E v) (gi S.1) 0 i = a2 at *
                  go_wp2_with fail
                  go_roundw
                  case measure => simp [Go.RowKit.intOf]; omega
                  case rel => exact ⟨i + 1, by omega, by go_num, by rw [HA1.out], by rw [HA2.out], x1, rfl⟩
                · skip
                  have HA1 := hide (show accW (toB E v) (gi S.1) 0 (i + 1) = _ from accW_not (show toB E v i = false from decide_eq_false h1))
                  have HA2 := hide (show accW (frB E v) (gi S.1) 0 (i + 1) = _ from accW_not (show frB E v i = false from decide_eq_false h2))
                  have b1 : ((tN E i : Int) == (v : Int)) = false := beq_eq_false_iff_ne.2 (by omega)
                  have b2 : ((fN E i : Int) == (v : Int)) = false := beq_eq_false_iff_ne.2 (by omega)
                  clear h1 h2 HBE1 HBE2 HBV
                  generalize accW (toB E v) (gi S.1) 0 i = a1 at *
                  generalize accW (frB E v) (gi S.1) 0 i = a2 at *
                  go_wp2_with fail
                  go_roundw
                  case measure => simp [Go.RowKit.intOf]; omega
                  case rel => exact ⟨i + 1, by omega, by go_num, by rw [HA1.out], by rw [HA2.out], x1, rfl⟩
            · obtain rfl : i = E.length := by omega
              have hdi : decide ((E.length : Int) < (E.length : Int)) = false := decide_eq_false (by omega)
              generalize hai : accW (toB E v) (gi S.1) 0 E.length = ai at *
              generalize hao : accW (frB E v) (gi S.1) 0 E.length = ao at *
              clear hai hao
              go_wp2_with fail
              go_loopw [7, 8, 10, 11, 13] (fun s7 s8 s10 s11 s13 wr => ∃ j : Nat, j ≤ D.length ∧ s13 = .int .i64 (j : Int) ∧ s7 = .int .u64 (accW (okS D P v) (dW D) bs j) ∧ s8 = .int .u64 (accW (okT D P v) (dW D) bt j) ∧ s10 = .int .u64 (accW (okS D P v) (dW D) ai j) ∧ s11 = .int .u64 (accW (okT D P v) (dW D) ao j) ∧ ∃ x : Later y3.now, wr = x.now) (fun _ _ _ _ s13 _ => D.length - (Go.RowKit.intOf s13).toNat)
              case atStart => exact ⟨0, by omega, by go_num, rfl, rfl, rfl, rfl, x1, rfl⟩
              case round =>
                obtain ⟨j, hj, rfl, rfl, rfl, rfl, rfl, x2, rfl⟩ := hrel
                by_cases hjl : j < D.length
                · skip
                  obtain ⟨bD, oD, rfl, hcD⟩ := HD.out.edgesH (by omega)
                  obtain ⟨d1, d2, d3⟩ := hcD j hjl
                  have hdj : decide ((j : Int) < (D.length : Int)) = true := decide_eq_true (by omega)
                  have KJ := hide (K7.out j hjl)
                  have hw : dW D j = (ge D j).w := rfl
                  clear hcD
                  by_cases hr : (P j).2.2 = 0
                  · by_cases h1 : (ge D j).f = (v : Int)
                    · by_cases h2 : (ge D j).t = (v : Int)
                      · skip
                        have p1 : okS D P v j = true := by show (okD P j && decide ((ge D j).f = (v : Int))) = _; rw [show okD P j = true from decide_eq_true hr, decide_eq_true h1]; rfl
                        have p2 : okT D P v j = true := by show (okD P j && decide ((ge D j).t = (v : Int))) = _; rw [show okD P j = true from decide_eq_true hr, decide_eq_true h2]; rfl
                        have HB1 := hide (show accW (okS D P v) (dW D) bs (j + 1) = _ from accW_yes p1)
                        have HB2 := hide (show accW (okT D P v) (dW D) bt (j + 1) = _ from accW_yes p2)
                        have HB3 := hide (show accW (okS D P v) (dW D) ai (j + 1) = _ from accW_yes p1)
                        have HB4 := hide (show accW (okT D P v) (dW D) ao (j + 1) = _ from accW_yes p2)
                        rw [hw] at HB1 HB2 HB3 HB4
                        have b0 : ((P j).2.2 == 0) = true := by simp [hr]
                        have b1 : ((ge D j).f == (v : Int)) = true := by simp [h1]
                        have b2 : ((ge D j).t == (v : Int)) = true := by simp [h2]
                        clear p1 p2 hw hr HBE1 HBE2 HBV K7 h1 h2
                        generalize accW (okS D P v) (dW D) bs j = a1 at *
                        generalize accW (okT D P v) (dW D) bt j = a2 at *
                        generalize accW (okS D P v) (dW D) ai j = a3 at *
                        generalize accW (okT D P v) (dW D) ao j = a4 at *
                        go_wp2_with fail
                        ((first | refine wp_region_gen (by kernel_rfl) (by kernel_rfl) ?_); (repeat' (first | (refine gLex_val0 rfl (by kernel_rfl) (fun K hK => ?_); (go_simp; (try (simp only [↓IntWalk.iteOmega]; try go_simp)); (try simp (disch := omega) only [IntWalk.i64_in]); (try simp (disch := omega) only [IntWalk.u64_in]); first | (refine hK _ ?_; clear hK K) | (apply Exists.intro; refine ⟨fun x => ?_, hK _ ?_⟩; (first | (go_at_call 31; exact KJ.out _ (by repeat (first | exact Grows.refl _ | refine Grows.now ?_ _ | refine Grows.new ?_ _ | refine Grows.drewN ?_ _ | refine Grows.drew ?_ | assumption | (refine Grows.set ?_ (by first | omega | (simp; done) | (simp; omega)) _))))); clear hK K))) | (refine gLex_undef rfl rfl rfl (by kernel_rfl) (fun K hK => ?_); go_simp; refine hK _ ?_; clear hK K) | (refine gLex_ask rfl rfl rfl ?_; first | (apply gAsk_yes; kernel_rfl; intro K hK; (go_simp; (try (simp only [↓IntWalk.iteOmega]; try go_simp)); (try simp (disch := omega) only [IntWalk.i64_in]); (try simp (disch := omega) only [IntWalk.u64_in]); first | (refine hK _ ?_; clear hK K) | (apply Exists.intro; refine ⟨fun x => ?_, hK _ ?_⟩; (first | (go_at_call 31; exact KJ.out _ (by repeat (first | exact Grows.refl _ | refine Grows.now ?_ _ | refine Grows.new ?_ _ | refine Grows.drewN ?_ _ | refine Grows.drew ?_ | assumption | (refine Grows.set ?_ (by first | omega | (simp; done) | (simp; omega)) _))))); clear hK K))) | ((first | apply gAsk_no1 | apply gAsk_no2); kernel_rfl; intro K hK; simp [go_sem]; refine hK _ ?_; clear hK K) | (apply gAsk_part; kernel_rfl; all_goals (intro h K hK; (try simp only [Bool.not_true] at h); (try simp only [Bool.not_false] at h); (try simp only [decide_eq_true_eq] at h); (try simp only [decide_eq_false_iff_not] at h); first | (exfalso; first | contradiction | omega) | (go_simp; (try (simp only [↓IntWalk.iteOmega]; try go_simp)); (try simp (disch := omega) only [IntWalk.i64_in]); (try simp (disch := omega) only [IntWalk.u64_in]); first | (refine hK _ ?_; clear hK K) | (apply Exists.intro; refine ⟨fun x => ?_, hK _ ?_⟩; (first | (go_at_call 31; exact KJ.out _ (by repeat (first | exact Grows.refl _ | refine Grows.now ?_ _ | refine Grows.new ?_ _ | refine Grows.drewN ?_ _ | refine Grows.drew ?_ | assumption | (refine Grows.set ?_ (by first | omega | (simp; done) | (simp; omega)) _))))); clear hK K))))))); all_goals ((apply gLex_end); intro x3))
                        go_wp2_with fail
                        go_roundw
                        case measure => simp [Go.RowKit.intOf]; omega
                        case rel => exact ⟨j + 1, by omega, by go_num, by rw [HB1.out], by rw [HB2.out], by rw [HB3.out], by rw [HB4.out], ⟨_, (by repeat (first | exact Grows.refl _ | refine Grows.now ?_ _ | refine Grows.new ?_ _ | refine Grows.drewN ?_ _ | refine Grows.drew ?_ | assumption | (refine Grows.set ?_ (by first | omega | (simp; done) | (simp; omega)) _)))⟩, rfl⟩
                      · skip
                        have p1 : okS D P v j = true := by show (okD P j && decide ((ge D j).f = (v : Int))) = _; rw [show okD P j = true from decide_eq_true hr, decide_eq_true h1]; rfl
                        have p2 : okT D P v j = false := by show (okD P j && decide ((ge D j).t = (v : Int))) = _; rw [show okD P j = true from decide_eq_true hr, decide_eq_false h2]; rfl
                        have HB1 := hide (show accW (okS D P v) (dW D) bs (j + 1) = _ from accW_yes p1)
                        have HB2 := hide (show accW (okT D P v) (dW D) bt (j + 1) = _ from accW_not p2)
                        have HB3 := hide (show accW (okS D P v) (dW D) ai (j + 1) = _ from accW_yes p1)
                        have HB4 := hide (show accW (okT D P v) (dW D) ao (j + 1) = _ from accW_not p2)
                        rw [hw] at HB1 HB3
                        have b0 : ((P j).2.2 == 0) = true := by simp [hr]
                        have b1 : ((ge D j).f == (v : Int)) = true := by simp [h1]
                        have b2 : ((ge D j).t == (v : Int)) = false := beq_eq_false_iff_ne.2 h2
                        clear p1 p2 hw hr HBE1 HBE2 HBV K7 h1 h2
                        generalize accW (okS D P v) (dW D) bs j = a1 at *
                        generalize accW (okT D P v) (dW D) bt j = a2 at *
                        generalize accW (okS D P v) (dW D) ai j = a3 at *
                        generalize accW (okT D P v) (dW D) ao j = a4 at *
                        go_wp2_with fail
                        ((first | refine wp_region_gen (by kernel_rfl) (by kernel_rfl) ?_); (repeat' (first | (refine gLex_val0 rfl (by kernel_rfl) (fun K hK => ?_); (go_simp; (try (simp only [↓IntWalk.iteOmega]; try go_simp)); (try simp (disch := omega) only [IntWalk.i64_in]); (try simp (disch := omega) only [IntWalk.u64_in]); first | (refine hK _ ?_; clear hK K) | (apply Exists.intro; refine ⟨fun x => ?_, hK _ ?_⟩; (first | (go_at_call 31; exact KJ.out _ (by repeat (first | exact Grows.refl _ | refine Grows.now ?_ _ | refine Grows.new ?_ _ | refine Grows.drewN ?_ _ | refine Grows.drew ?_ | assumption | (refine Grows.set ?_ (by first | omega | (simp; done) | (simp; omega)) _))))); clear hK K))) | (refine gLex_undef rfl rfl rfl (by kernel_rfl) (fun K hK => ?_); go_simp; refine hK _ ?_; clear hK K) | (refine gLex_ask rfl rfl rfl ?_; first | (apply gAsk_yes; kernel_rfl; intro K hK; (go_simp; (try (simp only [↓IntWalk.iteOmega]; try go_simp)); (try simp (disch := omega) only [IntWalk.i64_in]); (try simp (disch := omega) only [IntWalk.u64_in]); first | (refine hK _ ?_; clear hK K) | (apply Exists.intro; refine ⟨fun x => ?_, hK _ ?_⟩; (first | (go_at_call 31; exact KJ.out _ (by repeat (first | exact Grows.refl _ | refine Grows.now ?_ _ | refine Grows.new ?_ _ | refine Grows.drewN ?_ _ | refine Grows.drew ?_ | assumption | (refine Grows.set ?_ (by first | omega | (simp; done) | (simp; omega)) _))))); clear hK K))) | ((first | apply gAsk_no1 | apply gAsk_no2); kernel_rfl; intro K hK; simp [go_sem]; refine hK _ ?_; clear hK K) | (apply gAsk_part; kernel_rfl; all_goals (intro h K hK; (try simp only [Bool.not_true] at h); (try simp only [Bool.not_false] at h); (try simp only [decide_eq_true_eq] at h); (try simp only [decide_eq_false_iff_not] at h); first | (exfalso; first | contradiction | omega) | (go_simp; (try (simp only [↓IntWalk.iteOmega]; try go_simp)); (try simp (disch := omega) only [IntWalk.i64_in]); (try simp (disch := omega) only [IntWalk.u64_in]); first | (refine hK _ ?_; clear hK K) | (apply Exists.intro; refine ⟨fun x => ?_, hK _ ?_⟩; (first | (go_at_call 31; exact KJ.out _ (by repeat (first | exact Grows.refl _ | refine Grows.now ?_ _ | refine Grows.new ?_ _ | refine Grows.drewN ?_ _ | refine Grows.drew ?_ | assumption | (refine Grows.set ?_ (by first | omega | (simp; done) | (simp; omega)) _))))); clear hK K))))))); all_goals ((apply gLex_end); intro x3))
                        go_wp2_with fail
                        go_roundw
                        case measure => simp [Go.RowKit.intOf]; omega
                        case rel => exact ⟨j + 1, by omega, by go_num, by rw [HB1.out], by rw [HB2.out], by rw [HB3.out], by rw [HB4.out], ⟨_, (by repeat (first | exact Grows.refl _ | refine Grows.now ?_ _ | refine Grows.new ?_ _ | refine Grows.drewN ?_ _ | refine Grows.drew ?_ | assumption | (refine Grows.set ?_ (by first | omega | (simp; done) | (simp; omega)) _)))⟩, rfl⟩
                    · by_cases h2 : (ge D j).t = (v : Int)
                      · skip
                        have p1 : okS D P v j = false := by show (okD P j && decide ((ge D j).f = (v : Int))) = _; rw [show okD P j = true from decide_eq_true hr, decide_eq_false h1]; rfl
                        have p2 : okT D P v j = true := by show (okD P j && decide ((ge D j).t = (v : Int))) = _; rw [show okD P j = true from decide_eq_true hr, decide_eq_true h2]; rfl
                        have HB1 := hide (show accW (okS D P v) (dW D) bs (j + 1) = _ from accW_not p1)
                        have HB2 := hide (show accW (okT D P v) (dW D) bt (j + 1) = _ from accW_yes p2)
                        have HB3 := hide (show accW (okS D P v) (dW D) ai (j + 1) = _ from accW_not p1)
                        have HB4 := hide (show accW (okT D P v) (dW D) ao (j + 1) = _ from accW_yes p2)
                        rw [hw] at HB2 HB4
                        have b0 : ((P j).2.2 == 0) = true := by simp [hr]
                        have b1 : ((ge D j).f == (v : Int)) = false := beq_eq_false_iff_ne.2 h1
                        have b2 : ((ge D j).t == (v : Int)) = true := by simp [h2]
                        clear p1 p2 hw hr HBE1 HBE2 HBV K7 h1 h2
                        generalize accW (okS D P v) (dW D) bs j = a1 at *
                        generalize accW (okT D P v) (dW D) bt j = a2 at *
                        generalize accW (okS D P v) (dW D) ai j = a3 at *
                        generalize accW (okT D P v) (dW D) ao j = a4 at *
                        go_wp2_with fail
                        ((first | refine wp_region_gen (by kernel_rfl) (by kernel_rfl) ?_); (repeat' (first | (refine gLex_val0 rfl (by kernel_rfl) (fun K hK => ?_); (go_simp; (try (simp only [↓IntWalk.iteOmega]; try go_simp)); (try simp (disch := omega) only [IntWalk.i64_in]); (try simp (disch := omega) only [IntWalk.u64_in]); first | (refine hK _ ?_; clear hK K) | (apply Exists.intro; refine ⟨fun x => ?_, hK _ ?_⟩; (first | (go_at_call 31; exact KJ.out _ (by repeat (first | exact Grows.refl _ | refine Grows.now ?_ _ | refine Grows.new ?_ _ | refine Grows.drewN ?_ _ | refine Grows.drew ?_ | assumption | (refine Grows.set ?_ (by first | omega | (simp; done) | (simp; omega)) _))))); clear hK K))) | (refine gLex_undef rfl rfl rfl (by kernel_rfl) (fun K hK => ?_); go_simp; refine hK _ ?_; clear hK K) | (refine gLex_ask rfl rfl rfl ?_; first | (apply gAsk_yes; kernel_rfl; intro K hK; (go_simp; (try (simp only [↓IntWalk.iteOmega]; try go_simp)); (try simp (disch := omega) only [IntWalk.i64_in]); (try simp (disch := omega) only [IntWalk.u64_in]); first | (refine hK _ ?_; clear hK K) | (apply Exists.intro; refine ⟨fun x => ?_, hK _ ?_⟩; (first | (go_at_call 31; exact KJ.out _ (by repeat (first | exact Grows.refl _ | refine Grows.now ?_ _ | refine Grows.new ?_ _ | refine Grows.drewN ?_ _ | refine Grows.drew ?_ | assumption | (refine Grows.set ?_ (by first | omega | (simp; done) | (simp; omega)) _))))); clear hK K))) | ((first | apply gAsk_no1 | apply gAsk_no2); kernel_rfl; intro K hK; simp [go_sem]; refine hK _ ?_; clear hK K) | (apply gAsk_part; kernel_rfl; all_goals (intro h K hK; (try simp only [Bool.not_true] at h); (try simp only [Bool.not_false] at h); (try simp only [decide_eq_true_eq] at h); (try simp only [decide_eq_false_iff_not] at h); first | (exfalso; first | contradiction | omega) | (go_simp; (try (simp only [↓IntWalk.iteOmega]; try go_simp)); (try simp (disch := omega) only [IntWalk.i64_in]); (try simp (disch := omega) only [IntWalk.u64_in]); first | (refine hK _ ?_; clear hK K) | (apply Exists.intro; refine ⟨fun x => ?_, hK _ ?_⟩; (first | (go_at_call 31; exact KJ.out _ (by repeat (first | exact Grows.refl _ | refine Grows.now ?_ _ | refine Grows.new ?_ _ | refine Grows.drewN ?_ _ | refine Grows.drew ?_ | assumption | (refine Grows.set ?_ (by first | omega | (simp; done) | (simp; omega)) _))))); clear hK K))))))); all_goals ((apply gLex_end); intro x3))
                        go_wp2_with fail
                        go_roundw
                        case measure => simp [Go.RowKit.intOf]; omega
                        case rel => exact ⟨j + 1, by omega, by go_num, by rw [HB1.out], by rw [HB2.out], by rw [HB3.out], by rw [HB4.out], ⟨_, (by repeat (first | exact Grows.refl _ | refine Grows.now ?_ _ | refine Grows.new ?_ _ | refine Grows.drewN ?_ _ | refine Grows.drew ?_ | assumption | (refine Grows.set ?_ (by first | omega | (simp; done) | (simp; omega)) _)))⟩, rfl⟩
                      · skip
                        have p1 : okS D P v j = false := by show (okD P j && decide ((ge D j).f = (v : Int))) = _; rw [show okD P j = true from decide_eq_true hr, decide_eq_false h1]; rfl
                        have p2 : okT D P v j = false := by show (okD P j && decide ((ge D j).t = (v : Int))) = _; rw [show okD P j = true from decide_eq_true hr, decide_eq_false h2]; rfl
                        have HB1 := hide (show accW (okS D P v) (dW D) bs (j + 1) = _ from accW_not p1)
                        have HB2 := hide (show accW (okT D P v) (dW D) bt (j + 1) = _ from accW_not p2)
                        have HB3 := hide (show accW (okS D P v) (dW D) ai (j + 1) = _ from accW_not p1)
                        have HB4 := hide (show accW (okT D P v) (dW D) ao (j + 1) = _ from accW_not p2)
                        skip
                        have b0 : ((P j).2.2 == 0) = true := by simp [hr]
                        have b1 : ((ge D j).f == (v : Int)) = false := beq_eq_false_iff_ne.2 h1
                        have b2 : ((ge D j).t == (v : Int)) = false := beq_eq_false_iff_ne.2 h2
                        clear p1 p2 hw hr HBE1 HBE2 HBV K7 h1 h2
                        generalize accW (okS D P v) (dW D) bs j = a1 at *
                        generalize accW (okT D P v) (dW D) bt j = a2 at *
                        generalize accW (okS D P v) (dW D) ai j = a3 at *
                        generalize accW (okT D P v) (dW D) ao j = a4 at *
                        go_wp2_with fail
                        ((first | refine wp_region_gen (by kernel_rfl) (by kernel_rfl) ?_); (repeat' (first | (refine gLex_val0 rfl (by kernel_rfl) (fun K hK => ?_); (go_simp; (try (simp only [↓IntWalk.iteOmega]; try go_simp)); (try simp (disch := omega) only [IntWalk.i64_in]); (try simp (disch := omega) only [IntWalk.u64_in]); first | (refine hK _ ?_; clear hK K) | (apply Exists.intro; refine ⟨fun x => ?_, hK _ ?_⟩; (first | (go_at_call 31; exact KJ.out _ (by repeat (first | exact Grows.refl _ | refine Grows.now ?_ _ | refine Grows.new ?_ _ | refine Grows.drewN ?_ _ | refine Grows.drew ?_ | assumption | (refine Grows.set ?_ (by first | omega | (simp; done) | (simp; omega)) _))))); clear hK K))) | (refine gLex_undef rfl rfl rfl (by kernel_rfl) (fun K hK => ?_); go_simp; refine hK _ ?_; clear hK K) | (refine gLex_ask rfl rfl rfl ?_; first | (apply gAsk_yes; kernel_rfl; intro K hK; (go_simp; (try (simp only [↓IntWalk.iteOmega]; try go_simp)); (try simp (disch := omega) only [IntWalk.i64_in]); (try simp (disch := omega) only [IntWalk.u64_in]); first | (refine hK _ ?_; clear hK K) | (apply Exists.intro; refine ⟨fun x => ?_, hK _ ?_⟩; (first | (go_at_call 31; exact KJ.out _ (by repeat (first | exact Grows.refl _ | refine Grows.now ?_ _ | refine Grows.new ?_ _ | refine Grows.drewN ?_ _ | refine Grows.drew ?_ | assumption | (refine Grows.set ?_ (by first | omega | (simp; done) | (simp; omega)) _))))); clear hK K))) | ((first | apply gAsk_no1 | apply gAsk_no2); kernel_rfl; intro K hK; simp [go_sem]; refine hK _ ?_; clear hK K) | (apply gAsk_part; kernel_rfl; all_goals (intro h K hK; (try simp only [Bool.not_true] at h); (try simp only [Bool.not_false] at h); (try simp only [decide_eq_true_eq] at h); (try simp only [decide_eq_false_iff_not] at h); first | (exfalso; first | contradiction | omega) | (go_simp; (try (simp only [↓IntWalk.iteOmega]; try go_simp)); (try simp (disch := omega) only [IntWalk.i64_in]); (try simp (disch := omega) only [IntWalk.u64_in]); first | (refine hK _ ?_; clear hK K) | (apply Exists.intro; refine ⟨fun x => ?_, hK _ ?_⟩; (first | (go_at_call 31; exact KJ.out _ (by repeat (first | exact Grows.refl _ | refine Grows.now ?_ _ | refine Grows.new ?_ _ | refine Grows.drewN ?_ _ | refine Grows.drew ?_ | assumption | (refine Grows.set ?_ (by first | omega | (simp; done) | (simp; omega)) _))))); clear hK K))))))); all_goals ((apply gLex_end); intro x3))
                        go_wp2_with fail
                        go_roundw
                        case measure => simp [Go.RowKit.intOf]; omega
                        case rel => exact ⟨j + 1, by omega, by go_num, by rw [HB1.out], by rw [HB2.out], by rw [HB3.out], by rw [HB4.out], ⟨_, (by repeat (first | exact Grows.refl _ | refine Grows.now ?_ _ | refine Grows.new ?_ _ | refine Grows.drewN ?_ _ | refine Grows.drew ?_ | assumption | (refine Grows.set ?_ (by first | omega | (simp; done) | (simp; omega)) _)))⟩, rfl⟩
                  · skip
                    have p1 : okS D P v j = false := by show (okD P j && decide ((ge D j).f = (v : Int))) = _; rw [show okD P j = false from decide_eq_false hr]; rfl
                    have p2 : okT D P v j = false := by show (okD P j && decide ((ge D j).t = (v : Int))) = _; rw [show okD P j = false from decide_eq_false hr]; rfl
                    have HB1 := hide (show accW (okS D P v) (dW D) bs (j + 1) = _ from accW_not p1)
                    have HB2 := hide (show accW (okT D P v) (dW D) bt (j + 1) = _ from accW_not p2)
                    have HB3 := hide (show accW (okS D P v) (dW D) ai (j + 1) = _ from accW_not p1)
                    have HB4 := hide (show accW (okT D P v) (dW D) ao (j + 1) = _ from accW_not p2)
                    skip
                    have b0 : ((P j).2.2 == 0) = false := beq_eq_false_iff_ne.2 hr
                    clear p1 p2 hw hr HBE1 HBE2 HBV K7
                    generalize accW (okS D P v) (dW D) bs j = a1 at *
                    generalize accW (okT D P v) (dW D) bt j = a2 at *
                    generalize accW (okS D P v) (dW D) ai j = a3 at *
                    generalize accW (okT D P v) (dW D) ao j = a4 at *
                    go_wp2_with fail
                    ((first | refine wp_region_gen (by kernel_rfl) (by kernel_rfl) ?_); (repeat' (first | (refine gLex_val0 rfl (by kernel_rfl) (fun K hK => ?_); (go_simp; (try (simp only [↓IntWalk.iteOmega]; try go_simp)); (try simp (disch := omega) only [IntWalk.i64_in]); (try simp (disch := omega) only [IntWalk.u64_in]); first | (refine hK _ ?_; clear hK K) | (apply Exists.intro; refine ⟨fun x => ?_, hK _ ?_⟩; (first | (go_at_call 31; exact KJ.out _ (by repeat (first | exact Grows.refl _ | refine Grows.now ?_ _ | refine Grows.new ?_ _ | refine Grows.drewN ?_ _ | refine Grows.drew ?_ | assumption | (refine Grows.set ?_ (by first | omega | (simp; done) | (simp; omega)) _))))); clear hK K))) | (refine gLex_undef rfl rfl rfl (by kernel_rfl) (fun K hK => ?_); go_simp; refine hK _ ?_; clear hK K) | (refine gLex_ask rfl rfl rfl ?_; first | (apply gAsk_yes; kernel_rfl; intro K hK; (go_simp; (try (simp only [↓IntWalk.iteOmega]; try go_simp)); (try simp (disch := omega) only [IntWalk.i64_in]); (try simp (disch := omega) only [IntWalk.u64_in]); first | (refine hK _ ?_; clear hK K) | (apply Exists.intro; refine ⟨fun x => ?_, hK _ ?_⟩; (first | (go_at_call 31; exact KJ.out _ (by repeat (first | exact Grows.refl _ | refine Grows.now ?_ _ | refine Grows.new ?_ _ | refine Grows.drewN ?_ _ | refine Grows.drew ?_ | assumption | (refine Grows.set ?_ (by first | omega | (simp; done) | (simp; omega)) _))))); clear hK K))) | ((first | apply gAsk_no1 | apply gAsk_no2); kernel_rfl; intro K hK; simp [go_sem]; refine hK _ ?_; clear hK K) | (apply gAsk_part; kernel_rfl; all_goals (intro h K hK; (try simp only [Bool.not_true] at h); (try simp only [Bool.not_false] at h); (try simp only [decide_eq_true_eq] at h); (try simp only [decide_eq_false_iff_not] at h); first | (exfalso; first | contradiction | omega) | (go_simp; (try (simp only [↓IntWalk.iteOmega]; try go_simp)); (try simp (disch := omega) only [IntWalk.i64_in]); (try simp (disch := omega) only [IntWalk.u64_in]); first | (refine hK _ ?_; clear hK K) | (apply Exists.intro; refine ⟨fun x => ?_, hK _ ?_⟩; (first | (go_at_call 31; exact KJ.out _ (by repeat (first | exact Grows.refl _ | refine Grows.now ?_ _ | refine Grows.new ?_ _ | refine Grows.drewN ?_ _ | refine Grows.drew ?_ | assumption | (refine Grows.set ?_ (by first | omega | (simp; done) | (simp; omega)) _))))); clear hK K))))))); all_goals ((apply gLex_end); intro x3))
                    go_wp2_with fail
                    go_roundw
                    case measure => simp [Go.RowKit.intOf]; omega
                    case rel => exact ⟨j + 1, by omega, by go_num, by rw [HB1.out], by rw [HB2.out], by rw [HB3.out], by rw [HB4.out], ⟨_, (by repeat (first | exact Grows.refl _ | refine Grows.now ?_ _ | refine Grows.new ?_ _ | refine Grows.drewN ?_ _ | refine Grows.drew ?_ | assumption | (refine Grows.set ?_ (by first | omega | (simp; done) | (simp; omega)) _)))⟩, rfl⟩
                · obtain rfl : j = D.length := by omega
                  have hdj : decide ((D.length : Int) < (D.length : Int)) = false := decide_eq_false (by omega)
                  have hbv := HBV.out
                  rw [hbv]
                  clear hbv HBV
                  generalize accW (okT D P v) (dW D) ao D.length = ao2 at *
                  have hne9 : (ao2 != ao2) = false := by simp
                  have hw1 := HBE1
                  have hw2 := HBE2
                  generalize accW (okS D P v) (dW D) bs D.length = bs2 at *
                  generalize accW (okT D P v) (dW D) bt D.length = bt2 at *
                  go_wp2_with fail
                  go_roundw
                  case measure => have := HVN.out; simp [Go.RowKit.intOf]; omega
                  case rel => exact ⟨v + 1, by have := HVN.out; omega, by go_num, by rw [HBE1.out], by rw [HBE2.out], x2, rfl⟩
        · obtain rfl : v = NN := by omega
          have hdv : decide ((v : Int) < (v : Int)) = false := decide_eq_false (by omega)
          obtain ⟨hall1, hall2⟩ := HALL.out
          rw [← hall1]
          have HA2 := hide hall2
          clear hall1 hall2 HALL HBAL K7
          generalize begW (fun v => okS D P v) (dW D) D.length v = bs at *
          go_wp2_with fail
          go_loopw [16, 17] (fun s16 s17 wr => ∃ j : Nat, j ≤ D.length ∧ s17 = .int .i64 (j : Int) ∧ s16 = .int .u64 (accW (fun _ => true) (dW D) 0 j) ∧ ∃ x : Later y3.now, wr = x.now) (fun _ s17 _ => D.length - (Go.RowKit.intOf s17).toNat)
          case atStart => exact ⟨0, by omega, by go_num, rfl, x, rfl⟩
          case round =>
            obtain ⟨j, hj, rfl, rfl, x2, rfl⟩ := hrel
            by_cases hjl : j < D.length
            · obtain ⟨bD, oD, rfl, hcD⟩ := HD.out.edgesH (by omega)
              obtain ⟨d1, d2, d3⟩ := hcD j hjl
              have hdj : decide ((j : Int) < (D.length : Int)) = true := decide_eq_true (by omega)
              have HB1 := hide (show accW (fun _ => true) (dW D) 0 (j + 1) = IntKind.u64.wrap (accW (fun _ => true) (dW D) 0 j + (ge D j).w) from accW_yes rfl)
              clear hcD
              generalize accW (fun _ => true) (dW D) 0 j = a1 at *
              go_wp2_with fail
              go_roundw
              case measure => simp [Go.RowKit.intOf]; omega
              case rel => exact ⟨j + 1, by omega, by go_num, by rw [HB1.out], x2, rfl⟩
            · obtain rfl : j = D.length := by omega
              have hdj : decide ((D.length : Int) < (D.length : Int)) = false := decide_eq_false (by omega)
              rw [← HA2.out]
              clear HA2
              have hbb : (bs == bs) = true := by simp
              have hbb2 : (IntKind.u64.wrap (bs + S.2) == IntKind.u64.wrap (bs + S.2)) = true := by simp
              go_wp2_with fail
              refine (alive47 _).mono ?_; rintro e w' ⟨rfl, hg⟩; obtain ⟨x7, hx7⟩ : ∃ x7 : Later x2.now, w' = x7.now := hg.later; subst hx7; clear hg
              go_wp2_with fail
              go_ret
              exact ⟨rfl, (by repeat (first | exact Grows.refl _ | refine Grows.now ?_ _ | refine Grows.new ?_ _ | refine Grows.drewN ?_ _ | refine Grows.drew ?_ | assumption | (refine Grows.set ?_ (by first | omega | (simp; done) | (simp; omega)) _)))⟩
end Go.Proofs.Ythjcbboignmknaa

/- The law FlowBalance: for every input it returns true, and each argument reads as before. No condition. -/
namespace Go.Proofs.Ythjcbboignmknaa.lawFlowBalance
open Go Go.ChangeShapes Go.WideShapes Go.ChangeAt Go.RowKit Go.Proofs.Ythjcbboignmknaa

theorem own : ownKnob Try.prog.godebug = none := by kernel_rfl
theorem laidOut : laidOutB Try.prog = true := by kernel_rfl

set_option maxRecDepth 100000 in
theorem lifted (os : Os) (started : os.Started) (H : Type) (enc : TypeId × Value → H) :
    ReturnsInHanded {} Try.checked os 8 .any (Rows.flowBalanceSpec.pre6 enc Try.prog Try.f8 Rows.flowBalanceRow.domain false) (Rows.flowBalanceSpec.post enc Try.prog Try.f8 false true false false) := by
  refine returnsInHanded_of_change (C := Try.checked) own started (by kernel_rfl) Try.func8
    (ChangeSpec.witness6 (enc := enc) (C := Try.checked) false ⟨#[], #[.agg #[.int .i64 0, .slice none 0 0], .slice none 0 0], []⟩ 8 (by kernel_rfl) (by kernel_rfl) (by kernel_rfl) (by kernel_rfl)) ?_
  intro W base args ds gs before hval0 hW hcnd _
  have hval : ∀ (j : Nat) t v, Try.f8.params[j]? = some t → args[j]? = some v → Value.okWide Try.prog W .any base t v := hval0
  have hW' := hW
  obtain ⟨p, q, hA0, hV, rfl, hfz, hnd⟩ := hW
  have hA : DataW.TrodAll enc Try.prog W 0 (fun _ => true) true Try.f8.params.toList args.toList ds p := hA0
  rw [Try.params8] at hA hval
  obtain ⟨v0, vs0, d0, ds0, p0, q0, hargs, rfl, rfl, h0, r0⟩ := trodAll_cons hA
  obtain ⟨v1, vs1, d1, ds1, p1, q1, rfl, rfl, rfl, h1, r1⟩ := trodAll_cons r0
  obtain ⟨rfl, rfl, rfl⟩ := trodAll_nil r1
  obtain rfl : args = #[v0, v1] := by cases args; simp_all
  obtain ⟨rfl, rfl⟩ := trodVars_none hV
  have k0 := h0
  have lt0 : ∀ x ∈ p0, x.block < W.heap.size := by obtain ⟨m, hm⟩ := k0; exact DataW.trod_lt m _ _ _ hm
  obtain ⟨a0, A0, n0, c0, z0, rfl, x0, l0, w0, u0⟩ := open_graph Try.underlying24 Try.underlying3 Try.underlying22 Try.underlying62 Try.underlying3 Try.underlying3 Try.underlying37 ⟨rfl, rfl, rfl⟩ ⟨by kernel_rfl, by kernel_rfl, by kernel_rfl⟩ (by kernel_rfl) (by kernel_rfl) (by kernel_rfl) (hval 0 24 v0 rfl rfl) h0
  have k1 := h1
  have lt1 : ∀ x ∈ p1, x.block < W.heap.size := by obtain ⟨m, hm⟩ := k1; exact DataW.trod_lt m _ _ _ hm
  obtain ⟨A1, n1, c1, z1, rfl, l1, w1, u1⟩ := open_dems Try.underlying65 Try.underlying81 Try.underlying3 Try.underlying3 Try.underlying37 ⟨rfl, rfl, rfl⟩ ⟨by kernel_rfl, by kernel_rfl, by kernel_rfl⟩ (by kernel_rfl) (hval 1 65 v1 rfl rfl) h1
  clear hA0 hval0
  refine (flowBalanceW a0 A0 n0 c0 z0 A1 n1 c1 z1 W x0 l0 w0 u0 l1 w1 u1).mono fun e W' ⟨he, bel⟩ => ?_
  subst he
  exact ⟨_, rfl, _, _, _, [], _, [], hW', trodAll_mk1 (shut_bool Try.underlying4 _), (trodAll_cons_mk (Below.trod laidOut (by kernel_rfl) (of_decide_eq_true (by kernel_rfl)) k0 bel lt0) (trodAll_cons_mk (Below.trod laidOut (by kernel_rfl) (of_decide_eq_true (by kernel_rfl)) k1 bel lt1) trodAll_mk0)), rfl, Below.frame bel _, fun h => by cases h⟩

theorem over : Rows.flowBalanceRow.holds Try.pinned (OpenSpec.ofChange Rows.flowBalanceSpec) :=
  OpenClaim.holds_of_wide 8 Try.f8 rfl rfl rfl rfl rfl rfl rfl ⟨rfl, rfl, rfl, rfl, rfl⟩ rfl rfl rfl rfl rfl (by kernel_rfl) Try.func8 (by kernel_rfl)
    (of_decide_eq_true (by kernel_rfl)) (by unfold Func.isWrapper; first | (rw [if_pos (by decide +kernel)]; kernel_rfl) | (rw [if_neg (by decide +kernel)]; exact ⟨rfl, rfl⟩))
    (fun os started H enc _ => lifted os started H enc)

end Go.Proofs.Ythjcbboignmknaa.lawFlowBalance
namespace Go.Proofs.Ythjcbboignmknaa
/-- The statement. -/
theorem flowBalance_proved : Rows.FlowBalanceSaid := lawFlowBalance.over
#print axioms flowBalance_proved
end Go.Proofs.Ythjcbboignmknaa
