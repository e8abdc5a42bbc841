/- Contract: the answer's stretches. -/
import Derived.Test.YtpnncadglhlclaaStPlain
import Derived.Test.YtpnncadglhlclaaOwn3
namespace Go.Proofs.Ytpnncadglhlclaa
open Go Go.RowKit Go.Maps
theorem ruN_in {q : Int → Bool} {l : List Int} : ∀ (d i j : Nat), i + d = l.length → i ≤ j → j < ruN q l i → j < l.length ∧ q (gi l j) = true := by
  intro d
  induction d with
  | zero => intro i j hi h1 h2; rw [ruN_no (fun h => by omega)] at h2; omega
  | succ d ih =>
    intro i j hi h1 h2
    cases hqi : q (gi l i) with
    | true =>
      by_cases hj : j = i
      · subst hj; exact ⟨by omega, hqi⟩
      · rw [ruN_yes (by omega) hqi] at h2
        exact ih (i + 1) j (by omega) (by omega) h2
    | false => rw [ruN_no (fun _ => hqi)] at h2; omega
theorem ruN_end {q : Int → Bool} {l : List Int} {i : Nat} (h : ruN q l i < l.length) : q (gi l (ruN q l i)) = false := by
  cases hq : q (gi l (ruN q l i)) with
  | false => rfl
  | true =>
    exfalso
    have key : ∀ d i, i + d = l.length → ruN q l i < l.length → q (gi l (ruN q l i)) = true → False := by
      intro d
      induction d with
      | zero => intro i hi h1 _; have := ruN_ge q l i; omega
      | succ d ih =>
        intro i hi h1 h2
        cases hqi : q (gi l i) with
        | true =>
          have := ruN_yes (by omega) hqi
          rw [this] at h1 h2
          exact ih (i + 1) (by omega) h1 h2
        | false =>
          have := ruN_no (l := l) (i := i) (fun _ => hqi)
          rw [this, hqi] at h2
          cases h2
    have := ruN_ge q l i
    exact key (l.length - i) i (by omega) h hq
set_option maxRecDepth 20000 in
set_option maxHeartbeats 4000000 in
theorem r26Stretches (A : Option Addr) (n c : Nat) (l : List Int) (B : Option Addr) (m d : Nat) (other : List Int) (w : World) (h : Rd w A 1 n (l.map (.int .i64))) (hn : n ≤ 1000000) (h' : Rd w B 1 m (other.map (.int .i64))) (hm : m ≤ 1000000) :
    Calls Try.prog 53 #[.slice A n c, .slice B m d] w (StPost w l other) := by
  have HL := hide (show l.length = n by simpa using h.len)
  have HR := hide h
  have C1 := fun (W : World) (g : Grows w W) v => r1Has B m d other v W (h'.grows g) hm
  have HP := hide (st_plain (fun z => decide (z ∈ other)) l)
  have HH := hide C1
  clear h h' C1
  go_enter Try.func53, Try.ntmps53
  go_wp2
  go_loopw [6, 5] (fun i u wr => ∃ k : Nat, k ≤ n ∧ i = .int .i64 (k : Int) ∧ ∃ y : Later w, wr = y.now ∧ ∃ A' c' s, u = .slice A' s c' ∧ Hid (s = (rfK (fun z => decide (z ∈ other)) l k).length) ∧ Own y.now w.heap.size 83 2 A' s c' (prCells (rfK (fun z => decide (z ∈ other)) l k))) (fun i _ _ => n - (intOf i).toNat)
  case atStart => exact ⟨0, by omega, by go_num, ⟨_, Grows.refl _⟩, rfl, none, 0, 0, rfl, rfl, Own.nil _ _ _ _⟩
  case round =>
    obtain ⟨k, hk, rfl, y, rfl, A', c', s, rfl, HS, hown⟩ := hrel
    have HO := hide hown
    clear hown
    by_cases hend : n ≤ k
    · have hkm : k = n := by omega
      subst hkm
      go_wp2
      go_ret
      refine ⟨w.heap.size, A', c', ?_, Nat.le_refl _, ?_, (by repeat (first | exact Grows.refl _ | refine Grows.now ?_ _ | refine Grows.new ?_ _ | refine Grows.drewN ?_ _ | refine Grows.drew ?_ | assumption | (refine Grows.set ?_ (by first | omega | (simp; done) | (simp; omega)) _)))⟩
      · rw [HP.out, HL.out, ← HS.out]; rfl
      · rw [HP.out, HL.out, ← HS.out]; exact HO.out
    · obtain ⟨b, off, rfl, hc⟩ := HR.out.intsH (by omega)
      have c1 := hc k (by omega)
      have HC := hide hc
      clear hc
      have HN := hide (rfK_succ (fun z => decide (z ∈ other)) l k)
      have hb : begB (fun z => decide (z ∈ other)) l k = (decide (gi l k ∈ other) && (decide (k = 0) || !decide (gi l (k - 1) ∈ other))) := rfl
      have C1 := fun W (g : Grows w W) => HH.out W g (gi l k)
      cases hq : decide (gi l k ∈ other) with
      | false =>
        have HN2 : Hid (rfK (fun z => decide (z ∈ other)) l (k + 1) = rfK (fun z => decide (z ∈ other)) l k) := by
          show _ = _
          rw [HN.out, hb, hq]; rfl
        rw [hq] at C1
        have H1 := hide C1
        clear C1 hb hq
        generalize gi l k = v at *
        go_wp2_with (go_at_call 79; refine (H1.out _ (by repeat (first | exact Grows.refl _ | refine Grows.now ?_ _ | refine Grows.new ?_ _ | refine Grows.drewN ?_ _ | refine Grows.drew ?_ | assumption | (refine Grows.set ?_ (by first | omega | (simp; done) | (simp; omega)) _)))).mono ?_; rintro e w' ⟨rfl, rfl⟩)
        exact ⟨⟨k + 1, by omega, by go_num, y, rfl, A', c', s, rfl, by rw [HN2.out]; exact HS, by rw [HN2.out]; exact HO.out⟩, by simp [intOf]; omega⟩
      | true =>
        rw [hq] at C1
        have H1 := hide C1
        cases hbg : begB (fun z => decide (z ∈ other)) l k with
        | false =>
          have HN2 : Hid (rfK (fun z => decide (z ∈ other)) l (k + 1) = rfK (fun z => decide (z ∈ other)) l k) := by
            show _ = _
            rw [HN.out, hbg]; rfl
          rw [hb, hq] at hbg
          have hk0 : 0 < k := by
            rcases Nat.eq_zero_or_pos k with h | h
            · subst h; simp at hbg
            · exact h
          have hp : decide (gi l (k - 1) ∈ other) = true := by
            have hk1 : ¬ k = 0 := by omega
            simpa [hk1] using hbg
          obtain ⟨k, rfl⟩ : ∃ j, k = j + 1 := ⟨k - 1, by omega⟩
          have c2 := HC.out k (by omega)
          rw [Nat.add_sub_cancel] at hp
          have C2 := fun W (g : Grows w W) => HH.out W g (gi l k)
          rw [hp] at C2
          have H2 := hide C2
          clear C1 C2 hb hq hbg hp
          generalize gi l (k + 1) = v at *
          generalize gi l k = u at *
          simp only [Int.natCast_add, Int.natCast_one]
          go_wp2_with (go_at_call 79; refine ((by first | with_reducible exact H1.out _ (by repeat (first | exact Grows.refl _ | refine Grows.now ?_ _ | refine Grows.new ?_ _ | refine Grows.drewN ?_ _ | refine Grows.drew ?_ | assumption | (refine Grows.set ?_ (by first | omega | (simp; done) | (simp; omega)) _))) | with_reducible exact H2.out _ (by repeat (first | exact Grows.refl _ | refine Grows.now ?_ _ | refine Grows.new ?_ _ | refine Grows.drewN ?_ _ | refine Grows.drew ?_ | assumption | (refine Grows.set ?_ (by first | omega | (simp; done) | (simp; omega)) _)))) : Calls _ _ _ _ _).mono ?_; rintro e w' ⟨rfl, rfl⟩)
          exact ⟨⟨k + 1 + 1, by omega, by go_num, y, rfl, A', c', s, rfl, by rw [HN2.out]; exact HS, by rw [HN2.out]; exact HO.out⟩, by simp [intOf]; omega⟩
        | true =>
          have HN2 : Hid (rfK (fun z => decide (z ∈ other)) l (k + 1) = rfK (fun z => decide (z ∈ other)) l k ++ [((k : Int), (ruN (fun z => decide (z ∈ other)) l k : Int))]) := by
            show _ = _
            rw [HN.out, hbg]; rfl
          have hle := rfK_len (fun z => decide (z ∈ other)) l k
          have hru1 := ruN_ge (fun z => decide (z ∈ other)) l k
          have hru2 := ruN_le (q := fun z => decide (z ∈ other)) (l := l) (i := k) (by rw [HL.out]; omega)
          have HIn := hide (fun j h1 h2 => ruN_in (q := fun z => decide (z ∈ other)) (l := l) (l.length - k) k j (by have := HL.out; omega) h1 h2)
          have HEn := hide (ruN_end (q := fun z => decide (z ∈ other)) (l := l) (i := k))
          have hs : s ≤ 1000000 := by have := HS.out; omega
          rw [HL.out] at hru2 HIn HEn
          rw [hb, hq] at hbg
          clear hle
          generalize ruN (fun z => decide (z ∈ other)) l k = r at *
          rcases Nat.eq_zero_or_pos k with hk0 | hk0
          · subst hk0
            clear C1 hb hq hbg
            generalize gi l 0 = v at *
            simp only [Int.natCast_zero] at *
            go_wp2_with (go_at_call 79; refine (H1.out _ (by repeat (first | exact Grows.refl _ | refine Grows.now ?_ _ | refine Grows.new ?_ _ | refine Grows.drewN ?_ _ | refine Grows.drew ?_ | assumption | (refine Grows.set ?_ (by first | omega | (simp; done) | (simp; omega)) _))) : Calls _ _ _ _ _).mono ?_; rintro e w' ⟨rfl, rfl⟩)
            go_loopw [7] (fun j wr => ∃ z : Nat, 0 ≤ z ∧ z ≤ r ∧ j = .int .i64 (z : Int) ∧ wr = y.now) (fun j _ => r - (intOf j).toNat)
            case atStart => exact ⟨0, by omega, by omega, by go_num, rfl⟩
            case round =>
              obtain ⟨z, hz1, hz2, rfl, rfl⟩ := hrel
              by_cases hz : z < r
              · obtain ⟨hz3, hz4⟩ := HIn.out z (by omega) hz
                have c3 := HC.out z hz3
                have C3 := fun W (g : Grows w W) => HH.out W g (gi l z)
                rw [hz4] at C3
                have H3 := hide C3
                clear C3 hz4
                generalize gi l z = zz at *
                go_wp2_with (go_at_call 79; refine (H3.out _ (by repeat (first | exact Grows.refl _ | refine Grows.now ?_ _ | refine Grows.new ?_ _ | refine Grows.drewN ?_ _ | refine Grows.drew ?_ | assumption | (refine Grows.set ?_ (by first | omega | (simp; done) | (simp; omega)) _)))).mono ?_; rintro e w' ⟨rfl, rfl⟩)
                all_goals first | (exfalso; omega) | skip
                exact ⟨⟨z + 1, by omega, by omega, by go_num, trivial⟩, by simp [intOf]; omega⟩
              · have hzr : z = r := by omega
                clear hz hz2
                subst hzr
                by_cases hzn : z < n
                · have hz4 := HEn.out hzn
                  have c3 := HC.out z hzn
                  have C3 := fun W (g : Grows w W) => HH.out W g (gi l z)
                  rw [hz4] at C3
                  have H3 := hide C3
                  clear C3 hz4
                  generalize gi l z = zz at *
                  go_wp2_with (first | (go_at_call 79; refine (H3.out _ (by repeat (first | exact Grows.refl _ | refine Grows.now ?_ _ | refine Grows.new ?_ _ | refine Grows.drewN ?_ _ | refine Grows.drew ?_ | assumption | (refine Grows.set ?_ (by first | omega | (simp; done) | (simp; omega)) _)))).mono ?_; rintro e w' ⟨rfl, rfl⟩) | (at_builtin; refine wp_appS elemPair rfl _ _ rfl _ (by repeat (first | exact Grows.refl _ | refine Grows.now ?_ _ | refine Grows.new ?_ _ | refine Grows.drewN ?_ _ | refine Grows.drew ?_ | assumption | (refine Grows.set ?_ (by first | omega | (simp; done) | (simp; omega)) _))) s c' A' _ rfl (HO.out.new _) _ _ [.int .i64 (0), .int .i64 z] rfl rfl (fun j u hu => by simpa using hu) (by intro u hu; simp at hu; rcases hu with rfl | rfl <;> rfl) (by omega) ?_; intro A3 c3' y3 hown3; have HO3 := hide hown3; clear hown3))
                  refine ⟨⟨0 + 1, by omega, by go_num, y3, rfl, A3, c3', s + 1, rfl, ?_, ?_⟩, by simp [intOf]; omega⟩
                  · rw [HN2.out]; show s + 1 = _; rw [List.length_append, HS.out]; rfl
                  · rw [HN2.out, prCells_app]; exact HO3.out
                · clear c1
                  go_wp2_with (at_builtin; refine wp_appS elemPair rfl _ _ rfl _ (by repeat (first | exact Grows.refl _ | refine Grows.now ?_ _ | refine Grows.new ?_ _ | refine Grows.drewN ?_ _ | refine Grows.drew ?_ | assumption | (refine Grows.set ?_ (by first | omega | (simp; done) | (simp; omega)) _))) s c' A' _ rfl (HO.out.new _) _ _ [.int .i64 (0), .int .i64 z] rfl rfl (fun j u hu => by simpa using hu) (by intro u hu; simp at hu; rcases hu with rfl | rfl <;> rfl) (by omega) ?_; intro A3 c3' y3 hown3; have HO3 := hide hown3; clear hown3)
                  refine ⟨⟨0 + 1, by omega, by go_num, y3, rfl, A3, c3', s + 1, rfl, ?_, ?_⟩, by simp [intOf]; omega⟩
                  · rw [HN2.out]; show s + 1 = _; rw [List.length_append, HS.out]; rfl
                  · rw [HN2.out, prCells_app]; exact HO3.out
          · obtain ⟨k, rfl⟩ : ∃ j, k = j + 1 := ⟨k - 1, by omega⟩
            have hp : decide (gi l k ∈ other) = false := by
              have hk1 : ¬ k + 1 = 0 := by omega
              simpa [hk1] using hbg
            have c2 := HC.out k (by omega)
            have C2 := fun W (g : Grows w W) => HH.out W g (gi l k)
            rw [hp] at C2
            have H2 := hide C2
            clear C1 C2 hb hq hbg hp
            generalize gi l (k + 1) = v at *
            generalize gi l k = u at *
            simp only [Int.natCast_add, Int.natCast_one]
            go_wp2_with (go_at_call 79; refine (by first | with_reducible exact H1.out _ (by repeat (first | exact Grows.refl _ | refine Grows.now ?_ _ | refine Grows.new ?_ _ | refine Grows.drewN ?_ _ | refine Grows.drew ?_ | assumption | (refine Grows.set ?_ (by first | omega | (simp; done) | (simp; omega)) _))) | with_reducible exact H2.out _ (by repeat (first | exact Grows.refl _ | refine Grows.now ?_ _ | refine Grows.new ?_ _ | refine Grows.drewN ?_ _ | refine Grows.drew ?_ | assumption | (refine Grows.set ?_ (by first | omega | (simp; done) | (simp; omega)) _))) : Calls _ _ _ _ _).mono ?_; rintro e w' ⟨rfl, rfl⟩)
            go_loopw [7] (fun j wr => ∃ z : Nat, (k + 1) ≤ z ∧ z ≤ r ∧ j = .int .i64 (z : Int) ∧ wr = y.now) (fun j _ => r - (intOf j).toNat)
            case atStart => exact ⟨(k + 1), by omega, by omega, by go_num, rfl⟩
            case round =>
              obtain ⟨z, hz1, hz2, rfl, rfl⟩ := hrel
              by_cases hz : z < r
              · obtain ⟨hz3, hz4⟩ := HIn.out z (by omega) hz
                have c3 := HC.out z hz3
                have C3 := fun W (g : Grows w W) => HH.out W g (gi l z)
                rw [hz4] at C3
                have H3 := hide C3
                clear C3 hz4
                generalize gi l z = zz at *
                go_wp2_with (go_at_call 79; refine (H3.out _ (by repeat (first | exact Grows.refl _ | refine Grows.now ?_ _ | refine Grows.new ?_ _ | refine Grows.drewN ?_ _ | refine Grows.drew ?_ | assumption | (refine Grows.set ?_ (by first | omega | (simp; done) | (simp; omega)) _)))).mono ?_; rintro e w' ⟨rfl, rfl⟩)
                all_goals first | (exfalso; omega) | skip
                exact ⟨⟨z + 1, by omega, by omega, by go_num, trivial⟩, by simp [intOf]; omega⟩
              · have hzr : z = r := by omega
                clear hz hz2
                subst hzr
                by_cases hzn : z < n
                · have hz4 := HEn.out hzn
                  have c3 := HC.out z hzn
                  have C3 := fun W (g : Grows w W) => HH.out W g (gi l z)
                  rw [hz4] at C3
                  have H3 := hide C3
                  clear C3 hz4
                  generalize gi l z = zz at *
                  go_wp2_with (first | (go_at_call 79; refine (H3.out _ (by repeat (first | exact Grows.refl _ | refine Grows.now ?_ _ | refine Grows.new ?_ _ | refine Grows.drewN ?_ _ | refine Grows.drew ?_ | assumption | (refine Grows.set ?_ (by first | omega | (simp; done) | (simp; omega)) _)))).mono ?_; rintro e w' ⟨rfl, rfl⟩) | (at_builtin; refine wp_appS elemPair rfl _ _ rfl _ (by repeat (first | exact Grows.refl _ | refine Grows.now ?_ _ | refine Grows.new ?_ _ | refine Grows.drewN ?_ _ | refine Grows.drew ?_ | assumption | (refine Grows.set ?_ (by first | omega | (simp; done) | (simp; omega)) _))) s c' A' _ rfl (HO.out.new _) _ _ [.int .i64 ((k : Int) + 1), .int .i64 z] rfl rfl (fun j u hu => by simpa using hu) (by intro u hu; simp at hu; rcases hu with rfl | rfl <;> rfl) (by omega) ?_; intro A3 c3' y3 hown3; have HO3 := hide hown3; clear hown3))
                  refine ⟨⟨(k + 1) + 1, by omega, by go_num, y3, rfl, A3, c3', s + 1, rfl, ?_, ?_⟩, by simp [intOf]; omega⟩
                  · rw [HN2.out]; show s + 1 = _; rw [List.length_append, HS.out]; rfl
                  · rw [HN2.out, prCells_app]; exact HO3.out
                · clear c1
                  go_wp2_with (at_builtin; refine wp_appS elemPair rfl _ _ rfl _ (by repeat (first | exact Grows.refl _ | refine Grows.now ?_ _ | refine Grows.new ?_ _ | refine Grows.drewN ?_ _ | refine Grows.drew ?_ | assumption | (refine Grows.set ?_ (by first | omega | (simp; done) | (simp; omega)) _))) s c' A' _ rfl (HO.out.new _) _ _ [.int .i64 ((k : Int) + 1), .int .i64 z] rfl rfl (fun j u hu => by simpa using hu) (by intro u hu; simp at hu; rcases hu with rfl | rfl <;> rfl) (by omega) ?_; intro A3 c3' y3 hown3; have HO3 := hide hown3; clear hown3)
                  refine ⟨⟨(k + 1) + 1, by omega, by go_num, y3, rfl, A3, c3', s + 1, rfl, ?_, ?_⟩, by simp [intOf]; omega⟩
                  · rw [HN2.out]; show s + 1 = _; rw [List.length_append, HS.out]; rfl
                  · rw [HN2.out, prCells_app]; exact HO3.out
end Go.Proofs.Ytpnncadglhlclaa
