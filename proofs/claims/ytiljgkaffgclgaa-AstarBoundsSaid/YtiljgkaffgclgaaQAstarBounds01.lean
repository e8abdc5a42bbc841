/- The law AstarBounds: for every input it returns true, and each argument reads as before. No condition. -/
import Derived.Test.YtiljgkaffgclgaaQAstarSound04
import Derived.Test.YtiljgkaffgclgaaQAstarBounds00
import Derived.Test.YtiljgkaffgclgaaQMarksBounds15
/- The law AstarBounds, walked: the bounds of any places, and which bounds are admissible, and consistent. -/
namespace Go.Proofs.Ytiljgkaffgclgaa
open Go Go.RowKit
set_option maxRecDepth 20000 in
set_option maxHeartbeats 4000000 in
theorem asAdmNo (N t : Int) (A : Option Addr) (c : Nat) (E : List Edg) (B : Option Addr) (n cb : Nat) (w : World) (h : Rd w A 3 E.length (esCells E)) (hE : E.length ≤ 1000000) (hd : askF N E [t] ≠ 0 ∨ (n : Int) ≠ N) :
    Calls Try.prog 28 #[.agg #[.int .i64 N, .slice A E.length c], .int .i64 t, .slice B n cb] w fun e w' => e = .returned (.bool false) ∧ Grows w w' := by
  have C1 := hide (fun (W : World) (g : Grows w W) (Bt : Option Addr) (q : Rd W Bt 1 1 [.int .i64 t]) => asRight N A c E Bt 1 1 [t] W (h.grows g) hE q (by omega))
  clear h
  by_cases hk : askF N E [t] = 0
  · rw [hk] at C1
    have hc : ¬ (n : Int) = N := by rcases hd with h | h; exact absurd hk h; exact h
    have d1 : ((n : Int) == N) = false := beq_eq_false_iff_ne.2 hc
    have d2 : ((n : Int) != N) = true := by rw [bne, d1]; rfl
    clear hc hk hd
    go_enter Try.func28, Try.ntmps28
    go_wp2_with fail
    refine (C1.out _ (by repeat (first | exact Grows.refl _ | refine Grows.now ?_ _ | refine Grows.new ?_ _ | refine Grows.drewN ?_ _ | refine Grows.drew ?_ | assumption | (refine Grows.set ?_ (by first | omega | (simp; done) | (simp; omega)) _))) _ (Arr.rd (t := 3) (cs := [.int .i64 t]) ⟨by simp [heap_push, Array.getElem_push]⟩ rfl)).mono ?_; rintro e w' ⟨rfl, hg⟩; obtain ⟨x1, rfl⟩ := hg.later; clear hg
    go_wp2_with fail
    refine bodyPost_ret (v := .bool false) (by simp (maxDischargeDepth := 6) [results, Try.results28, go_sem]) rfl ⟨rfl, (by repeat (first | exact Grows.refl _ | refine Grows.now ?_ _ | refine Grows.new ?_ _ | refine Grows.drewN ?_ _ | refine Grows.drew ?_ | assumption | (refine Grows.set ?_ (by first | omega | (simp; done) | (simp; omega)) _)))⟩
  · have d1 : (askF N E [t] == 0) = false := beq_eq_false_iff_ne.2 hk
    clear hk hd
    generalize askF N E [t] = r at *
    go_enter Try.func28, Try.ntmps28
    go_wp2_with fail
    refine (C1.out _ (by repeat (first | exact Grows.refl _ | refine Grows.now ?_ _ | refine Grows.new ?_ _ | refine Grows.drewN ?_ _ | refine Grows.drew ?_ | assumption | (refine Grows.set ?_ (by first | omega | (simp; done) | (simp; omega)) _))) _ (Arr.rd (t := 3) (cs := [.int .i64 t]) ⟨by simp [heap_push, Array.getElem_push]⟩ rfl)).mono ?_; rintro e w' ⟨rfl, hg⟩; obtain ⟨x1, rfl⟩ := hg.later; clear hg
    go_wp2_with fail
    refine bodyPost_ret (v := .bool false) (by simp (maxDischargeDepth := 6) [results, Try.results28, go_sem]) rfl ⟨rfl, (by repeat (first | exact Grows.refl _ | refine Grows.now ?_ _ | refine Grows.new ?_ _ | refine Grows.drewN ?_ _ | refine Grows.drew ?_ | assumption | (refine Grows.set ?_ (by first | omega | (simp; done) | (simp; omega)) _)))⟩
theorem askF_right {N t : Int} {E : List Edg} (h : rightF N E = 0) : askF N E [t] = if 0 ≤ t ∧ t < N then 0 else 7 := by
  unfold askF
  rw [if_neg (by omega)]
  by_cases h1 : 0 ≤ t ∧ t < N
  · have : nodeB N t = true := decide_eq_true h1
    rw [if_pos h1]
    simp [this]
  · have : nodeB N t = false := decide_eq_false h1
    rw [if_neg h1]
    simp [this]
theorem askF_bad {N t : Int} {E : List Edg} (h : rightF N E ≠ 0) : askF N E [t] = 1 := by
  unfold askF
  rw [if_pos h]
theorem consB_not {N : Int} {E : List Edg} {n : Nat} {H : List Nat} (h : rightF N E ≠ 0 ∨ (n : Int) ≠ N) : consB N E n H = false := by
  unfold consB
  rcases h with h | h
  · rw [decide_eq_false h]; rfl
  · rw [decide_eq_false h, Bool.false_and, Bool.and_false]
theorem consB_is {N : Nat} {E : List Edg} {H : List Nat} (hr : rightF (N : Int) E = 0) : consB (N : Int) E N H = !(E.any (steepB H)) := by
  unfold consB
  rw [decide_eq_true hr, decide_eq_true rfl]
  rfl
set_option maxRecDepth 40000 in
set_option maxHeartbeats 16000000 in
theorem astarBoundsW (N : Int) (A : Option Addr) (n c : Nat) (E : List Edg) (B : Option Addr) (m d : Nat) (L : List Pl) (t : Int) (A3 : Option Addr) (n3 c3 : Nat) (l3 : List Int) (w : World)
    (_ : I64 N) (_ : n ≤ c) (h : Rd w A 3 n (esCells E)) (_ : ∀ k, k < n → edgOk (ge E k)) (_ : m ≤ d) (h2 : Rd w B 2 m (psCells L)) (_ : ∀ k, k < m → plOk (gq L k)) (_ : -9223372036854775808 ≤ t ∧ t < 9223372036854775808) (_ : n3 ≤ c3) (h3' : Rd w A3 1 n3 (l3.map (.int .u64))) (hz3 : ∀ z ∈ l3, (Lit.int .u64 z).wf = true) :
    Calls Try.prog 9 #[.agg #[.int .i64 N, .slice A n c], .slice B m d, .int .i64 t, .slice A3 n3 c3] w fun e w' => e = .returned (.bool true) ∧ Grows w w' := by
  obtain rfl : E.length = n := h.elen
  obtain rfl : L.length = m := h2.plen
  have hwv := wv_of hz3
  rw [hwv] at h3'
  have hHb : ∀ x ∈ l3.map Int.toNat, x < 18446744073709551616 := fun x hx => by
    obtain ⟨z, hz, rfl⟩ := List.mem_map.1 hx
    have := wf_u64 (hz3 z hz)
    unfold U64 at this
    omega
  generalize l3.map Int.toNat = H at *
  obtain rfl : H.length = n3 := h3'.wlen
  clear hwv hz3
  have CL := hide (fun (W : World) => lLight45 N A E.length c W)
  cases hq : light45 N E.length with
  | false =>
    rw [hq] at CL
    clear h h2 h3'
    go_enter Try.func9, Try.ntmps9
    go_wp2_with (first | (go_at_call 46; refine (CL.out _).mono ?_; rintro e w' ⟨rfl, hg⟩; (first | obtain ⟨x, rfl⟩ := Grows.later2 hg | obtain ⟨x, rfl⟩ := Grows.later hg); clear hg) | (go_at_call 47; refine (alive45 _).mono ?_; rintro e w' ⟨rfl, hg⟩; (first | obtain ⟨x, rfl⟩ := Grows.later2 hg | obtain ⟨x, rfl⟩ := Grows.later hg); clear hg))
    go_ret
    exact ⟨rfl, (by repeat (first | exact Grows.refl _ | refine Grows.now ?_ _ | refine Grows.new ?_ _ | refine Grows.drewN ?_ _ | refine Grows.drew ?_ | assumption | (refine Grows.set ?_ (by first | omega | (simp; done) | (simp; omega)) _)))⟩
  | true =>
    rw [hq] at CL
    have hE : E.length ≤ 1000000 := by
      unfold light45 lightG at hq
      simp at hq
      omega
    clear hq
    by_cases hm : 60 < L.length ∨ 60 < H.length
    · have hd60 : (decide ((60 : Int) < (L.length : Int)) = true) ∨ (decide ((60 : Int) < (L.length : Int)) = false ∧ decide ((60 : Int) < (H.length : Int)) = true) := by
        by_cases h60 : 60 < L.length
        · exact .inl (decide_eq_true (by omega))
        · exact .inr ⟨decide_eq_false (by omega), decide_eq_true (by omega)⟩
      clear h h2 h3' hm
      rcases hd60 with hd1 | ⟨hd1, hd2⟩
      all_goals
        go_enter Try.func9, Try.ntmps9
        go_wp2_with (first | (go_at_call 46; refine (CL.out _).mono ?_; rintro e w' ⟨rfl, hg⟩; (first | obtain ⟨x, rfl⟩ := Grows.later2 hg | obtain ⟨x, rfl⟩ := Grows.later hg); clear hg) | (go_at_call 47; refine (alive45 _).mono ?_; rintro e w' ⟨rfl, hg⟩; (first | obtain ⟨x, rfl⟩ := Grows.later2 hg | obtain ⟨x, rfl⟩ := Grows.later hg); clear hg))
        go_ret
        exact ⟨rfl, (by repeat (first | exact Grows.refl _ | refine Grows.now ?_ _ | refine Grows.new ?_ _ | refine Grows.drewN ?_ _ | refine Grows.drew ?_ | assumption | (refine Grows.set ?_ (by first | omega | (simp; done) | (simp; omega)) _)))⟩
    · have hd60 : decide ((60 : Int) < (L.length : Int)) = false := decide_eq_false (by omega)
      have hd61 : decide ((60 : Int) < (H.length : Int)) = false := decide_eq_false (by omega)
      have hl : L.length ≤ 1000000 := by omega
      have hH : H.length ≤ 1000000 := by omega
      have hgH : ∀ j, j < H.length → gn H j < 18446744073709551616 := fun j hj => by
        have e1 : gn H j = H[j] := by simp [gn, hj]
        rw [e1]
        exact hHb _ (List.getElem_mem hj)
      clear hm hHb
      have CC := hide (fun (W : World) (g : Grows w W) (Bt : Option Addr) (q : Rd W Bt 1 1 [.int .i64 t]) => r45Check N A c E Bt 1 [t] W (h.grows g) hE q (by simp))
      have CR := hide (fun (W : World) (g : Grows w W) => r5Right N A E.length c E W (h.grows g) hE)
      have CP := hide (fun (W : World) (g : Grows w W) => r9Right B L.length d L W (h2.grows g) hl)
      have CS := hide (fun (W : World) (g : Grows w W) => asCons N A c E A3 H.length c3 H W (h.grows g) hE (h3'.grows g) hH hgH)
      have C0 := hide (fun (hf : bdF N E t L ≠ 0) (W : World) (g : Grows w W) => asBoundsNo N t A c E B d L W (h.grows g) hE (h2.grows g) hl hf)
      have CN := hide (fun (hd : askF N E [t] ≠ 0 ∨ (H.length : Int) ≠ N) (W : World) (g : Grows w W) => asAdmNo N t A c E A3 H.length c3 W (h.grows g) hE hd)
      by_cases hr : rightF N E = 0
      · obtain ⟨NN, rfl⟩ : ∃ NN : Nat, N = NN := ⟨N.toNat, by have := right_in hr; omega⟩
        have hN4 : NN ≤ 4096 := by have := (right_in hr).2.1; omega
        have hask := askF_right (t := t) hr
        rw [hr] at CR
        by_cases hin : 0 ≤ t ∧ t < (NN : Int)
        · rw [if_pos hin] at hask
          obtain ⟨tN, rfl⟩ : ∃ tN : Nat, t = tN := ⟨t.toNat, by omega⟩
          have ht : tN < NN := by omega
          rw [hask] at CC
          by_cases hL : L.length = NN
          · rw [hL] at h2 hd60 CP C0 hl ⊢
            cases hok : L.all okP with
            | true =>
              have hf : bdF (NN : Int) E tN L = 0 := by unfold bdF; rw [if_neg (by omega), if_pos ⟨by rw [hL], hok⟩]
              rw [hok] at CP
              have CB := hide (fun (W : World) (g : Grows w W) => asBounds NN tN A c E B d L W (h.grows g) hr (h2.grows g) hok ht)
              have CD := hide (fun (W : World) (g : Grows w W) => r45Bounds NN tN A c E B d L W (h.grows g) hr (h2.grows g) ht)
              have CW := hide (fun (A5 : Option Addr) (c5 : Nat) (B5 : Option Addr) (d5 : Nat) (W : World) (q : Rd W A5 1 NN (wv (bndsN (kI L E E.length) L (gq L tN) NN))) (q' : Rd W B5 1 NN (wv (bndsN (kI L E E.length) L (gq L tN) NN))) => by
                have := r1Wide A5 NN c5 _ B5 NN d5 _ W q q' (by omega) (by omega)
                rw [decide_eq_true rfl] at this
                exact this)
              generalize bndsN (kI L E E.length) L (gq L tN) NN = bnds at *
              clear C0 hf hok
              by_cases hHN : H.length = NN
              · obtain ⟨xs, hx⟩ := sea_any hr ht true
                rw [hHN] at h3' hgH hd61 CS ⊢
                have CT := hide (fun (W : World) (g : Grows w W) => r45Cons NN A c E A3 c3 H W (h.grows g) hr (h3'.grows g) hgH)
                have CA := hide (fun (W : World) (g : Grows w W) => r45Adm NN tN A c E A3 c3 H xs W (h.grows g) (h3'.grows g) hx ht hgH)
                have CN := hide (fun (W : World) (g : Grows w W) => asAdm NN tN A c E A3 c3 H xs W (h.grows g) (h3'.grows g) hx ht hgH)
                have CS := hide (fun (W : World) (g : Grows w W) => by
                  have := CS.out W g
                  rw [consB_is hr] at this
                  exact this)
                generalize E.any (steepB H) = st at *
                generalize admB xs H = am at *
                clear h h2 h3' hx hr hgH hask
                go_enter Try.func9, Try.ntmps9
                go_wp2_with fail
                refine (CL.out _).mono ?_; rintro e w' ⟨rfl, hg⟩; obtain ⟨x1, rfl⟩ := hg.later; clear hg
                have b1 : Arr x1.now w.heap.size 24 [.int .i64 (NN : Int), .slice A E.length c] := Arr.grow ⟨by simp [heap_push]⟩ x1.grows
                go_wp2_with fail
                refine (CB.out _ (by repeat (first | exact Grows.refl _ | refine Grows.now ?_ _ | refine Grows.new ?_ _ | refine Grows.drewN ?_ _ | refine Grows.drew ?_ | assumption | (refine Grows.set ?_ (by first | omega | (simp; done) | (simp; omega)) _)))).mono ?_; rintro e w' ⟨A5, c5, rfl, hr5, hg⟩; obtain ⟨x2, rfl⟩ := hg.later; have HR5 := hide hr5; clear hg hr5
                go_wp2_with fail
                refine (CC.out _ (by repeat (first | exact Grows.refl _ | refine Grows.now ?_ _ | refine Grows.new ?_ _ | refine Grows.drewN ?_ _ | refine Grows.drew ?_ | assumption | (refine Grows.set ?_ (by first | omega | (simp; done) | (simp; omega)) _))) _ (Rd.made (t := 3) (size := 1) (n := 1) [.int .i64 (tN : Int)] rfl)).mono ?_; rintro e w' ⟨rfl, hg⟩; obtain ⟨x3, rfl⟩ := hg.later; clear hg
                go_wp2_with fail
                refine (CP.out _ (by repeat (first | exact Grows.refl _ | refine Grows.now ?_ _ | refine Grows.new ?_ _ | refine Grows.drewN ?_ _ | refine Grows.drew ?_ | assumption | (refine Grows.set ?_ (by first | omega | (simp; done) | (simp; omega)) _)))).mono ?_; rintro e w' ⟨rfl, hg⟩; obtain ⟨x4, rfl⟩ := hg.later; clear hg
                go_wp2_with fail
                refine (CD.out _ (by repeat (first | exact Grows.refl _ | refine Grows.now ?_ _ | refine Grows.new ?_ _ | refine Grows.drewN ?_ _ | refine Grows.drew ?_ | assumption | (refine Grows.set ?_ (by first | omega | (simp; done) | (simp; omega)) _)))).mono ?_; rintro e w' ⟨A6, c6, rfl, hr6, hg⟩; obtain ⟨x5, rfl⟩ := hg.later; have HR6 := hide hr6; clear hg hr6
                go_wp2_with fail
                refine (CW.out _ _ _ _ _ (HR5.out.grows (by repeat (first | exact Grows.refl _ | refine Grows.now ?_ _ | refine Grows.new ?_ _ | refine Grows.drewN ?_ _ | refine Grows.drew ?_ | assumption | (refine Grows.set ?_ (by first | omega | (simp; done) | (simp; omega)) _)))) HR6.out).mono ?_; rintro e w' ⟨rfl, hg⟩; obtain ⟨x6, rfl⟩ := hg.later; clear hg
                go_wp2_with fail
                refine (CR.out _ (by repeat (first | exact Grows.refl _ | refine Grows.now ?_ _ | refine Grows.new ?_ _ | refine Grows.drewN ?_ _ | refine Grows.drew ?_ | assumption | (refine Grows.set ?_ (by first | omega | (simp; done) | (simp; omega)) _)))).mono ?_; rintro e w' ⟨rfl, hg⟩; obtain ⟨x7, rfl⟩ := hg.later; clear hg
                go_wp2_with fail
                refine (CT.out _ (by repeat (first | exact Grows.refl _ | refine Grows.now ?_ _ | refine Grows.new ?_ _ | refine Grows.drewN ?_ _ | refine Grows.drew ?_ | assumption | (refine Grows.set ?_ (by first | omega | (simp; done) | (simp; omega)) _)))).mono ?_; rintro e w' ⟨rfl, hg⟩; obtain ⟨x8, rfl⟩ := hg.later; clear hg
                go_wp2_with fail
                refine (CA.out _ (by repeat (first | exact Grows.refl _ | refine Grows.now ?_ _ | refine Grows.new ?_ _ | refine Grows.drewN ?_ _ | refine Grows.drew ?_ | assumption | (refine Grows.set ?_ (by first | omega | (simp; done) | (simp; omega)) _)))).mono ?_; rintro e w' ⟨rfl, hg⟩; obtain ⟨x9, rfl⟩ := hg.later; clear hg
                go_wp2_with fail
                refine (CS.out _ (by repeat (first | exact Grows.refl _ | refine Grows.now ?_ _ | refine Grows.new ?_ _ | refine Grows.drewN ?_ _ | refine Grows.drew ?_ | assumption | (refine Grows.set ?_ (by first | omega | (simp; done) | (simp; omega)) _)))).mono ?_; rintro e w' ⟨rfl, hg⟩; obtain ⟨x10, rfl⟩ := hg.later; clear hg
                go_wp2_with fail
                refine (CN.out _ (by repeat (first | exact Grows.refl _ | refine Grows.now ?_ _ | refine Grows.new ?_ _ | refine Grows.drewN ?_ _ | refine Grows.drew ?_ | assumption | (refine Grows.set ?_ (by first | omega | (simp; done) | (simp; omega)) _)))).mono ?_; rintro e w' ⟨rfl, hg⟩; obtain ⟨x11, rfl⟩ := hg.later; clear hg
                go_wp2_with fail
                refine (alive45 _).mono ?_; rintro e w' ⟨rfl, hg⟩; obtain ⟨x12, rfl⟩ := hg.later; clear hg
                go_wp2_with fail
                go_ret
                exact ⟨rfl, (by repeat (first | exact Grows.refl _ | refine Grows.now ?_ _ | refine Grows.new ?_ _ | refine Grows.drewN ?_ _ | refine Grows.drew ?_ | assumption | (refine Grows.set ?_ (by first | omega | (simp; done) | (simp; omega)) _)))⟩
              · have e1 : ((H.length : Int) == (NN : Int)) = false := beq_eq_false_iff_ne.2 (by omega)
                have CN := hide (CN.out (.inr (by omega)))
                have CS := hide (fun (W : World) (g : Grows w W) => by
                  have := CS.out W g
                  rw [consB_not (.inr (by omega))] at this
                  exact this)
                clear h h2 h3' hr hgH hask hHN
                go_enter Try.func9, Try.ntmps9
                go_wp2_with fail
                refine (CL.out _).mono ?_; rintro e w' ⟨rfl, hg⟩; obtain ⟨x1, rfl⟩ := hg.later; clear hg
                have b1 : Arr x1.now w.heap.size 24 [.int .i64 (NN : Int), .slice A E.length c] := Arr.grow ⟨by simp [heap_push]⟩ x1.grows
                go_wp2_with fail
                refine (CB.out _ (by repeat (first | exact Grows.refl _ | refine Grows.now ?_ _ | refine Grows.new ?_ _ | refine Grows.drewN ?_ _ | refine Grows.drew ?_ | assumption | (refine Grows.set ?_ (by first | omega | (simp; done) | (simp; omega)) _)))).mono ?_; rintro e w' ⟨A5, c5, rfl, hr5, hg⟩; obtain ⟨x2, rfl⟩ := hg.later; have HR5 := hide hr5; clear hg hr5
                go_wp2_with fail
                refine (CC.out _ (by repeat (first | exact Grows.refl _ | refine Grows.now ?_ _ | refine Grows.new ?_ _ | refine Grows.drewN ?_ _ | refine Grows.drew ?_ | assumption | (refine Grows.set ?_ (by first | omega | (simp; done) | (simp; omega)) _))) _ (Rd.made (t := 3) (size := 1) (n := 1) [.int .i64 (tN : Int)] rfl)).mono ?_; rintro e w' ⟨rfl, hg⟩; obtain ⟨x3, rfl⟩ := hg.later; clear hg
                go_wp2_with fail
                refine (CP.out _ (by repeat (first | exact Grows.refl _ | refine Grows.now ?_ _ | refine Grows.new ?_ _ | refine Grows.drewN ?_ _ | refine Grows.drew ?_ | assumption | (refine Grows.set ?_ (by first | omega | (simp; done) | (simp; omega)) _)))).mono ?_; rintro e w' ⟨rfl, hg⟩; obtain ⟨x4, rfl⟩ := hg.later; clear hg
                go_wp2_with fail
                refine (CD.out _ (by repeat (first | exact Grows.refl _ | refine Grows.now ?_ _ | refine Grows.new ?_ _ | refine Grows.drewN ?_ _ | refine Grows.drew ?_ | assumption | (refine Grows.set ?_ (by first | omega | (simp; done) | (simp; omega)) _)))).mono ?_; rintro e w' ⟨A6, c6, rfl, hr6, hg⟩; obtain ⟨x5, rfl⟩ := hg.later; have HR6 := hide hr6; clear hg hr6
                go_wp2_with fail
                refine (CW.out _ _ _ _ _ (HR5.out.grows (by repeat (first | exact Grows.refl _ | refine Grows.now ?_ _ | refine Grows.new ?_ _ | refine Grows.drewN ?_ _ | refine Grows.drew ?_ | assumption | (refine Grows.set ?_ (by first | omega | (simp; done) | (simp; omega)) _)))) HR6.out).mono ?_; rintro e w' ⟨rfl, hg⟩; obtain ⟨x6, rfl⟩ := hg.later; clear hg
                go_wp2_with fail
                refine (CR.out _ (by repeat (first | exact Grows.refl _ | refine Grows.now ?_ _ | refine Grows.new ?_ _ | refine Grows.drewN ?_ _ | refine Grows.drew ?_ | assumption | (refine Grows.set ?_ (by first | omega | (simp; done) | (simp; omega)) _)))).mono ?_; rintro e w' ⟨rfl, hg⟩; obtain ⟨x7, rfl⟩ := hg.later; clear hg
                go_wp2_with fail
                refine (CS.out _ (by repeat (first | exact Grows.refl _ | refine Grows.now ?_ _ | refine Grows.new ?_ _ | refine Grows.drewN ?_ _ | refine Grows.drew ?_ | assumption | (refine Grows.set ?_ (by first | omega | (simp; done) | (simp; omega)) _)))).mono ?_; rintro e w' ⟨rfl, hg⟩; obtain ⟨x8, rfl⟩ := hg.later; clear hg
                go_wp2_with fail
                refine (CN.out _ (by repeat (first | exact Grows.refl _ | refine Grows.now ?_ _ | refine Grows.new ?_ _ | refine Grows.drewN ?_ _ | refine Grows.drew ?_ | assumption | (refine Grows.set ?_ (by first | omega | (simp; done) | (simp; omega)) _)))).mono ?_; rintro e w' ⟨rfl, hg⟩; obtain ⟨x9, rfl⟩ := hg.later; clear hg
                go_wp2_with fail
                refine (alive45 _).mono ?_; rintro e w' ⟨rfl, hg⟩; obtain ⟨x10, rfl⟩ := hg.later; clear hg
                go_wp2_with fail
                go_ret
                exact ⟨rfl, (by repeat (first | exact Grows.refl _ | refine Grows.now ?_ _ | refine Grows.new ?_ _ | refine Grows.drewN ?_ _ | refine Grows.drew ?_ | assumption | (refine Grows.set ?_ (by first | omega | (simp; done) | (simp; omega)) _)))⟩
            | false =>
              have hf : bdF (NN : Int) E tN L = 1 := by
                unfold bdF
                rw [if_neg (by omega), if_neg (fun e => by rw [hok] at e; exact absurd e.2 (by decide))]
              rw [hok] at CP
              have C0 := hide (fun (W : World) (g : Grows w W) => by
                have := C0.out (by omega) W g
                rw [hf] at this
                exact this)
              clear hf hok
              by_cases hHN : H.length = NN
              · obtain ⟨xs, hx⟩ := sea_any hr ht true
                rw [hHN] at h3' hgH hd61 CS ⊢
                have CT := hide (fun (W : World) (g : Grows w W) => r45Cons NN A c E A3 c3 H W (h.grows g) hr (h3'.grows g) hgH)
                have CA := hide (fun (W : World) (g : Grows w W) => r45Adm NN tN A c E A3 c3 H xs W (h.grows g) (h3'.grows g) hx ht hgH)
                have CN := hide (fun (W : World) (g : Grows w W) => asAdm NN tN A c E A3 c3 H xs W (h.grows g) (h3'.grows g) hx ht hgH)
                have CS := hide (fun (W : World) (g : Grows w W) => by
                  have := CS.out W g
                  rw [consB_is hr] at this
                  exact this)
                generalize E.any (steepB H) = st at *
                generalize admB xs H = am at *
                clear h h2 h3' hx hr hgH hask
                go_enter Try.func9, Try.ntmps9
                go_wp2_with fail
                refine (CL.out _).mono ?_; rintro e w' ⟨rfl, hg⟩; obtain ⟨x1, rfl⟩ := hg.later; clear hg
                have b1 : Arr x1.now w.heap.size 24 [.int .i64 (NN : Int), .slice A E.length c] := Arr.grow ⟨by simp [heap_push]⟩ x1.grows
                go_wp2_with fail
                refine (C0.out _ (by repeat (first | exact Grows.refl _ | refine Grows.now ?_ _ | refine Grows.new ?_ _ | refine Grows.drewN ?_ _ | refine Grows.drew ?_ | assumption | (refine Grows.set ?_ (by first | omega | (simp; done) | (simp; omega)) _)))).mono ?_; rintro e w' ⟨rfl, hg⟩; obtain ⟨x2, rfl⟩ := hg.later; clear hg
                go_wp2_with fail
                refine (CC.out _ (by repeat (first | exact Grows.refl _ | refine Grows.now ?_ _ | refine Grows.new ?_ _ | refine Grows.drewN ?_ _ | refine Grows.drew ?_ | assumption | (refine Grows.set ?_ (by first | omega | (simp; done) | (simp; omega)) _))) _ (Rd.made (t := 3) (size := 1) (n := 1) [.int .i64 (tN : Int)] rfl)).mono ?_; rintro e w' ⟨rfl, hg⟩; obtain ⟨x3, rfl⟩ := hg.later; clear hg
                go_wp2_with fail
                refine (CP.out _ (by repeat (first | exact Grows.refl _ | refine Grows.now ?_ _ | refine Grows.new ?_ _ | refine Grows.drewN ?_ _ | refine Grows.drew ?_ | assumption | (refine Grows.set ?_ (by first | omega | (simp; done) | (simp; omega)) _)))).mono ?_; rintro e w' ⟨rfl, hg⟩; obtain ⟨x4, rfl⟩ := hg.later; clear hg
                go_wp2_with fail
                refine (CR.out _ (by repeat (first | exact Grows.refl _ | refine Grows.now ?_ _ | refine Grows.new ?_ _ | refine Grows.drewN ?_ _ | refine Grows.drew ?_ | assumption | (refine Grows.set ?_ (by first | omega | (simp; done) | (simp; omega)) _)))).mono ?_; rintro e w' ⟨rfl, hg⟩; obtain ⟨x5, rfl⟩ := hg.later; clear hg
                go_wp2_with fail
                refine (CT.out _ (by repeat (first | exact Grows.refl _ | refine Grows.now ?_ _ | refine Grows.new ?_ _ | refine Grows.drewN ?_ _ | refine Grows.drew ?_ | assumption | (refine Grows.set ?_ (by first | omega | (simp; done) | (simp; omega)) _)))).mono ?_; rintro e w' ⟨rfl, hg⟩; obtain ⟨x6, rfl⟩ := hg.later; clear hg
                go_wp2_with fail
                refine (CA.out _ (by repeat (first | exact Grows.refl _ | refine Grows.now ?_ _ | refine Grows.new ?_ _ | refine Grows.drewN ?_ _ | refine Grows.drew ?_ | assumption | (refine Grows.set ?_ (by first | omega | (simp; done) | (simp; omega)) _)))).mono ?_; rintro e w' ⟨rfl, hg⟩; obtain ⟨x7, rfl⟩ := hg.later; clear hg
                go_wp2_with fail
                refine (CS.out _ (by repeat (first | exact Grows.refl _ | refine Grows.now ?_ _ | refine Grows.new ?_ _ | refine Grows.drewN ?_ _ | refine Grows.drew ?_ | assumption | (refine Grows.set ?_ (by first | omega | (simp; done) | (simp; omega)) _)))).mono ?_; rintro e w' ⟨rfl, hg⟩; obtain ⟨x8, rfl⟩ := hg.later; clear hg
                go_wp2_with fail
                refine (CN.out _ (by repeat (first | exact Grows.refl _ | refine Grows.now ?_ _ | refine Grows.new ?_ _ | refine Grows.drewN ?_ _ | refine Grows.drew ?_ | assumption | (refine Grows.set ?_ (by first | omega | (simp; done) | (simp; omega)) _)))).mono ?_; rintro e w' ⟨rfl, hg⟩; obtain ⟨x9, rfl⟩ := hg.later; clear hg
                go_wp2_with fail
                refine (alive45 _).mono ?_; rintro e w' ⟨rfl, hg⟩; obtain ⟨x10, rfl⟩ := hg.later; clear hg
                go_wp2_with fail
                go_ret
                exact ⟨rfl, (by repeat (first | exact Grows.refl _ | refine Grows.now ?_ _ | refine Grows.new ?_ _ | refine Grows.drewN ?_ _ | refine Grows.drew ?_ | assumption | (refine Grows.set ?_ (by first | omega | (simp; done) | (simp; omega)) _)))⟩
              · have e1 : ((H.length : Int) == (NN : Int)) = false := beq_eq_false_iff_ne.2 (by omega)
                have CN := hide (CN.out (.inr (by omega)))
                have CS := hide (fun (W : World) (g : Grows w W) => by
                  have := CS.out W g
                  rw [consB_not (.inr (by omega))] at this
                  exact this)
                clear h h2 h3' hr hgH hask hHN
                go_enter Try.func9, Try.ntmps9
                go_wp2_with fail
                refine (CL.out _).mono ?_; rintro e w' ⟨rfl, hg⟩; obtain ⟨x1, rfl⟩ := hg.later; clear hg
                have b1 : Arr x1.now w.heap.size 24 [.int .i64 (NN : Int), .slice A E.length c] := Arr.grow ⟨by simp [heap_push]⟩ x1.grows
                go_wp2_with fail
                refine (C0.out _ (by repeat (first | exact Grows.refl _ | refine Grows.now ?_ _ | refine Grows.new ?_ _ | refine Grows.drewN ?_ _ | refine Grows.drew ?_ | assumption | (refine Grows.set ?_ (by first | omega | (simp; done) | (simp; omega)) _)))).mono ?_; rintro e w' ⟨rfl, hg⟩; obtain ⟨x2, rfl⟩ := hg.later; clear hg
                go_wp2_with fail
                refine (CC.out _ (by repeat (first | exact Grows.refl _ | refine Grows.now ?_ _ | refine Grows.new ?_ _ | refine Grows.drewN ?_ _ | refine Grows.drew ?_ | assumption | (refine Grows.set ?_ (by first | omega | (simp; done) | (simp; omega)) _))) _ (Rd.made (t := 3) (size := 1) (n := 1) [.int .i64 (tN : Int)] rfl)).mono ?_; rintro e w' ⟨rfl, hg⟩; obtain ⟨x3, rfl⟩ := hg.later; clear hg
                go_wp2_with fail
                refine (CP.out _ (by repeat (first | exact Grows.refl _ | refine Grows.now ?_ _ | refine Grows.new ?_ _ | refine Grows.drewN ?_ _ | refine Grows.drew ?_ | assumption | (refine Grows.set ?_ (by first | omega | (simp; done) | (simp; omega)) _)))).mono ?_; rintro e w' ⟨rfl, hg⟩; obtain ⟨x4, rfl⟩ := hg.later; clear hg
                go_wp2_with fail
                refine (CR.out _ (by repeat (first | exact Grows.refl _ | refine Grows.now ?_ _ | refine Grows.new ?_ _ | refine Grows.drewN ?_ _ | refine Grows.drew ?_ | assumption | (refine Grows.set ?_ (by first | omega | (simp; done) | (simp; omega)) _)))).mono ?_; rintro e w' ⟨rfl, hg⟩; obtain ⟨x5, rfl⟩ := hg.later; clear hg
                go_wp2_with fail
                refine (CS.out _ (by repeat (first | exact Grows.refl _ | refine Grows.now ?_ _ | refine Grows.new ?_ _ | refine Grows.drewN ?_ _ | refine Grows.drew ?_ | assumption | (refine Grows.set ?_ (by first | omega | (simp; done) | (simp; omega)) _)))).mono ?_; rintro e w' ⟨rfl, hg⟩; obtain ⟨x6, rfl⟩ := hg.later; clear hg
                go_wp2_with fail
                refine (CN.out _ (by repeat (first | exact Grows.refl _ | refine Grows.now ?_ _ | refine Grows.new ?_ _ | refine Grows.drewN ?_ _ | refine Grows.drew ?_ | assumption | (refine Grows.set ?_ (by first | omega | (simp; done) | (simp; omega)) _)))).mono ?_; rintro e w' ⟨rfl, hg⟩; obtain ⟨x7, rfl⟩ := hg.later; clear hg
                go_wp2_with fail
                refine (alive45 _).mono ?_; rintro e w' ⟨rfl, hg⟩; obtain ⟨x8, rfl⟩ := hg.later; clear hg
                go_wp2_with fail
                go_ret
                exact ⟨rfl, (by repeat (first | exact Grows.refl _ | refine Grows.now ?_ _ | refine Grows.new ?_ _ | refine Grows.drewN ?_ _ | refine Grows.drew ?_ | assumption | (refine Grows.set ?_ (by first | omega | (simp; done) | (simp; omega)) _)))⟩
          · have hf : bdF (NN : Int) E tN L = 1 := by
              unfold bdF
              rw [if_neg (by omega), if_neg (fun e => hL (by have := e.1; omega))]
            have C0 := hide (fun (W : World) (g : Grows w W) => by
              have := C0.out (by omega) W g
              rw [hf] at this
              exact this)
            have d1 : ((L.length : Int) == (NN : Int)) = false := beq_eq_false_iff_ne.2 (by omega)
            have d2 : ((L.length : Int) != (NN : Int)) = true := by rw [bne, d1]; rfl
            clear hf hL
            by_cases hHN : H.length = NN
            · obtain ⟨xs, hx⟩ := sea_any hr ht true
              rw [hHN] at h3' hgH hd61 CS ⊢
              have CT := hide (fun (W : World) (g : Grows w W) => r45Cons NN A c E A3 c3 H W (h.grows g) hr (h3'.grows g) hgH)
              have CA := hide (fun (W : World) (g : Grows w W) => r45Adm NN tN A c E A3 c3 H xs W (h.grows g) (h3'.grows g) hx ht hgH)
              have CN := hide (fun (W : World) (g : Grows w W) => asAdm NN tN A c E A3 c3 H xs W (h.grows g) (h3'.grows g) hx ht hgH)
              have CS := hide (fun (W : World) (g : Grows w W) => by
                have := CS.out W g
                rw [consB_is hr] at this
                exact this)
              generalize E.any (steepB H) = st at *
              generalize admB xs H = am at *
              clear h h2 h3' hx hr hgH hask
              go_enter Try.func9, Try.ntmps9
              go_wp2_with fail
              refine (CL.out _).mono ?_; rintro e w' ⟨rfl, hg⟩; obtain ⟨x1, rfl⟩ := hg.later; clear hg
              have b1 : Arr x1.now w.heap.size 24 [.int .i64 (NN : Int), .slice A E.length c] := Arr.grow ⟨by simp [heap_push]⟩ x1.grows
              go_wp2_with fail
              refine (C0.out _ (by repeat (first | exact Grows.refl _ | refine Grows.now ?_ _ | refine Grows.new ?_ _ | refine Grows.drewN ?_ _ | refine Grows.drew ?_ | assumption | (refine Grows.set ?_ (by first | omega | (simp; done) | (simp; omega)) _)))).mono ?_; rintro e w' ⟨rfl, hg⟩; obtain ⟨x2, rfl⟩ := hg.later; clear hg
              go_wp2_with fail
              refine (CC.out _ (by repeat (first | exact Grows.refl _ | refine Grows.now ?_ _ | refine Grows.new ?_ _ | refine Grows.drewN ?_ _ | refine Grows.drew ?_ | assumption | (refine Grows.set ?_ (by first | omega | (simp; done) | (simp; omega)) _))) _ (Rd.made (t := 3) (size := 1) (n := 1) [.int .i64 (tN : Int)] rfl)).mono ?_; rintro e w' ⟨rfl, hg⟩; obtain ⟨x3, rfl⟩ := hg.later; clear hg
              go_wp2_with fail
              refine (CR.out _ (by repeat (first | exact Grows.refl _ | refine Grows.now ?_ _ | refine Grows.new ?_ _ | refine Grows.drewN ?_ _ | refine Grows.drew ?_ | assumption | (refine Grows.set ?_ (by first | omega | (simp; done) | (simp; omega)) _)))).mono ?_; rintro e w' ⟨rfl, hg⟩; obtain ⟨x4, rfl⟩ := hg.later; clear hg
              go_wp2_with fail
              refine (CT.out _ (by repeat (first | exact Grows.refl _ | refine Grows.now ?_ _ | refine Grows.new ?_ _ | refine Grows.drewN ?_ _ | refine Grows.drew ?_ | assumption | (refine Grows.set ?_ (by first | omega | (simp; done) | (simp; omega)) _)))).mono ?_; rintro e w' ⟨rfl, hg⟩; obtain ⟨x5, rfl⟩ := hg.later; clear hg
              go_wp2_with fail
              refine (CA.out _ (by repeat (first | exact Grows.refl _ | refine Grows.now ?_ _ | refine Grows.new ?_ _ | refine Grows.drewN ?_ _ | refine Grows.drew ?_ | assumption | (refine Grows.set ?_ (by first | omega | (simp; done) | (simp; omega)) _)))).mono ?_; rintro e w' ⟨rfl, hg⟩; obtain ⟨x6, rfl⟩ := hg.later; clear hg
              go_wp2_with fail
              refine (CS.out _ (by repeat (first | exact Grows.refl _ | refine Grows.now ?_ _ | refine Grows.new ?_ _ | refine Grows.drewN ?_ _ | refine Grows.drew ?_ | assumption | (refine Grows.set ?_ (by first | omega | (simp; done) | (simp; omega)) _)))).mono ?_; rintro e w' ⟨rfl, hg⟩; obtain ⟨x7, rfl⟩ := hg.later; clear hg
              go_wp2_with fail
              refine (CN.out _ (by repeat (first | exact Grows.refl _ | refine Grows.now ?_ _ | refine Grows.new ?_ _ | refine Grows.drewN ?_ _ | refine Grows.drew ?_ | assumption | (refine Grows.set ?_ (by first | omega | (simp; done) | (simp; omega)) _)))).mono ?_; rintro e w' ⟨rfl, hg⟩; obtain ⟨x8, rfl⟩ := hg.later; clear hg
              go_wp2_with fail
              refine (alive45 _).mono ?_; rintro e w' ⟨rfl, hg⟩; obtain ⟨x9, rfl⟩ := hg.later; clear hg
              go_wp2_with fail
              go_ret
              exact ⟨rfl, (by repeat (first | exact Grows.refl _ | refine Grows.now ?_ _ | refine Grows.new ?_ _ | refine Grows.drewN ?_ _ | refine Grows.drew ?_ | assumption | (refine Grows.set ?_ (by first | omega | (simp; done) | (simp; omega)) _)))⟩
            · have e1 : ((H.length : Int) == (NN : Int)) = false := beq_eq_false_iff_ne.2 (by omega)
              have CN := hide (CN.out (.inr (by omega)))
              have CS := hide (fun (W : World) (g : Grows w W) => by
                have := CS.out W g
                rw [consB_not (.inr (by omega))] at this
                exact this)
              clear h h2 h3' hr hgH hask hHN
              go_enter Try.func9, Try.ntmps9
              go_wp2_with fail
              refine (CL.out _).mono ?_; rintro e w' ⟨rfl, hg⟩; obtain ⟨x1, rfl⟩ := hg.later; clear hg
              have b1 : Arr x1.now w.heap.size 24 [.int .i64 (NN : Int), .slice A E.length c] := Arr.grow ⟨by simp [heap_push]⟩ x1.grows
              go_wp2_with fail
              refine (C0.out _ (by repeat (first | exact Grows.refl _ | refine Grows.now ?_ _ | refine Grows.new ?_ _ | refine Grows.drewN ?_ _ | refine Grows.drew ?_ | assumption | (refine Grows.set ?_ (by first | omega | (simp; done) | (simp; omega)) _)))).mono ?_; rintro e w' ⟨rfl, hg⟩; obtain ⟨x2, rfl⟩ := hg.later; clear hg
              go_wp2_with fail
              refine (CC.out _ (by repeat (first | exact Grows.refl _ | refine Grows.now ?_ _ | refine Grows.new ?_ _ | refine Grows.drewN ?_ _ | refine Grows.drew ?_ | assumption | (refine Grows.set ?_ (by first | omega | (simp; done) | (simp; omega)) _))) _ (Rd.made (t := 3) (size := 1) (n := 1) [.int .i64 (tN : Int)] rfl)).mono ?_; rintro e w' ⟨rfl, hg⟩; obtain ⟨x3, rfl⟩ := hg.later; clear hg
              go_wp2_with fail
              refine (CR.out _ (by repeat (first | exact Grows.refl _ | refine Grows.now ?_ _ | refine Grows.new ?_ _ | refine Grows.drewN ?_ _ | refine Grows.drew ?_ | assumption | (refine Grows.set ?_ (by first | omega | (simp; done) | (simp; omega)) _)))).mono ?_; rintro e w' ⟨rfl, hg⟩; obtain ⟨x4, rfl⟩ := hg.later; clear hg
              go_wp2_with fail
              refine (CS.out _ (by repeat (first | exact Grows.refl _ | refine Grows.now ?_ _ | refine Grows.new ?_ _ | refine Grows.drewN ?_ _ | refine Grows.drew ?_ | assumption | (refine Grows.set ?_ (by first | omega | (simp; done) | (simp; omega)) _)))).mono ?_; rintro e w' ⟨rfl, hg⟩; obtain ⟨x5, rfl⟩ := hg.later; clear hg
              go_wp2_with fail
              refine (CN.out _ (by repeat (first | exact Grows.refl _ | refine Grows.now ?_ _ | refine Grows.new ?_ _ | refine Grows.drewN ?_ _ | refine Grows.drew ?_ | assumption | (refine Grows.set ?_ (by first | omega | (simp; done) | (simp; omega)) _)))).mono ?_; rintro e w' ⟨rfl, hg⟩; obtain ⟨x6, rfl⟩ := hg.later; clear hg
              go_wp2_with fail
              refine (alive45 _).mono ?_; rintro e w' ⟨rfl, hg⟩; obtain ⟨x7, rfl⟩ := hg.later; clear hg
              go_wp2_with fail
              go_ret
              exact ⟨rfl, (by repeat (first | exact Grows.refl _ | refine Grows.now ?_ _ | refine Grows.new ?_ _ | refine Grows.drewN ?_ _ | refine Grows.drew ?_ | assumption | (refine Grows.set ?_ (by first | omega | (simp; done) | (simp; omega)) _)))⟩
        · rw [if_neg hin] at hask
          have hf : bdF (NN : Int) E t L = 7 := by unfold bdF; rw [if_pos (by omega)]; exact hask
          have C0 := hide (fun (W : World) (g : Grows w W) => by
            have := C0.out (by omega) W g
            rw [hf] at this
            exact this)
          have CN := hide (CN.out (.inl (by omega)))
          rw [hask] at CC
          have hout : (decide (0 ≤ t) = false) ∨ (decide (0 ≤ t) = true ∧ decide (t < (NN : Int)) = false) := by
            by_cases h0 : 0 ≤ t
            · exact .inr ⟨decide_eq_true h0, decide_eq_false (by omega)⟩
            · exact .inl (decide_eq_false h0)
          clear hf hin hask
          by_cases hHN : H.length = NN
          · rw [hHN] at h3' hgH hd61 CS CN ⊢
            have CT := hide (fun (W : World) (g : Grows w W) => r45Cons NN A c E A3 c3 H W (h.grows g) hr (h3'.grows g) hgH)
            have CS := hide (fun (W : World) (g : Grows w W) => by
              have := CS.out W g
              rw [consB_is hr] at this
              exact this)
            generalize E.any (steepB H) = st at *
            clear h h2 h3' hr hgH
            rcases hout with h01 | ⟨h01, h02⟩
            all_goals (
              go_enter Try.func9, Try.ntmps9
              go_wp2_with fail
              refine (CL.out _).mono ?_; rintro e w' ⟨rfl, hg⟩; obtain ⟨x1, rfl⟩ := hg.later; clear hg
              have b1 : Arr x1.now w.heap.size 24 [.int .i64 (NN : Int), .slice A E.length c] := Arr.grow ⟨by simp [heap_push]⟩ x1.grows
              go_wp2_with fail
              refine (C0.out _ (by repeat (first | exact Grows.refl _ | refine Grows.now ?_ _ | refine Grows.new ?_ _ | refine Grows.drewN ?_ _ | refine Grows.drew ?_ | assumption | (refine Grows.set ?_ (by first | omega | (simp; done) | (simp; omega)) _)))).mono ?_; rintro e w' ⟨rfl, hg⟩; obtain ⟨x2, rfl⟩ := hg.later; clear hg
              go_wp2_with fail
              refine (CC.out _ (by repeat (first | exact Grows.refl _ | refine Grows.now ?_ _ | refine Grows.new ?_ _ | refine Grows.drewN ?_ _ | refine Grows.drew ?_ | assumption | (refine Grows.set ?_ (by first | omega | (simp; done) | (simp; omega)) _))) _ (Rd.made (t := 3) (size := 1) (n := 1) [.int .i64 t] rfl)).mono ?_; rintro e w' ⟨rfl, hg⟩; obtain ⟨x3, rfl⟩ := hg.later; clear hg
              go_wp2_with fail
              refine (CR.out _ (by repeat (first | exact Grows.refl _ | refine Grows.now ?_ _ | refine Grows.new ?_ _ | refine Grows.drewN ?_ _ | refine Grows.drew ?_ | assumption | (refine Grows.set ?_ (by first | omega | (simp; done) | (simp; omega)) _)))).mono ?_; rintro e w' ⟨rfl, hg⟩; obtain ⟨x4, rfl⟩ := hg.later; clear hg
              go_wp2_with fail
              refine (CT.out _ (by repeat (first | exact Grows.refl _ | refine Grows.now ?_ _ | refine Grows.new ?_ _ | refine Grows.drewN ?_ _ | refine Grows.drew ?_ | assumption | (refine Grows.set ?_ (by first | omega | (simp; done) | (simp; omega)) _)))).mono ?_; rintro e w' ⟨rfl, hg⟩; obtain ⟨x5, rfl⟩ := hg.later; clear hg
              go_wp2_with fail
              refine (CS.out _ (by repeat (first | exact Grows.refl _ | refine Grows.now ?_ _ | refine Grows.new ?_ _ | refine Grows.drewN ?_ _ | refine Grows.drew ?_ | assumption | (refine Grows.set ?_ (by first | omega | (simp; done) | (simp; omega)) _)))).mono ?_; rintro e w' ⟨rfl, hg⟩; obtain ⟨x6, rfl⟩ := hg.later; clear hg
              go_wp2_with fail
              refine (CN.out _ (by repeat (first | exact Grows.refl _ | refine Grows.now ?_ _ | refine Grows.new ?_ _ | refine Grows.drewN ?_ _ | refine Grows.drew ?_ | assumption | (refine Grows.set ?_ (by first | omega | (simp; done) | (simp; omega)) _)))).mono ?_; rintro e w' ⟨rfl, hg⟩; obtain ⟨x7, rfl⟩ := hg.later; clear hg
              go_wp2_with fail
              refine (alive45 _).mono ?_; rintro e w' ⟨rfl, hg⟩; obtain ⟨x8, rfl⟩ := hg.later; clear hg
              go_wp2_with fail
              go_ret
              exact ⟨rfl, (by repeat (first | exact Grows.refl _ | refine Grows.now ?_ _ | refine Grows.new ?_ _ | refine Grows.drewN ?_ _ | refine Grows.drew ?_ | assumption | (refine Grows.set ?_ (by first | omega | (simp; done) | (simp; omega)) _)))⟩)
          · have e1 : ((H.length : Int) == (NN : Int)) = false := beq_eq_false_iff_ne.2 (by omega)
            have CS := hide (fun (W : World) (g : Grows w W) => by
              have := CS.out W g
              rw [consB_not (.inr (by omega))] at this
              exact this)
            clear h h2 h3' hr hgH hHN
            go_enter Try.func9, Try.ntmps9
            go_wp2_with fail
            refine (CL.out _).mono ?_; rintro e w' ⟨rfl, hg⟩; obtain ⟨x1, rfl⟩ := hg.later; clear hg
            have b1 : Arr x1.now w.heap.size 24 [.int .i64 (NN : Int), .slice A E.length c] := Arr.grow ⟨by simp [heap_push]⟩ x1.grows
            go_wp2_with fail
            refine (C0.out _ (by repeat (first | exact Grows.refl _ | refine Grows.now ?_ _ | refine Grows.new ?_ _ | refine Grows.drewN ?_ _ | refine Grows.drew ?_ | assumption | (refine Grows.set ?_ (by first | omega | (simp; done) | (simp; omega)) _)))).mono ?_; rintro e w' ⟨rfl, hg⟩; obtain ⟨x2, rfl⟩ := hg.later; clear hg
            go_wp2_with fail
            refine (CC.out _ (by repeat (first | exact Grows.refl _ | refine Grows.now ?_ _ | refine Grows.new ?_ _ | refine Grows.drewN ?_ _ | refine Grows.drew ?_ | assumption | (refine Grows.set ?_ (by first | omega | (simp; done) | (simp; omega)) _))) _ (Rd.made (t := 3) (size := 1) (n := 1) [.int .i64 t] rfl)).mono ?_; rintro e w' ⟨rfl, hg⟩; obtain ⟨x3, rfl⟩ := hg.later; clear hg
            go_wp2_with fail
            refine (CR.out _ (by repeat (first | exact Grows.refl _ | refine Grows.now ?_ _ | refine Grows.new ?_ _ | refine Grows.drewN ?_ _ | refine Grows.drew ?_ | assumption | (refine Grows.set ?_ (by first | omega | (simp; done) | (simp; omega)) _)))).mono ?_; rintro e w' ⟨rfl, hg⟩; obtain ⟨x4, rfl⟩ := hg.later; clear hg
            go_wp2_with fail
            refine (CS.out _ (by repeat (first | exact Grows.refl _ | refine Grows.now ?_ _ | refine Grows.new ?_ _ | refine Grows.drewN ?_ _ | refine Grows.drew ?_ | assumption | (refine Grows.set ?_ (by first | omega | (simp; done) | (simp; omega)) _)))).mono ?_; rintro e w' ⟨rfl, hg⟩; obtain ⟨x5, rfl⟩ := hg.later; clear hg
            go_wp2_with fail
            refine (CN.out _ (by repeat (first | exact Grows.refl _ | refine Grows.now ?_ _ | refine Grows.new ?_ _ | refine Grows.drewN ?_ _ | refine Grows.drew ?_ | assumption | (refine Grows.set ?_ (by first | omega | (simp; done) | (simp; omega)) _)))).mono ?_; rintro e w' ⟨rfl, hg⟩; obtain ⟨x6, rfl⟩ := hg.later; clear hg
            go_wp2_with fail
            refine (alive45 _).mono ?_; rintro e w' ⟨rfl, hg⟩; obtain ⟨x7, rfl⟩ := hg.later; clear hg
            go_wp2_with fail
            go_ret
            exact ⟨rfl, (by repeat (first | exact Grows.refl _ | refine Grows.now ?_ _ | refine Grows.new ?_ _ | refine Grows.drewN ?_ _ | refine Grows.drew ?_ | assumption | (refine Grows.set ?_ (by first | omega | (simp; done) | (simp; omega)) _)))⟩
      · have hf : bdF N E t L = 1 := by unfold bdF; rw [if_pos (by rw [askF_bad hr]; omega)]; exact askF_bad hr
        have hask := askF_bad (t := t) hr
        have C0 := hide (fun (W : World) (g : Grows w W) => by
          have := C0.out (by omega) W g
          rw [hf] at this
          exact this)
        have CN := hide (CN.out (.inl (by omega)))
        have CS := hide (fun (W : World) (g : Grows w W) => by
          have := CS.out W g
          rw [consB_not (.inl hr)] at this
          exact this)
        rw [hask] at CC
        have hwn : (rightF N E == 0) = false := beq_eq_false_iff_ne.2 hr
        generalize rightF N E = rr at *
        clear h h2 h3' hf hask hr
        go_enter Try.func9, Try.ntmps9
        go_wp2_with fail
        refine (CL.out _).mono ?_; rintro e w' ⟨rfl, hg⟩; obtain ⟨x1, rfl⟩ := hg.later; clear hg
        have b1 : Arr x1.now w.heap.size 24 [.int .i64 N, .slice A E.length c] := Arr.grow ⟨by simp [heap_push]⟩ x1.grows
        go_wp2_with fail
        refine (C0.out _ (by repeat (first | exact Grows.refl _ | refine Grows.now ?_ _ | refine Grows.new ?_ _ | refine Grows.drewN ?_ _ | refine Grows.drew ?_ | assumption | (refine Grows.set ?_ (by first | omega | (simp; done) | (simp; omega)) _)))).mono ?_; rintro e w' ⟨rfl, hg⟩; obtain ⟨x2, rfl⟩ := hg.later; clear hg
        go_wp2_with fail
        refine (CC.out _ (by repeat (first | exact Grows.refl _ | refine Grows.now ?_ _ | refine Grows.new ?_ _ | refine Grows.drewN ?_ _ | refine Grows.drew ?_ | assumption | (refine Grows.set ?_ (by first | omega | (simp; done) | (simp; omega)) _))) _ (Rd.made (t := 3) (size := 1) (n := 1) [.int .i64 t] rfl)).mono ?_; rintro e w' ⟨rfl, hg⟩; obtain ⟨x3, rfl⟩ := hg.later; clear hg
        go_wp2_with fail
        refine (CR.out _ (by repeat (first | exact Grows.refl _ | refine Grows.now ?_ _ | refine Grows.new ?_ _ | refine Grows.drewN ?_ _ | refine Grows.drew ?_ | assumption | (refine Grows.set ?_ (by first | omega | (simp; done) | (simp; omega)) _)))).mono ?_; rintro e w' ⟨rfl, hg⟩; obtain ⟨x4, rfl⟩ := hg.later; clear hg
        go_wp2_with fail
        refine (CS.out _ (by repeat (first | exact Grows.refl _ | refine Grows.now ?_ _ | refine Grows.new ?_ _ | refine Grows.drewN ?_ _ | refine Grows.drew ?_ | assumption | (refine Grows.set ?_ (by first | omega | (simp; done) | (simp; omega)) _)))).mono ?_; rintro e w' ⟨rfl, hg⟩; obtain ⟨x5, rfl⟩ := hg.later; clear hg
        go_wp2_with fail
        refine (CN.out _ (by repeat (first | exact Grows.refl _ | refine Grows.now ?_ _ | refine Grows.new ?_ _ | refine Grows.drewN ?_ _ | refine Grows.drew ?_ | assumption | (refine Grows.set ?_ (by first | omega | (simp; done) | (simp; omega)) _)))).mono ?_; rintro e w' ⟨rfl, hg⟩; obtain ⟨x6, rfl⟩ := hg.later; clear hg
        go_wp2_with fail
        refine (alive45 _).mono ?_; rintro e w' ⟨rfl, hg⟩; obtain ⟨x7, rfl⟩ := hg.later; clear hg
        go_wp2_with fail
        go_ret
        exact ⟨rfl, (by repeat (first | exact Grows.refl _ | refine Grows.now ?_ _ | refine Grows.new ?_ _ | refine Grows.drewN ?_ _ | refine Grows.drew ?_ | assumption | (refine Grows.set ?_ (by first | omega | (simp; done) | (simp; omega)) _)))⟩
end Go.Proofs.Ytiljgkaffgclgaa

/- The law AstarBounds: for every input it returns true, and each argument reads as before. No condition. -/
namespace Go.Proofs.Ytiljgkaffgclgaa.lawAstarBounds
open Go Go.ChangeShapes Go.WideShapes Go.ChangeAt Go.RowKit Go.Proofs.Ytiljgkaffgclgaa

theorem own : ownKnob Try.prog.godebug = none := by kernel_rfl
theorem laidOut : laidOutB Try.prog = true := by kernel_rfl

set_option maxRecDepth 100000 in
theorem lifted (os : Os) (started : os.Started) (H : Type) (enc : TypeId × Value → H) :
    ReturnsInHanded {} Try.checked os 9 .any (Rows.astarBoundsSpec.pre6 enc Try.prog Try.f9 Rows.astarBoundsRow.domain false) (Rows.astarBoundsSpec.post enc Try.prog Try.f9 false true false false) := by
  refine returnsInHanded_of_change (C := Try.checked) own started (by kernel_rfl) Try.func9
    (ChangeSpec.witness6 (enc := enc) (C := Try.checked) false ⟨#[], #[.agg #[.int .i64 0, .slice none 0 0], .slice none 0 0, .int .i64 0, .slice none 0 0], []⟩ 8 (by kernel_rfl) (by kernel_rfl) (by kernel_rfl) (by kernel_rfl)) ?_
  intro W base args ds gs before hval0 hW hcnd _
  have hval : ∀ (j : Nat) t v, Try.f9.params[j]? = some t → args[j]? = some v → Value.okWide Try.prog W .any base t v := hval0
  have hW' := hW
  obtain ⟨p, q, hA0, hV, rfl, hfz, hnd⟩ := hW
  have hA : DataW.TrodAll enc Try.prog W 0 (fun _ => true) true Try.f9.params.toList args.toList ds p := hA0
  rw [Try.params9] at hA hval
  obtain ⟨v0, vs0, d0, ds0, p0, q0, hargs, rfl, rfl, h0, r0⟩ := trodAll_cons hA
  obtain ⟨v1, vs1, d1, ds1, p1, q1, rfl, rfl, rfl, h1, r1⟩ := trodAll_cons r0
  obtain ⟨v2, vs2, d2, ds2, p2, q2, rfl, rfl, rfl, h2, r2⟩ := trodAll_cons r1
  obtain ⟨v3, vs3, d3, ds3, p3, q3, rfl, rfl, rfl, h3, r3⟩ := trodAll_cons r2
  obtain ⟨rfl, rfl, rfl⟩ := trodAll_nil r3
  obtain rfl : args = #[v0, v1, v2, v3] := by cases args; simp_all
  obtain ⟨rfl, rfl⟩ := trodVars_none hV
  have k0 := h0
  have lt0 : ∀ x ∈ p0, x.block < W.heap.size := by obtain ⟨m, hm⟩ := k0; exact DataW.trod_lt m _ _ _ hm
  obtain ⟨a0, A0, n0, c0, z0, rfl, x0, l0, w0, u0⟩ := open_graph Try.underlying24 Try.underlying3 Try.underlying22 Try.underlying77 Try.underlying3 Try.underlying3 Try.underlying33 ⟨rfl, rfl, rfl⟩ ⟨by kernel_rfl, by kernel_rfl, by kernel_rfl⟩ (by kernel_rfl) (by kernel_rfl) (by kernel_rfl) (hval 0 24 v0 rfl rfl) h0
  have k1 := h1
  have lt1 : ∀ x ∈ p1, x.block < W.heap.size := by obtain ⟨m, hm⟩ := k1; exact DataW.trod_lt m _ _ _ hm
  obtain ⟨A1, n1, c1, z1, rfl, l1, w1, u1⟩ := open_places Try.underlying79 Try.underlying132 Try.underlying3 Try.underlying3 ⟨rfl, rfl⟩ ⟨by kernel_rfl, by kernel_rfl⟩ (by kernel_rfl) (hval 1 79 v1 rfl rfl) h1
  have k2 := h2
  have lt2 : ∀ x ∈ p2, x.block < W.heap.size := by obtain ⟨m, hm⟩ := k2; exact DataW.trod_lt m _ _ _ hm
  obtain ⟨a2, rfl, w2⟩ := open_i64 Try.underlying3 (hval 2 3 v2 rfl rfl) h2
  have k3 := h3
  have lt3 : ∀ x ∈ p3, x.block < W.heap.size := by obtain ⟨m, hm⟩ := k3; exact DataW.trod_lt m _ _ _ hm
  obtain ⟨A3, n3, c3, z3, rfl, l3, w3, u3⟩ := open_numsC Try.underlying40 Try.underlying33 (by kernel_rfl) (hval 3 40 v3 rfl rfl) h3
  clear hA0 hval0
  refine (astarBoundsW a0 A0 n0 c0 z0 A1 n1 c1 z1 a2 A3 n3 c3 z3 W x0 l0 w0 u0 l1 w1 u1 w2 l3 w3 u3).mono fun e W' ⟨he, bel⟩ => ?_
  subst he
  exact ⟨_, rfl, _, _, _, [], _, [], hW', trodAll_mk1 (shut_bool Try.underlying4 _), (trodAll_cons_mk (Below.trod laidOut (by kernel_rfl) (of_decide_eq_true (by kernel_rfl)) k0 bel lt0) (trodAll_cons_mk (Below.trod laidOut (by kernel_rfl) (of_decide_eq_true (by kernel_rfl)) k1 bel lt1) (trodAll_cons_mk (Below.trod laidOut (by kernel_rfl) (of_decide_eq_true (by kernel_rfl)) k2 bel lt2) (trodAll_cons_mk (Below.trod laidOut (by kernel_rfl) (of_decide_eq_true (by kernel_rfl)) k3 bel lt3) trodAll_mk0)))), rfl, Below.frame bel _, fun h => by cases h⟩

theorem over : Rows.astarBoundsRow.holds Try.pinned (OpenSpec.ofChange Rows.astarBoundsSpec) :=
  OpenClaim.holds_of_wide 9 Try.f9 rfl rfl rfl rfl rfl rfl rfl ⟨rfl, rfl, rfl, rfl, rfl⟩ rfl rfl rfl rfl rfl (by kernel_rfl) Try.func9 (by kernel_rfl)
    (of_decide_eq_true (by kernel_rfl)) (by unfold Func.isWrapper; first | (rw [if_pos (by decide +kernel)]; kernel_rfl) | (rw [if_neg (by decide +kernel)]; exact ⟨rfl, rfl⟩))
    (fun os started H enc _ => lifted os started H enc)

end Go.Proofs.Ytiljgkaffgclgaa.lawAstarBounds
namespace Go.Proofs.Ytiljgkaffgclgaa
/-- The statement. -/
theorem astarBounds_proved : Rows.AstarBoundsSaid := lawAstarBounds.over
#print axioms astarBounds_proved
end Go.Proofs.Ytiljgkaffgclgaa
