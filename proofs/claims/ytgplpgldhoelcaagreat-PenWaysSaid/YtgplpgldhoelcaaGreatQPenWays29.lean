/- The law PenWays: for every input it returns true, and each argument reads as before. No condition. -/
import Derived.Test.YtgplpgldhoelcaaGreatQPenWays13
import Derived.Test.YtgplpgldhoelcaaGreatQPenWays27
import Derived.Test.YtgplpgldhoelcaaGreatQPenWays28
namespace Go.Proofs.YtgplpgldhoelcaaGreat
open Go Go.RowKit
attribute [local go_sem] Oper.semAt_some
theorem box2 (w : World) (c1 c2 : List Value) (t1 t2 : TypeId) :
    Grows w ((w.alloc (.cells c1.toArray t1)).alloc (.cells c2.toArray t2)) ∧ Arr ((w.alloc (.cells c1.toArray t1)).alloc (.cells c2.toArray t2)) w.heap.size t1 c1 ∧ Arr ((w.alloc (.cells c1.toArray t1)).alloc (.cells c2.toArray t2)) (w.heap.size + 1) t2 c2 := by
  refine ⟨((Grows.refl _).new _).new _, (Arr.make _ _ _).grow ((Grows.refl _).new _), ?_⟩
  have h := Arr.make (w.alloc (.cells c1.toArray t1)) c2 t2
  have e : (w.alloc (.cells c1.toArray t1)).heap.size = w.heap.size + 1 := by simp
  rwa [e] at h
theorem gtr_no {w w' : World} {po : Bool} {r R z : Int} {P : Nat → List Nat} {V : Nat → Nat} {e : Ending} (h : GiveTr w po r R P V e w') (hz : (po = false ∧ z = 1) ∨ (po = true ∧ r ≠ 0 ∧ z = r)) : e = .returned (.tuple #[.slice none 0 0, .int .i64 z]) ∧ Grows w w' := by
  unfold GiveTr at h
  rcases hz with ⟨h1, rfl⟩ | ⟨h1, h2, rfl⟩
  · rwa [if_pos h1] at h
  · rwa [if_neg (by rw [h1]; decide), if_pos h2] at h
theorem gws_no {w w' : World} {po : Bool} {r z : Int} {n K : Nat} {why : Nat → List Nat → Int} {F : Nat → List Nat × Nat} {e : Ending} (h : GiveWs w po r n K why F e w') (hz : (po = false ∧ z = 1) ∨ (po = true ∧ r ≠ 0 ∧ z = r)) : e = .returned (.tuple #[.slice none 0 0, .int .i64 z]) ∧ Grows w w' := by
  unfold GiveWs at h
  rcases hz with ⟨h1, rfl⟩ | ⟨h1, h2, rfl⟩
  · rwa [if_pos h1] at h
  · rwa [if_neg (by rw [h1]; decide), if_pos h2] at h
theorem gwr_no {w w' : World} {po : Bool} {r z : Int} {n K : Nat} {why : Nat → List Nat → Int} {F : Nat → List Nat × Nat} {e : Ending} (h : GiveWr w po r n K why F e w') (hz : (po = false ∧ z = 1) ∨ (po = true ∧ r ≠ 0 ∧ z = r)) : e = .returned (.tuple #[.slice none 0 0, .int .i64 z]) ∧ Grows w w' := by
  unfold GiveWr at h
  rcases hz with ⟨h1, rfl⟩ | ⟨h1, h2, rfl⟩
  · rwa [if_pos h1] at h
  · rwa [if_neg (by rw [h1]; decide), if_pos h2] at h
theorem gtr_yes {w w' : World} {po : Bool} {r R : Int} {P : Nat → List Nat} {V : Nat → Nat} {e : Ending} (h : GiveTr w po r R P V e w') (h1 : po = true) (h2 : r = 0) : ∃ A c rs, e = .returned (.tuple #[.slice A rs.length c, .int .i64 0]) ∧ RtsAt w' w.heap.size A c rs (pthK (fun j => (P j, V j)) (R.toNat + 1)) ∧ Grows w w' := by
  unfold GiveTr at h
  rwa [if_neg (by rw [h1]; decide), if_neg (by omega)] at h
theorem gws_yes {w w' : World} {po : Bool} {r : Int} {n K : Nat} {why : Nat → List Nat → Int} {F : Nat → List Nat × Nat} {e : Ending} (h : GiveWs w po r n K why F e w') (h1 : po = true) (h2 : r = 0) : ∃ A c rs, e = .returned (.tuple #[.slice A rs.length c, .int .i64 0]) ∧ RtsAt w' w.heap.size A c rs ((keepW why K n).map F) ∧ Grows w w' := by
  unfold GiveWs at h
  rwa [if_neg (by rw [h1]; decide), if_neg (by omega)] at h
theorem gwr_yes {w w' : World} {po : Bool} {r : Int} {n K : Nat} {why : Nat → List Nat → Int} {F : Nat → List Nat × Nat} {e : Ending} (h : GiveWr w po r n K why F e w') (h1 : po = true) (h2 : r = 0) : ∃ A c rs, e = .returned (.tuple #[.slice A rs.length c, .int .i64 0]) ∧ RtsRd w' A rs ((keepW why K n).map F) ∧ Grows w w' := by
  unfold GiveWr at h
  rwa [if_neg (by rw [h1]; decide), if_neg (by omega)] at h
set_option maxRecDepth 40000 in
set_option maxHeartbeats 8000000 in
theorem penWaysW (N : Int) (A : Option Addr) (n c : Nat) (E : List Edg) (s t : Int) (o : PO) (w : World) (_ : I64 N) (_ : n ≤ c) (h : Rd w A 3 n (esCells E)) (_ : ∀ k, k < n → edgOk (ge E k)) (_ : I64 s) (_ : I64 t) (ho : poIn o) :
    Calls Tryz.prog 8 #[.agg #[.int .i64 N, .slice A n c], .int .i64 s, .int .i64 t, poV o] w fun e w' => e = .returned (.bool true) ∧ Grows w w' := by
  have C5 := hide (fun (W : World) => alive32 W)
  have C6 := hide (fun (W : World) => lLight32 N A n c o W)
  have C7 := hide (fun (W : World) => law32Of o W)
  obtain ⟨hk1, hk2, ⟨u1, u1'⟩, ⟨u2, u2'⟩, ⟨u3, u3'⟩, ⟨u4, u4'⟩⟩ := ho
  have C8 := hide (fun (W : World) => penRight o W)
  have C9 := hide (fun (W : World) => r32Right o u1 u2 u3 u4 W)
  obtain rfl : E.length = n := h.elen
  cases hl : lightP N E.length o.r with
  | false =>
    rw [hl] at C6
    generalize E.length = n at *
    clear h hl C8 C9 C7
    obtain ⟨ok_, or_, f1, f2, a1, a2, e1, e2, g1, g2⟩ := o
    unfold poV at C6 ⊢
    dsimp only at C6 ⊢
    go_enter Tryz.func8, Tryz.ntmps8
    go_wp2_with (first | (go_at_call 33; refine (C6.out _).mono ?_; rintro e w' ⟨rfl, hg⟩; (first | obtain ⟨x, rfl⟩ := Grows.later2 hg | obtain ⟨x, rfl⟩ := Grows.later hg); clear hg) | (go_at_call 34; refine (C5.out _).mono ?_; rintro e w' ⟨rfl, hg⟩; (first | obtain ⟨x, rfl⟩ := Grows.later2 hg | obtain ⟨x, rfl⟩ := Grows.later hg); clear hg))
    go_ret
    exact ⟨rfl, GG⟩
  | true =>
    rw [hl] at C6
    have hlt := lightP_of hl
    clear hl
    obtain ⟨WW, P, V, r, ts, hA⟩ := pen_all N s t A c E o w h (by omega) (by omega) u1 u2 u3 u4 u2'
    by_cases hno : poB o = false ∨ r ≠ 0
    · obtain ⟨z, hz⟩ : ∃ z : Int, (poB o = false ∧ z = 1) ∨ (poB o = true ∧ r ≠ 0 ∧ z = r) := by
        cases hpo : poB o with
        | false => exact ⟨1, .inl ⟨rfl, rfl⟩⟩
        | true => exact ⟨r, .inr ⟨rfl, by rcases hno with e | e; · rw [hpo] at e; cases e
                                          · exact e, rfl⟩⟩
      have C1 := hide (fun (X : World) (g : Grows w X) => (hA.ways X g).mono (fun e w' hh => gws_no hh hz))
      have C2 := hide (fun (X : World) (g : Grows w X) => (hA.ways2 X g).mono (fun e w' hh => gwr_no hh hz))
      have C3 := hide (fun (X : World) (g : Grows w X) => (hA.tries X g).mono (fun e w' hh => gtr_no hh hz))
      have C4 := hide (fun (X : World) (g : Grows w X) => (hA.tries2 X g).mono (fun e w' hh => gtr_no hh hz))
      have C0 := hide (fun (W : World) => show Calls Tryz.prog 21 #[.slice none 0 0, .slice none 0 0] W fun e w' => e = .returned (.bool true) ∧ Grows W w' from r8RoutesEq 0 0 none none 0 0 [] [] [] W (RtsAt.nil _ _) (RtsAt.nil _ _) (by simp) (by simp))
      clear hno hz hA hlt h
      generalize E.length = n at *
      generalize poB o = po at *
      clear u1 u1' u2 u2' u3 u3' u4 u4' hk1 hk2
      obtain ⟨ok_, or_, f1, f2, a1, a2, e1, e2, g1, g2⟩ := o
      unfold poV at C1 C2 C3 C4 C6 C7 C8 C9 ⊢
      dsimp only at C1 C2 C3 C4 C6 C7 C8 C9 ⊢
      cases po with
      | false =>
        go_enter Tryz.func8, Tryz.ntmps8
        go_upto_region 1 with fail
        obtain ⟨w0, hw0⟩ : ∃ W, W = (w.alloc (.cells #[.int .i64 N, .slice A n c] 35)).alloc (.cells #[.int .i64 ok_, .int .i64 or_, .int .u64 f1, .int .u64 f2, .int .u64 a1, .int .u64 a2, .int .u64 e1, .int .u64 e2, .int .u64 g1, .int .u64 g2] 73) := ⟨_, rfl⟩
        obtain ⟨hg0, a4, a7⟩ := box2 w [.int .i64 N, .slice A n c] [.int .i64 ok_, .int .i64 or_, .int .u64 f1, .int .u64 f2, .int .u64 a1, .int .u64 a2, .int .u64 e1, .int .u64 e2, .int .u64 g1, .int .u64 g2] 35 73
        replace hg0 : Grows w w0 := by rw [hw0]; exact hg0
        replace a4 : Arr w0 w.heap.size 35 [.int .i64 N, .slice A n c] := by rw [hw0]; exact a4
        replace a7 : Arr w0 (w.heap.size + 1) 73 [.int .i64 ok_, .int .i64 or_, .int .u64 f1, .int .u64 f2, .int .u64 a1, .int .u64 a2, .int .u64 e1, .int .u64 e2, .int .u64 g1, .int .u64 g2] := by rw [hw0]; exact a7
        rw [← hw0]
        clear hw0
        generalize w.heap.size + 1 = b7 at *
        obtain ⟨b4, hb4⟩ : ∃ b, b = w.heap.size := ⟨_, rfl⟩
        rw [← hb4] at a4 ⊢
        clear hb4
        have m6 := a7.mine 6 rfl
        have m7 := a7.mine 7 rfl
        have m8 := a7.mine 8 rfl
        have m9 := a7.mine 9 rfl
        go_wp2_with (first | (go_at_call 33; refine (C6.out _).mono ?_; rintro e w' ⟨rfl, hg⟩; (first | obtain ⟨x, rfl⟩ := Grows.later2 hg | obtain ⟨x, rfl⟩ := Grows.later hg); clear hg) | (go_at_call 35; refine (C1.out _ (hg0.trans GG)).mono ?_; rintro e w' ⟨rfl, hg⟩; (first | obtain ⟨x, rfl⟩ := Grows.later2 hg | obtain ⟨x, rfl⟩ := Grows.later hg); clear hg))
        ((first | refine wp_region_gen (by kernel_rfl) (by kernel_rfl) ?_); (repeat' ((first | refine gLex_val0 rfl (by kernel_rfl) (fun K hK => ?_) | refine gLex_undef rfl rfl rfl (by kernel_rfl) (fun K hK => ?_) | (refine gLex_ask rfl rfl rfl ?_; first | (apply gAsk_yes; kernel_rfl; intro K hK) | ((first | apply gAsk_no1 | apply gAsk_no2); kernel_rfl; intro K hK) | (apply gAsk_part; kernel_rfl; all_goals (intro h K hK; (try simp only [Bool.not_true] at h); (try simp only [Bool.not_false] at h); (try simp only [decide_eq_true_eq] at h); (try simp only [decide_eq_false_iff_not] at h); try (exfalso; first | contradiction | omega))))) <;> (go_simp; (try (simp only [↓IntWalk.iteOmega]; try go_simp)); (try simp (disch := omega) only [IntWalk.i64_in]); (try simp (disch := omega) only [IntWalk.u64_in]); first | (refine hK _ ?_; clear hK K) | (apply Exists.intro; refine ⟨fun x => ?_, hK _ ?_⟩; (first | (go_at_call 37; exact C7.out _) | (go_at_call 36; exact C2.out _ (hg0.trans GG))); clear hK K)))); all_goals ((apply gLex_end); intro y1))
        go_wp2_with (first | (go_at_call 38; refine (C3.out _ (hg0.trans GG)).mono ?_; rintro e w' ⟨rfl, hg⟩; (first | obtain ⟨x, rfl⟩ := Grows.later2 hg | obtain ⟨x, rfl⟩ := Grows.later hg); clear hg))
        ((first | refine wp_region_gen (by kernel_rfl) (by kernel_rfl) ?_); (repeat' ((first | refine gLex_val0 rfl (by kernel_rfl) (fun K hK => ?_) | refine gLex_undef rfl rfl rfl (by kernel_rfl) (fun K hK => ?_) | (refine gLex_ask rfl rfl rfl ?_; first | (apply gAsk_yes; kernel_rfl; intro K hK) | ((first | apply gAsk_no1 | apply gAsk_no2); kernel_rfl; intro K hK) | (apply gAsk_part; kernel_rfl; all_goals (intro h K hK; (try simp only [Bool.not_true] at h); (try simp only [Bool.not_false] at h); (try simp only [decide_eq_true_eq] at h); (try simp only [decide_eq_false_iff_not] at h); try (exfalso; first | contradiction | omega))))) <;> (go_simp; (try (simp only [↓IntWalk.iteOmega]; try go_simp)); (try simp (disch := omega) only [IntWalk.i64_in]); (try simp (disch := omega) only [IntWalk.u64_in]); first | (refine hK _ ?_; clear hK K) | (apply Exists.intro; refine ⟨fun x => ?_, hK _ ?_⟩; (first | (go_at_call 37; exact C7.out _) | (go_at_call 39; exact C4.out _ (hg0.trans GG))); clear hK K)))); all_goals ((apply gLex_end); intro y2))
        go_wp2_with fail
        ((first | refine wp_region_gen (by kernel_rfl) (by kernel_rfl) ?_); (repeat' ((first | refine gLex_val0 rfl (by kernel_rfl) (fun K hK => ?_) | refine gLex_undef rfl rfl rfl (by kernel_rfl) (fun K hK => ?_) | (refine gLex_ask rfl rfl rfl ?_; first | (apply gAsk_yes; kernel_rfl; intro K hK) | ((first | apply gAsk_no1 | apply gAsk_no2); kernel_rfl; intro K hK) | (apply gAsk_part; kernel_rfl; all_goals (intro h K hK; (try simp only [Bool.not_true] at h); (try simp only [Bool.not_false] at h); (try simp only [decide_eq_true_eq] at h); (try simp only [decide_eq_false_iff_not] at h); try (exfalso; first | contradiction | omega))))) <;> (go_simp; (try (simp only [↓IntWalk.iteOmega]; try go_simp)); (try simp (disch := omega) only [IntWalk.i64_in]); (try simp (disch := omega) only [IntWalk.u64_in]); first | (refine hK _ ?_; clear hK K) | (apply Exists.intro; refine ⟨fun x => ?_, hK _ ?_⟩; (first | (go_at_call 21; exact C0.out _) | (go_at_call 37; exact C7.out _) | (go_at_call 40; exact C8.out _) | (go_at_call 41; exact C9.out _) | (go_at_call 34; exact C5.out _)); clear hK K)))); all_goals ((apply gLex_end); intro y3))
        go_wp2_with fail
        go_ret
        exact ⟨rfl, hg0.trans GG⟩
      | true =>
        go_enter Tryz.func8, Tryz.ntmps8
        go_upto_region 1 with fail
        obtain ⟨w0, hw0⟩ : ∃ W, W = (w.alloc (.cells #[.int .i64 N, .slice A n c] 35)).alloc (.cells #[.int .i64 ok_, .int .i64 or_, .int .u64 f1, .int .u64 f2, .int .u64 a1, .int .u64 a2, .int .u64 e1, .int .u64 e2, .int .u64 g1, .int .u64 g2] 73) := ⟨_, rfl⟩
        obtain ⟨hg0, a4, a7⟩ := box2 w [.int .i64 N, .slice A n c] [.int .i64 ok_, .int .i64 or_, .int .u64 f1, .int .u64 f2, .int .u64 a1, .int .u64 a2, .int .u64 e1, .int .u64 e2, .int .u64 g1, .int .u64 g2] 35 73
        replace hg0 : Grows w w0 := by rw [hw0]; exact hg0
        replace a4 : Arr w0 w.heap.size 35 [.int .i64 N, .slice A n c] := by rw [hw0]; exact a4
        replace a7 : Arr w0 (w.heap.size + 1) 73 [.int .i64 ok_, .int .i64 or_, .int .u64 f1, .int .u64 f2, .int .u64 a1, .int .u64 a2, .int .u64 e1, .int .u64 e2, .int .u64 g1, .int .u64 g2] := by rw [hw0]; exact a7
        rw [← hw0]
        clear hw0
        generalize w.heap.size + 1 = b7 at *
        obtain ⟨b4, hb4⟩ : ∃ b, b = w.heap.size := ⟨_, rfl⟩
        rw [← hb4] at a4 ⊢
        clear hb4
        have m6 := a7.mine 6 rfl
        have m7 := a7.mine 7 rfl
        have m8 := a7.mine 8 rfl
        have m9 := a7.mine 9 rfl
        go_wp2_with (first | (go_at_call 33; refine (C6.out _).mono ?_; rintro e w' ⟨rfl, hg⟩; (first | obtain ⟨x, rfl⟩ := Grows.later2 hg | obtain ⟨x, rfl⟩ := Grows.later hg); clear hg) | (go_at_call 35; refine (C1.out _ (hg0.trans GG)).mono ?_; rintro e w' ⟨rfl, hg⟩; (first | obtain ⟨x, rfl⟩ := Grows.later2 hg | obtain ⟨x, rfl⟩ := Grows.later hg); clear hg))
        ((first | refine wp_region_gen (by kernel_rfl) (by kernel_rfl) ?_); (repeat' ((first | refine gLex_val0 rfl (by kernel_rfl) (fun K hK => ?_) | refine gLex_undef rfl rfl rfl (by kernel_rfl) (fun K hK => ?_) | (refine gLex_ask rfl rfl rfl ?_; first | (apply gAsk_yes; kernel_rfl; intro K hK) | ((first | apply gAsk_no1 | apply gAsk_no2); kernel_rfl; intro K hK) | (apply gAsk_part; kernel_rfl; all_goals (intro h K hK; (try simp only [Bool.not_true] at h); (try simp only [Bool.not_false] at h); (try simp only [decide_eq_true_eq] at h); (try simp only [decide_eq_false_iff_not] at h); try (exfalso; first | contradiction | omega))))) <;> (go_simp; (try (simp only [↓IntWalk.iteOmega]; try go_simp)); (try simp (disch := omega) only [IntWalk.i64_in]); (try simp (disch := omega) only [IntWalk.u64_in]); first | (refine hK _ ?_; clear hK K) | (apply Exists.intro; refine ⟨fun x => ?_, hK _ ?_⟩; (first | (go_at_call 37; exact C7.out _) | (go_at_call 36; exact C2.out _ (hg0.trans GG))); clear hK K)))); all_goals ((apply gLex_end); intro y1))
        go_wp2_with (first | (go_at_call 38; refine (C3.out _ (hg0.trans GG)).mono ?_; rintro e w' ⟨rfl, hg⟩; (first | obtain ⟨x, rfl⟩ := Grows.later2 hg | obtain ⟨x, rfl⟩ := Grows.later hg); clear hg))
        ((first | refine wp_region_gen (by kernel_rfl) (by kernel_rfl) ?_); (repeat' ((first | refine gLex_val0 rfl (by kernel_rfl) (fun K hK => ?_) | refine gLex_undef rfl rfl rfl (by kernel_rfl) (fun K hK => ?_) | (refine gLex_ask rfl rfl rfl ?_; first | (apply gAsk_yes; kernel_rfl; intro K hK) | ((first | apply gAsk_no1 | apply gAsk_no2); kernel_rfl; intro K hK) | (apply gAsk_part; kernel_rfl; all_goals (intro h K hK; (try simp only [Bool.not_true] at h); (try simp only [Bool.not_false] at h); (try simp only [decide_eq_true_eq] at h); (try simp only [decide_eq_false_iff_not] at h); try (exfalso; first | contradiction | omega))))) <;> (go_simp; (try (simp only [↓IntWalk.iteOmega]; try go_simp)); (try simp (disch := omega) only [IntWalk.i64_in]); (try simp (disch := omega) only [IntWalk.u64_in]); first | (refine hK _ ?_; clear hK K) | (apply Exists.intro; refine ⟨fun x => ?_, hK _ ?_⟩; (first | (go_at_call 37; exact C7.out _) | (go_at_call 39; exact C4.out _ (hg0.trans GG))); clear hK K)))); all_goals ((apply gLex_end); intro y2))
        go_wp2_with fail
        ((first | refine wp_region_gen (by kernel_rfl) (by kernel_rfl) ?_); (repeat' ((first | refine gLex_val0 rfl (by kernel_rfl) (fun K hK => ?_) | refine gLex_undef rfl rfl rfl (by kernel_rfl) (fun K hK => ?_) | (refine gLex_ask rfl rfl rfl ?_; first | (apply gAsk_yes; kernel_rfl; intro K hK) | ((first | apply gAsk_no1 | apply gAsk_no2); kernel_rfl; intro K hK) | (apply gAsk_part; kernel_rfl; all_goals (intro h K hK; (try simp only [Bool.not_true] at h); (try simp only [Bool.not_false] at h); (try simp only [decide_eq_true_eq] at h); (try simp only [decide_eq_false_iff_not] at h); try (exfalso; first | contradiction | omega))))) <;> (go_simp; (try (simp only [↓IntWalk.iteOmega]; try go_simp)); (try simp (disch := omega) only [IntWalk.i64_in]); (try simp (disch := omega) only [IntWalk.u64_in]); first | (refine hK _ ?_; clear hK K) | (apply Exists.intro; refine ⟨fun x => ?_, hK _ ?_⟩; (first | (go_at_call 21; exact C0.out _) | (go_at_call 37; exact C7.out _) | (go_at_call 40; exact C8.out _) | (go_at_call 41; exact C9.out _) | (go_at_call 34; exact C5.out _)); clear hK K)))); all_goals ((apply gLex_end); intro y3))
        go_wp2_with fail
        go_ret
        exact ⟨rfl, hg0.trans GG⟩
    · have hpo : poB o = true := by cases e : poB o with
        | false => exact absurd (.inl e) hno
        | true => rfl
      have hr0 : r = 0 := by
        by_cases hr : r = 0
        · exact hr
        · exact absurd (.inr hr) hno
      have hR := poB_k hpo
      have hbl := hA.tr.below (show N ≤ 1000 ∨ 4096 < N by omega)
      have hkl := keepW_len (whyK N s t E o P (V 0) r ts) o.k.toNat (o.r.toNat + 1)
      have hps : ∀ p ∈ (keepW (whyK N s t E o P (V 0) r ts) o.k.toNat (o.r.toNat + 1)).map (fun j => (P j, V j)), p.1.length ≤ 1000000 := fun p hp => by
        obtain ⟨j, _, rfl⟩ := List.mem_map.1 hp
        have := hbl j
        show (P j).length ≤ _
        omega
      have hps2 : ∀ p ∈ pthK (fun j => (P j, V j)) (o.r.toNat + 1), p.1.length ≤ 1000000 := fun p hp => by
        unfold pthK at hp
        obtain ⟨j, _, rfl⟩ := List.mem_map.1 hp
        have := hbl j
        show (P j).length ≤ _
        omega
      have hln : ((keepW (whyK N s t E o P (V 0) r ts) o.k.toNat (o.r.toNat + 1)).map (fun j => (P j, V j))).length ≤ 1000000 := by rw [List.length_map]; omega
      have hln2 : (pthK (fun j => (P j, V j)) (o.r.toNat + 1)).length ≤ 1000000 := by simp [pthK]; omega
      clear hno hlt h hbl hkl hR
      have C1 := hide (fun (X : World) (g : Grows w X) => show Calls Tryz.prog 35 #[.agg #[.int .i64 N, .slice A E.length c], .int .i64 s, .int .i64 t, poV o] X fun e w' => ∃ A c rs, e = .returned (.tuple #[.slice A rs.length c, .int .i64 0]) ∧ RtsOk w' A rs ((keepW (whyK N s t E o P (V 0) r ts) o.k.toNat (o.r.toNat + 1)).map (fun j => (P j, V j))) ∧ Grows X w' from (hA.ways X g).mono (fun e w' hh => by
        obtain ⟨A1, c1, rs1, e1, h1, hg⟩ := gws_yes hh hpo hr0
        exact ⟨A1, c1, rs1, e1, ⟨h1.toRd, hln, hps⟩, hg⟩))
      have C2 := hide (fun (X : World) (g : Grows w X) => show Calls Tryz.prog 36 #[.agg #[.int .i64 N, .slice A E.length c], .int .i64 s, .int .i64 t, poV o] X fun e w' => ∃ A c rs, e = .returned (.tuple #[.slice A rs.length c, .int .i64 0]) ∧ RtsOk w' A rs ((keepW (whyK N s t E o P (V 0) r ts) o.k.toNat (o.r.toNat + 1)).map (fun j => (P j, V j))) ∧ Grows X w' from (hA.ways2 X g).mono (fun e w' hh => by
        obtain ⟨A1, c1, rs1, e1, h1, hg⟩ := gwr_yes hh hpo hr0
        exact ⟨A1, c1, rs1, e1, ⟨h1, hln, hps⟩, hg⟩))
      have C3 := hide (fun (X : World) (g : Grows w X) => show Calls Tryz.prog 38 #[.agg #[.int .i64 N, .slice A E.length c], .int .i64 s, .int .i64 t, poV o] X fun e w' => ∃ A c rs, e = .returned (.tuple #[.slice A rs.length c, .int .i64 0]) ∧ RtsOk w' A rs (pthK (fun j => (P j, V j)) (o.r.toNat + 1)) ∧ Grows X w' from (hA.tries X g).mono (fun e w' hh => by
        obtain ⟨A1, c1, rs1, e1, h1, hg⟩ := gtr_yes hh hpo hr0
        exact ⟨A1, c1, rs1, e1, ⟨h1.toRd, hln2, hps2⟩, hg⟩))
      have C4 := hide (fun (X : World) (g : Grows w X) => show Calls Tryz.prog 39 #[.agg #[.int .i64 N, .slice A E.length c], .int .i64 s, .int .i64 t, poV o] X fun e w' => ∃ A c rs, e = .returned (.tuple #[.slice A rs.length c, .int .i64 0]) ∧ RtsOk w' A rs (pthK (fun j => (P j, V j)) (o.r.toNat + 1)) ∧ Grows X w' from (hA.tries2 X g).mono (fun e w' hh => by
        obtain ⟨A1, c1, rs1, e1, h1, hg⟩ := gtr_yes hh hpo hr0
        exact ⟨A1, c1, rs1, e1, ⟨h1.toRd, hln2, hps2⟩, hg⟩))
      clear hA
      generalize (keepW (whyK N s t E o P (V 0) r ts) o.k.toNat (o.r.toNat + 1)).map (fun j => (P j, V j)) = ps at *
      generalize pthK (fun j => (P j, V j)) (o.r.toNat + 1) = ps2 at *
      rw [hpo] at C8 C9
      clear hpo hr0 hps hps2 hln hln2
      generalize E.length = n at *
      clear u1 u1' u2 u2' u3 u3' u4 u4' hk1 hk2
      obtain ⟨ok_, or_, f1, f2, a1, a2, e1, e2, g1, g2⟩ := o
      unfold poV at C1 C2 C3 C4 C6 C7 C8 C9 ⊢
      dsimp only at C1 C2 C3 C4 C6 C7 C8 C9 ⊢
      go_enter Tryz.func8, Tryz.ntmps8
      go_upto_region 1 with fail
      obtain ⟨w0, hw0⟩ : ∃ W, W = (w.alloc (.cells #[.int .i64 N, .slice A n c] 35)).alloc (.cells #[.int .i64 ok_, .int .i64 or_, .int .u64 f1, .int .u64 f2, .int .u64 a1, .int .u64 a2, .int .u64 e1, .int .u64 e2, .int .u64 g1, .int .u64 g2] 73) := ⟨_, rfl⟩
      obtain ⟨hg0, a4, a7⟩ := box2 w [.int .i64 N, .slice A n c] [.int .i64 ok_, .int .i64 or_, .int .u64 f1, .int .u64 f2, .int .u64 a1, .int .u64 a2, .int .u64 e1, .int .u64 e2, .int .u64 g1, .int .u64 g2] 35 73
      replace hg0 : Grows w w0 := by rw [hw0]; exact hg0
      replace a4 : Arr w0 w.heap.size 35 [.int .i64 N, .slice A n c] := by rw [hw0]; exact a4
      replace a7 : Arr w0 (w.heap.size + 1) 73 [.int .i64 ok_, .int .i64 or_, .int .u64 f1, .int .u64 f2, .int .u64 a1, .int .u64 a2, .int .u64 e1, .int .u64 e2, .int .u64 g1, .int .u64 g2] := by rw [hw0]; exact a7
      rw [← hw0]
      clear hw0
      generalize w.heap.size + 1 = b7 at *
      obtain ⟨b4, hb4⟩ : ∃ b, b = w.heap.size := ⟨_, rfl⟩
      rw [← hb4] at a4 ⊢
      clear hb4
      have m6 := a7.mine 6 rfl
      have m7 := a7.mine 7 rfl
      have m8 := a7.mine 8 rfl
      have m9 := a7.mine 9 rfl
      go_upto_region 4 with (first
        | (go_at_call 33; refine (C6.out _).mono ?_; rintro e w' ⟨rfl, hg⟩; obtain ⟨x1, rfl⟩ := hg.later; clear hg)
        | (go_at_call 35; refine (C1.out _ (hg0.trans GG)).mono ?_; rintro e w' ⟨A1, c1, rs1, rfl, ho1, hg⟩; obtain ⟨x2, rfl⟩ := hg.later; have HO1 := hide ho1; clear hg ho1))
      refine wp_region_gen (by kernel_rfl) (by kernel_rfl) ?_
      (repeat' ((first | refine gLex_val0 rfl (by kernel_rfl) (fun K hK => ?_) | refine gLex_undef rfl rfl rfl (by kernel_rfl) (fun K hK => ?_) | (refine gLex_ask rfl rfl rfl ?_; first | (apply gAsk_yes; kernel_rfl; intro K hK) | ((first | apply gAsk_no1 | apply gAsk_no2); kernel_rfl; intro K hK))) <;> (go_simp; (try (simp only [↓IntWalk.iteOmega]; try go_simp)); (try simp (disch := omega) only [IntWalk.i64_in]); (try simp (disch := omega) only [IntWalk.u64_in]); first | (refine hK _ ?_; clear hK K) | (apply Exists.intro; refine ⟨fun x => ?_, hK _ ?_⟩; (first | (go_at_call 37; exact C7.out _)); clear hK K))))
      refine gLex_propG (by kernel_rfl) (by kernel_rfl) rfl (by simp) (RwP ps) (RwP.lasts _) (fun x => by
        go_simp
        refine (C2.out _ (hg0.trans GG)).mono ?_
        rintro e w' ⟨A9, c9, rs9, rfl, ho, hg⟩
        exact ⟨_, rfl, hg, A9, c9, rs9, rfl, ho⟩) ?_
      refine gLex_dep (t0 := 36) (by kernel_rfl) (by kernel_rfl) rfl (by simp) rfl (by simp) (RwP ps) (RwP.lasts _) (fun x u hu => by
        obtain ⟨A9, c9, rs9, rfl, hh⟩ := hu
        go_simp
        all_goals first | exact ⟨Grows.refl _, A9, c9, rs9, rfl, hh⟩ | exact ⟨A9, c9, rs9, rfl, hh⟩) ?_
      refine gLex_dep (t0 := 30) (by kernel_rfl) (by kernel_rfl) rfl (by simp) rfl (by simp) (SlP ps) (SlP.lasts _) (fun x u hu => by
        obtain ⟨A9, c9, rs9, rfl, hh⟩ := hu
        go_simp
        all_goals first | exact ⟨Grows.refl _, A9, c9, rs9, rfl, hh⟩ | exact ⟨A9, c9, rs9, rfl, hh⟩) ?_
      refine gLex_depV (t0 := 30) (by kernel_rfl) (by kernel_rfl) rfl (by simp) (.int .i64 0) (fun x u hu => by
        obtain ⟨A9, c9, rs9, rfl, hh⟩ := hu
        go_simp
        all_goals first | exact ⟨Grows.refl _, rfl⟩ | exact Grows.refl _ | rfl) ?_
      simp only [Act.put, List.setIfInBounds_toArray, List.set_cons_zero, List.set_cons_succ]
      refine gLex_dep (t0 := 37) (by kernel_rfl) (by kernel_rfl) rfl (by simp) rfl (by simp) (SlP ps) (SlP.lasts _) (fun x u hu => by
        obtain ⟨A9, c9, rs9, rfl, hh⟩ := hu
        go_simp
        all_goals first | exact ⟨Grows.refl _, A9, c9, rs9, rfl, hh⟩ | exact ⟨A9, c9, rs9, rfl, hh⟩) ?_
      (repeat' ((first | refine gLex_val0 rfl (by kernel_rfl) (fun K hK => ?_) | refine gLex_undef rfl rfl rfl (by kernel_rfl) (fun K hK => ?_) | (refine gLex_ask rfl rfl rfl ?_; first | (apply gAsk_yes; kernel_rfl; intro K hK) | ((first | apply gAsk_no1 | apply gAsk_no2); kernel_rfl; intro K hK))) <;> (go_simp; (try (simp only [↓IntWalk.iteOmega]; try go_simp)); (try simp (disch := omega) only [IntWalk.i64_in]); (try simp (disch := omega) only [IntWalk.u64_in]); refine hK _ ?_; clear hK K)))
      refine gLex_endB (fun x3 => ?_)
      refine AtB.pop rfl (by simp) (fun z1 hz1 => ?_)
      obtain ⟨A2, c2, rs2, rfl, ho2⟩ := hz1
      have HO2 := hide ho2
      clear ho2
      refine AtB.pop rfl (by simp [Act.put]) (fun z2 _ => ?_)
      refine AtB.pop rfl (by simp [Act.put]) (fun z3 _ => ?_)
      refine AtB.pop rfl (by simp [Act.put]) (fun z4 _ => ?_)
      refine AtB.base ?_
      simp only [Act.put, List.setIfInBounds_toArray, List.set_cons_zero, List.set_cons_succ]
      go_upto_region 6 with (go_at_call 38; refine (C3.out _ (hg0.trans GG)).mono ?_; rintro e w' ⟨A3, c3, rs3, rfl, ho3, hg⟩; obtain ⟨x4, rfl⟩ := hg.later; have HO3 := hide ho3; clear hg ho3)
      refine wp_region_gen (by kernel_rfl) (by kernel_rfl) ?_
      (repeat' ((first | refine gLex_val0 rfl (by kernel_rfl) (fun K hK => ?_) | refine gLex_undef rfl rfl rfl (by kernel_rfl) (fun K hK => ?_) | (refine gLex_ask rfl rfl rfl ?_; first | (apply gAsk_yes; kernel_rfl; intro K hK) | ((first | apply gAsk_no1 | apply gAsk_no2); kernel_rfl; intro K hK))) <;> (go_simp; (try (simp only [↓IntWalk.iteOmega]; try go_simp)); (try simp (disch := omega) only [IntWalk.i64_in]); (try simp (disch := omega) only [IntWalk.u64_in]); first | (refine hK _ ?_; clear hK K) | (apply Exists.intro; refine ⟨fun x => ?_, hK _ ?_⟩; (first | (go_at_call 37; exact C7.out _)); clear hK K))))
      refine gLex_propG (by kernel_rfl) (by kernel_rfl) rfl (by simp) (RwP ps2) (RwP.lasts _) (fun x => by
        go_simp
        refine (C4.out _ (hg0.trans GG)).mono ?_
        rintro e w' ⟨A9, c9, rs9, rfl, ho, hg⟩
        exact ⟨_, rfl, hg, A9, c9, rs9, rfl, ho⟩) ?_
      refine gLex_dep (t0 := 53) (by kernel_rfl) (by kernel_rfl) rfl (by simp) rfl (by simp) (RwP ps2) (RwP.lasts _) (fun x u hu => by
        obtain ⟨A9, c9, rs9, rfl, hh⟩ := hu
        go_simp
        all_goals first | exact ⟨Grows.refl _, A9, c9, rs9, rfl, hh⟩ | exact ⟨A9, c9, rs9, rfl, hh⟩) ?_
      refine gLex_dep (t0 := 47) (by kernel_rfl) (by kernel_rfl) rfl (by simp) rfl (by simp) (SlP ps2) (SlP.lasts _) (fun x u hu => by
        obtain ⟨A9, c9, rs9, rfl, hh⟩ := hu
        go_simp
        all_goals first | exact ⟨Grows.refl _, A9, c9, rs9, rfl, hh⟩ | exact ⟨A9, c9, rs9, rfl, hh⟩) ?_
      refine gLex_depV (t0 := 47) (by kernel_rfl) (by kernel_rfl) rfl (by simp) (.int .i64 0) (fun x u hu => by
        obtain ⟨A9, c9, rs9, rfl, hh⟩ := hu
        go_simp
        all_goals first | exact ⟨Grows.refl _, rfl⟩ | exact Grows.refl _ | rfl) ?_
      simp only [Act.put, List.setIfInBounds_toArray, List.set_cons_zero, List.set_cons_succ]
      refine gLex_dep (t0 := 54) (by kernel_rfl) (by kernel_rfl) rfl (by simp) rfl (by simp) (SlP ps2) (SlP.lasts _) (fun x u hu => by
        obtain ⟨A9, c9, rs9, rfl, hh⟩ := hu
        go_simp
        all_goals first | exact ⟨Grows.refl _, A9, c9, rs9, rfl, hh⟩ | exact ⟨A9, c9, rs9, rfl, hh⟩) ?_
      (repeat' ((first | refine gLex_val0 rfl (by kernel_rfl) (fun K hK => ?_) | refine gLex_undef rfl rfl rfl (by kernel_rfl) (fun K hK => ?_) | (refine gLex_ask rfl rfl rfl ?_; first | (apply gAsk_yes; kernel_rfl; intro K hK) | ((first | apply gAsk_no1 | apply gAsk_no2); kernel_rfl; intro K hK))) <;> (go_simp; (try (simp only [↓IntWalk.iteOmega]; try go_simp)); (try simp (disch := omega) only [IntWalk.i64_in]); (try simp (disch := omega) only [IntWalk.u64_in]); refine hK _ ?_; clear hK K)))
      refine gLex_endB (fun x5 => ?_)
      refine AtB.pop rfl (by simp) (fun z1 hz1 => ?_)
      obtain ⟨A4, c4, rs4, rfl, ho4⟩ := hz1
      have HO4 := hide ho4
      clear ho4
      refine AtB.pop rfl (by simp [Act.put]) (fun z2 _ => ?_)
      refine AtB.pop rfl (by simp [Act.put]) (fun z3 _ => ?_)
      refine AtB.pop rfl (by simp [Act.put]) (fun z4 _ => ?_)
      refine AtB.base ?_
      simp only [Act.put, List.setIfInBounds_toArray, List.set_cons_zero, List.set_cons_succ]
      go_wp2_with fail
      ((first | refine wp_region_gen (by kernel_rfl) (by kernel_rfl) ?_); (repeat' ((first | refine gLex_val0 rfl (by kernel_rfl) (fun K hK => ?_) | refine gLex_undef rfl rfl rfl (by kernel_rfl) (fun K hK => ?_) | (refine gLex_ask rfl rfl rfl ?_; first | (apply gAsk_yes; kernel_rfl; intro K hK) | ((first | apply gAsk_no1 | apply gAsk_no2); kernel_rfl; intro K hK) | (apply gAsk_part; kernel_rfl; all_goals (intro h K hK; (try simp only [Bool.not_true] at h); (try simp only [Bool.not_false] at h); (try simp only [decide_eq_true_eq] at h); (try simp only [decide_eq_false_iff_not] at h); try (exfalso; first | contradiction | omega))))) <;> (go_simp; (try (simp only [↓IntWalk.iteOmega]; try go_simp)); (try simp (disch := omega) only [IntWalk.i64_in]); (try simp (disch := omega) only [IntWalk.u64_in]); first | (refine hK _ ?_; clear hK K) | (apply Exists.intro; refine ⟨fun x => ?_, hK _ ?_⟩; (first | (go_at_call 21; exact r8RoutesOk _ _ _ _ _ _ _ _ (by first | exact HO1.out.grows GG | exact HO3.out.grows GG) (by first | exact HO2.out.grows GG | exact HO4.out.grows GG)) | (go_at_call 37; exact C7.out _) | (go_at_call 40; exact C8.out _) | (go_at_call 41; exact C9.out _) | (go_at_call 34; exact C5.out _)); clear hK K)))); all_goals ((apply gLex_end); intro y3))
      go_wp2_with fail
      go_ret
      exact ⟨rfl, hg0.trans GG⟩
end Go.Proofs.YtgplpgldhoelcaaGreat

namespace Go.Proofs.YtgplpgldhoelcaaGreat.lawPenWays
open Go Go.ChangeShapes Go.WideShapes Go.ChangeAt Go.RowKit Go.Proofs.YtgplpgldhoelcaaGreat

theorem own : ownKnob Tryz.prog.godebug = none := by kernel_rfl
theorem laidOut : laidOutB Tryz.prog = true := by kernel_rfl

set_option maxRecDepth 100000 in
theorem lifted (os : Os) (started : os.Started) (H : Type) (enc : TypeId × Value → H) :
    ReturnsInHanded {} Tryz.checked os 8 .any (Rows.penWaysSpec.pre6 enc Tryz.prog Tryz.f8 Rows.penWaysRow.domain false) (Rows.penWaysSpec.post enc Tryz.prog Tryz.f8 false true false false) := by
  refine returnsInHanded_of_change (C := Tryz.checked) own started (by kernel_rfl) Tryz.func8
    (ChangeSpec.witness6 (enc := enc) (C := Tryz.checked) false ⟨#[], #[.agg #[.int .i64 0, .slice none 0 0], .int .i64 0, .int .i64 0, .agg #[.int .i64 0, .int .i64 0, .int .u64 0, .int .u64 0, .int .u64 0, .int .u64 0, .int .u64 0, .int .u64 0, .int .u64 0, .int .u64 0]], []⟩ 8 (by kernel_rfl) (by kernel_rfl) (by kernel_rfl) (by kernel_rfl)) ?_
  intro W base args ds gs before hval0 hW hcnd _
  have hval : ∀ (j : Nat) t v, Tryz.f8.params[j]? = some t → args[j]? = some v → Value.okWide Tryz.prog W .any base t v := hval0
  have hW' := hW
  obtain ⟨p, q, hA0, hV, rfl, hfz, hnd⟩ := hW
  have hA : DataW.TrodAll enc Tryz.prog W 0 (fun _ => true) true Tryz.f8.params.toList args.toList ds p := hA0
  rw [Tryz.params8] at hA hval
  obtain ⟨v0, vs0, d0, ds0, p0, q0, hargs, rfl, rfl, h0, r0⟩ := trodAll_cons hA
  obtain ⟨v1, vs1, d1, ds1, p1, q1, rfl, rfl, rfl, h1, r1⟩ := trodAll_cons r0
  obtain ⟨v2, vs2, d2, ds2, p2, q2, rfl, rfl, rfl, h2, r2⟩ := trodAll_cons r1
  obtain ⟨v3, vs3, d3, ds3, p3, q3, rfl, rfl, rfl, h3, r3⟩ := trodAll_cons r2
  obtain ⟨rfl, rfl, rfl⟩ := trodAll_nil r3
  obtain rfl : args = #[v0, v1, v2, v3] := by cases args; simp_all
  obtain ⟨rfl, rfl⟩ := trodVars_none hV
  have k0 := h0
  have lt0 : ∀ x ∈ p0, x.block < W.heap.size := by obtain ⟨m, hm⟩ := k0; exact DataW.trod_lt m _ _ _ hm
  obtain ⟨a0, A0, n0, c0, z0, rfl, x0, l0, w0, u0⟩ := open_graph Tryz.underlying35 Tryz.underlying3 Tryz.underlying33 Tryz.underlying84 Tryz.underlying3 Tryz.underlying3 Tryz.underlying41 ⟨rfl, rfl, rfl⟩ ⟨by kernel_rfl, by kernel_rfl, by kernel_rfl⟩ (by kernel_rfl) (by kernel_rfl) (by kernel_rfl) (hval 0 35 v0 rfl rfl) h0
  have k1 := h1
  have lt1 : ∀ x ∈ p1, x.block < W.heap.size := by obtain ⟨m, hm⟩ := k1; exact DataW.trod_lt m _ _ _ hm
  obtain ⟨a1, rfl, w1⟩ := open_i64 Tryz.underlying3 (hval 1 3 v1 rfl rfl) h1
  have k2 := h2
  have lt2 : ∀ x ∈ p2, x.block < W.heap.size := by obtain ⟨m, hm⟩ := k2; exact DataW.trod_lt m _ _ _ hm
  obtain ⟨a2, rfl, w2⟩ := open_i64 Tryz.underlying3 (hval 2 3 v2 rfl rfl) h2
  have k3 := h3
  have lt3 : ∀ x ∈ p3, x.block < W.heap.size := by obtain ⟨m, hm⟩ := k3; exact DataW.trod_lt m _ _ _ hm
  obtain ⟨o3, rfl, w3⟩ := open_popt Tryz.underlying73 Tryz.underlying3 Tryz.underlying3 ⟨rfl, rfl, rfl, rfl⟩ Tryz.underlying71 Tryz.underlying41 Tryz.underlying41 ⟨rfl, rfl⟩ ⟨by kernel_rfl, by kernel_rfl⟩ (by kernel_rfl) ⟨rfl, rfl, rfl, rfl, rfl, rfl⟩ ⟨by kernel_rfl, by kernel_rfl⟩ (by kernel_rfl) (hval 3 73 v3 rfl rfl) h3
  clear hA0 hval0
  refine (penWaysW a0 A0 n0 c0 z0 a1 a2 o3 W x0 l0 w0 u0 w1 w2 w3).mono fun e W' ⟨he, bel⟩ => ?_
  subst he
  exact ⟨_, rfl, _, _, _, [], _, [], hW', trodAll_mk1 (shut_bool Tryz.underlying4 _), (trodAll_cons_mk (Below.trod laidOut (by kernel_rfl) (of_decide_eq_true (by kernel_rfl)) k0 bel lt0) (trodAll_cons_mk (Below.trod laidOut (by kernel_rfl) (of_decide_eq_true (by kernel_rfl)) k1 bel lt1) (trodAll_cons_mk (Below.trod laidOut (by kernel_rfl) (of_decide_eq_true (by kernel_rfl)) k2 bel lt2) (trodAll_cons_mk (Below.trod laidOut (by kernel_rfl) (of_decide_eq_true (by kernel_rfl)) k3 bel lt3) trodAll_mk0)))), rfl, Below.frame bel _, fun h => by cases h⟩

theorem over : Rows.penWaysRow.holds Tryz.pinned (OpenSpec.ofChange Rows.penWaysSpec) :=
  OpenClaim.holds_of_wide 8 Tryz.f8 rfl rfl rfl rfl rfl rfl rfl ⟨rfl, rfl, rfl, rfl, rfl⟩ rfl rfl rfl rfl rfl (by kernel_rfl) Tryz.func8 (by kernel_rfl)
    (of_decide_eq_true (by kernel_rfl)) (by unfold Func.isWrapper; first | (rw [if_pos (by decide +kernel)]; kernel_rfl) | (rw [if_neg (by decide +kernel)]; exact ⟨rfl, rfl⟩))
    (fun os started H enc _ => lifted os started H enc)

end Go.Proofs.YtgplpgldhoelcaaGreat.lawPenWays
namespace Go.Proofs.YtgplpgldhoelcaaGreat
theorem penWays_proved : Rows.PenWaysSaid := lawPenWays.over
#print axioms penWays_proved
end Go.Proofs.YtgplpgldhoelcaaGreat

