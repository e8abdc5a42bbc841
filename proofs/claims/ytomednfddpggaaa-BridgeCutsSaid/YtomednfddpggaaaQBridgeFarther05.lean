/- Contracts: who goes out, and who comes in. -/
import Derived.Test.YtomednfddpggaaaQBridgeFarther04
import Derived.Test.YtomednfddpggaaaQBridgeFarther02
import Derived.Test.YtomednfddpggaaaQBridgeFarther03
/- Contracts: who goes out, and who comes in. -/
namespace Go.Proofs.Ytomednfddpggaaa
open Go Go.RowKit
theorem adjFrom (e : Edg) (w : World) : Calls Try.prog 82 #[eVal e] w fun x w' => x = .returned (.int .i64 e.f) ∧ Grows w w' := by
  unfold eVal
  go_enter Try.func82, Try.ntmps82
  go_wp2
  go_ret
  exact ⟨rfl, (by repeat (first | exact Grows.refl _ | refine Grows.now ?_ _ | refine Grows.new ?_ _ | refine Grows.drewN ?_ _ | refine Grows.drew ?_ | assumption | (refine Grows.set ?_ (by first | omega | (simp; done) | (simp; omega)) _)))⟩
theorem adjTo (e : Edg) (w : World) : Calls Try.prog 83 #[eVal e] w fun x w' => x = .returned (.int .i64 e.t) ∧ Grows w w' := by
  unfold eVal
  go_enter Try.func83, Try.ntmps83
  go_wp2
  go_ret
  exact ⟨rfl, (by repeat (first | exact Grows.refl _ | refine Grows.now ?_ _ | refine Grows.new ?_ _ | refine Grows.drewN ?_ _ | refine Grows.drew ?_ | assumption | (refine Grows.set ?_ (by first | omega | (simp; done) | (simp; omega)) _)))⟩
/-- Edges laid by their nodes, in memory. -/
def LaidIn (w : World) (g1 g2 N n : Nat) (f : Nat → Nat) : Prop :=
  ∃ X B, Row1 w g1 3 1 n n (nv X) ∧ Row1 w g2 3 1 (N + 1) (N + 1) (nv B) ∧ (∀ i, i < n → X[posN f n i]? = some i) ∧ (∀ v, v ≤ N → gn B v = begN f n v)
theorem LaidIn.grows {w w' : World} {g1 g2 N n : Nat} {f : Nat → Nat} (h : LaidIn w g1 g2 N n f) (hg : Grows w w') : LaidIn w' g1 g2 N n f := by
  obtain ⟨X, B, h1, h2, h3⟩ := h
  exact ⟨X, B, h1.grow hg, h2.grow hg, h3⟩
def rowsVal (g1 g2 N n : Nat) : Value := .agg #[.slice (some ⟨g1, 0, none⟩) n n, .slice (some ⟨g2, 0, none⟩) (N + 1) (N + 1)]
set_option maxRecDepth 20000 in
set_option maxHeartbeats 2000000 in
/-- A node's row. -/
theorem adjOf (g1 g2 N n : Nat) (f : Nat → Nat) (v : Nat) (w0 w : World) (h : LaidIn w0 g1 g2 N n f) (hg0 : Grows w0 w) (hv : v < N) (_ : n ≤ 1000000) (hN : N ≤ 100000) (hf : ∀ i, i < n → f i < N) :
    Calls Try.prog 128 #[rowsVal g1 g2 N n, .int .i64 (v : Int)] w fun e w' => ∃ A, e = .returned (.slice A (cntN f v n) (cntN f v n)) ∧ (Rd w0 A 1 (cntN f v n) (nv (rowN f n v)) ∧ ∀ p, A = some p → p.block = g1) ∧ Grows w w' := by
  obtain ⟨X, B, h1, h2, h3, h4⟩ := h
  have m1 := (h2.grow hg0).nat (j := v) (by omega)
  have m2 := (h2.grow hg0).nat (j := v + 1) (by omega)
  rw [h4 v (by omega)] at m1
  rw [h4 (v + 1) (by omega)] at m2
  have b1 := begN_le f n v
  have b2 := begN_le f n (v + 1)
  have b3 := begN_succ f n v
  have H1 := hide h1
  have H3 := hide h3
  have H4 := hide b3
  have b4 : begN f n v ≤ begN f n (v + 1) := by omega
  have HF := hide hf
  clear h1 h2 h3 h4 b3 hf
  generalize hp : begN f n v = p at *
  generalize hq : begN f n (v + 1) = q at *
  have HP := hide hp
  have HQ := hide hq
  clear hp hq
  unfold rowsVal
  rcases Nat.eq_or_lt_of_le b4 with e | e
  · subst e
    go_enter Try.func128, Try.ntmps128
    go_wp2_with fail
    ((first | refine wp_region_gen2 (by kernel_rfl) (by kernel_rfl) ?_ | refine wp_region_gen (by kernel_rfl) (by kernel_rfl) ?_); (repeat' (first | (refine gLex_val0 rfl (by kernel_rfl) (fun K hK => ?_); (go_simp; (try (simp only [↓IntWalk.iteOmega]; try go_simp)); (try simp (disch := omega) only [IntWalk.i64_in]); (try simp (disch := omega) only [IntWalk.u64_in]); first | (refine hK _ ?_; clear hK K) | (apply Exists.intro; refine ⟨fun x => ?_, hK _ ?_⟩; (first | fail); clear hK K))) | (refine gLex_undef rfl rfl rfl (by kernel_rfl) (fun K hK => ?_); go_simp; refine hK _ ?_; clear hK K) | (refine gLex_ask rfl rfl rfl ?_; first | (apply gAsk_yes; kernel_rfl; intro K hK; (go_simp; (try (simp only [↓IntWalk.iteOmega]; try go_simp)); (try simp (disch := omega) only [IntWalk.i64_in]); (try simp (disch := omega) only [IntWalk.u64_in]); first | (refine hK _ ?_; clear hK K) | (apply Exists.intro; refine ⟨fun x => ?_, hK _ ?_⟩; (first | fail); clear hK K))) | ((first | apply gAsk_no1 | apply gAsk_no2); kernel_rfl; intro K hK; simp [go_sem]; refine hK _ ?_; clear hK K) | (apply gAsk_part; kernel_rfl; all_goals (intro h K hK; (try simp only [Bool.not_true] at h); (try simp only [Bool.not_false] at h); (try simp only [decide_eq_true_eq] at h); (try simp only [decide_eq_false_iff_not] at h); first | (exfalso; first | contradiction | omega) | (go_simp; (try (simp only [↓IntWalk.iteOmega]; try go_simp)); (try simp (disch := omega) only [IntWalk.i64_in]); (try simp (disch := omega) only [IntWalk.u64_in]); first | (refine hK _ ?_; clear hK K) | (apply Exists.intro; refine ⟨fun x => ?_, hK _ ?_⟩; (first | fail); clear hK K))))))); all_goals ((apply gLex_end); intro y))
    go_wp2_with fail
    have hc : cntN f v n = 0 := by have := H4.out; omega
    go_ret
    rw [hc]
    exact ⟨_, rfl, ⟨⟨by rw [nv_len, rowN_len, hc], fun h => absurd h (by omega)⟩, fun p hp => by injection hp with hp; rw [← hp]⟩, (by repeat (first | exact Grows.refl _ | refine Grows.now ?_ _ | refine Grows.new ?_ _ | refine Grows.drewN ?_ _ | refine Grows.drew ?_ | assumption | (refine Grows.set ?_ (by first | omega | (simp; done) | (simp; omega)) _)))⟩
  · have hne : ¬ q = p := by omega
    go_enter Try.func128, Try.ntmps128
    go_wp2_with fail
    ((first | refine wp_region_gen2 (by kernel_rfl) (by kernel_rfl) ?_ | refine wp_region_gen (by kernel_rfl) (by kernel_rfl) ?_); (repeat' (first | (refine gLex_val0 rfl (by kernel_rfl) (fun K hK => ?_); (go_simp; (try (simp only [↓IntWalk.iteOmega]; try go_simp)); (try simp (disch := omega) only [IntWalk.i64_in]); (try simp (disch := omega) only [IntWalk.u64_in]); first | (refine hK _ ?_; clear hK K) | (apply Exists.intro; refine ⟨fun x => ?_, hK _ ?_⟩; (first | fail); clear hK K))) | (refine gLex_undef rfl rfl rfl (by kernel_rfl) (fun K hK => ?_); go_simp; refine hK _ ?_; clear hK K) | (refine gLex_ask rfl rfl rfl ?_; first | (apply gAsk_yes; kernel_rfl; intro K hK; (go_simp; (try (simp only [↓IntWalk.iteOmega]; try go_simp)); (try simp (disch := omega) only [IntWalk.i64_in]); (try simp (disch := omega) only [IntWalk.u64_in]); first | (refine hK _ ?_; clear hK K) | (apply Exists.intro; refine ⟨fun x => ?_, hK _ ?_⟩; (first | fail); clear hK K))) | ((first | apply gAsk_no1 | apply gAsk_no2); kernel_rfl; intro K hK; simp [go_sem]; refine hK _ ?_; clear hK K) | (apply gAsk_part; kernel_rfl; all_goals (intro h K hK; (try simp only [Bool.not_true] at h); (try simp only [Bool.not_false] at h); (try simp only [decide_eq_true_eq] at h); (try simp only [decide_eq_false_iff_not] at h); first | (exfalso; first | contradiction | omega) | (go_simp; (try (simp only [↓IntWalk.iteOmega]; try go_simp)); (try simp (disch := omega) only [IntWalk.i64_in]); (try simp (disch := omega) only [IntWalk.u64_in]); first | (refine hK _ ?_; clear hK K) | (apply Exists.intro; refine ⟨fun x => ?_, hK _ ?_⟩; (first | fail); clear hK K))))))); all_goals ((apply gLex_end); intro y))
    go_wp2_with fail
    have hc : cntN f v n = q - p := by have := H4.out; omega
    have hl1 := H1.out.nlen
    have hrow := laid_row f n v X hl1 H3.out
    rw [HP.out, hc] at hrow
    go_ret
    rw [hc]
    refine ⟨_, rfl, ⟨?_, fun p hp => by injection hp with hp; rw [← hp]⟩, (by repeat (first | exact Grows.refl _ | refine Grows.now ?_ _ | refine Grows.new ?_ _ | refine Grows.drewN ?_ _ | refine Grows.drew ?_ | assumption | (refine Grows.set ?_ (by first | omega | (simp; done) | (simp; omega)) _)))⟩
    refine ⟨by rw [nv_len, rowN_len, hc]; omega, fun h1 _ => ⟨g1, p, rfl, fun j u hu => ?_⟩⟩
    have hj : j < q - p := by
      have := (List.getElem?_eq_some_iff.1 hu).1
      rw [nv_len, rowN_len, hc] at this
      exact this
    have hx : (nv X)[p + j]? = some u := by
      rw [← hrow] at hu
      unfold nv at hu ⊢
      rw [List.getElem?_map] at hu ⊢
      rw [List.getElem?_take, if_pos hj, List.getElem?_drop] at hu
      exact hu
    exact (H1.out.mine hx).cell
def fN (E : List Edg) (i : Nat) : Nat := (ge E i).f.toNat
def tN (E : List Edg) (i : Nat) : Nat := (ge E i).t.toNat
def nN (E : List Edg) (back : Bool) : Nat → Nat := if back then tN E else fN E
/-- A graph, and of each node who goes out and who comes in, in memory: in blocks of F. -/
def AdjAt (F : Nat → Prop) (w : World) (b N : Nat) (E : List Edg) : Prop :=
  ∃ A c g1 g2 g3 g4, Arr w b 126 [.int .i64 (N : Int), .slice A E.length c, .slice (some ⟨g1, 0, none⟩) E.length E.length, .slice (some ⟨g2, 0, none⟩) (N + 1) (N + 1), .slice (some ⟨g3, 0, none⟩) E.length E.length, .slice (some ⟨g4, 0, none⟩) (N + 1) (N + 1)] ∧
    Rd w A 3 E.length (esCells E) ∧ LaidIn w g1 g2 N E.length (fN E) ∧ LaidIn w g3 g4 N E.length (tN E) ∧ (F b ∧ F g1 ∧ F g2 ∧ F g3 ∧ F g4 ∧ ∀ p, A = some p → F p.block)
theorem LaidIn.touch {w w' : World} {g1 g2 N n : Nat} {f : Nat → Nat} {S : Nat → Prop} (h : LaidIn w g1 g2 N n f) (ht : Touch S w w') (h1 : ¬ S g1) (h2 : ¬ S g2) : LaidIn w' g1 g2 N n f := by
  obtain ⟨X, B, q1, q2, q3⟩ := h
  exact ⟨X, B, q1.touch ht h1, q2.touch ht h2, q3⟩
theorem AdjAt.touch {F S : Nat → Prop} {w w' : World} {b N : Nat} {E : List Edg} (h : AdjAt F w b N E) (ht : Touch S w w') (hs : ∀ k, F k → ¬ S k) : AdjAt F w' b N E := by
  obtain ⟨A, c, g1, g2, g3, g4, h1, h2, h3, h4, f0, f1, f2, f3, f4, f5⟩ := h
  exact ⟨A, c, g1, g2, g3, g4, h1.touch ht (hs _ f0), h2.touch ht (fun p hp => hs _ (f5 p hp)), h3.touch ht (hs _ f1) (hs _ f2), h4.touch ht (hs _ f3) (hs _ f4), f0, f1, f2, f3, f4, f5⟩
theorem AdjAt.grows {F : Nat → Prop} {w w' : World} {b N : Nat} {E : List Edg} (h : AdjAt F w b N E) (hg : Grows w w') : AdjAt F w' b N E := h.touch (hg.touch (fun _ => False)) (fun _ _ => id)
theorem AdjAt.mono {F F' : Nat → Prop} {w : World} {b N : Nat} {E : List Edg} (h : AdjAt F w b N E) (hf : ∀ k, F k → F' k) : AdjAt F' w b N E := by
  obtain ⟨A, c, g1, g2, g3, g4, h1, h2, h3, h4, f0, f1, f2, f3, f4, f5⟩ := h
  exact ⟨A, c, g1, g2, g3, g4, h1, h2, h3, h4, hf _ f0, hf _ f1, hf _ f2, hf _ f3, hf _ f4, fun p hp => hf _ (f5 p hp)⟩
/-- All edges lead between the nodes 0 to N less 1. -/
def InN (N : Nat) (E : List Edg) : Prop := ∀ i, i < E.length → (0 ≤ (ge E i).f ∧ (ge E i).f < N) ∧ (0 ≤ (ge E i).t ∧ (ge E i).t < N)
theorem InN.f {N : Nat} {E : List Edg} (h : InN N E) (i : Nat) (hi : i < E.length) : fN E i < N ∧ (ge E i).f = (fN E i : Int) := by
  obtain ⟨⟨h1, h2⟩, h3, h4⟩ := h i hi
  unfold fN; omega
theorem InN.t {N : Nat} {E : List Edg} (h : InN N E) (i : Nat) (hi : i < E.length) : tN E i < N ∧ (ge E i).t = (tN E i : Int) := by
  obtain ⟨⟨h1, h2⟩, h3, h4⟩ := h i hi
  unfold tN; omega
theorem right_in {N : Int} {E : List Edg} (h : rightF N E = 0) : 1 ≤ N ∧ N ≤ 4096 ∧ E.length ≤ 16384 ∧ InN N.toNat E ∧ ∀ i, i < E.length → 1 ≤ (ge E i).w ∧ (ge E i).w ≤ 4294967296 := by
  unfold rightF at h
  split at h
  · cases h
  split at h
  · cases h
  split at h
  · cases h
  split at h
  · cases h
  rename_i h1 h2 h3 h4
  refine ⟨by omega, by omega, by omega, fun i hi => ?_, fun i hi => ?_⟩
  · have hm : ge E i ∈ E := by unfold ge; rw [List.getD_eq_getElem?_getD, List.getElem?_eq_getElem hi]; exact List.getElem_mem hi
    have : looseB N (ge E i) = false := by
      cases hh : looseB N (ge E i) with
      | false => rfl
      | true => exact absurd (List.any_eq_true.2 ⟨_, hm, hh⟩) h3
    unfold looseB at this
    simp only [Bool.or_eq_false_iff, Bool.not_eq_false'] at this
    obtain ⟨t1, t2, _⟩ := this
    unfold nodeB at t1 t2
    have t1 := of_decide_eq_true t1
    have t2 := of_decide_eq_true t2
    omega
  · have hm : ge E i ∈ E := by unfold ge; rw [List.getD_eq_getElem?_getD, List.getElem?_eq_getElem hi]; exact List.getElem_mem hi
    have : heavyB (ge E i) = false := by
      cases hh : heavyB (ge E i) with
      | false => rfl
      | true => exact absurd (List.any_eq_true.2 ⟨_, hm, hh⟩) h4
    unfold heavyB wtB at this
    simp at this
    exact this
set_option maxRecDepth 20000 in
set_option maxHeartbeats 2000000 in
theorem adjRow (F : Nat → Prop) (b N : Nat) (E : List Edg) (v : Nat) (back : Bool) (w : World) (h : AdjAt F w b N E) (hE : InN N E) (hv : v < N) (hn : E.length ≤ 1000000) (hN : N ≤ 100000) :
    Calls Try.prog 94 #[.pointer (some ⟨b, 0, none⟩), .int .i64 (v : Int), .bool back] w fun e w' => ∃ A, e = .returned (.slice A (cntN (nN E back) v E.length) (cntN (nN E back) v E.length)) ∧ (Rd w A 1 (cntN (nN E back) v E.length) (nv (rowN (nN E back) E.length v)) ∧ ∀ p, A = some p → F p.block) ∧ Grows w w' := by
  obtain ⟨A, c, g1, g2, g3, g4, h1, h2, h3, h4, f0, f1, f2, f3, f4, f5⟩ := h
  have H3 := hide h3
  have H4 := hide h4
  have HE := hide hE
  clear h3 h4 hE h2 f5
  cases back with
  | false =>
    have C := hide (fun (W : World) (g : Grows w W) => adjOf g1 g2 N E.length (fN E) v w W H3.out g hv hn hN (fun i hi => (HE.out.f i hi).1))
    unfold rowsVal at C
    go_enter Try.func94, Try.ntmps94
    go_wp2_with (go_at_call 128; refine (C.out _ (by repeat (first | exact Grows.refl _ | refine Grows.now ?_ _ | refine Grows.new ?_ _ | refine Grows.drewN ?_ _ | refine Grows.drew ?_ | assumption | (refine Grows.set ?_ (by first | omega | (simp; done) | (simp; omega)) _)))).mono ?_; rintro e w' ⟨A', rfl, hr, hg⟩; obtain ⟨x, rfl⟩ := hg.later; have HR := hide hr; clear hg hr)
    go_ret
    exact ⟨A', rfl, ⟨HR.out.1, fun p hp => by rw [HR.out.2 p hp]; exact f1⟩, (by repeat (first | exact Grows.refl _ | refine Grows.now ?_ _ | refine Grows.new ?_ _ | refine Grows.drewN ?_ _ | refine Grows.drew ?_ | assumption | (refine Grows.set ?_ (by first | omega | (simp; done) | (simp; omega)) _)))⟩
  | true =>
    have C := hide (fun (W : World) (g : Grows w W) => adjOf g3 g4 N E.length (tN E) v w W H4.out g hv hn hN (fun i hi => (HE.out.t i hi).1))
    unfold rowsVal at C
    go_enter Try.func94, Try.ntmps94
    go_wp2_with (go_at_call 128; refine (C.out _ (by repeat (first | exact Grows.refl _ | refine Grows.now ?_ _ | refine Grows.new ?_ _ | refine Grows.drewN ?_ _ | refine Grows.drew ?_ | assumption | (refine Grows.set ?_ (by first | omega | (simp; done) | (simp; omega)) _)))).mono ?_; rintro e w' ⟨A', rfl, hr, hg⟩; obtain ⟨x, rfl⟩ := hg.later; have HR := hide hr; clear hg hr)
    go_ret
    exact ⟨A', rfl, ⟨HR.out.1, fun p hp => by rw [HR.out.2 p hp]; exact f3⟩, (by repeat (first | exact Grows.refl _ | refine Grows.now ?_ _ | refine Grows.new ?_ _ | refine Grows.drewN ?_ _ | refine Grows.drew ?_ | assumption | (refine Grows.set ?_ (by first | omega | (simp; done) | (simp; omega)) _)))⟩
section
variable {P : Program} {w0 : World}
/-- The head's end: two values are left that hang on the world. -/
theorem gLex_endT2 {ops : Array Oper} {Q : Exit → Act → World → Prop} {tail : List Oper} {a : Act} {t1 t2 : Tmp} {p1 p2 : Pr} (hne : t1 ≠ t2) (h1 : t1 < a.tmps.size) (h2 : t2 < a.tmps.size)
    (h : ∀ (x : Later w0) v1 v2, p1 v1 x.now → p2 v2 x.now → wpList P ops Q tail ((a.put (some t2) v2).put (some t1) v1) x.now) :
    gLex P ops w0 (fun a G => ∀ w', Grows w0 w' → ∀ a', Conc G a a' w' → wpList P ops Q tail a' w') [] a ((Env.no.upd t1 p1).upd t2 p2) :=
  fun w' hw a' hc => by
    obtain ⟨v2, hv2⟩ := conc_upd hc h2
    rcases hv2 with ⟨hp2, hc2⟩ | hne2
    · obtain ⟨v1, hv1⟩ := conc_upd hc2 (by simpa [Act.put] using h1)
      rcases hv1 with ⟨hp1, hc1⟩ | hne1
      · rw [conc_no hc1]
        exact h ⟨w', hw⟩ v1 v2 hp1 hp2
      · exact absurd rfl hne1
    · exact absurd (by simp [Env.upd, Env.no, Ne.symm hne]) hne2
end
/-- Rows that were just laid. -/
def LaidP (lo N n : Nat) (f : Nat → Nat) : Pr := fun u w => ∃ g1 g2, u = .agg #[.slice (some ⟨g1, 0, none⟩) n n, .slice (some ⟨g2, 0, none⟩) (N + 1) (N + 1)] ∧ LaidIn w g1 g2 N n f ∧ lo ≤ g1 ∧ lo ≤ g2
theorem LaidP.lasts (lo N n : Nat) (f : Nat → Nat) : Lasts (LaidP lo N n f) := fun _ _ _ hg ⟨g1, g2, e, h, l1, l2⟩ => ⟨g1, g2, e, h.grows hg, l1, l2⟩
theorem adjNewNo (N : Int) (A : Option Addr) (n c : Nat) (E : List Edg) (w : World) (h : Rd w A 3 n (esCells E)) (hn : n ≤ 1000000) (hr : rightF N E ≠ 0) :
    Calls Try.prog 43 #[.agg #[.int .i64 N, .slice A n c]] w fun e w' => e = .returned (.tuple #[.pointer none, .int .i64 1]) ∧ Grows w w' := by
  have C1 := hide (fun (W : World) (g : Grows w W) => gRight N A n c E W (h.grows g) hn)
  have hr2 : (rightF N E == 0) = false := beq_eq_false_iff_ne.2 hr
  clear h
  generalize rightF N E = r at *
  go_enter Try.func43, Try.ntmps43
  go_wp2_with (go_at_call 36; refine (C1.out _ (by repeat (first | exact Grows.refl _ | refine Grows.now ?_ _ | refine Grows.new ?_ _ | refine Grows.drewN ?_ _ | refine Grows.drew ?_ | assumption | (refine Grows.set ?_ (by first | omega | (simp; done) | (simp; omega)) _)))).mono ?_; rintro e w' ⟨rfl, hg⟩; obtain ⟨x1, rfl⟩ := hg.later; clear hg)
  go_ret2
  exact ⟨rfl, (by repeat (first | exact Grows.refl _ | refine Grows.now ?_ _ | refine Grows.new ?_ _ | refine Grows.drewN ?_ _ | refine Grows.drew ?_ | assumption | (refine Grows.set ?_ (by first | omega | (simp; done) | (simp; omega)) _)))⟩
set_option maxRecDepth 20000 in
set_option maxHeartbeats 2000000 in
theorem adjNew (N : Nat) (A : Option Addr) (n c : Nat) (E : List Edg) (w : World) (h : Rd w A 3 n (esCells E)) (hn : n ≤ 1000000) (hr : rightF N E = 0) :
    Calls Try.prog 43 #[.agg #[.int .i64 (N : Int), .slice A n c]] w fun e w' => ∃ b, e = .returned (.tuple #[.pointer (some ⟨b, 0, none⟩), .int .i64 0]) ∧ AdjAt (New w w') w' b N E ∧ Grows w w' := by
  obtain ⟨r1, r2, r3, r4, r5⟩ := right_in hr
  rw [Int.toNat_natCast] at r4
  have hl := h.elen
  subst hl
  have C1 := hide (fun (W : World) (g : Grows w W) => gRight N A _ c E W (h.grows g) hn)
  rw [hr] at C1
  have C2 := hide (fun (W : World) (g : Grows w W) => gClone N A _ c E W (h.grows g) hn)
  have C3 := hide (fun (W : World) (A1 : Option Addr) (c1 : Nat) (h1 : Rd W A1 3 E.length (esCells E)) => adjLaid N A1 _ c1 E 82 (fun e => e.f.toNat) W h1 hn (by omega) (fun _ _ => by rfl) (fun i hi W => by
    have := adjFrom (ge E i) W; rw [(r4.f i hi).2] at this; exact this) (fun i hi => (r4.f i hi).1))
  have C4 := hide (fun (W : World) (A1 : Option Addr) (c1 : Nat) (h1 : Rd W A1 3 E.length (esCells E)) => adjLaid N A1 _ c1 E 83 (fun e => e.t.toNat) W h1 hn (by omega) (fun _ _ => by rfl) (fun i hi W => by
    have := adjTo (ge E i) W; rw [(r4.t i hi).2] at this; exact this) (fun i hi => (r4.t i hi).1))
  clear h hr r4 r5
  go_enter Try.func43, Try.ntmps43
  go_wp2_with fail
  refine (C1.out _ (by repeat (first | exact Grows.refl _ | refine Grows.now ?_ _ | refine Grows.new ?_ _ | refine Grows.drewN ?_ _ | refine Grows.drew ?_ | assumption | (refine Grows.set ?_ (by first | omega | (simp; done) | (simp; omega)) _)))).mono ?_; rintro e w' ⟨rfl, hg⟩; obtain ⟨x1, rfl⟩ := hg.later; clear hg
  have hsz : w.heap.size < x1.now.heap.size := by have := x1.size; simp at this; omega
  go_wp2_with fail
  refine (C2.out _ (by repeat (first | exact Grows.refl _ | refine Grows.now ?_ _ | refine Grows.new ?_ _ | refine Grows.drewN ?_ _ | refine Grows.drew ?_ | assumption | (refine Grows.set ?_ (by first | omega | (simp; done) | (simp; omega)) _)))).mono ?_; rintro e w' ⟨A1, c1, rfl, ho, hg⟩; obtain ⟨x2, rfl⟩ := hg.later
  have ho2 := ((ho.low (q := ⟨w.heap.size, 0, none⟩) hsz (.int .i64 (N : Int))).low (q := ⟨w.heap.size, 1, none⟩) hsz (.slice A1 E.length c1))
  have HO : Hid (Rd ((x2.now.setCell ⟨w.heap.size, 0, none⟩ (.int .i64 (N : Int))).setCell ⟨w.heap.size, 1, none⟩ (.slice A1 E.length c1)) A1 3 E.length (esCells E) ∧ ∀ p, A1 = some p → w.heap.size ≤ p.block ∧ p.block < ((x2.now.setCell ⟨w.heap.size, 0, none⟩ (.int .i64 (N : Int))).setCell ⟨w.heap.size, 1, none⟩ (.slice A1 E.length c1)).heap.size) := by
    refine ⟨ho2.rd, fun p hp => ?_⟩
    subst hp
    have := World.ownsRow.lt ho2 p.block rfl
    exact ⟨by omega, this.2⟩
  clear ho2
  clear hg ho
  go_upto_region 4 with fail
  have hgW : Grows w ((x2.now.setCell ⟨w.heap.size, 0, none⟩ (.int .i64 (N : Int))).setCell ⟨w.heap.size, 1, none⟩ (.slice A1 E.length c1)) := (by repeat (first | exact Grows.refl _ | refine Grows.now ?_ _ | refine Grows.new ?_ _ | refine Grows.drewN ?_ _ | refine Grows.drew ?_ | assumption | (refine Grows.set ?_ (by first | omega | (simp; done) | (simp; omega)) _)))
  have m0 : Mine ((x2.now.setCell ⟨w.heap.size, 0, none⟩ (.int .i64 (N : Int))).setCell ⟨w.heap.size, 1, none⟩ (.slice A1 E.length c1)) ⟨w.heap.size, 0, none⟩ (.int .i64 (N : Int)) := ⟨by simp [go_sem], by simp [go_sem]⟩
  have m1 : Mine ((x2.now.setCell ⟨w.heap.size, 0, none⟩ (.int .i64 (N : Int))).setCell ⟨w.heap.size, 1, none⟩ (.slice A1 E.length c1)) ⟨w.heap.size, 1, none⟩ (.slice A1 E.length c1) := ⟨by simp [go_sem], by simp [go_sem]⟩
  generalize (x2.now.setCell ⟨w.heap.size, 0, none⟩ (.int .i64 (N : Int))).setCell ⟨w.heap.size, 1, none⟩ (.slice A1 E.length c1) = W0 at *
  (refine wp_region_tail1 11 (by kernel_rfl) (by kernel_rfl) ?_; simp only [List.take_succ_cons, List.take_zero, List.drop_succ_cons, List.drop_zero]; (repeat' (first | (refine gLex_val0 rfl (by kernel_rfl) (fun K hK => ?_); (go_simp; (try (simp only [↓IntWalk.iteOmega]; try go_simp)); (try simp (disch := omega) only [IntWalk.i64_in]); (try simp (disch := omega) only [IntWalk.u64_in]); first | (refine hK _ ?_; clear hK K) | (apply Exists.intro; refine ⟨fun x => ?_, hK _ ?_⟩; (first | fail); clear hK K))) | (refine gLex_undef rfl rfl rfl (by kernel_rfl) (fun K hK => ?_); go_simp; refine hK _ ?_; clear hK K) | (refine gLex_ask rfl rfl rfl ?_; first | (apply gAsk_yes; kernel_rfl; intro K hK; (go_simp; (try (simp only [↓IntWalk.iteOmega]; try go_simp)); (try simp (disch := omega) only [IntWalk.i64_in]); (try simp (disch := omega) only [IntWalk.u64_in]); first | (refine hK _ ?_; clear hK K) | (apply Exists.intro; refine ⟨fun x => ?_, hK _ ?_⟩; (first | fail); clear hK K))) | ((first | apply gAsk_no1 | apply gAsk_no2); kernel_rfl; intro K hK; simp [go_sem]; refine hK _ ?_; clear hK K)))))
  refine gLex_prop rfl (by kernel_rfl) rfl (by simp) (LaidP w.heap.size N E.length (fN E)) (LaidP.lasts _ _ _ _) (fun x => by
    go_simp
    refine (C3.out _ A1 c1 (HO.out.1.grows (by repeat (first | exact Grows.refl _ | refine Grows.now ?_ _ | refine Grows.new ?_ _ | refine Grows.drewN ?_ _ | refine Grows.drew ?_ | assumption | (refine Grows.set ?_ (by first | omega | (simp; done) | (simp; omega)) _))))).mono ?_
    rintro e w' ⟨g1, g2, X, B, rfl, q1, q2, q3, q4, l1, l2, hg⟩
    have hlx := (show Grows w x.now from (by repeat (first | exact Grows.refl _ | refine Grows.now ?_ _ | refine Grows.new ?_ _ | refine Grows.drewN ?_ _ | refine Grows.drew ?_ | assumption | (refine Grows.set ?_ (by first | omega | (simp; done) | (simp; omega)) _)))).size
    exact ⟨_, rfl, hg, g1, g2, rfl, ⟨X, B, q1, q2, q3, q4⟩, by omega, by omega⟩) ?_
  (repeat' (first | (refine gLex_val0 rfl (by kernel_rfl) (fun K hK => ?_); (go_simp; (try (simp only [↓IntWalk.iteOmega]; try go_simp)); (try simp (disch := omega) only [IntWalk.i64_in]); (try simp (disch := omega) only [IntWalk.u64_in]); first | (refine hK _ ?_; clear hK K) | (apply Exists.intro; refine ⟨fun x => ?_, hK _ ?_⟩; (first | fail); clear hK K))) | (refine gLex_undef rfl rfl rfl (by kernel_rfl) (fun K hK => ?_); go_simp; refine hK _ ?_; clear hK K) | (refine gLex_ask rfl rfl rfl ?_; first | (apply gAsk_yes; kernel_rfl; intro K hK; (go_simp; (try (simp only [↓IntWalk.iteOmega]; try go_simp)); (try simp (disch := omega) only [IntWalk.i64_in]); (try simp (disch := omega) only [IntWalk.u64_in]); first | (refine hK _ ?_; clear hK K) | (apply Exists.intro; refine ⟨fun x => ?_, hK _ ?_⟩; (first | fail); clear hK K))) | ((first | apply gAsk_no1 | apply gAsk_no2); kernel_rfl; intro K hK; simp [go_sem]; refine hK _ ?_; clear hK K))))
  refine gLex_prop rfl (by kernel_rfl) rfl (by simp) (LaidP w.heap.size N E.length (tN E)) (LaidP.lasts _ _ _ _) (fun x => by
    go_simp
    refine (C4.out _ A1 c1 (HO.out.1.grows (by repeat (first | exact Grows.refl _ | refine Grows.now ?_ _ | refine Grows.new ?_ _ | refine Grows.drewN ?_ _ | refine Grows.drew ?_ | assumption | (refine Grows.set ?_ (by first | omega | (simp; done) | (simp; omega)) _))))).mono ?_
    rintro e w' ⟨g1, g2, X, B, rfl, q1, q2, q3, q4, l1, l2, hg⟩
    have hlx := (show Grows w x.now from (by repeat (first | exact Grows.refl _ | refine Grows.now ?_ _ | refine Grows.new ?_ _ | refine Grows.drewN ?_ _ | refine Grows.drew ?_ | assumption | (refine Grows.set ?_ (by first | omega | (simp; done) | (simp; omega)) _)))).size
    exact ⟨_, rfl, hg, g1, g2, rfl, ⟨X, B, q1, q2, q3, q4⟩, by omega, by omega⟩) ?_
  refine gLex_endT2 (by decide) (by simp) (by simp) (fun x v1 v2 hv1 hv2 => ?_)
  obtain ⟨g1, g2, rfl, hL1, l1, l2⟩ := hv1
  obtain ⟨g3, g4, rfl, hL2, l3, l4⟩ := hv2
  have HL1 := hide hL1
  have HL2 := hide hL2
  clear hL1 hL2
  simp only [Act.put, List.setIfInBounds_toArray, List.set_cons_zero, List.set_cons_succ]
  go_wp2_with fail
  go_ret2
  have hg2 : Grows W0 x.now := (by repeat (first | exact Grows.refl _ | refine Grows.now ?_ _ | refine Grows.new ?_ _ | refine Grows.drewN ?_ _ | refine Grows.drew ?_ | assumption | (refine Grows.set ?_ (by first | omega | (simp; done) | (simp; omega)) _)))
  have hnew : Grows x.now (x.now.alloc (.cells #[.int .i64 (N : Int), .slice A1 E.length c1, .slice (some ⟨g1, 0, none⟩) E.length E.length, .slice (some ⟨g2, 0, none⟩) (N + 1) (N + 1), .slice (some ⟨g3, 0, none⟩) E.length E.length, .slice (some ⟨g4, 0, none⟩) (N + 1) (N + 1)] 126)) := (Grows.refl _).new _
  have hgw := hgW.trans hg2
  have hsz2 := hgw.size
  obtain ⟨X1, B1, z1, z2, _⟩ := HL1.out
  obtain ⟨X2, B2, z3, z4, _⟩ := HL2.out
  have y1 := z1.lt
  have y2 := z2.lt
  have y3 := z3.lt
  have y4 := z4.lt
  have hnn : (x.now.alloc (.cells #[.int .i64 (N : Int), .slice A1 E.length c1, .slice (some ⟨g1, 0, none⟩) E.length E.length, .slice (some ⟨g2, 0, none⟩) (N + 1) (N + 1), .slice (some ⟨g3, 0, none⟩) E.length E.length, .slice (some ⟨g4, 0, none⟩) (N + 1) (N + 1)] 126)).heap.size = x.now.heap.size + 1 := by simp
  refine ⟨x.now.heap.size, rfl, ⟨A1, c1, g1, g2, g3, g4, Arr.make _ _ _, (HO.out.1.grows hg2).grows hnew, HL1.out.grows hnew, HL2.out.grows hnew, ⟨hsz2, by rw [hnn]; omega⟩, ⟨l1, by rw [hnn]; omega⟩, ⟨l2, by rw [hnn]; omega⟩, ⟨l3, by rw [hnn]; omega⟩, ⟨l4, by rw [hnn]; omega⟩, fun p hp => ?_⟩, hgw.trans hnew⟩
  have := HO.out.2 p hp
  have h3 := hg2.size
  exact ⟨this.1, by rw [hnn]; omega⟩
end Go.Proofs.Ytomednfddpggaaa

/- Contract: a graph without an edge, by the program. -/
namespace Go.Proofs.Ytomednfddpggaaa
open Go Go.RowKit
attribute [local go_sem] Oper.semAt_some
theorem Own.blk {w : World} {B n c size : Nat} {e : TypeId} {A : Option Addr} {xs : List Value} (h : Own w B e size A n c xs) {p : Addr} (hp : A = some p) : B ≤ p.block := by
  rcases h.2 with ⟨h1, _⟩ | ⟨g, cap, cur, h1, h2, _⟩
  · cases h1; cases hp
  · cases h1; cases hp; exact h2
theorem bwEdge (N : Int) (A : Option Addr) (n c : Nat) (i : Int) (w : World) : Calls Try.prog 37 #[.agg #[.int .i64 N, .slice A n c], .int .i64 i] w fun e w' => e = .returned (.bool (decide (0 ≤ i ∧ i < n))) ∧ Grows w w' := by
  go_enter Try.func37, Try.ntmps37
  go_wp2
  all_goals go_ret
  all_goals exact ⟨ret_bool (bool_ext (by simp; try omega)), (by repeat (first | exact Grows.refl _ | refine Grows.now ?_ _ | refine Grows.new ?_ _ | refine Grows.drewN ?_ _ | refine Grows.drew ?_ | assumption | (refine Grows.set ?_ (by first | omega | (simp; done) | (simp; omega)) _)))⟩
set_option maxRecDepth 40000 in
set_option maxHeartbeats 4000000 in
theorem withoutW (N : Nat) (A : Option Addr) (c : Nat) (E : List Edg) (e : Nat) (w : World) (h : Rd w A 3 E.length (esCells E)) (hr : rightF N E = 0) (he : e < E.length) :
    Calls Try.prog 9 #[.agg #[.int .i64 (N : Int), .slice A E.length c], .int .i64 (e : Int)] w fun x w' => ∃ A' c', x = .returned (.tuple #[.agg #[.int .i64 (N : Int), .slice A' (E.eraseIdx e).length c'], .int .i64 0]) ∧ Rd w' A' 3 (E.eraseIdx e).length (esCells (E.eraseIdx e)) ∧ Grows w w' := by
  obtain ⟨r1, r2, r3, r4, r5⟩ := right_in hr
  have C1 := hide (fun (W : World) (hg : Grows w W) => by have := gRight N A E.length c E W (h.grows hg) (by omega); rw [hr] at this; exact this)
  have C2 := hide (fun (W : World) => by have := bwEdge N A E.length c e W; rw [decide_eq_true (show 0 ≤ (e : Int) ∧ (e : Int) < E.length by omega)] at this; exact this)
  have C3 := hide (fun (W : World) (hg : Grows w W) => cloneE A E.length c E W (h.grows hg) (by omega))
  have hw1 : IntKind.i64.wrap ((e : Int) + 1) = (e : Int) + 1 := IntWalk.i64_in _ (by omega)
  clear h hr r1 r2 r4 r5
  go_enter Try.func9, Try.ntmps9
  go_upto_region 5 with (first | (go_at_call 36; refine (C1.out _ (by repeat (first | exact Grows.refl _ | refine Grows.now ?_ _ | refine Grows.new ?_ _ | refine Grows.drewN ?_ _ | refine Grows.drew ?_ | assumption | (refine Grows.set ?_ (by first | omega | (simp; done) | (simp; omega)) _)))).mono ?_; rintro e w' ⟨rfl, hg⟩; obtain ⟨x1, rfl⟩ := hg.later; clear hg) | (go_at_call 37; refine (C2.out _).mono ?_; rintro e w' ⟨rfl, hg⟩; obtain ⟨x2, rfl⟩ := hg.later; clear hg))
  go_region_with (first
    | (go_at_call 39
       refine (C3.out _ (by repeat (first | exact Grows.refl _ | refine Grows.now ?_ _ | refine Grows.new ?_ _ | refine Grows.drewN ?_ _ | refine Grows.drew ?_ | assumption | (refine Grows.set ?_ (by first | omega | (simp; done) | (simp; omega)) _)))).mono ?_
       rintro e w' ⟨A3, c3, rfl, ho3, hg3⟩
       obtain ⟨x3, rfl⟩ := hg3.later
       have HO3 := hide ho3
       clear ho3 hg3)
    | (go_at_call 38
       refine (delE _ _ _ _ E e HO3.out he (by omega)).mono ?_
       rintro e w' ⟨rfl, ht4, ho4⟩
       obtain ⟨x4, rfl⟩ := (ht4.later x3.grows (fun k hk => by obtain ⟨p, hp, rfl⟩ := hk; exact HO3.out.blk hp)).later
       have HO4 := hide ho4
       clear ho4 ht4))
  all_goals go_wp2
  all_goals refine bodyPost_ret (v := .tuple #[.agg #[.int .i64 (N : Int), .slice A3 (E.eraseIdx e).length c3], .int .i64 0]) (by simp (maxDischargeDepth := 6) [results, Try.results9, go_sem, *]) rfl ⟨A3, c3, rfl, ?_, (by repeat (first | exact Grows.refl _ | refine Grows.now ?_ _ | refine Grows.new ?_ _ | refine Grows.drewN ?_ _ | refine Grows.drew ?_ | assumption | (refine Grows.set ?_ (by first | omega | (simp; done) | (simp; omega)) _)))⟩
  all_goals exact ((HO4.out.low (q := ⟨w.heap.size + 1, 0, none⟩) (by show w.heap.size + 1 < _; have := (x1.grows.trans x2.grows).size; simp at this ⊢; omega) _).low (by show w.heap.size + 1 < _; have := (x1.grows.trans x2.grows).size; simp at this ⊢; omega) _).rd
set_option maxHeartbeats 4000000 in
theorem withoutNo (N : Int) (A : Option Addr) (c : Nat) (E : List Edg) (e : Int) (w : World) (h : Rd w A 3 E.length (esCells E)) (hn : E.length ≤ 1000000) (hno : rightF N E ≠ 0 ∨ ¬ (0 ≤ e ∧ e < E.length)) :
    Calls Try.prog 9 #[.agg #[.int .i64 N, .slice A E.length c], .int .i64 e] w fun x w' => ∃ f : Int, f ≠ 0 ∧ x = .returned (.tuple #[.agg #[.int .i64 0, .slice none 0 0], .int .i64 f]) ∧ Grows w w' := by
  have C1 := hide (fun (W : World) (hg : Grows w W) => gRight N A E.length c E W (h.grows hg) hn)
  by_cases hr : rightF N E = 0
  · rw [hr] at C1
    have C2 := hide (fun (W : World) => by have := bwEdge N A E.length c e W; rw [decide_eq_false (show ¬ (0 ≤ e ∧ e < E.length) by omega)] at this; exact this)
    clear h hr hno hn
    go_enter Try.func9, Try.ntmps9
    go_wp2_with (first | (go_at_call 36; refine (C1.out _ (by repeat (first | exact Grows.refl _ | refine Grows.now ?_ _ | refine Grows.new ?_ _ | refine Grows.drewN ?_ _ | refine Grows.drew ?_ | assumption | (refine Grows.set ?_ (by first | omega | (simp; done) | (simp; omega)) _)))).mono ?_; rintro e w' ⟨rfl, hg⟩; obtain ⟨x1, rfl⟩ := hg.later; clear hg) | (go_at_call 37; refine (C2.out _).mono ?_; rintro e w' ⟨rfl, hg⟩; obtain ⟨x2, rfl⟩ := hg.later; clear hg))
    all_goals refine bodyPost_ret (v := .tuple #[.agg #[.int .i64 0, .slice none 0 0], .int .i64 8]) (by simp (maxDischargeDepth := 6) [results, Try.results9, go_sem, *]) rfl ⟨8, by omega, rfl, (by repeat (first | exact Grows.refl _ | refine Grows.now ?_ _ | refine Grows.new ?_ _ | refine Grows.drewN ?_ _ | refine Grows.drew ?_ | assumption | (refine Grows.set ?_ (by first | omega | (simp; done) | (simp; omega)) _)))⟩
  · obtain ⟨r, hr2⟩ : ∃ r, rightF N E = r := ⟨_, rfl⟩
    rw [hr2] at C1 hr
    have hb : (r != 0) = true := by simpa using hr
    clear h hr2 hno hn hr
    go_enter Try.func9, Try.ntmps9
    go_wp2_with (first | (go_at_call 36; refine (C1.out _ (by repeat (first | exact Grows.refl _ | refine Grows.now ?_ _ | refine Grows.new ?_ _ | refine Grows.drewN ?_ _ | refine Grows.drew ?_ | assumption | (refine Grows.set ?_ (by first | omega | (simp; done) | (simp; omega)) _)))).mono ?_; rintro e w' ⟨rfl, hg⟩; obtain ⟨x1, rfl⟩ := hg.later; clear hg))
    all_goals refine bodyPost_ret (v := .tuple #[.agg #[.int .i64 0, .slice none 0 0], .int .i64 1]) (by simp (maxDischargeDepth := 6) [results, Try.results9, go_sem, *]) rfl ⟨1, by omega, rfl, (by repeat (first | exact Grows.refl _ | refine Grows.now ?_ _ | refine Grows.new ?_ _ | refine Grows.drewN ?_ _ | refine Grows.drew ?_ | assumption | (refine Grows.set ?_ (by first | omega | (simp; done) | (simp; omega)) _)))⟩
end Go.Proofs.Ytomednfddpggaaa

/- Who comes to whom (Tarjan), as functions. -/
namespace Go.Proofs.Ytomednfddpggaaa
open Go Go.RowKit
/-- What is known: when each node was met, the least that it comes back to, its part, the stack, how many were met, which are on the stack. -/
structure TjS where
  (met low part : List Int)
  stk : List Nat
  now : Int
  und : List Bool
def gbo (l : List Bool) (i : Nat) : Bool := l.getD i false
/-- Where a node first is in a row; its length if nowhere. -/
def ixOf (l : List Nat) (v : Nat) : Nat := l.findIdx (· == v)
/-- The least of the first ones. -/
def minT (l : List Nat) : Nat → Nat
  | 0 => gn l 0
  | k + 1 => min (minT l k) (gn l k)
def minL (l : List Nat) : Nat := minT l l.length
def setAll {α : Type} (p : List α) (l : List Nat) (x : α) : List α := l.foldl (fun p u => p.set u x) p
def TjS.enter (s : TjS) (v : Nat) : TjS := { s with now := s.now + 1, met := s.met.set v (s.now + 1), low := s.low.set v (s.now + 1), stk := s.stk ++ [v], und := s.und.set v true }
def TjS.lower (s : TjS) (v : Nat) (x : Int) : TjS := { s with low := s.low.set v (min (gi s.low v) x) }
def TjS.edge (rec : Nat → TjS → TjS) (v u : Nat) (s : TjS) : TjS :=
  if gi s.met u = 0 then (rec u s).lower v (gi (rec u s).low u)
  else if gbo s.und u = true then s.lower v (gi s.met u) else s
def TjS.cut (s : TjS) (v : Nat) : TjS :=
  { s with part := setAll s.part (s.stk.drop (ixOf s.stk v)) (minL (s.stk.drop (ixOf s.stk v)) : Int), und := setAll s.und (s.stk.drop (ixOf s.stk v)) false, stk := s.stk.take (ixOf s.stk v) }
def TjS.close (s : TjS) (v : Nat) : TjS := if gi s.low v < gi s.met v then s else s.cut v
/-- A node and all that come of it; at most n calls deep. -/
def tj (row : Nat → List Nat) : Nat → Nat → TjS → TjS
  | 0, _, s => s
  | n + 1, v, s => ((row v).foldl (fun s u => s.edge (tj row n) v u) (s.enter v)).close v
structure TjOk (N : Nat) (s : TjS) : Prop where
  m : s.met.length = N
  l : s.low.length = N
  p : s.part.length = N
  u : s.und.length = N
  stk : ∀ u ∈ s.stk, u < N ∧ gi s.met u ≠ 0
  len : (s.stk.length : Int) ≤ s.now
  now : s.now + (s.met.count 0 : Nat) = N
theorem TjOk.le {N : Nat} {s : TjS} (h : TjOk N s) : 0 ≤ s.now ∧ s.now ≤ N := by
  have h1 := h.now
  have h2 : s.met.count 0 ≤ s.met.length := List.count_le_length
  rw [h.m] at h2
  omega
/-- What stays on the way. -/
structure TjX (s s' : TjS) : Prop where
  met : ∀ u, gi s.met u ≠ 0 → gi s'.met u = gi s.met u
  stk : s.stk <+: s'.stk
  cnt : s'.met.count 0 ≤ s.met.count 0
theorem TjX.refl (s : TjS) : TjX s s := ⟨fun _ _ => rfl, List.prefix_refl _, Nat.le_refl _⟩
theorem TjX.trans {a b c : TjS} (h : TjX a b) (k : TjX b c) : TjX a c :=
  ⟨fun u hu => by rw [k.met u (by rw [h.met u hu]; exact hu), h.met u hu], h.stk.trans k.stk, Nat.le_trans k.cnt h.cnt⟩
theorem gi_set2 (ys : List Int) (j k : Nat) (v : Int) (hj : j < ys.length) : gi (ys.set j v) k = if k = j then v else gi ys k := by
  unfold gi
  by_cases h : k = j
  · subst h; simp [hj]
  · rw [if_neg h]
    simp [List.getElem?_set, Ne.symm h]
theorem TjOk.enter {N : Nat} {s : TjS} (h : TjOk N s) {v : Nat} (hv : v < N) (h0 : gi s.met v = 0) : TjOk N (s.enter v) ∧ (s.enter v).met.count 0 + 1 = s.met.count 0 := by
  have hvl : v < s.met.length := by rw [h.m]; exact hv
  have e0 : s.met[v] = 0 := by simpa [gi, hvl] using h0
  have hle := h.le
  have hn : s.now + 1 ≠ 0 := by omega
  have hpos : 0 < s.met.count 0 := List.count_pos_iff.2 (by rw [← e0]; exact List.getElem_mem _)
  have hc : (s.met.set v (s.now + 1)).count 0 + 1 = s.met.count 0 := by
    rw [List.count_set hvl, e0]
    have e : (s.now + 1 == 0) = false := by simpa using hn
    simp only [e, beq_self_eq_true, if_true, Bool.false_eq_true, if_false]
    omega
  refine ⟨⟨by simp [TjS.enter, h.m], by simp [TjS.enter, h.l], h.p, by simp [TjS.enter, h.u], fun u hu => ?_, ?_, ?_⟩, hc⟩
  · show u < N ∧ gi (s.met.set v (s.now + 1)) u ≠ 0
    rw [gi_set2 _ _ _ _ hvl]
    rcases List.mem_append.1 hu with hu | hu
    · refine ⟨(h.stk u hu).1, ?_⟩
      split
      · exact hn
      · exact (h.stk u hu).2
    · rw [List.mem_singleton.1 hu, if_pos rfl]
      exact ⟨hv, hn⟩
  · have := h.len
    show ((s.stk ++ [v]).length : Int) ≤ s.now + 1
    simp only [List.length_append, List.length_singleton]
    omega
  · have := h.now
    show s.now + 1 + ((s.met.set v (s.now + 1)).count 0 : Nat) = N
    omega
theorem TjX.enter {N : Nat} {s : TjS} (h : TjOk N s) {v : Nat} (hv : v < N) (h0 : gi s.met v = 0) : TjX s (s.enter v) := by
  have hvl : v < s.met.length := by rw [h.m]; exact hv
  refine ⟨fun u hu => ?_, List.prefix_append _ _, by have := (h.enter hv h0).2; omega⟩
  show gi (s.met.set v (s.now + 1)) u = _
  rw [gi_set2 _ _ _ _ hvl, if_neg (fun e => by subst e; exact hu h0)]
theorem TjOk.lower {N : Nat} {s : TjS} (h : TjOk N s) (v : Nat) (x : Int) : TjOk N (s.lower v x) := ⟨h.m, by simp [TjS.lower, h.l], h.p, h.u, h.stk, h.len, h.now⟩
theorem TjX.lower (s : TjS) (v : Nat) (x : Int) : TjX s (s.lower v x) := ⟨fun _ _ => rfl, List.prefix_refl _, Nat.le_refl _⟩
theorem setAll_len {α : Type} (l : List Nat) (x : α) : ∀ p : List α, (setAll p l x).length = p.length := by
  induction l with
  | nil => exact fun _ => rfl
  | cons u l ih => intro p; exact (ih (p.set u x)).trans (by simp)
theorem TjOk.close {N : Nat} {s : TjS} (h : TjOk N s) (v : Nat) : TjOk N (s.close v) := by
  unfold TjS.close
  split
  · exact h
  · refine ⟨h.m, h.l, by show (setAll _ _ _).length = N; rw [setAll_len]; exact h.p, by show (setAll _ _ _).length = N; rw [setAll_len]; exact h.u, fun u hu => h.stk u (List.mem_of_mem_take hu), ?_, h.now⟩
    have := h.len
    show ((s.stk.take (ixOf s.stk v)).length : Int) ≤ s.now
    rw [List.length_take]
    omega
theorem ixOf_lt {l : List Nat} {v : Nat} (h : v ∈ l) : ixOf l v < l.length := List.findIdx_lt_length_of_exists ⟨v, h, by simp⟩
theorem ixOf_at {l : List Nat} {v : Nat} (h : v ∈ l) : l[ixOf l v]'(ixOf_lt h) = v := by
  have := List.findIdx_getElem (xs := l) (p := (· == v)) (w := ixOf_lt h)
  exact LawfulBEq.eq_of_beq this
theorem ixOf_pre {l : List Nat} {v j : Nat} (hj : j < ixOf l v) : gn l j ≠ v := by
  intro e
  have hlt : j < l.length := Nat.lt_of_lt_of_le hj List.findIdx_le_length
  have := List.not_of_lt_findIdx (p := (· == v)) hj
  have e2 : l[j] = v := by simpa [gn, hlt] using e
  simp [e2] at this
/-- What lies below a node that was not there stays when its own are taken off. -/
theorem TjX.close {s0 s : TjS} (v : Nat) (hx : TjX s0 s) (hv : v ∉ s0.stk) (hin : v ∈ s.stk) : TjX s0 (s.close v) := by
  unfold TjS.close
  split
  · exact hx
  · refine ⟨hx.met, ?_, hx.cnt⟩
    show s0.stk <+: s.stk.take (ixOf s.stk v)
    refine List.prefix_take_iff.2 ⟨hx.stk, ?_⟩
    rcases Nat.lt_or_ge (ixOf s.stk v) s0.stk.length with hlt | hge
    · exfalso
      have e1 := ixOf_at hin
      have e2 := hx.stk.getElem hlt
      exact hv (by rw [← e1, ← e2]; exact List.getElem_mem _)
    · exact hge
theorem fold_ok {N : Nat} {rec : Nat → TjS → TjS} {v n : Nat} (hr : ∀ u s, TjOk N s → u < N → gi s.met u = 0 → s.met.count 0 ≤ n → TjOk N (rec u s) ∧ TjX s (rec u s)) :
    ∀ (l : List Nat) (s : TjS), (∀ u ∈ l, u < N) → TjOk N s → s.met.count 0 ≤ n → TjOk N (l.foldl (fun s u => s.edge rec v u) s) ∧ TjX s (l.foldl (fun s u => s.edge rec v u) s)
  | [], s, _, h, _ => ⟨h, TjX.refl s⟩
  | u :: l, s, hl, h, hc => by
    have h1 : TjOk N (s.edge rec v u) ∧ TjX s (s.edge rec v u) := by
      unfold TjS.edge
      split
      · rename_i h0
        obtain ⟨a, b⟩ := hr u s h (hl u (by simp)) h0 hc
        exact ⟨a.lower _ _, b.trans (TjX.lower _ _ _)⟩
      · split
        · exact ⟨h.lower _ _, TjX.lower _ _ _⟩
        · exact ⟨h, TjX.refl s⟩
    obtain ⟨a, b⟩ := fold_ok hr l (s.edge rec v u) (fun x hx => hl x (by simp [hx])) h1.1 (Nat.le_trans h1.2.cnt hc)
    exact ⟨a, h1.2.trans b⟩
theorem tj_ok {N : Nat} {row : Nat → List Nat} (hrow : ∀ v, ∀ u ∈ row v, u < N) : ∀ n v s, TjOk N s → v < N → gi s.met v = 0 → s.met.count 0 ≤ n → TjOk N (tj row n v s) ∧ TjX s (tj row n v s)
  | 0, v, s, h, hv, h0, hc => by
    exfalso
    have hvl : v < s.met.length := by rw [h.m]; exact hv
    have e0 : s.met[v] = 0 := by simpa [gi, hvl] using h0
    have hpos : 0 < s.met.count 0 := List.count_pos_iff.2 (by rw [← e0]; exact List.getElem_mem _)
    omega
  | n + 1, v, s, h, hv, h0, hc => by
    obtain ⟨h1, h2⟩ := h.enter hv h0
    obtain ⟨a, b⟩ := fold_ok (v := v) (fun u s h hu h0 hc => tj_ok hrow n u s h hu h0 hc) (row v) (s.enter v) (hrow v) h1 (by omega)
    have hx := (TjX.enter h hv h0).trans b
    exact ⟨a.close v, hx.close v (fun e => (h.stk v e).2 h0) (b.stk.subset (by simp [TjS.enter]))⟩
end Go.Proofs.Ytomednfddpggaaa

/- Who is come to: round by round, till nothing changes. -/
namespace Go.Proofs.Ytomednfddpggaaa
open Go Go.RowKit
/-- The node to which an edge leads. -/
def oN (E : List Edg) (back : Bool) : Nat → Nat := if back then fN E else tN E
inductive Rch (E : List Edg) (back : Bool) (s : Nat) : Nat → Prop
  | here : Rch E back s s
  | step {v i : Nat} : Rch E back s v → i < E.length → nN E back i = v → Rch E back s (oN E back i)
def bb (l : List Bool) (i : Nat) : Bool := l.getD i false
theorem bb_set (l : List Bool) (i j : Nat) (b : Bool) (hi : i < l.length) : bb (l.set i b) j = if j = i then b else bb l j := by
  unfold bb
  by_cases h : j = i
  · subst h; simp [hi]
  · simp [h, Ne.symm h]
theorem bb_rep (n i : Nat) : bb (List.replicate n false) i = false := by
  unfold bb
  by_cases h : i < n
  · simp [h]
  · simp [h]
theorem bb_ge {l : List Bool} {i : Nat} (h : l.length ≤ i) : bb l i = false := by unfold bb; simp [h]
theorem bb_ext {a b : List Bool} (hl : a.length = b.length) (h : ∀ i, i < a.length → (bb a i = true ↔ bb b i = true)) : a = b := by
  refine List.ext_getElem hl fun i h1 h2 => ?_
  have e1 : bb a i = a[i] := by simp [bb, h1]
  have e2 : bb b i = b[i] := by simp [bb, h2]
  rw [← e1, ← e2]
  exact Bool.eq_iff_iff.2 (h i h1)
theorem cnt_mono : ∀ (a b : List Bool), a.length = b.length → (∀ i, bb a i = true → bb b i = true) → a.count true ≤ b.count true ∧ ((∃ i, bb a i = false ∧ bb b i = true) → a.count true < b.count true) := by
  intro a
  induction a with
  | nil =>
    intro b hl h
    have : b = [] := List.eq_nil_of_length_eq_zero (by simpa using hl.symm)
    subst this
    exact ⟨Nat.le_refl _, fun ⟨i, _, h2⟩ => by simp [bb] at h2⟩
  | cons x a ih =>
    intro b hl h
    cases b with
    | nil => simp at hl
    | cons y b =>
      obtain ⟨h1, h2⟩ := ih b (by simpa using hl) (fun i hi => by have := h (i + 1); simp only [bb, List.getD_cons_succ] at this ⊢; exact this hi)
      have h0 := h 0
      simp only [bb, List.getD_cons_zero] at h0
      have key : (x :: a).count true ≤ (y :: b).count true := by
        rw [List.count_cons, List.count_cons]
        cases x <;> cases y <;> simp at h0 ⊢ <;> omega
      refine ⟨key, fun ⟨i, h3, h4⟩ => ?_⟩
      cases i with
      | zero =>
        simp only [bb, List.getD_cons_zero] at h3 h4
        subst h3 h4
        rw [List.count_cons, List.count_cons]
        simp
        omega
      | succ i =>
        simp only [bb, List.getD_cons_succ] at h3 h4
        have := h2 ⟨i, h3, h4⟩
        rw [List.count_cons, List.count_cons]
        cases x <;> cases y <;> simp at h0 ⊢ <;> omega
/-- An edge of a round; all edges; so many rounds. -/
def rlB (E : List Edg) (back : Bool) (d : List Bool) (i : Nat) : List Bool := if bb d (nN E back i) = true then d.set (oN E back i) true else d
def rlKB (E : List Edg) (back : Bool) (d : List Bool) (k : Nat) : List Bool := (List.range k).foldl (rlB E back) d
def rnB (E : List Edg) (back : Bool) (d : List Bool) : List Bool := rlKB E back d E.length
def rnKB (E : List Edg) (back : Bool) (d : List Bool) : Nat → List Bool
  | 0 => d
  | k + 1 => rnB E back (rnKB E back d k)
section
variable {E : List Edg} {back : Bool} {N s : Nat}
theorem rlKB_succ (d : List Bool) (k : Nat) : rlKB E back d (k + 1) = rlB E back (rlKB E back d k) k := by simp [rlKB, List.range_succ, List.foldl_append]
theorem rlB_len (d : List Bool) (i : Nat) : (rlB E back d i).length = d.length := by unfold rlB; split <;> simp
theorem rlKB_len (d : List Bool) (k : Nat) : (rlKB E back d k).length = d.length := by
  induction k with
  | zero => rfl
  | succ k ih => rw [rlKB_succ, rlB_len, ih]
theorem rnKB_len (d : List Bool) (k : Nat) : (rnKB E back d k).length = d.length := by
  induction k with
  | zero => rfl
  | succ k ih => exact (rlKB_len _ _).trans ih
theorem oN_lt (h : InN N E) {i : Nat} (hi : i < E.length) : oN E back i < N := by
  unfold oN
  split
  · exact (h.f i hi).1
  · exact (h.t i hi).1
theorem nN_lt2 (h : InN N E) {i : Nat} (hi : i < E.length) : nN E back i < N := by
  unfold nN
  split
  · exact (h.t i hi).1
  · exact (h.f i hi).1
theorem rlB_mono (d : List Bool) (i v : Nat) (h : bb d v = true) : bb (rlB E back d i) v = true := by
  unfold rlB
  split
  · by_cases ho : oN E back i < d.length
    · rw [bb_set _ _ _ _ ho]; split
      · rfl
      · exact h
    · rw [List.set_eq_of_length_le (by omega)]; exact h
  · exact h
theorem rlKB_mono (d : List Bool) (v j k : Nat) (hjk : j ≤ k) (h : bb (rlKB E back d j) v = true) : bb (rlKB E back d k) v = true := by
  induction k with
  | zero => have : j = 0 := by omega
            subst this; exact h
  | succ k ih =>
    by_cases e : j = k + 1
    · rw [← e]; exact h
    · rw [rlKB_succ]; exact rlB_mono _ _ _ (ih (by omega))
theorem rnB_mono (d : List Bool) (v : Nat) (h : bb d v = true) : bb (rnB E back d) v = true := rlKB_mono d v 0 _ (Nat.zero_le _) h
theorem rnB_edge (d : List Bool) (i : Nat) (hi : i < E.length) (ho : oN E back i < d.length) (h : bb d (nN E back i) = true) : bb (rnB E back d) (oN E back i) = true := by
  refine rlKB_mono d _ (i + 1) _ (by omega) ?_
  rw [rlKB_succ]
  have h1 : bb (rlKB E back d i) (nN E back i) = true := rlKB_mono d _ 0 i (Nat.zero_le _) h
  unfold rlB
  rw [if_pos h1, bb_set _ _ _ _ (by rw [rlKB_len]; exact ho), if_pos rfl]
def ClosedB (E : List Edg) (back : Bool) (d : List Bool) : Prop := ∀ i, i < E.length → bb d (nN E back i) = true → bb d (oN E back i) = true
theorem rlB_closed {d : List Bool} (h : ClosedB E back d) {i : Nat} (hi : i < E.length) (ho : oN E back i < d.length) : rlB E back d i = d := by
  unfold rlB
  split
  · rename_i h1
    have h2 := h i hi h1
    refine bb_ext (by simp) fun j hj => ?_
    rw [bb_set _ _ _ _ ho]
    split
    · rename_i e; rw [e, h2]
    · exact Iff.rfl
  · rfl
theorem rnB_closed {d : List Bool} (h : ClosedB E back d) (hE : InN d.length E) : rnB E back d = d := by
  have : ∀ k, k ≤ E.length → rlKB E back d k = d := fun k => by
    induction k with
    | zero => intro _; rfl
    | succ k ih =>
      intro hk
      rw [rlKB_succ, ih (by omega)]
      exact rlB_closed h (by omega) (oN_lt hE (by omega))
  exact this _ (Nat.le_refl _)
theorem rnKB_closed {d : List Bool} (hE : InN d.length E) (h1 : 1 ≤ d.count true) : ∀ k, ClosedB E back (rnKB E back d k) ∨ k + 1 ≤ (rnKB E back d k).count true := by
  intro k
  induction k with
  | zero => exact .inr h1
  | succ k ih =>
    have hl : (rnKB E back d k).length = d.length := rnKB_len d k
    by_cases hc : ClosedB E back (rnKB E back d k)
    · left
      show ClosedB E back (rnB E back (rnKB E back d k))
      rw [rnB_closed hc (by rw [hl]; exact hE)]
      exact hc
    · right
      have h2 : k + 1 ≤ (rnKB E back d k).count true := ih.resolve_left hc
      unfold ClosedB at hc
      have ⟨i, hi⟩ := Classical.not_forall.1 hc
      have ⟨h3, h4⟩ := Classical.not_imp.1 hi
      have ⟨h5, h6⟩ := Classical.not_imp.1 h4
      have h7 : bb (rnKB E back d k) (oN E back i) = false := by simpa using h6
      have := (cnt_mono (rnKB E back d k) (rnB E back (rnKB E back d k)) (rlKB_len _ _).symm (fun v hv => rnB_mono _ v hv)).2 ⟨oN E back i, h7, rnB_edge _ i h3 (by rw [hl]; exact oN_lt hE h3) h5⟩
      show k + 1 + 1 ≤ (rnB E back (rnKB E back d k)).count true
      omega
def SoundB (E : List Edg) (back : Bool) (s : Nat) (d : List Bool) : Prop := ∀ v, bb d v = true → Rch E back s v
theorem rlB_sound {d : List Bool} (h : SoundB E back s d) {i : Nat} (hi : i < E.length) : SoundB E back s (rlB E back d i) := by
  intro v hv
  unfold rlB at hv
  split at hv
  · rename_i h1
    by_cases ho : oN E back i < d.length
    · rw [bb_set _ _ _ _ ho] at hv
      split at hv
      · rename_i e
        subst e
        exact .step (h _ h1) hi rfl
      · exact h v hv
    · rw [List.set_eq_of_length_le (by omega)] at hv; exact h v hv
  · exact h v hv
theorem rnKB_sound {d : List Bool} (h : SoundB E back s d) (k : Nat) : SoundB E back s (rnKB E back d k) := by
  induction k with
  | zero => exact h
  | succ k ih =>
    have : ∀ j, j ≤ E.length → SoundB E back s (rlKB E back (rnKB E back d k) j) := fun j => by
      induction j with
      | zero => intro _; exact ih
      | succ j ih2 => intro hj; rw [rlKB_succ]; exact rlB_sound (ih2 (by omega)) (by omega)
    exact this _ (Nat.le_refl _)
/-- What is closed, holds the first one, and holds none that is not come to, is what is come to. -/
theorem closed_is {d : List Bool} (h1 : bb d s = true) (h2 : ClosedB E back d) (h3 : SoundB E back s d) (v : Nat) : bb d v = true ↔ Rch E back s v := by
  refine ⟨h3 v, fun h => ?_⟩
  induction h with
  | here => exact h1
  | step _ hi hn ih => exact h2 _ hi (by rw [hn]; exact ih)
def begB (N s : Nat) : List Bool := (List.replicate N false).set s true
theorem rounds_is (hE : InN N E) (hs : s < N) (v : Nat) : bb (rnKB E back (begB N s) N) v = true ↔ Rch E back s v := by
  have hl : (begB N s).length = N := by simp [begB]
  have h0 : bb (begB N s) s = true := by unfold begB; rw [bb_set _ _ _ _ (by simpa using hs), if_pos rfl]
  have hsnd : SoundB E back s (begB N s) := fun v hv => by
    unfold begB at hv
    rw [bb_set _ _ _ _ (by simpa using hs)] at hv
    split at hv
    · rename_i e; rw [e]; exact .here
    · rw [bb_rep] at hv; cases hv
  have hc1 : 1 ≤ (begB N s).count true := by
    unfold begB
    refine List.count_pos_iff.2 ?_
    exact List.mem_iff_getElem.2 ⟨s, by simpa using hs, by simp⟩
  have hmono : ∀ k, bb (rnKB E back (begB N s) k) s = true := fun k => by
    induction k with
    | zero => exact h0
    | succ k ih => exact rnB_mono _ _ ih
  refine closed_is (hmono N) ?_ (rnKB_sound hsnd N) v
  rcases rnKB_closed (back := back) (d := begB N s) (by rw [hl]; exact hE) hc1 N with h | h
  · exact h
  · have := List.count_le_length (a := true) (l := rnKB E back (begB N s) N)
    rw [rnKB_len, hl] at this
    omega
end
end Go.Proofs.Ytomednfddpggaaa
