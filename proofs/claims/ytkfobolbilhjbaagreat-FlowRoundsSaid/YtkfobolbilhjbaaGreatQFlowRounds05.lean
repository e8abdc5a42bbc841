/- Contracts: who goes out, and who comes in. -/
import Derived.Deep.Strs
import Derived.WalkMore
import Derived.Test.YtkfobolbilhjbaaGreatQFlowRounds00
import Derived.Test.YtkfobolbilhjbaaGreatQFlowRounds02
import Derived.Test.YtkfobolbilhjbaaGreatQFlowRounds03
import Derived.Test.YtkfobolbilhjbaaGreatQFlowRounds04
namespace Go.Proofs.YtkfobolbilhjbaaGreat
open Go Go.RowKit
theorem adjFrom (e : Edg) (w : World) : Calls Tryz.prog 66 #[eVal e] w fun x w' => x = .returned (.int .i64 e.f) ∧ Grows w w' := by
  unfold eVal
  go_enter Tryz.func66, Tryz.ntmps66
  go_wp2
  go_ret
  exact ⟨rfl, GG⟩
theorem adjTo (e : Edg) (w : World) : Calls Tryz.prog 67 #[eVal e] w fun x w' => x = .returned (.int .i64 e.t) ∧ Grows w w' := by
  unfold eVal
  go_enter Tryz.func67, Tryz.ntmps67
  go_wp2
  go_ret
  exact ⟨rfl, GG⟩
def LaidIn (w : World) (g1 g2 N n : Nat) (f : Nat → Nat) : Prop :=
  ∃ X B, Row1 w g1 3 1 n n (nv X) ∧ Row1 w g2 3 1 (N + 1) (N + 1) (nv B) ∧ (∀ i, i < n → X[posN f n i]? = some i) ∧ (∀ v, v ≤ N → gn B v = begN f n v)
theorem LaidIn.grows {w w' : World} {g1 g2 N n : Nat} {f : Nat → Nat} (h : LaidIn w g1 g2 N n f) (hg : Grows w w') : LaidIn w' g1 g2 N n f := by
  obtain ⟨X, B, h1, h2, h3⟩ := h
  exact ⟨X, B, h1.grow hg, h2.grow hg, h3⟩
def rowsVal (g1 g2 N n : Nat) : Value := .agg #[.slice (some ⟨g1, 0, none⟩) n n, .slice (some ⟨g2, 0, none⟩) (N + 1) (N + 1)]
set_option maxRecDepth 20000 in
set_option maxHeartbeats 2000000 in
theorem adjOf (g1 g2 N n : Nat) (f : Nat → Nat) (v : Nat) (w0 w : World) (h : LaidIn w0 g1 g2 N n f) (hg0 : Grows w0 w) (hv : v < N) (_ : n ≤ 1000000) (hN : N ≤ 100000) (hf : ∀ i, i < n → f i < N) :
    Calls Tryz.prog 96 #[rowsVal g1 g2 N n, .int .i64 (v : Int)] w fun e w' => ∃ A, e = .returned (.slice A (cntN f v n) (cntN f v n)) ∧ (Rd w0 A 1 (cntN f v n) (nv (rowN f n v)) ∧ ∀ p, A = some p → p.block = g1) ∧ Grows w w' := by
  obtain ⟨X, B, h1, h2, h3, h4⟩ := h
  have m1 := (h2.grow hg0).nat (j := v) (by omega)
  have m2 := (h2.grow hg0).nat (j := v + 1) (by omega)
  rw [h4 v (by omega)] at m1
  rw [h4 (v + 1) (by omega)] at m2
  have b1 := begN_le f n v
  have b2 := begN_le f n (v + 1)
  have b3 := begN_succ f n v
  have H1 := hide h1
  have H3 := hide h3
  have H4 := hide b3
  have b4 : begN f n v ≤ begN f n (v + 1) := by omega
  have HF := hide hf
  clear h1 h2 h3 h4 b3 hf
  generalize hp : begN f n v = p at *
  generalize hq : begN f n (v + 1) = q at *
  have HP := hide hp
  have HQ := hide hq
  clear hp hq
  unfold rowsVal
  rcases Nat.eq_or_lt_of_le b4 with e | e
  · subst e
    go_enter Tryz.func96, Tryz.ntmps96
    go_wp2_with fail
    ((first | refine wp_region_gen2 (by kernel_rfl) (by kernel_rfl) ?_ | refine wp_region_gen (by kernel_rfl) (by kernel_rfl) ?_); (repeat' ((first | refine gLex_val0 rfl (by kernel_rfl) (fun K hK => ?_) | refine gLex_undef rfl rfl rfl (by kernel_rfl) (fun K hK => ?_) | (refine gLex_ask rfl rfl rfl ?_; first | (apply gAsk_yes; kernel_rfl; intro K hK) | ((first | apply gAsk_no1 | apply gAsk_no2); kernel_rfl; intro K hK) | (apply gAsk_part; kernel_rfl; all_goals (intro h K hK; (try simp only [Bool.not_true] at h); (try simp only [Bool.not_false] at h); (try simp only [decide_eq_true_eq] at h); (try simp only [decide_eq_false_iff_not] at h); try (exfalso; first | contradiction | omega))))) <;> (go_simp; (try (simp only [↓IntWalk.iteOmega]; try go_simp)); (try simp (disch := omega) only [IntWalk.i64_in]); (try simp (disch := omega) only [IntWalk.u64_in]); refine hK _ ?_; clear hK K))); all_goals ((apply gLex_end); intro y))
    go_wp2_with fail
    have hc : cntN f v n = 0 := by have := H4.out; omega
    go_ret
    rw [hc]
    exact ⟨_, rfl, ⟨⟨by rw [nv_len, rowN_len, hc], fun h => absurd h (by omega)⟩, fun p hp => by injection hp with hp; rw [← hp]⟩, GG⟩
  · have hne : ¬ q = p := by omega
    go_enter Tryz.func96, Tryz.ntmps96
    go_wp2_with fail
    ((first | refine wp_region_gen2 (by kernel_rfl) (by kernel_rfl) ?_ | refine wp_region_gen (by kernel_rfl) (by kernel_rfl) ?_); (repeat' ((first | refine gLex_val0 rfl (by kernel_rfl) (fun K hK => ?_) | refine gLex_undef rfl rfl rfl (by kernel_rfl) (fun K hK => ?_) | (refine gLex_ask rfl rfl rfl ?_; first | (apply gAsk_yes; kernel_rfl; intro K hK) | ((first | apply gAsk_no1 | apply gAsk_no2); kernel_rfl; intro K hK) | (apply gAsk_part; kernel_rfl; all_goals (intro h K hK; (try simp only [Bool.not_true] at h); (try simp only [Bool.not_false] at h); (try simp only [decide_eq_true_eq] at h); (try simp only [decide_eq_false_iff_not] at h); try (exfalso; first | contradiction | omega))))) <;> (go_simp; (try (simp only [↓IntWalk.iteOmega]; try go_simp)); (try simp (disch := omega) only [IntWalk.i64_in]); (try simp (disch := omega) only [IntWalk.u64_in]); refine hK _ ?_; clear hK K))); all_goals ((apply gLex_end); intro y))
    go_wp2_with fail
    have hc : cntN f v n = q - p := by have := H4.out; omega
    have hl1 := H1.out.nlen
    have hrow := laid_row f n v X hl1 H3.out
    rw [HP.out, hc] at hrow
    go_ret
    rw [hc]
    refine ⟨_, rfl, ⟨?_, fun p hp => by injection hp with hp; rw [← hp]⟩, GG⟩
    refine ⟨by rw [nv_len, rowN_len, hc]; omega, fun h1 _ => ⟨g1, p, rfl, fun j u hu => ?_⟩⟩
    have hj : j < q - p := by
      have := (List.getElem?_eq_some_iff.1 hu).1
      rw [nv_len, rowN_len, hc] at this
      exact this
    have hx : (nv X)[p + j]? = some u := by
      rw [← hrow] at hu
      unfold nv at hu ⊢
      rw [List.getElem?_map] at hu ⊢
      rw [List.getElem?_take, if_pos hj, List.getElem?_drop] at hu
      exact hu
    exact (H1.out.mine hx).cell
def fN (E : List Edg) (i : Nat) : Nat := (ge E i).f.toNat
def tN (E : List Edg) (i : Nat) : Nat := (ge E i).t.toNat
def nN (E : List Edg) (back : Bool) : Nat → Nat := if back then tN E else fN E
def AdjAt (F : Nat → Prop) (w : World) (b N : Nat) (E : List Edg) : Prop :=
  ∃ A c g1 g2 g3 g4, Arr w b 117 [.int .i64 (N : Int), .slice A E.length c, .slice (some ⟨g1, 0, none⟩) E.length E.length, .slice (some ⟨g2, 0, none⟩) (N + 1) (N + 1), .slice (some ⟨g3, 0, none⟩) E.length E.length, .slice (some ⟨g4, 0, none⟩) (N + 1) (N + 1)] ∧
    Rd w A 3 E.length (esCells E) ∧ LaidIn w g1 g2 N E.length (fN E) ∧ LaidIn w g3 g4 N E.length (tN E) ∧ (F b ∧ F g1 ∧ F g2 ∧ F g3 ∧ F g4 ∧ ∀ p, A = some p → F p.block)
theorem LaidIn.touch {w w' : World} {g1 g2 N n : Nat} {f : Nat → Nat} {S : Nat → Prop} (h : LaidIn w g1 g2 N n f) (ht : Touch S w w') (h1 : ¬ S g1) (h2 : ¬ S g2) : LaidIn w' g1 g2 N n f := by
  obtain ⟨X, B, q1, q2, q3⟩ := h
  exact ⟨X, B, q1.touch ht h1, q2.touch ht h2, q3⟩
theorem AdjAt.touch {F S : Nat → Prop} {w w' : World} {b N : Nat} {E : List Edg} (h : AdjAt F w b N E) (ht : Touch S w w') (hs : ∀ k, F k → ¬ S k) : AdjAt F w' b N E := by
  obtain ⟨A, c, g1, g2, g3, g4, h1, h2, h3, h4, f0, f1, f2, f3, f4, f5⟩ := h
  exact ⟨A, c, g1, g2, g3, g4, h1.touch ht (hs _ f0), h2.touch ht (fun p hp => hs _ (f5 p hp)), h3.touch ht (hs _ f1) (hs _ f2), h4.touch ht (hs _ f3) (hs _ f4), f0, f1, f2, f3, f4, f5⟩
theorem AdjAt.grows {F : Nat → Prop} {w w' : World} {b N : Nat} {E : List Edg} (h : AdjAt F w b N E) (hg : Grows w w') : AdjAt F w' b N E := h.touch (hg.touch (fun _ => False)) (fun _ _ => id)
theorem AdjAt.mono {F F' : Nat → Prop} {w : World} {b N : Nat} {E : List Edg} (h : AdjAt F w b N E) (hf : ∀ k, F k → F' k) : AdjAt F' w b N E := by
  obtain ⟨A, c, g1, g2, g3, g4, h1, h2, h3, h4, f0, f1, f2, f3, f4, f5⟩ := h
  exact ⟨A, c, g1, g2, g3, g4, h1, h2, h3, h4, hf _ f0, hf _ f1, hf _ f2, hf _ f3, hf _ f4, fun p hp => hf _ (f5 p hp)⟩
def InN (N : Nat) (E : List Edg) : Prop := ∀ i, i < E.length → (0 ≤ (ge E i).f ∧ (ge E i).f < N) ∧ (0 ≤ (ge E i).t ∧ (ge E i).t < N)
theorem InN.f {N : Nat} {E : List Edg} (h : InN N E) (i : Nat) (hi : i < E.length) : fN E i < N ∧ (ge E i).f = (fN E i : Int) := by
  obtain ⟨⟨h1, h2⟩, h3, h4⟩ := h i hi
  unfold fN; omega
theorem InN.t {N : Nat} {E : List Edg} (h : InN N E) (i : Nat) (hi : i < E.length) : tN E i < N ∧ (ge E i).t = (tN E i : Int) := by
  obtain ⟨⟨h1, h2⟩, h3, h4⟩ := h i hi
  unfold tN; omega
theorem right_in {N : Int} {E : List Edg} (h : rightF N E = 0) : 1 ≤ N ∧ N ≤ 4096 ∧ E.length ≤ 16384 ∧ InN N.toNat E ∧ ∀ i, i < E.length → 1 ≤ (ge E i).w ∧ (ge E i).w ≤ 4294967296 := by
  unfold rightF at h
  split at h
  · cases h
  split at h
  · cases h
  split at h
  · cases h
  split at h
  · cases h
  rename_i h1 h2 h3 h4
  refine ⟨by omega, by omega, by omega, fun i hi => ?_, fun i hi => ?_⟩
  · have hm : ge E i ∈ E := by unfold ge; rw [List.getD_eq_getElem?_getD, List.getElem?_eq_getElem hi]; exact List.getElem_mem hi
    have : looseB N (ge E i) = false := by
      cases hh : looseB N (ge E i) with
      | false => rfl
      | true => exact absurd (List.any_eq_true.2 ⟨_, hm, hh⟩) h3
    unfold looseB at this
    simp only [Bool.or_eq_false_iff, Bool.not_eq_false'] at this
    obtain ⟨t1, t2, _⟩ := this
    unfold nodeB at t1 t2
    have t1 := of_decide_eq_true t1
    have t2 := of_decide_eq_true t2
    omega
  · have hm : ge E i ∈ E := by unfold ge; rw [List.getD_eq_getElem?_getD, List.getElem?_eq_getElem hi]; exact List.getElem_mem hi
    have : heavyB (ge E i) = false := by
      cases hh : heavyB (ge E i) with
      | false => rfl
      | true => exact absurd (List.any_eq_true.2 ⟨_, hm, hh⟩) h4
    unfold heavyB wtB at this
    simp at this
    exact this
set_option maxRecDepth 20000 in
set_option maxHeartbeats 2000000 in
theorem adjRow (F : Nat → Prop) (b N : Nat) (E : List Edg) (v : Nat) (back : Bool) (w : World) (h : AdjAt F w b N E) (hE : InN N E) (hv : v < N) (hn : E.length ≤ 1000000) (hN : N ≤ 100000) :
    Calls Tryz.prog 87 #[.pointer (some ⟨b, 0, none⟩), .int .i64 (v : Int), .bool back] w fun e w' => ∃ A, e = .returned (.slice A (cntN (nN E back) v E.length) (cntN (nN E back) v E.length)) ∧ (Rd w A 1 (cntN (nN E back) v E.length) (nv (rowN (nN E back) E.length v)) ∧ ∀ p, A = some p → F p.block) ∧ Grows w w' := by
  obtain ⟨A, c, g1, g2, g3, g4, h1, h2, h3, h4, f0, f1, f2, f3, f4, f5⟩ := h
  have H3 := hide h3
  have H4 := hide h4
  have HE := hide hE
  clear h3 h4 hE h2 f5
  cases back with
  | false =>
    have C := hide (fun (W : World) (g : Grows w W) => adjOf g1 g2 N E.length (fN E) v w W H3.out g hv hn hN (fun i hi => (HE.out.f i hi).1))
    unfold rowsVal at C
    go_enter Tryz.func87, Tryz.ntmps87
    go_wp2_with (go_at_call 96; refine (C.out _ GG).mono ?_; rintro e w' ⟨A', rfl, hr, hg⟩; obtain ⟨x, rfl⟩ := hg.later; have HR := hide hr; clear hg hr)
    go_ret
    exact ⟨A', rfl, ⟨HR.out.1, fun p hp => by rw [HR.out.2 p hp]; exact f1⟩, GG⟩
  | true =>
    have C := hide (fun (W : World) (g : Grows w W) => adjOf g3 g4 N E.length (tN E) v w W H4.out g hv hn hN (fun i hi => (HE.out.t i hi).1))
    unfold rowsVal at C
    go_enter Tryz.func87, Tryz.ntmps87
    go_wp2_with (go_at_call 96; refine (C.out _ GG).mono ?_; rintro e w' ⟨A', rfl, hr, hg⟩; obtain ⟨x, rfl⟩ := hg.later; have HR := hide hr; clear hg hr)
    go_ret
    exact ⟨A', rfl, ⟨HR.out.1, fun p hp => by rw [HR.out.2 p hp]; exact f3⟩, GG⟩
section
variable {P : Program} {w0 : World}
theorem gLex_endT2 {ops : Array Oper} {Q : Exit → Act → World → Prop} {tail : List Oper} {a : Act} {t1 t2 : Tmp} {p1 p2 : Pr} (hne : t1 ≠ t2) (h1 : t1 < a.tmps.size) (h2 : t2 < a.tmps.size)
    (h : ∀ (x : Later w0) v1 v2, p1 v1 x.now → p2 v2 x.now → wpList P ops Q tail ((a.put (some t2) v2).put (some t1) v1) x.now) :
    gLex P ops w0 (fun a G => ∀ w', Grows w0 w' → ∀ a', Conc G a a' w' → wpList P ops Q tail a' w') [] a ((Env.no.upd t1 p1).upd t2 p2) :=
  fun w' hw a' hc => by
    obtain ⟨v2, hv2⟩ := conc_upd hc h2
    rcases hv2 with ⟨hp2, hc2⟩ | hne2
    · obtain ⟨v1, hv1⟩ := conc_upd hc2 (by simpa [Act.put] using h1)
      rcases hv1 with ⟨hp1, hc1⟩ | hne1
      · rw [conc_no hc1]
        exact h ⟨w', hw⟩ v1 v2 hp1 hp2
      · exact absurd rfl hne1
    · exact absurd (by simp [Env.upd, Env.no, Ne.symm hne]) hne2
end
def LaidP (lo N n : Nat) (f : Nat → Nat) : Pr := fun u w => ∃ g1 g2, u = .agg #[.slice (some ⟨g1, 0, none⟩) n n, .slice (some ⟨g2, 0, none⟩) (N + 1) (N + 1)] ∧ LaidIn w g1 g2 N n f ∧ lo ≤ g1 ∧ lo ≤ g2
theorem LaidP.lasts (lo N n : Nat) (f : Nat → Nat) : Lasts (LaidP lo N n f) := fun _ _ _ hg ⟨g1, g2, e, h, l1, l2⟩ => ⟨g1, g2, e, h.grows hg, l1, l2⟩
set_option maxRecDepth 20000 in
set_option maxHeartbeats 2000000 in
theorem adjNew (N : Nat) (A : Option Addr) (n c : Nat) (E : List Edg) (w : World) (h : Rd w A 3 n (esCells E)) (hn : n ≤ 1000000) (hr : rightF N E = 0) :
    Calls Tryz.prog 50 #[.agg #[.int .i64 (N : Int), .slice A n c]] w fun e w' => ∃ b, e = .returned (.tuple #[.pointer (some ⟨b, 0, none⟩), .int .i64 0]) ∧ AdjAt (New w w') w' b N E ∧ Grows w w' := by
  obtain ⟨r1, r2, r3, r4, r5⟩ := right_in hr
  rw [Int.toNat_natCast] at r4
  have hl := h.elen
  subst hl
  have C1 := hide (fun (W : World) (g : Grows w W) => gRight N A _ c E W (h.grows g) hn)
  rw [hr] at C1
  have C2 := hide (fun (W : World) (g : Grows w W) => gClone N A _ c E W (h.grows g) hn)
  have C3 := hide (fun (W : World) (A1 : Option Addr) (c1 : Nat) (h1 : Rd W A1 3 E.length (esCells E)) => adjLaid N A1 _ c1 E 66 (fun e => e.f.toNat) W h1 hn (by omega) (fun _ _ => by rfl) (fun i hi W => by
    have := adjFrom (ge E i) W; rw [(r4.f i hi).2] at this; exact this) (fun i hi => (r4.f i hi).1))
  have C4 := hide (fun (W : World) (A1 : Option Addr) (c1 : Nat) (h1 : Rd W A1 3 E.length (esCells E)) => adjLaid N A1 _ c1 E 67 (fun e => e.t.toNat) W h1 hn (by omega) (fun _ _ => by rfl) (fun i hi W => by
    have := adjTo (ge E i) W; rw [(r4.t i hi).2] at this; exact this) (fun i hi => (r4.t i hi).1))
  clear h hr r4 r5
  go_enter Tryz.func50, Tryz.ntmps50
  go_wp2_with fail
  refine (C1.out _ GG).mono ?_; rintro e w' ⟨rfl, hg⟩; obtain ⟨x1, rfl⟩ := hg.later; clear hg
  have hsz : w.heap.size < x1.now.heap.size := by have := x1.size; simp at this; omega
  go_wp2_with fail
  refine (C2.out _ GG).mono ?_; rintro e w' ⟨A1, c1, rfl, ho, hg⟩; obtain ⟨x2, rfl⟩ := hg.later
  have ho2 := ((ho.low (q := ⟨w.heap.size, 0, none⟩) hsz (.int .i64 (N : Int))).low (q := ⟨w.heap.size, 1, none⟩) hsz (.slice A1 E.length c1))
  have HO : Hid (Rd ((x2.now.setCell ⟨w.heap.size, 0, none⟩ (.int .i64 (N : Int))).setCell ⟨w.heap.size, 1, none⟩ (.slice A1 E.length c1)) A1 3 E.length (esCells E) ∧ ∀ p, A1 = some p → w.heap.size ≤ p.block ∧ p.block < ((x2.now.setCell ⟨w.heap.size, 0, none⟩ (.int .i64 (N : Int))).setCell ⟨w.heap.size, 1, none⟩ (.slice A1 E.length c1)).heap.size) := by
    refine ⟨ho2.rd, fun p hp => ?_⟩
    subst hp
    have := World.ownsRow.lt ho2 p.block rfl
    exact ⟨by omega, this.2⟩
  clear ho2
  clear hg ho
  go_upto_region 4 with fail
  have hgW : Grows w ((x2.now.setCell ⟨w.heap.size, 0, none⟩ (.int .i64 (N : Int))).setCell ⟨w.heap.size, 1, none⟩ (.slice A1 E.length c1)) := GG
  have m0 : Mine ((x2.now.setCell ⟨w.heap.size, 0, none⟩ (.int .i64 (N : Int))).setCell ⟨w.heap.size, 1, none⟩ (.slice A1 E.length c1)) ⟨w.heap.size, 0, none⟩ (.int .i64 (N : Int)) := ⟨by simp [go_sem], by simp [go_sem]⟩
  have m1 : Mine ((x2.now.setCell ⟨w.heap.size, 0, none⟩ (.int .i64 (N : Int))).setCell ⟨w.heap.size, 1, none⟩ (.slice A1 E.length c1)) ⟨w.heap.size, 1, none⟩ (.slice A1 E.length c1) := ⟨by simp [go_sem], by simp [go_sem]⟩
  generalize (x2.now.setCell ⟨w.heap.size, 0, none⟩ (.int .i64 (N : Int))).setCell ⟨w.heap.size, 1, none⟩ (.slice A1 E.length c1) = W0 at *
  (refine wp_region_tail1 11 (by kernel_rfl) (by kernel_rfl) ?_; simp only [List.take_succ_cons, List.take_zero, List.drop_succ_cons, List.drop_zero]; (repeat' ((first | refine gLex_val0 rfl (by kernel_rfl) (fun K hK => ?_) | refine gLex_undef rfl rfl rfl (by kernel_rfl) (fun K hK => ?_) | (refine gLex_ask rfl rfl rfl ?_; first | (apply gAsk_yes; kernel_rfl; intro K hK) | ((first | apply gAsk_no1 | apply gAsk_no2); kernel_rfl; intro K hK))) <;> (go_simp; (try (simp only [↓IntWalk.iteOmega]; try go_simp)); (try simp (disch := omega) only [IntWalk.i64_in]); (try simp (disch := omega) only [IntWalk.u64_in]); refine hK _ ?_; clear hK K))))
  refine gLex_prop rfl (by kernel_rfl) rfl (by simp) (LaidP w.heap.size N E.length (fN E)) (LaidP.lasts _ _ _ _) (fun x => by
    go_simp
    refine (C3.out _ A1 c1 (HO.out.1.grows GG)).mono ?_
    rintro e w' ⟨g1, g2, X, B, rfl, q1, q2, q3, q4, l1, l2, hg⟩
    have hlx := (show Grows w x.now from GG).size
    exact ⟨_, rfl, hg, g1, g2, rfl, ⟨X, B, q1, q2, q3, q4⟩, by omega, by omega⟩) ?_
  (repeat' ((first | refine gLex_val0 rfl (by kernel_rfl) (fun K hK => ?_) | refine gLex_undef rfl rfl rfl (by kernel_rfl) (fun K hK => ?_) | (refine gLex_ask rfl rfl rfl ?_; first | (apply gAsk_yes; kernel_rfl; intro K hK) | ((first | apply gAsk_no1 | apply gAsk_no2); kernel_rfl; intro K hK))) <;> (go_simp; (try (simp only [↓IntWalk.iteOmega]; try go_simp)); (try simp (disch := omega) only [IntWalk.i64_in]); (try simp (disch := omega) only [IntWalk.u64_in]); refine hK _ ?_; clear hK K)))
  refine gLex_prop rfl (by kernel_rfl) rfl (by simp) (LaidP w.heap.size N E.length (tN E)) (LaidP.lasts _ _ _ _) (fun x => by
    go_simp
    refine (C4.out _ A1 c1 (HO.out.1.grows GG)).mono ?_
    rintro e w' ⟨g1, g2, X, B, rfl, q1, q2, q3, q4, l1, l2, hg⟩
    have hlx := (show Grows w x.now from GG).size
    exact ⟨_, rfl, hg, g1, g2, rfl, ⟨X, B, q1, q2, q3, q4⟩, by omega, by omega⟩) ?_
  refine gLex_endT2 (by decide) (by simp) (by simp) (fun x v1 v2 hv1 hv2 => ?_)
  obtain ⟨g1, g2, rfl, hL1, l1, l2⟩ := hv1
  obtain ⟨g3, g4, rfl, hL2, l3, l4⟩ := hv2
  have HL1 := hide hL1
  have HL2 := hide hL2
  clear hL1 hL2
  simp only [Act.put, List.setIfInBounds_toArray, List.set_cons_zero, List.set_cons_succ]
  go_wp2_with fail
  go_ret2
  have hg2 : Grows W0 x.now := GG
  have hnew : Grows x.now (x.now.alloc (.cells #[.int .i64 (N : Int), .slice A1 E.length c1, .slice (some ⟨g1, 0, none⟩) E.length E.length, .slice (some ⟨g2, 0, none⟩) (N + 1) (N + 1), .slice (some ⟨g3, 0, none⟩) E.length E.length, .slice (some ⟨g4, 0, none⟩) (N + 1) (N + 1)] 117)) := (Grows.refl _).new _
  have hgw := hgW.trans hg2
  have hsz2 := hgw.size
  obtain ⟨X1, B1, z1, z2, _⟩ := HL1.out
  obtain ⟨X2, B2, z3, z4, _⟩ := HL2.out
  have y1 := z1.lt
  have y2 := z2.lt
  have y3 := z3.lt
  have y4 := z4.lt
  have hnn : (x.now.alloc (.cells #[.int .i64 (N : Int), .slice A1 E.length c1, .slice (some ⟨g1, 0, none⟩) E.length E.length, .slice (some ⟨g2, 0, none⟩) (N + 1) (N + 1), .slice (some ⟨g3, 0, none⟩) E.length E.length, .slice (some ⟨g4, 0, none⟩) (N + 1) (N + 1)] 117)).heap.size = x.now.heap.size + 1 := by simp
  refine ⟨x.now.heap.size, rfl, ⟨A1, c1, g1, g2, g3, g4, Arr.make _ _ _, (HO.out.1.grows hg2).grows hnew, HL1.out.grows hnew, HL2.out.grows hnew, ⟨hsz2, by rw [hnn]; omega⟩, ⟨l1, by rw [hnn]; omega⟩, ⟨l2, by rw [hnn]; omega⟩, ⟨l3, by rw [hnn]; omega⟩, ⟨l4, by rw [hnn]; omega⟩, fun p hp => ?_⟩, hgw.trans hnew⟩
  have := HO.out.2 p hp
  have h3 := hg2.size
  exact ⟨this.1, by rw [hnn]; omega⟩
end Go.Proofs.YtkfobolbilhjbaaGreat

namespace Go.Proofs.YtkfobolbilhjbaaGreat
open Go Go.RowKit
def GiveU (w : World) (L : List Nat) (e : Ending) (w' : World) : Prop := ∃ A c, e = .returned (.slice A L.length c) ∧ Own w' w.heap.size 26 1 A L.length c (wv L) ∧ Grows w w'
theorem GiveU.nil (w : World) {w' : World} (h : Grows w w') : GiveU w [] (.returned (.slice none 0 0)) w' := ⟨none, 0, rfl, Own.nil _ _ _ _, h⟩
set_option maxRecDepth 20000 in
set_option maxHeartbeats 2000000 in
theorem cloneU (A : Option Addr) (n c : Nat) (E : List Nat) (w : World) (h : Rd w A 1 n (wv E)) (hn : n ≤ 1000000) :
    Calls Tryz.prog 71 #[.slice A n c] w fun e w' => ∃ A' c', e = .returned (.slice A' n c') ∧ Own w' w.heap.size 26 1 A' n c' (wv E) ∧ Grows w w' := by
  cases A with
  | none =>
    have hn0 : n = 0 := by
      rcases Nat.eq_zero_or_pos n with h0 | h0
      · exact h0
      · obtain ⟨_, _, e, _⟩ := h.2 h0 (by omega); cases e
    subst hn0
    have hE : E = [] := List.eq_nil_of_length_eq_zero h.wlen
    subst hE
    clear h
    have hnil := fun (w : World) (a : Option Addr) (n c n' c' : Nat) => Lib.run_eql_slice_nil (P := Tryz.prog) w 29 26 a n c n' c' Tryz.underlying29
    go_enter Tryz.func71, Tryz.ntmps71
    go_wp2
    go_ret
    exact ⟨none, 0, rfl, Own.nil _ _ _ _, GG⟩
  | some ad =>
    have HR := hide h
    clear h
    have hnil := fun (w : World) (a : Option Addr) (n c n' c' : Nat) => Lib.run_eql_slice_nil (P := Tryz.prog) w 29 26 a n c n' c' Tryz.underlying29
    go_enter Tryz.func71, Tryz.ntmps71
    go_wp2_with (at_builtin; refine wp_appAll elemU64.elem rfl _ _ rfl w GG 0 0 _ [] rfl (Own.empty _ _ _ _ (Nat.le_refl _)) ad n c _ rfl (HR.out.grows GG) (wv_one E) (by omega) ?_; intro A3 c3 y3 hown3; have HO3 := hide hown3; clear hown3)
    go_ret
    exact ⟨A3, c3, by first | rfl | (simp; done) | (rw [Nat.zero_add]; rfl), by have := HO3.out; rwa [Nat.zero_add, List.nil_append] at this, GG⟩
def eW (E : List Edg) : List Nat := E.map fun e => e.w.toNat
theorem eW_take (E : List Edg) (k : Nat) (hk : k < E.length) : (eW E).take (k + 1) = (eW E).take k ++ [(ge E k).w.toNat] := by
  have : k < (eW E).length := by simpa [eW] using hk
  rw [List.take_succ_eq_append_getElem this]
  simp [eW, ge, hk]
def wtF (N : Int) (E : List Edg) (W : List Nat) : List Nat := if rightF N E ≠ 0 then [] else if 0 < W.length ∧ W.length ≠ E.length then [] else if 0 < W.length then W else eW E
set_option maxRecDepth 20000 in
set_option maxHeartbeats 4000000 in
theorem djWeights (N : Int) (A : Option Addr) (n c : Nat) (E : List Edg) (back : Bool) (nn ne : Value) (Aw : Option Addr) (nw cw most : Nat) (W : List Nat) (w : World) (h : Rd w A 3 n (esCells E)) (hW : Rd w Aw 1 nw (wv W)) (hn : n ≤ 1000000) (hnw : nw ≤ 1000000) :
    Calls Tryz.prog 52 #[.agg #[.int .i64 N, .slice A n c], oVal back nn ne Aw nw cw most] w (GiveU w (wtF N E W)) := by
  unfold oVal
  have HL := hide h.elen
  have HLW := hide hW.wlen
  have HR := hide h
  have C1 := hide (fun (W : World) (g : Grows w W) => gRight N A n c E W (h.grows g) hn)
  have C2 := hide (fun (W1 : World) (g : Grows w W1) => cloneU Aw nw cw W W1 (hW.grows g) hnw)
  clear h hW
  by_cases hr : rightF N E = 0
  · rw [hr] at C1
    by_cases hl : 0 < nw ∧ nw ≠ n
    · have HD := hide (show wtF N E W = [] from by unfold wtF; rw [if_neg (show ¬ rightF N E ≠ 0 by omega), HLW.out, HL.out, if_pos hl])
      obtain ⟨hl1, hl2⟩ := hl
      have hl3 : ((nw : Int) == (n : Int)) = false := beq_eq_false_iff_ne.2 (by omega)
      clear hr hl2
      rw [HD.out]
      go_enter Tryz.func52, Tryz.ntmps52
      go_wp2_with (go_at_call 20; refine (C1.out _ GG).mono ?_; rintro e w' ⟨rfl, hg⟩; obtain ⟨x1, rfl⟩ := hg.later; clear hg)
      go_ret
      exact GiveU.nil w GG
    · by_cases hz : nw = 0
      · have HD := hide (show wtF N E W = eW E from by unfold wtF; rw [if_neg (show ¬ rightF N E ≠ 0 by omega), HLW.out, HL.out, if_neg hl, if_neg (by omega)])
        obtain ⟨r1, r2, r3, r4, r5⟩ := right_in hr
        have HP := hide (show ∀ k, k < n → (ge E k).w = ((ge E k).w.toNat : Int) from fun k hk => by have := (r5 k (by rw [HL.out]; exact hk)).1; omega)
        subst hz
        clear hl hr r4 r5
        rw [HD.out]
        go_enter Tryz.func52, Tryz.ntmps52
        go_wp2_with (go_at_call 20; refine (C1.out _ GG).mono ?_; rintro e w' ⟨rfl, hg⟩; obtain ⟨x1, rfl⟩ := hg.later; clear hg)
        go_loopw [35, 4] (fun i u wr => ∃ k : Nat, k ≤ n ∧ i = .int .i64 (k : Int) ∧ ∃ y : Later x1.now, wr = y.now ∧ ∃ A' c', u = .slice A' k c' ∧ Own y.now x1.now.heap.size 26 1 A' k c' (wv ((eW E).take k))) (fun i _ _ => n - (Go.RowKit.intOf i).toNat)
        case atStart => exact ⟨0, by omega, by go_num, ⟨_, Grows.refl _⟩, rfl, none, 0, by go_num, Own.nil _ _ _ _⟩
        case round =>
          obtain ⟨k, hk, rfl, y, rfl, A', c', rfl, hown⟩ := hrel
          have HO := hide hown
          clear hown
          by_cases hend : n ≤ k
          · obtain rfl : k = n := by omega
            go_wp2
            go_ret
            have hl : (eW E).length = k := by simp [eW, HL.out]
            have ho := HO.out
            rw [List.take_of_length_le (by omega)] at ho
            exact ⟨A', c', by rw [hl]; rfl, by rw [hl]; exact ho.base (by have := x1.size; simp at this; omega), GG⟩
          · obtain ⟨b2, off2, rfl, hc2⟩ := HR.out.edgesH (by omega)
            obtain ⟨c2, c3, c4⟩ := hc2 k (by omega)
            have HT := hide (eW_take E k (by rw [HL.out]; omega))
            rw [HP.out k (by omega)] at c4
            clear hc2
            generalize (ge E k).w.toNat = v at *
            generalize (ge E k).f = f at *
            generalize (ge E k).t = t at *
            go_wp2_with (at_builtin; refine wp_app1 elemU64.elem rfl _ _ rfl _ GG k c' A' _ rfl ((HO.out.new _).new _) _ _ _ rfl inferInstance rfl (by omega) ?_; intro A3 c3 y3 hown3; have HO3 := hide hown3; clear hown3)
            go_roundw
            case measure => simp [Go.RowKit.intOf]; omega
            case rel =>
              refine ⟨k + 1, by omega, by go_num, y3, rfl, A3, c3, rfl, ?_⟩
              rw [HT.out]
              have := HO3.out
              simpa [wv] using this
      · obtain rfl : nw = n := by omega
        have hp : 0 < nw := by omega
        have HD := hide (show wtF N E W = W from by unfold wtF; rw [if_neg (show ¬ rightF N E ≠ 0 by omega), HLW.out, HL.out, if_neg hl, if_pos hp])
        clear hl hz hr
        rw [HD.out]
        go_enter Tryz.func52, Tryz.ntmps52
        go_wp2_with fail
        refine (C1.out _ GG).mono ?_; rintro e w' ⟨rfl, hg⟩; obtain ⟨x1, rfl⟩ := hg.later; clear hg
        go_wp2_with fail
        refine (C2.out _ GG).mono ?_; rintro e w' ⟨A3, c3, rfl, ho, hg⟩; have HO := hide ho; have hg2 := x1.grows.trans hg; have hs2 := hg.size; have hs1 := x1.size; clear hg ho
        go_wp2_with fail
        go_ret
        exact ⟨A3, c3, by rw [HLW.out]; rfl, by rw [HLW.out]; exact HO.out.base (by simp at hs1; omega), Grows.trans GG hg2⟩
  · have hr2 : (rightF N E == 0) = false := beq_eq_false_iff_ne.2 hr
    have HD := hide (show wtF N E W = [] from by unfold wtF; rw [if_pos hr])
    rw [HD.out]
    generalize rightF N E = r at *
    go_enter Tryz.func52, Tryz.ntmps52
    go_wp2_with (go_at_call 20; refine (C1.out _ GG).mono ?_; rintro e w' ⟨rfl, hg⟩; obtain ⟨x1, rfl⟩ := hg.later; clear hg)
    go_ret
    exact GiveU.nil w GG
set_option maxRecDepth 20000 in
set_option maxHeartbeats 4000000 in
theorem r14Weights (N : Int) (A : Option Addr) (n c : Nat) (E : List Edg) (back : Bool) (nn ne : Value) (Aw : Option Addr) (nw cw most : Nat) (W : List Nat) (w : World) (h : Rd w A 3 n (esCells E)) (hW : Rd w Aw 1 nw (wv W)) (hn : n ≤ 1000000) (hnw : nw ≤ 1000000) :
    Calls Tryz.prog 56 #[.agg #[.int .i64 N, .slice A n c], oVal back nn ne Aw nw cw most] w (GiveU w (wtF N E W)) := by
  unfold oVal
  have HL := hide h.elen
  have HLW := hide hW.wlen
  have HR := hide h
  have HRW := hide hW
  have C1 := hide (fun (W : World) (g : Grows w W) => r5Right N A n c E W (h.grows g) hn)
  clear h hW
  by_cases hr : rightF N E = 0
  · rw [hr] at C1
    by_cases hl : 0 < nw ∧ nw ≠ n
    · have HD := hide (show wtF N E W = [] from by unfold wtF; rw [if_neg (show ¬ rightF N E ≠ 0 by omega), HLW.out, HL.out, if_pos hl])
      obtain ⟨hl1, hl2⟩ := hl
      have hl3 : ((nw : Int) != (n : Int)) = true := bne_iff_ne.2 (by omega)
      have hl4 : ((nw : Int) != 0) = true := bne_iff_ne.2 (by omega)
      clear hr hl2
      rw [HD.out]
      go_enter Tryz.func56, Tryz.ntmps56
      go_wp2_with (go_at_call 23; refine (C1.out _ GG).mono ?_; rintro e w' ⟨rfl, hg⟩; obtain ⟨x1, rfl⟩ := hg.later; clear hg)
      go_ret
      exact GiveU.nil w GG
    · have HD := hide (show ∃ L, wtF N E W = L ∧ L.length = n ∧ ∀ k, k < n → if 0 < nw then gn L k = gn W k else (gn L k : Int) = (ge E k).w from by
        obtain ⟨r1, r2, r3, r4, r5⟩ := right_in hr
        unfold wtF
        rw [if_neg (show ¬ rightF N E ≠ 0 by omega), HLW.out, HL.out, if_neg hl]
        by_cases hz : 0 < nw
        · rw [if_pos hz]
          exact ⟨W, rfl, by rw [HLW.out]; omega, fun k _ => by rw [if_pos hz]⟩
        · rw [if_neg hz]
          refine ⟨eW E, rfl, by simp [eW, HL.out], fun k hk => ?_⟩
          rw [if_neg hz]
          have h1 := (r5 k (by rw [HL.out]; exact hk)).1
          have h2 : gn (eW E) k = (ge E k).w.toNat := by
            have h3 : k < E.length := by rw [HL.out]; exact hk
            simp [gn, eW, ge, h3]
          rw [h2]; omega)
      obtain ⟨L, e1, e2, e3⟩ := HD.out
      rw [e1]
      have HLL := hide e2
      have HAT := hide e3
      have hnw2 : nw = 0 ∨ nw = n := by omega
      clear hr e1 e2 e3 HD hl
      rcases hnw2 with rfl | rfl
      · clear HRW
        go_enter Tryz.func56, Tryz.ntmps56
        go_wp2_with (go_at_call 23; refine (C1.out _ GG).mono ?_; rintro e w' ⟨rfl, hg⟩; obtain ⟨x1, rfl⟩ := hg.later; clear hg)
        go_loopw [6, 5] (fun i u wr => ∃ k : Nat, k ≤ n ∧ i = .int .i64 (k : Int) ∧ ∃ y : Later x1.now, wr = y.now ∧ ∃ A' c', u = .slice A' k c' ∧ Own y.now x1.now.heap.size 26 1 A' k c' (wv (L.take k))) (fun i _ _ => n - (Go.RowKit.intOf i).toNat)
        case atStart => exact ⟨0, by omega, by go_num, ⟨_, Grows.refl _⟩, rfl, none, 0, by go_num, Own.nil _ _ _ _⟩
        case round =>
          obtain ⟨k, hk, rfl, y, rfl, A', c', rfl, hown⟩ := hrel
          have HO := hide hown
          clear hown
          by_cases hend : n ≤ k
          · obtain rfl : k = n := by omega
            go_wp2
            go_ret
            have hl := HLL.out
            have ho := HO.out
            rw [List.take_of_length_le (by omega)] at ho
            exact ⟨A', c', by rw [hl]; rfl, by rw [hl]; exact ho.base (by have := x1.size; simp at this; omega), GG⟩
          · have HT : Hid (L.take (k + 1) = L.take k ++ [gn L k]) := by
              have : k < L.length := by rw [HLL.out]; omega
              show _ = _
              rw [List.take_succ_eq_append_getElem this]
              simp [gn, this]
            have hat := HAT.out k (by omega)
            rw [if_neg (by omega)] at hat
            obtain ⟨b2, off2, rfl, hc2⟩ := HR.out.edgesH (by omega)
            obtain ⟨_, _, c4⟩ := hc2 k (by omega)
            rw [← hat] at c4
            clear hc2
            clear hat
            generalize gn L k = v at *
            go_wp2_with (at_builtin; refine wp_app1 elemU64.elem rfl _ _ rfl _ GG k c' A' _ rfl (HO.out.new _) _ _ _ rfl inferInstance rfl (by omega) ?_; intro A3 c3 y3 hown3; have HO3 := hide hown3; clear hown3)
            go_roundw
            case measure => simp [Go.RowKit.intOf]; omega
            case rel =>
              refine ⟨k + 1, by omega, by go_num, y3, rfl, A3, c3, rfl, ?_⟩
              rw [HT.out]
              have := HO3.out
              simpa [wv] using this
      · by_cases hz : nw = 0
        · subst hz
          clear HRW
          go_enter Tryz.func56, Tryz.ntmps56
          go_wp2_with (go_at_call 23; refine (C1.out _ GG).mono ?_; rintro e w' ⟨rfl, hg⟩; obtain ⟨x1, rfl⟩ := hg.later; clear hg)
          go_loopw [6, 5] (fun i u wr => ∃ k : Nat, k ≤ 0 ∧ i = .int .i64 (k : Int) ∧ ∃ y : Later x1.now, wr = y.now ∧ ∃ A' c', u = .slice A' k c' ∧ Own y.now x1.now.heap.size 26 1 A' k c' (wv (L.take k))) (fun i _ _ => 0 - (Go.RowKit.intOf i).toNat)
          case atStart => exact ⟨0, by omega, by go_num, ⟨_, Grows.refl _⟩, rfl, none, 0, by go_num, Own.nil _ _ _ _⟩
          case round =>
            obtain ⟨k, hk, rfl, y, rfl, A', c', rfl, hown⟩ := hrel
            have HO := hide hown
            clear hown
            by_cases hend : 0 ≤ k
            · obtain rfl : k = 0 := by omega
              go_wp2
              go_ret
              have hl := HLL.out
              have ho := HO.out
              rw [List.take_of_length_le (by omega)] at ho
              exact ⟨A', c', by rw [hl]; rfl, by rw [hl]; exact ho.base (by have := x1.size; simp at this; omega), GG⟩
            · exact absurd (Nat.zero_le k) hend
        · have hp : 0 < nw := by omega
          have hl4 : ((nw : Int) == 0) = false := beq_eq_false_iff_ne.2 (by omega)
          clear hz
          go_enter Tryz.func56, Tryz.ntmps56
          go_wp2_with (go_at_call 23; refine (C1.out _ GG).mono ?_; rintro e w' ⟨rfl, hg⟩; obtain ⟨x1, rfl⟩ := hg.later; clear hg)
          go_loopw [6, 5] (fun i u wr => ∃ k : Nat, k ≤ nw ∧ i = .int .i64 (k : Int) ∧ ∃ y : Later x1.now, wr = y.now ∧ ∃ A' c', u = .slice A' k c' ∧ Own y.now x1.now.heap.size 26 1 A' k c' (wv (L.take k))) (fun i _ _ => nw - (Go.RowKit.intOf i).toNat)
          case atStart => exact ⟨0, by omega, by go_num, ⟨_, Grows.refl _⟩, rfl, none, 0, by go_num, Own.nil _ _ _ _⟩
          case round =>
            obtain ⟨k, hk, rfl, y, rfl, A', c', rfl, hown⟩ := hrel
            have HO := hide hown
            clear hown
            by_cases hend : nw ≤ k
            · obtain rfl : k = nw := by omega
              go_wp2
              go_ret
              have hl := HLL.out
              have ho := HO.out
              rw [List.take_of_length_le (by omega)] at ho
              exact ⟨A', c', by rw [hl]; rfl, by rw [hl]; exact ho.base (by have := x1.size; simp at this; omega), GG⟩
            · have HT : Hid (L.take (k + 1) = L.take k ++ [gn L k]) := by
                have : k < L.length := by rw [HLL.out]; omega
                show _ = _
                rw [List.take_succ_eq_append_getElem this]
                simp [gn, this]
              have hat := HAT.out k (by omega)
              rw [if_pos (by omega)] at hat
              obtain ⟨_, b2, off2, rfl, hc2⟩ := HRW.out.wordsH (by omega)
              have c4 := hc2 k (by omega)
              rw [← hat] at c4
              clear hc2
              clear hat
              generalize gn L k = v at *
              go_wp2_with (at_builtin; refine wp_app1 elemU64.elem rfl _ _ rfl _ GG k c' A' _ rfl (HO.out.new _) _ _ _ rfl inferInstance rfl (by omega) ?_; intro A3 c3 y3 hown3; have HO3 := hide hown3; clear hown3)
              go_roundw
              case measure => simp [Go.RowKit.intOf]; omega
              case rel =>
                refine ⟨k + 1, by omega, by go_num, y3, rfl, A3, c3, rfl, ?_⟩
                rw [HT.out]
                have := HO3.out
                simpa [wv] using this
  · have hr2 : (rightF N E == 0) = false := beq_eq_false_iff_ne.2 hr
    have HD := hide (show wtF N E W = [] from by unfold wtF; rw [if_pos hr])
    rw [HD.out]
    generalize rightF N E = r at *
    go_enter Tryz.func56, Tryz.ntmps56
    go_wp2_with (go_at_call 23; refine (C1.out _ GG).mono ?_; rintro e w' ⟨rfl, hg⟩; obtain ⟨x1, rfl⟩ := hg.later; clear hg)
    go_ret
    exact GiveU.nil w GG
theorem same_false {L M : List Nat} {j : Nat} (hl : L.length = M.length) (_ : j < L.length) (h : gn L j ≠ gn M j) : decide (L = M) = false := by
  rw [decide_eq_false_iff_not]
  rintro rfl
  exact h rfl
theorem same_true {L M : List Nat} (hl : L.length = M.length) (h : ∀ j, j < L.length → gn L j = gn M j) : decide (L = M) = true := by
  rw [decide_eq_true_eq]
  refine List.ext_getElem hl fun j h1 h2 => ?_
  have := h j h1
  simpa [gn, h1, h2] using this
set_option maxRecDepth 20000 in
set_option maxHeartbeats 2000000 in
theorem r1Wide (A : Option Addr) (n c : Nat) (L : List Nat) (B : Option Addr) (m d : Nat) (M : List Nat) (w : World) (h : Rd w A 1 n (wv L)) (h' : Rd w B 1 m (wv M)) (hn : n ≤ 1000000) (hm : m ≤ 1000000) :
    Calls Tryz.prog 12 #[.slice A n c, .slice B m d] w fun e w' => e = .returned (.bool (decide (L = M))) ∧ Grows w w' := by
  have HL := hide h.wlen
  have HM := hide h'.wlen
  have HR := hide h
  have HS := hide h'
  clear h h'
  by_cases hl : n = m
  · subst hl
    go_enter Tryz.func12, Tryz.ntmps12
    go_wp2
    go_loopw [5] (fun i wr => ∃ k : Nat, k ≤ n ∧ i = .int .i64 (k : Int) ∧ (∃ x : Later w, wr = x.now) ∧ ∀ j, j < k → gn L j = gn M j) (fun i _ => n - (Go.RowKit.intOf i).toNat)
    case atStart => exact ⟨0, by omega, by go_num, ⟨⟨w, Grows.refl w⟩, rfl⟩, fun j h1 => by omega⟩
    case round =>
      obtain ⟨q, hq, rfl, ⟨x, rfl⟩, hall⟩ := hrel
      have HA := hide hall
      clear hall
      by_cases hend : n ≤ q
      · go_wp2
        go_ret
        refine ⟨ret_bool (same_true (by rw [HL.out, HM.out]) fun j hj => HA.out j (by have := HL.out; omega)).symm, GG⟩
      · obtain ⟨_, b, off, rfl, hc⟩ := HR.out.wordsH (by omega)
        have c1 := hc q (by omega)
        obtain ⟨_, b2, off2, rfl, hd⟩ := HS.out.wordsH (by omega)
        have c2 := hd q (by omega)
        clear hc hd
        by_cases he : gn L q = gn M q
        · have HE := hide he
          have hb : ((gn L q : Int) != (gn M q : Int)) = false := by rw [he]; simp
          clear he
          obtain ⟨u, hu⟩ : ∃ u, gn L q = u := ⟨_, rfl⟩
          obtain ⟨v, hv⟩ : ∃ v, gn M q = v := ⟨_, rfl⟩
          rw [hu] at c1 hb
          rw [hv] at c2 hb
          clear hu hv
          go_upto_region 6 with fail
          ((first | refine wp_region_gen2 (by kernel_rfl) (by kernel_rfl) ?_ | refine wp_region_gen (by kernel_rfl) (by kernel_rfl) ?_); (repeat' ((first | refine gLex_val0 rfl (by kernel_rfl) (fun K hK => ?_) | refine gLex_undef rfl rfl rfl (by kernel_rfl) (fun K hK => ?_) | (refine gLex_ask rfl rfl rfl ?_; first | (apply gAsk_yes; kernel_rfl; intro K hK) | ((first | apply gAsk_no1 | apply gAsk_no2); kernel_rfl; intro K hK) | (apply gAsk_part; kernel_rfl; all_goals (intro h K hK; (try simp only [Bool.not_true] at h); (try simp only [Bool.not_false] at h); (try simp only [decide_eq_true_eq] at h); (try simp only [decide_eq_false_iff_not] at h); try (exfalso; first | contradiction | omega))))) <;> (go_simp; (try (simp only [↓IntWalk.iteOmega]; try go_simp)); (try simp (disch := omega) only [IntWalk.i64_in]); (try simp (disch := omega) only [IntWalk.u64_in]); refine hK _ ?_; clear hK K))); all_goals ((apply gLex_end); intro y))
          go_wp2_with fail
          go_roundw
          case measure => simp [Go.RowKit.intOf]; omega
          case rel =>
            refine ⟨q + 1, by omega, by go_num, ⟨_, rfl⟩, fun j h1 => ?_⟩
            by_cases hj : j = q
            · rw [hj]; exact HE.out
            · exact HA.out j (by omega)
        · have HE := hide (same_false (by rw [HL.out, HM.out]) (by rw [HL.out]; omega) he)
          have hb : ((gn L q : Int) != (gn M q : Int)) = true := bne_iff_ne.2 (by omega)
          clear he
          obtain ⟨u, hu⟩ : ∃ u, gn L q = u := ⟨_, rfl⟩
          obtain ⟨v, hv⟩ : ∃ v, gn M q = v := ⟨_, rfl⟩
          rw [hu] at c1 hb
          rw [hv] at c2 hb
          clear hu hv
          go_upto_region 6 with fail
          ((first | refine wp_region_gen2 (by kernel_rfl) (by kernel_rfl) ?_ | refine wp_region_gen (by kernel_rfl) (by kernel_rfl) ?_); (repeat' ((first | refine gLex_val0 rfl (by kernel_rfl) (fun K hK => ?_) | refine gLex_undef rfl rfl rfl (by kernel_rfl) (fun K hK => ?_) | (refine gLex_ask rfl rfl rfl ?_; first | (apply gAsk_yes; kernel_rfl; intro K hK) | ((first | apply gAsk_no1 | apply gAsk_no2); kernel_rfl; intro K hK) | (apply gAsk_part; kernel_rfl; all_goals (intro h K hK; (try simp only [Bool.not_true] at h); (try simp only [Bool.not_false] at h); (try simp only [decide_eq_true_eq] at h); (try simp only [decide_eq_false_iff_not] at h); try (exfalso; first | contradiction | omega))))) <;> (go_simp; (try (simp only [↓IntWalk.iteOmega]; try go_simp)); (try simp (disch := omega) only [IntWalk.i64_in]); (try simp (disch := omega) only [IntWalk.u64_in]); refine hK _ ?_; clear hK K))); all_goals ((apply gLex_end); intro y))
          go_wp2_with fail
          go_ret
          exact ⟨ret_bool HE.out.symm, GG⟩
  · have HE : Hid (decide (L = M) = false) := by
      show _ = _
      rw [decide_eq_false_iff_not]
      rintro rfl
      exact hl (HL.out.symm.trans HM.out)
    have hb : ((n : Int) != (m : Int)) = true := bne_iff_ne.2 (by omega)
    clear hl
    go_enter Tryz.func12, Tryz.ntmps12
    go_wp2
    go_ret
    exact ⟨ret_bool HE.out.symm, GG⟩
end Go.Proofs.YtkfobolbilhjbaaGreat

namespace Go.Proofs.YtkfobolbilhjbaaGreat
open Go Go.RowKit
def maxPen : Nat := 17592186044416
theorem upV_le (w : Nat) (a b : Int) (m : Nat) : upV w a b m ≤ m := by unfold upV; split <;> omega
end Go.Proofs.YtkfobolbilhjbaaGreat

namespace Go.Proofs.YtkfobolbilhjbaaGreat
open Go Go.ChangeShapes Go.WideShapes Go.ChangeAt Go.RowKit

theorem flat_at {F : Nat → List Value} {size : Nat} (hs : 0 < size) : ∀ n, (∀ i, i < n → (F i).length = size) → ((List.range n).flatMap F).length = n * size ∧ ∀ i j, i < n → j < size → ((List.range n).flatMap F)[i * size + j]? = (F i)[j]?
  | 0, _ => ⟨by simp, fun i j h => by omega⟩
  | n + 1, h => by
    obtain ⟨ih1, ih2⟩ := flat_at hs n fun i hi => h i (by omega)
    have e : (List.range (n + 1)).flatMap F = (List.range n).flatMap F ++ F n := by rw [List.range_succ, List.flatMap_append]; simp
    rw [e]
    refine ⟨by rw [List.length_append, ih1, h n (by omega), Nat.succ_mul], fun i j hi hj => ?_⟩
    by_cases hin : i < n
    · have : i * size + j < n * size := by
        have := Nat.mul_le_mul_right size (show i + 1 ≤ n by omega)
        rw [Nat.succ_mul] at this
        omega
      rw [List.getElem?_append_left (by omega)]
      exact ih2 i j hin hj
    · obtain rfl : i = n := by omega
      rw [List.getElem?_append_right (by omega), ih1, show i * size + j - i * size = j by omega]

theorem add_plain (b off i : Nat) : (⟨b, off, none⟩ : Addr).add i = ⟨b, off + i, none⟩ := by
  unfold Addr.add
  split
  · rename_i h0; rw [h0]; rfl
  · rfl

section
variable {H : Type} {enc : TypeId × Value → H} {P : Program} {w : World} {base b0 : Nat} {held : Bool} {r : Reach} {t : TypeId} {v : Value} {d : DataW H} {p : List MemPlace}

theorem open_elems {e : TypeId} {sz fuel : Nat} {x : DataW H × List MemPlace} {cs : List Value} (ht : P.underlying t = some (.slice e)) (hc : P.cellsOf e = sz) (hsz : 0 < sz) (h : DataW.trod enc P w base (fun _ => true) held fuel t cs = some x) :
    ∃ (A : Option Addr) (n c : Nat) (F : Nat → List Value), cs = [.slice A n c] ∧ n ≤ c ∧ c ≤ maxLen ∧ Rd w A sz n ((List.range n).flatMap F) ∧ ∀ i, i < n → (F i).length = sz ∧ ∃ m y, DataW.trod enc P w base (fun _ => true) held m e (F i) = some y := by
  rcases Deep.open_slice ht h with ⟨rfl, _⟩ | ⟨a, n, c, m, k, D, Pl, rfl, _, hl, hm, hmm, _, hx⟩
  · exact ⟨none, 0, 0, fun _ => [], rfl, Nat.le_refl _, by unfold maxLen; omega, ⟨by simp, fun h => by omega⟩, fun i hi => by omega⟩
  · simp only [if_true] at hmm
    subst hmm
    rw [hc] at hx
    obtain ⟨F, hF⟩ := Deep.choose_lt (α := List Value) (p := fun i cs' => w.cells? base (a.add (i * sz)) sz = some cs' ∧ DataW.trod enc P w base (fun _ => true) held k e cs' = some (D i, Pl i)) hx
    have hlen : ∀ i, i < m → (F i).length = sz := fun i hi => (World.cells?_some (hF i hi).1).2.1
    refine ⟨_, n, m, F, rfl, hl, hm, ?_, fun i hi => ⟨hlen i (by omega), k, _, (hF i (by omega)).2⟩⟩
    obtain ⟨fl1, fl2⟩ := flat_at hsz n fun i hi => hlen i (by omega)
    refine ⟨fl1, fun hn _ => ?_⟩
    obtain ⟨b, off, spot⟩ := a
    have hcell : ∀ i j u, i < n → (F i)[j]? = some u → w.cell? (((⟨b, off, spot⟩ : Addr).add (i * sz)).add j) = some u := fun i j u hi hu => by
      have hj : j < sz := by
        rcases Nat.lt_or_ge j sz with h | h
        · exact h
        · rw [List.getElem?_eq_none (by rw [hlen i (by omega)]; exact h)] at hu; cases hu
      have := (World.cells?_some (hF i (by omega)).1).2.2 j hj
      rw [hu] at this
      exact this
    have hs : spot = none := by
      have h0 : ∃ u, (F 0)[0]? = some u := ⟨_, List.getElem?_eq_getElem (by rw [hlen 0 (by omega)]; exact hsz)⟩
      obtain ⟨u, hu⟩ := h0
      have := spot_none (hcell 0 0 u hn hu)
      simpa [Addr.add] using this
    subst hs
    refine ⟨b, off, rfl, fun q u hu => ?_⟩
    have hq : q < n * sz := by
      rcases Nat.lt_or_ge q (n * sz) with h | h
      · exact h
      · rw [List.getElem?_eq_none (by rw [fl1]; exact h)] at hu; cases hu
    have e : q = q / sz * sz + q % sz := (Nat.div_add_mod' q sz).symm
    have hi : q / sz < n := (Nat.div_lt_iff_lt_mul hsz).2 hq
    have hj : q % sz < sz := Nat.mod_lt _ hsz
    rw [e, fl2 _ _ hi hj] at hu
    have := hcell _ _ u hi hu
    rw [add_plain, add_plain, Nat.add_assoc, ← e] at this
    exact this

def edgOk (e : Edg) : Prop := I64 e.f ∧ I64 e.t ∧ U64 e.w

theorem open_edges {te : TypeId} {f0 f1 f2 : Field} {fuel : Nat} {x : DataW H × List MemPlace} {cs : List Value} (ht : P.underlying t = some (.slice te)) (hs : P.underlying te = some (.struct #[f0, f1, f2]))
    (h0 : P.underlying f0.type = some (.int .i64)) (h1 : P.underlying f1.type = some (.int .i64)) (h2 : P.underlying f2.type = some (.int .u64)) (ho : f0.offset = 0 ∧ f1.offset = 1 ∧ f2.offset = 2)
    (hcs : P.cellsOf f0.type = 1 ∧ P.cellsOf f1.type = 1 ∧ P.cellsOf f2.type = 1) (hc : P.cellsOf te = 3) (h : DataW.trod enc P w base (fun _ => true) held fuel t cs = some x) :
    ∃ (A : Option Addr) (n c : Nat) (E : List Edg), cs = [.slice A n c] ∧ n ≤ c ∧ Rd w A 3 n (esCells E) ∧ ∀ k, k < n → edgOk (ge E k) := by
  obtain ⟨A, n, c, F, rfl, hl, _, hr, hF⟩ := open_elems ht hc (by omega) h
  have hE : ∀ i, i < n → ∃ e : Edg, F i = eCells e ∧ edgOk e := fun i hi => by
    obtain ⟨hlen, m, y, hy⟩ := hF i hi
    obtain ⟨y0, y1, y2, k, _, _, e0, e1, e2⟩ := Deep.trod_struct3 hs hy
    rw [ho.1, hcs.1] at e0
    rw [ho.2.1, hcs.2.1] at e1
    rw [ho.2.2, hcs.2.2] at e2
    obtain ⟨c0, c1, c2, hFi⟩ : ∃ c0 c1 c2, F i = [c0, c1, c2] := by
      match F i, hlen with
      | [c0, c1, c2], _ => exact ⟨c0, c1, c2, rfl⟩
    rw [hFi] at e0 e1 e2 ⊢
    obtain ⟨a, ha, _, wa⟩ := DataW.trod_int h0 e0
    obtain ⟨b, hb, _, wb⟩ := DataW.trod_int h1 e1
    obtain ⟨g, hg, _, wg⟩ := DataW.trod_int h2 e2
    simp at ha hb hg
    subst ha hb hg
    exact ⟨⟨a, b, g⟩, rfl, wf_i64 wa, wf_i64 wb, wf_u64 wg⟩
  obtain ⟨f, hf⟩ := Deep.choose_lt (α := Option Edg) (p := fun i o => ∃ e, o = some e ∧ F i = eCells e ∧ edgOk e) (fun i hi => by obtain ⟨e, h⟩ := hE i hi; exact ⟨some e, e, rfl, h⟩)
  let f' : Nat → Edg := fun i => (f i).getD ⟨0, 0, 0⟩
  have hf' : ∀ i, i < n → F i = eCells (f' i) ∧ edgOk (f' i) := fun i hi => by
    obtain ⟨e, h1, h2⟩ := hf i hi
    simp only [f', h1, Option.getD_some]
    exact h2
  refine ⟨A, n, c, (List.range n).map f', rfl, hl, ?_, fun k hk => ?_⟩
  · have e : esCells ((List.range n).map f') = (List.range n).flatMap F := by
      unfold esCells
      rw [List.flatMap_map, List.flatMap_def, List.flatMap_def]
      exact congrArg List.flatten (List.map_congr_left fun i hi => ((hf' i (List.mem_range.1 hi)).1).symm)
    rw [e]
    exact hr
  · have : ge ((List.range n).map f') k = f' k := by simp [ge, hk]
    rw [this]
    exact (hf' k hk).2

theorem open_graph {f0 f1 g0 g1 g2 : Field} {te : TypeId} (ht : P.underlying t = some (.struct #[f0, f1])) (h0 : P.underlying f0.type = some (.int .i64)) (h1 : P.underlying f1.type = some (.slice te)) (hs : P.underlying te = some (.struct #[g0, g1, g2]))
    (k0 : P.underlying g0.type = some (.int .i64)) (k1 : P.underlying g1.type = some (.int .i64)) (k2 : P.underlying g2.type = some (.int .u64)) (ho : g0.offset = 0 ∧ g1.offset = 1 ∧ g2.offset = 2)
    (hcs : P.cellsOf g0.type = 1 ∧ P.cellsOf g1.type = 1 ∧ P.cellsOf g2.type = 1) (hc : P.cellsOf te = 3) (hone : Deep.oneCellFields P #[f0, f1] = true) (hC : P.cellsOf t = 2)
    (hv : Value.okWide P w r b0 t v) (h : DataW.Trod enc P w base (fun _ => true) held t v d p) :
    ∃ (N : Int) (A : Option Addr) (n c : Nat) (E : List Edg), v = .agg #[.int .i64 N, .slice A n c] ∧ I64 N ∧ n ≤ c ∧ Rd w A 3 n (esCells E) ∧ ∀ k, k < n → edgOk (ge E k) := by
  obtain ⟨c0, c1, y0, y1, m, rfl, rfl, rfl, e0, e1⟩ := Joins.open_agg2 ht hone hC hv h
  obtain ⟨x, hx, _, wx⟩ := DataW.trod_int h0 e0
  simp at hx
  subst hx
  obtain ⟨A, n, c, E, he, hl, hr, hE⟩ := open_edges h1 hs k0 k1 k2 ho hcs hc e1
  simp at he
  subst he
  exact ⟨x, A, n, c, E, rfl, wf_i64 wx, hl, hr, hE⟩

theorem open_numsC {e : TypeId} {k : IntKind} (ht : P.underlying t = some (.slice e)) (he : P.underlying e = some (.int k)) (hc : P.cellsOf e = 1)
    (hv : Value.okWide P w r b0 t v) (h : DataW.Trod enc P w base (fun _ => true) held t v d p) :
    ∃ (A : Option Addr) (n c : Nat) (zs : List Int), v = .slice A n c ∧ n ≤ c ∧ Rd w A 1 n (zs.map (.int k)) ∧ ∀ z ∈ zs, (Lit.int k z).wf = true := by
  obtain ⟨A, n, c, zs, rfl, h1, h2⟩ := open_nums ht he hc hv h
  obtain ⟨fuel, hf⟩ := h
  rcases open_ints ht he hc hf with ⟨hcs, _⟩ | ⟨x, l, c', zs', hcs, _, hl, _⟩
  · simp [Value.cells] at hcs
    obtain ⟨rfl, rfl, rfl⟩ := hcs
    exact ⟨none, 0, 0, zs, rfl, Nat.le_refl _, h1, h2⟩
  · simp [Value.cells] at hcs
    obtain ⟨rfl, rfl, rfl⟩ := hcs
    exact ⟨_, n, c, zs, rfl, hl, h1, h2⟩
end

end Go.Proofs.YtkfobolbilhjbaaGreat

namespace Go.Proofs.YtkfobolbilhjbaaGreat
open Go Go.RowKit
def RiseAt (w : World) (S : Nat → Prop) (b N bx : Nat) (s : HS) (i : Nat) (x : Itm) (k : Nat) (wr : World) : Prop :=
  ∃ s' : HS, HpAt wr S b s' ∧ s'.In N ∧ s'.L.length = s.L.length ∧ k < s.L.length ∧ s'.rise k x = s.rise i x ∧ Touch S w wr ∧ Arr wr bx 164 [.int .i64 (x.1 : Int), .int .u64 (x.2 : Int)]
set_option maxRecDepth 20000 in
set_option maxHeartbeats 4000000 in
theorem hpRise (b N : Nat) (s : HS) (i : Nat) (x : Itm) (S : Nat → Prop) (w : World) (h : HpAt w S b s) (hs : ∀ k, S k → k < w.heap.size) (hin : s.In N) (hi : i < s.L.length) (hx : x.1 < N) (hl : s.L.length ≤ 100000) :
    Calls Tryz.prog 99 #[.pointer (some ⟨b, 0, none⟩), .int .i64 (i : Int), itVal x] w fun e w' => e = .returned (.tuple #[]) ∧ HpAt w' S b (s.rise i x) ∧ Touch S w w' := by
  have hbx : ¬ S w.heap.size := fun e => by have := hs _ e; omega
  have H0 : Hid (RiseAt w S b N w.heap.size s i x i (w.alloc (.cells #[.int .i64 (x.1 : Int), .int .u64 (x.2 : Int)] 164))) :=
    ⟨s, h.grow ((Grows.refl w).new _), hin, rfl, hi, rfl, ((Grows.refl w).new _).touch S, Arr.make _ _ _⟩
  clear h hs hin
  unfold itVal
  go_enter Tryz.func99, Tryz.ntmps99
  go_wp2_with fail
  go_step3
  go_wp2_with fail
  go_step3
  go_wp2_with fail
  go_loopw [1] (fun v wr => ∃ k : Nat, v = .int .i64 (k : Int) ∧ RiseAt w S b N w.heap.size s i x k wr) (fun v _ => (Go.RowKit.intOf v).toNat)
  case atStart => exact ⟨i, rfl, H0.out⟩
  case round =>
    obtain ⟨k, rfl, s', h1, h2, h3, h4, h5, h6, h7⟩ := hrel
    clear H0
    have hk' : k < s'.L.length := by omega
    have HLX := hide (fun (W : World) (hg : Grows wr W) => hpLay b s' k x S W (h1.grow hg) hk' (by rw [h2.1]; exact hx))
    by_cases hk0 : k = 0
    · subst hk0
      have HE : Hid (s'.lay 0 x = s.rise i x) := by rw [← h5, HS.rise, dif_neg (fun e => absurd e.1 (by omega))]; rfl
      have H6 := hide h6
      clear h1 h2 h3 h5 h6
      go_wp2_with (go_at_call 104; refine (HLX.out _ GG).mono ?_; rintro e w' ⟨rfl, hp, ht⟩; have HP := hide hp; have HT := hide ht; clear hp ht)
      rw [Exit.noGoto_normal]
      go_end0
      exact ⟨rfl, HE.out ▸ HP.out, H6.out.trans HT.out⟩
    · obtain ⟨u, rfl⟩ : ∃ u, k = u + 1 := ⟨k - 1, by omega⟩
      obtain ⟨p, hp⟩ : ∃ p, u / 2 = p := ⟨_, rfl⟩
      have hq : (u : Int) / 2 = (p : Int) := by omega
      have hpl : p < s'.L.length := by omega
      have hpu : p ≤ u := by omega
      obtain ⟨A, c, G, r1, r2, r3, r4, r5, r6⟩ := h1
      obtain ⟨g, rfl, m1, m2⟩ := r2.item hpl
      have hT := h2.1
      have H2 := hide h2
      have H6 := hide h6
      have HLU := hide (fun (W : World) (hg : Grows wr W) => hpLay b s' (u + 1) (gi2 s'.L p) S W ((show HpAt wr S b s' from ⟨_, c, G, r1, r2, r3, r4, r5, r6⟩).grow hg) hk' (by rw [hT]; exact h2.2 p hpl))
      have HLE := hide (fun (W : World) => hpLess x (gi2 s'.L p) W)
      have HR : Hid (s'.rise (u + 1) x = if ahead x (gi2 s'.L p) = true then (s'.lay (u + 1) (gi2 s'.L p)).rise p x else s'.lay (u + 1) x) := by
        show _ = _
        rw [HS.rise, Nat.add_sub_cancel, hp]
        by_cases ha : ahead x (gi2 s'.L p) = true
        · rw [dif_pos ⟨by omega, ha⟩, if_pos ha]
        · rw [dif_neg (fun e => ha e.2), if_neg ha]
      have H5 := hide h5
      have HP0 := hide hp
      clear h2 h5 h6 r2 r3 r6 hT hp
      cases ha : ahead x (gi2 s'.L p) with
      | true =>
        rw [ha] at HLE HR
        generalize hgi : gi2 s'.L p = y at *
        have HGI := hide hgi
        clear ha hgi
        unfold itVal at HLU
        obtain ⟨y1, y2⟩ := y
        dsimp only at *
        rw [Int.natCast_add, Int.natCast_one] at HLU
        go_wp2_with fail
        ((first | refine wp_region_gen2 (by kernel_rfl) (by kernel_rfl) ?_ | refine wp_region_gen (by kernel_rfl) (by kernel_rfl) ?_); (repeat' ((first | refine gLex_val0 rfl (by kernel_rfl) (fun K hK => ?_) | refine gLex_undef rfl rfl rfl (by kernel_rfl) (fun K hK => ?_) | (refine gLex_ask rfl rfl rfl ?_; first | (apply gAsk_yes; kernel_rfl; intro K hK) | ((first | apply gAsk_no1 | apply gAsk_no2); kernel_rfl; intro K hK) | (apply gAsk_part; kernel_rfl; all_goals (intro h K hK; (try simp only [Bool.not_true] at h); (try simp only [Bool.not_false] at h); (try simp only [decide_eq_true_eq] at h); (try simp only [decide_eq_false_iff_not] at h); try (exfalso; first | contradiction | omega))))) <;> (go_simp; (try (simp only [↓IntWalk.iteOmega]; try go_simp)); (try simp (disch := omega) only [IntWalk.i64_in]); (try simp (disch := omega) only [IntWalk.u64_in]); first | (refine hK _ ?_; clear hK K) | (apply Exists.intro; refine ⟨fun x => ?_, hK _ ?_⟩; (first | (exact HLE.out _)); clear hK K)))); all_goals ((apply gLex_end); intro z))
        go_wp2_with (go_at_call 104; refine (HLU.out _ GG).mono ?_; rintro e w' ⟨rfl, hp, ht⟩; have HPP := hide hp; have HTT := hide ht; clear hp ht)
        have hgz : Grows wr z.now := GG
        go_roundw
        case rel =>
          refine ⟨p, by go_num, s'.lay (u + 1) (y1, y2), HPP.out, H2.out.lay _ _ (by have := HGI.out; have h := H2.out.2 p hpl; rw [this] at h; exact h), by rw [(HS.lay_len _ _ _).1]; exact h3, by omega, ?_, (H6.out.grows hgz).trans HTT.out, ?_⟩
          · rw [← H5.out, HR.out]; rfl
          · exact (h7.grow hgz).touch HTT.out hbx
        case measure => simp [Go.RowKit.intOf]; omega
      | false =>
        rw [ha] at HLE HR
        clear ha HLU
        generalize gi2 s'.L p = y at *
        unfold itVal at HLE
        obtain ⟨y1, y2⟩ := y
        dsimp only at *
        rw [Int.natCast_add, Int.natCast_one] at HLX
        go_wp2_with fail
        ((first | refine wp_region_gen2 (by kernel_rfl) (by kernel_rfl) ?_ | refine wp_region_gen (by kernel_rfl) (by kernel_rfl) ?_); (repeat' ((first | refine gLex_val0 rfl (by kernel_rfl) (fun K hK => ?_) | refine gLex_undef rfl rfl rfl (by kernel_rfl) (fun K hK => ?_) | (refine gLex_ask rfl rfl rfl ?_; first | (apply gAsk_yes; kernel_rfl; intro K hK) | ((first | apply gAsk_no1 | apply gAsk_no2); kernel_rfl; intro K hK) | (apply gAsk_part; kernel_rfl; all_goals (intro h K hK; (try simp only [Bool.not_true] at h); (try simp only [Bool.not_false] at h); (try simp only [decide_eq_true_eq] at h); (try simp only [decide_eq_false_iff_not] at h); try (exfalso; first | contradiction | omega))))) <;> (go_simp; (try (simp only [↓IntWalk.iteOmega]; try go_simp)); (try simp (disch := omega) only [IntWalk.i64_in]); (try simp (disch := omega) only [IntWalk.u64_in]); first | (refine hK _ ?_; clear hK K) | (apply Exists.intro; refine ⟨fun x => ?_, hK _ ?_⟩; (first | (exact HLE.out _)); clear hK K)))); all_goals ((apply gLex_end); intro z))
        go_wp2_with (go_at_call 104; refine (HLX.out _ GG).mono ?_; rintro e w' ⟨rfl, hp, ht⟩; have HPP := hide hp; have HTT := hide ht; clear hp ht)
        have hgz : Grows wr z.now := GG
        have HE : Hid (s'.lay (u + 1) x = s.rise i x) := by rw [← H5.out, HR.out]; rfl
        rw [Exit.noGoto_normal]
        go_end0
        exact ⟨rfl, HE.out ▸ HPP.out, (H6.out.grows hgz).trans HTT.out⟩
end Go.Proofs.YtkfobolbilhjbaaGreat

