/- Contracts: who goes out, and who comes in. -/
import Derived.OrdersIn
import Derived.TacticsIn
import Derived.RangeFuncNested
import Derived.RangeFuncBound
import Derived.Shelf.Abstract
import Derived.Shelf.RegionOpen
import Derived.OwnWalkIn
import Derived.TacticsInMore
import Derived.LoopNIn
import Derived.LoopIn
import Derived.Test.YtgplpgldhoelcaaGreatQYenWays00
import Derived.Test.YtgplpgldhoelcaaGreatQYenWays02
import Derived.Test.YtgplpgldhoelcaaGreatQYenWays03
import Derived.Test.YtgplpgldhoelcaaGreatQYenWays05
namespace Go.Proofs.YtgplpgldhoelcaaGreat
open Go Go.RowKit
theorem adjFrom (e : Edg) (w : World) : Calls Tryz.prog 184 #[eVal e] w fun x w' => x = .returned (.int .i64 e.f) ∧ Grows w w' := by
  unfold eVal
  go_enter Tryz.func184, Tryz.ntmps184
  go_wp2
  go_ret
  exact ⟨rfl, GG⟩
theorem adjTo (e : Edg) (w : World) : Calls Tryz.prog 185 #[eVal e] w fun x w' => x = .returned (.int .i64 e.t) ∧ Grows w w' := by
  unfold eVal
  go_enter Tryz.func185, Tryz.ntmps185
  go_wp2
  go_ret
  exact ⟨rfl, GG⟩
def LaidIn (w : World) (g1 g2 N n : Nat) (f : Nat → Nat) : Prop :=
  ∃ X B, Row1 w g1 3 1 n n (nv X) ∧ Row1 w g2 3 1 (N + 1) (N + 1) (nv B) ∧ (∀ i, i < n → X[posN f n i]? = some i) ∧ (∀ v, v ≤ N → gn B v = begN f n v)
theorem LaidIn.grows {w w' : World} {g1 g2 N n : Nat} {f : Nat → Nat} (h : LaidIn w g1 g2 N n f) (hg : Grows w w') : LaidIn w' g1 g2 N n f := by
  obtain ⟨X, B, h1, h2, h3⟩ := h
  exact ⟨X, B, h1.grow hg, h2.grow hg, h3⟩
def rowsVal (g1 g2 N n : Nat) : Value := .agg #[.slice (some ⟨g1, 0, none⟩) n n, .slice (some ⟨g2, 0, none⟩) (N + 1) (N + 1)]
set_option maxRecDepth 20000 in
set_option maxHeartbeats 2000000 in
theorem adjOf (g1 g2 N n : Nat) (f : Nat → Nat) (v : Nat) (w0 w : World) (h : LaidIn w0 g1 g2 N n f) (hg0 : Grows w0 w) (hv : v < N) (_ : n ≤ 1000000) (hN : N ≤ 100000) (hf : ∀ i, i < n → f i < N) :
    Calls Tryz.prog 250 #[rowsVal g1 g2 N n, .int .i64 (v : Int)] w fun e w' => ∃ A, e = .returned (.slice A (cntN f v n) (cntN f v n)) ∧ (Rd w0 A 1 (cntN f v n) (nv (rowN f n v)) ∧ ∀ p, A = some p → p.block = g1) ∧ Grows w w' := by
  obtain ⟨X, B, h1, h2, h3, h4⟩ := h
  have m1 := (h2.grow hg0).nat (j := v) (by omega)
  have m2 := (h2.grow hg0).nat (j := v + 1) (by omega)
  rw [h4 v (by omega)] at m1
  rw [h4 (v + 1) (by omega)] at m2
  have b1 := begN_le f n v
  have b2 := begN_le f n (v + 1)
  have b3 := begN_succ f n v
  have H1 := hide h1
  have H3 := hide h3
  have H4 := hide b3
  have b4 : begN f n v ≤ begN f n (v + 1) := by omega
  have HF := hide hf
  clear h1 h2 h3 h4 b3 hf
  generalize hp : begN f n v = p at *
  generalize hq : begN f n (v + 1) = q at *
  have HP := hide hp
  have HQ := hide hq
  clear hp hq
  unfold rowsVal
  rcases Nat.eq_or_lt_of_le b4 with e | e
  · subst e
    go_enter Tryz.func250, Tryz.ntmps250
    go_wp2_with fail
    ((first | refine wp_region_gen2 (by kernel_rfl) (by kernel_rfl) ?_ | refine wp_region_gen (by kernel_rfl) (by kernel_rfl) ?_); (repeat' (first | (refine gLex_val0 rfl (by kernel_rfl) (fun K hK => ?_); (go_simp; (try (simp only [↓IntWalk.iteOmega]; try go_simp)); (try simp (disch := omega) only [IntWalk.i64_in]); (try simp (disch := omega) only [IntWalk.u64_in]); first | (refine hK _ ?_; clear hK K) | (apply Exists.intro; refine ⟨fun x => ?_, hK _ ?_⟩; (first | fail); clear hK K))) | (refine gLex_undef rfl rfl rfl (by kernel_rfl) (fun K hK => ?_); go_simp; refine hK _ ?_; clear hK K) | (refine gLex_ask rfl rfl rfl ?_; first | (apply gAsk_yes; kernel_rfl; intro K hK; (go_simp; (try (simp only [↓IntWalk.iteOmega]; try go_simp)); (try simp (disch := omega) only [IntWalk.i64_in]); (try simp (disch := omega) only [IntWalk.u64_in]); first | (refine hK _ ?_; clear hK K) | (apply Exists.intro; refine ⟨fun x => ?_, hK _ ?_⟩; (first | fail); clear hK K))) | ((first | apply gAsk_no1 | apply gAsk_no2); kernel_rfl; intro K hK; simp [go_sem]; refine hK _ ?_; clear hK K) | (apply gAsk_part; kernel_rfl; all_goals (intro h K hK; (try simp only [Bool.not_true] at h); (try simp only [Bool.not_false] at h); (try simp only [decide_eq_true_eq] at h); (try simp only [decide_eq_false_iff_not] at h); first | (exfalso; first | contradiction | omega) | (go_simp; (try (simp only [↓IntWalk.iteOmega]; try go_simp)); (try simp (disch := omega) only [IntWalk.i64_in]); (try simp (disch := omega) only [IntWalk.u64_in]); first | (refine hK _ ?_; clear hK K) | (apply Exists.intro; refine ⟨fun x => ?_, hK _ ?_⟩; (first | fail); clear hK K))))))); all_goals ((apply gLex_end); intro y))
    go_wp2_with fail
    have hc : cntN f v n = 0 := by have := H4.out; omega
    go_ret
    rw [hc]
    exact ⟨_, rfl, ⟨⟨by rw [nv_len, rowN_len, hc], fun h => absurd h (by omega)⟩, fun p hp => by injection hp with hp; rw [← hp]⟩, GG⟩
  · have hne : ¬ q = p := by omega
    go_enter Tryz.func250, Tryz.ntmps250
    go_wp2_with fail
    ((first | refine wp_region_gen2 (by kernel_rfl) (by kernel_rfl) ?_ | refine wp_region_gen (by kernel_rfl) (by kernel_rfl) ?_); (repeat' (first | (refine gLex_val0 rfl (by kernel_rfl) (fun K hK => ?_); (go_simp; (try (simp only [↓IntWalk.iteOmega]; try go_simp)); (try simp (disch := omega) only [IntWalk.i64_in]); (try simp (disch := omega) only [IntWalk.u64_in]); first | (refine hK _ ?_; clear hK K) | (apply Exists.intro; refine ⟨fun x => ?_, hK _ ?_⟩; (first | fail); clear hK K))) | (refine gLex_undef rfl rfl rfl (by kernel_rfl) (fun K hK => ?_); go_simp; refine hK _ ?_; clear hK K) | (refine gLex_ask rfl rfl rfl ?_; first | (apply gAsk_yes; kernel_rfl; intro K hK; (go_simp; (try (simp only [↓IntWalk.iteOmega]; try go_simp)); (try simp (disch := omega) only [IntWalk.i64_in]); (try simp (disch := omega) only [IntWalk.u64_in]); first | (refine hK _ ?_; clear hK K) | (apply Exists.intro; refine ⟨fun x => ?_, hK _ ?_⟩; (first | fail); clear hK K))) | ((first | apply gAsk_no1 | apply gAsk_no2); kernel_rfl; intro K hK; simp [go_sem]; refine hK _ ?_; clear hK K) | (apply gAsk_part; kernel_rfl; all_goals (intro h K hK; (try simp only [Bool.not_true] at h); (try simp only [Bool.not_false] at h); (try simp only [decide_eq_true_eq] at h); (try simp only [decide_eq_false_iff_not] at h); first | (exfalso; first | contradiction | omega) | (go_simp; (try (simp only [↓IntWalk.iteOmega]; try go_simp)); (try simp (disch := omega) only [IntWalk.i64_in]); (try simp (disch := omega) only [IntWalk.u64_in]); first | (refine hK _ ?_; clear hK K) | (apply Exists.intro; refine ⟨fun x => ?_, hK _ ?_⟩; (first | fail); clear hK K))))))); all_goals ((apply gLex_end); intro y))
    go_wp2_with fail
    have hc : cntN f v n = q - p := by have := H4.out; omega
    have hl1 := H1.out.nlen
    have hrow := laid_row f n v X hl1 H3.out
    rw [HP.out, hc] at hrow
    go_ret
    rw [hc]
    refine ⟨_, rfl, ⟨?_, fun p hp => by injection hp with hp; rw [← hp]⟩, GG⟩
    refine ⟨by rw [nv_len, rowN_len, hc]; omega, fun h1 _ => ⟨g1, p, rfl, fun j u hu => ?_⟩⟩
    have hj : j < q - p := by
      have := (List.getElem?_eq_some_iff.1 hu).1
      rw [nv_len, rowN_len, hc] at this
      exact this
    have hx : (nv X)[p + j]? = some u := by
      rw [← hrow] at hu
      unfold nv at hu ⊢
      rw [List.getElem?_map] at hu ⊢
      rw [List.getElem?_take, if_pos hj, List.getElem?_drop] at hu
      exact hu
    exact (H1.out.mine hx).cell
def fN (E : List Edg) (i : Nat) : Nat := (ge E i).f.toNat
def tN (E : List Edg) (i : Nat) : Nat := (ge E i).t.toNat
def nN (E : List Edg) (back : Bool) : Nat → Nat := if back then tN E else fN E
def AdjAt (F : Nat → Prop) (w : World) (b N : Nat) (E : List Edg) : Prop :=
  ∃ A c g1 g2 g3 g4, Arr w b 238 [.int .i64 (N : Int), .slice A E.length c, .slice (some ⟨g1, 0, none⟩) E.length E.length, .slice (some ⟨g2, 0, none⟩) (N + 1) (N + 1), .slice (some ⟨g3, 0, none⟩) E.length E.length, .slice (some ⟨g4, 0, none⟩) (N + 1) (N + 1)] ∧
    Rd w A 3 E.length (esCells E) ∧ LaidIn w g1 g2 N E.length (fN E) ∧ LaidIn w g3 g4 N E.length (tN E) ∧ (F b ∧ F g1 ∧ F g2 ∧ F g3 ∧ F g4 ∧ ∀ p, A = some p → F p.block)
theorem LaidIn.touch {w w' : World} {g1 g2 N n : Nat} {f : Nat → Nat} {S : Nat → Prop} (h : LaidIn w g1 g2 N n f) (ht : Touch S w w') (h1 : ¬ S g1) (h2 : ¬ S g2) : LaidIn w' g1 g2 N n f := by
  obtain ⟨X, B, q1, q2, q3⟩ := h
  exact ⟨X, B, q1.touch ht h1, q2.touch ht h2, q3⟩
theorem AdjAt.touch {F S : Nat → Prop} {w w' : World} {b N : Nat} {E : List Edg} (h : AdjAt F w b N E) (ht : Touch S w w') (hs : ∀ k, F k → ¬ S k) : AdjAt F w' b N E := by
  obtain ⟨A, c, g1, g2, g3, g4, h1, h2, h3, h4, f0, f1, f2, f3, f4, f5⟩ := h
  exact ⟨A, c, g1, g2, g3, g4, h1.touch ht (hs _ f0), h2.touch ht (fun p hp => hs _ (f5 p hp)), h3.touch ht (hs _ f1) (hs _ f2), h4.touch ht (hs _ f3) (hs _ f4), f0, f1, f2, f3, f4, f5⟩
theorem AdjAt.grows {F : Nat → Prop} {w w' : World} {b N : Nat} {E : List Edg} (h : AdjAt F w b N E) (hg : Grows w w') : AdjAt F w' b N E := h.touch (hg.touch (fun _ => False)) (fun _ _ => id)
theorem AdjAt.mono {F F' : Nat → Prop} {w : World} {b N : Nat} {E : List Edg} (h : AdjAt F w b N E) (hf : ∀ k, F k → F' k) : AdjAt F' w b N E := by
  obtain ⟨A, c, g1, g2, g3, g4, h1, h2, h3, h4, f0, f1, f2, f3, f4, f5⟩ := h
  exact ⟨A, c, g1, g2, g3, g4, h1, h2, h3, h4, hf _ f0, hf _ f1, hf _ f2, hf _ f3, hf _ f4, fun p hp => hf _ (f5 p hp)⟩
def InN (N : Nat) (E : List Edg) : Prop := ∀ i, i < E.length → (0 ≤ (ge E i).f ∧ (ge E i).f < N) ∧ (0 ≤ (ge E i).t ∧ (ge E i).t < N)
theorem InN.f {N : Nat} {E : List Edg} (h : InN N E) (i : Nat) (hi : i < E.length) : fN E i < N ∧ (ge E i).f = (fN E i : Int) := by
  obtain ⟨⟨h1, h2⟩, h3, h4⟩ := h i hi
  unfold fN; omega
theorem InN.t {N : Nat} {E : List Edg} (h : InN N E) (i : Nat) (hi : i < E.length) : tN E i < N ∧ (ge E i).t = (tN E i : Int) := by
  obtain ⟨⟨h1, h2⟩, h3, h4⟩ := h i hi
  unfold tN; omega
theorem right_in {N : Int} {E : List Edg} (h : rightF N E = 0) : 1 ≤ N ∧ N ≤ 4096 ∧ E.length ≤ 16384 ∧ InN N.toNat E ∧ ∀ i, i < E.length → 1 ≤ (ge E i).w ∧ (ge E i).w ≤ 4294967296 := by
  unfold rightF at h
  split at h
  · cases h
  split at h
  · cases h
  split at h
  · cases h
  split at h
  · cases h
  rename_i h1 h2 h3 h4
  refine ⟨by omega, by omega, by omega, fun i hi => ?_, fun i hi => ?_⟩
  · have hm : ge E i ∈ E := by unfold ge; rw [List.getD_eq_getElem?_getD, List.getElem?_eq_getElem hi]; exact List.getElem_mem hi
    have : looseB N (ge E i) = false := by
      cases hh : looseB N (ge E i) with
      | false => rfl
      | true => exact absurd (List.any_eq_true.2 ⟨_, hm, hh⟩) h3
    unfold looseB at this
    simp only [Bool.or_eq_false_iff, Bool.not_eq_false'] at this
    obtain ⟨t1, t2, _⟩ := this
    unfold nodeB at t1 t2
    have t1 := of_decide_eq_true t1
    have t2 := of_decide_eq_true t2
    omega
  · have hm : ge E i ∈ E := by unfold ge; rw [List.getD_eq_getElem?_getD, List.getElem?_eq_getElem hi]; exact List.getElem_mem hi
    have : heavyB (ge E i) = false := by
      cases hh : heavyB (ge E i) with
      | false => rfl
      | true => exact absurd (List.any_eq_true.2 ⟨_, hm, hh⟩) h4
    unfold heavyB wtB at this
    simp at this
    exact this
set_option maxRecDepth 20000 in
set_option maxHeartbeats 2000000 in
theorem adjRow (F : Nat → Prop) (b N : Nat) (E : List Edg) (v : Nat) (back : Bool) (w : World) (h : AdjAt F w b N E) (hE : InN N E) (hv : v < N) (hn : E.length ≤ 1000000) (hN : N ≤ 100000) :
    Calls Tryz.prog 226 #[.pointer (some ⟨b, 0, none⟩), .int .i64 (v : Int), .bool back] w fun e w' => ∃ A, e = .returned (.slice A (cntN (nN E back) v E.length) (cntN (nN E back) v E.length)) ∧ (Rd w A 1 (cntN (nN E back) v E.length) (nv (rowN (nN E back) E.length v)) ∧ ∀ p, A = some p → F p.block) ∧ Grows w w' := by
  obtain ⟨A, c, g1, g2, g3, g4, h1, h2, h3, h4, f0, f1, f2, f3, f4, f5⟩ := h
  have H3 := hide h3
  have H4 := hide h4
  have HE := hide hE
  clear h3 h4 hE h2 f5
  cases back with
  | false =>
    have C := hide (fun (W : World) (g : Grows w W) => adjOf g1 g2 N E.length (fN E) v w W H3.out g hv hn hN (fun i hi => (HE.out.f i hi).1))
    unfold rowsVal at C
    go_enter Tryz.func226, Tryz.ntmps226
    go_wp2_with (go_at_call 250; refine (C.out _ GG).mono ?_; rintro e w' ⟨A', rfl, hr, hg⟩; obtain ⟨x, rfl⟩ := hg.later; have HR := hide hr; clear hg hr)
    go_ret
    exact ⟨A', rfl, ⟨HR.out.1, fun p hp => by rw [HR.out.2 p hp]; exact f1⟩, GG⟩
  | true =>
    have C := hide (fun (W : World) (g : Grows w W) => adjOf g3 g4 N E.length (tN E) v w W H4.out g hv hn hN (fun i hi => (HE.out.t i hi).1))
    unfold rowsVal at C
    go_enter Tryz.func226, Tryz.ntmps226
    go_wp2_with (go_at_call 250; refine (C.out _ GG).mono ?_; rintro e w' ⟨A', rfl, hr, hg⟩; obtain ⟨x, rfl⟩ := hg.later; have HR := hide hr; clear hg hr)
    go_ret
    exact ⟨A', rfl, ⟨HR.out.1, fun p hp => by rw [HR.out.2 p hp]; exact f3⟩, GG⟩
section
variable {P : Program} {w0 : World}
theorem gLex_endT2 {ops : Array Oper} {Q : Exit → Act → World → Prop} {tail : List Oper} {a : Act} {t1 t2 : Tmp} {p1 p2 : Pr} (hne : t1 ≠ t2) (h1 : t1 < a.tmps.size) (h2 : t2 < a.tmps.size)
    (h : ∀ (x : Later w0) v1 v2, p1 v1 x.now → p2 v2 x.now → wpList P ops Q tail ((a.put (some t2) v2).put (some t1) v1) x.now) :
    gLex P ops w0 (fun a G => ∀ w', Grows w0 w' → ∀ a', Conc G a a' w' → wpList P ops Q tail a' w') [] a ((Env.no.upd t1 p1).upd t2 p2) :=
  fun w' hw a' hc => by
    obtain ⟨v2, hv2⟩ := conc_upd hc h2
    rcases hv2 with ⟨hp2, hc2⟩ | hne2
    · obtain ⟨v1, hv1⟩ := conc_upd hc2 (by simpa [Act.put] using h1)
      rcases hv1 with ⟨hp1, hc1⟩ | hne1
      · rw [conc_no hc1]
        exact h ⟨w', hw⟩ v1 v2 hp1 hp2
      · exact absurd rfl hne1
    · exact absurd (by simp [Env.upd, Env.no, Ne.symm hne]) hne2
end
def LaidP (lo N n : Nat) (f : Nat → Nat) : Pr := fun u w => ∃ g1 g2, u = .agg #[.slice (some ⟨g1, 0, none⟩) n n, .slice (some ⟨g2, 0, none⟩) (N + 1) (N + 1)] ∧ LaidIn w g1 g2 N n f ∧ lo ≤ g1 ∧ lo ≤ g2
theorem LaidP.lasts (lo N n : Nat) (f : Nat → Nat) : Lasts (LaidP lo N n f) := fun _ _ _ hg ⟨g1, g2, e, h, l1, l2⟩ => ⟨g1, g2, e, h.grows hg, l1, l2⟩
set_option maxRecDepth 20000 in
set_option maxHeartbeats 2000000 in
theorem adjNew (N : Nat) (A : Option Addr) (n c : Nat) (E : List Edg) (w : World) (h : Rd w A 3 n (esCells E)) (hn : n ≤ 1000000) (hr : rightF N E = 0) :
    Calls Tryz.prog 138 #[.agg #[.int .i64 (N : Int), .slice A n c]] w fun e w' => ∃ b, e = .returned (.tuple #[.pointer (some ⟨b, 0, none⟩), .int .i64 0]) ∧ AdjAt (New w w') w' b N E ∧ Grows w w' := by
  obtain ⟨r1, r2, r3, r4, r5⟩ := right_in hr
  rw [Int.toNat_natCast] at r4
  have hl := h.elen
  subst hl
  have C1 := hide (fun (W : World) (g : Grows w W) => gRight N A _ c E W (h.grows g) hn)
  rw [hr] at C1
  have C2 := hide (fun (W : World) (g : Grows w W) => gClone N A _ c E W (h.grows g) hn)
  have C3 := hide (fun (W : World) (A1 : Option Addr) (c1 : Nat) (h1 : Rd W A1 3 E.length (esCells E)) => adjLaid N A1 _ c1 E 184 (fun e => e.f.toNat) W h1 hn (by omega) (fun _ _ => by rfl) (fun i hi W => by
    have := adjFrom (ge E i) W; rw [(r4.f i hi).2] at this; exact this) (fun i hi => (r4.f i hi).1))
  have C4 := hide (fun (W : World) (A1 : Option Addr) (c1 : Nat) (h1 : Rd W A1 3 E.length (esCells E)) => adjLaid N A1 _ c1 E 185 (fun e => e.t.toNat) W h1 hn (by omega) (fun _ _ => by rfl) (fun i hi W => by
    have := adjTo (ge E i) W; rw [(r4.t i hi).2] at this; exact this) (fun i hi => (r4.t i hi).1))
  clear h hr r4 r5
  go_enter Tryz.func138, Tryz.ntmps138
  go_wp2_with fail
  refine (C1.out _ GG).mono ?_; rintro e w' ⟨rfl, hg⟩; obtain ⟨x1, rfl⟩ := hg.later; clear hg
  have hsz : w.heap.size < x1.now.heap.size := by have := x1.size; simp at this; omega
  go_wp2_with fail
  refine (C2.out _ GG).mono ?_; rintro e w' ⟨A1, c1, rfl, ho, hg⟩; obtain ⟨x2, rfl⟩ := hg.later
  have ho2 := ((ho.low (q := ⟨w.heap.size, 0, none⟩) hsz (.int .i64 (N : Int))).low (q := ⟨w.heap.size, 1, none⟩) hsz (.slice A1 E.length c1))
  have HO : Hid (Rd ((x2.now.setCell ⟨w.heap.size, 0, none⟩ (.int .i64 (N : Int))).setCell ⟨w.heap.size, 1, none⟩ (.slice A1 E.length c1)) A1 3 E.length (esCells E) ∧ ∀ p, A1 = some p → w.heap.size ≤ p.block ∧ p.block < ((x2.now.setCell ⟨w.heap.size, 0, none⟩ (.int .i64 (N : Int))).setCell ⟨w.heap.size, 1, none⟩ (.slice A1 E.length c1)).heap.size) := by
    refine ⟨ho2.rd, fun p hp => ?_⟩
    subst hp
    have := World.ownsRow.lt ho2 p.block rfl
    exact ⟨by omega, this.2⟩
  clear ho2
  clear hg ho
  go_upto_region 4 with fail
  have hgW : Grows w ((x2.now.setCell ⟨w.heap.size, 0, none⟩ (.int .i64 (N : Int))).setCell ⟨w.heap.size, 1, none⟩ (.slice A1 E.length c1)) := GG
  have m0 : Mine ((x2.now.setCell ⟨w.heap.size, 0, none⟩ (.int .i64 (N : Int))).setCell ⟨w.heap.size, 1, none⟩ (.slice A1 E.length c1)) ⟨w.heap.size, 0, none⟩ (.int .i64 (N : Int)) := ⟨by simp [go_sem], by simp [go_sem]⟩
  have m1 : Mine ((x2.now.setCell ⟨w.heap.size, 0, none⟩ (.int .i64 (N : Int))).setCell ⟨w.heap.size, 1, none⟩ (.slice A1 E.length c1)) ⟨w.heap.size, 1, none⟩ (.slice A1 E.length c1) := ⟨by simp [go_sem], by simp [go_sem]⟩
  generalize (x2.now.setCell ⟨w.heap.size, 0, none⟩ (.int .i64 (N : Int))).setCell ⟨w.heap.size, 1, none⟩ (.slice A1 E.length c1) = W0 at *
  (refine wp_region_tail1 11 (by kernel_rfl) (by kernel_rfl) ?_; simp only [List.take_succ_cons, List.take_zero, List.drop_succ_cons, List.drop_zero]; (repeat' (first | (refine gLex_val0 rfl (by kernel_rfl) (fun K hK => ?_); (go_simp; (try (simp only [↓IntWalk.iteOmega]; try go_simp)); (try simp (disch := omega) only [IntWalk.i64_in]); (try simp (disch := omega) only [IntWalk.u64_in]); first | (refine hK _ ?_; clear hK K) | (apply Exists.intro; refine ⟨fun x => ?_, hK _ ?_⟩; (first | fail); clear hK K))) | (refine gLex_undef rfl rfl rfl (by kernel_rfl) (fun K hK => ?_); go_simp; refine hK _ ?_; clear hK K) | (refine gLex_ask rfl rfl rfl ?_; first | (apply gAsk_yes; kernel_rfl; intro K hK; (go_simp; (try (simp only [↓IntWalk.iteOmega]; try go_simp)); (try simp (disch := omega) only [IntWalk.i64_in]); (try simp (disch := omega) only [IntWalk.u64_in]); first | (refine hK _ ?_; clear hK K) | (apply Exists.intro; refine ⟨fun x => ?_, hK _ ?_⟩; (first | fail); clear hK K))) | ((first | apply gAsk_no1 | apply gAsk_no2); kernel_rfl; intro K hK; simp [go_sem]; refine hK _ ?_; clear hK K)))))
  refine gLex_prop rfl (by kernel_rfl) rfl (by simp) (LaidP w.heap.size N E.length (fN E)) (LaidP.lasts _ _ _ _) (fun x => by
    go_simp
    refine (C3.out _ A1 c1 (HO.out.1.grows GG)).mono ?_
    rintro e w' ⟨g1, g2, X, B, rfl, q1, q2, q3, q4, l1, l2, hg⟩
    have hlx := (show Grows w x.now from GG).size
    exact ⟨_, rfl, hg, g1, g2, rfl, ⟨X, B, q1, q2, q3, q4⟩, by omega, by omega⟩) ?_
  (repeat' (first | (refine gLex_val0 rfl (by kernel_rfl) (fun K hK => ?_); (go_simp; (try (simp only [↓IntWalk.iteOmega]; try go_simp)); (try simp (disch := omega) only [IntWalk.i64_in]); (try simp (disch := omega) only [IntWalk.u64_in]); first | (refine hK _ ?_; clear hK K) | (apply Exists.intro; refine ⟨fun x => ?_, hK _ ?_⟩; (first | fail); clear hK K))) | (refine gLex_undef rfl rfl rfl (by kernel_rfl) (fun K hK => ?_); go_simp; refine hK _ ?_; clear hK K) | (refine gLex_ask rfl rfl rfl ?_; first | (apply gAsk_yes; kernel_rfl; intro K hK; (go_simp; (try (simp only [↓IntWalk.iteOmega]; try go_simp)); (try simp (disch := omega) only [IntWalk.i64_in]); (try simp (disch := omega) only [IntWalk.u64_in]); first | (refine hK _ ?_; clear hK K) | (apply Exists.intro; refine ⟨fun x => ?_, hK _ ?_⟩; (first | fail); clear hK K))) | ((first | apply gAsk_no1 | apply gAsk_no2); kernel_rfl; intro K hK; simp [go_sem]; refine hK _ ?_; clear hK K))))
  refine gLex_prop rfl (by kernel_rfl) rfl (by simp) (LaidP w.heap.size N E.length (tN E)) (LaidP.lasts _ _ _ _) (fun x => by
    go_simp
    refine (C4.out _ A1 c1 (HO.out.1.grows GG)).mono ?_
    rintro e w' ⟨g1, g2, X, B, rfl, q1, q2, q3, q4, l1, l2, hg⟩
    have hlx := (show Grows w x.now from GG).size
    exact ⟨_, rfl, hg, g1, g2, rfl, ⟨X, B, q1, q2, q3, q4⟩, by omega, by omega⟩) ?_
  refine gLex_endT2 (by decide) (by simp) (by simp) (fun x v1 v2 hv1 hv2 => ?_)
  obtain ⟨g1, g2, rfl, hL1, l1, l2⟩ := hv1
  obtain ⟨g3, g4, rfl, hL2, l3, l4⟩ := hv2
  have HL1 := hide hL1
  have HL2 := hide hL2
  clear hL1 hL2
  simp only [Act.put, List.setIfInBounds_toArray, List.set_cons_zero, List.set_cons_succ]
  go_wp2_with fail
  go_ret2
  have hg2 : Grows W0 x.now := GG
  have hnew : Grows x.now (x.now.alloc (.cells #[.int .i64 (N : Int), .slice A1 E.length c1, .slice (some ⟨g1, 0, none⟩) E.length E.length, .slice (some ⟨g2, 0, none⟩) (N + 1) (N + 1), .slice (some ⟨g3, 0, none⟩) E.length E.length, .slice (some ⟨g4, 0, none⟩) (N + 1) (N + 1)] 238)) := (Grows.refl _).new _
  have hgw := hgW.trans hg2
  have hsz2 := hgw.size
  obtain ⟨X1, B1, z1, z2, _⟩ := HL1.out
  obtain ⟨X2, B2, z3, z4, _⟩ := HL2.out
  have y1 := z1.lt
  have y2 := z2.lt
  have y3 := z3.lt
  have y4 := z4.lt
  have hnn : (x.now.alloc (.cells #[.int .i64 (N : Int), .slice A1 E.length c1, .slice (some ⟨g1, 0, none⟩) E.length E.length, .slice (some ⟨g2, 0, none⟩) (N + 1) (N + 1), .slice (some ⟨g3, 0, none⟩) E.length E.length, .slice (some ⟨g4, 0, none⟩) (N + 1) (N + 1)] 238)).heap.size = x.now.heap.size + 1 := by simp
  refine ⟨x.now.heap.size, rfl, ⟨A1, c1, g1, g2, g3, g4, Arr.make _ _ _, (HO.out.1.grows hg2).grows hnew, HL1.out.grows hnew, HL2.out.grows hnew, ⟨hsz2, by rw [hnn]; omega⟩, ⟨l1, by rw [hnn]; omega⟩, ⟨l2, by rw [hnn]; omega⟩, ⟨l3, by rw [hnn]; omega⟩, ⟨l4, by rw [hnn]; omega⟩, fun p hp => ?_⟩, hgw.trans hnew⟩
  have := HO.out.2 p hp
  have h3 := hg2.size
  exact ⟨this.1, by rw [hnn]; omega⟩
end Go.Proofs.YtgplpgldhoelcaaGreat

namespace Go.Proofs.YtgplpgldhoelcaaGreat
open Go Go.RowKit

structure WideF (F : Fence) : Prop where
  fn : ∀ f, F.fn f
  calls : ∀ (n : Nat) (P : Program) (f : FuncId) (args : Array Value) (w : World) (R : Ending → World → Prop), Calls P f args w R → CallsIn F n P f args w R
  depth : F.depth = none
theorem wideF_wide : WideF Fence.wide := ⟨fun _ => trivial, fun _ _ _ _ _ _ h => callsIn_wide.2 h, rfl⟩
theorem wideF_round (l : Nat) : WideF (Fence.wide.inRound l) := ⟨fun _ => trivial, fun _ _ _ _ _ _ h => callsIn_wide.2 h, rfl⟩

theorem wide_fn (f : FuncId) : Fence.wide.fn f = True := rfl
theorem wide_depth : Fence.wide.depth = none := rfl
attribute [go_sem] wide_fn wide_depth

def noDefer (l : List Oper) : Bool := l.all fun o => match o.op with | .defer _ => false | _ => true

section
variable {F : Fence} {m : Nat} {P : Program} {ops : Array Oper} {md : Region.Mode} {w0 : World}

theorem semAt_of {o : Oper} (h : (match o.op with | .defer _ => false | _ => true) = true) (r : Option Nat) (ρ : Operand → Value) : o.semAt r ρ = execOp ρ o := by
  cases r with
  | none => exact Oper.semAt_none ρ o
  | some l => exact Oper.semAt_some l ρ o fun c e => by rw [e] at h; cases h

theorem wpIn_of_runs (hF : WideF F) {o : Oper} (hd : (match o.op with | .defer _ => false | _ => true) = true) {a' : Act} {w : World} {q : Value → World → Prop} {K : Act → World → Prop} {Q : Exit → Act → World → Prop}
    (hrun : runsTo P q ((execOp a'.eval o).run P w)) (hK : ∀ u w', q u w' → K (a'.put o.dst u) w') : o.wpIn F m P a' w K Q := by
  unfold Oper.wpIn
  refine ⟨fun f _ => hF.fn f, ?_⟩
  rw [semAt_of hd]
  generalize (execOp a'.eval o).run P w = res at hrun
  cases res with
  | halt x w' => simp only [runsTo] at hrun
  | ok x w' =>
    cases x <;> simp only [runsTo] at hrun <;> simp only [Oper.uponIn]
    case value u => exact hK _ _ hrun
    case skip => exact hK _ _ hrun
    case enter f args =>
      refine ⟨fun h => (by rw [hF.depth] at h; cases h), hF.calls _ _ _ _ _ _ (hrun.mono fun e w'' ⟨u, he, hq⟩ => ?_)⟩
      subst he
      exact hK _ _ hq

theorem calls_in (hF : WideF F) {f : FuncId} {args : Array Value} {w : World} {R : Ending → World → Prop} (h : Calls P f args w R) : CallsIn F m P f args w R := hF.calls _ _ _ _ _ _ h
end
end Go.Proofs.YtgplpgldhoelcaaGreat

namespace Go.Proofs.YtgplpgldhoelcaaGreat
open Go Go.RowKit
attribute [local go_sem] Oper.semAt_some
set_option maxHeartbeats 1000000 in
theorem adjEach (b : Nat) (v : Int) (back : Bool) (w : World) : Calls Tryz.prog 188 #[.pointer (some ⟨b, 0, none⟩), .int .i64 v, .bool back] w fun e w' =>
    ∃ b1, e = .returned (.func (.func 225) #[] #[.pointer (some ⟨b1, 0, none⟩), .pointer (some ⟨b1 + 1, 0, none⟩), .pointer (some ⟨b1 + 1 + 1, 0, none⟩)]) ∧ w.heap.size = b1 ∧
      Arr w' b1 188 [.pointer (some ⟨b, 0, none⟩)] ∧ Arr w' (b1 + 1) 3 [.int .i64 v] ∧ Arr w' (b1 + 1 + 1) 4 [.bool back] ∧ Grows w w' := by
  go_enter Tryz.func188, Tryz.ntmps188
  go_wp2
  go_ret
  refine ⟨w.heap.size, rfl, rfl, ⟨by simp [heap_push, Array.getElem_push, Array.getElem?_push, eq_add2]⟩, ⟨by simp [heap_push, Array.getElem_push]⟩, ⟨by simp [heap_push, Array.getElem_push]⟩, GG⟩
def encE (E : List Edg) (i : Nat) : Array Value := #[.int .i64 (i : Int), eVal (ge E i)]
set_option maxRecDepth 20000 in
set_option maxHeartbeats 2000000 in
theorem each_gives (F B M0 : Nat → Prop) (b N : Nat) (E : List Edg) (v : Nat) (back : Bool) (b1 : Nat) (w : World) (hA : AdjAt F w b N E) (hF : ∀ k, F k → B k ∨ M0 k) (hE : InN N E) (hv : v < N) (hn : E.length ≤ 1000000) (hN : N ≤ 100000)
    (hm : ∀ k, M0 k → k < w.heap.size) (m1 : B b1 ∨ M0 b1) (m2 : B (b1 + 1) ∨ M0 (b1 + 1)) (m3 : B (b1 + 1 + 1) ∨ M0 (b1 + 1 + 1))
    (a1 : Arr w b1 188 [.pointer (some ⟨b, 0, none⟩)]) (a2 : Arr w (b1 + 1) 3 [.int .i64 (v : Int)]) (a3 : Arr w (b1 + 1 + 1) 4 [.bool back]) :
    Gives Tryz.prog 225 #[.pointer (some ⟨b1, 0, none⟩), .pointer (some ⟨b1 + 1, 0, none⟩), .pointer (some ⟨b1 + 1 + 1, 0, none⟩)] (encE E) B M0 (rowN (nN E back) E.length v) w := by
  intro l J Jx W hkW hJ hJx hY h0
  have HJ := hide hJ
  have HY := hide hY
  have H0 := hide h0
  have HE := hide hE
  have hF2 : ∀ k, F k → ¬ ¬ (B k ∨ M0 k) := fun k hk h1 => h1 (hF k hk)
  have HF := hide hF2
  have HA := hide (hA.touch hkW hF2)
  have i1 : Arr W b1 188 [.pointer (some ⟨b, 0, none⟩)] := ⟨hkW.at m1 a1.is⟩
  have i2 : Arr W (b1 + 1) 3 [.int .i64 (v : Int)] := ⟨hkW.at m2 a2.is⟩
  have i3 : Arr W (b1 + 1 + 1) 4 [.bool back] := ⟨hkW.at m3 a3.is⟩
  have C := hide (adjRow F b N E v back W HA.out HE.out hv hn hN)
  have hmW : ∀ k, M0 k → k < W.heap.size := fun k hk => Nat.lt_of_lt_of_le (hm k hk) hkW.size
  have HM := hide hmW
  have HM1 := hide m1
  clear hJ hY h0 hE hA hkW a1 a2 a3 hm hmW hF hF2 m2 m3
  have hrl : Hid ((rowN (nN E back) E.length v).length = cntN (nN E back) v E.length) := rowN_len _ _ _
  have hcl := cntN_le (nN E back) v E.length
  generalize hxs : rowN (nN E back) E.length v = xs at *
  generalize hcn : cntN (nN E back) v E.length = cn at *
  have HXS := hide hxs
  clear hxs hcn
  refine callsIn_of_wp Tryz.func225 rfl trivial ?_ rfl
  simp only [Tryz.ntmps225, List.size_toArray, List.length_cons, List.length_nil, Nat.reduceAdd, Nat.reduceSub, Array.replicate_succ, Array.replicate_zero, List.push_toArray, List.append_toArray, List.nil_append, List.cons_append]
  gi_wp2_with (gi_at_call 226; refine (calls_in wideF_wide C.out).mono ?_; rintro e w' ⟨A, rfl, hr, hg⟩; obtain ⟨x1, rfl⟩ := hg.later; have HR := hide hr; clear hg hr)
  have HK1 : Hid (Keeps B M0 W x1.now) := x1.grows.touch _
  have H1 : Hid (J [] M0 x1.now) := HJ.out [] _ W _ _ H0.out (x1.grows.touch _) (fun k hk => ⟨.inl hk, Nat.lt_of_lt_of_le (HM.out k hk) x1.size⟩)
  clear H0
  gi_loopw [12] (fun s wr => ∃ k : Nat, k ≤ cn ∧ s = .int .i64 (k : Int) ∧ Keeps B M0 W wr ∧ J (xs.take k) M0 wr) (fun s _ => cn - (Go.RowKit.intOf s).toNat)
  case atStart => exact ⟨0, by omega, by go_num, HK1.out, H1.out⟩
  case round =>
    obtain ⟨k, hk, rfl, hkp, hj⟩ := hrel
    have j1 : Arr wr b1 188 [.pointer (some ⟨b, 0, none⟩)] := ⟨hkp.at HM1.out i1.is⟩
    have HAr := hide (HA.out.touch hkp HF.out)
    have HRr := hide (Rd.touch HR.out.1 hkp (fun p hp => HF.out _ (HR.out.2 p hp)))
    have HJ1 := hide hj
    have HKP := hide hkp
    clear hj hkp H1 HK1
    by_cases hlt : k < cn
    · have hxk : k < xs.length := by rw [hrl.out]; exact hlt
      obtain ⟨g, off, rfl, hc⟩ := HRr.out.at_ (by omega)
      have c1 : Holds wr ⟨g, off + k, none⟩ (.int .i64 (gn xs k : Int)) := ⟨hc k _ (nv_at hxk)⟩
      obtain ⟨EA, cE, g1, g2, g3, g4, e1, e2, _, _⟩ := HAr.out
      have hin : gn xs k < E.length := by
        have : (rowN (nN E back) E.length v)[k]? = some (gn xs k) := by rw [HXS.out]; simp [gn, hxk]
        exact rowN_lt _ this
      obtain ⟨ge0, offe, rfl, hce⟩ := e2.edgesH (by omega)
      obtain ⟨q1, q2, q3⟩ := hce _ hin
      have hsp : xs = xs.take k ++ gn xs k :: xs.drop (k + 1) := by
        have : gn xs k = xs[k] := by simp [gn, hxk]
        rw [this, List.getElem_cons_drop, List.take_append_drop]
      obtain ⟨fn, tmps, assign, body, hy, hR⟩ := HY.out _ _ _ _ _ hsp HJ1.out
      unfold encE eVal at hy
      have HRR := hide hR
      have HSP := hide hsp
      clear hc hce hR hsp e2
      gi_wp2
      refine HRR.out.mono ?_
      rintro e W3 (⟨rfl, hJ3, hk3⟩ | ⟨rfl, hJx3, _⟩)
      · have HJ3 := hide hJ3
        have HK3 := hide hk3
        clear hJ3 hk3
        gi_wp2
        go_roundw
        case rel =>
          refine ⟨k + 1, by omega, by go_num, HKP.out.trans HK3.out, ?_⟩
          have e : xs.take (k + 1) = xs.take k ++ [gn xs k] := by
            rw [List.take_succ_eq_append_getElem hxk]
            simp [gn, hxk]
          rw [e]
          exact HJ3.out
        case measure => simp [Go.RowKit.intOf]; omega
      · have HJX := hide hJx3
        clear hJx3
        gi_wp2
        refine bodyPost_ret (results_none rfl _ _ _) rfl ?_
        exact ⟨⟨_, rfl⟩, .inr ⟨xs.take k, gn xs k, xs.drop (k + 1), _, HSP.out, HJX.out⟩⟩
    · have hke : xs.take k = xs := List.take_of_length_le (by rw [hrl.out]; omega)
      have HJ2 := HJ1.out
      rw [hke] at HJ2
      have HJE := hide HJ2
      clear HJ2 hke
      gi_wp2
      go_end0
      exact ⟨⟨_, rfl⟩, .inl ⟨_, HJE.out⟩⟩
end Go.Proofs.YtgplpgldhoelcaaGreat

namespace Go.Proofs.YtgplpgldhoelcaaGreat
open Go Go.RowKit
section
variable {w : World} {g : Nat} {t : TypeId}
instance Arr.m6 {v0 v1 v2 v3 v4 v5 v : Value} {l : List Value} [h : Arr w g t (v0 :: v1 :: v2 :: v3 :: v4 :: v5 :: v :: l)] : Mine w ⟨g, 6, none⟩ v := h.mine 6 rfl
instance Arr.m7 {v0 v1 v2 v3 v4 v5 v6 v : Value} {l : List Value} [h : Arr w g t (v0 :: v1 :: v2 :: v3 :: v4 :: v5 :: v6 :: v :: l)] : Mine w ⟨g, 7, none⟩ v := h.mine 7 rfl
instance Arr.m8 {v0 v1 v2 v3 v4 v5 v6 v7 v : Value} {l : List Value} [h : Arr w g t (v0 :: v1 :: v2 :: v3 :: v4 :: v5 :: v6 :: v7 :: v :: l)] : Mine w ⟨g, 8, none⟩ v := h.mine 8 rfl
instance Arr.m9 {v0 v1 v2 v3 v4 v5 v6 v7 v8 v : Value} {l : List Value} [h : Arr w g t (v0 :: v1 :: v2 :: v3 :: v4 :: v5 :: v6 :: v7 :: v8 :: v :: l)] : Mine w ⟨g, 9, none⟩ v := h.mine 9 rfl
instance Arr.m10 {v0 v1 v2 v3 v4 v5 v6 v7 v8 v9 v : Value} {l : List Value} [h : Arr w g t (v0 :: v1 :: v2 :: v3 :: v4 :: v5 :: v6 :: v7 :: v8 :: v9 :: v :: l)] : Mine w ⟨g, 10, none⟩ v := h.mine 10 rfl
end
structure Srch where
  N : Nat
  E : List Edg
  back : Bool
  most : Nat
  W : List Nat
  nn : Nat → Bool
  ne : Nat → Bool
def SrAt (F : Nat → Prop) (w : World) (x : Srch) (bx bf bh : Nat) : Prop :=
  ∃ ba o1 o2 o3 Aw cw bn be gn' ge' Wn We, Arr w bx 258 [.pointer (some ⟨ba, 0, none⟩), .bool x.back, o1, o2, o3, .int .u64 (x.most : Int), .slice Aw x.E.length cw, .pointer (some ⟨bn, 0, none⟩), .pointer (some ⟨be, 0, none⟩), .pointer (some ⟨bf, 0, none⟩), .pointer (some ⟨bh, 0, none⟩)] ∧
    AdjAt F w ba x.N x.E ∧ (Rd w Aw 1 x.E.length (wv x.W) ∧ ∀ p, Aw = some p → F p.block) ∧ (BtAt w bn gn' x.N Wn ∧ ∀ j, j < x.N → hasW Wn j = x.nn j) ∧ (BtAt w be ge' x.E.length We ∧ ∀ j, j < x.E.length → hasW We j = x.ne j) ∧ (F bx ∧ F bn ∧ F gn' ∧ F be ∧ F ge')
theorem BtAt.touch {w w' : World} {b g n : Nat} {W : List Nat} {S : Nat → Prop} (h : BtAt w b g n W) (ht : Touch S w w') (h1 : ¬ S b) (h2 : ¬ S g) : BtAt w' b g n W := ⟨h.row.touch ht h1, h.words.touch ht h2, h.room, h.small⟩
theorem SrAt.touch {F S : Nat → Prop} {w w' : World} {x : Srch} {bx bf bh : Nat} (h : SrAt F w x bx bf bh) (ht : Touch S w w') (hs : ∀ k, F k → ¬ S k) : SrAt F w' x bx bf bh := by
  obtain ⟨ba, o1, o2, o3, Aw, cw, bn, be, g1, g2, Wn, We, h1, h2, ⟨h3, h4⟩, ⟨h5, h6⟩, ⟨h7, h8⟩, f1, f2, f3, f4, f5⟩ := h
  exact ⟨ba, o1, o2, o3, Aw, cw, bn, be, g1, g2, Wn, We, h1.touch ht (hs _ f1), h2.touch ht hs, ⟨h3.touch ht (fun p hp => hs _ (h4 p hp)), h4⟩, ⟨h5.touch ht (hs _ f2) (hs _ f3), h6⟩, ⟨h7.touch ht (hs _ f4) (hs _ f5), h8⟩, f1, f2, f3, f4, f5⟩
theorem SrAt.grow {F : Nat → Prop} {w w' : World} {x : Srch} {bx bf bh : Nat} (h : SrAt F w x bx bf bh) (hg : Grows w w') : SrAt F w' x bx bf bh := h.touch (hg.touch (fun _ => False)) (fun _ _ => id)
def DjAt (F S : Nat → Prop) (w : World) (x : Srch) (bx : Nat) (L : List (Nat × Nat)) (s : HS) : Prop :=
  ∃ bf gf bh S2, SrAt F w x bx bf bh ∧ (∃ m, StL w bf gf L m) ∧ HpAt w S2 bh s ∧ (S bf ∧ S gf ∧ (∀ k, S2 k → S k ∧ ¬ (k = bf ∨ k = gf))) ∧ (∀ k, F k → ¬ S k ∧ k < w.heap.size) ∧ (∀ k, S k → k < w.heap.size) ∧ L.length = x.N ∧ s.In x.N
theorem DjAt.touch {F S S' : Nat → Prop} {w w' : World} {x : Srch} {bx : Nat} {L : List (Nat × Nat)} {s : HS} (h : DjAt F S w x bx L s) (ht : Touch S' w w') (h1 : ∀ k, F k → ¬ S' k) (h2 : ∀ k, S k → ¬ S' k) : DjAt F S w' x bx L s := by
  obtain ⟨bf, gf, bh, S2, q1, ⟨m, q2⟩, q3, ⟨q4, q5, q6⟩, q7, q8, q9, q10⟩ := h
  exact ⟨bf, gf, bh, S2, q1.touch ht h1, ⟨m, q2.touch ht (h2 _ q4) (h2 _ q5)⟩, q3.touch ht (fun k hk => h2 k (q6 k hk).1), ⟨q4, q5, q6⟩, fun k hk => ⟨(q7 k hk).1, Nat.lt_of_lt_of_le (q7 k hk).2 ht.size⟩, fun k hk => Nat.lt_of_lt_of_le (q8 k hk) ht.size, q9, q10⟩
theorem DjAt.grow {F S : Nat → Prop} {w w' : World} {x : Srch} {bx : Nat} {L : List (Nat × Nat)} {s : HS} (h : DjAt F S w x bx L s) (hg : Grows w w') : DjAt F S w' x bx L s := h.touch (hg.touch (fun _ => False)) (fun _ _ => id) (fun _ _ => id)
set_option maxHeartbeats 1000000 in
theorem djCounts (F : Nat → Prop) (x : Srch) (bx bf bh e v : Nat) (w : World) (h : SrAt F w x bx bf bh) (he : e < x.E.length) (hv : v < x.N) (hE : x.E.length ≤ 65536) (hN : x.N ≤ 65536) :
    Calls Tryz.prog 238 #[.pointer (some ⟨bx, 0, none⟩), .int .i64 (e : Int), .int .i64 (v : Int)] w fun e' w' => e' = .returned (.bool (!x.ne e && !x.nn v)) ∧ w = w' := by
  obtain ⟨ba, o1, o2, o3, Aw, cw, bn, be, g1, g2, Wn, We, h1, _, _, ⟨h5, h6⟩, ⟨h7, h8⟩, _⟩ := h
  have C1 := hide (bitsHasIn be g2 x.E.length We e w h7 he hE)
  have C2 := hide (bitsHasIn bn g1 x.N Wn v w h5 hv hN)
  rw [h8 e he] at C1
  rw [h6 v hv] at C2
  clear h5 h6 h7 h8
  cases hq : x.ne e with
  | true =>
    rw [hq] at C1
    clear hq C2
    go_enter Tryz.func238, Tryz.ntmps238
    go_wp2_with (go_at_call 201; refine (C1.out).mono ?_; rintro e w' ⟨rfl, rfl⟩)
    go_ret
    exact ⟨rfl, rfl⟩
  | false =>
    rw [hq] at C1
    clear hq
    generalize x.nn v = q at *
    go_enter Tryz.func238, Tryz.ntmps238
    go_wp2_with fail
    refine (C1.out).mono ?_; rintro e w' ⟨rfl, rfl⟩
    go_wp2_with fail
    refine (C2.out).mono ?_; rintro e w' ⟨rfl, rfl⟩
    go_wp2_with fail
    go_ret
    exact ⟨by simp, rfl⟩
def reachS (most : Nat) (st : List (Nat × Nat) × HS) (v f : Nat) : List (Nat × Nat) × HS :=
  if 0 < most ∧ most < f then st else if lessB (stD st.1 v) f then (st.1.set v (f, 1), (st.2.put v f).1) else st
def HOk (s : HS) (N : Nat) : Prop := (∀ v, v < N → gz s.T v = -1 ∨ 0 ≤ gz s.T v ∧ gz s.T v < s.L.length) ∧ s.L.length ≤ 90000
theorem put_keep_in {s : HS} {N v f : Nat} (h : s.In N) (hk : HOk s N) (hv : v < N) : (s.put v f).1.In N := by
  unfold HS.put
  split
  · exact HS.rise_in (put_in h hv) _ _ hv (by simp)
  · split
    · exact h
    · rename_i h1 _
      have := hk.1 v hv
      exact HS.rise_in h _ _ hv (by omega)
def GiveReach (F S : Nat → Prop) (w : World) (x : Srch) (bx : Nat) (st : List (Nat × Nat) × HS) (e : Ending) (w' : World) : Prop :=
  e = .returned (.tuple #[]) ∧ DjAt F (fun k => S k ∨ New w w' k) w' x bx st.1 st.2 ∧ Touch S w w'
theorem DjAt.more {F S : Nat → Prop} {w w' : World} {x : Srch} {bx : Nat} {L : List (Nat × Nat)} {s : HS} (h : DjAt F S w x bx L s) (hg : Grows w w') : DjAt F (fun k => S k ∨ New w w' k) w' x bx L s := by
  obtain ⟨bf, gf, bh, S2, q1, ⟨m, q2⟩, q3, ⟨q4, q5, q6⟩, q7, q8, q9, q10⟩ := h
  refine ⟨bf, gf, bh, S2, q1.grow hg, ⟨m, q2.grow hg⟩, q3.grow hg, ⟨.inl q4, .inl q5, fun k hk => ⟨.inl (q6 k hk).1, (q6 k hk).2⟩⟩, fun k hk => ⟨fun e => ?_, Nat.lt_of_lt_of_le (q7 k hk).2 hg.size⟩, fun k hk => ?_, q9, q10⟩
  · rcases e with e | ⟨e, _⟩
    · exact (q7 k hk).1 e
    · have := (q7 k hk).2; omega
  · rcases hk with e | ⟨_, e⟩
    · exact Nat.lt_of_lt_of_le (q8 k e) hg.size
    · exact e
theorem reach_put {F S S2 : Nat → Prop} {w w1 w2 : World} {x : Srch} {bx bf gf bh : Nat} {L' : List (Nat × Nat)} {s' : HS} {m' : Int} (q1 : SrAt F w x bx bf bh) (q4 : S bf) (q5 : S gf) (q6 : ∀ k, S2 k → S k ∧ ¬ (k = bf ∨ k = gf)) (q7 : ∀ k, F k → ¬ S k ∧ k < w.heap.size) (q8 : ∀ k, S k → k < w.heap.size)
    (ht1 : Touch (fun k => k = bf ∨ k = gf) w w1) (hs1 : StL w1 bf gf L' m') (hp2 : HpAt w2 (fun k => S2 k ∨ New w1 w2 k) bh s') (ht2 : Touch S2 w1 w2) (hl : L'.length = x.N) (hi : s'.In x.N) : DjAt F (fun k => S k ∨ New w w2 k) w2 x bx L' s' ∧ Touch S w w2 := by
  have hF1 : ∀ k, F k → ¬ (k = bf ∨ k = gf) := fun k hk e => by
    rcases e with rfl | rfl
    · exact (q7 _ hk).1 q4
    · exact (q7 _ hk).1 q5
  have hF2 : ∀ k, F k → ¬ S2 k := fun k hk e => (q7 k hk).1 (q6 k e).1
  have z1 := ht1.size
  have z2 := ht2.size
  refine ⟨⟨bf, gf, bh, fun k => S2 k ∨ New w1 w2 k, (q1.touch ht1 hF1).touch ht2 hF2, ⟨m', hs1.touch ht2 (fun e => (q6 _ e).2 (.inl rfl)) (fun e => (q6 _ e).2 (.inr rfl))⟩, hp2, ⟨.inl q4, .inl q5, fun k hk => ?_⟩, fun k hk => ⟨fun e => ?_, ?_⟩, fun k hk => ?_, hl, hi⟩, ?_⟩
  · rcases hk with hk | ⟨hk, hk2⟩
    · exact ⟨.inl (q6 k hk).1, (q6 k hk).2⟩
    · refine ⟨.inr ⟨by omega, hk2⟩, fun e => ?_⟩
      have h1 := q8 _ q4
      have h2 := q8 _ q5
      rcases e with rfl | rfl <;> omega
  · rcases e with e | ⟨e, _⟩
    · exact (q7 k hk).1 e
    · have := (q7 k hk).2; omega
  · have := (q7 k hk).2; omega
  · rcases hk with e | ⟨_, e⟩
    · have := q8 k e; omega
    · exact e
  · refine (ht1.mono fun k hk => ?_).trans (ht2.mono fun k hk => (q6 k hk).1)
    rcases hk with rfl | rfl
    · exact q4
    · exact q5
set_option maxRecDepth 20000 in
set_option maxHeartbeats 4000000 in
theorem djReach (F S : Nat → Prop) (x : Srch) (bx v f : Nat) (L : List (Nat × Nat)) (s : HS) (w : World) (h : DjAt F S w x bx L s) (hv : v < x.N) (hk : HOk s x.N) (hm : x.most < 18446744073709551616) :
    Calls Tryz.prog 202 #[.pointer (some ⟨bx, 0, none⟩), .int .i64 (v : Int), .int .u64 (f : Int)] w (GiveReach F S w x bx (reachS x.most (L, s) v f)) := by
  have HD := hide h
  obtain ⟨bf, gf, bh, S2, q1, ⟨m, q2⟩, q3, ⟨q4, q5, q6⟩, q7, q8, q9, q10⟩ := h
  have Q1 := hide q1
  have Q6 := hide q6
  have Q7 := hide q7
  have Q8 := hide q8
  have Q9 := hide q9
  have HIP : Hid ((s.put v f).1.In x.N) := put_keep_in q10 hk hv
  have Q10 := hide q10
  obtain ⟨ba, o1, o2, o3, Aw, cw, bn, be, g1, g2, Wn, We, h1, _, _, _, _, f1, _⟩ := q1
  have hne : ¬ (bx = bf ∨ bx = gf) := fun e => by
    rcases e with rfl | rfl
    · exact (q7 _ f1).1 q4
    · exact (q7 _ f1).1 q5
  have HNE := hide hne
  have CL := hide (stLeast bf gf L m v f w q2 (by omega))
  have HS2 := hide q3
  have HR : Hid (reachS x.most (L, s) v f = if 0 < x.most ∧ x.most < f then (L, s) else if lessB (stD L v) f then (L.set v (f, 1), (s.put v f).1) else (L, s)) := rfl
  have CP := hide (fun (W : World) (hq : HpAt W S2 bh s) (hs : w.heap.size ≤ W.heap.size) => hpPut bh x.N s v f S2 W hq (fun k hk => Nat.lt_of_lt_of_le (q8 k (q6 k hk).1) hs) q10 hv (hk.1 v hv) hk.2)
  have hS2n : ∀ k, S2 k → ¬ (k = bf ∨ k = gf) := fun k hk => (q6 k hk).2
  have HSN := hide hS2n
  clear q2 q3 q6 q7 q8 q9 q10 hk hne hS2n
  by_cases hc : 0 < x.most ∧ x.most < f
  · rw [if_pos hc] at HR
    have d1 : decide ((0 : Int) < (x.most : Int)) = true := decide_eq_true (by omega)
    have d2 : decide ((x.most : Int) < (f : Int)) = true := decide_eq_true (by omega)
    have d3 : decide (0 < x.most) = true := decide_eq_true hc.1
    have d4 : decide (x.most < f) = true := decide_eq_true hc.2
    clear hc
    generalize x.most = mo at *
    go_enter Tryz.func202, Tryz.ntmps202
    go_wp2_with fail
    refine bodyPost_ret (results_none rfl _ _ _) rfl ?_
    rw [HR.out]
    exact ⟨rfl, HD.out.more (Grows.refl _), Touch.refl _ _⟩
  · rw [if_neg hc] at HR
    have hc2 : x.most = 0 ∨ (0 < x.most ∧ f ≤ x.most) := by omega
    clear hc
    cases hr : lessB (stD L v) f with
    | true =>
      rw [hr] at CL HR
      clear hr
      rcases hc2 with hc2 | ⟨hc2, hc3⟩
      · have d1 : decide ((0 : Int) < (x.most : Int)) = false := decide_eq_false (by omega)
        have d3 : decide (0 < x.most) = false := decide_eq_false (by omega)
        clear hc2
        generalize x.most = mo at *
        go_enter Tryz.func202, Tryz.ntmps202
        go_wp2_with (first
          | (go_at_call 235; refine (CL.out).mono ?_; rintro e w1 ⟨rfl, ⟨m', hs1⟩, ht1⟩; have ha := h1.touch ht1 HNE.out; have HS1 := hide hs1; have HT1 := hide ht1; have HP1 := hide (HS2.out.touch ht1 HSN.out); clear hs1 ht1)
          | (go_at_call 236; refine (CP.out _ HP1.out HT1.out.size).mono ?_; rintro e w2 ⟨rfl, hp2, ht2⟩; have HP2 := hide hp2; have HT2 := hide ht2; clear hp2 ht2))
        all_goals
          go_end0
          rw [HR.out]
          have hz := reach_put Q1.out q4 q5 Q6.out Q7.out Q8.out HT1.out HS1.out HP2.out HT2.out (by simp; exact Q9.out) HIP.out
          exact ⟨rfl, hz.1, hz.2⟩
      · have d1 : decide ((0 : Int) < (x.most : Int)) = true := decide_eq_true (by omega)
        have d3 : decide (0 < x.most) = true := decide_eq_true hc2
        have d2 : decide ((x.most : Int) < (f : Int)) = false := decide_eq_false (by omega)
        have d4 : decide (x.most < f) = false := decide_eq_false (by omega)
        clear hc2 hc3
        generalize x.most = mo at *
        go_enter Tryz.func202, Tryz.ntmps202
        go_wp2_with (first
          | (go_at_call 235; refine (CL.out).mono ?_; rintro e w1 ⟨rfl, ⟨m', hs1⟩, ht1⟩; have ha := h1.touch ht1 HNE.out; have HS1 := hide hs1; have HT1 := hide ht1; have HP1 := hide (HS2.out.touch ht1 HSN.out); clear hs1 ht1)
          | (go_at_call 236; refine (CP.out _ HP1.out HT1.out.size).mono ?_; rintro e w2 ⟨rfl, hp2, ht2⟩; have HP2 := hide hp2; have HT2 := hide ht2; clear hp2 ht2))
        all_goals
          go_end0
          rw [HR.out]
          have hz := reach_put Q1.out q4 q5 Q6.out Q7.out Q8.out HT1.out HS1.out HP2.out HT2.out (by simp; exact Q9.out) HIP.out
          exact ⟨rfl, hz.1, hz.2⟩
    | false =>
      rw [hr] at CL HR
      clear hr CP
      rcases hc2 with hc2 | ⟨hc2, hc3⟩
      · have d1 : decide ((0 : Int) < (x.most : Int)) = false := decide_eq_false (by omega)
        have d3 : decide (0 < x.most) = false := decide_eq_false (by omega)
        clear hc2
        generalize x.most = mo at *
        go_enter Tryz.func202, Tryz.ntmps202
        go_wp2_with (go_at_call 235; refine (CL.out).mono ?_; rintro e w1 ⟨rfl, ⟨m', hs1⟩, ht1⟩; have ha := h1.touch ht1 HNE.out; have HS1 := hide hs1; have HT1 := hide ht1; have HP1 := hide (HS2.out.touch ht1 HSN.out); clear hs1 ht1)
        all_goals
          go_end0
          rw [HR.out]
          have hz := reach_put (S2 := S2) Q1.out q4 q5 Q6.out Q7.out Q8.out HT1.out HS1.out (HP1.out.mono (fun k hk => .inl hk)) (Touch.refl S2 _) Q9.out Q10.out
          exact ⟨rfl, hz.1, hz.2⟩
      · have d1 : decide ((0 : Int) < (x.most : Int)) = true := decide_eq_true (by omega)
        have d3 : decide (0 < x.most) = true := decide_eq_true hc2
        have d2 : decide ((x.most : Int) < (f : Int)) = false := decide_eq_false (by omega)
        have d4 : decide (x.most < f) = false := decide_eq_false (by omega)
        clear hc2 hc3
        generalize x.most = mo at *
        go_enter Tryz.func202, Tryz.ntmps202
        go_wp2_with (go_at_call 235; refine (CL.out).mono ?_; rintro e w1 ⟨rfl, ⟨m', hs1⟩, ht1⟩; have ha := h1.touch ht1 HNE.out; have HS1 := hide hs1; have HT1 := hide ht1; have HP1 := hide (HS2.out.touch ht1 HSN.out); clear hs1 ht1)
        all_goals
          go_end0
          rw [HR.out]
          have hz := reach_put (S2 := S2) Q1.out q4 q5 Q6.out Q7.out Q8.out HT1.out HS1.out (HP1.out.mono (fun k hk => .inl hk)) (Touch.refl S2 _) Q9.out Q10.out
          exact ⟨rfl, hz.1, hz.2⟩
end Go.Proofs.YtgplpgldhoelcaaGreat

namespace Go.Proofs.YtgplpgldhoelcaaGreat
open Go Go.RowKit
def toE (x : Srch) (i : Nat) : Nat := if x.back then fN x.E i else tN x.E i
abbrev St := List (Nat × Nat) × HS
def stepE (x : Srch) (f : Nat) (st : St) (i : Nat) : St := if (!x.ne i && !x.nn (toE x i)) = true then reachS x.most st (toE x i) (f + gn x.W i) else st
def stepK (x : Srch) (f : Nat) (st : St) (l : List Nat) : St := l.foldl (stepE x f) st
def rowX (x : Srch) (v : Nat) : List Nat := rowN (nN x.E x.back) x.E.length v
theorem stepK_snoc (x : Srch) (f : Nat) (st : St) (l : List Nat) (i : Nat) : stepK x f st (l ++ [i]) = stepE x f (stepK x f st l) i := by simp [stepK, List.foldl_append]
structure StepOk (x : Srch) (st : St) (v f : Nat) : Prop where
  top : gi2 st.2.L 0 = (v, f)
  pos : 0 < st.2.L.length
  lies : ∃ i : Nat, gz st.2.T v = (i : Int) ∧ i < st.2.L.length
  len : st.2.L.length ≤ 90000
  rounds : ∀ l r, rowX x v = l ++ r → HOk (stepK x f (st.1, st.2.drop v) l).2 x.N
  far : ∀ i, i < x.E.length → f + gn x.W i < 18446744073709551616
inductive Trace (x : Srch) : St → List (Nat × Nat) → Prop
  | done {st : St} : st.2.L.length = 0 → Trace x st []
  | step {st : St} {v f : Nat} {xs : List (Nat × Nat)} : StepOk x st v f → Trace x (stepK x f (st.1, st.2.drop v) (rowX x v)) xs → Trace x st ((v, f) :: xs)
structure SrchOk (x : Srch) : Prop where
  ends : InN x.N x.E
  edges : x.E.length ≤ 65536
  nodes : x.N ≤ 65536
  wts : x.W.length = x.E.length
  most : x.most < 18446744073709551616
def encD (p : Nat × Nat) : Array Value := #[.int .i64 (p.1 : Int), .int .u64 (p.2 : Int)]
theorem drop_all_in {s : HS} {N v i : Nat} (h : s.In N) (hz : gz s.T v = (i : Int)) (hi : i < s.L.length) : (s.drop v).In N := by
  unfold HS.drop
  rw [hz, Int.toNat_natCast]
  have hx : (gi2 s.L (s.L.length - 1)).1 < N := h.2 _ (by omega)
  by_cases he : i = s.L.length - 1
  · rw [if_pos he]
    exact drop_in h v
  · rw [if_neg he]
    have h1 := HS.sink_in (drop_in (last := s.L.length - 1) h v) i (gi2 s.L (s.L.length - 1)) hx
    by_cases h2 : gz ((⟨s.L.take (s.L.length - 1), s.T.set v (-1)⟩ : HS).sink i (gi2 s.L (s.L.length - 1))).T (gi2 s.L (s.L.length - 1)).1 = (i : Int)
    · show HS.In (if _ then _ else _) N
      rw [if_pos h2]
      refine HS.rise_in h1.1 _ _ hx ?_
      rw [h1.2]
      simp
      omega
    · show HS.In (if _ then _ else _) N
      rw [if_neg h2]
      exact h1.1
end Go.Proofs.YtgplpgldhoelcaaGreat

