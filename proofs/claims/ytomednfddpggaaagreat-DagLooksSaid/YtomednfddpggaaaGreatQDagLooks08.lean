/- Contracts: a graph copied; a graph with one weight changed. -/
import Derived.Test.YtomednfddpggaaaGreatQDagLooks02
import Derived.Test.YtomednfddpggaaaGreatQDagLooks07
import Derived.Deep.DeepCutAuto
import Derived.Lib.SliceRun
import Derived.Test.YtomednfddpggaaaGreatQDagLooks03
import Derived.Test.YtomednfddpggaaaGreatQDagLooks01
import Derived.OrdersIn
import Derived.TacticsIn
import Derived.Test.YtomednfddpggaaaGreatQDagLooks04
import Derived.RangeFuncNested
import Derived.RangeFuncBound
import Derived.Shelf.Abstract
import Derived.Shelf.RegionOpen
import Derived.OwnWalkIn
import Derived.TacticsInMore
import Derived.LoopNIn
import Derived.LoopIn
/- Contracts: a graph copied; a graph with one weight changed. -/
namespace Go.Proofs.YtomednfddpggaaaGreat
open Go Go.RowKit
theorem es_one (E : List Edg) : ∀ u ∈ esCells E, u.oneCell' = true := by
  intro u hu
  obtain ⟨e, _, h⟩ := List.mem_flatMap.1 hu
  unfold eCells at h
  simp at h
  rcases h with rfl | rfl | rfl <;> rfl
set_option maxRecDepth 20000 in
set_option maxHeartbeats 2000000 in
theorem cloneE (A : Option Addr) (n c : Nat) (E : List Edg) (w : World) (h : Rd w A 3 n (esCells E)) (hn : n ≤ 1000000) :
    Calls Tryz.prog 98 #[.slice A n c] w fun e w' => ∃ A' c', e = .returned (.slice A' n c') ∧ Own w' w.heap.size 59 3 A' n c' (esCells E) ∧ Grows w w' := by
  cases A with
  | none =>
    have hn0 : n = 0 := by
      rcases Nat.eq_zero_or_pos n with h0 | h0
      · exact h0
      · obtain ⟨_, _, e, _⟩ := h.2 h0 (by omega); cases e
    subst hn0
    have hE : E = [] := List.eq_nil_of_length_eq_zero h.elen
    subst hE
    clear h
    have hnil := fun (w : World) (a : Option Addr) (n c n' c' : Nat) => Lib.run_eql_slice_nil (P := Tryz.prog) w 22 59 a n c n' c' Tryz.underlying22
    go_enter Tryz.func98, Tryz.ntmps98
    go_wp2
    go_ret
    exact ⟨none, 0, rfl, Own.nil _ _ _ _, GG⟩
  | some ad =>
    have HR := hide h
    clear h
    have hnil := fun (w : World) (a : Option Addr) (n c n' c' : Nat) => Lib.run_eql_slice_nil (P := Tryz.prog) w 22 59 a n c n' c' Tryz.underlying22
    go_enter Tryz.func98, Tryz.ntmps98
    go_wp2_with (at_builtin; refine wp_appAll elemEdge rfl _ _ rfl w GG 0 0 _ [] rfl (Own.empty _ _ _ _ (Nat.le_refl _)) ad n c _ rfl (HR.out.grows GG) (es_one E) (by omega) ?_; intro A3 c3 y3 hown3; have HO3 := hide hown3; clear hown3)
    go_ret
    exact ⟨A3, c3, by first | rfl | (simp; done) | (rw [Nat.zero_add]; rfl), by have := HO3.out; rwa [Nat.zero_add, List.nil_append] at this, GG⟩
theorem Own.low {w : World} {B n c size : Nat} {e : TypeId} {A : Option Addr} {xs : List Value} (h : Own w B e size A n c xs) {q : Addr} (hq : q.block < B) (u : Value) : Own (w.setCell q u) B e size A n c xs := by
  refine ⟨h.1, ?_⟩
  rcases h.2 with h1 | ⟨g, cap, cur, h1, h2, h3, h4⟩
  · exact .inl h1
  · refine .inr ⟨g, cap, cur, h1, h2, ?_, h4⟩
    rw [← h3]
    simp [World.setCell, Array.getElem?_modify]
    intro e
    omega
theorem Own.base {w : World} {B B' n c size : Nat} {e : TypeId} {A : Option Addr} {xs : List Value} (h : Own w B e size A n c xs) (hB : B' ≤ B) : Own w B' e size A n c xs := by
  refine ⟨h.1, ?_⟩
  rcases h.2 with h1 | ⟨g, cap, cur, h1, h2, h3⟩
  · exact .inl h1
  · exact .inr ⟨g, cap, cur, h1, Nat.le_trans hB h2, h3⟩
def GiveOG (w : World) (N : Int) (E : List Edg) (e : Ending) (w' : World) : Prop := ∃ A c, e = .returned (.agg #[.int .i64 N, .slice A E.length c]) ∧ Own w' w.heap.size 59 3 A E.length c (esCells E) ∧ Grows w w'
set_option maxRecDepth 20000 in
set_option maxHeartbeats 2000000 in
theorem gClone (N : Int) (A : Option Addr) (n c : Nat) (E : List Edg) (w : World) (h : Rd w A 3 n (esCells E)) (hn : n ≤ 1000000) :
    Calls Tryz.prog 63 #[.agg #[.int .i64 N, .slice A n c]] w (GiveOG w N E) := by
  have HL := hide h.elen
  have HC := hide (fun W (g : Grows w W) => cloneE A n c E W (h.grows g) hn)
  clear h
  go_enter Tryz.func63, Tryz.ntmps63
  go_upto_region 1 with fail
  go_region_with (go_at_call 98; refine (HC.out _ GG).mono ?_; rintro e w' ⟨A1, c1, rfl, ho1, hg⟩; obtain ⟨x1, rfl⟩ := hg.later; have HO1 := hide ho1; clear hg ho1)
  all_goals go_wp2_with fail
  all_goals refine bodyPost_ret (v := .agg #[.int .i64 N, .slice A1 n c1]) (by simp (maxDischargeDepth := 6) [results, Tryz.results63, go_sem, *]) rfl ⟨A1, c1, by rw [HL.out], ?_, GG⟩
  all_goals rw [HL.out]
  all_goals exact ((HO1.out.low (by simp) _).low (by simp) _).base (by simp; omega)
end Go.Proofs.YtomednfddpggaaaGreat

/- Contracts: who goes out, and who comes in. -/
namespace Go.Proofs.YtomednfddpggaaaGreat
open Go Go.RowKit
theorem adjFrom (e : Edg) (w : World) : Calls Tryz.prog 65 #[eVal e] w fun x w' => x = .returned (.int .i64 e.f) ∧ Grows w w' := by
  unfold eVal
  go_enter Tryz.func65, Tryz.ntmps65
  go_wp2
  go_ret
  exact ⟨rfl, GG⟩
theorem adjTo (e : Edg) (w : World) : Calls Tryz.prog 66 #[eVal e] w fun x w' => x = .returned (.int .i64 e.t) ∧ Grows w w' := by
  unfold eVal
  go_enter Tryz.func66, Tryz.ntmps66
  go_wp2
  go_ret
  exact ⟨rfl, GG⟩
def LaidIn (w : World) (g1 g2 N n : Nat) (f : Nat → Nat) : Prop :=
  ∃ X B, Row1 w g1 3 1 n n (nv X) ∧ Row1 w g2 3 1 (N + 1) (N + 1) (nv B) ∧ (∀ i, i < n → X[posN f n i]? = some i) ∧ (∀ v, v ≤ N → gn B v = begN f n v)
theorem LaidIn.grows {w w' : World} {g1 g2 N n : Nat} {f : Nat → Nat} (h : LaidIn w g1 g2 N n f) (hg : Grows w w') : LaidIn w' g1 g2 N n f := by
  obtain ⟨X, B, h1, h2, h3⟩ := h
  exact ⟨X, B, h1.grow hg, h2.grow hg, h3⟩
def rowsVal (g1 g2 N n : Nat) : Value := .agg #[.slice (some ⟨g1, 0, none⟩) n n, .slice (some ⟨g2, 0, none⟩) (N + 1) (N + 1)]
set_option maxRecDepth 20000 in
set_option maxHeartbeats 2000000 in
theorem adjOf (g1 g2 N n : Nat) (f : Nat → Nat) (v : Nat) (w0 w : World) (h : LaidIn w0 g1 g2 N n f) (hg0 : Grows w0 w) (hv : v < N) (_ : n ≤ 1000000) (hN : N ≤ 100000) (hf : ∀ i, i < n → f i < N) :
    Calls Tryz.prog 153 #[rowsVal g1 g2 N n, .int .i64 (v : Int)] w fun e w' => ∃ A, e = .returned (.slice A (cntN f v n) (cntN f v n)) ∧ (Rd w0 A 1 (cntN f v n) (nv (rowN f n v)) ∧ ∀ p, A = some p → p.block = g1) ∧ Grows w w' := by
  obtain ⟨X, B, h1, h2, h3, h4⟩ := h
  have m1 := (h2.grow hg0).nat (j := v) (by omega)
  have m2 := (h2.grow hg0).nat (j := v + 1) (by omega)
  rw [h4 v (by omega)] at m1
  rw [h4 (v + 1) (by omega)] at m2
  have b1 := begN_le f n v
  have b2 := begN_le f n (v + 1)
  have b3 := begN_succ f n v
  have H1 := hide h1
  have H3 := hide h3
  have H4 := hide b3
  have b4 : begN f n v ≤ begN f n (v + 1) := by omega
  have HF := hide hf
  clear h1 h2 h3 h4 b3 hf
  generalize hp : begN f n v = p at *
  generalize hq : begN f n (v + 1) = q at *
  have HP := hide hp
  have HQ := hide hq
  clear hp hq
  unfold rowsVal
  rcases Nat.eq_or_lt_of_le b4 with e | e
  · subst e
    go_enter Tryz.func153, Tryz.ntmps153
    go_wp2_with fail
    ((first | refine wp_region_gen2 (by kernel_rfl) (by kernel_rfl) ?_ | refine wp_region_gen (by kernel_rfl) (by kernel_rfl) ?_); (repeat' (first | (refine gLex_val0 rfl (by kernel_rfl) (fun K hK => ?_); (go_simp; (try (simp only [↓IntWalk.iteOmega]; try go_simp)); (try simp (disch := omega) only [IntWalk.i64_in]); (try simp (disch := omega) only [IntWalk.u64_in]); first | (refine hK _ ?_; clear hK K) | (apply Exists.intro; refine ⟨fun x => ?_, hK _ ?_⟩; (first | fail); clear hK K))) | (refine gLex_undef rfl rfl rfl (by kernel_rfl) (fun K hK => ?_); go_simp; refine hK _ ?_; clear hK K) | (refine gLex_ask rfl rfl rfl ?_; first | (apply gAsk_yes; kernel_rfl; intro K hK; (go_simp; (try (simp only [↓IntWalk.iteOmega]; try go_simp)); (try simp (disch := omega) only [IntWalk.i64_in]); (try simp (disch := omega) only [IntWalk.u64_in]); first | (refine hK _ ?_; clear hK K) | (apply Exists.intro; refine ⟨fun x => ?_, hK _ ?_⟩; (first | fail); clear hK K))) | ((first | apply gAsk_no1 | apply gAsk_no2); kernel_rfl; intro K hK; simp [go_sem]; refine hK _ ?_; clear hK K) | (apply gAsk_part; kernel_rfl; all_goals (intro h K hK; (try simp only [Bool.not_true] at h); (try simp only [Bool.not_false] at h); (try simp only [decide_eq_true_eq] at h); (try simp only [decide_eq_false_iff_not] at h); first | (exfalso; first | contradiction | omega) | (go_simp; (try (simp only [↓IntWalk.iteOmega]; try go_simp)); (try simp (disch := omega) only [IntWalk.i64_in]); (try simp (disch := omega) only [IntWalk.u64_in]); first | (refine hK _ ?_; clear hK K) | (apply Exists.intro; refine ⟨fun x => ?_, hK _ ?_⟩; (first | fail); clear hK K))))))); all_goals ((apply gLex_end); intro y))
    go_wp2_with fail
    have hc : cntN f v n = 0 := by have := H4.out; omega
    go_ret
    rw [hc]
    exact ⟨_, rfl, ⟨⟨by rw [nv_len, rowN_len, hc], fun h => absurd h (by omega)⟩, fun p hp => by injection hp with hp; rw [← hp]⟩, GG⟩
  · have hne : ¬ q = p := by omega
    go_enter Tryz.func153, Tryz.ntmps153
    go_wp2_with fail
    ((first | refine wp_region_gen2 (by kernel_rfl) (by kernel_rfl) ?_ | refine wp_region_gen (by kernel_rfl) (by kernel_rfl) ?_); (repeat' (first | (refine gLex_val0 rfl (by kernel_rfl) (fun K hK => ?_); (go_simp; (try (simp only [↓IntWalk.iteOmega]; try go_simp)); (try simp (disch := omega) only [IntWalk.i64_in]); (try simp (disch := omega) only [IntWalk.u64_in]); first | (refine hK _ ?_; clear hK K) | (apply Exists.intro; refine ⟨fun x => ?_, hK _ ?_⟩; (first | fail); clear hK K))) | (refine gLex_undef rfl rfl rfl (by kernel_rfl) (fun K hK => ?_); go_simp; refine hK _ ?_; clear hK K) | (refine gLex_ask rfl rfl rfl ?_; first | (apply gAsk_yes; kernel_rfl; intro K hK; (go_simp; (try (simp only [↓IntWalk.iteOmega]; try go_simp)); (try simp (disch := omega) only [IntWalk.i64_in]); (try simp (disch := omega) only [IntWalk.u64_in]); first | (refine hK _ ?_; clear hK K) | (apply Exists.intro; refine ⟨fun x => ?_, hK _ ?_⟩; (first | fail); clear hK K))) | ((first | apply gAsk_no1 | apply gAsk_no2); kernel_rfl; intro K hK; simp [go_sem]; refine hK _ ?_; clear hK K) | (apply gAsk_part; kernel_rfl; all_goals (intro h K hK; (try simp only [Bool.not_true] at h); (try simp only [Bool.not_false] at h); (try simp only [decide_eq_true_eq] at h); (try simp only [decide_eq_false_iff_not] at h); first | (exfalso; first | contradiction | omega) | (go_simp; (try (simp only [↓IntWalk.iteOmega]; try go_simp)); (try simp (disch := omega) only [IntWalk.i64_in]); (try simp (disch := omega) only [IntWalk.u64_in]); first | (refine hK _ ?_; clear hK K) | (apply Exists.intro; refine ⟨fun x => ?_, hK _ ?_⟩; (first | fail); clear hK K))))))); all_goals ((apply gLex_end); intro y))
    go_wp2_with fail
    have hc : cntN f v n = q - p := by have := H4.out; omega
    have hl1 := H1.out.nlen
    have hrow := laid_row f n v X hl1 H3.out
    rw [HP.out, hc] at hrow
    go_ret
    rw [hc]
    refine ⟨_, rfl, ⟨?_, fun p hp => by injection hp with hp; rw [← hp]⟩, GG⟩
    refine ⟨by rw [nv_len, rowN_len, hc]; omega, fun h1 _ => ⟨g1, p, rfl, fun j u hu => ?_⟩⟩
    have hj : j < q - p := by
      have := (List.getElem?_eq_some_iff.1 hu).1
      rw [nv_len, rowN_len, hc] at this
      exact this
    have hx : (nv X)[p + j]? = some u := by
      rw [← hrow] at hu
      unfold nv at hu ⊢
      rw [List.getElem?_map] at hu ⊢
      rw [List.getElem?_take, if_pos hj, List.getElem?_drop] at hu
      exact hu
    exact (H1.out.mine hx).cell
def fN (E : List Edg) (i : Nat) : Nat := (ge E i).f.toNat
def tN (E : List Edg) (i : Nat) : Nat := (ge E i).t.toNat
def nN (E : List Edg) (back : Bool) : Nat → Nat := if back then tN E else fN E
def AdjAt (F : Nat → Prop) (w : World) (b N : Nat) (E : List Edg) : Prop :=
  ∃ A c g1 g2 g3 g4, Arr w b 113 [.int .i64 (N : Int), .slice A E.length c, .slice (some ⟨g1, 0, none⟩) E.length E.length, .slice (some ⟨g2, 0, none⟩) (N + 1) (N + 1), .slice (some ⟨g3, 0, none⟩) E.length E.length, .slice (some ⟨g4, 0, none⟩) (N + 1) (N + 1)] ∧
    Rd w A 3 E.length (esCells E) ∧ LaidIn w g1 g2 N E.length (fN E) ∧ LaidIn w g3 g4 N E.length (tN E) ∧ (F b ∧ F g1 ∧ F g2 ∧ F g3 ∧ F g4 ∧ ∀ p, A = some p → F p.block)
theorem LaidIn.touch {w w' : World} {g1 g2 N n : Nat} {f : Nat → Nat} {S : Nat → Prop} (h : LaidIn w g1 g2 N n f) (ht : Touch S w w') (h1 : ¬ S g1) (h2 : ¬ S g2) : LaidIn w' g1 g2 N n f := by
  obtain ⟨X, B, q1, q2, q3⟩ := h
  exact ⟨X, B, q1.touch ht h1, q2.touch ht h2, q3⟩
theorem AdjAt.touch {F S : Nat → Prop} {w w' : World} {b N : Nat} {E : List Edg} (h : AdjAt F w b N E) (ht : Touch S w w') (hs : ∀ k, F k → ¬ S k) : AdjAt F w' b N E := by
  obtain ⟨A, c, g1, g2, g3, g4, h1, h2, h3, h4, f0, f1, f2, f3, f4, f5⟩ := h
  exact ⟨A, c, g1, g2, g3, g4, h1.touch ht (hs _ f0), h2.touch ht (fun p hp => hs _ (f5 p hp)), h3.touch ht (hs _ f1) (hs _ f2), h4.touch ht (hs _ f3) (hs _ f4), f0, f1, f2, f3, f4, f5⟩
theorem AdjAt.grows {F : Nat → Prop} {w w' : World} {b N : Nat} {E : List Edg} (h : AdjAt F w b N E) (hg : Grows w w') : AdjAt F w' b N E := h.touch (hg.touch (fun _ => False)) (fun _ _ => id)
theorem AdjAt.mono {F F' : Nat → Prop} {w : World} {b N : Nat} {E : List Edg} (h : AdjAt F w b N E) (hf : ∀ k, F k → F' k) : AdjAt F' w b N E := by
  obtain ⟨A, c, g1, g2, g3, g4, h1, h2, h3, h4, f0, f1, f2, f3, f4, f5⟩ := h
  exact ⟨A, c, g1, g2, g3, g4, h1, h2, h3, h4, hf _ f0, hf _ f1, hf _ f2, hf _ f3, hf _ f4, fun p hp => hf _ (f5 p hp)⟩
def InN (N : Nat) (E : List Edg) : Prop := ∀ i, i < E.length → (0 ≤ (ge E i).f ∧ (ge E i).f < N) ∧ (0 ≤ (ge E i).t ∧ (ge E i).t < N)
theorem InN.f {N : Nat} {E : List Edg} (h : InN N E) (i : Nat) (hi : i < E.length) : fN E i < N ∧ (ge E i).f = (fN E i : Int) := by
  obtain ⟨⟨h1, h2⟩, h3, h4⟩ := h i hi
  unfold fN; omega
theorem InN.t {N : Nat} {E : List Edg} (h : InN N E) (i : Nat) (hi : i < E.length) : tN E i < N ∧ (ge E i).t = (tN E i : Int) := by
  obtain ⟨⟨h1, h2⟩, h3, h4⟩ := h i hi
  unfold tN; omega
theorem right_in {N : Int} {E : List Edg} (h : rightF N E = 0) : 1 ≤ N ∧ N ≤ 4096 ∧ E.length ≤ 16384 ∧ InN N.toNat E ∧ ∀ i, i < E.length → 1 ≤ (ge E i).w ∧ (ge E i).w ≤ 4294967296 := by
  unfold rightF at h
  split at h
  · cases h
  split at h
  · cases h
  split at h
  · cases h
  split at h
  · cases h
  rename_i h1 h2 h3 h4
  refine ⟨by omega, by omega, by omega, fun i hi => ?_, fun i hi => ?_⟩
  · have hm : ge E i ∈ E := by unfold ge; rw [List.getD_eq_getElem?_getD, List.getElem?_eq_getElem hi]; exact List.getElem_mem hi
    have : looseB N (ge E i) = false := by
      cases hh : looseB N (ge E i) with
      | false => rfl
      | true => exact absurd (List.any_eq_true.2 ⟨_, hm, hh⟩) h3
    unfold looseB at this
    simp only [Bool.or_eq_false_iff, Bool.not_eq_false'] at this
    obtain ⟨t1, t2, _⟩ := this
    unfold nodeB at t1 t2
    have t1 := of_decide_eq_true t1
    have t2 := of_decide_eq_true t2
    omega
  · have hm : ge E i ∈ E := by unfold ge; rw [List.getD_eq_getElem?_getD, List.getElem?_eq_getElem hi]; exact List.getElem_mem hi
    have : heavyB (ge E i) = false := by
      cases hh : heavyB (ge E i) with
      | false => rfl
      | true => exact absurd (List.any_eq_true.2 ⟨_, hm, hh⟩) h4
    unfold heavyB wtB at this
    simp at this
    exact this
set_option maxRecDepth 20000 in
set_option maxHeartbeats 2000000 in
theorem adjRow (F : Nat → Prop) (b N : Nat) (E : List Edg) (v : Nat) (back : Bool) (w : World) (h : AdjAt F w b N E) (hE : InN N E) (hv : v < N) (hn : E.length ≤ 1000000) (hN : N ≤ 100000) :
    Calls Tryz.prog 132 #[.pointer (some ⟨b, 0, none⟩), .int .i64 (v : Int), .bool back] w fun e w' => ∃ A, e = .returned (.slice A (cntN (nN E back) v E.length) (cntN (nN E back) v E.length)) ∧ (Rd w A 1 (cntN (nN E back) v E.length) (nv (rowN (nN E back) E.length v)) ∧ ∀ p, A = some p → F p.block) ∧ Grows w w' := by
  obtain ⟨A, c, g1, g2, g3, g4, h1, h2, h3, h4, f0, f1, f2, f3, f4, f5⟩ := h
  have H3 := hide h3
  have H4 := hide h4
  have HE := hide hE
  clear h3 h4 hE h2 f5
  cases back with
  | false =>
    have C := hide (fun (W : World) (g : Grows w W) => adjOf g1 g2 N E.length (fN E) v w W H3.out g hv hn hN (fun i hi => (HE.out.f i hi).1))
    unfold rowsVal at C
    go_enter Tryz.func132, Tryz.ntmps132
    go_wp2_with (go_at_call 153; refine (C.out _ GG).mono ?_; rintro e w' ⟨A', rfl, hr, hg⟩; obtain ⟨x, rfl⟩ := hg.later; have HR := hide hr; clear hg hr)
    go_ret
    exact ⟨A', rfl, ⟨HR.out.1, fun p hp => by rw [HR.out.2 p hp]; exact f1⟩, GG⟩
  | true =>
    have C := hide (fun (W : World) (g : Grows w W) => adjOf g3 g4 N E.length (tN E) v w W H4.out g hv hn hN (fun i hi => (HE.out.t i hi).1))
    unfold rowsVal at C
    go_enter Tryz.func132, Tryz.ntmps132
    go_wp2_with (go_at_call 153; refine (C.out _ GG).mono ?_; rintro e w' ⟨A', rfl, hr, hg⟩; obtain ⟨x, rfl⟩ := hg.later; have HR := hide hr; clear hg hr)
    go_ret
    exact ⟨A', rfl, ⟨HR.out.1, fun p hp => by rw [HR.out.2 p hp]; exact f3⟩, GG⟩
section
variable {P : Program} {w0 : World}
theorem gLex_endT2 {ops : Array Oper} {Q : Exit → Act → World → Prop} {tail : List Oper} {a : Act} {t1 t2 : Tmp} {p1 p2 : Pr} (hne : t1 ≠ t2) (h1 : t1 < a.tmps.size) (h2 : t2 < a.tmps.size)
    (h : ∀ (x : Later w0) v1 v2, p1 v1 x.now → p2 v2 x.now → wpList P ops Q tail ((a.put (some t2) v2).put (some t1) v1) x.now) :
    gLex P ops w0 (fun a G => ∀ w', Grows w0 w' → ∀ a', Conc G a a' w' → wpList P ops Q tail a' w') [] a ((Env.no.upd t1 p1).upd t2 p2) :=
  fun w' hw a' hc => by
    obtain ⟨v2, hv2⟩ := conc_upd hc h2
    rcases hv2 with ⟨hp2, hc2⟩ | hne2
    · obtain ⟨v1, hv1⟩ := conc_upd hc2 (by simpa [Act.put] using h1)
      rcases hv1 with ⟨hp1, hc1⟩ | hne1
      · rw [conc_no hc1]
        exact h ⟨w', hw⟩ v1 v2 hp1 hp2
      · exact absurd rfl hne1
    · exact absurd (by simp [Env.upd, Env.no, Ne.symm hne]) hne2
end
def LaidP (lo N n : Nat) (f : Nat → Nat) : Pr := fun u w => ∃ g1 g2, u = .agg #[.slice (some ⟨g1, 0, none⟩) n n, .slice (some ⟨g2, 0, none⟩) (N + 1) (N + 1)] ∧ LaidIn w g1 g2 N n f ∧ lo ≤ g1 ∧ lo ≤ g2
theorem LaidP.lasts (lo N n : Nat) (f : Nat → Nat) : Lasts (LaidP lo N n f) := fun _ _ _ hg ⟨g1, g2, e, h, l1, l2⟩ => ⟨g1, g2, e, h.grows hg, l1, l2⟩
theorem adjNewNo (N : Int) (A : Option Addr) (n c : Nat) (E : List Edg) (w : World) (h : Rd w A 3 n (esCells E)) (hn : n ≤ 1000000) (hr : rightF N E ≠ 0) :
    Calls Tryz.prog 33 #[.agg #[.int .i64 N, .slice A n c]] w fun e w' => e = .returned (.tuple #[.pointer none, .int .i64 1]) ∧ Grows w w' := by
  have C1 := hide (fun (W : World) (g : Grows w W) => gRight N A n c E W (h.grows g) hn)
  have hr2 : (rightF N E == 0) = false := beq_eq_false_iff_ne.2 hr
  clear h
  generalize rightF N E = r at *
  go_enter Tryz.func33, Tryz.ntmps33
  go_wp2_with (go_at_call 31; refine (C1.out _ GG).mono ?_; rintro e w' ⟨rfl, hg⟩; obtain ⟨x1, rfl⟩ := hg.later; clear hg)
  go_ret2
  exact ⟨rfl, GG⟩
set_option maxRecDepth 20000 in
set_option maxHeartbeats 2000000 in
theorem adjNew (N : Nat) (A : Option Addr) (n c : Nat) (E : List Edg) (w : World) (h : Rd w A 3 n (esCells E)) (hn : n ≤ 1000000) (hr : rightF N E = 0) :
    Calls Tryz.prog 33 #[.agg #[.int .i64 (N : Int), .slice A n c]] w fun e w' => ∃ b, e = .returned (.tuple #[.pointer (some ⟨b, 0, none⟩), .int .i64 0]) ∧ AdjAt (New w w') w' b N E ∧ Grows w w' := by
  obtain ⟨r1, r2, r3, r4, r5⟩ := right_in hr
  rw [Int.toNat_natCast] at r4
  have hl := h.elen
  subst hl
  have C1 := hide (fun (W : World) (g : Grows w W) => gRight N A _ c E W (h.grows g) hn)
  rw [hr] at C1
  have C2 := hide (fun (W : World) (g : Grows w W) => gClone N A _ c E W (h.grows g) hn)
  have C3 := hide (fun (W : World) (A1 : Option Addr) (c1 : Nat) (h1 : Rd W A1 3 E.length (esCells E)) => adjLaid N A1 _ c1 E 65 (fun e => e.f.toNat) W h1 hn (by omega) (fun _ _ => by rfl) (fun i hi W => by
    have := adjFrom (ge E i) W; rw [(r4.f i hi).2] at this; exact this) (fun i hi => (r4.f i hi).1))
  have C4 := hide (fun (W : World) (A1 : Option Addr) (c1 : Nat) (h1 : Rd W A1 3 E.length (esCells E)) => adjLaid N A1 _ c1 E 66 (fun e => e.t.toNat) W h1 hn (by omega) (fun _ _ => by rfl) (fun i hi W => by
    have := adjTo (ge E i) W; rw [(r4.t i hi).2] at this; exact this) (fun i hi => (r4.t i hi).1))
  clear h hr r4 r5
  go_enter Tryz.func33, Tryz.ntmps33
  go_wp2_with fail
  refine (C1.out _ GG).mono ?_; rintro e w' ⟨rfl, hg⟩; obtain ⟨x1, rfl⟩ := hg.later; clear hg
  have hsz : w.heap.size < x1.now.heap.size := by have := x1.size; simp at this; omega
  go_wp2_with fail
  refine (C2.out _ GG).mono ?_; rintro e w' ⟨A1, c1, rfl, ho, hg⟩; obtain ⟨x2, rfl⟩ := hg.later
  have ho2 := ((ho.low (q := ⟨w.heap.size, 0, none⟩) hsz (.int .i64 (N : Int))).low (q := ⟨w.heap.size, 1, none⟩) hsz (.slice A1 E.length c1))
  have HO : Hid (Rd ((x2.now.setCell ⟨w.heap.size, 0, none⟩ (.int .i64 (N : Int))).setCell ⟨w.heap.size, 1, none⟩ (.slice A1 E.length c1)) A1 3 E.length (esCells E) ∧ ∀ p, A1 = some p → w.heap.size ≤ p.block ∧ p.block < ((x2.now.setCell ⟨w.heap.size, 0, none⟩ (.int .i64 (N : Int))).setCell ⟨w.heap.size, 1, none⟩ (.slice A1 E.length c1)).heap.size) := by
    refine ⟨ho2.rd, fun p hp => ?_⟩
    subst hp
    have := World.ownsRow.lt ho2 p.block rfl
    exact ⟨by omega, this.2⟩
  clear ho2
  clear hg ho
  go_upto_region 4 with fail
  have hgW : Grows w ((x2.now.setCell ⟨w.heap.size, 0, none⟩ (.int .i64 (N : Int))).setCell ⟨w.heap.size, 1, none⟩ (.slice A1 E.length c1)) := GG
  have m0 : Mine ((x2.now.setCell ⟨w.heap.size, 0, none⟩ (.int .i64 (N : Int))).setCell ⟨w.heap.size, 1, none⟩ (.slice A1 E.length c1)) ⟨w.heap.size, 0, none⟩ (.int .i64 (N : Int)) := ⟨by simp [go_sem], by simp [go_sem]⟩
  have m1 : Mine ((x2.now.setCell ⟨w.heap.size, 0, none⟩ (.int .i64 (N : Int))).setCell ⟨w.heap.size, 1, none⟩ (.slice A1 E.length c1)) ⟨w.heap.size, 1, none⟩ (.slice A1 E.length c1) := ⟨by simp [go_sem], by simp [go_sem]⟩
  generalize (x2.now.setCell ⟨w.heap.size, 0, none⟩ (.int .i64 (N : Int))).setCell ⟨w.heap.size, 1, none⟩ (.slice A1 E.length c1) = W0 at *
  (refine wp_region_tail1 11 (by kernel_rfl) (by kernel_rfl) ?_; simp only [List.take_succ_cons, List.take_zero, List.drop_succ_cons, List.drop_zero]; (repeat' (first | (refine gLex_val0 rfl (by kernel_rfl) (fun K hK => ?_); (go_simp; (try (simp only [↓IntWalk.iteOmega]; try go_simp)); (try simp (disch := omega) only [IntWalk.i64_in]); (try simp (disch := omega) only [IntWalk.u64_in]); first | (refine hK _ ?_; clear hK K) | (apply Exists.intro; refine ⟨fun x => ?_, hK _ ?_⟩; (first | fail); clear hK K))) | (refine gLex_undef rfl rfl rfl (by kernel_rfl) (fun K hK => ?_); go_simp; refine hK _ ?_; clear hK K) | (refine gLex_ask rfl rfl rfl ?_; first | (apply gAsk_yes; kernel_rfl; intro K hK; (go_simp; (try (simp only [↓IntWalk.iteOmega]; try go_simp)); (try simp (disch := omega) only [IntWalk.i64_in]); (try simp (disch := omega) only [IntWalk.u64_in]); first | (refine hK _ ?_; clear hK K) | (apply Exists.intro; refine ⟨fun x => ?_, hK _ ?_⟩; (first | fail); clear hK K))) | ((first | apply gAsk_no1 | apply gAsk_no2); kernel_rfl; intro K hK; simp [go_sem]; refine hK _ ?_; clear hK K)))))
  refine gLex_prop rfl (by kernel_rfl) rfl (by simp) (LaidP w.heap.size N E.length (fN E)) (LaidP.lasts _ _ _ _) (fun x => by
    go_simp
    refine (C3.out _ A1 c1 (HO.out.1.grows GG)).mono ?_
    rintro e w' ⟨g1, g2, X, B, rfl, q1, q2, q3, q4, l1, l2, hg⟩
    have hlx := (show Grows w x.now from GG).size
    exact ⟨_, rfl, hg, g1, g2, rfl, ⟨X, B, q1, q2, q3, q4⟩, by omega, by omega⟩) ?_
  (repeat' (first | (refine gLex_val0 rfl (by kernel_rfl) (fun K hK => ?_); (go_simp; (try (simp only [↓IntWalk.iteOmega]; try go_simp)); (try simp (disch := omega) only [IntWalk.i64_in]); (try simp (disch := omega) only [IntWalk.u64_in]); first | (refine hK _ ?_; clear hK K) | (apply Exists.intro; refine ⟨fun x => ?_, hK _ ?_⟩; (first | fail); clear hK K))) | (refine gLex_undef rfl rfl rfl (by kernel_rfl) (fun K hK => ?_); go_simp; refine hK _ ?_; clear hK K) | (refine gLex_ask rfl rfl rfl ?_; first | (apply gAsk_yes; kernel_rfl; intro K hK; (go_simp; (try (simp only [↓IntWalk.iteOmega]; try go_simp)); (try simp (disch := omega) only [IntWalk.i64_in]); (try simp (disch := omega) only [IntWalk.u64_in]); first | (refine hK _ ?_; clear hK K) | (apply Exists.intro; refine ⟨fun x => ?_, hK _ ?_⟩; (first | fail); clear hK K))) | ((first | apply gAsk_no1 | apply gAsk_no2); kernel_rfl; intro K hK; simp [go_sem]; refine hK _ ?_; clear hK K))))
  refine gLex_prop rfl (by kernel_rfl) rfl (by simp) (LaidP w.heap.size N E.length (tN E)) (LaidP.lasts _ _ _ _) (fun x => by
    go_simp
    refine (C4.out _ A1 c1 (HO.out.1.grows GG)).mono ?_
    rintro e w' ⟨g1, g2, X, B, rfl, q1, q2, q3, q4, l1, l2, hg⟩
    have hlx := (show Grows w x.now from GG).size
    exact ⟨_, rfl, hg, g1, g2, rfl, ⟨X, B, q1, q2, q3, q4⟩, by omega, by omega⟩) ?_
  refine gLex_endT2 (by decide) (by simp) (by simp) (fun x v1 v2 hv1 hv2 => ?_)
  obtain ⟨g1, g2, rfl, hL1, l1, l2⟩ := hv1
  obtain ⟨g3, g4, rfl, hL2, l3, l4⟩ := hv2
  have HL1 := hide hL1
  have HL2 := hide hL2
  clear hL1 hL2
  simp only [Act.put, List.setIfInBounds_toArray, List.set_cons_zero, List.set_cons_succ]
  go_wp2_with fail
  go_ret2
  have hg2 : Grows W0 x.now := GG
  have hnew : Grows x.now (x.now.alloc (.cells #[.int .i64 (N : Int), .slice A1 E.length c1, .slice (some ⟨g1, 0, none⟩) E.length E.length, .slice (some ⟨g2, 0, none⟩) (N + 1) (N + 1), .slice (some ⟨g3, 0, none⟩) E.length E.length, .slice (some ⟨g4, 0, none⟩) (N + 1) (N + 1)] 113)) := (Grows.refl _).new _
  have hgw := hgW.trans hg2
  have hsz2 := hgw.size
  obtain ⟨X1, B1, z1, z2, _⟩ := HL1.out
  obtain ⟨X2, B2, z3, z4, _⟩ := HL2.out
  have y1 := z1.lt
  have y2 := z2.lt
  have y3 := z3.lt
  have y4 := z4.lt
  have hnn : (x.now.alloc (.cells #[.int .i64 (N : Int), .slice A1 E.length c1, .slice (some ⟨g1, 0, none⟩) E.length E.length, .slice (some ⟨g2, 0, none⟩) (N + 1) (N + 1), .slice (some ⟨g3, 0, none⟩) E.length E.length, .slice (some ⟨g4, 0, none⟩) (N + 1) (N + 1)] 113)).heap.size = x.now.heap.size + 1 := by simp
  refine ⟨x.now.heap.size, rfl, ⟨A1, c1, g1, g2, g3, g4, Arr.make _ _ _, (HO.out.1.grows hg2).grows hnew, HL1.out.grows hnew, HL2.out.grows hnew, ⟨hsz2, by rw [hnn]; omega⟩, ⟨l1, by rw [hnn]; omega⟩, ⟨l2, by rw [hnn]; omega⟩, ⟨l3, by rw [hnn]; omega⟩, ⟨l4, by rw [hnn]; omega⟩, fun p hp => ?_⟩, hgw.trans hnew⟩
  have := HO.out.2 p hp
  have h3 := hg2.size
  exact ⟨this.1, by rw [hnn]; omega⟩
end Go.Proofs.YtomednfddpggaaaGreat

/- Regions that draw their order, inside a round of a range over a function: the same one walk. -/
namespace Go.Proofs.YtomednfddpggaaaGreat
open Go Go.RowKit

structure WideF (F : Fence) : Prop where
  fn : ∀ f, F.fn f
  calls : ∀ (n : Nat) (P : Program) (f : FuncId) (args : Array Value) (w : World) (R : Ending → World → Prop), Calls P f args w R → CallsIn F n P f args w R
  depth : F.depth = none
theorem wideF_wide : WideF Fence.wide := ⟨fun _ => trivial, fun _ _ _ _ _ _ h => callsIn_wide.2 h, rfl⟩
theorem wideF_round (l : Nat) : WideF (Fence.wide.inRound l) := ⟨fun _ => trivial, fun _ _ _ _ _ _ h => callsIn_wide.2 h, rfl⟩

theorem wide_fn (f : FuncId) : Fence.wide.fn f = True := rfl
theorem wide_depth : Fence.wide.depth = none := rfl
attribute [go_sem] wide_fn wide_depth

def noDefer (l : List Oper) : Bool := l.all fun o => match o.op with | .defer _ => false | _ => true

section
variable {F : Fence} {m : Nat} {P : Program} {ops : Array Oper} {md : Region.Mode} {w0 : World}

theorem semAt_of {o : Oper} (h : (match o.op with | .defer _ => false | _ => true) = true) (r : Option Nat) (ρ : Operand → Value) : o.semAt r ρ = execOp ρ o := by
  cases r with
  | none => exact Oper.semAt_none ρ o
  | some l => exact Oper.semAt_some l ρ o fun c e => by rw [e] at h; cases h

theorem wpIn_of_runs (hF : WideF F) {o : Oper} (hd : (match o.op with | .defer _ => false | _ => true) = true) {a' : Act} {w : World} {q : Value → World → Prop} {K : Act → World → Prop} {Q : Exit → Act → World → Prop}
    (hrun : runsTo P q ((execOp a'.eval o).run P w)) (hK : ∀ u w', q u w' → K (a'.put o.dst u) w') : o.wpIn F m P a' w K Q := by
  unfold Oper.wpIn
  refine ⟨fun f _ => hF.fn f, ?_⟩
  rw [semAt_of hd]
  generalize (execOp a'.eval o).run P w = res at hrun
  cases res with
  | halt x w' => simp only [runsTo] at hrun
  | ok x w' =>
    cases x <;> simp only [runsTo] at hrun <;> simp only [Oper.uponIn]
    case value u => exact hK _ _ hrun
    case skip => exact hK _ _ hrun
    case enter f args =>
      refine ⟨fun h => (by rw [hF.depth] at h; cases h), hF.calls _ _ _ _ _ _ (hrun.mono fun e w'' ⟨u, he, hq⟩ => ?_)⟩
      subst he
      exact hK _ _ hq

theorem wpAnyIn_of_gAny (hF : WideF F) (hnd : ∀ o ∈ ops.toList, (match o.op with | .defer _ => false | _ => true) = true) {Q : Exit → Act → World → Prop} : ∀ (n : Nat) (l : Array Bool) (a : Act) (G : Env) (a' : Act) (w : World), Grows w0 w → AllLast G → Conc G a a' w →
    gAny P md ops w0 (fun a G => ∀ w, Grows w0 w → ∀ a', Conc G a a' w → Q .normal a' w) n l a G → wpAnyIn F m P md ops Q n l a' w
  | 0, _, _, _, _, _, hw, _, hc, h => ⟨h.1, h.2 _ hw _ hc⟩
  | n + 1, l, a, G, a', w, hw, hG, hc, h => by
    refine ⟨fun h0 => h.1 h0 _ hw _ hc, fun i hi => ?_⟩
    have h1 := h.2 i hi
    unfold gOp at h1
    unfold wpOpIn
    split
    · rename_i ho
      simp only [ho] at h1
      exact wpAnyIn_of_gAny hF hnd n _ a G a' w hw hG hc h1
    · rename_i o ho
      simp only [ho] at h1
      obtain ⟨r, ⟨hg, hd, hy⟩, hK⟩ := h1
      rw [wanted_conc hg hc]
      rcases hy with ⟨hwant, hl, hf, howe⟩ | ⟨hwant, rfl⟩
      · rw [if_pos hwant]
        exact wpIn_of_runs hF (hnd o (by have := Array.mem_of_getElem? ho; simpa using this)) (howe w hw a' (fun t _ => hc.2 t)) fun u w' hq =>
          wpAnyIn_of_gAny hF hnd n _ _ _ _ _ (hw.trans hq.1) (hG.putG hl) (hc.step hG hq.1 hd hf hq.2) hK
      · rw [hwant]
        simp only [Bool.false_eq_true, if_false]
        refine ⟨fun f _ => hF.fn f, ?_⟩
        have hG0 : putG G o.dst (.inl undef) = G := by cases o.dst <;> rfl
        rw [hG0] at hK
        have hc0 := hc.step hG (Grows.refl w) hd (r := .inl undef) (u := undef) trivial rfl
        rw [hG0] at hc0
        exact wpAnyIn_of_gAny hF hnd n _ _ _ _ _ hw hG hc0 hK

theorem wpIn_region_from (hF : WideF F) {w0 : World} {id : Nat} {Q : Exit → Act → World → Prop} {a : Act} {w : World} {l : List Oper} (hm : P.follows .mixedOrders = true) (hB : Region.lexB .any l.toArray = true) (hnd : noDefer l = true)
    (hw0 : Grows w0 w) (h : gLex P l.toArray w0 (fun a G => ∀ w', Grows w0 w' → ∀ a', Conc G a a' w' → Q .normal a' w') l a Env.no) : (Code.region id l.toArray true).wpIn F m P Q a w := by
  simp only [Region.lexB, Bool.and_eq_true] at hB
  refine wpIn_region_any hm (wpAnyIn_of_gAny hF (by simpa [noDefer, List.all_eq_true] using hnd) (w0 := w0) _ _ a Env.no _ _ (hw0.trans (Grows.drawn w _)) (fun t p h => by cases h) ⟨rfl, fun t => rfl⟩ ?_)
  have := gAny_of_lex (ops := l.toArray) (md := .any) l 0 (Array.replicate l.length false) a Env.no (by simp) (by simpa using hB.2) h
  simpa using this

theorem wpIn_region_gen (hF : WideF F) {id : Nat} {Q : Exit → Act → World → Prop} {a : Act} {w : World} {l : List Oper} (hm : P.follows .mixedOrders = true) (hB : Region.lexB .any l.toArray = true) (hnd : noDefer l = true)
    (h : gLex P l.toArray w (fun a G => ∀ w', Grows w w' → ∀ a', Conc G a a' w' → Q .normal a' w') l a Env.no) : (Code.region id l.toArray true).wpIn F m P Q a w :=
  wpIn_region_from hF hm hB hnd (Grows.refl w) h
theorem wpIn_region_gen2 (hF : WideF F) {id : Nat} {Q : Exit → Act → World → Prop} {a : Act} {w : World} {x : Later w} {l : List Oper} (hm : P.follows .mixedOrders = true) (hB : Region.lexB .any l.toArray = true) (hnd : noDefer l = true)
    (h : gLex P l.toArray w (fun a G => ∀ w', Grows w w' → ∀ a', Conc G a a' w' → Q .normal a' w') l a Env.no) : (Code.region id l.toArray true).wpIn F m P Q a x.now :=
  wpIn_region_from hF hm hB hnd x.grows h
theorem calls_in (hF : WideF F) {f : FuncId} {args : Array Value} {w : World} {R : Ending → World → Prop} (h : Calls P f args w R) : CallsIn F m P f args w R := hF.calls _ _ _ _ _ _ h
end
end Go.Proofs.YtomednfddpggaaaGreat

/- The edges of a node, handed over one by one. -/
namespace Go.Proofs.YtomednfddpggaaaGreat
open Go Go.RowKit
attribute [local go_sem] Oper.semAt_some
set_option maxHeartbeats 1000000 in
theorem adjEach (b : Nat) (v : Int) (back : Bool) (w : World) : Calls Tryz.prog 96 #[.pointer (some ⟨b, 0, none⟩), .int .i64 v, .bool back] w fun e w' =>
    ∃ b1, e = .returned (.func (.func 131) #[] #[.pointer (some ⟨b1, 0, none⟩), .pointer (some ⟨b1 + 1, 0, none⟩), .pointer (some ⟨b1 + 1 + 1, 0, none⟩)]) ∧ w.heap.size = b1 ∧
      Arr w' b1 63 [.pointer (some ⟨b, 0, none⟩)] ∧ Arr w' (b1 + 1) 3 [.int .i64 v] ∧ Arr w' (b1 + 1 + 1) 4 [.bool back] ∧ Grows w w' := by
  go_enter Tryz.func96, Tryz.ntmps96
  go_wp2
  go_ret
  refine ⟨w.heap.size, rfl, rfl, ⟨by simp [heap_push, Array.getElem_push, Array.getElem?_push, eq_add2]⟩, ⟨by simp [heap_push, Array.getElem_push]⟩, ⟨by simp [heap_push, Array.getElem_push]⟩, GG⟩
def encE (E : List Edg) (i : Nat) : Array Value := #[.int .i64 (i : Int), eVal (ge E i)]
set_option maxRecDepth 20000 in
set_option maxHeartbeats 2000000 in
theorem each_gives (F B M0 : Nat → Prop) (b N : Nat) (E : List Edg) (v : Nat) (back : Bool) (b1 : Nat) (w : World) (hA : AdjAt F w b N E) (hF : ∀ k, F k → B k ∨ M0 k) (hE : InN N E) (hv : v < N) (hn : E.length ≤ 1000000) (hN : N ≤ 100000)
    (hm : ∀ k, M0 k → k < w.heap.size) (m1 : B b1 ∨ M0 b1) (m2 : B (b1 + 1) ∨ M0 (b1 + 1)) (m3 : B (b1 + 1 + 1) ∨ M0 (b1 + 1 + 1))
    (a1 : Arr w b1 63 [.pointer (some ⟨b, 0, none⟩)]) (a2 : Arr w (b1 + 1) 3 [.int .i64 (v : Int)]) (a3 : Arr w (b1 + 1 + 1) 4 [.bool back]) :
    Gives Tryz.prog 131 #[.pointer (some ⟨b1, 0, none⟩), .pointer (some ⟨b1 + 1, 0, none⟩), .pointer (some ⟨b1 + 1 + 1, 0, none⟩)] (encE E) B M0 (rowN (nN E back) E.length v) w := by
  intro l J Jx W hkW hJ hJx hY h0
  have HJ := hide hJ
  have HY := hide hY
  have H0 := hide h0
  have HE := hide hE
  have hF2 : ∀ k, F k → ¬ ¬ (B k ∨ M0 k) := fun k hk h1 => h1 (hF k hk)
  have HF := hide hF2
  have HA := hide (hA.touch hkW hF2)
  have i1 : Arr W b1 63 [.pointer (some ⟨b, 0, none⟩)] := ⟨hkW.at m1 a1.is⟩
  have i2 : Arr W (b1 + 1) 3 [.int .i64 (v : Int)] := ⟨hkW.at m2 a2.is⟩
  have i3 : Arr W (b1 + 1 + 1) 4 [.bool back] := ⟨hkW.at m3 a3.is⟩
  have C := hide (adjRow F b N E v back W HA.out HE.out hv hn hN)
  have hmW : ∀ k, M0 k → k < W.heap.size := fun k hk => Nat.lt_of_lt_of_le (hm k hk) hkW.size
  have HM := hide hmW
  have HM1 := hide m1
  clear hJ hY h0 hE hA hkW a1 a2 a3 hm hmW hF hF2 m2 m3
  have hrl : Hid ((rowN (nN E back) E.length v).length = cntN (nN E back) v E.length) := rowN_len _ _ _
  have hcl := cntN_le (nN E back) v E.length
  generalize hxs : rowN (nN E back) E.length v = xs at *
  generalize hcn : cntN (nN E back) v E.length = cn at *
  have HXS := hide hxs
  clear hxs hcn
  refine callsIn_of_wp Tryz.func131 rfl trivial ?_ rfl
  simp only [Tryz.ntmps131, List.size_toArray, List.length_cons, List.length_nil, Nat.reduceAdd, Nat.reduceSub, Array.replicate_succ, Array.replicate_zero, List.push_toArray, List.append_toArray, List.nil_append, List.cons_append]
  gi_wp2_with (gi_at_call 132; refine (calls_in wideF_wide C.out).mono ?_; rintro e w' ⟨A, rfl, hr, hg⟩; obtain ⟨x1, rfl⟩ := hg.later; have HR := hide hr; clear hg hr)
  have HK1 : Hid (Keeps B M0 W x1.now) := x1.grows.touch _
  have H1 : Hid (J [] M0 x1.now) := HJ.out [] _ W _ _ H0.out (x1.grows.touch _) (fun k hk => ⟨.inl hk, Nat.lt_of_lt_of_le (HM.out k hk) x1.size⟩)
  clear H0
  gi_loopw [12] (fun s wr => ∃ k : Nat, k ≤ cn ∧ s = .int .i64 (k : Int) ∧ Keeps B M0 W wr ∧ J (xs.take k) M0 wr) (fun s _ => cn - (Go.RowKit.intOf s).toNat)
  case atStart => exact ⟨0, by omega, by go_num, HK1.out, H1.out⟩
  case round =>
    obtain ⟨k, hk, rfl, hkp, hj⟩ := hrel
    have j1 : Arr wr b1 63 [.pointer (some ⟨b, 0, none⟩)] := ⟨hkp.at HM1.out i1.is⟩
    have HAr := hide (HA.out.touch hkp HF.out)
    have HRr := hide (Rd.touch HR.out.1 hkp (fun p hp => HF.out _ (HR.out.2 p hp)))
    have HJ1 := hide hj
    have HKP := hide hkp
    clear hj hkp H1 HK1
    by_cases hlt : k < cn
    · have hxk : k < xs.length := by rw [hrl.out]; exact hlt
      obtain ⟨g, off, rfl, hc⟩ := HRr.out.at_ (by omega)
      have c1 : Holds wr ⟨g, off + k, none⟩ (.int .i64 (gn xs k : Int)) := ⟨hc k _ (nv_at hxk)⟩
      obtain ⟨EA, cE, g1, g2, g3, g4, e1, e2, _, _⟩ := HAr.out
      have hin : gn xs k < E.length := by
        have : (rowN (nN E back) E.length v)[k]? = some (gn xs k) := by rw [HXS.out]; simp [gn, hxk]
        exact rowN_lt _ this
      obtain ⟨ge0, offe, rfl, hce⟩ := e2.edgesH (by omega)
      obtain ⟨q1, q2, q3⟩ := hce _ hin
      have hsp : xs = xs.take k ++ gn xs k :: xs.drop (k + 1) := by
        have : gn xs k = xs[k] := by simp [gn, hxk]
        rw [this, List.getElem_cons_drop, List.take_append_drop]
      obtain ⟨fn, tmps, assign, body, hy, hR⟩ := HY.out _ _ _ _ _ hsp HJ1.out
      unfold encE eVal at hy
      have HRR := hide hR
      have HSP := hide hsp
      clear hc hce hR hsp e2
      gi_wp2
      refine HRR.out.mono ?_
      rintro e W3 (⟨rfl, hJ3, hk3⟩ | ⟨rfl, hJx3, _⟩)
      · have HJ3 := hide hJ3
        have HK3 := hide hk3
        clear hJ3 hk3
        gi_wp2
        go_roundw
        case rel =>
          refine ⟨k + 1, by omega, by go_num, HKP.out.trans HK3.out, ?_⟩
          have e : xs.take (k + 1) = xs.take k ++ [gn xs k] := by
            rw [List.take_succ_eq_append_getElem hxk]
            simp [gn, hxk]
          rw [e]
          exact HJ3.out
        case measure => simp [Go.RowKit.intOf]; omega
      · have HJX := hide hJx3
        clear hJx3
        gi_wp2
        refine bodyPost_ret (results_none rfl _ _ _) rfl ?_
        exact ⟨⟨_, rfl⟩, .inr ⟨xs.take k, gn xs k, xs.drop (k + 1), _, HSP.out, HJX.out⟩⟩
    · have hke : xs.take k = xs := List.take_of_length_le (by rw [hrl.out]; omega)
      have HJ2 := HJ1.out
      rw [hke] at HJ2
      have HJE := hide HJ2
      clear HJ2 hke
      gi_wp2
      go_end0
      exact ⟨⟨_, rfl⟩, .inl ⟨_, HJE.out⟩⟩
end Go.Proofs.YtomednfddpggaaaGreat
