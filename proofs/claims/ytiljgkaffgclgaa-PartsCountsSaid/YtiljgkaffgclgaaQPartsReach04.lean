/- Who comes to whom (Tarjan), as functions. -/
import Derived.Test.YtiljgkaffgclgaaQPartsReach03
import Derived.Test.YtiljgkaffgclgaaQPartsReach01
import Derived.Deep.DeepCutAuto
import Derived.Lib.SliceRun
import Derived.Test.YtiljgkaffgclgaaQPartsReach00
import Derived.RangeFuncSeq
import Derived.RangeFuncLeaves
import Derived.RangeFuncRecord
import Derived.RangeFuncCalls
/- Who comes to whom (Tarjan), as functions. -/
namespace Go.Proofs.Ytiljgkaffgclgaa
open Go Go.RowKit
/-- What is known: when each node was met, the least that it comes back to, its part, the stack, how many were met, which are on the stack. -/
structure TjS where
  (met low part : List Int)
  stk : List Nat
  now : Int
  und : List Bool
def gbo (l : List Bool) (i : Nat) : Bool := l.getD i false
/-- Where a node first is in a row; its length if nowhere. -/
def ixOf (l : List Nat) (v : Nat) : Nat := l.findIdx (· == v)
/-- The least of the first ones. -/
def minT (l : List Nat) : Nat → Nat
  | 0 => gn l 0
  | k + 1 => min (minT l k) (gn l k)
def minL (l : List Nat) : Nat := minT l l.length
def setAll {α : Type} (p : List α) (l : List Nat) (x : α) : List α := l.foldl (fun p u => p.set u x) p
def TjS.enter (s : TjS) (v : Nat) : TjS := { s with now := s.now + 1, met := s.met.set v (s.now + 1), low := s.low.set v (s.now + 1), stk := s.stk ++ [v], und := s.und.set v true }
def TjS.lower (s : TjS) (v : Nat) (x : Int) : TjS := { s with low := s.low.set v (min (gi s.low v) x) }
def TjS.edge (rec : Nat → TjS → TjS) (v u : Nat) (s : TjS) : TjS :=
  if gi s.met u = 0 then (rec u s).lower v (gi (rec u s).low u)
  else if gbo s.und u = true then s.lower v (gi s.met u) else s
def TjS.cut (s : TjS) (v : Nat) : TjS :=
  { s with part := setAll s.part (s.stk.drop (ixOf s.stk v)) (minL (s.stk.drop (ixOf s.stk v)) : Int), und := setAll s.und (s.stk.drop (ixOf s.stk v)) false, stk := s.stk.take (ixOf s.stk v) }
def TjS.close (s : TjS) (v : Nat) : TjS := if gi s.low v < gi s.met v then s else s.cut v
/-- A node and all that come of it; at most n calls deep. -/
def tj (row : Nat → List Nat) : Nat → Nat → TjS → TjS
  | 0, _, s => s
  | n + 1, v, s => ((row v).foldl (fun s u => s.edge (tj row n) v u) (s.enter v)).close v
structure TjOk (N : Nat) (s : TjS) : Prop where
  m : s.met.length = N
  l : s.low.length = N
  p : s.part.length = N
  u : s.und.length = N
  stk : ∀ u ∈ s.stk, u < N ∧ gi s.met u ≠ 0
  len : (s.stk.length : Int) ≤ s.now
  now : s.now + (s.met.count 0 : Nat) = N
theorem TjOk.le {N : Nat} {s : TjS} (h : TjOk N s) : 0 ≤ s.now ∧ s.now ≤ N := by
  have h1 := h.now
  have h2 : s.met.count 0 ≤ s.met.length := List.count_le_length
  rw [h.m] at h2
  omega
/-- What stays on the way. -/
structure TjX (s s' : TjS) : Prop where
  met : ∀ u, gi s.met u ≠ 0 → gi s'.met u = gi s.met u
  stk : s.stk <+: s'.stk
  cnt : s'.met.count 0 ≤ s.met.count 0
theorem TjX.refl (s : TjS) : TjX s s := ⟨fun _ _ => rfl, List.prefix_refl _, Nat.le_refl _⟩
theorem TjX.trans {a b c : TjS} (h : TjX a b) (k : TjX b c) : TjX a c :=
  ⟨fun u hu => by rw [k.met u (by rw [h.met u hu]; exact hu), h.met u hu], h.stk.trans k.stk, Nat.le_trans k.cnt h.cnt⟩
theorem gi_set2 (ys : List Int) (j k : Nat) (v : Int) (hj : j < ys.length) : gi (ys.set j v) k = if k = j then v else gi ys k := by
  unfold gi
  by_cases h : k = j
  · subst h; simp [hj]
  · rw [if_neg h]
    simp [List.getElem?_set, Ne.symm h]
theorem TjOk.enter {N : Nat} {s : TjS} (h : TjOk N s) {v : Nat} (hv : v < N) (h0 : gi s.met v = 0) : TjOk N (s.enter v) ∧ (s.enter v).met.count 0 + 1 = s.met.count 0 := by
  have hvl : v < s.met.length := by rw [h.m]; exact hv
  have e0 : s.met[v] = 0 := by simpa [gi, hvl] using h0
  have hle := h.le
  have hn : s.now + 1 ≠ 0 := by omega
  have hpos : 0 < s.met.count 0 := List.count_pos_iff.2 (by rw [← e0]; exact List.getElem_mem _)
  have hc : (s.met.set v (s.now + 1)).count 0 + 1 = s.met.count 0 := by
    rw [List.count_set hvl, e0]
    have e : (s.now + 1 == 0) = false := by simpa using hn
    simp only [e, beq_self_eq_true, if_true, Bool.false_eq_true, if_false]
    omega
  refine ⟨⟨by simp [TjS.enter, h.m], by simp [TjS.enter, h.l], h.p, by simp [TjS.enter, h.u], fun u hu => ?_, ?_, ?_⟩, hc⟩
  · show u < N ∧ gi (s.met.set v (s.now + 1)) u ≠ 0
    rw [gi_set2 _ _ _ _ hvl]
    rcases List.mem_append.1 hu with hu | hu
    · refine ⟨(h.stk u hu).1, ?_⟩
      split
      · exact hn
      · exact (h.stk u hu).2
    · rw [List.mem_singleton.1 hu, if_pos rfl]
      exact ⟨hv, hn⟩
  · have := h.len
    show ((s.stk ++ [v]).length : Int) ≤ s.now + 1
    simp only [List.length_append, List.length_singleton]
    omega
  · have := h.now
    show s.now + 1 + ((s.met.set v (s.now + 1)).count 0 : Nat) = N
    omega
theorem TjX.enter {N : Nat} {s : TjS} (h : TjOk N s) {v : Nat} (hv : v < N) (h0 : gi s.met v = 0) : TjX s (s.enter v) := by
  have hvl : v < s.met.length := by rw [h.m]; exact hv
  refine ⟨fun u hu => ?_, List.prefix_append _ _, by have := (h.enter hv h0).2; omega⟩
  show gi (s.met.set v (s.now + 1)) u = _
  rw [gi_set2 _ _ _ _ hvl, if_neg (fun e => by subst e; exact hu h0)]
theorem TjOk.lower {N : Nat} {s : TjS} (h : TjOk N s) (v : Nat) (x : Int) : TjOk N (s.lower v x) := ⟨h.m, by simp [TjS.lower, h.l], h.p, h.u, h.stk, h.len, h.now⟩
theorem TjX.lower (s : TjS) (v : Nat) (x : Int) : TjX s (s.lower v x) := ⟨fun _ _ => rfl, List.prefix_refl _, Nat.le_refl _⟩
theorem setAll_len {α : Type} (l : List Nat) (x : α) : ∀ p : List α, (setAll p l x).length = p.length := by
  induction l with
  | nil => exact fun _ => rfl
  | cons u l ih => intro p; exact (ih (p.set u x)).trans (by simp)
theorem TjOk.close {N : Nat} {s : TjS} (h : TjOk N s) (v : Nat) : TjOk N (s.close v) := by
  unfold TjS.close
  split
  · exact h
  · refine ⟨h.m, h.l, by show (setAll _ _ _).length = N; rw [setAll_len]; exact h.p, by show (setAll _ _ _).length = N; rw [setAll_len]; exact h.u, fun u hu => h.stk u (List.mem_of_mem_take hu), ?_, h.now⟩
    have := h.len
    show ((s.stk.take (ixOf s.stk v)).length : Int) ≤ s.now
    rw [List.length_take]
    omega
theorem ixOf_lt {l : List Nat} {v : Nat} (h : v ∈ l) : ixOf l v < l.length := List.findIdx_lt_length_of_exists ⟨v, h, by simp⟩
theorem ixOf_at {l : List Nat} {v : Nat} (h : v ∈ l) : l[ixOf l v]'(ixOf_lt h) = v := by
  have := List.findIdx_getElem (xs := l) (p := (· == v)) (w := ixOf_lt h)
  exact LawfulBEq.eq_of_beq this
theorem ixOf_pre {l : List Nat} {v j : Nat} (hj : j < ixOf l v) : gn l j ≠ v := by
  intro e
  have hlt : j < l.length := Nat.lt_of_lt_of_le hj List.findIdx_le_length
  have := List.not_of_lt_findIdx (p := (· == v)) hj
  have e2 : l[j] = v := by simpa [gn, hlt] using e
  simp [e2] at this
/-- What lies below a node that was not there stays when its own are taken off. -/
theorem TjX.close {s0 s : TjS} (v : Nat) (hx : TjX s0 s) (hv : v ∉ s0.stk) (hin : v ∈ s.stk) : TjX s0 (s.close v) := by
  unfold TjS.close
  split
  · exact hx
  · refine ⟨hx.met, ?_, hx.cnt⟩
    show s0.stk <+: s.stk.take (ixOf s.stk v)
    refine List.prefix_take_iff.2 ⟨hx.stk, ?_⟩
    rcases Nat.lt_or_ge (ixOf s.stk v) s0.stk.length with hlt | hge
    · exfalso
      have e1 := ixOf_at hin
      have e2 := hx.stk.getElem hlt
      exact hv (by rw [← e1, ← e2]; exact List.getElem_mem _)
    · exact hge
theorem fold_ok {N : Nat} {rec : Nat → TjS → TjS} {v n : Nat} (hr : ∀ u s, TjOk N s → u < N → gi s.met u = 0 → s.met.count 0 ≤ n → TjOk N (rec u s) ∧ TjX s (rec u s)) :
    ∀ (l : List Nat) (s : TjS), (∀ u ∈ l, u < N) → TjOk N s → s.met.count 0 ≤ n → TjOk N (l.foldl (fun s u => s.edge rec v u) s) ∧ TjX s (l.foldl (fun s u => s.edge rec v u) s)
  | [], s, _, h, _ => ⟨h, TjX.refl s⟩
  | u :: l, s, hl, h, hc => by
    have h1 : TjOk N (s.edge rec v u) ∧ TjX s (s.edge rec v u) := by
      unfold TjS.edge
      split
      · rename_i h0
        obtain ⟨a, b⟩ := hr u s h (hl u (by simp)) h0 hc
        exact ⟨a.lower _ _, b.trans (TjX.lower _ _ _)⟩
      · split
        · exact ⟨h.lower _ _, TjX.lower _ _ _⟩
        · exact ⟨h, TjX.refl s⟩
    obtain ⟨a, b⟩ := fold_ok hr l (s.edge rec v u) (fun x hx => hl x (by simp [hx])) h1.1 (Nat.le_trans h1.2.cnt hc)
    exact ⟨a, h1.2.trans b⟩
theorem tj_ok {N : Nat} {row : Nat → List Nat} (hrow : ∀ v, ∀ u ∈ row v, u < N) : ∀ n v s, TjOk N s → v < N → gi s.met v = 0 → s.met.count 0 ≤ n → TjOk N (tj row n v s) ∧ TjX s (tj row n v s)
  | 0, v, s, h, hv, h0, hc => by
    exfalso
    have hvl : v < s.met.length := by rw [h.m]; exact hv
    have e0 : s.met[v] = 0 := by simpa [gi, hvl] using h0
    have hpos : 0 < s.met.count 0 := List.count_pos_iff.2 (by rw [← e0]; exact List.getElem_mem _)
    omega
  | n + 1, v, s, h, hv, h0, hc => by
    obtain ⟨h1, h2⟩ := h.enter hv h0
    obtain ⟨a, b⟩ := fold_ok (v := v) (fun u s h hu h0 hc => tj_ok hrow n u s h hu h0 hc) (row v) (s.enter v) (hrow v) h1 (by omega)
    have hx := (TjX.enter h hv h0).trans b
    exact ⟨a.close v, hx.close v (fun e => (h.stk v e).2 h0) (b.stk.subset (by simp [TjS.enter]))⟩
end Go.Proofs.Ytiljgkaffgclgaa

/- Contracts: a graph copied; a graph with one weight changed. -/
namespace Go.Proofs.Ytiljgkaffgclgaa
open Go Go.RowKit
theorem es_one (E : List Edg) : ∀ u ∈ esCells E, u.oneCell' = true := by
  intro u hu
  obtain ⟨e, _, h⟩ := List.mem_flatMap.1 hu
  unfold eCells at h
  simp at h
  rcases h with rfl | rfl | rfl <;> rfl
set_option maxRecDepth 20000 in
set_option maxHeartbeats 2000000 in
theorem cloneE (A : Option Addr) (n c : Nat) (E : List Edg) (w : World) (h : Rd w A 3 n (esCells E)) (hn : n ≤ 1000000) :
    Calls Try.prog 96 #[.slice A n c] w fun e w' => ∃ A' c', e = .returned (.slice A' n c') ∧ Own w' w.heap.size 77 3 A' n c' (esCells E) ∧ Grows w w' := by
  cases A with
  | none =>
    have hn0 : n = 0 := by
      rcases Nat.eq_zero_or_pos n with h0 | h0
      · exact h0
      · obtain ⟨_, _, e, _⟩ := h.2 h0 (by omega); cases e
    subst hn0
    have hE : E = [] := List.eq_nil_of_length_eq_zero h.elen
    subst hE
    clear h
    have hnil := fun (w : World) (a : Option Addr) (n c n' c' : Nat) => Lib.run_eql_slice_nil (P := Try.prog) w 22 77 a n c n' c' Try.underlying22
    go_enter Try.func96, Try.ntmps96
    go_wp2
    go_ret
    exact ⟨none, 0, rfl, Own.nil _ _ _ _, (by repeat (first | exact Grows.refl _ | refine Grows.now ?_ _ | refine Grows.new ?_ _ | refine Grows.drewN ?_ _ | refine Grows.drew ?_ | assumption | (refine Grows.set ?_ (by first | omega | (simp; done) | (simp; omega)) _)))⟩
  | some ad =>
    have HR := hide h
    clear h
    have hnil := fun (w : World) (a : Option Addr) (n c n' c' : Nat) => Lib.run_eql_slice_nil (P := Try.prog) w 22 77 a n c n' c' Try.underlying22
    go_enter Try.func96, Try.ntmps96
    go_wp2_with (at_builtin; refine wp_appAll elemEdge rfl _ _ rfl w (by repeat (first | exact Grows.refl _ | refine Grows.now ?_ _ | refine Grows.new ?_ _ | refine Grows.drewN ?_ _ | refine Grows.drew ?_ | assumption | (refine Grows.set ?_ (by first | omega | (simp; done) | (simp; omega)) _))) 0 0 _ [] rfl (Own.empty _ _ _ _ (Nat.le_refl _)) ad n c _ rfl (HR.out.grows (by repeat (first | exact Grows.refl _ | refine Grows.now ?_ _ | refine Grows.new ?_ _ | refine Grows.drewN ?_ _ | refine Grows.drew ?_ | assumption | (refine Grows.set ?_ (by first | omega | (simp; done) | (simp; omega)) _)))) (es_one E) (by omega) ?_; intro A3 c3 y3 hown3; have HO3 := hide hown3; clear hown3)
    go_ret
    exact ⟨A3, c3, by first | rfl | (simp; done) | (rw [Nat.zero_add]; rfl), by have := HO3.out; rwa [Nat.zero_add, List.nil_append] at this, (by repeat (first | exact Grows.refl _ | refine Grows.now ?_ _ | refine Grows.new ?_ _ | refine Grows.drewN ?_ _ | refine Grows.drew ?_ | assumption | (refine Grows.set ?_ (by first | omega | (simp; done) | (simp; omega)) _)))⟩
theorem Own.low {w : World} {B n c size : Nat} {e : TypeId} {A : Option Addr} {xs : List Value} (h : Own w B e size A n c xs) {q : Addr} (hq : q.block < B) (u : Value) : Own (w.setCell q u) B e size A n c xs := by
  refine ⟨h.1, ?_⟩
  rcases h.2 with h1 | ⟨g, cap, cur, h1, h2, h3, h4⟩
  · exact .inl h1
  · refine .inr ⟨g, cap, cur, h1, h2, ?_, h4⟩
    rw [← h3]
    simp [World.setCell, Array.getElem?_modify]
    intro e
    omega
theorem Own.base {w : World} {B B' n c size : Nat} {e : TypeId} {A : Option Addr} {xs : List Value} (h : Own w B e size A n c xs) (hB : B' ≤ B) : Own w B' e size A n c xs := by
  refine ⟨h.1, ?_⟩
  rcases h.2 with h1 | ⟨g, cap, cur, h1, h2, h3⟩
  · exact .inl h1
  · exact .inr ⟨g, cap, cur, h1, Nat.le_trans hB h2, h3⟩
/-- A graph in memory of the call's own. -/
def GiveOG (w : World) (N : Int) (E : List Edg) (e : Ending) (w' : World) : Prop := ∃ A c, e = .returned (.agg #[.int .i64 N, .slice A E.length c]) ∧ Own w' w.heap.size 77 3 A E.length c (esCells E) ∧ Grows w w'
set_option maxRecDepth 20000 in
set_option maxHeartbeats 2000000 in
theorem gClone (N : Int) (A : Option Addr) (n c : Nat) (E : List Edg) (w : World) (h : Rd w A 3 n (esCells E)) (hn : n ≤ 1000000) :
    Calls Try.prog 66 #[.agg #[.int .i64 N, .slice A n c]] w (GiveOG w N E) := by
  have HL := hide h.elen
  have HC := hide (fun W (g : Grows w W) => cloneE A n c E W (h.grows g) hn)
  clear h
  go_enter Try.func66, Try.ntmps66
  go_upto_region 1 with fail
  go_region_with (go_at_call 96; refine (HC.out _ (by repeat (first | exact Grows.refl _ | refine Grows.now ?_ _ | refine Grows.new ?_ _ | refine Grows.drewN ?_ _ | refine Grows.drew ?_ | assumption | (refine Grows.set ?_ (by first | omega | (simp; done) | (simp; omega)) _)))).mono ?_; rintro e w' ⟨A1, c1, rfl, ho1, hg⟩; obtain ⟨x1, rfl⟩ := hg.later; have HO1 := hide ho1; clear hg ho1)
  all_goals go_wp2_with fail
  all_goals refine bodyPost_ret (v := .agg #[.int .i64 N, .slice A1 n c1]) (by simp (maxDischargeDepth := 6) [results, Try.results66, go_sem, *]) rfl ⟨A1, c1, by rw [HL.out], ?_, (by repeat (first | exact Grows.refl _ | refine Grows.now ?_ _ | refine Grows.new ?_ _ | refine Grows.drewN ?_ _ | refine Grows.drew ?_ | assumption | (refine Grows.set ?_ (by first | omega | (simp; done) | (simp; omega)) _)))⟩
  all_goals rw [HL.out]
  all_goals exact ((HO1.out.low (by simp) _).low (by simp) _).base (by simp; omega)
end Go.Proofs.Ytiljgkaffgclgaa

/- Contracts: who goes out, and who comes in. -/
namespace Go.Proofs.Ytiljgkaffgclgaa
open Go Go.RowKit
theorem adjFrom (e : Edg) (w : World) : Calls Try.prog 142 #[eVal e] w fun x w' => x = .returned (.int .i64 e.f) ∧ Grows w w' := by
  unfold eVal
  go_enter Try.func142, Try.ntmps142
  go_wp2
  go_ret
  exact ⟨rfl, (by repeat (first | exact Grows.refl _ | refine Grows.now ?_ _ | refine Grows.new ?_ _ | refine Grows.drewN ?_ _ | refine Grows.drew ?_ | assumption | (refine Grows.set ?_ (by first | omega | (simp; done) | (simp; omega)) _)))⟩
theorem adjTo (e : Edg) (w : World) : Calls Try.prog 143 #[eVal e] w fun x w' => x = .returned (.int .i64 e.t) ∧ Grows w w' := by
  unfold eVal
  go_enter Try.func143, Try.ntmps143
  go_wp2
  go_ret
  exact ⟨rfl, (by repeat (first | exact Grows.refl _ | refine Grows.now ?_ _ | refine Grows.new ?_ _ | refine Grows.drewN ?_ _ | refine Grows.drew ?_ | assumption | (refine Grows.set ?_ (by first | omega | (simp; done) | (simp; omega)) _)))⟩
/-- Edges laid by their nodes, in memory. -/
def LaidIn (w : World) (g1 g2 N n : Nat) (f : Nat → Nat) : Prop :=
  ∃ X B, Row1 w g1 3 1 n n (nv X) ∧ Row1 w g2 3 1 (N + 1) (N + 1) (nv B) ∧ (∀ i, i < n → X[posN f n i]? = some i) ∧ (∀ v, v ≤ N → gn B v = begN f n v)
theorem LaidIn.grows {w w' : World} {g1 g2 N n : Nat} {f : Nat → Nat} (h : LaidIn w g1 g2 N n f) (hg : Grows w w') : LaidIn w' g1 g2 N n f := by
  obtain ⟨X, B, h1, h2, h3⟩ := h
  exact ⟨X, B, h1.grow hg, h2.grow hg, h3⟩
def rowsVal (g1 g2 N n : Nat) : Value := .agg #[.slice (some ⟨g1, 0, none⟩) n n, .slice (some ⟨g2, 0, none⟩) (N + 1) (N + 1)]
set_option maxRecDepth 20000 in
set_option maxHeartbeats 2000000 in
/-- A node's row. -/
theorem adjOf (g1 g2 N n : Nat) (f : Nat → Nat) (v : Nat) (w0 w : World) (h : LaidIn w0 g1 g2 N n f) (hg0 : Grows w0 w) (hv : v < N) (_ : n ≤ 1000000) (hN : N ≤ 100000) (hf : ∀ i, i < n → f i < N) :
    Calls Try.prog 178 #[rowsVal g1 g2 N n, .int .i64 (v : Int)] w fun e w' => ∃ A, e = .returned (.slice A (cntN f v n) (cntN f v n)) ∧ (Rd w0 A 1 (cntN f v n) (nv (rowN f n v)) ∧ ∀ p, A = some p → p.block = g1) ∧ Grows w w' := by
  obtain ⟨X, B, h1, h2, h3, h4⟩ := h
  have m1 := (h2.grow hg0).nat (j := v) (by omega)
  have m2 := (h2.grow hg0).nat (j := v + 1) (by omega)
  rw [h4 v (by omega)] at m1
  rw [h4 (v + 1) (by omega)] at m2
  have b1 := begN_le f n v
  have b2 := begN_le f n (v + 1)
  have b3 := begN_succ f n v
  have H1 := hide h1
  have H3 := hide h3
  have H4 := hide b3
  have b4 : begN f n v ≤ begN f n (v + 1) := by omega
  have HF := hide hf
  clear h1 h2 h3 h4 b3 hf
  generalize hp : begN f n v = p at *
  generalize hq : begN f n (v + 1) = q at *
  have HP := hide hp
  have HQ := hide hq
  clear hp hq
  unfold rowsVal
  rcases Nat.eq_or_lt_of_le b4 with e | e
  · subst e
    go_enter Try.func178, Try.ntmps178
    go_wp2_with fail
    ((first | refine wp_region_gen2 (by kernel_rfl) (by kernel_rfl) ?_ | refine wp_region_gen (by kernel_rfl) (by kernel_rfl) ?_); (repeat' (first | (refine gLex_val0 rfl (by kernel_rfl) (fun K hK => ?_); (go_simp; (try (simp only [↓IntWalk.iteOmega]; try go_simp)); (try simp (disch := omega) only [IntWalk.i64_in]); (try simp (disch := omega) only [IntWalk.u64_in]); first | (refine hK _ ?_; clear hK K) | (apply Exists.intro; refine ⟨fun x => ?_, hK _ ?_⟩; (first | fail); clear hK K))) | (refine gLex_undef rfl rfl rfl (by kernel_rfl) (fun K hK => ?_); go_simp; refine hK _ ?_; clear hK K) | (refine gLex_ask rfl rfl rfl ?_; first | (apply gAsk_yes; kernel_rfl; intro K hK; (go_simp; (try (simp only [↓IntWalk.iteOmega]; try go_simp)); (try simp (disch := omega) only [IntWalk.i64_in]); (try simp (disch := omega) only [IntWalk.u64_in]); first | (refine hK _ ?_; clear hK K) | (apply Exists.intro; refine ⟨fun x => ?_, hK _ ?_⟩; (first | fail); clear hK K))) | ((first | apply gAsk_no1 | apply gAsk_no2); kernel_rfl; intro K hK; simp [go_sem]; refine hK _ ?_; clear hK K) | (apply gAsk_part; kernel_rfl; all_goals (intro h K hK; (try simp only [Bool.not_true] at h); (try simp only [Bool.not_false] at h); (try simp only [decide_eq_true_eq] at h); (try simp only [decide_eq_false_iff_not] at h); first | (exfalso; first | contradiction | omega) | (go_simp; (try (simp only [↓IntWalk.iteOmega]; try go_simp)); (try simp (disch := omega) only [IntWalk.i64_in]); (try simp (disch := omega) only [IntWalk.u64_in]); first | (refine hK _ ?_; clear hK K) | (apply Exists.intro; refine ⟨fun x => ?_, hK _ ?_⟩; (first | fail); clear hK K))))))); all_goals ((apply gLex_end); intro y))
    go_wp2_with fail
    have hc : cntN f v n = 0 := by have := H4.out; omega
    go_ret
    rw [hc]
    exact ⟨_, rfl, ⟨⟨by rw [nv_len, rowN_len, hc], fun h => absurd h (by omega)⟩, fun p hp => by injection hp with hp; rw [← hp]⟩, (by repeat (first | exact Grows.refl _ | refine Grows.now ?_ _ | refine Grows.new ?_ _ | refine Grows.drewN ?_ _ | refine Grows.drew ?_ | assumption | (refine Grows.set ?_ (by first | omega | (simp; done) | (simp; omega)) _)))⟩
  · have hne : ¬ q = p := by omega
    go_enter Try.func178, Try.ntmps178
    go_wp2_with fail
    ((first | refine wp_region_gen2 (by kernel_rfl) (by kernel_rfl) ?_ | refine wp_region_gen (by kernel_rfl) (by kernel_rfl) ?_); (repeat' (first | (refine gLex_val0 rfl (by kernel_rfl) (fun K hK => ?_); (go_simp; (try (simp only [↓IntWalk.iteOmega]; try go_simp)); (try simp (disch := omega) only [IntWalk.i64_in]); (try simp (disch := omega) only [IntWalk.u64_in]); first | (refine hK _ ?_; clear hK K) | (apply Exists.intro; refine ⟨fun x => ?_, hK _ ?_⟩; (first | fail); clear hK K))) | (refine gLex_undef rfl rfl rfl (by kernel_rfl) (fun K hK => ?_); go_simp; refine hK _ ?_; clear hK K) | (refine gLex_ask rfl rfl rfl ?_; first | (apply gAsk_yes; kernel_rfl; intro K hK; (go_simp; (try (simp only [↓IntWalk.iteOmega]; try go_simp)); (try simp (disch := omega) only [IntWalk.i64_in]); (try simp (disch := omega) only [IntWalk.u64_in]); first | (refine hK _ ?_; clear hK K) | (apply Exists.intro; refine ⟨fun x => ?_, hK _ ?_⟩; (first | fail); clear hK K))) | ((first | apply gAsk_no1 | apply gAsk_no2); kernel_rfl; intro K hK; simp [go_sem]; refine hK _ ?_; clear hK K) | (apply gAsk_part; kernel_rfl; all_goals (intro h K hK; (try simp only [Bool.not_true] at h); (try simp only [Bool.not_false] at h); (try simp only [decide_eq_true_eq] at h); (try simp only [decide_eq_false_iff_not] at h); first | (exfalso; first | contradiction | omega) | (go_simp; (try (simp only [↓IntWalk.iteOmega]; try go_simp)); (try simp (disch := omega) only [IntWalk.i64_in]); (try simp (disch := omega) only [IntWalk.u64_in]); first | (refine hK _ ?_; clear hK K) | (apply Exists.intro; refine ⟨fun x => ?_, hK _ ?_⟩; (first | fail); clear hK K))))))); all_goals ((apply gLex_end); intro y))
    go_wp2_with fail
    have hc : cntN f v n = q - p := by have := H4.out; omega
    have hl1 := H1.out.nlen
    have hrow := laid_row f n v X hl1 H3.out
    rw [HP.out, hc] at hrow
    go_ret
    rw [hc]
    refine ⟨_, rfl, ⟨?_, fun p hp => by injection hp with hp; rw [← hp]⟩, (by repeat (first | exact Grows.refl _ | refine Grows.now ?_ _ | refine Grows.new ?_ _ | refine Grows.drewN ?_ _ | refine Grows.drew ?_ | assumption | (refine Grows.set ?_ (by first | omega | (simp; done) | (simp; omega)) _)))⟩
    refine ⟨by rw [nv_len, rowN_len, hc]; omega, fun h1 _ => ⟨g1, p, rfl, fun j u hu => ?_⟩⟩
    have hj : j < q - p := by
      have := (List.getElem?_eq_some_iff.1 hu).1
      rw [nv_len, rowN_len, hc] at this
      exact this
    have hx : (nv X)[p + j]? = some u := by
      rw [← hrow] at hu
      unfold nv at hu ⊢
      rw [List.getElem?_map] at hu ⊢
      rw [List.getElem?_take, if_pos hj, List.getElem?_drop] at hu
      exact hu
    exact (H1.out.mine hx).cell
def fN (E : List Edg) (i : Nat) : Nat := (ge E i).f.toNat
def tN (E : List Edg) (i : Nat) : Nat := (ge E i).t.toNat
def nN (E : List Edg) (back : Bool) : Nat → Nat := if back then tN E else fN E
/-- A graph, and of each node who goes out and who comes in, in memory: in blocks of F. -/
def AdjAt (F : Nat → Prop) (w : World) (b N : Nat) (E : List Edg) : Prop :=
  ∃ A c g1 g2 g3 g4, Arr w b 173 [.int .i64 (N : Int), .slice A E.length c, .slice (some ⟨g1, 0, none⟩) E.length E.length, .slice (some ⟨g2, 0, none⟩) (N + 1) (N + 1), .slice (some ⟨g3, 0, none⟩) E.length E.length, .slice (some ⟨g4, 0, none⟩) (N + 1) (N + 1)] ∧
    Rd w A 3 E.length (esCells E) ∧ LaidIn w g1 g2 N E.length (fN E) ∧ LaidIn w g3 g4 N E.length (tN E) ∧ (F b ∧ F g1 ∧ F g2 ∧ F g3 ∧ F g4 ∧ ∀ p, A = some p → F p.block)
theorem LaidIn.touch {w w' : World} {g1 g2 N n : Nat} {f : Nat → Nat} {S : Nat → Prop} (h : LaidIn w g1 g2 N n f) (ht : Touch S w w') (h1 : ¬ S g1) (h2 : ¬ S g2) : LaidIn w' g1 g2 N n f := by
  obtain ⟨X, B, q1, q2, q3⟩ := h
  exact ⟨X, B, q1.touch ht h1, q2.touch ht h2, q3⟩
theorem AdjAt.touch {F S : Nat → Prop} {w w' : World} {b N : Nat} {E : List Edg} (h : AdjAt F w b N E) (ht : Touch S w w') (hs : ∀ k, F k → ¬ S k) : AdjAt F w' b N E := by
  obtain ⟨A, c, g1, g2, g3, g4, h1, h2, h3, h4, f0, f1, f2, f3, f4, f5⟩ := h
  exact ⟨A, c, g1, g2, g3, g4, h1.touch ht (hs _ f0), h2.touch ht (fun p hp => hs _ (f5 p hp)), h3.touch ht (hs _ f1) (hs _ f2), h4.touch ht (hs _ f3) (hs _ f4), f0, f1, f2, f3, f4, f5⟩
theorem AdjAt.grows {F : Nat → Prop} {w w' : World} {b N : Nat} {E : List Edg} (h : AdjAt F w b N E) (hg : Grows w w') : AdjAt F w' b N E := h.touch (hg.touch (fun _ => False)) (fun _ _ => id)
theorem AdjAt.mono {F F' : Nat → Prop} {w : World} {b N : Nat} {E : List Edg} (h : AdjAt F w b N E) (hf : ∀ k, F k → F' k) : AdjAt F' w b N E := by
  obtain ⟨A, c, g1, g2, g3, g4, h1, h2, h3, h4, f0, f1, f2, f3, f4, f5⟩ := h
  exact ⟨A, c, g1, g2, g3, g4, h1, h2, h3, h4, hf _ f0, hf _ f1, hf _ f2, hf _ f3, hf _ f4, fun p hp => hf _ (f5 p hp)⟩
/-- All edges lead between the nodes 0 to N less 1. -/
def InN (N : Nat) (E : List Edg) : Prop := ∀ i, i < E.length → (0 ≤ (ge E i).f ∧ (ge E i).f < N) ∧ (0 ≤ (ge E i).t ∧ (ge E i).t < N)
theorem InN.f {N : Nat} {E : List Edg} (h : InN N E) (i : Nat) (hi : i < E.length) : fN E i < N ∧ (ge E i).f = (fN E i : Int) := by
  obtain ⟨⟨h1, h2⟩, h3, h4⟩ := h i hi
  unfold fN; omega
theorem InN.t {N : Nat} {E : List Edg} (h : InN N E) (i : Nat) (hi : i < E.length) : tN E i < N ∧ (ge E i).t = (tN E i : Int) := by
  obtain ⟨⟨h1, h2⟩, h3, h4⟩ := h i hi
  unfold tN; omega
theorem right_in {N : Int} {E : List Edg} (h : rightF N E = 0) : 1 ≤ N ∧ N ≤ 4096 ∧ E.length ≤ 16384 ∧ InN N.toNat E ∧ ∀ i, i < E.length → 1 ≤ (ge E i).w ∧ (ge E i).w ≤ 4294967296 := by
  unfold rightF at h
  split at h
  · cases h
  split at h
  · cases h
  split at h
  · cases h
  split at h
  · cases h
  rename_i h1 h2 h3 h4
  refine ⟨by omega, by omega, by omega, fun i hi => ?_, fun i hi => ?_⟩
  · have hm : ge E i ∈ E := by unfold ge; rw [List.getD_eq_getElem?_getD, List.getElem?_eq_getElem hi]; exact List.getElem_mem hi
    have : looseB N (ge E i) = false := by
      cases hh : looseB N (ge E i) with
      | false => rfl
      | true => exact absurd (List.any_eq_true.2 ⟨_, hm, hh⟩) h3
    unfold looseB at this
    simp only [Bool.or_eq_false_iff, Bool.not_eq_false'] at this
    obtain ⟨t1, t2, _⟩ := this
    unfold nodeB at t1 t2
    have t1 := of_decide_eq_true t1
    have t2 := of_decide_eq_true t2
    omega
  · have hm : ge E i ∈ E := by unfold ge; rw [List.getD_eq_getElem?_getD, List.getElem?_eq_getElem hi]; exact List.getElem_mem hi
    have : heavyB (ge E i) = false := by
      cases hh : heavyB (ge E i) with
      | false => rfl
      | true => exact absurd (List.any_eq_true.2 ⟨_, hm, hh⟩) h4
    unfold heavyB wtB at this
    simp at this
    exact this
set_option maxRecDepth 20000 in
set_option maxHeartbeats 2000000 in
theorem adjRow (F : Nat → Prop) (b N : Nat) (E : List Edg) (v : Nat) (back : Bool) (w : World) (h : AdjAt F w b N E) (hE : InN N E) (hv : v < N) (hn : E.length ≤ 1000000) (hN : N ≤ 100000) :
    Calls Try.prog 145 #[.pointer (some ⟨b, 0, none⟩), .int .i64 (v : Int), .bool back] w fun e w' => ∃ A, e = .returned (.slice A (cntN (nN E back) v E.length) (cntN (nN E back) v E.length)) ∧ (Rd w A 1 (cntN (nN E back) v E.length) (nv (rowN (nN E back) E.length v)) ∧ ∀ p, A = some p → F p.block) ∧ Grows w w' := by
  obtain ⟨A, c, g1, g2, g3, g4, h1, h2, h3, h4, f0, f1, f2, f3, f4, f5⟩ := h
  have H3 := hide h3
  have H4 := hide h4
  have HE := hide hE
  clear h3 h4 hE h2 f5
  cases back with
  | false =>
    have C := hide (fun (W : World) (g : Grows w W) => adjOf g1 g2 N E.length (fN E) v w W H3.out g hv hn hN (fun i hi => (HE.out.f i hi).1))
    unfold rowsVal at C
    go_enter Try.func145, Try.ntmps145
    go_wp2_with (go_at_call 178; refine (C.out _ (by repeat (first | exact Grows.refl _ | refine Grows.now ?_ _ | refine Grows.new ?_ _ | refine Grows.drewN ?_ _ | refine Grows.drew ?_ | assumption | (refine Grows.set ?_ (by first | omega | (simp; done) | (simp; omega)) _)))).mono ?_; rintro e w' ⟨A', rfl, hr, hg⟩; obtain ⟨x, rfl⟩ := hg.later; have HR := hide hr; clear hg hr)
    go_ret
    exact ⟨A', rfl, ⟨HR.out.1, fun p hp => by rw [HR.out.2 p hp]; exact f1⟩, (by repeat (first | exact Grows.refl _ | refine Grows.now ?_ _ | refine Grows.new ?_ _ | refine Grows.drewN ?_ _ | refine Grows.drew ?_ | assumption | (refine Grows.set ?_ (by first | omega | (simp; done) | (simp; omega)) _)))⟩
  | true =>
    have C := hide (fun (W : World) (g : Grows w W) => adjOf g3 g4 N E.length (tN E) v w W H4.out g hv hn hN (fun i hi => (HE.out.t i hi).1))
    unfold rowsVal at C
    go_enter Try.func145, Try.ntmps145
    go_wp2_with (go_at_call 178; refine (C.out _ (by repeat (first | exact Grows.refl _ | refine Grows.now ?_ _ | refine Grows.new ?_ _ | refine Grows.drewN ?_ _ | refine Grows.drew ?_ | assumption | (refine Grows.set ?_ (by first | omega | (simp; done) | (simp; omega)) _)))).mono ?_; rintro e w' ⟨A', rfl, hr, hg⟩; obtain ⟨x, rfl⟩ := hg.later; have HR := hide hr; clear hg hr)
    go_ret
    exact ⟨A', rfl, ⟨HR.out.1, fun p hp => by rw [HR.out.2 p hp]; exact f3⟩, (by repeat (first | exact Grows.refl _ | refine Grows.now ?_ _ | refine Grows.new ?_ _ | refine Grows.drewN ?_ _ | refine Grows.drew ?_ | assumption | (refine Grows.set ?_ (by first | omega | (simp; done) | (simp; omega)) _)))⟩
section
variable {P : Program} {w0 : World}
/-- The head's end: two values are left that hang on the world. -/
theorem gLex_endT2 {ops : Array Oper} {Q : Exit → Act → World → Prop} {tail : List Oper} {a : Act} {t1 t2 : Tmp} {p1 p2 : Pr} (hne : t1 ≠ t2) (h1 : t1 < a.tmps.size) (h2 : t2 < a.tmps.size)
    (h : ∀ (x : Later w0) v1 v2, p1 v1 x.now → p2 v2 x.now → wpList P ops Q tail ((a.put (some t2) v2).put (some t1) v1) x.now) :
    gLex P ops w0 (fun a G => ∀ w', Grows w0 w' → ∀ a', Conc G a a' w' → wpList P ops Q tail a' w') [] a ((Env.no.upd t1 p1).upd t2 p2) :=
  fun w' hw a' hc => by
    obtain ⟨v2, hv2⟩ := conc_upd hc h2
    rcases hv2 with ⟨hp2, hc2⟩ | hne2
    · obtain ⟨v1, hv1⟩ := conc_upd hc2 (by simpa [Act.put] using h1)
      rcases hv1 with ⟨hp1, hc1⟩ | hne1
      · rw [conc_no hc1]
        exact h ⟨w', hw⟩ v1 v2 hp1 hp2
      · exact absurd rfl hne1
    · exact absurd (by simp [Env.upd, Env.no, Ne.symm hne]) hne2
end
/-- Rows that were just laid. -/
def LaidP (lo N n : Nat) (f : Nat → Nat) : Pr := fun u w => ∃ g1 g2, u = .agg #[.slice (some ⟨g1, 0, none⟩) n n, .slice (some ⟨g2, 0, none⟩) (N + 1) (N + 1)] ∧ LaidIn w g1 g2 N n f ∧ lo ≤ g1 ∧ lo ≤ g2
theorem LaidP.lasts (lo N n : Nat) (f : Nat → Nat) : Lasts (LaidP lo N n f) := fun _ _ _ hg ⟨g1, g2, e, h, l1, l2⟩ => ⟨g1, g2, e, h.grows hg, l1, l2⟩
theorem adjNewNo (N : Int) (A : Option Addr) (n c : Nat) (E : List Edg) (w : World) (h : Rd w A 3 n (esCells E)) (hn : n ≤ 1000000) (hr : rightF N E ≠ 0) :
    Calls Try.prog 90 #[.agg #[.int .i64 N, .slice A n c]] w fun e w' => e = .returned (.tuple #[.pointer none, .int .i64 1]) ∧ Grows w w' := by
  have C1 := hide (fun (W : World) (g : Grows w W) => gRight N A n c E W (h.grows g) hn)
  have hr2 : (rightF N E == 0) = false := beq_eq_false_iff_ne.2 hr
  clear h
  generalize rightF N E = r at *
  go_enter Try.func90, Try.ntmps90
  go_wp2_with (go_at_call 62; refine (C1.out _ (by repeat (first | exact Grows.refl _ | refine Grows.now ?_ _ | refine Grows.new ?_ _ | refine Grows.drewN ?_ _ | refine Grows.drew ?_ | assumption | (refine Grows.set ?_ (by first | omega | (simp; done) | (simp; omega)) _)))).mono ?_; rintro e w' ⟨rfl, hg⟩; obtain ⟨x1, rfl⟩ := hg.later; clear hg)
  go_ret2
  exact ⟨rfl, (by repeat (first | exact Grows.refl _ | refine Grows.now ?_ _ | refine Grows.new ?_ _ | refine Grows.drewN ?_ _ | refine Grows.drew ?_ | assumption | (refine Grows.set ?_ (by first | omega | (simp; done) | (simp; omega)) _)))⟩
set_option maxRecDepth 20000 in
set_option maxHeartbeats 2000000 in
theorem adjNew (N : Nat) (A : Option Addr) (n c : Nat) (E : List Edg) (w : World) (h : Rd w A 3 n (esCells E)) (hn : n ≤ 1000000) (hr : rightF N E = 0) :
    Calls Try.prog 90 #[.agg #[.int .i64 (N : Int), .slice A n c]] w fun e w' => ∃ b, e = .returned (.tuple #[.pointer (some ⟨b, 0, none⟩), .int .i64 0]) ∧ AdjAt (New w w') w' b N E ∧ Grows w w' := by
  obtain ⟨r1, r2, r3, r4, r5⟩ := right_in hr
  rw [Int.toNat_natCast] at r4
  have hl := h.elen
  subst hl
  have C1 := hide (fun (W : World) (g : Grows w W) => gRight N A _ c E W (h.grows g) hn)
  rw [hr] at C1
  have C2 := hide (fun (W : World) (g : Grows w W) => gClone N A _ c E W (h.grows g) hn)
  have C3 := hide (fun (W : World) (A1 : Option Addr) (c1 : Nat) (h1 : Rd W A1 3 E.length (esCells E)) => adjLaid N A1 _ c1 E 142 (fun e => e.f.toNat) W h1 hn (by omega) (fun _ _ => by rfl) (fun i hi W => by
    have := adjFrom (ge E i) W; rw [(r4.f i hi).2] at this; exact this) (fun i hi => (r4.f i hi).1))
  have C4 := hide (fun (W : World) (A1 : Option Addr) (c1 : Nat) (h1 : Rd W A1 3 E.length (esCells E)) => adjLaid N A1 _ c1 E 143 (fun e => e.t.toNat) W h1 hn (by omega) (fun _ _ => by rfl) (fun i hi W => by
    have := adjTo (ge E i) W; rw [(r4.t i hi).2] at this; exact this) (fun i hi => (r4.t i hi).1))
  clear h hr r4 r5
  go_enter Try.func90, Try.ntmps90
  go_wp2_with fail
  refine (C1.out _ (by repeat (first | exact Grows.refl _ | refine Grows.now ?_ _ | refine Grows.new ?_ _ | refine Grows.drewN ?_ _ | refine Grows.drew ?_ | assumption | (refine Grows.set ?_ (by first | omega | (simp; done) | (simp; omega)) _)))).mono ?_; rintro e w' ⟨rfl, hg⟩; obtain ⟨x1, rfl⟩ := hg.later; clear hg
  have hsz : w.heap.size < x1.now.heap.size := by have := x1.size; simp at this; omega
  go_wp2_with fail
  refine (C2.out _ (by repeat (first | exact Grows.refl _ | refine Grows.now ?_ _ | refine Grows.new ?_ _ | refine Grows.drewN ?_ _ | refine Grows.drew ?_ | assumption | (refine Grows.set ?_ (by first | omega | (simp; done) | (simp; omega)) _)))).mono ?_; rintro e w' ⟨A1, c1, rfl, ho, hg⟩; obtain ⟨x2, rfl⟩ := hg.later
  have ho2 := ((ho.low (q := ⟨w.heap.size, 0, none⟩) hsz (.int .i64 (N : Int))).low (q := ⟨w.heap.size, 1, none⟩) hsz (.slice A1 E.length c1))
  have HO : Hid (Rd ((x2.now.setCell ⟨w.heap.size, 0, none⟩ (.int .i64 (N : Int))).setCell ⟨w.heap.size, 1, none⟩ (.slice A1 E.length c1)) A1 3 E.length (esCells E) ∧ ∀ p, A1 = some p → w.heap.size ≤ p.block ∧ p.block < ((x2.now.setCell ⟨w.heap.size, 0, none⟩ (.int .i64 (N : Int))).setCell ⟨w.heap.size, 1, none⟩ (.slice A1 E.length c1)).heap.size) := by
    refine ⟨ho2.rd, fun p hp => ?_⟩
    subst hp
    have := World.ownsRow.lt ho2 p.block rfl
    exact ⟨by omega, this.2⟩
  clear ho2
  clear hg ho
  go_upto_region 4 with fail
  have hgW : Grows w ((x2.now.setCell ⟨w.heap.size, 0, none⟩ (.int .i64 (N : Int))).setCell ⟨w.heap.size, 1, none⟩ (.slice A1 E.length c1)) := (by repeat (first | exact Grows.refl _ | refine Grows.now ?_ _ | refine Grows.new ?_ _ | refine Grows.drewN ?_ _ | refine Grows.drew ?_ | assumption | (refine Grows.set ?_ (by first | omega | (simp; done) | (simp; omega)) _)))
  have m0 : Mine ((x2.now.setCell ⟨w.heap.size, 0, none⟩ (.int .i64 (N : Int))).setCell ⟨w.heap.size, 1, none⟩ (.slice A1 E.length c1)) ⟨w.heap.size, 0, none⟩ (.int .i64 (N : Int)) := ⟨by simp [go_sem], by simp [go_sem]⟩
  have m1 : Mine ((x2.now.setCell ⟨w.heap.size, 0, none⟩ (.int .i64 (N : Int))).setCell ⟨w.heap.size, 1, none⟩ (.slice A1 E.length c1)) ⟨w.heap.size, 1, none⟩ (.slice A1 E.length c1) := ⟨by simp [go_sem], by simp [go_sem]⟩
  generalize (x2.now.setCell ⟨w.heap.size, 0, none⟩ (.int .i64 (N : Int))).setCell ⟨w.heap.size, 1, none⟩ (.slice A1 E.length c1) = W0 at *
  (refine wp_region_tail1 11 (by kernel_rfl) (by kernel_rfl) ?_; simp only [List.take_succ_cons, List.take_zero, List.drop_succ_cons, List.drop_zero]; (repeat' (first | (refine gLex_val0 rfl (by kernel_rfl) (fun K hK => ?_); (go_simp; (try (simp only [↓IntWalk.iteOmega]; try go_simp)); (try simp (disch := omega) only [IntWalk.i64_in]); (try simp (disch := omega) only [IntWalk.u64_in]); first | (refine hK _ ?_; clear hK K) | (apply Exists.intro; refine ⟨fun x => ?_, hK _ ?_⟩; (first | fail); clear hK K))) | (refine gLex_undef rfl rfl rfl (by kernel_rfl) (fun K hK => ?_); go_simp; refine hK _ ?_; clear hK K) | (refine gLex_ask rfl rfl rfl ?_; first | (apply gAsk_yes; kernel_rfl; intro K hK; (go_simp; (try (simp only [↓IntWalk.iteOmega]; try go_simp)); (try simp (disch := omega) only [IntWalk.i64_in]); (try simp (disch := omega) only [IntWalk.u64_in]); first | (refine hK _ ?_; clear hK K) | (apply Exists.intro; refine ⟨fun x => ?_, hK _ ?_⟩; (first | fail); clear hK K))) | ((first | apply gAsk_no1 | apply gAsk_no2); kernel_rfl; intro K hK; simp [go_sem]; refine hK _ ?_; clear hK K)))))
  refine gLex_prop rfl (by kernel_rfl) rfl (by simp) (LaidP w.heap.size N E.length (fN E)) (LaidP.lasts _ _ _ _) (fun x => by
    go_simp
    refine (C3.out _ A1 c1 (HO.out.1.grows (by repeat (first | exact Grows.refl _ | refine Grows.now ?_ _ | refine Grows.new ?_ _ | refine Grows.drewN ?_ _ | refine Grows.drew ?_ | assumption | (refine Grows.set ?_ (by first | omega | (simp; done) | (simp; omega)) _))))).mono ?_
    rintro e w' ⟨g1, g2, X, B, rfl, q1, q2, q3, q4, l1, l2, hg⟩
    have hlx := (show Grows w x.now from (by repeat (first | exact Grows.refl _ | refine Grows.now ?_ _ | refine Grows.new ?_ _ | refine Grows.drewN ?_ _ | refine Grows.drew ?_ | assumption | (refine Grows.set ?_ (by first | omega | (simp; done) | (simp; omega)) _)))).size
    exact ⟨_, rfl, hg, g1, g2, rfl, ⟨X, B, q1, q2, q3, q4⟩, by omega, by omega⟩) ?_
  (repeat' (first | (refine gLex_val0 rfl (by kernel_rfl) (fun K hK => ?_); (go_simp; (try (simp only [↓IntWalk.iteOmega]; try go_simp)); (try simp (disch := omega) only [IntWalk.i64_in]); (try simp (disch := omega) only [IntWalk.u64_in]); first | (refine hK _ ?_; clear hK K) | (apply Exists.intro; refine ⟨fun x => ?_, hK _ ?_⟩; (first | fail); clear hK K))) | (refine gLex_undef rfl rfl rfl (by kernel_rfl) (fun K hK => ?_); go_simp; refine hK _ ?_; clear hK K) | (refine gLex_ask rfl rfl rfl ?_; first | (apply gAsk_yes; kernel_rfl; intro K hK; (go_simp; (try (simp only [↓IntWalk.iteOmega]; try go_simp)); (try simp (disch := omega) only [IntWalk.i64_in]); (try simp (disch := omega) only [IntWalk.u64_in]); first | (refine hK _ ?_; clear hK K) | (apply Exists.intro; refine ⟨fun x => ?_, hK _ ?_⟩; (first | fail); clear hK K))) | ((first | apply gAsk_no1 | apply gAsk_no2); kernel_rfl; intro K hK; simp [go_sem]; refine hK _ ?_; clear hK K))))
  refine gLex_prop rfl (by kernel_rfl) rfl (by simp) (LaidP w.heap.size N E.length (tN E)) (LaidP.lasts _ _ _ _) (fun x => by
    go_simp
    refine (C4.out _ A1 c1 (HO.out.1.grows (by repeat (first | exact Grows.refl _ | refine Grows.now ?_ _ | refine Grows.new ?_ _ | refine Grows.drewN ?_ _ | refine Grows.drew ?_ | assumption | (refine Grows.set ?_ (by first | omega | (simp; done) | (simp; omega)) _))))).mono ?_
    rintro e w' ⟨g1, g2, X, B, rfl, q1, q2, q3, q4, l1, l2, hg⟩
    have hlx := (show Grows w x.now from (by repeat (first | exact Grows.refl _ | refine Grows.now ?_ _ | refine Grows.new ?_ _ | refine Grows.drewN ?_ _ | refine Grows.drew ?_ | assumption | (refine Grows.set ?_ (by first | omega | (simp; done) | (simp; omega)) _)))).size
    exact ⟨_, rfl, hg, g1, g2, rfl, ⟨X, B, q1, q2, q3, q4⟩, by omega, by omega⟩) ?_
  refine gLex_endT2 (by decide) (by simp) (by simp) (fun x v1 v2 hv1 hv2 => ?_)
  obtain ⟨g1, g2, rfl, hL1, l1, l2⟩ := hv1
  obtain ⟨g3, g4, rfl, hL2, l3, l4⟩ := hv2
  have HL1 := hide hL1
  have HL2 := hide hL2
  clear hL1 hL2
  simp only [Act.put, List.setIfInBounds_toArray, List.set_cons_zero, List.set_cons_succ]
  go_wp2_with fail
  go_ret2
  have hg2 : Grows W0 x.now := (by repeat (first | exact Grows.refl _ | refine Grows.now ?_ _ | refine Grows.new ?_ _ | refine Grows.drewN ?_ _ | refine Grows.drew ?_ | assumption | (refine Grows.set ?_ (by first | omega | (simp; done) | (simp; omega)) _)))
  have hnew : Grows x.now (x.now.alloc (.cells #[.int .i64 (N : Int), .slice A1 E.length c1, .slice (some ⟨g1, 0, none⟩) E.length E.length, .slice (some ⟨g2, 0, none⟩) (N + 1) (N + 1), .slice (some ⟨g3, 0, none⟩) E.length E.length, .slice (some ⟨g4, 0, none⟩) (N + 1) (N + 1)] 173)) := (Grows.refl _).new _
  have hgw := hgW.trans hg2
  have hsz2 := hgw.size
  obtain ⟨X1, B1, z1, z2, _⟩ := HL1.out
  obtain ⟨X2, B2, z3, z4, _⟩ := HL2.out
  have y1 := z1.lt
  have y2 := z2.lt
  have y3 := z3.lt
  have y4 := z4.lt
  have hnn : (x.now.alloc (.cells #[.int .i64 (N : Int), .slice A1 E.length c1, .slice (some ⟨g1, 0, none⟩) E.length E.length, .slice (some ⟨g2, 0, none⟩) (N + 1) (N + 1), .slice (some ⟨g3, 0, none⟩) E.length E.length, .slice (some ⟨g4, 0, none⟩) (N + 1) (N + 1)] 173)).heap.size = x.now.heap.size + 1 := by simp
  refine ⟨x.now.heap.size, rfl, ⟨A1, c1, g1, g2, g3, g4, Arr.make _ _ _, (HO.out.1.grows hg2).grows hnew, HL1.out.grows hnew, HL2.out.grows hnew, ⟨hsz2, by rw [hnn]; omega⟩, ⟨l1, by rw [hnn]; omega⟩, ⟨l2, by rw [hnn]; omega⟩, ⟨l3, by rw [hnn]; omega⟩, ⟨l4, by rw [hnn]; omega⟩, fun p hp => ?_⟩, hgw.trans hnew⟩
  have := HO.out.2 p hp
  have h3 := hg2.size
  exact ⟨this.1, by rw [hnn]; omega⟩
end Go.Proofs.Ytiljgkaffgclgaa

/- A range over a function whose iterator keeps memory of its own: the contract of such an iterator, and the law of the loop. -/
namespace Go.Proofs.Ytiljgkaffgclgaa
open Go Go.RowKit

/-- An invariant that abides what the owner of the blocks M does: it turns its own blocks, and lays new ones for itself. -/
def Yields' {α : Type} (J : List α → (Nat → Prop) → World → Prop) : Prop :=
  ∀ pre M W M' W', J pre M W → Touch M W W' → (∀ k, M' k → (M k ∨ W.heap.size ≤ k) ∧ k < W'.heap.size) → J pre M' W'

/-- The iterator 'g' (with what it has captured) hands over the values of xs, one by one: of whatever rounds that keep the blocks of B, which it reads, and the iterator's own blocks (at first M0). -/
def Gives {α : Type} (P : Program) (g : Nat) (lb : Array Value) (encs : α → Array Value) (B M0 : Nat → Prop) (xs : List α) (w : World) : Prop :=
  ∀ (l : Nat) (J Jx : List α → (Nat → Prop) → World → Prop) (W : World), Keeps B M0 w W → Yields' J → Yields' Jx →
    (∀ pre x rest M W1, xs = pre ++ x :: rest → J pre M W1 → YieldAt Fence.wide 0 P l (encs x) W1 fun e W' =>
      (e = .returned (.bool true) ∧ J (pre ++ [x]) M W' ∧ Keeps B M W1 W') ∨ (e = .returned (.bool false) ∧ Jx (pre ++ [x]) M W' ∧ Keeps B M W1 W')) →
    J [] M0 W →
    CallsIn Fence.wide 0 P g (#[.func (.yield l) #[] #[]] ++ lb) W fun e W' => (∃ v, e = .returned v) ∧ ((∃ M, J xs M W') ∨ (∃ pre x rest M, xs = pre ++ x :: rest ∧ Jx (pre ++ [x]) M W'))

/-- How a round may end. -/
def roundEnd {α : Type} (B M : Nat → Prop) (I : List α → (Nat → Prop) → World → Prop) (Ix : Code → List α → (Nat → Prop) → World → Prop) (xs : List α) (W : World) : Exit → Act → World → Prop
  | .normal, _, W' => Keeps B M W W' ∧ I xs M W'
  | .ret, _, W' => Keeps B M W W' ∧ Ix .ret xs M W'
  | .exit id, _, W' => Keeps B M W W' ∧ Ix (.exit id) xs M W'
  | .goto t, _, W' => Keeps B M W W' ∧ Ix (.goto t) xs M W'
  | .panic _, _, _ => False
  | .outgrown, _, _ => False

/-- The blocks M, and two more. -/
def With2 (M : Nat → Prop) (d l : Nat) (k : Nat) : Prop := M k ∨ k = d ∨ k = l
/-- The loop's own two blocks: its record, and that for deferred calls. -/
def Book (M : Nat → Prop) (D l : Nat) (o : Obj) (W : World) : Prop :=
  W.heap[l]? = some o ∧ W.heap[D]? = some (.deferred (some [])) ∧ ¬ M l ∧ ¬ M D ∧ D ≠ l ∧ ∀ k, M k → k < W.heap.size

theorem Yields'.book {α : Type} {I : List α → (Nat → Prop) → World → Prop} (hI : Yields' I) (D l : Nat) (o : Obj) : Yields' (fun pre M W => I pre (With2 M D l) W ∧ Book M D l o W) := by
  rintro pre M W M' W' ⟨h1, h2, h3, h4, h5, h6, h7⟩ ht hM
  have l2 := (Array.getElem?_eq_some_iff.1 h2).1
  have l3 := (Array.getElem?_eq_some_iff.1 h3).1
  have hs := ht.size
  refine ⟨hI pre (With2 M D l) W (With2 M' D l) W' h1 (ht.mono fun k h => .inl h) (fun k hk => ?_), ht.at h4 h2, ht.at h5 h3, fun e => ?_, fun e => ?_, h6, fun k hk => (hM k hk).2⟩
  · rcases hk with hk | hk
    · obtain ⟨h6 | h6, h7⟩ := hM k hk
      · exact ⟨.inl (.inl h6), h7⟩
      · exact ⟨.inr h6, h7⟩
    · refine ⟨.inl (.inr hk), ?_⟩
      rcases hk with rfl | rfl <;> omega
  · rcases (hM _ e).1 with h | h
    · exact h4 h
    · omega
  · rcases (hM _ e).1 with h | h
    · exact h5 h
    · omega
theorem Yields'.ex {α β : Type} {J : β → List α → (Nat → Prop) → World → Prop} (h : ∀ c, Yields' (J c)) : Yields' (fun pre M W => ∃ c, J c pre M W) :=
  fun pre M W M' W' ⟨c, h1⟩ ht hM => ⟨c, h c pre M W M' W' h1 ht hM⟩
theorem Yields'.and {α : Type} {I J : List α → (Nat → Prop) → World → Prop} (h : Yields' I) (k : Yields' J) : Yields' (fun pre M W => I pre M W ∧ J pre M W) :=
  fun pre M W M' W' ⟨h1, h2⟩ ht hM => ⟨h pre M W M' W' h1 ht hM, k pre M W M' W' h2 ht hM⟩
theorem Yields'.pure {α : Type} (p : List α → Prop) : Yields' (fun pre _ _ => p pre) := fun _ _ _ _ _ h _ _ => h
theorem Book.turn {M : Nat → Prop} {D l : Nat} {o : Obj} {W : World} (h : Book M D l o W) (o' : Obj) : Book M D l o' (W.putObj l o') := by
  obtain ⟨h2, h3, h4, h5, h6, h7⟩ := h
  exact ⟨World.putObj_heap_same (Array.getElem?_eq_some_iff.1 h2).1, (World.putObj_heap_other h6).trans h3, h4, h5, h6, fun k hk => by simp; exact h7 k hk⟩
theorem Book.inv {α : Type} {M : Nat → Prop} {D l : Nat} {o : Obj} {W : World} (h : Book M D l o W) {I : List α → (Nat → Prop) → World → Prop} (hI : Yields' I) {pre : List α} (hi : I pre (With2 M D l) W) (o' : Obj) : I pre (With2 M D l) (W.putObj l o') := by
  obtain ⟨h2, h3, h4, h5, h6, h7⟩ := h
  have l2 := (Array.getElem?_eq_some_iff.1 h2).1
  have l3 := (Array.getElem?_eq_some_iff.1 h3).1
  refine hI pre _ W _ _ hi ((Touch.refl _ W).put (.inl (.inr (.inr rfl))) o') fun k hk => ⟨.inl hk, ?_⟩
  rw [World.putObj_size]
  rcases hk with hk | rfl | rfl
  · exact h7 k hk
  · exact l3
  · exact l2
theorem Book.keeps {M : Nat → Prop} {D l : Nat} {B : Nat → Prop} {o : Obj} {W W' : World} (h : Book M D l o W) (hk : Keeps B (With2 M D l) W W') : Book M D l o W' := by
  obtain ⟨h2, h3, h4, h5, h6, h7⟩ := h
  exact ⟨hk.at (.inr (.inr (.inr rfl))) h2, hk.at (.inr (.inr (.inl rfl))) h3, h4, h5, h6, fun k hk' => Nat.lt_of_lt_of_le (h7 k hk') hk.size⟩

section
variable {α : Type} {P : Program} {g : Operand} {ps : Array Tmp} {assign body : Code} {Q : Exit → Act → World → Prop} {a : Act} {w w0 : World}

theorem wp_rangeG {gf : Nat} {lb : Array Value} (hg : a.eval g = .func (.func gf) #[] lb) (eg : ∀ args w, (callFunc gf args).run P w = .ok (.enter gf args) w)
    {encs : α → Array Value} {B M0 : Nat → Prop} {xs : List α} (hseq : Gives P gf lb encs B M0 xs w0) (hw0 : Keeps B M0 w0 w) (hB : ∀ k, B k → k < w.heap.size) (hM0 : ∀ k, M0 k → k < w.heap.size)
    (hps : ∀ x, (encs x).size = ps.size) (I : List α → (Nat → Prop) → World → Prop) (Ix : Code → List α → (Nat → Prop) → World → Prop) (hI : Yields' I) (hIx : ∀ c, Yields' (Ix c))
    (h0 : I [] M0 w) (Ib : α → Act → List α → (Nat → Prop) → World → Prop) (hIb : ∀ x a, Yields' (Ib x a))
    (hassign : ∀ (l : Nat) (pre : List α) (x : α) (rest : List α) (M : Nat → Prop) (W : World), xs = pre ++ x :: rest → I pre M W →
      assign.wpIn (Fence.wide.inRound l) 0 P (Exit.then (fun a' W' => Ib x a' pre M W' ∧ Keeps B M W W') (fun _ _ _ => False)) { tmps := (ps.zip (encs x)).foldl (fun t (p, v) => t.setIfInBounds p v) a.tmps, defers := [] } W)
    (hbody : ∀ (l : Nat) (pre : List α) (x : α) (rest : List α) (M : Nat → Prop) (a' : Act) (W : World), xs = pre ++ x :: rest → w.heap.size ≤ l → M l → (∃ r, W.heap[l]? = some (.loop r)) → Ib x a' pre M W →
      body.wpIn (Fence.wide.inRound l) 0 P (roundEnd B M I Ix (pre ++ [x]) W) a' W)
    (hdone : ∀ (D : Nat) (M : Nat → Prop) (W : World), w.heap.size ≤ D → M D → I xs M W → W.heap[D]? = some (.deferred (some [])) → Q .normal { a with defers := { target := .collected D, args := #[] } :: a.defers } W)
    (hstop : ∀ (D : Nat) (c : Code) (pre : List α) (x : α) (rest : List α) (M : Nat → Prop) (W : World), w.heap.size ≤ D → M D → xs = pre ++ x :: rest → Ix c (pre ++ [x]) M W → W.heap[D]? = some (.deferred (some [])) →
      c.wpIn Fence.wide 0 P Q { a with defers := { target := .collected D, args := #[] } :: a.defers } W) :
    (Code.rangeFunc g ps assign body).wpIn Fence.wide 0 P Q a w := by
  refine wpIn_rangeFunc fun fn hfn => ?_
  obtain ⟨rec, hrec⟩ : ∃ rec : LoopState → Option Code → Loop, rec = fun st pe => { state := st, pending := pe, fn, tmps := a.tmps, params := ps, assign, body, defers := w.heap.size } := ⟨_, rfl⟩
  obtain ⟨W1, hW1⟩ : ∃ W1, (w.alloc (.deferred (some []))).alloc (.loop (rec .ready none)) = W1 := ⟨_, rfl⟩
  have hs1 : W1.heap.size = w.heap.size + 1 + 1 := by rw [← hW1]; simp
  have hg1 : Grows w W1 := by rw [← hW1]; exact ((Grows.refl w).new _).new _
  have hL1 : W1.heap[w.heap.size + 1]? = some (.loop (rec .ready none)) := by
    have := World.alloc_heap_new (w.alloc (.deferred (some []))) (.loop (rec .ready none))
    rw [World.size_alloc] at this
    rw [← hW1]; exact this
  have hK1 : W1.heap[w.heap.size]? = some (.deferred (some [])) := by
    rw [← hW1]; exact (Below.heap_alloc _ _ _ (by simp)).trans (World.alloc_heap_new w _)
  have hB1 : Book M0 w.heap.size (w.heap.size + 1) (.loop (rec .ready none)) W1 :=
    ⟨hL1, hK1, fun e => by have := hM0 _ e; omega, fun e => by have := hM0 _ e; omega, by omega, fun k hk => by have := hM0 k hk; omega⟩
  have hI1 : I [] (With2 M0 w.heap.size (w.heap.size + 1)) W1 := by
    refine hI [] M0 w _ W1 h0 (hg1.touch _) fun k hk => ?_
    rcases hk with hk | rfl | rfl
    · exact ⟨.inl hk, by have := hM0 k hk; omega⟩
    · exact ⟨.inr (Nat.le_refl _), by omega⟩
    · exact ⟨.inr (by omega), by omega⟩
  refine ⟨w.heap.size + 1, [{ target := .collected w.heap.size, args := #[] }], W1, { target := .fn (.func gf) lb, args := #[.func (.yield (w.heap.size + 1)) #[] #[]] }, W1, gf,
    #[.func (.yield (w.heap.size + 1)) #[] #[]] ++ lb, W1, ?_, ?_, fun _ _ => trivial, ?_, fun h => by simp [Fence.wide] at h, ?_⟩
  · rw [← hW1, hrec]; exact run_enterLoop_outer _ _ _ _ _
  · simp only [resolve, hg]
    simp [go_sem]
  · simp [invoke, go_sem, eg]
  · obtain ⟨D, hD⟩ : ∃ D, w.heap.size = D := ⟨_, rfl⟩
    obtain ⟨l, hl⟩ : ∃ l, D + 1 = l := ⟨_, rfl⟩
    rw [hD, hl] at hB1 hI1
    rw [hD, hl]
    have hnl : ¬ B l := fun e => by have := hB l e; omega
    refine (hseq l (fun pre M W => I pre (With2 M D l) W ∧ Book M D l (.loop (rec .ready none)) W) (fun pre M W => ∃ c, Ix c pre (With2 M D l) W ∧ Book M D l (.loop (rec .done (some c))) W)
      W1 (hw0.trans (hg1.touch _)) (hI.book _ _ _) (Yields'.ex fun c => (hIx c).book _ _ _) ?_ ⟨hI1, hB1⟩).mono ?_
    · rintro pre x rest M W hx ⟨hi, hb⟩
      have hy := run_yield (P := P) (args := encs x) hb.1 (by rw [hrec]; exact hps x)
      rw [hrec] at hy
      refine ⟨fn, _, assign, body, hy, roundIn_of_wpIn hfn ?_⟩
      clear hy
      refine wpIn_mono (hassign l pre x rest (With2 M D l) W hx hi) ?_
      rintro e a2 W2 hp
      cases e <;> first | exact hp.elim | skip
      obtain ⟨hib, hk2⟩ := hp
      have hb2 := hb.keeps hk2
      refine ⟨_, run_beginRound hb2.1 (by rw [hrec]), ?_⟩
      have hb3 := hb2.turn (.loop { rec .ready none with state := .busy })
      have hi3 := hb2.inv (hIb x a2) hib (.loop { rec .ready none with state := .busy })
      refine wpIn_mono (hbody l pre x rest (With2 M D l) a2 _ hx (by omega) (.inr (.inr rfl)) ⟨_, hb3.1⟩ hi3) ?_
      have hkA : Keeps B M W (W2.putObj l (.loop { rec .ready none with state := .busy })) :=
        Touch.put (hk2.mono fun k h => .inl h) (.inl (fun e => e.elim hnl hb2.2.2.1)) _
      have fin : ∀ (jump : Option Code) (W4 : World), Keeps B (With2 M D l) (W2.putObj l (.loop { rec .ready none with state := .busy })) W4 →
          (Instr.endRound l jump).run P W4 = .ok (.bool jump.isNone) (W4.putObj l (.loop (rec (if jump.isNone then .ready else .done) jump))) ∧ Book M D l (.loop { rec .ready none with state := .busy }) W4 := fun jump W4 hk4 => by
        have hb4 := hb3.keeps hk4
        have := run_endRound (P := P) jump hb4.1
        rw [hrec] at this ⊢
        exact ⟨this, by rw [hrec] at hb4; exact hb4⟩
      rintro e a3 W4 hp
      cases e with
      | normal =>
        obtain ⟨hk4, hi4⟩ := hp
        obtain ⟨hr, hb4⟩ := fin none W4 hk4
        exact ⟨_, _, hr, .inl ⟨rfl, ⟨hb4.inv hI hi4 _, hb4.turn _⟩, Touch.put (hkA.trans (hk4.mono fun k h => .inl h)) (.inl (fun e => e.elim hnl hb4.2.2.1)) _⟩⟩
      | ret =>
        obtain ⟨hk4, hi4⟩ := hp
        obtain ⟨hr, hb4⟩ := fin (some .ret) W4 hk4
        exact ⟨_, _, hr, .inr ⟨rfl, ⟨.ret, hb4.inv (hIx _) hi4 _, hb4.turn _⟩, Touch.put (hkA.trans (hk4.mono fun k h => .inl h)) (.inl (fun e => e.elim hnl hb4.2.2.1)) _⟩⟩
      | exit id =>
        obtain ⟨hk4, hi4⟩ := hp
        obtain ⟨hr, hb4⟩ := fin (some (.exit id)) W4 hk4
        exact ⟨_, _, hr, .inr ⟨rfl, ⟨.exit id, hb4.inv (hIx _) hi4 _, hb4.turn _⟩, Touch.put (hkA.trans (hk4.mono fun k h => .inl h)) (.inl (fun e => e.elim hnl hb4.2.2.1)) _⟩⟩
      | goto t =>
        obtain ⟨hk4, hi4⟩ := hp
        obtain ⟨hr, hb4⟩ := fin (some (.goto t)) W4 hk4
        exact ⟨_, _, hr, .inr ⟨rfl, ⟨.goto t, hb4.inv (hIx _) hi4 _, hb4.turn _⟩, Touch.put (hkA.trans (hk4.mono fun k h => .inl h)) (.inl (fun e => e.elim hnl hb4.2.2.1)) _⟩⟩
      | panic ch => exact hp.elim
      | outgrown => exact hp.elim
    · rintro e W2 ⟨⟨v, rfl⟩, (⟨M, hi, hb⟩ | ⟨pre, x, rest, M, hx, c, hi, hb⟩)⟩
      · have he := run_endLoop (P := P) hb.1 (by rw [hrec]; simp)
        refine ⟨_, _, he, ?_⟩
        rw [show (rec .ready none).pending = none by rw [hrec]]
        exact hdone D _ _ (by omega) (.inr (.inl rfl)) (hb.inv hI hi _) (hb.turn _).2.1
      · have he := run_endLoop (P := P) hb.1 (by rw [hrec]; simp)
        refine ⟨_, _, he, ?_⟩
        rw [show (rec .done (some c)).pending = some c by rw [hrec]]
        exact hstop D c pre x rest _ _ (by omega) (.inr (.inl rfl)) hx (hb.inv (hIx c) hi _) (hb.turn _).2.1
end
end Go.Proofs.Ytiljgkaffgclgaa
