/- Contracts: what a hierarchy says. -/
import Derived.Test.YtgplpgldhoelcaaQChangeAgain19
import Derived.Test.YtgplpgldhoelcaaQChangeAgain13
import Derived.Test.YtgplpgldhoelcaaQChangeAgain10
namespace Go.Proofs.Ytgplpgldhoelcaa
open Go Go.RowKit
attribute [local go_sem] Oper.semAt_some
theorem hiSizeNil (w : World) : Calls Try.prog 42 #[.pointer none] w fun e w' => e = .returned (.int .i64 0) ∧ w = w' := by
  go_enter Try.func42, Try.ntmps42
  go_wp2_with fail
  go_ret
  exact ⟨rfl, rfl⟩
theorem hiSize (b N : Nat) (E : List Edg) (r : List Nat) (S : List SI) (w : World) (h : HiAt w b N E r S) : Calls Try.prog 42 #[.pointer (some ⟨b, 0, none⟩)] w fun e w' => e = .returned (.int .i64 (S.length : Int)) ∧ w = w' := by
  obtain ⟨A, c, B, d, A2, c2, go, gi_, h1, _⟩ := h
  generalize S.length = n2 at *
  go_enter Try.func42, Try.ntmps42
  go_wp2_with fail
  go_ret
  exact ⟨rfl, rfl⟩
def GiveHR (w : World) (N : Nat) (r : List Nat) (S : List SI) (e : Ending) (w' : World) : Prop := ∃ B d A c, e = .returned (.agg #[.slice B N d, .slice A S.length c]) ∧ Rd w' B 1 N (nv r) ∧ Rd w' A 6 S.length (sis S) ∧ S.length ≤ c ∧ Grows w w'
set_option maxHeartbeats 2000000 in
theorem hiHierarchy (b N : Nat) (E : List Edg) (r : List Nat) (S : List SI) (w : World) (h : HiAt w b N E r S) (hN : N ≤ 1000000) (hS : S.length ≤ 1000000) : Calls Try.prog 20 #[.pointer (some ⟨b, 0, none⟩)] w (GiveHR w N r S) := by
  obtain ⟨A, c, B, d, A2, c2, go, gi_, h1, _, h3, h4, _⟩ := h
  have CC := hide (fun (W : World) (g : Grows w W) => hiClone B N d (nvI r) A2 S.length c2 S W (by rw [← nvI_vals]; exact h3.grows g) hN (h4.grows g) hS)
  unfold GiveHC at CC
  unfold GiveHR
  clear h3 h4
  generalize S.length = n2 at *
  go_enter Try.func20, Try.ntmps20
  go_wp2_with (go_at_call 47; refine (CC.out _ GG).mono ?_; rintro e w' ⟨B1, d1, A1, c1, rfl, ho1, ho2, hg⟩; obtain ⟨x1, rfl⟩ := hg.later; have HO1 := hide ho1; have HO2 := hide ho2; clear ho1 ho2 hg)
  have hz1 := x1.size
  refine bodyPost_ret (v := .agg #[.slice B1 N d1, .slice A1 n2 c1]) (by simp (maxDischargeDepth := 6) [results, Try.results20, go_sem, *]) rfl ⟨B1, d1, A1, c1, rfl, ?_, ?_, HO2.out.capH, GG⟩
  · have := (((HO1.out).low (q := ⟨w.heap.size, 0, none⟩) (by simp) (.slice B1 N d1)).low (q := ⟨w.heap.size, 1, none⟩) (by simp) (.slice A1 n2 c1)).rd
    rw [← nvI_vals] at this
    exact this
  · exact (((HO2.out).low (q := ⟨w.heap.size, 0, none⟩) (by simp) (.slice B1 N d1)).low (q := ⟨w.heap.size, 1, none⟩) (by simp) (.slice A1 n2 c1)).rd
def GiveGR (w : World) (N : Nat) (E : List Edg) (e : Ending) (w' : World) : Prop := ∃ A c, e = .returned (.agg #[.int .i64 (N : Int), .slice A E.length c]) ∧ Rd w' A 3 E.length (esCells E) ∧ Grows w w'
set_option maxHeartbeats 2000000 in
theorem hiGraph (b N : Nat) (E : List Edg) (r : List Nat) (S : List SI) (w : World) (h : HiAt w b N E r S) (hE : E.length ≤ 1000000) : Calls Try.prog 23 #[.pointer (some ⟨b, 0, none⟩)] w (GiveGR w N E) := by
  obtain ⟨A, c, B, d, A2, c2, go, gi_, h1, h2, _⟩ := h
  have CC := hide (fun (W : World) (g : Grows w W) => gClone (N : Int) A E.length c E W (h2.grows g) hE)
  unfold GiveOG at CC
  unfold GiveGR
  clear h2
  generalize E.length = n at *
  go_enter Try.func23, Try.ntmps23
  go_wp2_with (go_at_call 50; refine (CC.out _ GG).mono ?_; rintro e w' ⟨A1, c1, rfl, ho1, hg⟩; obtain ⟨x1, rfl⟩ := hg.later; have HO1 := hide ho1; clear ho1 hg)
  refine bodyPost_ret (v := .agg #[.int .i64 (N : Int), .slice A1 n c1]) (by simp (maxDischargeDepth := 6) [results, Try.results23, go_sem, *]) rfl ⟨A1, c1, rfl, ?_, GG⟩
  exact (((HO1.out).low (q := ⟨w.heap.size, 0, none⟩) (by simp) (.int .i64 (N : Int))).low (q := ⟨w.heap.size, 1, none⟩) (by simp) (.slice A1 n c1)).rd
set_option maxHeartbeats 2000000 in
theorem hiShortcut (b N : Nat) (E : List Edg) (r : List Nat) (S : List SI) (i : Nat) (w : World) (h : HiAt w b N E r S) (hi : i < S.length) : Calls Try.prog 43 #[.pointer (some ⟨b, 0, none⟩), .int .i64 (i : Int)] w fun e w' => e = .returned (.tuple #[siVal (gsi S i), .bool true]) ∧ Grows w w' := by
  have CN := hide (fun (W : World) (g : Grows w W) => hiSize b N E r S W (h.grow g))
  obtain ⟨A, c, B, d, A2, c2, go, gi_, h1, _, _, h4, _⟩ := h
  obtain ⟨bb, off, rfl, hcc⟩ := h4.siH (by omega)
  obtain ⟨c1, c2', c3, c4, c5, c6⟩ := hcc i hi
  unfold siVal
  clear hcc h4
  generalize S.length = n2 at *
  generalize (gsi S i).f = sf at *
  generalize (gsi S i).t = st at *
  generalize (gsi S i).w = sw at *
  generalize (gsi S i).e = se at *
  generalize (gsi S i).a = sa at *
  generalize (gsi S i).b = sb at *
  go_enter Try.func43, Try.ntmps43
  go_wp2_with (go_at_call 42; refine (CN.out _ GG).mono ?_; rintro e w' ⟨rfl, rfl⟩)
  all_goals first | (exfalso; omega) | exact bodyPost_ret (v := .tuple #[.agg #[.int .i64 sf, .int .i64 st, .int .u64 sw, .int .i64 se, .int .i64 sa, .int .i64 sb], .bool true]) (by simp (maxDischargeDepth := 6) [results, Try.results43, go_sem]) rfl ⟨rfl, GG⟩
end Go.Proofs.Ytgplpgldhoelcaa

namespace Go.Proofs.Ytgplpgldhoelcaa
open Go Go.RowKit
def szTF (c : Ctr) (v N : Nat) : Nat := szL (lightest c.O c.G v).1 N + szL (lightest c.O c.G v).2 N
theorem szTF_le (c : Ctr) (v N : Nat) : szTF c v N ≤ 2 * N := by
  have h : ∀ m : LM, szL m N ≤ N := fun m => by
    unfold szL
    have := List.length_filter_le (fun u => (m u).isSome) (List.range N)
    simpa using this
  have h1 := h (lightest c.O c.G v).1
  have h2 := h (lightest c.O c.G v).2
  unfold szTF
  omega
def keyN (hops settles : Nat) (c : Ctr) (v : Nat) : Nat := 1099511627776 + (keptL c.O c.G hops settles v).length + 2 * gn c.D v - szTF c v c.O.length
def HS.keyAt (s : HS) (v : Nat) : Nat := (gi2 s.L (gz s.T v).toNat).2
theorem HS.Lk.key {s : HS} {N v k : Nat} (h : s.Lk N) (hm : s.Mem (v, k)) : s.keyAt v = k ∧ gz s.T v ≠ -1 ∧ v < N := by
  obtain ⟨i, hi, e⟩ := hm
  obtain ⟨h1, h2⟩ := h.at_ i hi
  rw [e] at h1 h2
  simp only at h1 h2
  refine ⟨?_, by omega, h1⟩
  unfold HS.keyAt
  rw [h2, Int.toNat_natCast, e]
theorem HS.Lk.mem {s : HS} {N v : Nat} (h : s.Lk N) (hv : v < N) (hz : gz s.T v ≠ -1) : s.Mem (v, s.keyAt v) := by
  rcases h.no v hv with e | ⟨i, hi, h1, h2⟩
  · exact absurd e hz
  · refine ⟨i, hi, ?_⟩
    unfold HS.keyAt
    rw [h1, Int.toNat_natCast]
    exact Prod.ext h2 rfl
def stale (key : Nat → Nat) (s : HS) (N : Nat) : Nat := ((List.range N).filter fun v => decide (gz s.T v ≠ -1) && !decide (s.keyAt v = key v)).length
theorem stale_le (key : Nat → Nat) (s : HS) (N : Nat) : stale key s N ≤ N := by
  unfold stale
  have := List.length_filter_le (fun v => decide (gz s.T v ≠ -1) && !decide (s.keyAt v = key v)) (List.range N)
  simpa using this
theorem filter_less {p q : Nat → Bool} {l : List Nat} (h : ∀ x ∈ l, p x = true → q x = true) {v : Nat} (hv : v ∈ l) (h1 : p v = false) (h2 : q v = true) : (l.filter p).length < (l.filter q).length := by
  induction l with
  | nil => cases hv
  | cons a l ih =>
    have hle : (l.filter p).length ≤ (l.filter q).length := by
      rw [← List.countP_eq_length_filter, ← List.countP_eq_length_filter]
      exact List.countP_mono_left (fun x hx => h x (List.mem_cons_of_mem _ hx))
    rcases List.mem_cons.1 hv with e | e
    · subst e
      rw [List.filter_cons_of_neg (by simp [h1]), List.filter_cons_of_pos h2, List.length_cons]
      omega
    · have := ih (fun x hx => h x (List.mem_cons_of_mem _ hx)) e
      cases hp : p a with
      | true => rw [List.filter_cons_of_pos hp, List.filter_cons_of_pos (h a (List.mem_cons_self ..) hp), List.length_cons, List.length_cons]; omega
      | false =>
        rw [List.filter_cons_of_neg (by simp [hp])]
        cases hq : q a with
        | true => rw [List.filter_cons_of_pos hq, List.length_cons]; omega
        | false => rw [List.filter_cons_of_neg (by simp [hq])]; exact this
structure OrdN (N : Nat) (out : List Nat) (s : HS) : Prop where
  lk : s.Lk N
  or : s.Or
  nodup : out.Nodup
  lt : ∀ v ∈ out, v < N
  waits : ∀ v, v < N → v ∉ out → ∃ k, s.Mem (v, k)
  gone : ∀ v k, s.Mem (v, k) → v ∉ out
theorem OrdN.len {N : Nat} {out : List Nat} {s : HS} (h : OrdN N out s) : out.length ≤ N := by
  have := h.nodup.length_le_of_subset (l₂ := List.range N) (fun v hv => List.mem_range.2 (h.lt v hv))
  simpa using this
theorem OrdN.all {N : Nat} {out : List Nat} {s : HS} (h : OrdN N out s) (h0 : s.L.length = 0) : ∀ v, v < N → v ∈ out := by
  intro v hv
  apply Decidable.byContradiction
  intro hn
  obtain ⟨k, i, hi, _⟩ := h.waits v hv hn
  omega
theorem OrdN.top {N : Nat} {out : List Nat} {s : HS} (h : OrdN N out s) (h0 : 0 < s.L.length) : (gi2 s.L 0).1 < N ∧ (gi2 s.L 0).1 ∉ out ∧ gz s.T (gi2 s.L 0).1 = (0 : Nat) :=
  ⟨(h.lk.at_ 0 h0).1, h.gone _ (gi2 s.L 0).2 ⟨0, h0, rfl⟩, (h.lk.at_ 0 h0).2⟩
theorem OrdN.take {N : Nat} {out : List Nat} {s : HS} (h : OrdN N out s) (h0 : 0 < s.L.length) : OrdN N (out ++ [(gi2 s.L 0).1]) (s.drop (gi2 s.L 0).1) ∧ out.length < N := by
  obtain ⟨t1, t2, t3⟩ := h.top h0
  obtain ⟨d1, d2, d3⟩ := HS.drop_ok (v := (gi2 s.L 0).1) (f := (gi2 s.L 0).2) h.lk h.or h0 rfl
  have hI : OrdN N (out ++ [(gi2 s.L 0).1]) (s.drop (gi2 s.L 0).1) := by
    refine ⟨d1, d2, ?_, ?_, ?_, ?_⟩
    · rw [List.nodup_append]
      exact ⟨h.nodup, by simp, fun a ha b hb e => by rw [List.mem_singleton.1 hb] at e; rw [e] at ha; exact t2 ha⟩
    · intro v hv
      rcases List.mem_append.1 hv with h1 | h1
      · exact h.lt v h1
      · rw [List.mem_singleton.1 h1]; exact t1
    · intro v hv hn
      rw [List.mem_append, List.mem_singleton] at hn
      obtain ⟨k, hk⟩ := h.waits v hv (fun e => hn (.inl e))
      exact ⟨k, (d3 _).2 ⟨hk, fun e => hn (.inr e)⟩⟩
    · intro v k hm hv
      obtain ⟨h1, h2⟩ := (d3 _).1 hm
      rcases List.mem_append.1 hv with h3 | h3
      · exact h.gone v k h1 h3
      · exact h2 (List.mem_singleton.1 h3)
  refine ⟨hI, ?_⟩
  have := hI.len
  simp at this
  omega
theorem OrdN.again {N : Nat} {out : List Nat} {s : HS} (h : OrdN N out s) (key : Nat → Nat) (h0 : 0 < s.L.length) (h1 : 0 < (s.drop (gi2 s.L 0).1).L.length) (hk : (gi2 (s.drop (gi2 s.L 0).1).L 0).2 < key (gi2 s.L 0).1) :
    OrdN N out ((s.drop (gi2 s.L 0).1).put (gi2 s.L 0).1 (key (gi2 s.L 0).1)).1 ∧ stale key ((s.drop (gi2 s.L 0).1).put (gi2 s.L 0).1 (key (gi2 s.L 0).1)).1 N < stale key s N := by
  obtain ⟨t1, t2, t3⟩ := h.top h0
  obtain ⟨d1, d2, d3⟩ := HS.drop_ok (v := (gi2 s.L 0).1) (f := (gi2 s.L 0).2) h.lk h.or h0 rfl
  have htop : s.Mem (gi2 (s.drop (gi2 s.L 0).1).L 0) := ((d3 _).1 ⟨0, h1, rfl⟩).1
  have hle : (gi2 s.L 0).2 ≤ (gi2 (s.drop (gi2 s.L 0).1).L 0).2 := by
    obtain ⟨i, hi, e⟩ := htop
    have h2 := h.or.least i hi
    rw [e] at h2
    have := ahead_no.1 h2
    omega
  have hm0 : s.Mem ((gi2 s.L 0).1, (gi2 s.L 0).2) := ⟨0, h0, rfl⟩
  generalize (gi2 (s.drop (gi2 s.L 0).1).L 0).2 = kk at hk hle
  generalize (gi2 s.L 0).1 = v at *
  generalize (gi2 s.L 0).2 = k0 at *
  obtain ⟨p1, p2, p3⟩ := HS.put_ok (v := v) (f := key v) d1 d2 t1 (fun k hm => absurd rfl ((d3 _).1 hm).2)
  generalize ((s.drop v).put v (key v)).1 = s2 at *
  have hmem : ∀ p : Itm, s2.Mem p ↔ (s.Mem p ∧ p.1 ≠ v) ∨ p = (v, key v) := fun p => by
    rw [p3]
    constructor
    · rintro (⟨h3, h4⟩ | h3)
      · exact .inl ⟨((d3 _).1 h3).1, h4⟩
      · exact .inr h3
    · rintro (⟨h3, h4⟩ | h3)
      · exact .inl ⟨(d3 _).2 ⟨h3, h4⟩, h4⟩
      · exact .inr h3
  refine ⟨⟨p1, p2, h.nodup, h.lt, fun u hu hn => ?_, fun u k hm => ?_⟩, ?_⟩
  · by_cases e : u = v
    · exact ⟨key v, (hmem _).2 (.inr (by rw [e]))⟩
    · obtain ⟨k, hk2⟩ := h.waits u hu hn
      exact ⟨k, (hmem _).2 (.inl ⟨hk2, e⟩)⟩
  · rcases (hmem _).1 hm with ⟨h3, _⟩ | h3
    · exact h.gone u k h3
    · injection h3 with h3 _
      rw [h3]; exact t2
  · have hv2 := p1.key ((hmem _).2 (.inr rfl))
    have hv1 := h.lk.key hm0
    refine filter_less (v := v) (fun x hx2 hx => ?_) (List.mem_range.2 t1) ?_ ?_
    · simp only [Bool.and_eq_true, decide_eq_true_eq, Bool.not_eq_true', decide_eq_false_iff_not] at hx ⊢
      by_cases e : x = v
      · subst e
        exact absurd hv2.1 hx.2
      · have hm := p1.mem (List.mem_range.1 hx2) hx.1
        rcases (hmem _).1 hm with ⟨h3, _⟩ | h3
        · have := h.lk.key h3
          exact ⟨this.2.1, by rw [this.1]; exact hx.2⟩
        · injection h3 with h3 _
          exact absurd h3 e
    · simp [hv2.1]
    · simp only [Bool.and_eq_true, decide_eq_true_eq, Bool.not_eq_true', decide_eq_false_iff_not]
      exact ⟨hv1.2.1, by rw [hv1.1]; omega⟩
end Go.Proofs.Ytgplpgldhoelcaa

