/- Contracts: a hierarchy copied. -/
import Derived.Test.YtgplpgldhoelcaaQChangeAgain04
import Derived.Test.YtgplpgldhoelcaaQChangeAgain15
import Derived.Test.YtgplpgldhoelcaaQChangeAgain16
namespace Go.Proofs.Ytgplpgldhoelcaa
open Go Go.RowKit
attribute [local go_sem] Oper.semAt_some
theorem si_one (S : List SI) : ∀ u ∈ sis S, u.oneCell' = true := by
  intro u hu
  obtain ⟨e, _, h⟩ := List.mem_flatMap.1 hu
  unfold siCells at h
  simp at h
  rcases h with rfl | rfl | rfl | rfl | rfl | rfl <;> rfl
set_option maxRecDepth 20000 in
set_option maxHeartbeats 2000000 in
theorem cloneSc (A : Option Addr) (n c : Nat) (S : List SI) (w : World) (h : Rd w A 6 n (sis S)) (hn : n ≤ 1000000) :
    Calls Try.prog 86 #[.slice A n c] w fun e w' => ∃ A' c', e = .returned (.slice A' n c') ∧ Own w' w.heap.size 95 6 A' n c' (sis S) ∧ Grows w w' := by
  have hl : S.length = n := by have := h.1; rw [sis_len] at this; omega
  cases A with
  | none =>
    have hn0 : n = 0 := by
      rcases Nat.eq_zero_or_pos n with h0 | h0
      · exact h0
      · obtain ⟨_, _, e, _⟩ := h.2 h0 (by omega); cases e
    subst hn0
    have hE : S = [] := List.eq_nil_of_length_eq_zero hl
    subst hE
    clear h hl
    have hnil := fun (w : World) (a : Option Addr) (n c n' c' : Nat) => Lib.run_eql_slice_nil (P := Try.prog) w 61 95 a n c n' c' Try.underlying61
    go_enter Try.func86, Try.ntmps86
    go_wp2
    go_ret
    exact ⟨none, 0, rfl, Own.nil _ _ _ _, GG⟩
  | some ad =>
    have HR := hide h
    have HE1 := hide (si_one S)
    clear h hl
    have hnil := fun (w : World) (a : Option Addr) (n c n' c' : Nat) => Lib.run_eql_slice_nil (P := Try.prog) w 61 95 a n c n' c' Try.underlying61
    generalize sis S = xs at *
    go_enter Try.func86, Try.ntmps86
    go_wp2_with (at_builtin; refine wp_appAll elemSc rfl _ _ rfl w GG 0 0 _ [] rfl (Own.empty _ _ _ _ (Nat.le_refl _)) ad n c _ rfl (HR.out.grows GG) HE1.out (by omega) ?_; intro A3 c3 y3 hown3; have HO3 := hide hown3; clear hown3)
    go_ret
    exact ⟨A3, c3, by first | rfl | (simp; done) | (rw [Nat.zero_add]; rfl), by have := HO3.out; rwa [Nat.zero_add, List.nil_append] at this, GG⟩
set_option maxRecDepth 20000 in
set_option maxHeartbeats 2000000 in
theorem cloneIH (A : Option Addr) (n c : Nat) (l : List Int) (w : World) (h : Rd w A 1 n (l.map (.int .i64))) (hn : n ≤ 1000000) :
    Calls Try.prog 61 #[.slice A n c] w fun e w' => ∃ A' c', e = .returned (.slice A' n c') ∧ Own w' w.heap.size 3 1 A' n c' (l.map (.int .i64)) ∧ Grows w w' := by
  have hl : l.length = n := by simpa using h.len
  cases A with
  | none =>
    have hn0 : n = 0 := by
      rcases Nat.eq_zero_or_pos n with h0 | h0
      · exact h0
      · obtain ⟨_, _, e, _⟩ := h.2 h0 (by omega); cases e
    subst hn0
    have hE : l = [] := List.eq_nil_of_length_eq_zero hl
    subst hE
    clear h hl
    have hnil := fun (w : World) (a : Option Addr) (n c n' c' : Nat) => Lib.run_eql_slice_nil (P := Try.prog) w 29 3 a n c n' c' Try.underlying29
    go_enter Try.func61, Try.ntmps61
    go_wp2
    go_ret
    exact ⟨none, 0, rfl, Own.nil _ _ _ _, GG⟩
  | some ad =>
    have HR := hide h
    have HE1 := hide (show ∀ u ∈ l.map (Value.int .i64), u.oneCell' = true from fun u hu => by
      obtain ⟨x, _, rfl⟩ := List.mem_map.1 hu
      rfl)
    clear h hl
    have hnil := fun (w : World) (a : Option Addr) (n c n' c' : Nat) => Lib.run_eql_slice_nil (P := Try.prog) w 29 3 a n c n' c' Try.underlying29
    generalize l.map (Value.int .i64) = xs at *
    go_enter Try.func61, Try.ntmps61
    go_wp2_with (at_builtin; refine wp_appAll elemInt rfl _ _ rfl w GG 0 0 _ [] rfl (Own.empty _ _ _ _ (Nat.le_refl _)) ad n c _ rfl (HR.out.grows GG) HE1.out (by omega) ?_; intro A3 c3 y3 hown3; have HO3 := hide hown3; clear hown3)
    go_ret
    exact ⟨A3, c3, by first | rfl | (simp; done) | (rw [Nat.zero_add]; rfl), by have := HO3.out; rwa [Nat.zero_add, List.nil_append] at this, GG⟩
def GiveHC (w : World) (m n : Nat) (l : List Int) (S : List SI) (e : Ending) (w' : World) : Prop := ∃ B d A c, e = .returned (.agg #[.slice B m d, .slice A n c]) ∧ Own w' w.heap.size 3 1 B m d (l.map (.int .i64)) ∧ Own w' w.heap.size 95 6 A n c (sis S) ∧ Grows w w'
set_option maxRecDepth 20000 in
set_option maxHeartbeats 4000000 in
theorem hiClone (B : Option Addr) (m d : Nat) (l : List Int) (A : Option Addr) (n c : Nat) (S : List SI) (w : World) (h : Rd w B 1 m (l.map (.int .i64))) (hm : m ≤ 1000000) (hS : Rd w A 6 n (sis S)) (hn : n ≤ 1000000) :
    Calls Try.prog 47 #[.agg #[.slice B m d, .slice A n c]] w (GiveHC w m n l S) := by
  have C1 := hide (fun (W : World) (g : Grows w W) => cloneIH B m d l W (h.grows g) hm)
  have C2 := hide (fun (W : World) (g : Grows w W) => cloneSc A n c S W (hS.grows g) hn)
  clear h hS
  go_enter Try.func47, Try.ntmps47
  go_upto_region 1 with fail
  go_region_with (first
    | (go_at_call 61; refine (C1.out _ GG).mono ?_; rintro e w' ⟨A1, c1, rfl, ho1, hg⟩; obtain ⟨x1, rfl⟩ := hg.later; have HO1 := hide ho1; clear hg ho1)
    | (go_at_call 86; refine (C2.out _ GG).mono ?_; rintro e w' ⟨A2, c2, rfl, ho2, hg⟩; obtain ⟨x2, rfl⟩ := hg.later; have HO2 := hide ho2; clear hg ho2))
  all_goals go_wp2_with fail
  all_goals refine bodyPost_ret (v := .agg #[.slice A1 m c1, .slice A2 n c2]) (by simp (maxDischargeDepth := 6) [results, Try.results47, go_sem, *]) rfl ⟨A1, c1, A2, c2, rfl, ?_, ?_, GG⟩
  all_goals have hz1 := x1.size
  all_goals have hz2 := x2.size
  all_goals simp at hz1 hz2
  all_goals first
    | exact ((HO1.out.low (by first | (simp; done) | (simp; omega) | omega) _).low (by first | (simp; done) | (simp; omega) | omega) _).base (by first | (simp; done) | (simp; omega) | omega)
    | exact (((HO1.out.grows x2.grows).low (by first | (simp; done) | (simp; omega) | omega) _).low (by first | (simp; done) | (simp; omega) | omega) _).base (by first | (simp; done) | (simp; omega) | omega)
    | exact ((HO2.out.low (by first | (simp; done) | (simp; omega) | omega) _).low (by first | (simp; done) | (simp; omega) | omega) _).base (by first | (simp; done) | (simp; omega) | omega)
    | exact (((HO2.out.grows x1.grows).low (by first | (simp; done) | (simp; omega) | omega) _).low (by first | (simp; done) | (simp; omega) | omega) _).base (by first | (simp; done) | (simp; omega) | omega)
end Go.Proofs.Ytgplpgldhoelcaa

