/- Contracts: changes as the program has them; are changes the same; are graphs the same. -/
import Derived.Test.YtpnncadglhlclaaChg
import Derived.Test.YtpnncadglhlclaaTail
namespace Go.Proofs.Ytpnncadglhlclaa
open Go Go.RowKit
theorem gc_take_succ {L : List Chg} {k : Nat} (hk : k < L.length) : L.take (k + 1) = L.take k ++ [gc L k] := by
  rw [List.take_succ_eq_append_getElem hk]
  have : gc L k = L[k] := by simp [gc, hk]
  rw [this]
/-- Changes in memory of the call's own. -/
def GiveC (w : World) (t : TypeId) (L : List Chg) (e : Ending) (w' : World) : Prop := ∃ A c, e = .returned (.slice A L.length c) ∧ Own w' w.heap.size t 2 A L.length c (csCells L) ∧ Grows w w'
theorem cs_new {w : World} {g : Nat} {a b : Int} (h1 : Holds w ⟨g, 0, none⟩ (.int .i64 a)) (h2 : Holds w ⟨g, 1, none⟩ (.int .u64 b)) : ∀ j u, ([Value.int .i64 a, .int .u64 b] : List Value)[j]? = some u → w.cell? ⟨g, j, none⟩ = some u := by
  intro j u hu
  have hj : j < 2 := by have := (List.getElem?_eq_some_iff.1 hu).1; simpa using this
  match j, hj with
  | 0, _ => simp at hu; subst hu; exact h1.cell
  | 1, _ => simp at hu; subst hu; exact h2.cell
/-- A slice of one element of two cells that was just made. -/
def Two (v u : Value) : Pr := fun x w => ∃ g, x = .slice (some ⟨g, 0, none⟩) 1 1 ∧ Holds w ⟨g, 0, none⟩ v ∧ Holds w ⟨g, 1, none⟩ u
theorem Two.lasts (v u : Value) : Lasts (Two v u) := fun _ _ _ hg ⟨g, e, h, h2⟩ => ⟨g, e, ⟨hg.keeps h.cell⟩, ⟨hg.keeps h2.cell⟩⟩
set_option maxRecDepth 20000 in
set_option maxHeartbeats 4000000 in
theorem law33of (B : Option Addr) (m d : Nat) (L : List Chg) (w : World) (hc : Rd w B 2 m (csCells L)) (hm : m ≤ 1000000) :
    Calls Try.prog 62 #[.slice B m d] w (GiveC w 149 L) := by
  have HLm := hide hc.clen
  have HC := hide hc
  clear hc
  go_enter Try.func62, Try.ntmps62
  go_wp2_with fail
  go_loopw [4, 3] (fun i u wr => ∃ k : Nat, k ≤ m ∧ i = .int .i64 (k : Int) ∧ ∃ y : Later w, wr = y.now ∧ ∃ A1 c1, u = .slice A1 k c1 ∧ Own y.now w.heap.size 149 2 A1 k c1 (csCells (L.take k))) (fun i _ _ => m - (intOf i).toNat)
  case atStart => exact ⟨0, by omega, by go_num, ⟨_, Grows.refl _⟩, rfl, none, 0, rfl, Own.nil _ _ _ _⟩
  case round =>
    obtain ⟨k, hk, rfl, y, rfl, A1, c1, rfl, hown⟩ := hrel
    have HO := hide hown
    clear hown
    by_cases hend : m ≤ k
    · have hkm : k = m := by omega
      subst hkm
      go_wp2
      go_ret
      refine ⟨A1, c1, by rw [HLm.out]; rfl, ?_, (by repeat (first | exact Grows.refl _ | refine Grows.now ?_ _ | refine Grows.new ?_ _ | refine Grows.drewN ?_ _ | refine Grows.drew ?_ | assumption | (refine Grows.set ?_ (by first | omega | (simp; done) | (simp; omega)) _)))⟩
      have := HO.out
      rw [← HLm.out, List.take_length] at this
      rw [HLm.out] at this ⊢
      exact this
    · obtain ⟨b, off, rfl, hcc⟩ := HC.out.chgsH (by omega)
      obtain ⟨c2, c3⟩ := hcc k (by omega)
      clear hcc
      have HN := hide (gc_take_succ (L := L) (k := k) (by rw [HLm.out]; omega))
      generalize gc L k = x at *
      obtain ⟨e, v⟩ := x
      dsimp only at c2 c3
      go_wp2_with fail
      (refine wp_region_tail1 13 (by kernel_rfl) (by kernel_rfl) ?_; simp only [List.take_succ_cons, List.take_zero, List.drop_succ_cons, List.drop_zero]; (repeat' (first | (refine gLex_val0 rfl (by kernel_rfl) (fun K hK => ?_); (go_simp; (try (simp only [↓IntWalk.iteOmega]; try go_simp)); (try simp (disch := omega) only [IntWalk.i64_in]); (try simp (disch := omega) only [IntWalk.u64_in]); first | (refine hK _ ?_; clear hK K) | (apply Exists.intro; refine ⟨fun x => ?_, hK _ ?_⟩; (first | fail); clear hK K))) | (refine gLex_undef rfl rfl rfl (by kernel_rfl) (fun K hK => ?_); go_simp; refine hK _ ?_; clear hK K) | (refine gLex_ask rfl rfl rfl ?_; first | (apply gAsk_yes; kernel_rfl; intro K hK; (go_simp; (try (simp only [↓IntWalk.iteOmega]; try go_simp)); (try simp (disch := omega) only [IntWalk.i64_in]); (try simp (disch := omega) only [IntWalk.u64_in]); first | (refine hK _ ?_; clear hK K) | (apply Exists.intro; refine ⟨fun x => ?_, hK _ ?_⟩; (first | fail); clear hK K))) | ((first | apply gAsk_no1 | apply gAsk_no2); kernel_rfl; intro K hK; simp [go_sem]; refine hK _ ?_; clear hK K)))); refine gLex_prop rfl (by kernel_rfl) rfl (by simp) (Two (.int .i64 e) (.int .u64 v)) (Two.lasts _ _) (fun x => by (go_simp; exact ⟨(Grows.refl _).new _, _, rfl, inferInstance, inferInstance⟩)) ?_; refine gLex_endT1 (by simp) (fun x v hv => ?_); obtain ⟨gnew, rfl, hgnew, hgnew2⟩ := hv; simp only [Act.put, List.setIfInBounds_toArray, List.set_cons_zero, List.set_cons_succ])
      go_wp2_with (at_builtin; refine wp_appS elemChg rfl _ _ rfl w (by repeat (first | exact Grows.refl _ | refine Grows.now ?_ _ | refine Grows.new ?_ _ | refine Grows.drewN ?_ _ | refine Grows.drew ?_ | assumption | (refine Grows.set ?_ (by first | omega | (simp; done) | (simp; omega)) _))) k c1 A1 _ rfl (HO.out.grows (by repeat (first | exact Grows.refl _ | refine Grows.now ?_ _ | refine Grows.new ?_ _ | refine Grows.drewN ?_ _ | refine Grows.drew ?_ | assumption | (refine Grows.set ?_ (by first | omega | (simp; done) | (simp; omega)) _)))) _ _ [.int .i64 e, .int .u64 v] rfl rfl (cs_new hgnew hgnew2) (by intro u hu; simp at hu; rcases hu with rfl | rfl <;> rfl) (by omega) ?_; intro A3 c3 y3 hown3; have HO3 := hide hown3; clear hown3)
      refine ⟨⟨k + 1, by omega, by go_num, y3, rfl, A3, c3, rfl, ?_⟩, by simp [intOf]; omega⟩
      rw [HN.out, csCells_app]
      exact HO3.out
end Go.Proofs.Ytpnncadglhlclaa
