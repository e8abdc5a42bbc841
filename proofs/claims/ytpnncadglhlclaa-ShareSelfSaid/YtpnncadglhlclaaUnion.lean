/- Contracts: own rows sorted, and made compact; what all rows weigh together, by the program. -/
import Derived.Test.YtpnncadglhlclaaConcat
import Derived.Test.YtpnncadglhlclaaWeight
import Derived.Test.YtpnncadglhlclaaShelf
import Derived.Sort.OwnSortedInts
import Derived.Laws.IdiomCopy
namespace Go.Proofs.Ytpnncadglhlclaa
open Go Go.RowKit
def srt (xs : List Int) : List Int := xs.mergeSort fun x y => decide (x ≤ y)
theorem srt_len (xs : List Int) : (srt xs).length = xs.length := List.length_mergeSort _
theorem sortOwn (w0 w : World) (A : Option Addr) (n c : Nat) (xs : List Int) (ho : Own w w0.heap.size 3 1 A n c (xs.map (.int .i64))) (hg : Grows w0 w) (hn : n ≤ 1000000) :
    Calls Try.prog 96 #[.slice A n c] w fun e w' => e = .returned (.tuple #[]) ∧ ∃ y : Later w0, w' = y.now ∧ Own y.now w0.heap.size 3 1 A n c ((srt xs).map (.int .i64)) := by
  have hl : xs.length = n := by simpa using ho.len
  rcases Nat.eq_zero_or_pos n with h0 | h0
  · subst h0
    have hx : xs = [] := List.eq_nil_of_length_eq_zero hl
    subst hx
    refine (Try.slices_Sort_int_none A c w).mono ?_
    rintro e w' ⟨rfl, rfl⟩
    exact ⟨rfl, ⟨_, hg⟩, rfl, by simpa [srt] using ho⟩
  · obtain ⟨g, cur, rfl, hB, hh, hc, hs, ht⟩ := ho.at_ h0
    have hm : c ≤ maxLen := by
      rcases ho.2 with ⟨h1, _⟩ | ⟨g2, cap, cur2, h1, _, _, _, h5, _⟩
      · cases h1
      · injection h1 with _ _ h7; subst h7; exact h5
    subst hl
    have hH := holds_of_blockI (ss := xs) hh (by rw [Nat.mul_one] at ht; exact ht)
    refine (Try.slices_Sort_int g 0 c xs w hH (Array.getElem?_eq_some_iff.1 hh).1 (by omega)).mono ?_
    rintro e w' ⟨rfl, k, os, rfl⟩
    have hg1 := grownBy_sortedI (w := w) (g := g) (n := k) (os := os) (srt xs).toArray
    have ho1 := ownsRow_sortedI (w := w) (base := w0.heap.size) (g := g) (n := k) (cap := c) (os := os) (ss := xs) (ts := srt xs) (srt_len xs) hB hh hc hm hs
    refine ⟨rfl, ⟨_, ?_⟩, rfl, ho1⟩
    refine ⟨hg1.os.trans hg.os, hg1.tape.trans hg.tape, hg1.output.trans hg.output, Nat.le_trans hg.size hg1.size, fun i hi => ?_⟩
    exact (hg1.block i (Nat.lt_of_lt_of_le hi hg.size) (by simp; omega)).trans (hg.block i hi)
theorem grows_setCells {w0 : World} (b : Nat) (hb : w0.heap.size ≤ b) : ∀ (vs : List Value) (o : Nat) (w : World), Grows w0 w → Grows w0 (w.setCells b o vs)
  | [], _, _, h => h
  | v :: r, o, w, h => by
    unfold World.setCells
    exact grows_setCells b hb r (o + 1) _ (h.set hb v)
theorem compact_len (xs : List Int) : (Lib.compact xs).length ≤ xs.length := by
  unfold Lib.compact Lib.compactUpTo
  rw [List.length_map]
  exact Nat.le_trans (List.length_filter_le _ _) (by simp)
theorem compactOwn (w0 w : World) (A : Option Addr) (n c : Nat) (xs : List Int) (ho : Own w w0.heap.size 3 1 A n c (xs.map (.int .i64))) (hg : Grows w0 w) (hn : n ≤ 1000000) :
    Calls Try.prog 78 #[.slice A n c] w fun e w' => ∃ y : Later w0, w' = y.now ∧ ∃ A' c', e = .returned (.slice A' (Lib.compact xs).length c') ∧ Rd y.now A' 1 (Lib.compact xs).length ((Lib.compact xs).map (.int .i64)) := by
  have hl : xs.length = n := by simpa using ho.len
  rcases Nat.eq_zero_or_pos n with h0 | h0
  · subst h0
    have hx : xs = [] := List.eq_nil_of_length_eq_zero hl
    subst hx
    refine (Try.slices_Compact_int_empty A c w).mono ?_
    rintro e w' ⟨rfl, rfl⟩
    have e0 : Lib.compact ([] : List Int) = [] := rfl
    rw [e0]
    exact ⟨⟨_, hg⟩, rfl, A, c, rfl, rfl, fun h => absurd h (by simp)⟩
  · obtain ⟨g, rfl, hB, hm⟩ := ho.at h0
    have hc : n ≤ c := by obtain ⟨_, _, _, _, _, hc, _⟩ := ho.at_ h0; exact hc
    subst hl
    have hcell : ∀ j, j < xs.length → w.cell? ⟨g, 0 + j, none⟩ = some (.int .i64 (xs.getD j 0)) := fun j hj => by
      rw [Nat.zero_add]
      exact (hm j _ (by rw [List.getElem?_map, List.getElem?_eq_getElem hj]; simp [hj])).cell
    have hfree : ∀ j, j < xs.length → w.frozen? ⟨g, 0 + j, none⟩ = false := fun j hj => by
      rw [Nat.zero_add]
      exact (hm j _ (by rw [List.getElem?_map, List.getElem?_eq_getElem hj]; rfl)).free
    refine (Try.slices_Compact_int_cells g 0 xs.length c xs w (Nat.le_refl _) (by omega) hc hcell hfree).mono ?_
    rintro e w' ⟨rfl, q, rfl⟩
    rw [List.take_length]
    refine ⟨⟨_, grows_setCells g hB _ 0 _ (hg.drewN q)⟩, rfl, _, _, rfl, by simp, fun h1 _ => ⟨g, 0, rfl, fun j u hu => ?_⟩⟩
    have hj : j < (Lib.compact xs).length := by
      have := (List.getElem?_eq_some_iff.1 hu).1
      simpa using this
    have hcl := compact_len xs
    have hin := World.cell?_setCells_in g ((Lib.compact xs ++ List.replicate (xs.length - (Lib.compact xs).length) 0).map (Value.int .i64)) 0 (w.drewN q) (fun i hi => by
      have hi' : i < xs.length := by simp at hi; omega
      show (w.cell? _).isSome = true
      rw [hcell i hi']; rfl) j (by simp; omega)
    show (World.setCells _ _ _ _).cell? _ = _
    rw [hin]
    rw [List.getElem?_map, List.getElem?_eq_getElem hj] at hu
    simp at hu
    subst hu
    simp [hj]
end Go.Proofs.Ytpnncadglhlclaa
