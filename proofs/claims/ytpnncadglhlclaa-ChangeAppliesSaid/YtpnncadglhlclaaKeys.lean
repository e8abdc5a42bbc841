/- Contract: a map's keys, sorted. -/
import Derived.Test.YtpnncadglhlclaaMapU
import Derived.Test.YtpnncadglhlclaaOwn3
import Derived.Test.YtpnncadglhlclaaIter
import Derived.Shelf.SlIterI.Nil
import Derived.Shelf.SlIterI.Sorted
import Derived.Shelf.SortM.Plain
import Derived.Shelf.SortM.SortNone
namespace Go.Proofs.Ytpnncadglhlclaa
open Go Go.RowKit Go.Maps Go.Shelf
theorem mKeys (b : Nat) (w : World) : Calls Try.prog 103 #[.map (some b)] w fun e w' => e = .returned (.func (.func 138) #[] #[.pointer (some ⟨w.heap.size, 0, none⟩)]) ∧ w' = w.alloc (.cells #[.map (some b)] 154) := by
  have cK : CallsIn Fence.wide 5 Try.prog 103 #[.map (some b)] w fun e w' => e = .returned (.func (.func 138) #[] #[.pointer (some ⟨w.heap.size, 0, none⟩)]) ∧ w' = w.alloc (.cells #[.map (some b)] 154) := AnyZI.keys_in Try.keysA Fence.wide 5 trivial rfl (some b) w
  exact callsIn_wide.1 cK
theorem sortsI (m : Nat) : AnyZI.SortsIn Try.prog Try.sortedA_ren Fence.wide m :=
  ⟨fun blk off cap ss W hH hblk hsz => callsIn_wide.2 (AnyM.slices_Sort_int Try.sortA blk off cap ss W hH hblk hsz),
   fun p cap W => callsIn_wide.2 (AnyM.slices_Sort_int_none Try.sortA p cap W)⟩
set_option maxHeartbeats 1000000 in
theorem mSorted (b n s : Nat) (f : Int → Option Int) (KS : List Int) (w : World) (hown : MapIU w b n s f) (hs : KS.Pairwise (· < ·)) (hm : ∀ x, x ∈ KS ↔ (f x).isSome = true) (hb : s ≤ 1000000) :
    Calls Try.prog 76 #[.func (.func 138) #[] #[.pointer (some ⟨w.heap.size, 0, none⟩)]] (w.alloc (.cells #[.map (some b)] 154)) fun e w' => ∃ A c, e = .returned (.slice A KS.length c) ∧ Rd w' A 1 KS.length (KS.map (.int .i64)) ∧ Grows w w' := by
  obtain ⟨D, h1, h2, h3, _⟩ := hown
  have hbl := h1.lt
  have hseq : SeqGives Fence.wide 2 Try.prog 138 #[.pointer (some ⟨w.heap.size, 0, none⟩)] encZ (fun ss => ss.Perm (intKeys D)) (Maps.size D) (w.alloc (.cells #[.map (some b)] 154)) :=
    AnyZI.keys_gives (ρ := Try.keysA_ren) { Try.keysA with } Fence.wide _ trivial rfl (by omega) w.heap.size b n D _ (by simp) (by simp) (by
      obtain ⟨es, clock, hb, Ft, hs, hD⟩ := h1
      exact ⟨es, clock, (Below.heap_alloc _ _ b hbl).trans hb, Ft, hs, hD⟩)
  have cS := AnyZI.sorted_in Try.sortedA Fence.wide 5 trivial trivial trivial trivial rfl (by omega) (sortsI _) (enters_of Try.func96 (by kernel_rfl) rfl) 138 #[.pointer (some ⟨w.heap.size, 0, none⟩)] trivial (enters_of Try.func138 (by kernel_rfl) rfl) _ _ (by unfold maxLen; omega) (by omega) _ hseq
  change CallsIn _ _ Try.prog 76 _ _ _ at cS
  refine (callsIn_wide.1 cS).mono ?_
  rintro e w' ⟨v, ss, rfl, hp, hrow, _, hb2⟩
  have hk := MapIU.keys h1 h3 hs hm hp
  have hl : ss.length = KS.length := by rw [← hk, List.length_mergeSort]
  rw [hk, hl] at hrow
  obtain ⟨A, c, rfl⟩ := own_form hrow
  have hg : Grows (w.alloc (.cells #[.map (some b)] 154)) w' := hb2
  exact ⟨A, c, rfl, (show Own w' _ _ 1 A KS.length c _ from hrow).rd, ((Grows.refl w).new _).trans hg⟩
end Go.Proofs.Ytpnncadglhlclaa
