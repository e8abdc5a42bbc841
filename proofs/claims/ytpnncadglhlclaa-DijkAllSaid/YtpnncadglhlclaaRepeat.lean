/- Contract: a number, repeated. -/
import Derived.Test.YtpnncadglhlclaaNews
import Derived.Test.YtpnncadglhlclaaDijChk
import Derived.Test.YtpnncadglhlclaaShelf
import Derived.Laws.CopyOwn
import Derived.Deep.RegionLaw
namespace Go.Proofs.Ytpnncadglhlclaa
open Go Go.RowKit
/-- The first k of n are laid. -/
def RepAt (w : World) (G n z k : Nat) (wr : World) : Prop := ∃ y : Later w, wr = y.now ∧ ∃ cs : List Value, Arr y.now G 37 cs ∧ cs.length = n ∧ cs.take k = List.replicate k (Value.int .u64 (z : Int))
theorem RepAt.copied {w : World} {G n z k m : Nat} {y : Later w} {cs : List Value} (ha : Arr y.now G 37 cs) (hl : cs.length = n) (hk : cs.take k = List.replicate k (.int .u64 (z : Int))) (hm : k + m ≤ n) (hG : w.heap.size ≤ G) :
    RepAt w G n z (k + m) (y.now.setRow G (cs.take k ++ (List.replicate m (Value.int .u64 (z : Int)) ++ cs.drop (k + m))).toArray) := by
  refine ⟨⟨_, below_setRow y.grows hG _⟩, rfl, _, ⟨setRow_heap _ _ _ _ _ _ ha.is⟩, ?_, ?_⟩
  · simp; omega
  · rw [hk, ← List.append_assoc, List.replicate_append_replicate, List.take_left' (by simp)]
set_option maxRecDepth 20000 in
set_option maxHeartbeats 4000000 in
theorem repeatU (g c0 z n : Nat) (w : World) (h : Holds w ⟨g, 0, none⟩ (.int .u64 (z : Int))) (hn : 1 ≤ n) (hn2 : n ≤ 65536) :
    Calls Try.prog 80 #[.slice (some ⟨g, 0, none⟩) 1 c0, .int .i64 (n : Int)] w fun e w' => ∃ G, e = .returned (.slice (some ⟨G, 0, none⟩) n n) ∧ Row1 w' G 37 1 n n (wv (List.replicate n z)) ∧ w.heap.size ≤ G ∧ Grows w w' := by
  have C := hide (fun (W : World) => show Calls Try.prog 115 #[.int .u64 1, .int .u64 (n : Int)] W fun e w' => e = .returned (.tuple #[.int .u64 0, .int .u64 (n : Int)]) ∧ W = w' from
    (Try.bits_Mul 1 n (by omega) (by omega) W).mono (fun e w' h => by
      obtain ⟨rfl, rfl⟩ := h
      have e1 : 1 * n / 18446744073709551616 = 0 := by omega
      have e2 : 1 * n % 18446744073709551616 = n := by omega
      rw [e1, e2]
      exact ⟨rfl, rfl⟩))
  have mk := run_makeU64s n (by omega)
  have hsz : (Try.prog.info? 37).map (·.size) = some 1 := by
    have h : (Try.prog.info? 37).map (fun i => (i.zero, i.size, i.bytes)) = some (some (.int .u64 0), 1, 8) := by kernel_rfl
    obtain ⟨i, hi, hz, hs, hb⟩ := info_parts h
    rw [hi]; simp [hs]
  have HSZ := hide hsz
  clear hsz
  go_enter Try.func80, Try.ntmps80
  go_wp2_with (first | (go_at_call 115; refine (C.out _).mono ?_; rintro e w' ⟨rfl, rfl⟩) | (refine wpList_copy_own rfl _ _ _ _ rfl 37 Try.underlying36 HSZ.out w.heap.size 0 n n ⟨g, 0, none⟩ 1 c0 rfl rfl (Array.replicate n (Value.int .u64 0)) 37 (World.alloc_heap_new w _) [Value.int .u64 (z : Int)] (by show 1 = min 1 n; omega) ?_ (by simp; omega) (by simp [Value.oneCell']) ?_))
  case _ =>
    intro j v hv
    match j, hv with
    | 0, hv =>
      obtain rfl : Value.int .u64 (z : Int) = v := by simpa using hv
      exact ((Grows.refl w).new _).keeps h.cell
    | j + 1, hv => simp at hv
  have H0 : Hid (RepAt w w.heap.size n z 1 ((w.alloc (Obj.cells (Array.replicate n (Value.int IntKind.u64 0)) 37)).setRow w.heap.size (Value.int IntKind.u64 ↑z :: List.replicate (n - 1) (Value.int IntKind.u64 0)).toArray)) := by
    refine ⟨⟨_, below_setRow ((Grows.refl w).new _) (Nat.le_refl _) _⟩, rfl, Value.int IntKind.u64 ↑z :: List.replicate (n - 1) (Value.int IntKind.u64 0), ⟨setRow_heap _ _ (Array.replicate n (Value.int IntKind.u64 0)) _ _ _ (World.alloc_heap_new w _)⟩, by simp; omega, by simp⟩
  obtain ⟨G, hGe⟩ : ∃ G, w.heap.size = G := ⟨_, rfl⟩
  have hG : w.heap.size ≤ G := by omega
  rw [hGe] at H0 ⊢
  clear hGe
  go_loopw [8] (fun s wr => ∃ k : Nat, 1 ≤ k ∧ k ≤ n ∧ s = .int .i64 (k : Int) ∧ RepAt w G n z k wr) (fun s _ => n - (Go.RowKit.intOf s).toNat)
  case atStart => exact ⟨1, by omega, by omega, by go_num, H0.out⟩
  case round =>
    obtain ⟨k, hk1, hk, rfl, y, rfl, cs, ha, hl, ht⟩ := hrel
    have HA := hide ha
    have HL := hide hl
    have HT := hide ht
    clear ha hl ht H0
    by_cases hlt : k < n
    · have hne : ¬ n = k := by omega
      obtain ⟨m, hm⟩ : ∃ m, min k (n - k) = m := ⟨_, rfl⟩
      have hm1 : 1 ≤ m := by omega
      have hm2 : k + m ≤ n := by omega
      have HM := hide hm
      clear hm
      have HN := hide (show (List.replicate m (Value.int .u64 (z : Int))).length = Nat.min k (n - k) from by rw [List.length_replicate]; exact HM.out.symm)
      have HFIT := hide (show k + (List.replicate m (Value.int .u64 (z : Int))).length ≤ cs.length from by rw [List.length_replicate, HL.out]; exact hm2)
      have HONE := hide (show ∀ v ∈ List.replicate m (Value.int .u64 (z : Int)), v.oneCell' = true from fun v hv => by rw [(List.mem_replicate.1 hv).2]; rfl)
      have HSRC := hide (show ∀ j v, (List.replicate m (Value.int .u64 (z : Int)))[j]? = some v → y.now.drew.cell? ((⟨G, 0, none⟩ : Addr).add j) = some v from fun j v hv => by
        rw [add_pl2, Nat.zero_add, (HA.out.grow (Grows.refl _).drew).cell]
        rw [List.getElem?_replicate] at hv
        split at hv
        · rename_i hj
          have hjk : j < k := by have := HM.out; omega
          have h1 : (cs.take k)[j]? = some (.int .u64 (z : Int)) := by rw [HT.out, List.getElem?_replicate, if_pos hjk]
          rw [List.getElem?_take, if_pos hjk] at h1
          rw [h1]; exact hv
        · cases hv)
      go_upto_region 9 with fail
      go_region_law (refine step_copy_splice rfl (.tmp 41) (.tmp 44) 36 36 rfl 37 Try.underlying36 HSZ.out (some ⟨G, k, none⟩) (some ⟨G, 0, none⟩) (n - k) (n - k) k n (by simp [Act.eval, Act.put]) (by simp [Act.eval, Act.put]) G k cs 37 (HA.out.grow (by repeat (first | exact Grows.refl _ | refine Grows.now ?_ _ | refine Grows.new ?_ _ | refine Grows.drewN ?_ _ | refine Grows.drew ?_ | assumption | (refine Grows.set ?_ (by first | omega | (simp; done) | (simp; omega)) _)))).is (List.replicate m (Value.int .u64 (z : Int))) HN.out (fun _ => ⟨rfl, _, rfl, HSRC.out⟩) HFIT.out HONE.out w.heap.size w (y.grows.trans (by repeat (first | exact Grows.refl _ | refine Grows.now ?_ _ | refine Grows.new ?_ _ | refine Grows.drewN ?_ _ | refine Grows.drew ?_ | assumption | (refine Grows.set ?_ (by first | omega | (simp; done) | (simp; omega)) _)))) hG ?_; intro w4 hg4 hb4)
      have HG4 := hide hg4
      have hmm : ((List.replicate m (Value.int .u64 (z : Int))).length : Int) = (m : Int) := by simp
      clear hg4
      simp [Act.put, Act.eval]
      simp (disch := omega) only [IntWalk.i64_in]
      go_wp2_with fail
      go_roundw
      case measure => simp [Go.RowKit.intOf]; omega
      case rel =>
        refine ⟨k + m, by omega, hm2, by go_num, ⟨w4, hb4⟩, rfl, splice cs k (List.replicate m (Value.int .u64 (z : Int))), ⟨HG4.out⟩, by rw [length_splice _ _ _ HFIT.out]; exact HL.out, ?_⟩
        unfold splice
        rw [HT.out, ← List.append_assoc, List.replicate_append_replicate, List.take_left' (by simp)]
    · go_wp2_with fail
      go_ret
      obtain rfl : k = n := by omega
      have e1 : cs = wv (List.replicate k z) := by
        have := HT.out
        rw [List.take_of_length_le (by rw [HL.out]; omega)] at this
        rw [this]; simp [wv]
      have hl := HL.out
      exact ⟨G, rfl, by have := HA.out.row (n := k) (size := 1) (by omega) (by omega); rw [e1] at this; exact this, hG, y.grows⟩
end Go.Proofs.Ytpnncadglhlclaa
