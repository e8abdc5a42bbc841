/- Contracts: new sets, new rows, new heaps. -/
import Derived.Test.YtpnncadglhlclaaBits
import Derived.Test.YtpnncadglhlclaaHeapPop
namespace Go.Proofs.Ytpnncadglhlclaa
open Go Go.RowKit
theorem run_makeU64s (n : Nat) (hn : n ≤ 1000000000) (w : World) : (Instr.makeSlice 36 (.int .i64 (n : Int)) (.int .i64 (n : Int))).run Try.prog w = .ok (.slice (some ⟨w.heap.size, 0, none⟩) n n) (w.alloc (.cells (List.replicate n (Value.int .u64 0)).toArray 37)) := by
  obtain ⟨i, h1, h2, h3, h4⟩ := elemU64.info
  have := run_make_row (P := Try.prog) 36 37 i (.int .u64 0) Try.underlying36 h1 h2 h3 rfl .i64 .i64 n (by have := Nat.mul_le_mul h4 hn; omega) (by omega) w
  have e : madeCells #[Value.int .u64 0] n = (List.replicate n (Value.int .u64 0)).toArray := Array.ext' (by rw [toList_madeCells_one])
  rw [e] at this
  exact this
theorem scs_rep (n : Nat) : ∀ k, k < n * 2 → (scs (List.replicate n (0, 0)))[k]? = some (.int .u64 0) := by
  intro k hk
  have e : k = k / 2 * 2 + k % 2 := (Nat.div_add_mod' k 2).symm
  have h := scs_at (List.replicate n (0, 0)) (k / 2) (k % 2) (by simp; omega) (Nat.mod_lt _ (by omega))
  rw [← e] at h
  rw [h]
  have hg : gp (List.replicate n (0, 0)) (k / 2) = (0, 0) := by
    unfold gp
    rw [List.getD_eq_getElem?_getD, List.getElem?_replicate]
    split <;> rfl
  rw [hg]
  rcases (by omega : k % 2 = 0 ∨ k % 2 = 1) with e | e <;> rw [e] <;> rfl
theorem made_two (n : Nat) : madeCells #[Value.int .u64 0, .int .u64 0] (n * 2) = (scs (List.replicate n (0, 0))).toArray := by
  apply Array.ext'
  apply List.ext_getElem?
  intro k
  by_cases hk : k < n * 2
  · rw [scs_rep n k hk]
    rcases (by omega : k % 2 = 0 ∨ k % 2 = 1) with e | e <;> simp [madeCells, hk, e]
  · rw [List.getElem?_eq_none (by simp [madeCells]; omega), List.getElem?_eq_none (by rw [scs_len]; simp; omega)]
theorem run_makeSt (n : Nat) (hn : n ≤ 1000000000) (w : World) : (Instr.makeSlice 202 (.int .i64 (n : Int)) (.int .i64 (n : Int))).run Try.prog w = .ok (.slice (some ⟨w.heap.size, 0, none⟩) n n) (w.alloc (.cells (scs (List.replicate n (0, 0))).toArray 239)) := by
  have h : (Try.prog.info? 239).map (fun i => (i.zero, i.size, i.bytes)) = some (some (.agg #[.int .u64 0, .int .u64 0]), 2, 16) := by kernel_rfl
  obtain ⟨i, hi, hz, hs, hb⟩ := info_parts h
  have := run_make (P := Try.prog) w 202 239 i _ Try.underlying202 hi hz .i64 .i64 (n : Int) (n : Int) (by omega) (Int.le_refl _) (by rw [hb]; omega) (by omega)
  rw [Int.toNat_natCast, hs] at this
  rw [this, ← made_two n]
  rfl
set_option maxHeartbeats 1000000 in
theorem stNew (n : Nat) (w : World) (hn : n ≤ 65536) : Calls Try.prog 118 #[.int .i64 (n : Int)] w fun e w' => ∃ b g, e = .returned (.pointer (some ⟨b, 0, none⟩)) ∧ StL w' b g (List.replicate n (0, 0)) 0 ∧ w.heap.size ≤ b ∧ b < w'.heap.size ∧ w.heap.size ≤ g ∧ g < w'.heap.size ∧ Grows w w' := by
  have mk := run_makeSt n (by omega)
  go_enter Try.func118, Try.ntmps118
  go_wp2_with fail
  go_ret
  refine ⟨w.heap.size + 1, w.heap.size, rfl, ⟨⟨?_⟩, Row1.grow (Arr.row (Arr.make _ _ _) (by simp [scs_len]) (by simp; omega)) ((Grows.refl _).new _)⟩, by omega, by simp, by omega, by simp; omega, (by repeat (first | exact Grows.refl _ | refine Grows.now ?_ _ | refine Grows.new ?_ _ | refine Grows.drewN ?_ _ | refine Grows.drew ?_ | assumption | (refine Grows.set ?_ (by first | omega | (simp; done) | (simp; omega)) _)))⟩
  simp [heap_push, Array.getElem_push, Array.getElem?_push]
set_option maxHeartbeats 1000000 in
theorem bitsNew (n : Nat) (w : World) (hn : n ≤ 65536) : Calls Try.prog 146 #[.int .i64 (n : Int)] w fun e w' => ∃ b g, e = .returned (.pointer (some ⟨b, 0, none⟩)) ∧ BtAt w' b g n (List.replicate ((n + 63) / 64) 0) ∧ w.heap.size ≤ b ∧ b < w'.heap.size ∧ w.heap.size ≤ g ∧ g < w'.heap.size ∧ Grows w w' := by
  obtain ⟨q, hq⟩ : ∃ q, (n + 63) / 64 = q := ⟨_, rfl⟩
  have hqi : ((n : Int) + 63) / 64 = (q : Int) := by omega
  have hqi2 : ((n : Int) + 64 - 1) / 64 = (q : Int) := by omega
  have hqb : q ≤ 65536 := by omega
  have hroom : n ≤ q * 64 := by omega
  have mk := run_makeU64s q (by omega)
  have HQ := hide hq
  clear hq
  go_enter Try.func146, Try.ntmps146
  go_wp2_with fail
  go_ret
  rw [HQ.out]
  have e0 : wv (List.replicate q 0) = List.replicate q (Value.int .u64 0) := by simp [wv]
  have e1 : (List.replicate q 0).length = q := List.length_replicate
  refine ⟨w.heap.size + 1, w.heap.size, rfl, ⟨⟨?_⟩, ?_, by rw [e1]; exact hroom, fun j hj => ?_⟩, by omega, by simp, by omega, by simp; omega, (by repeat (first | exact Grows.refl _ | refine Grows.now ?_ _ | refine Grows.new ?_ _ | refine Grows.drewN ?_ _ | refine Grows.drew ?_ | assumption | (refine Grows.set ?_ (by first | omega | (simp; done) | (simp; omega)) _)))⟩
  · simp [heap_push, Array.getElem_push, Array.getElem?_push]
  · rw [e1, e0]
    have h : Arr (w.alloc (.cells (List.replicate q (Value.int .u64 0)).toArray 37)) w.heap.size 37 (List.replicate q (Value.int .u64 0)) := Arr.make _ _ _
    have := h.row (n := q) (size := 1) (by simp) (by omega)
    simp only [List.toArray_replicate] at this
    exact this.grow ((Grows.refl _).new _)
  · rw [gn_rep]; omega
theorem hasW_rep (q j : Nat) : hasW (List.replicate q 0) j = false := by unfold hasW; rw [gn_rep]; simp
def OfAt (w : World) (b g n : Nat) (l : List Int) (k : Nat) (wr : World) : Prop :=
  ∃ y : Later w, wr = y.now ∧ ∃ W, BtAt y.now b g n W ∧ ∀ j, j < n → hasW W j = decide ((j : Int) ∈ l.take k)
set_option maxRecDepth 20000 in
set_option maxHeartbeats 2000000 in
theorem bitsOf (n : Nat) (A : Option Addr) (m c : Nat) (l : List Int) (w : World) (h : Rd w A 1 m (l.map (.int .i64))) (hn : n ≤ 65536) (hm : m ≤ 1000000) :
    Calls Try.prog 117 #[.int .i64 (n : Int), .slice A m c] w fun e w' => ∃ b g W, e = .returned (.pointer (some ⟨b, 0, none⟩)) ∧ BtAt w' b g n W ∧ (∀ j, j < n → hasW W j = decide ((j : Int) ∈ l)) ∧ w.heap.size ≤ b ∧ b < w'.heap.size ∧ w.heap.size ≤ g ∧ g < w'.heap.size ∧ Grows w w' := by
  have hl : l.length = m := by simpa using h.len
  have HL := hide hl
  have HR := hide h
  have C := hide (fun (W : World) => bitsNew n W hn)
  clear h hl
  go_enter Try.func117, Try.ntmps117
  go_wp2_with (go_at_call 146; refine (C.out _).mono ?_; rintro e w' ⟨b, g, rfl, hb, h1, h2, h3, h4, hg⟩; obtain ⟨x, rfl⟩ := hg.later; have HB := hide hb; have HG := hide hg; clear hb hg)
  have H0 : Hid (OfAt w b g n l 0 x.now) := ⟨x, rfl, _, HB.out, fun j hj => by rw [hasW_rep]; simp⟩
  clear HB
  go_loopw [15] (fun s wr => ∃ k : Nat, k ≤ m ∧ s = .int .i64 (k : Int) ∧ OfAt w b g n l k wr) (fun s _ => m - (Go.RowKit.intOf s).toNat)
  case atStart => exact ⟨0, by omega, by go_num, H0.out⟩
  case round =>
    obtain ⟨k, hk, rfl, y, rfl, W, hb, hW⟩ := hrel
    have HW := hide hW
    have HB := hide hb
    clear hW hb H0
    by_cases hlt : k < m
    · obtain ⟨bb, off, rfl, hc⟩ := HR.out.intsH (by omega)
      have c1 := hc k hlt
      have CA := hide (fun (W1 : World) (hg : Grows y.now W1) => bitsAdd b g n W (gi l k) W1 (HB.out.grow hg) hn)
      have HGI : Hid (l.take (k + 1) = l.take k ++ [gi l k]) := by
        have hkl : k < l.length := by rw [HL.out]; exact hlt
        show _ = _
        rw [List.take_succ_eq_append_getElem hkl]
        simp [gi, hkl]
      clear hc
      generalize gi l k = i at *
      go_wp2_with (go_at_call 147; refine (CA.out _ (by repeat (first | exact Grows.refl _ | refine Grows.now ?_ _ | refine Grows.new ?_ _ | refine Grows.drewN ?_ _ | refine Grows.drew ?_ | assumption | (refine Grows.set ?_ (by first | omega | (simp; done) | (simp; omega)) _)))).mono ?_; rintro e w' ⟨r, W', rfl, hb', hW', ht⟩; have HB' := hide hb'; have HW' := hide hW'; have HT := hide ht; clear hb' hW' ht)
      have hl2 : Grows w w' := HT.out.later y.grows (fun k hk => by rw [hk]; exact h3)
      go_roundw
      case rel =>
        refine ⟨k + 1, by omega, by go_num, ⟨w', hl2⟩, rfl, W', HB'.out, fun j hj => ?_⟩
        rw [HW'.out j hj, HW.out j hj, HGI.out]
        apply bool_ext
        simp
      case measure => simp [Go.RowKit.intOf]; omega
    · have hkm : l.take k = l := List.take_of_length_le (by rw [HL.out]; omega)
      have HW2 := HW.out
      rw [hkm] at HW2
      have HWE := hide HW2
      clear HW2 hkm
      go_wp2_with fail
      go_ret
      have hsz : b < y.now.heap.size := HB.out.row.lt
      have hsg : g < y.now.heap.size := HB.out.words.lt
      exact ⟨b, g, W, rfl, HB.out, HWE.out, h1, hsz, h3, hsg, y.grows⟩
def NewHp (w : World) (b g n k : Nat) (wr : World) : Prop :=
  ∃ y : Later w, wr = y.now ∧ Arr y.now b 207 [.slice none 0 0, .slice (some ⟨g, 0, none⟩) n n] ∧ ∃ T : List Int, Row1 y.now g 3 1 n n (T.map (.int .i64)) ∧ ∀ j, j < k → gz T j = -1
set_option maxRecDepth 20000 in
set_option maxHeartbeats 2000000 in
theorem hpNew (n : Nat) (w : World) (hn : n ≤ 65536) : Calls Try.prog 119 #[.int .i64 (n : Int)] w fun e w' => ∃ b T, e = .returned (.pointer (some ⟨b, 0, none⟩)) ∧ HpAt w' (New w w') b ⟨[], T⟩ ∧ T.length = n ∧ (∀ j, j < n → gz T j = -1) ∧ w.heap.size ≤ b ∧ Grows w w' := by
  have mk := run_makeInts n (by omega)
  go_enter Try.func119, Try.ntmps119
  go_wp2_with fail
  have H0 : Hid (NewHp w (w.heap.size + 1) w.heap.size n 0 ((w.alloc (.cells (List.replicate n (Value.int .i64 0)).toArray 3)).alloc (.cells #[.slice none 0 0, .slice (some ⟨w.heap.size, 0, none⟩) n n] 207))) := by
    refine ⟨⟨_, ((Grows.refl w).new _).new _⟩, rfl, ⟨by simp [heap_push, Array.getElem_push, Array.getElem?_push]⟩, List.replicate n 0, ?_, fun j hj => absurd hj (by omega)⟩
    have h : Arr (w.alloc (.cells (List.replicate n (Value.int .i64 0)).toArray 3)) w.heap.size 3 (List.replicate n (Value.int .i64 0)) := Arr.make _ _ _
    have h2 := h.row (n := n) (size := 1) (by simp) (by omega)
    rw [List.map_replicate]
    exact h2.grow ((Grows.refl _).new _)
  simp only [List.toArray_replicate] at H0
  have hbb : w.heap.size ≤ w.heap.size + 1 := by omega
  generalize hb : w.heap.size + 1 = b at *
  go_loopw [20] (fun s wr => ∃ k : Nat, k ≤ n ∧ s = .int .i64 (k : Int) ∧ NewHp w b w.heap.size n k wr) (fun s _ => n - (Go.RowKit.intOf s).toNat)
  case atStart => exact ⟨0, by omega, by go_num, H0.out⟩
  case round =>
    obtain ⟨k, hk, rfl, y, rfl, ha, T, ht, hT⟩ := hrel
    have HT := hide hT
    have HR := hide ht
    have HA := hide ha
    clear hT ht H0
    by_cases hlt : k < n
    · have m0 := HR.out.int (j := k) hlt
      go_wp2_with fail
      go_roundw
      case rel =>
        refine ⟨k + 1, by omega, by go_num, ⟨_, y.grows.set (Nat.le_refl _) _⟩, rfl, HA.out.other (HR.out.ne HA.out (by decide)) _, T.set k (-1), ?_, fun j hj => ?_⟩
        · rw [List.map_set]; exact HR.out.set _ _
        · have hl := HR.out.len
          simp at hl
          unfold gz
          by_cases he : j = k
          · subst he; simp [show j < T.length by omega]
          · have := HT.out j (by omega)
            unfold gz at this
            rw [List.getD_eq_getElem?_getD, List.getElem?_set_ne (Ne.symm he), ← List.getD_eq_getElem?_getD]
            exact this
      case measure => simp [Go.RowKit.intOf]; omega
    · go_wp2_with fail
      go_ret
      have hl := HR.out.len
      simp at hl
      obtain rfl : k = n := by omega
      refine ⟨b, T, rfl, ⟨none, 0, w.heap.size, ?_, Own.nil _ _ _ _, ?_, ⟨hbb, HA.out.lt⟩, ⟨Nat.le_refl _, HR.out.lt⟩, fun p hp => by cases hp⟩, by omega, HT.out, hbb, y.grows⟩
      · show Arr _ _ _ [.slice none 0 0, .slice (some ⟨w.heap.size, 0, none⟩) T.length T.length]
        rw [show T.length = k by omega]
        exact HA.out
      · rw [show T.length = k by omega]
        exact HR.out
end Go.Proofs.Ytpnncadglhlclaa
