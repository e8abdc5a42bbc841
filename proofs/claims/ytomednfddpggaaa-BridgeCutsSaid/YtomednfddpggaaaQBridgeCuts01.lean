/- Plain law: what the walk tells is what the document's answer counts. -/
import Derived.Test.YtomednfddpggaaaQBridgeFarther15
import Derived.Test.YtomednfddpggaaaQBridgeCuts00
import Derived.Lib.SlicesCompact
import Derived.Test.YtomednfddpggaaaQBridgeFarther21
import Derived.Test.YtomednfddpggaaaQBridgeFarther17
/- How many unlike numbers there are, and which is there most often (plain). -/
namespace Go.Proofs.Ytomednfddpggaaa
open Go Go.RowKit
open Lib in
theorem compactUpTo_is (zs : List Int) (hs : zs.Pairwise (· ≤ ·)) : ∀ m, m ≤ zs.length → (compactUpTo zs.toArray m).Nodup ∧ ∀ x, x ∈ compactUpTo zs.toArray m ↔ x ∈ zs.take m
  | 0, _ => by simp [compactUpTo]
  | m + 1, hm => by
    obtain ⟨h1, h2⟩ := compactUpTo_is zs hs m (by omega)
    have h3 := take_mem1 (l := zs) (k := m) (by omega)
    have e1 : zs.toArray[m]! = gi zs m := by simp [gi, show m < zs.length by omega]
    rw [compactUpTo_succ]
    by_cases hk : keeps zs.toArray m = true
    · rw [if_pos hk, e1]
      have hnew : gi zs m ∉ zs.take m := by
        intro hx
        obtain ⟨j, hj, e⟩ := List.getElem_of_mem hx
        rw [List.length_take] at hj
        have hjm : j < m := by omega
        have e2 : zs[j]'(by omega) = gi zs m := by rw [← e]; simp
        unfold keeps at hk
        rw [decide_eq_true_eq] at hk
        rcases hk with hk | hk
        · omega
        · have e3 : zs.toArray[m - 1]! = zs[m - 1]'(by omega) := by simp [show m - 1 < zs.length by omega]
          rw [e1, e3] at hk
          have hle : zs[j]'(by omega) ≤ zs[m - 1]'(by omega) := by
            rcases Nat.lt_or_ge j (m - 1) with h | h
            · exact List.pairwise_iff_getElem.1 hs j (m - 1) (by omega) (by omega) h
            · have : j = m - 1 := by omega
              subst this
              exact Int.le_refl _
          have hle2 : zs[m - 1]'(by omega) ≤ zs[m]'(by omega) := List.pairwise_iff_getElem.1 hs (m - 1) m (by omega) (by omega) (by omega)
          have e4 : gi zs m = zs[m]'(by omega) := by simp [gi, show m < zs.length by omega]
          rw [e2] at hle
          rw [e4] at hle hk
          omega
      refine ⟨?_, fun x => ?_⟩
      · rw [List.nodup_append]
        refine ⟨h1, by simp, fun a ha b hb e => ?_⟩
        simp only [List.mem_singleton] at hb
        subst hb e
        exact hnew ((h2 _).1 ha)
      · rw [List.mem_append, h2, h3, List.mem_singleton]
    · rw [if_neg hk, List.append_nil]
      refine ⟨h1, fun x => ?_⟩
      rw [h2, h3]
      refine ⟨.inl, fun e => e.elim id (fun e => ?_)⟩
      have hk2 : ¬ (m = 0 ∨ zs.toArray[m]! ≠ zs.toArray[m - 1]!) := by
        intro h
        exact hk (by unfold keeps; exact decide_eq_true h)
      have hm0 : m ≠ 0 := fun h => hk2 (.inl h)
      have e5 : zs.toArray[m]! = zs.toArray[m - 1]! := Classical.byContradiction fun h => hk2 (.inr h)
      have e3 : zs.toArray[m - 1]! = zs[m - 1]'(by omega) := by simp [show m - 1 < zs.length by omega]
      rw [e1, e3] at e5
      rw [e, e5]
      exact List.mem_iff_getElem.2 ⟨m - 1, by simp; omega, by simp⟩
theorem counts_is (l : List Int) : (Lib.compact (srtV l)).length = (fsts l l.length).length := by
  have hs : (srtV l).Pairwise (· ≤ ·) := by
    have := List.pairwise_mergeSort (le := fun x y : Int => decide (x ≤ y)) (fun a b c h1 h2 => by simp at *; omega) (fun a b => by simp; omega) l
    exact this.imp fun h => by simpa using h
  have h1 := compactUpTo_is (srtV l) hs (srtV l).length (Nat.le_refl _)
  have h2 := fsts_is l l.length (Nat.le_refl _)
  refine len_eq_of_mem h1.1 h2.1 fun x => ?_
  show x ∈ Lib.compactUpTo (srtV l).toArray (srtV l).length ↔ _
  rw [h1.2, h2.2, List.take_length, List.take_length]
  exact List.mem_mergeSort
def IsBest (f : Int → Nat) (S : Int → Prop) (b : Int) (m : Nat) : Prop := ((∀ x, ¬ S x) ∧ b = 0 ∧ m = 0) ∨ (S b ∧ f b = m ∧ ∀ x, S x → f x < m ∨ (f x = m ∧ b ≤ x))
theorem IsBest.none (f : Int → Nat) {S : Int → Prop} (h : ∀ x, ¬ S x) : IsBest f S 0 0 := .inl ⟨h, rfl, rfl⟩
theorem IsBest.congr {f : Int → Nat} {S S' : Int → Prop} {b : Int} {m : Nat} (h : IsBest f S b m) (e : ∀ x, S x ↔ S' x) : IsBest f S' b m := by
  rcases h with ⟨h1, h2⟩ | ⟨h1, h2, h3⟩
  · exact .inl ⟨fun x hx => h1 x ((e x).2 hx), h2⟩
  · exact .inr ⟨(e b).1 h1, h2, fun x hx => h3 x ((e x).2 hx)⟩
theorem IsBest.yes {f : Int → Nat} {S : Int → Prop} {b x : Int} {m : Nat} (h : IsBest f S b m) (hx : m < f x ∨ (f x = m ∧ x < b)) (h0 : 0 < f x) : IsBest f (fun z => S z ∨ z = x) x (f x) := by
  refine .inr ⟨.inr rfl, rfl, fun z hz => ?_⟩
  rcases hz with hz | rfl
  · rcases h with ⟨h1, _⟩ | ⟨h1, h2, h3⟩
    · exact absurd hz (h1 z)
    · rcases h3 z hz with h4 | h4 <;> omega
  · exact .inr ⟨rfl, Int.le_refl _⟩
theorem IsBest.no {f : Int → Nat} {S : Int → Prop} {b x : Int} {m : Nat} (h : IsBest f S b m) (hx : ¬ (m < f x ∨ (f x = m ∧ x < b))) (h0 : 0 < f x) : IsBest f (fun z => S z ∨ z = x) b m := by
  rcases h with ⟨h1, h2, h3⟩ | ⟨h1, h2, h3⟩
  · exact absurd (.inl (by omega)) hx
  · refine .inr ⟨.inl h1, h2, fun z hz => ?_⟩
    rcases hz with hz | rfl
    · exact h3 z hz
    · omega
theorem IsBest.uniq {f : Int → Nat} {S : Int → Prop} {b b' : Int} {m m' : Nat} (h : IsBest f S b m) (k : IsBest f S b' m') : b = b' ∧ m = m' := by
  rcases h with ⟨h1, h2, h3⟩ | ⟨h1, h2, h3⟩
  · rcases k with ⟨k1, k2, k3⟩ | ⟨k1, _⟩
    · exact ⟨by rw [h2, k2], by rw [h3, k3]⟩
    · exact absurd k1 (h1 _)
  · rcases k with ⟨k1, _⟩ | ⟨k1, k2, k3⟩
    · exact absurd h1 (k1 _)
    · have a := h3 _ k1
      have c := k3 _ h1
      omega
end Go.Proofs.Ytomednfddpggaaa

/- Contracts: the document's answer on how many unlike numbers there are, and which is there most often. -/
namespace Go.Proofs.Ytomednfddpggaaa
open Go Go.RowKit
attribute [local go_sem] Oper.semAt_some
theorem count_take1 {l : List Int} {k : Nat} (hk : k < l.length) (x : Int) : (l.take (k + 1)).count x = (l.take k).count x + if gi l k = x then 1 else 0 := by
  have e : gi l k = l[k] := by simp [gi, hk]
  rw [List.take_succ_eq_append_getElem hk, List.count_append, e]
  by_cases h : l[k] = x
  · rw [if_pos h, h]; simp
  · have h0 : [l[k]].count x = 0 := List.count_eq_zero_of_not_mem (by simpa using Ne.symm h)
    rw [if_neg h, h0]
theorem Rd.takeI {w : World} {A : Option Addr} {n : Nat} {l : List Int} (h : Rd w A 1 n (l.map (.int .i64))) {k : Nat} (hk : k ≤ n) : Rd w A 1 k ((l.take k).map (.int .i64)) := by
  have hl : l.length = n := by simpa using h.len
  refine ⟨by simp; omega, fun h1 h2 => ?_⟩
  obtain ⟨g, off, e, hc⟩ := h.at_ (by omega)
  refine ⟨g, off, e, fun j u hu => hc j u ?_⟩
  rw [List.map_take] at hu
  have hj : j < k := by
    rcases Nat.lt_or_ge j k with h | h
    · exact h
    · rw [List.getElem?_eq_none (by simp; omega)] at hu; cases hu
  rwa [List.getElem?_take, if_pos hj] at hu
set_option maxRecDepth 20000 in
set_option maxHeartbeats 2000000 in
theorem r17Count (A : Option Addr) (c : Nat) (l : List Int) (w : World) (h : Rd w A 1 l.length (l.map (.int .i64))) (hl : l.length ≤ 1000000) (hc : l.length ≤ c) :
    Calls Try.prog 46 #[.slice A l.length c] w fun e w' => e = .returned (.int .i64 (((fsts l l.length).length : Nat) : Int)) ∧ Grows w w' := by
  have HR := hide h
  have CH := hide (fun (k : Nat) (hk : k ≤ l.length) (v : Int) (W : World) (hg : Grows w W) => r1Has A k c (l.take k) v W ((h.grows hg).takeI hk) (by omega))
  clear h
  go_enter Try.func46, Try.ntmps46
  go_wp2_with fail
  go_loopw [3, 4] (fun s3 s4 wr => ∃ k : Nat, k ≤ l.length ∧ s3 = .int .i64 (((fsts l k).length : Nat) : Int) ∧ s4 = .int .i64 (k : Int) ∧ ∃ y : Later w, wr = y.now) (fun _ i _ => l.length - (Go.RowKit.intOf i).toNat)
  case atStart => exact ⟨0, by omega, by simp [fsts], by go_num, ⟨w, Grows.refl _⟩, rfl⟩
  case round =>
    obtain ⟨k, hk, rfl, rfl, y, rfl⟩ := hrel
    by_cases hlt : k < l.length
    · obtain ⟨g, off, rfl, hc1⟩ := HR.out.intsH (by omega)
      have c1 := hc1 k hlt
      have CK := hide (fun (W : World) (hg : Grows w W) => CH.out k hk (gi l k) W hg)
      have hle : (fsts l k).length ≤ 1000000 := by
        have h1 := len_le_of_sub (fsts l k) (l.take k) (fsts_is l k hk).1 (fun x hx => ((fsts_is l k hk).2 x).1 hx)
        rw [List.length_take] at h1
        omega
      have hst : (fsts l (k + 1)).length = (fsts l k).length + if gi l k ∈ l.take k then 0 else 1 := by
        show (if gi l k ∈ l.take k then fsts l k else fsts l k ++ [gi l k]).length = _
        split <;> simp
      clear hc1 CH
      by_cases hv : gi l k ∈ l.take k
      · rw [if_pos hv] at hst
        rw [decide_eq_true hv] at CK
        have HST := hide hst
        clear hst hv
        generalize gi l k = gk at *
        generalize (fsts l k).length = q at *
        go_upto_region 5 with fail
        ((first | refine wp_region_gen (by kernel_rfl) (by kernel_rfl) ?_); (repeat' (first | (refine gLex_val0 rfl (by kernel_rfl) (fun K hK => ?_); (go_simp; (try (simp only [↓IntWalk.iteOmega]; try go_simp)); (try simp (disch := omega) only [IntWalk.i64_in]); (try simp (disch := omega) only [IntWalk.u64_in]); first | (refine hK _ ?_; clear hK K) | (apply Exists.intro; refine ⟨fun x => ?_, hK _ ?_⟩; (first | (go_at_call 29; with_reducible exact calls_same (CK.out _ (y.grows.trans GG)))); clear hK K))) | (refine gLex_undef rfl rfl rfl (by kernel_rfl) (fun K hK => ?_); go_simp; refine hK _ ?_; clear hK K) | (refine gLex_ask rfl rfl rfl ?_; first | (apply gAsk_yes; kernel_rfl; intro K hK; (go_simp; (try (simp only [↓IntWalk.iteOmega]; try go_simp)); (try simp (disch := omega) only [IntWalk.i64_in]); (try simp (disch := omega) only [IntWalk.u64_in]); first | (refine hK _ ?_; clear hK K) | (apply Exists.intro; refine ⟨fun x => ?_, hK _ ?_⟩; (first | (go_at_call 29; with_reducible exact calls_same (CK.out _ (y.grows.trans GG)))); clear hK K))) | ((first | apply gAsk_no1 | apply gAsk_no2); kernel_rfl; intro K hK; simp [go_sem]; refine hK _ ?_; clear hK K) | (apply gAsk_part; kernel_rfl; all_goals (intro h K hK; (try simp only [Bool.not_true] at h); (try simp only [Bool.not_false] at h); (try simp only [decide_eq_true_eq] at h); (try simp only [decide_eq_false_iff_not] at h); first | (exfalso; first | contradiction | omega) | (go_simp; (try (simp only [↓IntWalk.iteOmega]; try go_simp)); (try simp (disch := omega) only [IntWalk.i64_in]); (try simp (disch := omega) only [IntWalk.u64_in]); first | (refine hK _ ?_; clear hK K) | (apply Exists.intro; refine ⟨fun x => ?_, hK _ ?_⟩; (first | (go_at_call 29; with_reducible exact calls_same (CK.out _ (y.grows.trans GG)))); clear hK K))))))); all_goals ((apply gLex_end); intro y7))
        go_wp2_with fail
        go_roundw
        case measure => simp [Go.RowKit.intOf]; omega
        case rel => exact ⟨k + 1, by omega, by rw [HST.out]; rfl, by go_num, ⟨_, y.grows.trans y7.grows⟩, rfl⟩
      · rw [if_neg hv] at hst
        rw [decide_eq_false hv] at CK
        have HST := hide hst
        clear hst hv
        generalize gi l k = gk at *
        generalize (fsts l k).length = q at *
        go_upto_region 5 with fail
        ((first | refine wp_region_gen (by kernel_rfl) (by kernel_rfl) ?_); (repeat' (first | (refine gLex_val0 rfl (by kernel_rfl) (fun K hK => ?_); (go_simp; (try (simp only [↓IntWalk.iteOmega]; try go_simp)); (try simp (disch := omega) only [IntWalk.i64_in]); (try simp (disch := omega) only [IntWalk.u64_in]); first | (refine hK _ ?_; clear hK K) | (apply Exists.intro; refine ⟨fun x => ?_, hK _ ?_⟩; (first | (go_at_call 29; with_reducible exact calls_same (CK.out _ (y.grows.trans GG)))); clear hK K))) | (refine gLex_undef rfl rfl rfl (by kernel_rfl) (fun K hK => ?_); go_simp; refine hK _ ?_; clear hK K) | (refine gLex_ask rfl rfl rfl ?_; first | (apply gAsk_yes; kernel_rfl; intro K hK; (go_simp; (try (simp only [↓IntWalk.iteOmega]; try go_simp)); (try simp (disch := omega) only [IntWalk.i64_in]); (try simp (disch := omega) only [IntWalk.u64_in]); first | (refine hK _ ?_; clear hK K) | (apply Exists.intro; refine ⟨fun x => ?_, hK _ ?_⟩; (first | (go_at_call 29; with_reducible exact calls_same (CK.out _ (y.grows.trans GG)))); clear hK K))) | ((first | apply gAsk_no1 | apply gAsk_no2); kernel_rfl; intro K hK; simp [go_sem]; refine hK _ ?_; clear hK K) | (apply gAsk_part; kernel_rfl; all_goals (intro h K hK; (try simp only [Bool.not_true] at h); (try simp only [Bool.not_false] at h); (try simp only [decide_eq_true_eq] at h); (try simp only [decide_eq_false_iff_not] at h); first | (exfalso; first | contradiction | omega) | (go_simp; (try (simp only [↓IntWalk.iteOmega]; try go_simp)); (try simp (disch := omega) only [IntWalk.i64_in]); (try simp (disch := omega) only [IntWalk.u64_in]); first | (refine hK _ ?_; clear hK K) | (apply Exists.intro; refine ⟨fun x => ?_, hK _ ?_⟩; (first | (go_at_call 29; with_reducible exact calls_same (CK.out _ (y.grows.trans GG)))); clear hK K))))))); all_goals ((apply gLex_end); intro y7))
        go_wp2_with fail
        go_roundw
        case measure => simp [Go.RowKit.intOf]; omega
        case rel => exact ⟨k + 1, by omega, by rw [HST.out]; go_num, by go_num, ⟨_, y.grows.trans y7.grows⟩, rfl⟩
    · obtain rfl : k = l.length := by omega
      go_wp2_with fail
      go_ret
      exact ⟨rfl, y.grows⟩
end Go.Proofs.Ytomednfddpggaaa

/- Contract: which edges are needed, of any graph, by the program. -/
namespace Go.Proofs.Ytomednfddpggaaa
open Go Go.RowKit
attribute [local go_sem] Oper.semAt_some
def fltL (p : Nat → Bool) (k : Nat) : List Int := ((List.range k).filter p).map fun (i : Nat) => (i : Int)
theorem fltL_next (p : Nat → Bool) (k : Nat) : fltL p (k + 1) = if p k = true then fltL p k ++ [(k : Int)] else fltL p k := by
  unfold fltL
  rw [List.range_succ, List.filter_append]
  by_cases h : p k = true <;> simp [h]
theorem fltL_len (p : Nat → Bool) (k : Nat) : (fltL p k).length ≤ k := by
  unfold fltL
  have := List.length_filter_le p (List.range k)
  simpa using this
theorem dc_none {N s : Nat} {E : List Edg} (hr : rightF N E = 0) (hs : s < N) : dcF N s E [] = 0 := by
  unfold dcF
  rw [if_neg (by omega), if_neg (by simp [nodeB]; omega), if_neg (by simp)]
  rfl
set_option maxRecDepth 40000 in
set_option maxHeartbeats 8000000 in
theorem bwNeedsG (N s : Nat) (A : Option Addr) (c : Nat) (E : List Edg) (w : World) (h : Rd w A 3 E.length (esCells E)) (hr : rightF N E = 0) (hs : s < N) :
    Calls Try.prog 11 #[.agg #[.int .i64 (N : Int), .slice A E.length c], .int .i64 (s : Int)] w fun x w' => ∃ A' c', x = .returned (.tuple #[.slice A' (fltL (needB N E s) E.length).length c', .int .i64 0]) ∧ Rd w' A' 1 (fltL (needB N E s) E.length).length ((fltL (needB N E s) E.length).map (.int .i64)) ∧ Grows w w' := by
  obtain ⟨r1, r2, r3, r4, r5⟩ := right_in hr
  have h0 : Rd w none 1 0 (wv []) := ⟨by simp [wv], fun h => absurd h (by simp)⟩
  have C1 := hide (fun (W : World) (g : Grows w W) => show Calls Try.prog 40 #[.agg #[.int .i64 (N : Int), .slice A E.length c], .int .i64 (s : Int), .agg #[.bool false, .slice none 0 0, .slice none 0 0, .slice none 0 0, .int .u64 0]] W fun e w' => e = .returned (.int .i64 0) ∧ Grows W w' from by
    have := djCheck N s A E.length c E false (.slice none 0 0) (.slice none 0 0) none 0 0 0 [] W (h.grows g) (h0.grows g) (by omega) (by omega)
    rw [dc_none hr hs] at this
    exact this)
  have C2 := hide (fun (W : World) (g : Grows w W) => ptReach N s A c E false W (h.grows g) hr hs)
  have C3 := hide (fun (k : Nat) (hk : k < E.length) (W : World) (g : Grows w W) => withoutW N A c E k W (h.grows g) hr hk)
  have C4 := hide (fun (k : Nat) (W : World) (A' : Option Addr) (c' : Nat) (h : Rd W A' 3 (E.eraseIdx k).length (esCells (E.eraseIdx k))) => ptReach N s A' c' (E.eraseIdx k) false W h (right_erase k hr) hs)
  have HLN := hide (fun (E : List Edg) => reachL_len N E s false)
  have HND := hide (fun k => show needB N E s k = !decide (reachL N (E.eraseIdx k) s false = reachL N E s false) from rfl)
  have hN : N ≤ 4096 := by omega
  have hEl : E.length ≤ 16384 := r3
  clear h h0 hr hs r1 r2 r3 r4 r5
  go_enter Try.func11, Try.ntmps11
  go_upto_region 4 with (go_at_call 40; refine (C1.out _ GG).mono ?_; rintro e w' ⟨rfl, hg⟩; obtain ⟨x1, rfl⟩ := hg.later; clear hg)
  go_upto_region 5 with (go_at_call 41; refine (C2.out _ GG).mono ?_; rintro e w' ⟨g2, rfl, ha2, hg⟩; obtain ⟨x2, rfl⟩ := hg.later; have HA2 := hide ha2; clear hg ha2)
  have hgw : Grows w x2.now := GG
  have z2 : Arr x2.now w.heap.size 24 [.int .i64 (N : Int), .slice A E.length c] := (Arr.make w _ _).grow (show Grows (w.alloc (.cells #[.int .i64 (N : Int), .slice A E.length c] 24)) x2.now from GG)
  have hl2 := HLN.out E
  clear C1 C2
  generalize w.heap.size = b2 at *
  generalize reachL N E s false = R at *
  go_wp2_with fail
  go_loopw [24, 4] (fun i u wr => ∃ k : Nat, k ≤ E.length ∧ i = .int .i64 (k : Int) ∧ ∃ y : Later x2.now, wr = y.now ∧ ∃ A1 c1 s1, u = .slice A1 s1 c1 ∧ Hid (s1 = (fltL (needB N E s) k).length) ∧ Own y.now x2.now.heap.size 3 1 A1 s1 c1 ((fltL (needB N E s) k).map (.int .i64))) (fun i _ _ => E.length - (Go.RowKit.intOf i).toNat)
  case atStart => exact ⟨0, by omega, by go_num, ⟨_, Grows.refl _⟩, rfl, none, 0, 0, rfl, rfl, Own.nil _ _ _ _⟩
  case round =>
    obtain ⟨k, hk, rfl, y, rfl, A1, c1, s1, rfl, HS1, hown⟩ := hrel
    have HO := hide hown
    clear hown
    by_cases hlt : k < E.length
    · have C3k := hide (C3.out k hlt)
      have C4k := hide (C4.out k)
      have hnd := HND.out k
      have hnx := fltL_next (needB N E s) k
      have hl1 := HLN.out (E.eraseIdx k)
      have hs1 : s1 ≤ 1000000 := by have := HS1.out; have := fltL_len (needB N E s) k; omega
      have HNX := hide hnx
      have HL1 := hide hl1
      have HL2 := hide hl2
      obtain ⟨d, hd⟩ : ∃ d, decide (reachL N (E.eraseIdx k) s false = R) = d := ⟨_, rfl⟩
      rw [hd] at hnd
      have HD := hide hd
      clear hnx hl1 hl2 hd
      have HEQ := hide (fun (g4 : Nat) (W : World) (h4 : Arr W g4 4 ((reachL N (E.eraseIdx k) s false).map .bool)) (hg : Grows x2.now W) => show Calls Try.prog 42 #[.slice (some ⟨g4, 0, none⟩) N N, .slice (some ⟨g2, 0, none⟩) N N] W fun e w' => e = .returned (.bool d) ∧ Grows W w' from by
        have := eqBool g4 g2 N (reachL N (E.eraseIdx k) s false) R W h4 (HA2.out.grow hg) HL1.out HL2.out (by omega)
        rw [HD.out] at this
        exact this)
      generalize (E.eraseIdx k).length = n3 at *
      generalize esCells (E.eraseIdx k) = cs3 at *
      generalize reachL N (E.eraseIdx k) s false = R2 at *
      clear HD HL1 HL2 HND HLN C3 C4
      cases d with
      | true =>
        rw [if_neg (by rw [hnd]; decide)] at HNX
        clear hnd
        go_wp2_with (first
          | (go_at_call 9; refine (C3k.out _ (hgw.trans GG)).mono ?_; rintro e w' ⟨A3, c3, rfl, hr3, hg⟩; obtain ⟨y3, rfl⟩ := hg.later; have HR3 := hide hr3; clear hg hr3)
          | (go_at_call 41; refine (C4k.out _ A3 c3 (HR3.out.grows GG)).mono ?_; rintro e w' ⟨g4, rfl, ha4, hg⟩; obtain ⟨y4, rfl⟩ := Grows.later2 (((Grows.refl y3.now).new _).trans hg); have HA4 := hide ha4; clear hg ha4)
          | (go_at_call 42; refine (HEQ.out g4 _ HA4.out GG).mono ?_; rintro e w' ⟨rfl, hg⟩; obtain ⟨y5, rfl⟩ := hg.later; clear hg))
        go_roundw
        case measure => simp [Go.RowKit.intOf]; omega
        case rel => exact ⟨k + 1, by omega, by go_num, ⟨y5.now, y.grows.trans (y4.grows.trans y5.grows)⟩, rfl, A1, c1, s1, rfl, by show s1 = _; rw [HNX.out]; exact HS1.out, by rw [HNX.out]; exact HO.out.grows (y4.grows.trans y5.grows)⟩
      | false =>
        rw [if_pos (by rw [hnd]; decide)] at HNX
        clear hnd
        go_wp2_with (first
          | (go_at_call 9; refine (C3k.out _ (hgw.trans GG)).mono ?_; rintro e w' ⟨A3, c3, rfl, hr3, hg⟩; obtain ⟨y3, rfl⟩ := hg.later; have HR3 := hide hr3; clear hg hr3)
          | (go_at_call 41; refine (C4k.out _ A3 c3 (HR3.out.grows GG)).mono ?_; rintro e w' ⟨g4, rfl, ha4, hg⟩; obtain ⟨y4, rfl⟩ := Grows.later2 (((Grows.refl y3.now).new _).trans hg); have HA4 := hide ha4; clear hg ha4)
          | (go_at_call 42; refine (HEQ.out g4 _ HA4.out GG).mono ?_; rintro e w' ⟨rfl, hg⟩; obtain ⟨y5, rfl⟩ := hg.later; clear hg)
          | (at_builtin; refine wp_app1 elemInt rfl _ _ rfl x2.now GG s1 c1 A1 _ rfl (HO.out.grows GG) _ _ _ rfl inferInstance rfl (by omega) ?_; intro A6 c6 y6 hown6; have HO6 := hide hown6; clear hown6))
        go_roundw
        case measure => simp [Go.RowKit.intOf]; omega
        case rel => exact ⟨k + 1, by omega, by go_num, y6, rfl, A6, c6, s1 + 1, rfl, by show s1 + 1 = _; rw [HNX.out, List.length_append, ← HS1.out]; rfl, by rw [HNX.out, List.map_append]; exact HO6.out⟩
    · obtain rfl : E.length = k := by omega
      go_wp2_with fail
      rw [← HS1.out]
      refine bodyPost_ret (v := .tuple #[.slice A1 s1 c1, .int .i64 0]) (by simp (maxDischargeDepth := 6) [results, Try.results11, go_sem, *]) rfl ⟨A1, c1, rfl, HO.out.rd, hgw.trans y.grows⟩
set_option maxRecDepth 20000 in
set_option maxHeartbeats 2000000 in
theorem bwNeedsNo (N s : Int) (A : Option Addr) (n c : Nat) (E : List Edg) (w : World) (h : Rd w A 3 n (esCells E)) (hn : n ≤ 1000000) (hd : dcF N s E [] ≠ 0) :
    Calls Try.prog 11 #[.agg #[.int .i64 N, .slice A n c], .int .i64 s] w fun x w' => x = .returned (.tuple #[.slice none 0 0, .int .i64 (dcF N s E [])]) ∧ Grows w w' := by
  have h0 : Rd w none 1 0 (wv []) := ⟨by simp [wv], fun h => absurd h (by simp)⟩
  have C1 := hide (fun (W : World) (g : Grows w W) => show Calls Try.prog 40 #[.agg #[.int .i64 N, .slice A n c], .int .i64 s, .agg #[.bool false, .slice none 0 0, .slice none 0 0, .slice none 0 0, .int .u64 0]] W fun e w' => e = .returned (.int .i64 (dcF N s E [])) ∧ Grows W w' from djCheck N s A n c E false (.slice none 0 0) (.slice none 0 0) none 0 0 0 [] W (h.grows g) (h0.grows g) hn (by omega))
  have hb : (dcF N s E [] != 0) = true := bne_iff_ne.2 hd
  clear h h0 hd
  generalize dcF N s E [] = r at *
  go_enter Try.func11, Try.ntmps11
  go_wp2_with (go_at_call 40; refine (C1.out _ GG).mono ?_; rintro e w' ⟨rfl, hg⟩; obtain ⟨x1, rfl⟩ := hg.later; clear hg)
  refine bodyPost_ret (v := .tuple #[.slice none 0 0, .int .i64 r]) (by simp (maxDischargeDepth := 6) [results, Try.results11, go_sem, *]) rfl ⟨rfl, GG⟩
end Go.Proofs.Ytomednfddpggaaa

/- Plain law: without which edges there are more parts: what the walk tells. -/
namespace Go.Proofs.Ytomednfddpggaaa
open Go Go.RowKit
def Met (s : BwS) (y : Nat) : Prop := 0 < gi s.met y
def Nw (s t : BwS) (y : Nat) : Prop := Met t y ∧ ¬ Met s y
structure BS (N : Nat) (E : List Edg) (K : List Nat) (s : BwS) : Prop where
  ok : BwOk N s
  le : ∀ y, gi s.met y ≤ s.now
  shut : ∀ y, Met s y → y ∉ K → ∀ i z, Inc E i y z → Met s z
  opn : ∀ y, y ∈ K → Met s y
  top : ∀ v, K.head? = some v → ∀ y, y ∈ K → gi s.met y ≤ gi s.met v ∧ Con E (fun i => Met s (fN E i) ∧ Met s (tN E i)) y v
def CP (E : List Edg) (s t : BwS) (b : Int) (i : Nat) : Prop := (i : Int) ≠ b ∧ (Nw s t (fN E i) ∨ Nw s t (tN E i))
structure BR (N : Nat) (E : List Edg) (s t : BwS) (u : Nat) (b : Int) (new : List Nat) : Prop where
  ok : BwOk N t
  old : ∀ y, Met s y → gi t.met y = gi s.met y ∧ gi t.low y = gi s.low y
  me : Met t u
  nw : s.now ≤ t.now
  gt : ∀ y, Nw s t y → s.now < gi t.met y
  le : ∀ y, gi t.met y ≤ t.now
  shut : ∀ y, Nw s t y → ∀ i z, Inc E i y z → Met t z
  low4 : ∀ (i : Nat) y z, Nw s t y → (i : Int) ≠ b → Inc E i y z → Met s z → gi t.low u ≤ gi s.met z
  low5 : ∃ y, gi t.low u = gi t.met y ∧ (Nw s t y ∨ (Met s y ∧ ∃ i z, Inc E i z y ∧ Nw s t z)) ∧ Con E (CP E s t b) u y
  cuts : t.cuts = s.cuts ++ new
  nd : new.Nodup
  good : ∀ i, i ∈ new → i < E.length ∧ Nw s t (fN E i) ∧ Nw s t (tN E i) ∧ Brg E i
  all : ∀ (i : Nat) y z, Nw s t y → (i : Int) ≠ b → Inc E i y z → Brg E i → i ∈ new
structure FI (N : Nat) (E : List Edg) (s : BwS) (x : Nat) (b : Int) (D : Nat → Prop) (t : BwS) (new : List Nat) : Prop where
  ok : BwOk N t
  old : ∀ y, Met s y → gi t.met y = gi s.met y ∧ gi t.low y = gi s.low y
  mx : gi t.met x = s.now + 1
  nw : s.now + 1 ≤ t.now
  gt : ∀ y, Nw s t y → s.now < gi t.met y
  le : ∀ y, gi t.met y ≤ t.now
  shut : ∀ y, Nw s t y → y ≠ x → ∀ i z, Inc E i y z → Met t z
  dn : ∀ i z, D i → Inc E i x z → Met t z
  low4 : ∀ (i : Nat) y z, Nw s t y → (y ≠ x ∨ (D i ∧ (i : Int) ≠ b)) → Inc E i y z → Met s z → gi t.low x ≤ gi s.met z
  low5 : ∃ y, gi t.low x = gi t.met y ∧ (Nw s t y ∨ (Met s y ∧ ∃ i z, Inc E i z y ∧ Nw s t z)) ∧ Con E (CP E s t b) x y
  cuts : t.cuts = s.cuts ++ new
  nd : new.Nodup
  good : ∀ i, i ∈ new → i < E.length ∧ Nw s t (fN E i) ∧ Nw s t (tN E i) ∧ Brg E i
  all : ∀ (i : Nat) y z, Nw s t y → y ≠ x → Inc E i y z → Brg E i → i ∈ new
def ByOk (E : List Edg) (K : List Nat) (b : Int) (x : Nat) : Prop := (K = [] ∧ b = -1) ∨ ∃ v K' i, K = v :: K' ∧ b = (i : Nat) ∧ Inc E i v x
theorem Met.old {N : Nat} {E : List Edg} {s t : BwS} {x y : Nat} {b : Int} {D : Nat → Prop} {new : List Nat} (h : FI N E s x b D t new) (hy : Met s y) : Met t y := by
  unfold Met at hy ⊢; rw [(h.old y hy).1]; exact hy
theorem FI.meX {N : Nat} {E : List Edg} {s t : BwS} {x : Nat} {b : Int} {D : Nat → Prop} {new : List Nat} (h : FI N E s x b D t new) (h0 : 0 ≤ s.now) : Met t x := by
  unfold Met; rw [h.mx]; omega
theorem FI.bs {N : Nat} {E : List Edg} {s t : BwS} {x : Nat} {b : Int} {K : List Nat} {D : Nat → Prop} {new : List Nat} (hs : BS N E K s) (hx : ¬ Met s x) (hb : ByOk E K b x) (h : FI N E s x b D t new) : BS N E (x :: K) t := by
  have h0 := hs.ok.le.1
  have hxt := h.meX h0
  refine ⟨h.ok, h.le, fun y hy hK i z hi => ?_, fun y hy => ?_, fun v hv y hy => ?_⟩
  · rw [List.mem_cons, not_or] at hK
    by_cases hys : Met s y
    · exact Met.old h (hs.shut y hys hK.2 i z hi)
    · exact h.shut y ⟨hy, hys⟩ hK.1 i z hi
  · rcases List.mem_cons.1 hy with rfl | hy
    · exact hxt
    · exact Met.old h (hs.opn y hy)
  · simp only [List.head?_cons, Option.some.injEq] at hv
    subst hv
    rcases List.mem_cons.1 hy with rfl | hy
    · exact ⟨Int.le_refl _, .here⟩
    · have hym := hs.opn y hy
      refine ⟨by rw [(h.old y hym).1, h.mx]; have := hs.le y; omega, ?_⟩
      rcases hb with ⟨rfl, _⟩ | ⟨p, K', j, rfl, _, hj⟩
      · cases hy
      · have hp := hs.opn p (by simp)
        have h1 := (hs.top p rfl y hy).2.mono (Q := fun i => Met t (fN E i) ∧ Met t (tN E i)) (fun i _ hi => ⟨Met.old h hi.1, Met.old h hi.2⟩)
        refine h1.step hj ?_
        rcases hj.2 with ⟨e1, e2⟩ | ⟨e1, e2⟩
        · exact ⟨by rw [e1]; exact Met.old h hp, by rw [e2]; exact hxt⟩
        · exact ⟨by rw [e2]; exact hxt, by rw [e1]; exact Met.old h hp⟩
theorem enter_met {N : Nat} {s : BwS} (h : BwOk N s) {x : Nat} (hx : x < N) (y : Nat) : gi (s.enter x).met y = if y = x then s.now + 1 else gi s.met y := gi_set2 _ _ _ _ (by rw [h.m]; exact hx)
theorem enter_low {N : Nat} {s : BwS} (h : BwOk N s) {x : Nat} (hx : x < N) (y : Nat) : gi (s.enter x).low y = if y = x then s.now + 1 else gi s.low y := gi_set2 _ _ _ _ (by rw [h.l]; exact hx)
theorem lower_low {N : Nat} {t : BwS} (h : BwOk N t) {x : Nat} (hx : x < N) (a : Int) (y : Nat) : gi (t.lower x a).low y = if y = x then min (gi t.low x) a else gi t.low y := gi_set2 _ _ _ _ (by rw [h.l]; exact hx)
theorem FI.begin_ {N : Nat} {E : List Edg} {s : BwS} {x : Nat} {b : Int} {K : List Nat} (hs : BS N E K s) (hx : x < N) (h0 : gi s.met x = 0) : FI N E s x b (fun _ => False) (s.enter x) [] := by
  have hok := (hs.ok.enter hx h0).1
  have hm := enter_met hs.ok hx
  have hl := enter_low hs.ok hx
  have hnow := hs.ok.le.1
  have hne : ∀ y, Met s y → y ≠ x := fun y hy e => by unfold Met at hy; rw [e, h0] at hy; omega
  have hnew : ∀ y, Nw s (s.enter x) y → y = x := fun y ⟨h1, h2⟩ => by
    apply Classical.byContradiction
    intro e
    unfold Met at h1 h2
    rw [hm, if_neg e] at h1
    exact h2 h1
  refine ⟨hok, fun y hy => ?_, ?_, Int.le_refl _, fun y hy => ?_, fun y => ?_, fun y hy hyx => absurd (hnew y hy) hyx, fun i z hf => hf.elim, fun i y z hy hor => ?_, ?_, ?_, List.nodup_nil, fun i hi => (by cases hi), fun i y z hy hyx => absurd (hnew y hy) hyx⟩
  · rw [hm, hl, if_neg (hne y hy), if_neg (hne y hy)]; exact ⟨rfl, rfl⟩
  · rw [hm, if_pos rfl]
  · rw [hnew y hy, hm, if_pos rfl]; omega
  · rw [hm]
    show _ ≤ s.now + 1
    split
    · exact Int.le_refl _
    · have := hs.le y; omega
  · rcases hor with h | ⟨h, _⟩
    · exact absurd (hnew y hy) h
    · exact h.elim
  · refine ⟨x, by rw [hm, hl, if_pos rfl, if_pos rfl], .inl ⟨?_, ?_⟩, .here⟩
    · unfold Met; rw [hm, if_pos rfl]; omega
    · unfold Met; rw [h0]; omega
  · show s.cuts = s.cuts ++ []
    rw [List.append_nil]
theorem FI.skip {N : Nat} {E : List Edg} {s t : BwS} {x i : Nat} {b : Int} {K : List Nat} {D : Nat → Prop} {new : List Nat} (hs : BS N E K s) (hb : ByOk E K b x) (h : FI N E s x b D t new) (hi : (i : Int) = b) : FI N E s x b (fun j => D j ∨ j = i) t new := by
  refine { h with dn := fun j z hj hinc => ?_, low4 := fun j y z hy hor => ?_ }
  · rcases hj with hj | rfl
    · exact h.dn j z hj hinc
    · rcases hb with ⟨_, e⟩ | ⟨v, K', k, rfl, e, hk⟩
      · omega
      · obtain rfl : j = k := by omega
        rcases hk.two hinc with ⟨e1, e2⟩ | ⟨e1, e2⟩
        · rw [e2, e1] at *
          exact Met.old h (hs.opn _ (by simp))
        · rw [e2]
          exact Met.old h (hs.opn _ (by simp))
  · refine h.low4 j y z hy ?_
    rcases hor with h1 | ⟨h1 | h1, h2⟩
    · exact .inl h1
    · exact .inr ⟨h1, h2⟩
    · exact absurd (by rw [h1]; exact hi) h2
theorem FI.seen {N : Nat} {E : List Edg} {s t : BwS} {x i z0 : Nat} {b : Int} {D : Nat → Prop} {new : List Nat} (hx : x < N) (hxs : ¬ Met s x) (h0 : 0 ≤ s.now) (h : FI N E s x b D t new) (hi : (i : Int) ≠ b) (hinc : Inc E i x z0) (hz : Met t z0) : FI N E s x b (fun j => D j ∨ j = i) (t.lower x (gi t.met z0)) new := by
  have hl := lower_low h.ok hx (gi t.met z0)
  have hxt := h.meX h0
  have hxn : Nw s t x := ⟨hxt, hxs⟩
  refine ⟨h.ok.lower _ _, fun y hy => ?_, h.mx, h.nw, h.gt, h.le, h.shut, fun j z hj hji => ?_, fun j y z hy hor hji hzs => ?_, ?_, h.cuts, h.nd, h.good, h.all⟩
  · have hne : y ≠ x := fun e => hxs (e ▸ hy)
    exact ⟨(h.old y hy).1, by rw [hl, if_neg hne]; exact (h.old y hy).2⟩
  · show Met t z
    rcases hj with hj | rfl
    · exact h.dn j z hj hji
    · rcases hinc.two hji with ⟨_, e⟩ | ⟨e1, e2⟩
      · rw [e]; exact hz
      · rw [e2]; exact hxt
  · rw [hl, if_pos rfl]
    rcases hor with h1 | ⟨h1 | h1, h2⟩
    · have := h.low4 j y z hy (.inl h1) hji hzs; omega
    · have := h.low4 j y z hy (.inr ⟨h1, h2⟩) hji hzs; omega
    · subst h1
      have hm := (h.old z hzs).1
      by_cases hyx : y = x
      · rcases hinc.two hji with ⟨_, e⟩ | ⟨e1, e2⟩
        · rw [← e]; omega
        · exact absurd (e2 ▸ hzs) hxs
      · have := h.low4 j y z hy (.inl hyx) hji hzs; omega
  · rw [hl, if_pos rfl]
    rcases Int.le_total (gi t.low x) (gi t.met z0) with e | e
    · rw [Int.min_eq_left e]
      exact h.low5
    · rw [Int.min_eq_right e]
      refine ⟨z0, rfl, ?_, Con.one hinc ⟨hi, ?_⟩⟩
      · by_cases hzs : Met s z0
        · exact .inr ⟨hzs, i, x, hinc, hxn⟩
        · exact .inl ⟨hz, hzs⟩
      · rcases hinc.2 with ⟨e1, _⟩ | ⟨e1, _⟩
        · exact .inl (by rw [e1]; exact hxn)
        · exact .inr (by rw [e1]; exact hxn)
theorem back_met (t : BwS) (v i u : Nat) : (t.back v i u).met = t.met ∧ (t.back v i u).low = t.low ∧ (t.back v i u).now = t.now ∧ (t.back v i u).cuts = t.cuts ++ (if gi t.met v < gi t.low u then [i] else []) := by
  unfold BwS.back
  split
  · exact ⟨rfl, rfl, rfl, rfl⟩
  · exact ⟨rfl, rfl, rfl, by rw [List.append_nil]⟩
theorem FI.call {N : Nat} {E : List Edg} {s t t1 : BwS} {x i z : Nat} {b : Int} {K : List Nat} {D : Nat → Prop} {new new1 : List Nat} (hs : BS N E K s) (hb : ByOk E K b x) (hx : x < N) (hxs : ¬ Met s x) (h : FI N E s x b D t new) (hi : (i : Int) ≠ b) (hinc : Inc E i x z) (hz : ¬ Met t z)
    (hr : BR N E t t1 z i new1) (hok : BwOk N ((t1.lower x (gi t1.low z)).back x i z)) :
    FI N E s x b (fun j => D j ∨ j = i) ((t1.lower x (gi t1.low z)).back x i z) (new ++ (new1 ++ (if gi t1.met x < gi t1.low z then [i] else []))) := by
  have h0 := hs.ok.le.1
  have hxt := h.meX h0
  have hzx : z ≠ x := fun e => hz (e ▸ hxt)
  have hB := h.bs hs hxs hb
  obtain ⟨q1, q2, q3, q4⟩ := back_met (t1.lower x (gi t1.low z)) x i z
  have hl := lower_low hr.ok hx (gi t1.low z)
  have q1' : ((t1.lower x (gi t1.low z)).back x i z).met = t1.met := q1
  have q3' : ((t1.lower x (gi t1.low z)).back x i z).now = t1.now := q3
  have q4' : ((t1.lower x (gi t1.low z)).back x i z).cuts = t1.cuts ++ (if gi t1.met x < gi t1.low z then [i] else []) := by
    rw [q4]
    show t1.cuts ++ (if gi t1.met x < gi (t1.lower x (gi t1.low z)).low z then [i] else []) = _
    rw [hl, if_neg hzx]
  have q2' : ∀ y, gi ((t1.lower x (gi t1.low z)).back x i z).low y = if y = x then min (gi t1.low x) (gi t1.low z) else gi t1.low y := fun y => by rw [q2, hl]
  generalize ((t1.lower x (gi t1.low z)).back x i z) = t3 at *
  clear q1 q2 q3 q4 hl
  have up : ∀ y, Met t y → Met t1 y := fun y hy => by unfold Met at hy ⊢; rw [(hr.old y hy).1]; exact hy
  have m3 : ∀ y, Met t3 y ↔ Met t1 y := fun y => by unfold Met; rw [q1']
  have sp : ∀ y, Nw s t3 y → Nw s t y ∨ Nw t t1 y := fun y ⟨h1, h2⟩ => by
    by_cases hy : Met t y
    · exact .inl ⟨hy, h2⟩
    · exact .inr ⟨(m3 y).1 h1, hy⟩
  have n1 : ∀ y, Nw s t y → Nw s t3 y := fun y ⟨h1, h2⟩ => ⟨(m3 y).2 (up y h1), h2⟩
  have n2 : ∀ y, Nw t t1 y → Nw s t3 y := fun y ⟨h1, h2⟩ => ⟨(m3 y).2 h1, fun e => h2 (Met.old h e)⟩
  have hxn : Nw s t x := ⟨hxt, hxs⟩
  have hzn : Nw t t1 z := ⟨hr.me, hz⟩
  have hx1 : gi t1.met x = gi t.met x := (hr.old x hxt).1
  have hx2 : gi t1.low x = gi t.low x := (hr.old x hxt).2
  have hlz := q2' x
  rw [if_pos rfl] at hlz
  -- the edge of x's own coming is not among the new ones
  have hbn : ∀ (j : Nat), (j : Int) = b → ∀ y w, Inc E j y w → Met t y := fun j hj y w hyw => by
    rcases hb with ⟨_, e⟩ | ⟨v, K', k, rfl, e, hk⟩
    · omega
    · obtain rfl : j = k := by omega
      rcases hk.two hyw with ⟨e1, _⟩ | ⟨e1, _⟩
      · rw [e1]; exact Met.old h (hs.opn _ (by simp))
      · rw [e1]; exact hxt
  -- no edge but i leads out of what has come
  have hout : ∀ j y w, Nw t t1 y → j ≠ i → Inc E j y w → ¬ Nw t t1 w → Met t w ∧ w ∈ x :: K ∧ gi t1.low z ≤ gi t.met w := fun j y w hy hj hyw hw => by
    have hw1 := hr.shut y hy j w hyw
    have hwt : Met t w := Classical.byContradiction fun e => hw ⟨hw1, e⟩
    refine ⟨hwt, ?_, hr.low4 j y w hy (by omega) hyw hwt⟩
    apply Classical.byContradiction
    intro hK
    exact hy.2 (hB.shut w hwt hK j y hyw.symm)
  have hbr : gi t1.met x < gi t1.low z → Brg E i := fun hlt => by
    refine Brg.of hinc.symm fun hc => ?_
    have := hc.stay (S := Nw t t1) hzn (fun j a c ha hac hj => by
      apply Classical.byContradiction
      intro hcn
      obtain ⟨e1, e2, e3⟩ := hout j a c ha hj hac hcn
      have := (hB.top x rfl c e2).1
      omega)
    exact this.2 hxt
  have hnb : ¬ gi t1.met x < gi t1.low z → ¬ Brg E i := fun hge => by
    obtain ⟨y, y1, y2, y3⟩ := hr.low5
    refine Brg.not hinc.symm ?_
    have c1 : Con E (fun j => j ≠ i) z y := y3.mono fun j _ hj e => hj.1 (by rw [e])
    rcases y2 with y2 | ⟨y2, j, w, hj, hw⟩
    · have := hr.gt y y2
      have := h.le x
      omega
    · refine c1.trans ?_
      have hyK : y ∈ x :: K := Classical.byContradiction fun e => hw.2 (hB.shut y y2 e j w hj.symm)
      refine (hB.top x rfl y hyK).2.mono fun k _ hk e => ?_
      subst e
      rcases hinc.2 with ⟨_, e⟩ | ⟨_, e⟩
      · exact hz (e ▸ hk.2)
      · exact hz (e ▸ hk.1)
  refine ⟨hok, fun y hy => ?_, ?_, ?_, fun y hy => ?_, fun y => ?_, fun y hy hyx j w hj => ?_, fun j w hj hjw => ?_, fun j y w hy hor hjw hws => ?_, ?_, ?_, ?_, fun j hj => ?_, fun j y w hy hyx hjw hbj => ?_⟩
  · have hyt := Met.old h hy
    have hne : y ≠ x := fun e => hxs (e ▸ hy)
    rw [q1', q2', if_neg hne, (hr.old y hyt).1, (hr.old y hyt).2]
    exact h.old y hy
  · rw [q1', hx1, h.mx]
  · rw [q3']; have := h.nw; have := hr.nw; omega
  · rw [q1']
    rcases sp y hy with k | k
    · rw [(hr.old y k.1).1]; exact h.gt y k
    · have := hr.gt y k; have := h.nw; omega
  · rw [q1', q3']; exact hr.le y
  · rw [m3]
    rcases sp y hy with k | k
    · exact up _ (h.shut y k hyx j w hj)
    · exact hr.shut y k j w hj
  · rw [m3]
    rcases hj with hj | rfl
    · exact up _ (h.dn j w hj hjw)
    · rcases hinc.two hjw with ⟨_, e⟩ | ⟨e1, e2⟩
      · rw [e]; exact hr.me
      · rw [e2]; exact up _ hxt
  · rw [hlz, hx2]
    have hwt := Met.old h hws
    rcases sp y hy with k | k
    · have hor' : y ≠ x ∨ (D j ∧ (j : Int) ≠ b) := by
        rcases hor with e | ⟨e | e, e2⟩
        · exact .inl e
        · exact .inr ⟨e, e2⟩
        · subst e
          refine .inl fun e => ?_
          subst e
          rcases hinc.two hjw with ⟨_, e⟩ | ⟨e1, e2⟩
          · exact hz (e ▸ hwt)
          · exact hxs (e2 ▸ hws)
      have := h.low4 j y w k hor' hjw hws; omega
    · have hji : j ≠ i := fun e => by
        subst e
        rcases hinc.two hjw with ⟨e, _⟩ | ⟨_, e⟩
        · exact k.2 (e ▸ hxt)
        · exact hxs (e ▸ hws)
      have := hr.low4 j y w k (by omega) hjw hwt
      rw [(h.old w hws).1] at this
      omega
  · rw [hlz, hx2]
    rcases Int.le_total (gi t.low x) (gi t1.low z) with e | e
    · rw [Int.min_eq_left e]
      obtain ⟨y, y1, y2, y3⟩ := h.low5
      have hyt : Met t y := by
        rcases y2 with k | ⟨k, _⟩
        · exact k.1
        · exact Met.old h k
      refine ⟨y, by rw [y1, q1', (hr.old y hyt).1], ?_, y3.mono fun j _ hj => ⟨hj.1, hj.2.elim (fun k => .inl (n1 _ k)) (fun k => .inr (n1 _ k))⟩⟩
      rcases y2 with k | ⟨k, j, w, hj, hw⟩
      · exact .inl (n1 _ k)
      · exact .inr ⟨k, j, w, hj, n1 _ hw⟩
    · rw [Int.min_eq_right e]
      obtain ⟨y, y1, y2, y3⟩ := hr.low5
      refine ⟨y, by rw [y1, q1'], ?_, (Con.one hinc ⟨hi, ?_⟩).trans (y3.mono fun j hjl hj => ⟨fun e => ?_, hj.2.elim (fun k => .inl (n2 _ k)) (fun k => .inr (n2 _ k))⟩)⟩
      · rcases y2 with k | ⟨k, j, w, hj, hw⟩
        · exact .inl (n2 _ k)
        · by_cases hys : Met s y
          · exact .inr ⟨hys, j, w, hj, n2 _ hw⟩
          · exact .inl ⟨(m3 y).2 (up y k), hys⟩
      · rcases hj.2 with k | k
        · exact k.2 (hbn j e _ _ (Inc.ends hjl))
        · exact k.2 (hbn j e _ _ (Inc.ends hjl).symm)
      · rcases hinc.2 with ⟨e1, _⟩ | ⟨e1, _⟩
        · exact .inl (by rw [e1]; exact n1 _ hxn)
        · exact .inr (by rw [e1]; exact n1 _ hxn)
  · rw [q4', hr.cuts, h.cuts, List.append_assoc, List.append_assoc]
  · rw [List.nodup_append]
    refine ⟨h.nd, ?_, fun a ha c hc e => ?_⟩
    · rw [List.nodup_append]
      refine ⟨hr.nd, by split <;> simp, fun a ha c hc e => ?_⟩
      subst e
      split at hc
      · simp only [List.mem_singleton] at hc
        subst hc
        obtain ⟨_, g1, g2, _⟩ := hr.good a ha
        rcases hinc.2 with ⟨e, _⟩ | ⟨e, _⟩
        · exact g1.2 (e ▸ hxt)
        · exact g2.2 (e ▸ hxt)
      · cases hc
    · subst e
      obtain ⟨_, g1, g2, _⟩ := h.good a ha
      rcases List.mem_append.1 hc with hc | hc
      · exact (hr.good a hc).2.1.2 g1.1
      · split at hc
        · simp only [List.mem_singleton] at hc
          subst hc
          rcases hinc.2 with ⟨_, e⟩ | ⟨_, e⟩
          · exact hz (e ▸ g2.1)
          · exact hz (e ▸ g1.1)
        · cases hc
  · rcases List.mem_append.1 hj with hj | hj
    · obtain ⟨g0, g1, g2, g3⟩ := h.good j hj
      exact ⟨g0, n1 _ g1, n1 _ g2, g3⟩
    · rcases List.mem_append.1 hj with hj | hj
      · obtain ⟨g0, g1, g2, g3⟩ := hr.good j hj
        exact ⟨g0, n2 _ g1, n2 _ g2, g3⟩
      · split at hj
        · rename_i hlt
          simp only [List.mem_singleton] at hj
          subst hj
          refine ⟨hinc.1, ?_, ?_, hbr hlt⟩
          · rcases hinc.2 with ⟨e, _⟩ | ⟨_, e⟩
            · rw [e]; exact n1 _ hxn
            · rw [e]; exact n2 _ hzn
          · rcases hinc.2 with ⟨_, e⟩ | ⟨e, _⟩
            · rw [e]; exact n2 _ hzn
            · rw [e]; exact n1 _ hxn
        · cases hj
  · rcases sp y hy with k | k
    · exact List.mem_append_left _ (h.all j y w k hyx hjw hbj)
    · refine List.mem_append_right _ ?_
      by_cases hji : j = i
      · subst hji
        refine List.mem_append_right _ ?_
        rw [if_pos (Classical.byContradiction fun e => hnb e hbj)]
        simp
      · exact List.mem_append_left _ (hr.all j y w k (by omega) hjw hbj)
theorem FI.end_ {N : Nat} {E : List Edg} {s t : BwS} {x : Nat} {b : Int} {K : List Nat} {D : Nat → Prop} {new : List Nat} (hs : BS N E K s) (hb : ByOk E K b x) (hxs : ¬ Met s x) (hlo : ∀ i, i < E.length → fN E i ≠ tN E i) (h : FI N E s x b D t new) (hD : ∀ i z, Inc E i x z → D i) : BR N E s t x b new := by
  have h0 := hs.ok.le.1
  have hxt := h.meX h0
  have hxn : Nw s t x := ⟨hxt, hxs⟩
  refine ⟨h.ok, h.old, hxt, by have := h.nw; omega, h.gt, h.le, fun y hy i z hi => ?_, fun i y z hy hib hi hz => ?_, h.low5, h.cuts, h.nd, h.good, fun i y z hy hib hi hbr => ?_⟩
  · by_cases hyx : y = x
    · subst hyx; exact h.dn i z (hD i z hi) hi
    · exact h.shut y hy hyx i z hi
  · by_cases hyx : y = x
    · subst hyx; exact h.low4 i y z hy (.inr ⟨hD i z hi, hib⟩) hi hz
    · exact h.low4 i y z hy (.inl hyx) hi hz
  · by_cases hyx : y = x
    · subst hyx
      have hzt := h.dn i z (hD i z hi) hi
      have hzy : z ≠ y := fun e => by
        subst e
        rcases hi.2 with ⟨e1, e2⟩ | ⟨e1, e2⟩
        · exact hlo i hi.1 (by rw [e1, e2])
        · exact hlo i hi.1 (by rw [e1, e2])
      by_cases hzs : Met s z
      · exfalso
        have hzK : z ∈ K := Classical.byContradiction fun e => hxs (hs.shut z hzs e i y hi.symm)
        rcases hb with ⟨rfl, _⟩ | ⟨v, K', k, rfl, e, hk⟩
        · cases hzK
        · refine Brg.not hi.symm ?_ hbr
          have h1 := (hs.top v rfl z hzK).2.mono (Q := fun j => j ≠ i) (fun j _ hj e => by
            subst e
            rcases hi.2 with ⟨e1, _⟩ | ⟨e1, _⟩
            · exact hxs (e1 ▸ hj.1)
            · exact hxs (e1 ▸ hj.2))
          exact h1.step hk (by omega)
      · exact h.all i z y ⟨hzt, hzs⟩ hzy hi.symm hbr
    · exact h.all i y z hy hyx hi hbr
def RecLaw (N : Nat) (E : List Edg) (n : Nat) (rec : Nat → Int → BwS → BwS) : Prop := ∀ K u b s, BS N E K s → u < N → ¬ Met s u → s.met.count 0 ≤ n → ByOk E K b u → ∃ new, BR N E s (rec u b s) u b new
theorem brP_law {N n : Nat} {E : List Edg} {rec : Nat → Int → BwS → BwS} (hE : InN N E) (hr : RecOk N n rec) (hl : RecLaw N E n rec) {s : BwS} {x : Nat} {b : Int} {K : List Nat} (hs : BS N E K s) (hb : ByOk E K b x) (hx : x < N) (hxs : ¬ Met s x) (back : Bool) : ∀ (p : List Nat) (D : Nat → Prop) (t : BwS) (new : List Nat), (∀ i ∈ p, i < E.length ∧ nN E back i = x) → FI N E s x b D t new → t.met.count 0 ≤ n →
    ∃ new', FI N E s x b (fun j => D j ∨ j ∈ p) (brP E rec x b back p t) new' ∧ (brP E rec x b back p t).met.count 0 ≤ t.met.count 0
  | [], D, t, new, _, h, hc => ⟨new, { h with dn := fun i z hi => h.dn i z (hi.elim id (fun e => by cases e)), low4 := fun i y z hy hor => h.low4 i y z hy (hor.elim .inl (fun e => .inr ⟨e.1.elim id (fun e => by cases e), e.2⟩)) }, Nat.le_refl _⟩
  | i :: p, D, t, new, hp, h, hc => by
    obtain ⟨hil, hie⟩ := hp i (by simp)
    have hz : oN E back i < N := oN_lt hE hil
    have hinc : Inc E i x (oN E back i) := by
      refine ⟨hil, ?_⟩
      cases back with
      | false => exact .inl ⟨hie, rfl⟩
      | true => exact .inr ⟨hie, rfl⟩
    have h0 := hs.ok.le.1
    obtain ⟨k1, k2⟩ := edge_ok hr h.ok hc (v := x) (i := i) b hz
    have hstep : ∃ new', FI N E s x b (fun j => D j ∨ j = i) (t.edge rec x b i (oN E back i)) new' := by
      revert k1
      unfold BwS.edge
      split
      · rename_i e
        exact fun _ => ⟨new, h.skip hs hb e⟩
      · rename_i e
        split
        · rename_i hm
          exact fun _ => ⟨new, h.seen hx hxs h0 e hinc hm⟩
        · rename_i hm
          obtain ⟨new1, hr1⟩ := hl (x :: K) (oN E back i) i t (h.bs hs hxs hb) hz hm hc (.inr ⟨x, K, i, rfl, rfl, hinc⟩)
          exact fun hok => ⟨_, h.call hs hb hx hxs e hinc hm hr1 hok⟩
    obtain ⟨new', h'⟩ := hstep
    obtain ⟨new2, h2, h3⟩ := brP_law hE hr hl hs hb hx hxs back p _ _ new' (fun j hj => hp j (by simp [hj])) h' (Nat.le_trans k2.cnt hc)
    refine ⟨new2, ?_, Nat.le_trans h3 k2.cnt⟩
    have e : (fun j => D j ∨ j ∈ i :: p) = (fun j => (D j ∨ j = i) ∨ j ∈ p) := by
      funext j
      simp only [List.mem_cons, or_assoc]
    rw [e]
    exact h2
theorem br_law {N : Nat} {E : List Edg} (hE : InN N E) (hlo : ∀ i, i < E.length → fN E i ≠ tN E i) : ∀ n, RecLaw N E n (br E n)
  | 0 => fun K u b s hs hu hm hc _ => by
    exfalso
    have hul : u < s.met.length := by rw [hs.ok.m]; exact hu
    have h0 : gi s.met u = 0 := by unfold Met at hm; have := hs.ok.pos u; omega
    have e0 : s.met[u] = 0 := by simpa [gi, hul] using h0
    have hpos : 0 < s.met.count 0 := List.count_pos_iff.2 (by rw [← e0]; exact List.getElem_mem _)
    omega
  | n + 1 => fun K u b s hs hu hm hc hb => by
    have ih := br_law hE hlo n
    have hok := br_ok hE n
    have h0 : gi s.met u = 0 := by unfold Met at hm; have := hs.ok.pos u; omega
    have hcn := (hs.ok.enter hu h0).2
    have hrow : ∀ back, ∀ i ∈ rowN (nN E back) E.length u, i < E.length ∧ nN E back i = u := fun back i hi => by simpa [rowN] using hi
    obtain ⟨n1, a1, a2⟩ := brP_law hE hok ih hs hb hu hm false _ _ (s.enter u) [] (hrow false) (FI.begin_ hs hu h0) (by omega)
    obtain ⟨n2, b1, b2⟩ := brP_law hE hok ih hs hb hu hm true _ _ _ n1 (hrow true) a1 (by omega)
    refine ⟨n2, b1.end_ hs hb hm hlo fun i z hi => ?_⟩
    rcases hi.2 with ⟨e, _⟩ | ⟨e, _⟩
    · refine .inl (.inr ?_)
      simp only [rowN, List.mem_filter, List.mem_range, beq_iff_eq]
      exact ⟨hi.1, e⟩
    · refine .inr ?_
      simp only [rowN, List.mem_filter, List.mem_range, beq_iff_eq]
      exact ⟨hi.1, e⟩
structure BA (N : Nat) (E : List Edg) (k : Nat) (s : BwS) : Prop where
  bs : BS N E [] s
  met : ∀ y, y < k → Met s y
  nd : s.cuts.Nodup
  good : ∀ i, i ∈ s.cuts → i < E.length ∧ Met s (fN E i) ∧ Met s (tN E i) ∧ Brg E i
  all : ∀ i y z, Met s y → Inc E i y z → Brg E i → i ∈ s.cuts
theorem brAll_law {N : Nat} {E : List Edg} (hE : InN N E) (hlo : ∀ i, i < E.length → fN E i ≠ tN E i) : ∀ k, k ≤ N → BA N E k (brAll E N k (brZero N))
  | 0, _ => by
    have hno : ∀ y, ¬ Met (brZero N) y := fun y hy => by
      have : gi (brZero N).met y = 0 := by
        unfold gi brZero
        by_cases h : y < N <;> simp [h]
      unfold Met at hy; omega
    refine ⟨⟨brZero_ok N, fun y => ?_, fun y hy => absurd hy (hno y), fun y hy => (by cases hy), fun v hv => (by cases hv)⟩, fun y hy => by omega, List.nodup_nil, fun i hi => (by cases hi), fun i y z hy => absurd hy (hno y)⟩
    show gi (brZero N).met y ≤ 0
    have := hno y
    unfold Met at this
    omega
  | k + 1, hk => by
    have h := brAll_law hE hlo k (by omega)
    unfold brAll
    split
    · rename_i h0
      have hm : ¬ Met (brAll E N k (brZero N)) k := by unfold Met; omega
      have hc : (brAll E N k (brZero N)).met.count 0 ≤ N := by
        have := List.count_le_length (a := (0 : Int)) (l := (brAll E N k (brZero N)).met)
        rw [h.bs.ok.m] at this
        exact this
      obtain ⟨new, hr⟩ := br_law hE hlo N [] k (-1) _ h.bs (by omega) hm hc (.inl ⟨rfl, rfl⟩)
      generalize brAll E N k (brZero N) = s at *
      generalize br E N k (-1) s = t at *
      have up : ∀ y, Met s y → Met t y := fun y hy => by unfold Met at hy ⊢; rw [(hr.old y hy).1]; exact hy
      refine ⟨⟨hr.ok, hr.le, fun y hy _ i z hi => ?_, fun y hy => (by cases hy), fun v hv => (by cases hv)⟩, fun y hy => ?_, ?_, fun i hi => ?_, fun i y z hy hi hbr => ?_⟩
      · by_cases hys : Met s y
        · exact up _ (h.bs.shut y hys (by simp) i z hi)
        · exact hr.shut y ⟨hy, hys⟩ i z hi
      · rcases Nat.lt_or_ge y k with e | e
        · exact up _ (h.met y e)
        · obtain rfl : y = k := by omega
          exact hr.me
      · rw [hr.cuts, List.nodup_append]
        refine ⟨h.nd, hr.nd, fun a ha c hc e => ?_⟩
        subst e
        exact (hr.good a hc).2.1.2 (h.good a ha).2.1
      · rw [hr.cuts] at hi
        rcases List.mem_append.1 hi with hi | hi
        · obtain ⟨g0, g1, g2, g3⟩ := h.good i hi
          exact ⟨g0, up _ g1, up _ g2, g3⟩
        · obtain ⟨g0, g1, g2, g3⟩ := hr.good i hi
          exact ⟨g0, g1.1, g2.1, g3⟩
      · rw [hr.cuts]
        by_cases hys : Met s y
        · exact List.mem_append_left _ (h.all i y z hys hi hbr)
        · exact List.mem_append_right _ (hr.all i y z ⟨hy, hys⟩ (by omega) hi hbr)
    · rename_i h0
      refine { h with met := fun y hy => ?_ }
      rcases Nat.lt_or_ge y k with e | e
      · exact h.met y e
      · obtain rfl : y = k := by omega
        unfold Met
        have := h.bs.ok.pos y
        omega
theorem cuts_are {N : Nat} {E : List Edg} (hE : InN N E) (hlo : ∀ i, i < E.length → fN E i ≠ tN E i) : (brAll E N N (brZero N)).cuts.Nodup ∧ ∀ i, i ∈ (brAll E N N (brZero N)).cuts ↔ i < E.length ∧ Brg E i := by
  have h := brAll_law hE hlo N (Nat.le_refl _)
  refine ⟨h.nd, fun i => ⟨fun hi => ⟨(h.good i hi).1, (h.good i hi).2.2.2⟩, fun ⟨hi, hb⟩ => h.all i _ _ (h.met _ (hE.f i hi).1) (Inc.ends hi) hb⟩⟩
end Go.Proofs.Ytomednfddpggaaa

/- Plain law: what the walk tells is what the document's answer counts. -/
namespace Go.Proofs.Ytomednfddpggaaa
open Go Go.RowKit
theorem srt_filter {l : List Int} {n : Nat} (p : Nat → Bool) (hn : l.Nodup) (hm : ∀ x, x ∈ l ↔ ∃ i, i < n ∧ p i = true ∧ x = (i : Int)) : srtV l = ((List.range n).filter p).map fun (i : Nat) => (i : Int) := by
  have hs : (srtV l).Pairwise (· ≤ ·) := by
    have := List.pairwise_mergeSort (le := fun x y : Int => decide (x ≤ y)) (fun a b c h1 h2 => by simp at *; omega) (fun a b => by simp; omega) l
    exact this.imp fun h => by simpa using h
  have hp : (srtV l).Perm l := List.mergeSort_perm _ _
  have hs2 : (((List.range n).filter p).map fun (i : Nat) => (i : Int)).Pairwise (· ≤ ·) := by
    refine List.Pairwise.map _ (R := fun a b : Nat => a < b) (fun a b (h : a < b) => by omega) (List.Pairwise.filter _ List.pairwise_lt_range)
  have hn2 : (((List.range n).filter p).map fun (i : Nat) => (i : Int)).Nodup := List.Pairwise.map _ (fun (a b : Nat) (e : a ≠ b) => (by omega : (a : Int) ≠ (b : Int))) (List.Pairwise.filter _ List.nodup_range)
  refine List.Perm.eq_of_pairwise (le := (· ≤ ·)) (fun a b _ _ h1 h2 => Int.le_antisymm h1 h2) hs hs2 ?_
  refine (List.perm_ext_iff_of_nodup (hp.nodup_iff.2 hn) hn2).2 fun x => ?_
  rw [hp.mem_iff, hm]
  constructor
  · rintro ⟨i, h1, h2, rfl⟩
    exact List.mem_map.2 ⟨i, List.mem_filter.2 ⟨List.mem_range.2 h1, h2⟩, rfl⟩
  · intro h
    obtain ⟨i, h1, rfl⟩ := List.mem_map.1 h
    obtain ⟨h2, h3⟩ := List.mem_filter.1 h1
    exact ⟨i, List.mem_range.1 h2, h3, rfl⟩
def moreB (N : Nat) (E : List Edg) (e : Nat) : Bool := decide ((fsts (weakL N E) N).length < (fsts (weakL N (E.eraseIdx e)) N).length)
theorem cutsL_is {N : Nat} {E : List Edg} (hE : InN N E) (hlo : ∀ i, i < E.length → fN E i ≠ tN E i) : cutsL N E = ((List.range E.length).filter (moreB N E)).map fun (i : Nat) => (i : Int) := by
  obtain ⟨h1, h2⟩ := cuts_are hE hlo
  refine srt_filter _ (List.Pairwise.map _ (fun (a b : Nat) (e : a ≠ b) => (by omega : (a : Int) ≠ (b : Int))) h1) fun x => ?_
  rw [List.mem_map]
  constructor
  · rintro ⟨i, hi, rfl⟩
    obtain ⟨h3, h4⟩ := (h2 i).1 hi
    exact ⟨i, h3, decide_eq_true ((more_parts hE h3).2 h4), rfl⟩
  · rintro ⟨i, h3, h4, rfl⟩
    exact ⟨i, (h2 i).2 ⟨h3, (more_parts hE h3).1 (of_decide_eq_true h4)⟩, rfl⟩
end Go.Proofs.Ytomednfddpggaaa
