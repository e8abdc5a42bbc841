/- Contracts: the values of a row, collected in a new row (slices.Collect of slices.Values), sorted (slices.Sorted). -/
import Derived.Test.YtomednfddpggaaaGreatQStatFar23
import Derived.Test.YtomednfddpggaaaGreatQStatFar10
import Derived.Shelf.SortM.Plain
import Derived.Shelf.SortM.SortNone
import Derived.Sort.OwnSortedInts
import Derived.Test.YtomednfddpggaaaGreatQStatFar16
import Derived.Lib.SlicesCompact
import Derived.Test.YtomednfddpggaaaGreatQStatFar21
import Derived.Shelf.Slices.CompactI
import Derived.Test.YtomednfddpggaaaGreatQStatFar09
import Derived.Test.YtomednfddpggaaaGreatQStatFar05
import Derived.Test.YtomednfddpggaaaGreatQStatFar00
import Derived.Test.YtomednfddpggaaaGreatQStatFar02
/- Contracts: the values of a row, collected in a new row (slices.Collect of slices.Values), sorted (slices.Sorted). -/
namespace Go.Proofs.YtomednfddpggaaaGreat
open Go Go.RowKit
attribute [local go_sem] Oper.semAt_some
section
variable {F : Fence} {m : Nat} {w : World} {e : TypeId} {ops : Array Oper} {rest : List Oper} {o : Oper} {a : Act} {Q : Exit → Act → World → Prop}
theorem wp_appV {t : TypeId} (E : Elem t e 1) (hgd : o.guard = none) (s x : Operand) (ho : o.op = .call { callee := .builtin .append, args := #[s, x], argTypes := #[t, t] })
    (lo : Nat) (hlo : lo ≤ w.heap.size) (n c : Nat) (A : Option Addr) (xs : List Value) (hs : a.eval s = .slice A n c) (hown : Own w lo e 1 A n c xs) (g c' : Nat) (v : Value) (hx : a.eval x = .slice (some ⟨g, 0, none⟩) 1 c')
    (hv : Holds w ⟨g, 0, none⟩ v) (h1 : v.oneCell' = true) (hnm : n + 1 ≤ 1000000000000)
    (h : ∀ A' c'' w', Own w' lo e 1 A' (n + 1) c'' (xs ++ [v]) → Touch (fun k => ∃ p, A = some p ∧ p.block = k) w w' → (∀ p, A' = some p → (∃ q, A = some q ∧ q.block = p.block) ∨ New w w' p.block) → wpListIn F m Tryz.prog ops Q rest (a.put o.dst (.slice A' (n + 1) c'')) w') :
    wpListIn F m Tryz.prog ops Q (o :: rest) a w := by
  obtain ⟨i, z, bytes, hi, hz, hsz, hby, hzs, hb64⟩ := E.info
  refine wpListIn_plain hgd fun K hK' => ?_
  obtain ⟨v', w', hr, hown', hgr, _, hat⟩ := run_append_own_at (P := Tryz.prog) w lo t o.type e i z 1 bytes E.under hi hz hsz hby hzs E.pos (.slice A n c) n xs hown ⟨g, 0, none⟩ 1 c' [v] rfl (fun j u hu => by
    have hj : j = 0 := by
      have := (List.getElem?_eq_some_iff.1 hu).1
      simpa using this
    subst hj
    simp at hu
    subst hu
    simpa [Addr.add] using hv.cell) (by intro u hu; simp at hu; rw [hu]; exact h1) (by unfold maxLen; omega) (Nat.le_trans (Nat.mul_le_mul hnm hb64) (by omega)) hlo
  obtain ⟨A', c'', rfl⟩ := own_form hown'
  have ht : Touch (fun k => ∃ p, A = some p ∧ p.block = k) w w' := (Touch.refl _ w).grown hgr fun k hk => .inl (by
    cases A with
    | none => simp [Value.ownBlock] at hk
    | some p => simp [Value.ownBlock] at hk; exact ⟨p, rfl, hk⟩)
  have hloc : ∀ p, A' = some p → (∃ q, A = some q ∧ q.block = p.block) ∨ New w w' p.block := fun p hp => by
    have hlt := (hown'.lt p.block (by subst hp; rfl)).2
    subst hp
    simp only [Value.ownBlock] at hat
    rcases hat with hat | hat
    · left
      cases A with
      | none => simp at hat
      | some q => exact ⟨q, rfl, by simpa using hat.symm⟩
    · right
      have e9 : p.block = w.heap.size := by simpa using hat
      exact ⟨Nat.le_of_eq e9.symm, hlt⟩
  unfold Oper.wpIn
  refine ⟨?_, ?_⟩
  · simp [Oper.about, ho, resolve, Target.leads, Sem.run_pure]
  · rw [Oper.semAt_plain F _ _ (by rw [ho]; intro c hc'; cases hc')]
    simp [execOp, ho, resolve, invoke, builtin, hs, hx, hr, Result.andThen]
    exact hK' _ _ (h A' c'' w' hown' ht hloc)
end
theorem Own.inB {w : World} {B n c size : Nat} {e : TypeId} {A : Option Addr} {xs : List Value} (h : Own w B e size A n c xs) : ∀ p, A = some p → B ≤ p.block ∧ p.block < w.heap.size := fun p hp => World.ownsRow.lt h p.block (by subst hp; rfl)
def ApI (w : World) (lo b2 : Nat) (p : List Int) (Mi : Nat → Prop) (W : World) : Prop :=
  ∃ A c, (∃ y : Later w, W = y.now) ∧ Arr W b2 36 [.slice A p.length c] ∧ Own W lo 3 1 A p.length c (p.map (.int .i64)) ∧ (∀ q, A = some q → ¬ Mi q.block) ∧ (∀ k, Mi k → lo ≤ k ∧ k < W.heap.size) ∧ lo ≤ W.heap.size
theorem ApI.yields {w : World} {lo b2 : Nat} (h1 : b2 < lo) (hlo : w.heap.size ≤ lo) : Yields' (ApI w lo b2) := by
  rintro p Mi W Mi' W' ⟨A, c, ⟨y, rfl⟩, a1, a2, a3, a4, a5⟩ ht hM'
  refine ⟨A, c, ⟨⟨W', ht.later y.grows (fun k hk => Nat.le_trans hlo (a4 k hk).1)⟩, rfl⟩, a1.touch ht (fun e => by have := (a4 _ e).1; omega), a2.touch ht a3, fun q hq e => ?_, fun k hk => ?_, Nat.le_trans a5 ht.size⟩
  · rcases (hM' _ e).1 with h | h
    · exact a3 q hq h
    · have := (a2.inB q hq).2; omega
  · obtain ⟨h | h, h'⟩ := hM' k hk
    · exact ⟨(a4 k h).1, h'⟩
    · exact ⟨by omega, h'⟩
def FrameAp (b2 : Nat) (x : Int) (a' : Act) : Prop := ∃ u0 u1 u3 u4 u6 u7 u8 u9 u10 u11 u12 : Value, a' = { tmps := #[u0, u1, .pointer (some ⟨b2, 0, none⟩), u3, u4, .int .i64 x, u6, u7, u8, u9, u10, u11, u12], defers := [] }
def ApB (w : World) (lo b2 : Nat) (x : Int) (a' : Act) (p : List Int) (Mi : Nat → Prop) (W : World) : Prop := FrameAp b2 x a' ∧ ApI w lo b2 p Mi W
set_option maxRecDepth 40000 in
set_option maxHeartbeats 8000000 in
theorem appendSeqI (bm : Nat) (A : Option Addr) (c : Nat) (l : List Int) (w : World) (h : Rd w A 1 l.length (l.map (.int .i64))) (hA : 0 < l.length → ∀ p, A = some p → p.block < w.heap.size) (hb : Arr w bm 36 [.slice A l.length c]) (hl : l.length ≤ 1000000) :
    Calls Tryz.prog 160 #[.slice none 0 0, .func (.func 150) #[] #[.pointer (some ⟨bm, 0, none⟩)]] w fun e w' =>
      ∃ A' c', e = .returned (.slice A' l.length c') ∧ Own w' w.heap.size 3 1 A' l.length c' (l.map (.int .i64)) ∧ Grows w w' := by
  have HR := hide h
  have HAL := hide hA
  have hbl := hb.lt
  have HB := hide hb
  clear h hA hb
  refine calls_of_marks Tryz.func160 rfl ?_
  simp only [Tryz.ntmps160, List.size_toArray, List.length_cons, List.length_nil, Nat.reduceAdd, Nat.reduceSub, Array.replicate_succ, Array.replicate_zero, List.push_toArray, List.append_toArray, List.nil_append, List.cons_append]
  go_upto_region 1 with fail
  have q2 : Arr (w.alloc (.cells #[.slice none 0 0] 36)) w.heap.size 36 [.slice none 0 0] := Arr.make _ _ _
  have hgw : Grows w (w.alloc (.cells #[.slice none 0 0] 36)) := (Grows.refl _).new _
  have hz0 : (w.alloc (.cells #[.slice none 0 0] 36)).heap.size = w.heap.size + 1 := by simp
  generalize (w.alloc (.cells #[.slice none 0 0] 36)) = W0 at *
  have HB0 := hide (HB.out.grow hgw)
  have HR0 := hide (HR.out.grows hgw)
  have HAW := hide (show 0 < l.length → ∀ p, A = some p → p.block < w.heap.size from HAL.out)
  clear HB HR HAL
  obtain ⟨b2, hb2⟩ : ∃ b, b = w.heap.size := ⟨_, rfl⟩
  rw [← hb2] at q2 hz0
  rw [← hb2]
  have h0 : ApI w W0.heap.size b2 [] (fun _ => False) W0 := ⟨none, 0, ⟨⟨W0, hgw⟩, rfl⟩, q2, Own.nil _ _ _ _, fun q hq => (by cases hq), fun k hk => hk.elim, Nat.le_refl _⟩
  have hIy := ApI.yields (w := w) (lo := W0.heap.size) (b2 := b2) (by omega) (by omega)
  have hsz0 : w.heap.size ≤ W0.heap.size := by omega
  have g2 : w.heap.size ≤ b2 := by omega
  clear hb2
  have H0 := hide h0
  clear h0 q2
  go_wp2_with fail
  refine (wpIn_wide (n := 0)).1 ?_
  refine wp_rangeG (w0 := W0) (gf := 150) rfl (enters_of Tryz.func150 (by kernel_rfl) rfl)
    (valI_gives (fun k => k < w.heap.size) (fun _ => False) bm A c l W0 hl HR0.out (fun hn p hp => .inl (HAW.out hn p hp)) HB0.out (.inl (by omega)) (fun k hk => hk.elim))
    (Keeps.refl _ _ _) (fun k hk => by omega) (fun k hk => hk.elim) (fun _ => rfl)
    (ApI w W0.heap.size b2) (fun _ _ _ _ => False) hIy (fun c _ _ _ _ _ h _ _ => h.elim) H0.out (ApB w W0.heap.size b2) ?hIb ?assign ?body ?done ?stop
  case hIb =>
    rintro x a' p Mi W1 Mi' W' ⟨hf, hI⟩ ht hM'
    exact ⟨hf, hIy p Mi W1 Mi' W' hI ht hM'⟩
  case assign =>
    intro l2 p x rest Mi W1 hsp hI
    have HI := hide hI
    clear hI
    unfold encI
    gi_wp2
    refine ⟨⟨?_, HI.out⟩, Keeps.refl _ _ _⟩
    unfold FrameAp
    (repeat apply Exists.intro)
    rfl
  case body =>
    rintro l2 p x rest Mi a' W1 hsp hl2 hMl hrec ⟨⟨u0, u1, u3, u4, u6, u7, u8, u9, u10, u11, u12, rfl⟩, ⟨A9, c9, ⟨y, rfl⟩, q6, ho, hnM, hm, hlo⟩⟩
    have hpl : p.length < 1000000 := by
      rw [hsp] at hl
      simp at hl
      omega
    have HO := hide ho
    have HNM := hide hnM
    have HMM := hide hm
    clear hsp hl2 hMl hrec hm hIy ho hnM HR0 HB0 HAW H0
    have HNB : Hid (∀ q, A9 = some q → q.block ≠ b2) := fun q hq => HO.out.not_arr q6 (by decide) q hq
    have hyo : W0.heap.size ≤ (y.now.alloc (.cells #[.int .i64 x] 3)).heap.size := by simp; omega
    gi_wp2_with (refine wp_appV elemInt rfl _ _ rfl W0.heap.size hyo p.length c9 A9 _ rfl (HO.out.new _) _ _ _ rfl inferInstance rfl (by omega) ?_; intro A3 c3 w3 ho3 ht3 hn3; have q63 : Arr w3 b2 36 [.slice A9 p.length c9] := (q6.grow ((Grows.refl _).new _)).touch ht3 (fun e => by obtain ⟨q, hq, e2⟩ := e; exact HNB.out q hq e2); have HO3 := hide ho3; have HT3 := hide ht3; have HN3 := hide hn3; clear ho3 ht3 hn3)
    have htt : Touch (fun k => ¬ ((k < w.heap.size) ∨ Mi k)) y.now w3 := Touch.trans2 (((Grows.refl y.now).new _).touch _) HT3.out (fun k hk => by
      obtain ⟨q, hq, e2⟩ := hk
      have h1 := (HO.out.inB q hq).1
      refine .inl (fun e => ?_)
      rcases e with e | e
      · omega
      · exact HNM.out q hq (by rw [e2]; exact e))
    have hsz3 := htt.size
    have hyg3 : Grows w w3 := htt.later y.grows (fun k hk => by
      rcases Nat.lt_or_ge k w.heap.size with h | h
      · exact absurd (.inl h) hk
      · exact h)
    have hb6n : ¬ ((b2 < w.heap.size) ∨ Mi b2) := fun e => by
      rcases e with e | e
      · omega
      · have := (HMM.out _ e).1; omega
    refine ⟨htt.set (.inl hb6n) _, A3, c3, ⟨⟨_, hyg3.set g2 _⟩, rfl⟩, ?_, ?_, fun q hq e => ?_, fun k hk => ?_, ?_⟩
    · have := q63.set 0 (.slice A3 (p.length + 1) c3)
      rw [List.length_append, List.length_singleton]
      exact this
    · rw [List.length_append, List.length_singleton, List.map_append]
      exact HO3.out.low (q := ⟨b2, 0, none⟩) (by show b2 < _; omega) _
    · rcases HN3.out q hq with ⟨q2, hq2, e2⟩ | hnew
      · exact HNM.out q2 hq2 (by rw [e2]; exact e)
      · have h1 := (HMM.out _ e).2
        have h2 := hnew.1
        simp at h2
        omega
    · rw [size_setCell]
      have := HMM.out k hk
      exact ⟨this.1, by omega⟩
    · rw [size_setCell]; omega
  case done =>
    intro D Mi W1 hlD hMD hI hDW
    obtain ⟨A9, c9, ⟨y, rfl⟩, q6, ho, hnM, hm, hlo⟩ := hI
    have HO := hide (ho.base (B' := w.heap.size) hsz0)
    have HDW := hide hDW
    have HNB : Hid (∀ q, A9 = some q → q.block ≠ D) := fun q hq e => hnM q hq (by rw [e]; exact hMD)
    clear hm hDW hIy ho hnM HR0 HB0 HAW H0
    gi_wp2
    go_wp2_with fail
    refine marks_end [D] rfl ((Marks.nil _).cons HDW.out (by simp)) (fun W' htt => ?_)
    refine ⟨.slice A9 l.length c9, by simp (maxDischargeDepth := 6) [results, Tryz.results160, go_sem], A9, c9, rfl, ?_, htt.later y.grows (fun k hk => by rw [List.mem_singleton.1 hk]; omega)⟩
    exact HO.out.touch htt (fun q hq e => HNB.out q hq (List.mem_singleton.1 e))
  case stop =>
    intro D c' p i rest Mi W1 _ _ _ h _
    exact h.elim
theorem collectI (bm : Nat) (A : Option Addr) (c : Nat) (l : List Int) (w : World) (h : Rd w A 1 l.length (l.map (.int .i64))) (hA : 0 < l.length → ∀ p, A = some p → p.block < w.heap.size) (hb : Arr w bm 36 [.slice A l.length c]) (hl : l.length ≤ 1000000) :
    Calls Tryz.prog 149 #[.func (.func 150) #[] #[.pointer (some ⟨bm, 0, none⟩)]] w fun e w' =>
      ∃ A' c', e = .returned (.slice A' l.length c') ∧ Own w' w.heap.size 3 1 A' l.length c' (l.map (.int .i64)) ∧ Grows w w' := by
  have C := hide (appendSeqI bm A c l w h hA hb hl)
  clear h hA hb
  go_enter Tryz.func149, Tryz.ntmps149
  go_wp2_with (go_at_call 160; refine C.out.mono ?_; rintro e w' ⟨A', c', rfl, ho, hg⟩; have HO := hide ho; have HG := hide hg; clear ho hg)
  go_ret
  exact ⟨A', c', rfl, HO.out, HG.out⟩
def srtV (xs : List Int) : List Int := xs.mergeSort fun x y => decide (x ≤ y)
theorem srtV_len (xs : List Int) : (srtV xs).length = xs.length := List.length_mergeSort _
theorem sortOwnV (B : Nat) (w : World) (A : Option Addr) (n c : Nat) (xs : List Int) (ho : Own w B 3 1 A n c (xs.map (.int .i64))) (hn : n ≤ 1000000) :
    Calls Tryz.prog 44 #[.slice A n c] w fun e w' => e = .returned (.tuple #[]) ∧ Touch (fun k => ∃ p, A = some p ∧ p.block = k) w w' ∧ Own w' B 3 1 A n c ((srtV xs).map (.int .i64)) := by
  have hl : xs.length = n := by simpa using ho.len
  rcases Nat.eq_zero_or_pos n with h0 | h0
  · subst h0
    have hx : xs = [] := List.eq_nil_of_length_eq_zero hl
    subst hx
    refine (AnyM.slices_Sort_int_none Tryz.sortA A c w).mono ?_
    rintro e w' ⟨rfl, rfl⟩
    exact ⟨rfl, Touch.refl _ _, by simpa [srtV] using ho⟩
  · obtain ⟨g, cur, rfl, hB, hh, hc, hs, ht⟩ := ho.at_ h0
    have hm : c ≤ maxLen := by
      rcases ho.2 with ⟨h1, _⟩ | ⟨g2, cap, cur2, h1, _, _, _, h5, _⟩
      · cases h1
      · injection h1 with _ _ h7; subst h7; exact h5
    subst hl
    have hH := holds_of_blockI (ss := xs) hh (by rw [Nat.mul_one] at ht; exact ht)
    refine (AnyM.slices_Sort_int Tryz.sortA g 0 c xs w hH (Array.getElem?_eq_some_iff.1 hh).1 (by omega)).mono ?_
    rintro e w' ⟨rfl, k, os, rfl⟩
    have hg1 := grownBy_sortedI (w := w) (g := g) (n := k) (os := os) (srtV xs).toArray
    have ho1 := ownsRow_sortedI (w := w) (base := B) (g := g) (n := k) (cap := c) (os := os) (ss := xs) (ts := srtV xs) (srtV_len xs) hB hh hc hm hs
    exact ⟨rfl, (Touch.refl _ w).grown hg1 (fun k hk => .inl ⟨_, rfl, by simpa using hk⟩), ho1⟩
theorem sortedI (bm : Nat) (A : Option Addr) (c : Nat) (l : List Int) (w : World) (h : Rd w A 1 l.length (l.map (.int .i64))) (hA : 0 < l.length → ∀ p, A = some p → p.block < w.heap.size) (hb : Arr w bm 36 [.slice A l.length c]) (hl : l.length ≤ 1000000) :
    Calls Tryz.prog 120 #[.func (.func 150) #[] #[.pointer (some ⟨bm, 0, none⟩)]] w fun e w' =>
      ∃ A' c', e = .returned (.slice A' l.length c') ∧ Own w' w.heap.size 3 1 A' l.length c' ((srtV l).map (.int .i64)) ∧ Grows w w' := by
  have C := hide (collectI bm A c l w h hA hb hl)
  clear h hA hb
  go_enter Tryz.func120, Tryz.ntmps120
  go_wp2_with (go_at_call 149; refine C.out.mono ?_; rintro e w1 ⟨A', c', rfl, ho, hg⟩; have CS := hide (sortOwnV w.heap.size w1 A' l.length c' l ho hl); have HO := hide ho; have HG := hide hg; clear ho hg)
  refine CS.out.mono ?_
  rintro e w2 ⟨rfl, ht, ho2⟩
  have HG2 := hide (ht.later HG.out (fun k hk => by
    obtain ⟨p, hp, rfl⟩ := hk
    exact (HO.out.inB p hp).1))
  have HO2 := hide ho2
  clear ht ho2
  go_wp2_with fail
  go_ret
  exact ⟨A', c', rfl, HO2.out, HG2.out⟩
end Go.Proofs.YtomednfddpggaaaGreat

/- How many unlike numbers there are, and which is there most often (plain). -/
namespace Go.Proofs.YtomednfddpggaaaGreat
open Go Go.RowKit
open Lib in
theorem compactUpTo_is (zs : List Int) (hs : zs.Pairwise (· ≤ ·)) : ∀ m, m ≤ zs.length → (compactUpTo zs.toArray m).Nodup ∧ ∀ x, x ∈ compactUpTo zs.toArray m ↔ x ∈ zs.take m
  | 0, _ => by simp [compactUpTo]
  | m + 1, hm => by
    obtain ⟨h1, h2⟩ := compactUpTo_is zs hs m (by omega)
    have h3 := take_mem1 (l := zs) (k := m) (by omega)
    have e1 : zs.toArray[m]! = gi zs m := by simp [gi, show m < zs.length by omega]
    rw [compactUpTo_succ]
    by_cases hk : keeps zs.toArray m = true
    · rw [if_pos hk, e1]
      have hnew : gi zs m ∉ zs.take m := by
        intro hx
        obtain ⟨j, hj, e⟩ := List.getElem_of_mem hx
        rw [List.length_take] at hj
        have hjm : j < m := by omega
        have e2 : zs[j]'(by omega) = gi zs m := by rw [← e]; simp
        unfold keeps at hk
        rw [decide_eq_true_eq] at hk
        rcases hk with hk | hk
        · omega
        · have e3 : zs.toArray[m - 1]! = zs[m - 1]'(by omega) := by simp [show m - 1 < zs.length by omega]
          rw [e1, e3] at hk
          have hle : zs[j]'(by omega) ≤ zs[m - 1]'(by omega) := by
            rcases Nat.lt_or_ge j (m - 1) with h | h
            · exact List.pairwise_iff_getElem.1 hs j (m - 1) (by omega) (by omega) h
            · have : j = m - 1 := by omega
              subst this
              exact Int.le_refl _
          have hle2 : zs[m - 1]'(by omega) ≤ zs[m]'(by omega) := List.pairwise_iff_getElem.1 hs (m - 1) m (by omega) (by omega) (by omega)
          have e4 : gi zs m = zs[m]'(by omega) := by simp [gi, show m < zs.length by omega]
          rw [e2] at hle
          rw [e4] at hle hk
          omega
      refine ⟨?_, fun x => ?_⟩
      · rw [List.nodup_append]
        refine ⟨h1, by simp, fun a ha b hb e => ?_⟩
        simp only [List.mem_singleton] at hb
        subst hb e
        exact hnew ((h2 _).1 ha)
      · rw [List.mem_append, h2, h3, List.mem_singleton]
    · rw [if_neg hk, List.append_nil]
      refine ⟨h1, fun x => ?_⟩
      rw [h2, h3]
      refine ⟨.inl, fun e => e.elim id (fun e => ?_)⟩
      have hk2 : ¬ (m = 0 ∨ zs.toArray[m]! ≠ zs.toArray[m - 1]!) := by
        intro h
        exact hk (by unfold keeps; exact decide_eq_true h)
      have hm0 : m ≠ 0 := fun h => hk2 (.inl h)
      have e5 : zs.toArray[m]! = zs.toArray[m - 1]! := Classical.byContradiction fun h => hk2 (.inr h)
      have e3 : zs.toArray[m - 1]! = zs[m - 1]'(by omega) := by simp [show m - 1 < zs.length by omega]
      rw [e1, e3] at e5
      rw [e, e5]
      exact List.mem_iff_getElem.2 ⟨m - 1, by simp; omega, by simp⟩
theorem counts_is (l : List Int) : (Lib.compact (srtV l)).length = (fsts l l.length).length := by
  have hs : (srtV l).Pairwise (· ≤ ·) := by
    have := List.pairwise_mergeSort (le := fun x y : Int => decide (x ≤ y)) (fun a b c h1 h2 => by simp at *; omega) (fun a b => by simp; omega) l
    exact this.imp fun h => by simpa using h
  have h1 := compactUpTo_is (srtV l) hs (srtV l).length (Nat.le_refl _)
  have h2 := fsts_is l l.length (Nat.le_refl _)
  refine len_eq_of_mem h1.1 h2.1 fun x => ?_
  show x ∈ Lib.compactUpTo (srtV l).toArray (srtV l).length ↔ _
  rw [h1.2, h2.2, List.take_length, List.take_length]
  exact List.mem_mergeSort
def IsBest (f : Int → Nat) (S : Int → Prop) (b : Int) (m : Nat) : Prop := ((∀ x, ¬ S x) ∧ b = 0 ∧ m = 0) ∨ (S b ∧ f b = m ∧ ∀ x, S x → f x < m ∨ (f x = m ∧ b ≤ x))
theorem IsBest.none (f : Int → Nat) {S : Int → Prop} (h : ∀ x, ¬ S x) : IsBest f S 0 0 := .inl ⟨h, rfl, rfl⟩
theorem IsBest.congr {f : Int → Nat} {S S' : Int → Prop} {b : Int} {m : Nat} (h : IsBest f S b m) (e : ∀ x, S x ↔ S' x) : IsBest f S' b m := by
  rcases h with ⟨h1, h2⟩ | ⟨h1, h2, h3⟩
  · exact .inl ⟨fun x hx => h1 x ((e x).2 hx), h2⟩
  · exact .inr ⟨(e b).1 h1, h2, fun x hx => h3 x ((e x).2 hx)⟩
theorem IsBest.yes {f : Int → Nat} {S : Int → Prop} {b x : Int} {m : Nat} (h : IsBest f S b m) (hx : m < f x ∨ (f x = m ∧ x < b)) (h0 : 0 < f x) : IsBest f (fun z => S z ∨ z = x) x (f x) := by
  refine .inr ⟨.inr rfl, rfl, fun z hz => ?_⟩
  rcases hz with hz | rfl
  · rcases h with ⟨h1, _⟩ | ⟨h1, h2, h3⟩
    · exact absurd hz (h1 z)
    · rcases h3 z hz with h4 | h4 <;> omega
  · exact .inr ⟨rfl, Int.le_refl _⟩
theorem IsBest.no {f : Int → Nat} {S : Int → Prop} {b x : Int} {m : Nat} (h : IsBest f S b m) (hx : ¬ (m < f x ∨ (f x = m ∧ x < b))) (h0 : 0 < f x) : IsBest f (fun z => S z ∨ z = x) b m := by
  rcases h with ⟨h1, h2, h3⟩ | ⟨h1, h2, h3⟩
  · exact absurd (.inl (by omega)) hx
  · refine .inr ⟨.inl h1, h2, fun z hz => ?_⟩
    rcases hz with hz | rfl
    · exact h3 z hz
    · omega
theorem IsBest.uniq {f : Int → Nat} {S : Int → Prop} {b b' : Int} {m m' : Nat} (h : IsBest f S b m) (k : IsBest f S b' m') : b = b' ∧ m = m' := by
  rcases h with ⟨h1, h2, h3⟩ | ⟨h1, h2, h3⟩
  · rcases k with ⟨k1, k2, k3⟩ | ⟨k1, _⟩
    · exact ⟨by rw [h2, k2], by rw [h3, k3]⟩
    · exact absurd k1 (h1 _)
  · rcases k with ⟨k1, _⟩ | ⟨k1, k2, k3⟩
    · exact absurd h1 (k1 _)
    · have a := h3 _ k1
      have c := k3 _ h1
      omega
end Go.Proofs.YtomednfddpggaaaGreat

/- Contracts: how many unlike numbers there are, by the program; are two rows of truths the same? -/
namespace Go.Proofs.YtomednfddpggaaaGreat
open Go Go.RowKit
attribute [local go_sem] Oper.semAt_some
theorem compactI (B : Nat) (w : World) (A : Option Addr) (c : Nat) (zs : List Int) (hB : B ≤ w.heap.size) (ho : Own w B 3 1 A zs.length c (zs.map (.int .i64))) (hn : zs.length ≤ 1000000) (w0 : World) (hg : Grows w0 w) (hB0 : w0.heap.size ≤ B) :
    Calls Tryz.prog 122 #[.slice A zs.length c] w fun e w' => e = .returned (.slice A (Lib.compact zs).length c) ∧ Grows w0 w' := by
  rcases Nat.eq_zero_or_pos zs.length with h0 | h0
  · have hx : zs = [] := List.eq_nil_of_length_eq_zero h0
    subst hx
    refine (Any.slices_Compact_int_empty Tryz.lays20 A c w).mono ?_
    rintro e w' ⟨rfl, rfl⟩
    exact ⟨rfl, hg⟩
  · obtain ⟨g, cur, rfl, hBg, hh, hc, hs, ht⟩ := ho.at_ h0
    have hH := holds_of_blockI (ss := zs) hh (by rw [Nat.mul_one] at ht; exact ht)
    refine (Any.slices_Compact_int Tryz.lays20 g 0 c zs w hH (by omega) hc).mono ?_
    rintro e w' ⟨rfl, q, rfl⟩
    have hg1 := grownBy_sortedI (w := w) (g := g) (n := q) (os := #[]) (Lib.compact zs ++ List.replicate (zs.length - (Lib.compact zs).length) 0).toArray
    rw [Go.Sort.grow_empty] at hg1
    exact ⟨rfl, ((Touch.refl (fun k => k = g) w).grown hg1 (fun k hk => .inl (by simpa using hk.symm))).later hg (fun k hk => by rw [hk]; omega)⟩
set_option maxRecDepth 20000 in
set_option maxHeartbeats 2000000 in
theorem paCount (A : Option Addr) (c : Nat) (l : List Int) (w : World) (h : Rd w A 1 l.length (l.map (.int .i64))) (hA : 0 < l.length → ∀ p, A = some p → p.block < w.heap.size) (hl : l.length ≤ 1000000) :
    Calls Tryz.prog 80 #[.slice A l.length c] w fun e w' => e = .returned (.int .i64 (((fsts l l.length).length : Nat) : Int)) ∧ Grows w w' := by
  have CV := hide (fun (W : World) => valuesI A l.length c W)
  have hg1 : Grows w (w.alloc (.cells #[.slice A l.length c] 36)) := (Grows.refl w).new _
  have CS := hide (sortedI w.heap.size A c l _ (h.grows hg1) (fun hn p hp => Nat.lt_of_lt_of_le (hA hn p hp) hg1.size) (Arr.make w _ _) hl)
  have HG1 := hide hg1
  have HCN := hide (counts_is l)
  have hlb : (Lib.compact (srtV l)).length ≤ 1000000 := by
    rw [counts_is]
    have h1 := len_le_of_sub (fsts l l.length) l (fsts_is l l.length (Nat.le_refl _)).1 (fun x hx => by have := ((fsts_is l l.length (Nat.le_refl _)).2 x).1 hx; rwa [List.take_length] at this)
    omega
  clear h hA hg1
  go_enter Tryz.func80, Tryz.ntmps80
  go_wp2_with (first
    | (go_at_call 121; refine (CV.out _).mono ?_; rintro e w' ⟨rfl, rfl⟩)
    | (go_at_call 120; refine CS.out.mono ?_; rintro e w1 ⟨A1, c1, rfl, ho, hg⟩; have CC := hide (compactI (w.alloc (.cells #[.slice A l.length c] 36)).heap.size w1 A1 c1 (srtV l) hg.size (by rw [srtV_len]; exact ho) (by rw [srtV_len]; exact hl) w (HG1.out.trans hg) HG1.out.size); rw [srtV_len] at CC; clear ho hg))
  refine CC.out.mono ?_
  rintro e w2 ⟨rfl, hg2⟩
  have HG2 := hide hg2
  rw [HCN.out] at *
  clear hg2
  go_wp2_with fail
  go_ret
  exact ⟨rfl, HG2.out⟩
end Go.Proofs.YtomednfddpggaaaGreat

/- Regions that draw their order: an operation whose value hangs on the world (guarded or not), and one that reads such a value. -/
namespace Go.Proofs.YtomednfddpggaaaGreat
open Go Go.RowKit
section
variable {P : Program} {w0 : World} {ops : Array Oper} {Q : Act → Env → Prop} {a : Act} {G : Env} {o : Oper} {rest : List Oper}
theorem gLex_propW {t : Tmp} (hw : Region.wanted o (yielded ops a.tmps) = true) (hp : plainB ops o G = true) (hd : o.dst = some t) (hlt : t < a.tmps.size)
    (p : Pr) (hl : Lasts p) (hr : ∀ x : Later w0, runsTo P (fun u w' => Grows x.now w' ∧ p u w') ((execOp a.eval o).run P x.now))
    (h : gLex P ops w0 Q rest a (G.upd t p)) : gLex P ops w0 Q (o :: rest) a G := by
  obtain ⟨h1, h2, h3, h4⟩ := plain_spec hp
  refine ⟨.inr p, ⟨h1, h2, .inl ⟨hw, hl, ⟨t, hd, hlt⟩, fun w hw a' ha' => ?_⟩⟩, ?_⟩
  · rw [exec_same h4 h3 ha']
    exact hr ⟨w, hw⟩
  · rw [hd]
    exact h
def depB (ops : Array Oper) (o : Oper) (G : Env) (t0 : Tmp) : Bool :=
  ((o.looksAt ops).all fun t => t == t0 || (G t).isNone) && (o.looksAt ops).contains t0 && (match o.dst with | some d => (G d).isNone | none => true) && (match o.op with | .select .. => false | _ => true) &&
    (match o.guard with | some (g, _) => (match (ops[g]?).bind (·.dst) with | some t => t != t0 | none => true) | none => true)
theorem dep_spec {t0 : Tmp} (h : depB ops o G t0 = true) : guardFree ops o G ∧ dstFree o G ∧ (∀ t ∈ o.looksAt ops, t = t0 ∨ G t = none) ∧ t0 ∈ o.looksAt ops ∧ ∀ cs b, o.op ≠ .select cs b := by
  unfold depB at h
  simp only [Bool.and_eq_true, List.all_eq_true, Bool.or_eq_true, Option.isNone_iff_eq_none, beq_iff_eq, List.contains_iff_mem] at h
  obtain ⟨⟨⟨⟨h1, h2⟩, h3⟩, h4⟩, h5⟩ := h
  refine ⟨fun g b t e1 e2 => ?_, fun d e => ?_, h1, h2, fun cs b e => ?_⟩
  · rcases h1 t (mem_looks_guard e1 e2) with e | e
    · rw [e1] at h5
      simp only [e2] at h5
      subst e
      simp at h5
    · exact e
  · rw [e] at h3; simpa using h3
  · rw [e] at h4; simp at h4
theorem gLex_dep {t0 t : Tmp} {p0 : Pr} (hw : Region.wanted o (yielded ops a.tmps) = true) (hp : depB ops o G t0 = true) (h0 : G t0 = some p0) (ht0 : t0 < a.tmps.size) (hd : o.dst = some t) (hlt : t < a.tmps.size)
    (p : Pr) (hl : Lasts p) (hr : ∀ (x : Later w0) (v : Value), p0 v x.now → runsTo P (fun u w' => Grows x.now w' ∧ p u w') ((execOp (a.put (some t0) v).eval o).run P x.now))
    (h : gLex P ops w0 Q rest a (G.upd t p)) : gLex P ops w0 Q (o :: rest) a G := by
  obtain ⟨h1, h2, h3, h4, h5⟩ := dep_spec hp
  refine ⟨.inr p, ⟨h1, h2, .inl ⟨hw, hl, ⟨t, hd, hlt⟩, fun w hw a' ha' => ?_⟩⟩, ?_⟩
  · have hv := ha' t0 h4
    unfold relAt at hv
    rw [h0] at hv
    obtain ⟨v, hv, hpv⟩ := hv
    have e : execOp a'.eval o = execOp (a.put (some t0) v).eval o := by
      refine execOp_congr o h5 fun x hx => ?_
      cases x with
      | tmp t =>
        have ht : t ∈ o.looksAt ops := List.mem_append_left _ (List.mem_filterMap.2 ⟨.tmp t, by simpa using hx, rfl⟩)
        have h' : a'.tmps[t]? = (a.put (some t0) v).tmps[t]? := by
          by_cases e : t = t0
          · subst e
            rw [hv]
            simp [Act.put, ht0]
          · have h6 := ha' t ht
            unfold relAt at h6
            rw [(h3 t ht).resolve_left e] at h6
            rw [h6]
            simp [Act.put, Array.getElem?_setIfInBounds_ne (Ne.symm e)]
        simp only [Act.eval, Array.getD_eq_getD_getElem?, h']
      | _ => rfl
    rw [e]
    exact hr ⟨w, hw⟩ v hpv
  · rw [hd]
    exact h
end
def RowP (n : Nat) (xs : List Value) : Pr := fun u w => ∃ A c, u = .slice A n c ∧ Rd w A 1 n xs
theorem RowP.lasts (n : Nat) (xs : List Value) : Lasts (RowP n xs) := fun _ _ _ hg ⟨A, c, e, h⟩ => ⟨A, c, e, h.grows hg⟩
end Go.Proofs.YtomednfddpggaaaGreat

/- Regions that draw their order: an operation that reads one value which hangs on the world, and leaves a value that is known; the end where such values are left. -/
namespace Go.Proofs.YtomednfddpggaaaGreat
open Go Go.RowKit
section
variable {P : Program} {w0 : World} {ops : Array Oper} {Q : Act → Env → Prop} {a : Act} {G : Env} {o : Oper} {rest : List Oper}
theorem dep_exec {a' : Act} {t0 : Tmp} {v : Value} (h5 : ∀ cs b, o.op ≠ .select cs b) (ht0 : t0 < a.tmps.size) (hv : a'.tmps[t0]? = some v) (h : ∀ t ∈ o.looksAt ops, t = t0 ∨ a'.tmps[t]? = a.tmps[t]?) : execOp a'.eval o = execOp (a.put (some t0) v).eval o := by
  refine execOp_congr o h5 fun x hx => ?_
  cases x with
  | tmp t =>
    have ht : t ∈ o.looksAt ops := List.mem_append_left _ (List.mem_filterMap.2 ⟨.tmp t, by simpa using hx, rfl⟩)
    have h' : a'.tmps[t]? = (a.put (some t0) v).tmps[t]? := by
      by_cases e : t = t0
      · subst e
        rw [hv]
        simp [Act.put, ht0]
      · rw [(h t ht).resolve_left e]
        simp [Act.put, Array.getElem?_setIfInBounds_ne (Ne.symm e)]
    simp only [Act.eval, Array.getD_eq_getD_getElem?, h']
  | _ => rfl
theorem gLex_depV {t0 : Tmp} {p0 : Pr} (hw : Region.wanted o (yielded ops a.tmps) = true) (hp : depB ops o G t0 = true) (h0 : G t0 = some p0) (ht0 : t0 < a.tmps.size) (v : Value)
    (hr : ∀ (x : Later w0) (u : Value), p0 u x.now → runsTo P (fun u' w' => Grows x.now w' ∧ u' = v) ((execOp (a.put (some t0) u).eval o).run P x.now))
    (h : gLex P ops w0 Q rest (a.put o.dst v) G) : gLex P ops w0 Q (o :: rest) a G := by
  obtain ⟨h1, h2, h3, h4, h5⟩ := dep_spec hp
  refine ⟨.inl v, ⟨h1, h2, .inl ⟨hw, trivial, trivial, fun w hw a' ha' => ?_⟩⟩, ?_⟩
  · have hv := ha' t0 h4
    unfold relAt at hv
    rw [h0] at hv
    obtain ⟨u, hv, hpv⟩ := hv
    rw [dep_exec h5 ht0 hv (fun t ht => (h3 t ht).imp id (fun e => by
      have h6 := ha' t ht
      unfold relAt at h6
      rw [e] at h6
      exact h6))]
    exact hr ⟨w, hw⟩ u hpv
  · have : putG G o.dst (.inl v) = G := by cases o.dst <;> rfl
    rw [this]
    exact h
def AtA (Q : Exit → Act → World → Prop) (a : Act) (G : Env) (w' : World) : Prop := ∀ a', Conc G a a' w' → Q .normal a' w'
theorem AtA.pop {Q : Exit → Act → World → Prop} {w' : World} {t : Tmp} {p : Pr} (hG : G t = none) (ht : t < a.tmps.size) (h : ∀ v, p v w' → AtA Q (a.put (some t) v) G w') : AtA Q a (G.upd t p) w' := fun a' hc => by
  obtain ⟨v, hv⟩ := conc_upd hc ht
  rcases hv with ⟨hp, hc2⟩ | hne
  · exact h v hp a' hc2
  · exact absurd hG hne
theorem AtA.base {Q : Exit → Act → World → Prop} {w' : World} (h : Q .normal a w') : AtA Q a Env.no w' := fun a' hc => by rw [conc_no hc]; exact h
theorem gLex_endA {Q : Exit → Act → World → Prop} (h : ∀ x : Later w0, AtA Q a G x.now) : gLex P ops w0 (fun a G => ∀ w', Grows w0 w' → ∀ a', Conc G a a' w' → Q .normal a' w') [] a G := fun w' hw a' hc => h ⟨w', hw⟩ a' hc
end
end Go.Proofs.YtomednfddpggaaaGreat

/- Regions that draw their order: an operation that reads two values which hang on the world, and leaves a value that is known. -/
namespace Go.Proofs.YtomednfddpggaaaGreat
open Go Go.RowKit
section
variable {P : Program} {w0 : World} {ops : Array Oper} {Q : Act → Env → Prop} {a : Act} {G : Env} {o : Oper} {rest : List Oper}
def depB2 (ops : Array Oper) (o : Oper) (G : Env) (t1 t2 : Tmp) : Bool :=
  ((o.looksAt ops).all fun t => t == t1 || t == t2 || (G t).isNone) && (o.looksAt ops).contains t1 && (o.looksAt ops).contains t2 && (match o.dst with | some d => (G d).isNone | none => true) && (match o.op with | .select .. => false | _ => true) &&
    (match o.guard with | some (g, _) => (match (ops[g]?).bind (·.dst) with | some t => t != t1 && t != t2 | none => true) | none => true)
theorem dep_spec2 {t1 t2 : Tmp} (h : depB2 ops o G t1 t2 = true) : guardFree ops o G ∧ dstFree o G ∧ (∀ t ∈ o.looksAt ops, t = t1 ∨ t = t2 ∨ G t = none) ∧ t1 ∈ o.looksAt ops ∧ t2 ∈ o.looksAt ops ∧ ∀ cs b, o.op ≠ .select cs b := by
  unfold depB2 at h
  simp only [Bool.and_eq_true, List.all_eq_true, Bool.or_eq_true, Option.isNone_iff_eq_none, beq_iff_eq, List.contains_iff_mem] at h
  obtain ⟨⟨⟨⟨⟨h1, h2⟩, h2'⟩, h3⟩, h4⟩, h5⟩ := h
  refine ⟨fun g b t e1 e2 => ?_, fun d e => ?_, fun t ht => (by rcases h1 t ht with (e | e) | e; exact .inl e; exact .inr (.inl e); exact .inr (.inr e)), h2, h2', fun cs b e => ?_⟩
  · rcases h1 t (mem_looks_guard e1 e2) with (e | e) | e
    · rw [e1] at h5
      simp only [e2] at h5
      subst e
      simp at h5
    · rw [e1] at h5
      simp only [e2] at h5
      subst e
      simp at h5
    · exact e
  · rw [e] at h3; simpa using h3
  · rw [e] at h4; simp at h4
theorem dep_exec2 {a' : Act} {t1 t2 : Tmp} {v1 v2 : Value} (h5 : ∀ cs b, o.op ≠ .select cs b) (ht1 : t1 < a.tmps.size) (ht2 : t2 < a.tmps.size) (hne : t1 ≠ t2) (hv1 : a'.tmps[t1]? = some v1) (hv2 : a'.tmps[t2]? = some v2) (h : ∀ t ∈ o.looksAt ops, t = t1 ∨ t = t2 ∨ a'.tmps[t]? = a.tmps[t]?) :
    execOp a'.eval o = execOp ((a.put (some t1) v1).put (some t2) v2).eval o := by
  refine execOp_congr o h5 fun x hx => ?_
  cases x with
  | tmp t =>
    have ht : t ∈ o.looksAt ops := List.mem_append_left _ (List.mem_filterMap.2 ⟨.tmp t, by simpa using hx, rfl⟩)
    have h' : a'.tmps[t]? = ((a.put (some t1) v1).put (some t2) v2).tmps[t]? := by
      by_cases e2 : t = t2
      · subst e2
        rw [hv2]
        simp [Act.put, ht2]
      · by_cases e : t = t1
        · subst e
          rw [hv1]
          show some v1 = (((a.tmps.setIfInBounds t v1).setIfInBounds t2 v2))[t]?
          rw [Array.getElem?_setIfInBounds_ne (Ne.symm e2)]
          simp [ht1]
        · rw [((h t ht).resolve_left e).resolve_left e2]
          simp [Act.put, Array.getElem?_setIfInBounds_ne (Ne.symm e), Array.getElem?_setIfInBounds_ne (Ne.symm e2)]
    simp only [Act.eval, Array.getD_eq_getD_getElem?, h']
  | _ => rfl
theorem gLex_depV2 {t1 t2 : Tmp} {p1 p2 : Pr} (hw : Region.wanted o (yielded ops a.tmps) = true) (hp : depB2 ops o G t1 t2 = true) (h1 : G t1 = some p1) (h2 : G t2 = some p2) (ht1 : t1 < a.tmps.size) (ht2 : t2 < a.tmps.size) (hne : t1 ≠ t2) (v : Value)
    (hr : ∀ (x : Later w0) (u1 u2 : Value), p1 u1 x.now → p2 u2 x.now → runsTo P (fun u' w' => Grows x.now w' ∧ u' = v) ((execOp ((a.put (some t1) u1).put (some t2) u2).eval o).run P x.now))
    (h : gLex P ops w0 Q rest (a.put o.dst v) G) : gLex P ops w0 Q (o :: rest) a G := by
  obtain ⟨k1, k2, k3, k4, k4', k5⟩ := dep_spec2 hp
  refine ⟨.inl v, ⟨k1, k2, .inl ⟨hw, trivial, trivial, fun w hw a' ha' => ?_⟩⟩, ?_⟩
  · have hv1 := ha' t1 k4
    have hv2 := ha' t2 k4'
    unfold relAt at hv1 hv2
    rw [h1] at hv1
    rw [h2] at hv2
    obtain ⟨u1, hv1, hp1⟩ := hv1
    obtain ⟨u2, hv2, hp2⟩ := hv2
    rw [dep_exec2 k5 ht1 ht2 hne hv1 hv2 (fun t ht => (k3 t ht).imp id (fun e => e.imp id (fun e => by
      have h6 := ha' t ht
      unfold relAt at h6
      rw [e] at h6
      exact h6)))]
    exact hr ⟨w, hw⟩ u1 u2 hp1 hp2
  · have : putG G o.dst (.inl v) = G := by cases o.dst <;> rfl
    rw [this]
    exact h
theorem gLex_propG {t : Tmp} (hw : Region.wanted o (yielded ops a.tmps) = true) (hp : plainB ops o G = true) (hd : o.dst = some t) (hlt : t < a.tmps.size)
    (p : Pr) (hl : Lasts p) (hr : ∀ x : Later w0, runsTo P (fun u w' => Grows x.now w' ∧ p u w') ((execOp a.eval o).run P x.now))
    (h : gLex P ops w0 Q rest a (G.upd t p)) : gLex P ops w0 Q (o :: rest) a G := by
  obtain ⟨h1, h2, h3, h4⟩ := plain_spec hp
  refine ⟨.inr p, ⟨h1, h2, .inl ⟨hw, hl, ⟨t, hd, hlt⟩, fun w hw a' ha' => ?_⟩⟩, ?_⟩
  · rw [exec_same h4 h3 ha']
    exact hr ⟨w, hw⟩
  · rw [hd]
    exact h
def AtB (Q : Exit → Act → World → Prop) (a : Act) (G : Env) (w' : World) : Prop := ∀ a', Conc G a a' w' → Q .normal a' w'
theorem AtB.pop {Q : Exit → Act → World → Prop} {w' : World} {t : Tmp} {p : Pr} (hG : G t = none) (ht : t < a.tmps.size) (h : ∀ v, p v w' → AtB Q (a.put (some t) v) G w') : AtB Q a (G.upd t p) w' := fun a' hc => by
  obtain ⟨v, hv⟩ := conc_upd hc ht
  rcases hv with ⟨hp, hc2⟩ | hne
  · exact h v hp a' hc2
  · exact absurd hG hne
theorem AtB.base {Q : Exit → Act → World → Prop} {w' : World} (h : Q .normal a w') : AtB Q a Env.no w' := fun a' hc => by rw [conc_no hc]; exact h
theorem gLex_endB {Q : Exit → Act → World → Prop} (h : ∀ x : Later w0, AtB Q a G x.now) : gLex P ops w0 (fun a G => ∀ w', Grows w0 w' → ∀ a', Conc G a a' w' → Q .normal a' w') [] a G := fun w' hw a' hc => h ⟨w', hw⟩ a' hc
end
def BRow (n : Nat) (L : List Bool) : Pr := fun u w => ∃ g, u = .slice (some ⟨g, 0, none⟩) n n ∧ Arr w g 4 (L.map .bool)
theorem BRow.lasts (n : Nat) (L : List Bool) : Lasts (BRow n L) := fun _ _ _ hg ⟨g, e, h⟩ => ⟨g, e, h.grow hg⟩
end Go.Proofs.YtomednfddpggaaaGreat
