/- Contracts: new sets, new rows, new heaps. -/
import Derived.OrdersIn
import Derived.TacticsIn
import Derived.RangeFuncNested
import Derived.RangeFuncBound
import Derived.Shelf.Abstract
import Derived.Shelf.RegionOpen
import Derived.OwnWalkIn
import Derived.TacticsInMore
import Derived.LoopNIn
import Derived.LoopIn
import Derived.Test.YtkfobolbilhjbaaGreatQFlowRounds01
import Derived.Test.YtkfobolbilhjbaaGreatQFlowRounds03
import Derived.Test.YtkfobolbilhjbaaGreatQFlowRounds04
import Derived.Test.YtkfobolbilhjbaaGreatQFlowRounds05
import Derived.Test.YtkfobolbilhjbaaGreatQFlowRounds06
namespace Go.Proofs.YtkfobolbilhjbaaGreat
open Go Go.RowKit
theorem run_makeU64s (n : Nat) (hn : n ≤ 1000000000) (w : World) : (Instr.makeSlice 29 (.int .i64 (n : Int)) (.int .i64 (n : Int))).run Tryz.prog w = .ok (.slice (some ⟨w.heap.size, 0, none⟩) n n) (w.alloc (.cells (List.replicate n (Value.int .u64 0)).toArray 26)) := by
  obtain ⟨i, h1, h2, h3, h4⟩ := elemU64.info
  have := run_make_row (P := Tryz.prog) 29 26 i (.int .u64 0) Tryz.underlying29 h1 h2 h3 rfl .i64 .i64 n (by have := Nat.mul_le_mul h4 hn; omega) (by omega) w
  have e : madeCells #[Value.int .u64 0] n = (List.replicate n (Value.int .u64 0)).toArray := Array.ext' (by rw [toList_madeCells_one])
  rw [e] at this
  exact this
theorem scs_rep (n : Nat) : ∀ k, k < n * 2 → (scs (List.replicate n (0, 0)))[k]? = some (.int .u64 0) := by
  intro k hk
  have e : k = k / 2 * 2 + k % 2 := (Nat.div_add_mod' k 2).symm
  have h := scs_at (List.replicate n (0, 0)) (k / 2) (k % 2) (by simp; omega) (Nat.mod_lt _ (by omega))
  rw [← e] at h
  rw [h]
  have hg : gp (List.replicate n (0, 0)) (k / 2) = (0, 0) := by
    unfold gp
    rw [List.getD_eq_getElem?_getD, List.getElem?_replicate]
    split <;> rfl
  rw [hg]
  rcases (by omega : k % 2 = 0 ∨ k % 2 = 1) with e | e <;> rw [e] <;> rfl
theorem made_two (n : Nat) : madeCells #[Value.int .u64 0, .int .u64 0] (n * 2) = (scs (List.replicate n (0, 0))).toArray := by
  apply Array.ext'
  apply List.ext_getElem?
  intro k
  by_cases hk : k < n * 2
  · rw [scs_rep n k hk]
    rcases (by omega : k % 2 = 0 ∨ k % 2 = 1) with e | e <;> simp [madeCells, hk, e]
  · rw [List.getElem?_eq_none (by simp [madeCells]; omega), List.getElem?_eq_none (by rw [scs_len]; simp; omega)]
theorem run_makeSt (n : Nat) (hn : n ≤ 1000000000) (w : World) : (Instr.makeSlice 148 (.int .i64 (n : Int)) (.int .i64 (n : Int))).run Tryz.prog w = .ok (.slice (some ⟨w.heap.size, 0, none⟩) n n) (w.alloc (.cells (scs (List.replicate n (0, 0))).toArray 169)) := by
  have h : (Tryz.prog.info? 169).map (fun i => (i.zero, i.size, i.bytes)) = some (some (.agg #[.int .u64 0, .int .u64 0]), 2, 16) := by kernel_rfl
  obtain ⟨i, hi, hz, hs, hb⟩ := info_parts h
  have := run_make (P := Tryz.prog) w 148 169 i _ Tryz.underlying148 hi hz .i64 .i64 (n : Int) (n : Int) (by omega) (Int.le_refl _) (by rw [hb]; omega) (by omega)
  rw [Int.toNat_natCast, hs] at this
  rw [this, ← made_two n]
  rfl
set_option maxHeartbeats 1000000 in
theorem stNew (n : Nat) (w : World) (hn : n ≤ 65536) : Calls Tryz.prog 78 #[.int .i64 (n : Int)] w fun e w' => ∃ b g, e = .returned (.pointer (some ⟨b, 0, none⟩)) ∧ StL w' b g (List.replicate n (0, 0)) 0 ∧ w.heap.size ≤ b ∧ b < w'.heap.size ∧ w.heap.size ≤ g ∧ g < w'.heap.size ∧ Grows w w' := by
  have mk := run_makeSt n (by omega)
  go_enter Tryz.func78, Tryz.ntmps78
  go_wp2_with fail
  go_ret
  refine ⟨w.heap.size + 1, w.heap.size, rfl, ⟨⟨?_⟩, Row1.grow (Arr.row (Arr.make _ _ _) (by simp [scs_len]) (by simp; omega)) ((Grows.refl _).new _)⟩, by omega, by simp, by omega, by simp; omega, GG⟩
  simp [heap_push, Array.getElem_push]
set_option maxHeartbeats 1000000 in
theorem bitsNew (n : Nat) (w : World) (hn : n ≤ 65536) : Calls Tryz.prog 89 #[.int .i64 (n : Int)] w fun e w' => ∃ b g, e = .returned (.pointer (some ⟨b, 0, none⟩)) ∧ BtAt w' b g n (List.replicate ((n + 63) / 64) 0) ∧ w.heap.size ≤ b ∧ b < w'.heap.size ∧ w.heap.size ≤ g ∧ g < w'.heap.size ∧ Grows w w' := by
  obtain ⟨q, hq⟩ : ∃ q, (n + 63) / 64 = q := ⟨_, rfl⟩
  have hqi : ((n : Int) + 63) / 64 = (q : Int) := by omega
  have hqi2 : ((n : Int) + 64 - 1) / 64 = (q : Int) := by omega
  have hqb : q ≤ 65536 := by omega
  have hroom : n ≤ q * 64 := by omega
  have mk := run_makeU64s q (by omega)
  have HQ := hide hq
  clear hq
  go_enter Tryz.func89, Tryz.ntmps89
  go_wp2_with fail
  go_ret
  rw [HQ.out]
  have e0 : wv (List.replicate q 0) = List.replicate q (Value.int .u64 0) := by simp [wv]
  have e1 : (List.replicate q 0).length = q := List.length_replicate
  refine ⟨w.heap.size + 1, w.heap.size, rfl, ⟨⟨?_⟩, ?_, by rw [e1]; exact hroom, fun j hj => ?_⟩, by omega, by simp, by omega, by simp; omega, GG⟩
  · simp [heap_push, Array.getElem_push]
  · rw [e1, e0]
    have h : Arr (w.alloc (.cells (List.replicate q (Value.int .u64 0)).toArray 26)) w.heap.size 26 (List.replicate q (Value.int .u64 0)) := Arr.make _ _ _
    have := h.row (n := q) (size := 1) (by simp) (by omega)
    simp only [List.toArray_replicate] at this
    exact this.grow ((Grows.refl _).new _)
  · rw [gn_rep]; omega
theorem hasW_rep (q j : Nat) : hasW (List.replicate q 0) j = false := by unfold hasW; rw [gn_rep]; simp
def OfAt (w : World) (b g n : Nat) (l : List Int) (k : Nat) (wr : World) : Prop :=
  ∃ y : Later w, wr = y.now ∧ ∃ W, BtAt y.now b g n W ∧ ∀ j, j < n → hasW W j = decide ((j : Int) ∈ l.take k)
set_option maxRecDepth 20000 in
set_option maxHeartbeats 2000000 in
theorem bitsOf (n : Nat) (A : Option Addr) (m c : Nat) (l : List Int) (w : World) (h : Rd w A 1 m (l.map (.int .i64))) (hn : n ≤ 65536) (hm : m ≤ 1000000) :
    Calls Tryz.prog 77 #[.int .i64 (n : Int), .slice A m c] w fun e w' => ∃ b g W, e = .returned (.pointer (some ⟨b, 0, none⟩)) ∧ BtAt w' b g n W ∧ (∀ j, j < n → hasW W j = decide ((j : Int) ∈ l)) ∧ w.heap.size ≤ b ∧ b < w'.heap.size ∧ w.heap.size ≤ g ∧ g < w'.heap.size ∧ Grows w w' := by
  have hl : l.length = m := by simpa using h.len
  have HL := hide hl
  have HR := hide h
  have C := hide (fun (W : World) => bitsNew n W hn)
  clear h hl
  go_enter Tryz.func77, Tryz.ntmps77
  go_wp2_with (go_at_call 89; refine (C.out _).mono ?_; rintro e w' ⟨b, g, rfl, hb, h1, h2, h3, h4, hg⟩; obtain ⟨x, rfl⟩ := hg.later; have HB := hide hb; have HG := hide hg; clear hb hg)
  have H0 : Hid (OfAt w b g n l 0 x.now) := ⟨x, rfl, _, HB.out, fun j hj => by rw [hasW_rep]; simp⟩
  clear HB
  go_loopw [15] (fun s wr => ∃ k : Nat, k ≤ m ∧ s = .int .i64 (k : Int) ∧ OfAt w b g n l k wr) (fun s _ => m - (Go.RowKit.intOf s).toNat)
  case atStart => exact ⟨0, by omega, by go_num, H0.out⟩
  case round =>
    obtain ⟨k, hk, rfl, y, rfl, W, hb, hW⟩ := hrel
    have HW := hide hW
    have HB := hide hb
    clear hW hb H0
    by_cases hlt : k < m
    · obtain ⟨bb, off, rfl, hc⟩ := HR.out.intsH (by omega)
      have c1 := hc k hlt
      have CA := hide (fun (W1 : World) (hg : Grows y.now W1) => bitsAdd b g n W (gi l k) W1 (HB.out.grow hg) hn)
      have HGI : Hid (l.take (k + 1) = l.take k ++ [gi l k]) := by
        have hkl : k < l.length := by rw [HL.out]; exact hlt
        show _ = _
        rw [List.take_succ_eq_append_getElem hkl]
        simp [gi, hkl]
      clear hc
      generalize gi l k = i at *
      go_wp2_with (go_at_call 90; refine (CA.out _ GG).mono ?_; rintro e w' ⟨r, W', rfl, hb', hW', ht⟩; have HB' := hide hb'; have HW' := hide hW'; have HT := hide ht; clear hb' hW' ht)
      have hl2 : Grows w w' := HT.out.later y.grows (fun k hk => by rw [hk]; exact h3)
      go_roundw
      case rel =>
        refine ⟨k + 1, by omega, by go_num, ⟨w', hl2⟩, rfl, W', HB'.out, fun j hj => ?_⟩
        rw [HW'.out j hj, HW.out j hj, HGI.out]
        apply bool_ext
        simp
      case measure => simp [Go.RowKit.intOf]; omega
    · have hkm : l.take k = l := List.take_of_length_le (by rw [HL.out]; omega)
      have HW2 := HW.out
      rw [hkm] at HW2
      have HWE := hide HW2
      clear HW2 hkm
      go_wp2_with fail
      go_ret
      have hsz : b < y.now.heap.size := HB.out.row.lt
      have hsg : g < y.now.heap.size := HB.out.words.lt
      exact ⟨b, g, W, rfl, HB.out, HWE.out, h1, hsz, h3, hsg, y.grows⟩
def NewHp (w : World) (b g n k : Nat) (wr : World) : Prop :=
  ∃ y : Later w, wr = y.now ∧ Arr y.now b 153 [.slice none 0 0, .slice (some ⟨g, 0, none⟩) n n] ∧ ∃ T : List Int, Row1 y.now g 3 1 n n (T.map (.int .i64)) ∧ ∀ j, j < k → gz T j = -1
set_option maxRecDepth 20000 in
set_option maxHeartbeats 2000000 in
theorem hpNew (n : Nat) (w : World) (hn : n ≤ 65536) : Calls Tryz.prog 79 #[.int .i64 (n : Int)] w fun e w' => ∃ b T, e = .returned (.pointer (some ⟨b, 0, none⟩)) ∧ HpAt w' (New w w') b ⟨[], T⟩ ∧ T.length = n ∧ (∀ j, j < n → gz T j = -1) ∧ w.heap.size ≤ b ∧ Grows w w' := by
  have mk := run_makeInts n (by omega)
  go_enter Tryz.func79, Tryz.ntmps79
  go_wp2_with fail
  have H0 : Hid (NewHp w (w.heap.size + 1) w.heap.size n 0 ((w.alloc (.cells (List.replicate n (Value.int .i64 0)).toArray 3)).alloc (.cells #[.slice none 0 0, .slice (some ⟨w.heap.size, 0, none⟩) n n] 153))) := by
    refine ⟨⟨_, ((Grows.refl w).new _).new _⟩, rfl, ⟨by simp [heap_push, Array.getElem_push]⟩, List.replicate n 0, ?_, fun j hj => absurd hj (by omega)⟩
    have h : Arr (w.alloc (.cells (List.replicate n (Value.int .i64 0)).toArray 3)) w.heap.size 3 (List.replicate n (Value.int .i64 0)) := Arr.make _ _ _
    have h2 := h.row (n := n) (size := 1) (by simp) (by omega)
    rw [List.map_replicate]
    exact h2.grow ((Grows.refl _).new _)
  simp only [List.toArray_replicate] at H0
  have hbb : w.heap.size ≤ w.heap.size + 1 := by omega
  generalize hb : w.heap.size + 1 = b at *
  go_loopw [20] (fun s wr => ∃ k : Nat, k ≤ n ∧ s = .int .i64 (k : Int) ∧ NewHp w b w.heap.size n k wr) (fun s _ => n - (Go.RowKit.intOf s).toNat)
  case atStart => exact ⟨0, by omega, by go_num, H0.out⟩
  case round =>
    obtain ⟨k, hk, rfl, y, rfl, ha, T, ht, hT⟩ := hrel
    have HT := hide hT
    have HR := hide ht
    have HA := hide ha
    clear hT ht H0
    by_cases hlt : k < n
    · have m0 := HR.out.int (j := k) hlt
      go_wp2_with fail
      go_roundw
      case rel =>
        refine ⟨k + 1, by omega, by go_num, ⟨_, y.grows.set (Nat.le_refl _) _⟩, rfl, HA.out.other (HR.out.ne HA.out (by decide)) _, T.set k (-1), ?_, fun j hj => ?_⟩
        · rw [List.map_set]; exact HR.out.set _ _
        · have hl := HR.out.len
          simp at hl
          unfold gz
          by_cases he : j = k
          · subst he; simp [show j < T.length by omega]
          · have := HT.out j (by omega)
            unfold gz at this
            rw [List.getD_eq_getElem?_getD, List.getElem?_set_ne (Ne.symm he), ← List.getD_eq_getElem?_getD]
            exact this
      case measure => simp [Go.RowKit.intOf]; omega
    · go_wp2_with fail
      go_ret
      have hl := HR.out.len
      simp at hl
      obtain rfl : k = n := by omega
      refine ⟨b, T, rfl, ⟨none, 0, w.heap.size, ?_, Own.nil _ _ _ _, ?_, ⟨hbb, HA.out.lt⟩, ⟨Nat.le_refl _, HR.out.lt⟩, fun p hp => by cases hp⟩, by omega, HT.out, hbb, y.grows⟩
      · show Arr _ _ _ [.slice none 0 0, .slice (some ⟨w.heap.size, 0, none⟩) T.length T.length]
        rw [show T.length = k by omega]
        exact HA.out
      · rw [show T.length = k by omega]
        exact HR.out
end Go.Proofs.YtkfobolbilhjbaaGreat

namespace Go.Proofs.YtkfobolbilhjbaaGreat
open Go Go.RowKit

structure WideF (F : Fence) : Prop where
  fn : ∀ f, F.fn f
  calls : ∀ (n : Nat) (P : Program) (f : FuncId) (args : Array Value) (w : World) (R : Ending → World → Prop), Calls P f args w R → CallsIn F n P f args w R
  depth : F.depth = none
theorem wideF_wide : WideF Fence.wide := ⟨fun _ => trivial, fun _ _ _ _ _ _ h => callsIn_wide.2 h, rfl⟩
theorem wideF_round (l : Nat) : WideF (Fence.wide.inRound l) := ⟨fun _ => trivial, fun _ _ _ _ _ _ h => callsIn_wide.2 h, rfl⟩

theorem wide_fn (f : FuncId) : Fence.wide.fn f = True := rfl
theorem wide_depth : Fence.wide.depth = none := rfl
attribute [go_sem] wide_fn wide_depth

def noDefer (l : List Oper) : Bool := l.all fun o => match o.op with | .defer _ => false | _ => true

section
variable {F : Fence} {m : Nat} {P : Program} {ops : Array Oper} {md : Region.Mode} {w0 : World}

theorem semAt_of {o : Oper} (h : (match o.op with | .defer _ => false | _ => true) = true) (r : Option Nat) (ρ : Operand → Value) : o.semAt r ρ = execOp ρ o := by
  cases r with
  | none => exact Oper.semAt_none ρ o
  | some l => exact Oper.semAt_some l ρ o fun c e => by rw [e] at h; cases h

theorem wpIn_of_runs (hF : WideF F) {o : Oper} (hd : (match o.op with | .defer _ => false | _ => true) = true) {a' : Act} {w : World} {q : Value → World → Prop} {K : Act → World → Prop} {Q : Exit → Act → World → Prop}
    (hrun : runsTo P q ((execOp a'.eval o).run P w)) (hK : ∀ u w', q u w' → K (a'.put o.dst u) w') : o.wpIn F m P a' w K Q := by
  unfold Oper.wpIn
  refine ⟨fun f _ => hF.fn f, ?_⟩
  rw [semAt_of hd]
  generalize (execOp a'.eval o).run P w = res at hrun
  cases res with
  | halt x w' => simp only [runsTo] at hrun
  | ok x w' =>
    cases x <;> simp only [runsTo] at hrun <;> simp only [Oper.uponIn]
    case value u => exact hK _ _ hrun
    case skip => exact hK _ _ hrun
    case enter f args =>
      refine ⟨fun h => (by rw [hF.depth] at h; cases h), hF.calls _ _ _ _ _ _ (hrun.mono fun e w'' ⟨u, he, hq⟩ => ?_)⟩
      subst he
      exact hK _ _ hq

theorem calls_in (hF : WideF F) {f : FuncId} {args : Array Value} {w : World} {R : Ending → World → Prop} (h : Calls P f args w R) : CallsIn F m P f args w R := hF.calls _ _ _ _ _ _ h
end
end Go.Proofs.YtkfobolbilhjbaaGreat

namespace Go.Proofs.YtkfobolbilhjbaaGreat
open Go Go.RowKit
attribute [local go_sem] Oper.semAt_some
set_option maxHeartbeats 1000000 in
theorem adjEach (b : Nat) (v : Int) (back : Bool) (w : World) : Calls Tryz.prog 70 #[.pointer (some ⟨b, 0, none⟩), .int .i64 v, .bool back] w fun e w' =>
    ∃ b1, e = .returned (.func (.func 86) #[] #[.pointer (some ⟨b1, 0, none⟩), .pointer (some ⟨b1 + 1, 0, none⟩), .pointer (some ⟨b1 + 1 + 1, 0, none⟩)]) ∧ w.heap.size = b1 ∧
      Arr w' b1 92 [.pointer (some ⟨b, 0, none⟩)] ∧ Arr w' (b1 + 1) 3 [.int .i64 v] ∧ Arr w' (b1 + 1 + 1) 4 [.bool back] ∧ Grows w w' := by
  go_enter Tryz.func70, Tryz.ntmps70
  go_wp2
  go_ret
  refine ⟨w.heap.size, rfl, rfl, ⟨by simp [heap_push, Array.getElem_push, Array.getElem?_push, eq_add2]⟩, ⟨by simp [heap_push, Array.getElem_push]⟩, ⟨by simp [heap_push, Array.getElem_push]⟩, GG⟩
def encE (E : List Edg) (i : Nat) : Array Value := #[.int .i64 (i : Int), eVal (ge E i)]
set_option maxRecDepth 20000 in
set_option maxHeartbeats 2000000 in
theorem each_gives (F B M0 : Nat → Prop) (b N : Nat) (E : List Edg) (v : Nat) (back : Bool) (b1 : Nat) (w : World) (hA : AdjAt F w b N E) (hF : ∀ k, F k → B k ∨ M0 k) (hE : InN N E) (hv : v < N) (hn : E.length ≤ 1000000) (hN : N ≤ 100000)
    (hm : ∀ k, M0 k → k < w.heap.size) (m1 : B b1 ∨ M0 b1) (m2 : B (b1 + 1) ∨ M0 (b1 + 1)) (m3 : B (b1 + 1 + 1) ∨ M0 (b1 + 1 + 1))
    (a1 : Arr w b1 92 [.pointer (some ⟨b, 0, none⟩)]) (a2 : Arr w (b1 + 1) 3 [.int .i64 (v : Int)]) (a3 : Arr w (b1 + 1 + 1) 4 [.bool back]) :
    Gives Tryz.prog 86 #[.pointer (some ⟨b1, 0, none⟩), .pointer (some ⟨b1 + 1, 0, none⟩), .pointer (some ⟨b1 + 1 + 1, 0, none⟩)] (encE E) B M0 (rowN (nN E back) E.length v) w := by
  intro l J Jx W hkW hJ hJx hY h0
  have HJ := hide hJ
  have HY := hide hY
  have H0 := hide h0
  have HE := hide hE
  have hF2 : ∀ k, F k → ¬ ¬ (B k ∨ M0 k) := fun k hk h1 => h1 (hF k hk)
  have HF := hide hF2
  have HA := hide (hA.touch hkW hF2)
  have i1 : Arr W b1 92 [.pointer (some ⟨b, 0, none⟩)] := ⟨hkW.at m1 a1.is⟩
  have i2 : Arr W (b1 + 1) 3 [.int .i64 (v : Int)] := ⟨hkW.at m2 a2.is⟩
  have i3 : Arr W (b1 + 1 + 1) 4 [.bool back] := ⟨hkW.at m3 a3.is⟩
  have C := hide (adjRow F b N E v back W HA.out HE.out hv hn hN)
  have hmW : ∀ k, M0 k → k < W.heap.size := fun k hk => Nat.lt_of_lt_of_le (hm k hk) hkW.size
  have HM := hide hmW
  have HM1 := hide m1
  clear hJ hY h0 hE hA hkW a1 a2 a3 hm hmW hF hF2 m2 m3
  have hrl : Hid ((rowN (nN E back) E.length v).length = cntN (nN E back) v E.length) := rowN_len _ _ _
  have hcl := cntN_le (nN E back) v E.length
  generalize hxs : rowN (nN E back) E.length v = xs at *
  generalize hcn : cntN (nN E back) v E.length = cn at *
  have HXS := hide hxs
  clear hxs hcn
  refine callsIn_of_wp Tryz.func86 rfl trivial ?_ rfl
  simp only [Tryz.ntmps86, List.size_toArray, List.length_cons, List.length_nil, Nat.reduceAdd, Nat.reduceSub, Array.replicate_succ, Array.replicate_zero, List.push_toArray, List.append_toArray, List.nil_append, List.cons_append]
  gi_wp2_with (gi_at_call 87; refine (calls_in wideF_wide C.out).mono ?_; rintro e w' ⟨A, rfl, hr, hg⟩; obtain ⟨x1, rfl⟩ := hg.later; have HR := hide hr; clear hg hr)
  have HK1 : Hid (Keeps B M0 W x1.now) := x1.grows.touch _
  have H1 : Hid (J [] M0 x1.now) := HJ.out [] _ W _ _ H0.out (x1.grows.touch _) (fun k hk => ⟨.inl hk, Nat.lt_of_lt_of_le (HM.out k hk) x1.size⟩)
  clear H0
  gi_loopw [12] (fun s wr => ∃ k : Nat, k ≤ cn ∧ s = .int .i64 (k : Int) ∧ Keeps B M0 W wr ∧ J (xs.take k) M0 wr) (fun s _ => cn - (Go.RowKit.intOf s).toNat)
  case atStart => exact ⟨0, by omega, by go_num, HK1.out, H1.out⟩
  case round =>
    obtain ⟨k, hk, rfl, hkp, hj⟩ := hrel
    have j1 : Arr wr b1 92 [.pointer (some ⟨b, 0, none⟩)] := ⟨hkp.at HM1.out i1.is⟩
    have HAr := hide (HA.out.touch hkp HF.out)
    have HRr := hide (Rd.touch HR.out.1 hkp (fun p hp => HF.out _ (HR.out.2 p hp)))
    have HJ1 := hide hj
    have HKP := hide hkp
    clear hj hkp H1 HK1
    by_cases hlt : k < cn
    · have hxk : k < xs.length := by rw [hrl.out]; exact hlt
      obtain ⟨g, off, rfl, hc⟩ := HRr.out.at_ (by omega)
      have c1 : Holds wr ⟨g, off + k, none⟩ (.int .i64 (gn xs k : Int)) := ⟨hc k _ (nv_at hxk)⟩
      obtain ⟨EA, cE, g1, g2, g3, g4, e1, e2, _, _⟩ := HAr.out
      have hin : gn xs k < E.length := by
        have : (rowN (nN E back) E.length v)[k]? = some (gn xs k) := by rw [HXS.out]; simp [gn, hxk]
        exact rowN_lt _ this
      obtain ⟨ge0, offe, rfl, hce⟩ := e2.edgesH (by omega)
      obtain ⟨q1, q2, q3⟩ := hce _ hin
      have hsp : xs = xs.take k ++ gn xs k :: xs.drop (k + 1) := by
        have : gn xs k = xs[k] := by simp [gn, hxk]
        rw [this, List.getElem_cons_drop, List.take_append_drop]
      obtain ⟨fn, tmps, assign, body, hy, hR⟩ := HY.out _ _ _ _ _ hsp HJ1.out
      unfold encE eVal at hy
      have HRR := hide hR
      have HSP := hide hsp
      clear hc hce hR hsp e2
      gi_wp2
      refine HRR.out.mono ?_
      rintro e W3 (⟨rfl, hJ3, hk3⟩ | ⟨rfl, hJx3, _⟩)
      · have HJ3 := hide hJ3
        have HK3 := hide hk3
        clear hJ3 hk3
        gi_wp2
        go_roundw
        case rel =>
          refine ⟨k + 1, by omega, by go_num, HKP.out.trans HK3.out, ?_⟩
          have e : xs.take (k + 1) = xs.take k ++ [gn xs k] := by
            rw [List.take_succ_eq_append_getElem hxk]
            simp [gn, hxk]
          rw [e]
          exact HJ3.out
        case measure => simp [Go.RowKit.intOf]; omega
      · have HJX := hide hJx3
        clear hJx3
        gi_wp2
        refine bodyPost_ret (results_none rfl _ _ _) rfl ?_
        exact ⟨⟨_, rfl⟩, .inr ⟨xs.take k, gn xs k, xs.drop (k + 1), _, HSP.out, HJX.out⟩⟩
    · have hke : xs.take k = xs := List.take_of_length_le (by rw [hrl.out]; omega)
      have HJ2 := HJ1.out
      rw [hke] at HJ2
      have HJE := hide HJ2
      clear HJ2 hke
      gi_wp2
      go_end0
      exact ⟨⟨_, rfl⟩, .inl ⟨_, HJE.out⟩⟩
end Go.Proofs.YtkfobolbilhjbaaGreat

namespace Go.Proofs.YtkfobolbilhjbaaGreat
open Go Go.RowKit
section
variable {w : World} {g : Nat} {t : TypeId}
instance Arr.m6 {v0 v1 v2 v3 v4 v5 v : Value} {l : List Value} [h : Arr w g t (v0 :: v1 :: v2 :: v3 :: v4 :: v5 :: v :: l)] : Mine w ⟨g, 6, none⟩ v := h.mine 6 rfl
instance Arr.m7 {v0 v1 v2 v3 v4 v5 v6 v : Value} {l : List Value} [h : Arr w g t (v0 :: v1 :: v2 :: v3 :: v4 :: v5 :: v6 :: v :: l)] : Mine w ⟨g, 7, none⟩ v := h.mine 7 rfl
instance Arr.m8 {v0 v1 v2 v3 v4 v5 v6 v7 v : Value} {l : List Value} [h : Arr w g t (v0 :: v1 :: v2 :: v3 :: v4 :: v5 :: v6 :: v7 :: v :: l)] : Mine w ⟨g, 8, none⟩ v := h.mine 8 rfl
instance Arr.m9 {v0 v1 v2 v3 v4 v5 v6 v7 v8 v : Value} {l : List Value} [h : Arr w g t (v0 :: v1 :: v2 :: v3 :: v4 :: v5 :: v6 :: v7 :: v8 :: v :: l)] : Mine w ⟨g, 9, none⟩ v := h.mine 9 rfl
instance Arr.m10 {v0 v1 v2 v3 v4 v5 v6 v7 v8 v9 v : Value} {l : List Value} [h : Arr w g t (v0 :: v1 :: v2 :: v3 :: v4 :: v5 :: v6 :: v7 :: v8 :: v9 :: v :: l)] : Mine w ⟨g, 10, none⟩ v := h.mine 10 rfl
end
structure Srch where
  N : Nat
  E : List Edg
  back : Bool
  most : Nat
  W : List Nat
  nn : Nat → Bool
  ne : Nat → Bool
def SrAt (F : Nat → Prop) (w : World) (x : Srch) (bx bf bh : Nat) : Prop :=
  ∃ ba o1 o2 o3 Aw cw bn be gn' ge' Wn We, Arr w bx 137 [.pointer (some ⟨ba, 0, none⟩), .bool x.back, o1, o2, o3, .int .u64 (x.most : Int), .slice Aw x.E.length cw, .pointer (some ⟨bn, 0, none⟩), .pointer (some ⟨be, 0, none⟩), .pointer (some ⟨bf, 0, none⟩), .pointer (some ⟨bh, 0, none⟩)] ∧
    AdjAt F w ba x.N x.E ∧ (Rd w Aw 1 x.E.length (wv x.W) ∧ ∀ p, Aw = some p → F p.block) ∧ (BtAt w bn gn' x.N Wn ∧ ∀ j, j < x.N → hasW Wn j = x.nn j) ∧ (BtAt w be ge' x.E.length We ∧ ∀ j, j < x.E.length → hasW We j = x.ne j) ∧ (F bx ∧ F bn ∧ F gn' ∧ F be ∧ F ge')
theorem BtAt.touch {w w' : World} {b g n : Nat} {W : List Nat} {S : Nat → Prop} (h : BtAt w b g n W) (ht : Touch S w w') (h1 : ¬ S b) (h2 : ¬ S g) : BtAt w' b g n W := ⟨h.row.touch ht h1, h.words.touch ht h2, h.room, h.small⟩
theorem SrAt.touch {F S : Nat → Prop} {w w' : World} {x : Srch} {bx bf bh : Nat} (h : SrAt F w x bx bf bh) (ht : Touch S w w') (hs : ∀ k, F k → ¬ S k) : SrAt F w' x bx bf bh := by
  obtain ⟨ba, o1, o2, o3, Aw, cw, bn, be, g1, g2, Wn, We, h1, h2, ⟨h3, h4⟩, ⟨h5, h6⟩, ⟨h7, h8⟩, f1, f2, f3, f4, f5⟩ := h
  exact ⟨ba, o1, o2, o3, Aw, cw, bn, be, g1, g2, Wn, We, h1.touch ht (hs _ f1), h2.touch ht hs, ⟨h3.touch ht (fun p hp => hs _ (h4 p hp)), h4⟩, ⟨h5.touch ht (hs _ f2) (hs _ f3), h6⟩, ⟨h7.touch ht (hs _ f4) (hs _ f5), h8⟩, f1, f2, f3, f4, f5⟩
theorem SrAt.grow {F : Nat → Prop} {w w' : World} {x : Srch} {bx bf bh : Nat} (h : SrAt F w x bx bf bh) (hg : Grows w w') : SrAt F w' x bx bf bh := h.touch (hg.touch (fun _ => False)) (fun _ _ => id)
def DjAt (F S : Nat → Prop) (w : World) (x : Srch) (bx : Nat) (L : List (Nat × Nat)) (s : HS) : Prop :=
  ∃ bf gf bh S2, SrAt F w x bx bf bh ∧ (∃ m, StL w bf gf L m) ∧ HpAt w S2 bh s ∧ (S bf ∧ S gf ∧ (∀ k, S2 k → S k ∧ ¬ (k = bf ∨ k = gf))) ∧ (∀ k, F k → ¬ S k ∧ k < w.heap.size) ∧ (∀ k, S k → k < w.heap.size) ∧ L.length = x.N ∧ s.In x.N
theorem DjAt.touch {F S S' : Nat → Prop} {w w' : World} {x : Srch} {bx : Nat} {L : List (Nat × Nat)} {s : HS} (h : DjAt F S w x bx L s) (ht : Touch S' w w') (h1 : ∀ k, F k → ¬ S' k) (h2 : ∀ k, S k → ¬ S' k) : DjAt F S w' x bx L s := by
  obtain ⟨bf, gf, bh, S2, q1, ⟨m, q2⟩, q3, ⟨q4, q5, q6⟩, q7, q8, q9, q10⟩ := h
  exact ⟨bf, gf, bh, S2, q1.touch ht h1, ⟨m, q2.touch ht (h2 _ q4) (h2 _ q5)⟩, q3.touch ht (fun k hk => h2 k (q6 k hk).1), ⟨q4, q5, q6⟩, fun k hk => ⟨(q7 k hk).1, Nat.lt_of_lt_of_le (q7 k hk).2 ht.size⟩, fun k hk => Nat.lt_of_lt_of_le (q8 k hk) ht.size, q9, q10⟩
theorem DjAt.grow {F S : Nat → Prop} {w w' : World} {x : Srch} {bx : Nat} {L : List (Nat × Nat)} {s : HS} (h : DjAt F S w x bx L s) (hg : Grows w w') : DjAt F S w' x bx L s := h.touch (hg.touch (fun _ => False)) (fun _ _ => id) (fun _ _ => id)
set_option maxHeartbeats 1000000 in
theorem djCounts (F : Nat → Prop) (x : Srch) (bx bf bh e v : Nat) (w : World) (h : SrAt F w x bx bf bh) (he : e < x.E.length) (hv : v < x.N) (hE : x.E.length ≤ 65536) (hN : x.N ≤ 65536) :
    Calls Tryz.prog 95 #[.pointer (some ⟨bx, 0, none⟩), .int .i64 (e : Int), .int .i64 (v : Int)] w fun e' w' => e' = .returned (.bool (!x.ne e && !x.nn v)) ∧ w = w' := by
  obtain ⟨ba, o1, o2, o3, Aw, cw, bn, be, g1, g2, Wn, We, h1, _, _, ⟨h5, h6⟩, ⟨h7, h8⟩, _⟩ := h
  have C1 := hide (bitsHasIn be g2 x.E.length We e w h7 he hE)
  have C2 := hide (bitsHasIn bn g1 x.N Wn v w h5 hv hN)
  rw [h8 e he] at C1
  rw [h6 v hv] at C2
  clear h5 h6 h7 h8
  cases hq : x.ne e with
  | true =>
    rw [hq] at C1
    clear hq C2
    go_enter Tryz.func95, Tryz.ntmps95
    go_wp2_with (go_at_call 80; refine (C1.out).mono ?_; rintro e w' ⟨rfl, rfl⟩)
    go_ret
    exact ⟨rfl, rfl⟩
  | false =>
    rw [hq] at C1
    clear hq
    generalize x.nn v = q at *
    go_enter Tryz.func95, Tryz.ntmps95
    go_wp2_with fail
    refine (C1.out).mono ?_; rintro e w' ⟨rfl, rfl⟩
    go_wp2_with fail
    refine (C2.out).mono ?_; rintro e w' ⟨rfl, rfl⟩
    go_wp2_with fail
    go_ret
    exact ⟨by simp, rfl⟩
def reachS (most : Nat) (st : List (Nat × Nat) × HS) (v f : Nat) : List (Nat × Nat) × HS :=
  if 0 < most ∧ most < f then st else if lessB (stD st.1 v) f then (st.1.set v (f, 1), (st.2.put v f).1) else st
def HOk (s : HS) (N : Nat) : Prop := (∀ v, v < N → gz s.T v = -1 ∨ 0 ≤ gz s.T v ∧ gz s.T v < s.L.length) ∧ s.L.length ≤ 90000
theorem put_keep_in {s : HS} {N v f : Nat} (h : s.In N) (hk : HOk s N) (hv : v < N) : (s.put v f).1.In N := by
  unfold HS.put
  split
  · exact HS.rise_in (put_in h hv) _ _ hv (by simp)
  · split
    · exact h
    · rename_i h1 _
      have := hk.1 v hv
      exact HS.rise_in h _ _ hv (by omega)
def GiveReach (F S : Nat → Prop) (w : World) (x : Srch) (bx : Nat) (st : List (Nat × Nat) × HS) (e : Ending) (w' : World) : Prop :=
  e = .returned (.tuple #[]) ∧ DjAt F (fun k => S k ∨ New w w' k) w' x bx st.1 st.2 ∧ Touch S w w'
theorem DjAt.more {F S : Nat → Prop} {w w' : World} {x : Srch} {bx : Nat} {L : List (Nat × Nat)} {s : HS} (h : DjAt F S w x bx L s) (hg : Grows w w') : DjAt F (fun k => S k ∨ New w w' k) w' x bx L s := by
  obtain ⟨bf, gf, bh, S2, q1, ⟨m, q2⟩, q3, ⟨q4, q5, q6⟩, q7, q8, q9, q10⟩ := h
  refine ⟨bf, gf, bh, S2, q1.grow hg, ⟨m, q2.grow hg⟩, q3.grow hg, ⟨.inl q4, .inl q5, fun k hk => ⟨.inl (q6 k hk).1, (q6 k hk).2⟩⟩, fun k hk => ⟨fun e => ?_, Nat.lt_of_lt_of_le (q7 k hk).2 hg.size⟩, fun k hk => ?_, q9, q10⟩
  · rcases e with e | ⟨e, _⟩
    · exact (q7 k hk).1 e
    · have := (q7 k hk).2; omega
  · rcases hk with e | ⟨_, e⟩
    · exact Nat.lt_of_lt_of_le (q8 k e) hg.size
    · exact e
theorem reach_put {F S S2 : Nat → Prop} {w w1 w2 : World} {x : Srch} {bx bf gf bh : Nat} {L' : List (Nat × Nat)} {s' : HS} {m' : Int} (q1 : SrAt F w x bx bf bh) (q4 : S bf) (q5 : S gf) (q6 : ∀ k, S2 k → S k ∧ ¬ (k = bf ∨ k = gf)) (q7 : ∀ k, F k → ¬ S k ∧ k < w.heap.size) (q8 : ∀ k, S k → k < w.heap.size)
    (ht1 : Touch (fun k => k = bf ∨ k = gf) w w1) (hs1 : StL w1 bf gf L' m') (hp2 : HpAt w2 (fun k => S2 k ∨ New w1 w2 k) bh s') (ht2 : Touch S2 w1 w2) (hl : L'.length = x.N) (hi : s'.In x.N) : DjAt F (fun k => S k ∨ New w w2 k) w2 x bx L' s' ∧ Touch S w w2 := by
  have hF1 : ∀ k, F k → ¬ (k = bf ∨ k = gf) := fun k hk e => by
    rcases e with rfl | rfl
    · exact (q7 _ hk).1 q4
    · exact (q7 _ hk).1 q5
  have hF2 : ∀ k, F k → ¬ S2 k := fun k hk e => (q7 k hk).1 (q6 k e).1
  have z1 := ht1.size
  have z2 := ht2.size
  refine ⟨⟨bf, gf, bh, fun k => S2 k ∨ New w1 w2 k, (q1.touch ht1 hF1).touch ht2 hF2, ⟨m', hs1.touch ht2 (fun e => (q6 _ e).2 (.inl rfl)) (fun e => (q6 _ e).2 (.inr rfl))⟩, hp2, ⟨.inl q4, .inl q5, fun k hk => ?_⟩, fun k hk => ⟨fun e => ?_, ?_⟩, fun k hk => ?_, hl, hi⟩, ?_⟩
  · rcases hk with hk | ⟨hk, hk2⟩
    · exact ⟨.inl (q6 k hk).1, (q6 k hk).2⟩
    · refine ⟨.inr ⟨by omega, hk2⟩, fun e => ?_⟩
      have h1 := q8 _ q4
      have h2 := q8 _ q5
      rcases e with rfl | rfl <;> omega
  · rcases e with e | ⟨e, _⟩
    · exact (q7 k hk).1 e
    · have := (q7 k hk).2; omega
  · have := (q7 k hk).2; omega
  · rcases hk with e | ⟨_, e⟩
    · have := q8 k e; omega
    · exact e
  · refine (ht1.mono fun k hk => ?_).trans (ht2.mono fun k hk => (q6 k hk).1)
    rcases hk with rfl | rfl
    · exact q4
    · exact q5
set_option maxRecDepth 20000 in
set_option maxHeartbeats 4000000 in
theorem djReach (F S : Nat → Prop) (x : Srch) (bx v f : Nat) (L : List (Nat × Nat)) (s : HS) (w : World) (h : DjAt F S w x bx L s) (hv : v < x.N) (hk : HOk s x.N) (hm : x.most < 18446744073709551616) :
    Calls Tryz.prog 81 #[.pointer (some ⟨bx, 0, none⟩), .int .i64 (v : Int), .int .u64 (f : Int)] w (GiveReach F S w x bx (reachS x.most (L, s) v f)) := by
  have HD := hide h
  obtain ⟨bf, gf, bh, S2, q1, ⟨m, q2⟩, q3, ⟨q4, q5, q6⟩, q7, q8, q9, q10⟩ := h
  have Q1 := hide q1
  have Q6 := hide q6
  have Q7 := hide q7
  have Q8 := hide q8
  have Q9 := hide q9
  have HIP : Hid ((s.put v f).1.In x.N) := put_keep_in q10 hk hv
  have Q10 := hide q10
  obtain ⟨ba, o1, o2, o3, Aw, cw, bn, be, g1, g2, Wn, We, h1, _, _, _, _, f1, _⟩ := q1
  have hne : ¬ (bx = bf ∨ bx = gf) := fun e => by
    rcases e with rfl | rfl
    · exact (q7 _ f1).1 q4
    · exact (q7 _ f1).1 q5
  have HNE := hide hne
  have CL := hide (stLeast bf gf L m v f w q2 (by omega))
  have HS2 := hide q3
  have HR : Hid (reachS x.most (L, s) v f = if 0 < x.most ∧ x.most < f then (L, s) else if lessB (stD L v) f then (L.set v (f, 1), (s.put v f).1) else (L, s)) := rfl
  have CP := hide (fun (W : World) (hq : HpAt W S2 bh s) (hs : w.heap.size ≤ W.heap.size) => hpPut bh x.N s v f S2 W hq (fun k hk => Nat.lt_of_lt_of_le (q8 k (q6 k hk).1) hs) q10 hv (hk.1 v hv) hk.2)
  have hS2n : ∀ k, S2 k → ¬ (k = bf ∨ k = gf) := fun k hk => (q6 k hk).2
  have HSN := hide hS2n
  clear q2 q3 q6 q7 q8 q9 q10 hk hne hS2n
  by_cases hc : 0 < x.most ∧ x.most < f
  · rw [if_pos hc] at HR
    have d1 : decide ((0 : Int) < (x.most : Int)) = true := decide_eq_true (by omega)
    have d2 : decide ((x.most : Int) < (f : Int)) = true := decide_eq_true (by omega)
    have d3 : decide (0 < x.most) = true := decide_eq_true hc.1
    have d4 : decide (x.most < f) = true := decide_eq_true hc.2
    clear hc
    generalize x.most = mo at *
    go_enter Tryz.func81, Tryz.ntmps81
    go_wp2_with fail
    refine bodyPost_ret (results_none rfl _ _ _) rfl ?_
    rw [HR.out]
    exact ⟨rfl, HD.out.more (Grows.refl _), Touch.refl _ _⟩
  · rw [if_neg hc] at HR
    have hc2 : x.most = 0 ∨ (0 < x.most ∧ f ≤ x.most) := by omega
    clear hc
    cases hr : lessB (stD L v) f with
    | true =>
      rw [hr] at CL HR
      clear hr
      rcases hc2 with hc2 | ⟨hc2, hc3⟩
      · have d1 : decide ((0 : Int) < (x.most : Int)) = false := decide_eq_false (by omega)
        have d3 : decide (0 < x.most) = false := decide_eq_false (by omega)
        clear hc2
        generalize x.most = mo at *
        go_enter Tryz.func81, Tryz.ntmps81
        go_wp2_with (first
          | (go_at_call 92; refine (CL.out).mono ?_; rintro e w1 ⟨rfl, ⟨m', hs1⟩, ht1⟩; have ha := h1.touch ht1 HNE.out; have HS1 := hide hs1; have HT1 := hide ht1; have HP1 := hide (HS2.out.touch ht1 HSN.out); clear hs1 ht1)
          | (go_at_call 93; refine (CP.out _ HP1.out HT1.out.size).mono ?_; rintro e w2 ⟨rfl, hp2, ht2⟩; have HP2 := hide hp2; have HT2 := hide ht2; clear hp2 ht2))
        all_goals
          go_end0
          rw [HR.out]
          have hz := reach_put Q1.out q4 q5 Q6.out Q7.out Q8.out HT1.out HS1.out HP2.out HT2.out (by simp; exact Q9.out) HIP.out
          exact ⟨rfl, hz.1, hz.2⟩
      · have d1 : decide ((0 : Int) < (x.most : Int)) = true := decide_eq_true (by omega)
        have d3 : decide (0 < x.most) = true := decide_eq_true hc2
        have d2 : decide ((x.most : Int) < (f : Int)) = false := decide_eq_false (by omega)
        have d4 : decide (x.most < f) = false := decide_eq_false (by omega)
        clear hc2 hc3
        generalize x.most = mo at *
        go_enter Tryz.func81, Tryz.ntmps81
        go_wp2_with (first
          | (go_at_call 92; refine (CL.out).mono ?_; rintro e w1 ⟨rfl, ⟨m', hs1⟩, ht1⟩; have ha := h1.touch ht1 HNE.out; have HS1 := hide hs1; have HT1 := hide ht1; have HP1 := hide (HS2.out.touch ht1 HSN.out); clear hs1 ht1)
          | (go_at_call 93; refine (CP.out _ HP1.out HT1.out.size).mono ?_; rintro e w2 ⟨rfl, hp2, ht2⟩; have HP2 := hide hp2; have HT2 := hide ht2; clear hp2 ht2))
        all_goals
          go_end0
          rw [HR.out]
          have hz := reach_put Q1.out q4 q5 Q6.out Q7.out Q8.out HT1.out HS1.out HP2.out HT2.out (by simp; exact Q9.out) HIP.out
          exact ⟨rfl, hz.1, hz.2⟩
    | false =>
      rw [hr] at CL HR
      clear hr CP
      rcases hc2 with hc2 | ⟨hc2, hc3⟩
      · have d1 : decide ((0 : Int) < (x.most : Int)) = false := decide_eq_false (by omega)
        have d3 : decide (0 < x.most) = false := decide_eq_false (by omega)
        clear hc2
        generalize x.most = mo at *
        go_enter Tryz.func81, Tryz.ntmps81
        go_wp2_with (go_at_call 92; refine (CL.out).mono ?_; rintro e w1 ⟨rfl, ⟨m', hs1⟩, ht1⟩; have ha := h1.touch ht1 HNE.out; have HS1 := hide hs1; have HT1 := hide ht1; have HP1 := hide (HS2.out.touch ht1 HSN.out); clear hs1 ht1)
        all_goals
          go_end0
          rw [HR.out]
          have hz := reach_put (S2 := S2) Q1.out q4 q5 Q6.out Q7.out Q8.out HT1.out HS1.out (HP1.out.mono (fun k hk => .inl hk)) (Touch.refl S2 _) Q9.out Q10.out
          exact ⟨rfl, hz.1, hz.2⟩
      · have d1 : decide ((0 : Int) < (x.most : Int)) = true := decide_eq_true (by omega)
        have d3 : decide (0 < x.most) = true := decide_eq_true hc2
        have d2 : decide ((x.most : Int) < (f : Int)) = false := decide_eq_false (by omega)
        have d4 : decide (x.most < f) = false := decide_eq_false (by omega)
        clear hc2 hc3
        generalize x.most = mo at *
        go_enter Tryz.func81, Tryz.ntmps81
        go_wp2_with (go_at_call 92; refine (CL.out).mono ?_; rintro e w1 ⟨rfl, ⟨m', hs1⟩, ht1⟩; have ha := h1.touch ht1 HNE.out; have HS1 := hide hs1; have HT1 := hide ht1; have HP1 := hide (HS2.out.touch ht1 HSN.out); clear hs1 ht1)
        all_goals
          go_end0
          rw [HR.out]
          have hz := reach_put (S2 := S2) Q1.out q4 q5 Q6.out Q7.out Q8.out HT1.out HS1.out (HP1.out.mono (fun k hk => .inl hk)) (Touch.refl S2 _) Q9.out Q10.out
          exact ⟨rfl, hz.1, hz.2⟩
end Go.Proofs.YtkfobolbilhjbaaGreat

namespace Go.Proofs.YtkfobolbilhjbaaGreat
open Go Go.RowKit
def toE (x : Srch) (i : Nat) : Nat := if x.back then fN x.E i else tN x.E i
abbrev St := List (Nat × Nat) × HS
def stepE (x : Srch) (f : Nat) (st : St) (i : Nat) : St := if (!x.ne i && !x.nn (toE x i)) = true then reachS x.most st (toE x i) (f + gn x.W i) else st
def stepK (x : Srch) (f : Nat) (st : St) (l : List Nat) : St := l.foldl (stepE x f) st
def rowX (x : Srch) (v : Nat) : List Nat := rowN (nN x.E x.back) x.E.length v
theorem stepK_snoc (x : Srch) (f : Nat) (st : St) (l : List Nat) (i : Nat) : stepK x f st (l ++ [i]) = stepE x f (stepK x f st l) i := by simp [stepK, List.foldl_append]
structure StepOk (x : Srch) (st : St) (v f : Nat) : Prop where
  top : gi2 st.2.L 0 = (v, f)
  pos : 0 < st.2.L.length
  lies : ∃ i : Nat, gz st.2.T v = (i : Int) ∧ i < st.2.L.length
  len : st.2.L.length ≤ 90000
  rounds : ∀ l r, rowX x v = l ++ r → HOk (stepK x f (st.1, st.2.drop v) l).2 x.N
  far : ∀ i, i < x.E.length → f + gn x.W i < 18446744073709551616
inductive Trace (x : Srch) : St → List (Nat × Nat) → Prop
  | done {st : St} : st.2.L.length = 0 → Trace x st []
  | step {st : St} {v f : Nat} {xs : List (Nat × Nat)} : StepOk x st v f → Trace x (stepK x f (st.1, st.2.drop v) (rowX x v)) xs → Trace x st ((v, f) :: xs)
structure SrchOk (x : Srch) : Prop where
  ends : InN x.N x.E
  edges : x.E.length ≤ 65536
  nodes : x.N ≤ 65536
  wts : x.W.length = x.E.length
  most : x.most < 18446744073709551616
def encD (p : Nat × Nat) : Array Value := #[.int .i64 (p.1 : Int), .int .u64 (p.2 : Int)]
theorem drop_all_in {s : HS} {N v i : Nat} (h : s.In N) (hz : gz s.T v = (i : Int)) (hi : i < s.L.length) : (s.drop v).In N := by
  unfold HS.drop
  rw [hz, Int.toNat_natCast]
  have hx : (gi2 s.L (s.L.length - 1)).1 < N := h.2 _ (by omega)
  by_cases he : i = s.L.length - 1
  · rw [if_pos he]
    exact drop_in h v
  · rw [if_neg he]
    have h1 := HS.sink_in (drop_in (last := s.L.length - 1) h v) i (gi2 s.L (s.L.length - 1)) hx
    by_cases h2 : gz ((⟨s.L.take (s.L.length - 1), s.T.set v (-1)⟩ : HS).sink i (gi2 s.L (s.L.length - 1))).T (gi2 s.L (s.L.length - 1)).1 = (i : Int)
    · show HS.In (if _ then _ else _) N
      rw [if_pos h2]
      refine HS.rise_in h1.1 _ _ hx ?_
      rw [h1.2]
      simp
      omega
    · show HS.In (if _ then _ else _) N
      rw [if_neg h2]
      exact h1.1
end Go.Proofs.YtkfobolbilhjbaaGreat

namespace Go.Proofs.YtkfobolbilhjbaaGreat
open Go Go.RowKit

def usersB (md : Region.Mode) (ops : Array Oper) (k : Nat) : Bool :=
  (List.range k).all fun i => (List.range (k + 1)).any fun j => decide (i < j) && match ops[j]? with
    | some oj => oj.after.any fun e => Region.binds md e && e.on == i
    | none => false
def lexTail (md : Region.Mode) (ops : Array Oper) (tail : Nat) : Nat → Nat → Array Bool → Bool
  | 0, _, listed => (Region.ready md ops listed == [tail]) && (Region.ready md ops (listed.setIfInBounds tail true)).isEmpty
  | fuel + 1, k, listed => (Region.ready md ops listed).contains k && Region.free md ops listed k && lexTail md ops tail fuel (k + 1) (listed.setIfInBounds k true)
def Closed (md : Region.Mode) (ops : Array Oper) (l : Array Bool) : Prop :=
  ∀ j oj, ops[j]? = some oj → l.getD j false = true → ∀ e ∈ oj.after, Region.binds md e = true → l.getD e.on false = true

section
variable {P : Program} {ops : Array Oper} {md : Region.Mode} {w0 : World} {k : Nat}

theorem users_spec (h : usersB md ops k = true) {i : Nat} (hi : i < k) : ∃ j oj, i < j ∧ j ≤ k ∧ ops[j]? = some oj ∧ ∃ e ∈ oj.after, Region.binds md e = true ∧ e.on = i := by
  unfold usersB at h
  rw [List.all_eq_true] at h
  have h1 := h i (List.mem_range.2 hi)
  rw [List.any_eq_true] at h1
  obtain ⟨j, hj, h2⟩ := h1
  rw [Bool.and_eq_true, decide_eq_true_eq] at h2
  obtain ⟨h3, h4⟩ := h2
  cases ho : ops[j]? with
  | none => rw [ho] at h4; cases h4
  | some oj =>
    rw [ho] at h4
    simp only at h4
    rw [Array.any_eq_true'] at h4
    obtain ⟨e, he, h5⟩ := h4
    rw [Bool.and_eq_true, beq_iff_eq] at h5
    exact ⟨j, oj, h3, by have := List.mem_range.1 hj; omega, ho, e, he, h5.1, h5.2⟩
theorem tail_last (hu : usersB md ops k = true) {l : Array Bool} (hc : Closed md ops l) (hk : k ∈ Region.ready md ops l) (d : Nat) : ∀ i, i < k → k - i ≤ d → l.getD i false = true := by
  obtain ⟨_, ok, hok, hall⟩ := mem_ready.1 hk
  induction d with
  | zero => intro i hi h; omega
  | succ d ih =>
    intro i hi h
    obtain ⟨j, oj, h1, h2, h3, e, he, hb, heq⟩ := users_spec hu hi
    rcases Nat.lt_or_ge j k with hj | hj
    · have := hc j oj h3 (ih j hj (by omega)) e he hb
      rw [heq] at this
      exact this
    · obtain rfl : j = k := by omega
      rw [h3] at hok
      obtain rfl := Option.some.inj hok
      have := hall e he hb
      rw [heq] at this
      exact this
theorem closed_step {l : Array Bool} (hc : Closed md ops l) {i : Nat} (hi : i ∈ Region.ready md ops l) : Closed md ops (l.setIfInBounds i true) := by
  obtain ⟨_, oi, hoi, hall⟩ := mem_ready.1 hi
  intro j oj hoj hj e he hb
  refine getD_set_true ?_
  by_cases h : i = j
  · subst h
    rw [hoi] at hoj
    obtain rfl := Option.some.inj hoj
    exact hall e he hb
  · rw [getD_set_ne false h] at hj
    exact hc j oj hoj hj e he hb

def gAnyU (P : Program) (md : Region.Mode) (ops : Array Oper) (w0 : World) (k : Nat) (T : Act → Env → Prop) : Nat → Array Bool → Act → Env → Prop
  | 0, l, a, G => Region.ready md ops l = [k] ∧ Region.ready md ops (l.setIfInBounds k true) = [] ∧ T a G
  | n + 1, l, a, G => Region.ready md ops l ≠ [] ∧ ∀ i ∈ Region.ready md ops l, i ≠ k ∧ gOp P ops w0 i (gAnyU P md ops w0 k T n (l.setIfInBounds i true)) a G

theorem gAnyU_first (hu : usersB md ops k = true) {T : Act → Env → Prop} {i : Nat} {oi : Oper} {r : Out} (hi : ops[i]? = some oi) (hik : i < k) : ∀ (n : Nat) (l : Array Bool) (a : Act) (G : Env), Closed md ops l →
    (∀ j oj, ops[j]? = some oj → j ≠ i → l.getD j true = false → (∀ e ∈ oj.after, Region.binds md e = true → e.on ≠ i) → oi.apart ops oj = true) →
    i ∈ Region.ready md ops l → Leaves P ops w0 oi a G r →
    gAnyU P md ops w0 k T n (l.setIfInBounds i true) (putA a oi.dst r) (putG G oi.dst r) → gAnyU P md ops w0 k T (n + 1) l a G := by
  intro n
  have notk : ∀ (l : Array Bool), Closed md ops l → i ∈ Region.ready md ops l → ∀ j ∈ Region.ready md ops l, j ≠ k := by
    intro l hc hr j hj e
    subst e
    have h1 := tail_last hu hc hj j i hik (by omega)
    have h2 := (mem_ready.1 hr).1
    rcases Nat.lt_or_ge i l.size with h' | h'
    · simp [h'] at h1 h2
      rw [h1] at h2; cases h2
    · simp [Array.getElem?_eq_none h'] at h1
  induction n with
  | zero =>
    intro l a G hc _ hr hy H
    refine ⟨fun h => (by rw [h] at hr; cases hr), fun j hj => ⟨notk l hc hr j hj, ?_⟩⟩
    by_cases hji : j = i
    · subst hji; unfold gOp; simp only [hi]; exact ⟨r, hy, H⟩
    · have := ready_mono hj hji
      rw [H.1] at this
      exact absurd (List.mem_singleton.1 this) (notk l hc hr j hj)
  | succ n ih =>
    intro l a G hc hfree hr hy H
    refine ⟨fun h => (by rw [h] at hr; cases hr), fun j hj => ⟨notk l hc hr j hj, ?_⟩⟩
    by_cases hji : j = i
    · subst hji; unfold gOp; simp only [hi]; exact ⟨r, hy, H⟩
    · have hstep := (H.2 j (ready_mono hj hji)).2
      obtain ⟨hun, oj, hoj, hall⟩ := mem_ready.1 hj
      have hi0 := (mem_ready.1 hr).1
      have hnot : ∀ e ∈ oj.after, Region.binds md e = true → e.on ≠ i := fun e he hb heq => by
        have hl := hall e he hb
        rw [heq] at hl
        rcases Nat.lt_or_ge i l.size with h' | h'
        · simp [h'] at hi0 hl; rw [hi0] at hl; cases hl
        · simp [Array.getElem?_eq_none h'] at hl
      have hcomm := gOp_put hoj (hfree j oj hoj hji hun hnot) hy hstep
      refine gOp_mono (fun a' G' hk => ?_) hcomm
      refine ih (l.setIfInBounds j true) a' G' (closed_step hc hj) (fun k ok hk' hki hunk hnok => hfree k ok hk' hki ?_ hnok) (ready_mono hr (Ne.symm hji)) hk.1 ?_
      · by_cases hjk : j = k
        · subst hjk; exact hun
        · rw [getD_set_ne true hjk] at hunk; exact hunk
      · rw [Array.setIfInBounds_comm _ _ hji]
        exact hk.2
theorem gAnyU_of_lex (hu : usersB md ops k = true) {T : Act → Env → Prop} : ∀ (l : List Oper) (i : Nat) (listed : Array Bool) (a : Act) (G : Env), (∀ j, j < l.length → l[j]? = ops[i + j]?) → i + l.length = k → Closed md ops listed →
    lexTail md ops k l.length i listed = true → gLex P ops w0 T l a G → gAnyU P md ops w0 k T l.length listed a G
  | [], _, _, _, _, _, _, _, hB, h => by
    simp only [List.length_nil, lexTail, Bool.and_eq_true, beq_iff_eq, List.isEmpty_iff] at hB
    exact ⟨hB.1, hB.2, h⟩
  | o :: l, i, listed, a, G, hl, hlen, hc, hB, h => by
    have h0 : ops[i]? = some o := by simpa using (hl 0 (by simp)).symm
    simp only [List.length_cons, lexTail, Bool.and_eq_true] at hB
    obtain ⟨⟨hr, hf⟩, hB'⟩ := hB
    obtain ⟨r, hy, hK⟩ := h
    have hr' : i ∈ Region.ready md ops listed := by simpa using hr
    exact gAnyU_first hu h0 (by simp at hlen; omega) l.length listed a G hc (Region.free_spec h0 hf) hr' hy
      (gAnyU_of_lex hu l (i + 1) _ _ _ (fun j hj => by have := hl (j + 1) (by simp; omega); simpa [Nat.add_assoc, Nat.add_comm 1 j] using this) (by simp at hlen; omega) (closed_step hc hr') hB' hK)

variable {F : Fence} {m : Nat}
theorem wpAnyIn_of_gAnyU (hF : WideF F) {o : Oper} (ho : ops[k]? = some o) (hg : o.guard = none) {Q : Exit → Act → World → Prop} : ∀ (n : Nat) (l : Array Bool) (a : Act) (G : Env) (a' : Act) (w : World), (∀ i oi, ops[i]? = some oi → i ≠ k → (match oi.op with | .defer _ => false | _ => true) = true) → Grows w0 w → AllLast G → Conc G a a' w →
    gAnyU P md ops w0 k (fun a G => ∀ w, Grows w0 w → ∀ a', Conc G a a' w → o.wpIn F m P a' w (fun a w => Q .normal a w) Q) n l a G → wpAnyIn F m P md ops Q (n + 1) l a' w
  | 0, l, a, G, a', w, _, hw, _, hc, h => by
    obtain ⟨h1, h2, h3⟩ := h
    refine ⟨fun h0 => (by rw [h1] at h0; cases h0), fun i hi => ?_⟩
    rw [h1] at hi
    obtain rfl := List.mem_singleton.1 hi
    unfold wpOpIn
    simp only [ho]
    have hwt : Region.wanted o (yielded ops a'.tmps) = true := by unfold Region.wanted; rw [hg]
    rw [if_pos hwt]
    exact Oper.wpIn_mono (fun a w h => ⟨h2, h⟩) (h3 w hw a' hc)
  | n + 1, l, a, G, a', w, hnd, hw, hG, hc, h => by
    refine ⟨fun h0 => absurd h0 h.1, fun i hi => ?_⟩
    obtain ⟨hik, h1⟩ := h.2 i hi
    unfold gOp at h1
    unfold wpOpIn
    split
    · rename_i ho
      simp only [ho] at h1
      exact wpAnyIn_of_gAnyU hF (by assumption) hg n _ a G a' w hnd hw hG hc h1
    · rename_i o2 ho2
      simp only [ho2] at h1
      obtain ⟨r, ⟨hgf, hd, hy⟩, hK⟩ := h1
      rw [wanted_conc hgf hc]
      rcases hy with ⟨hwant, hl, hf, howe⟩ | ⟨hwant, rfl⟩
      · rw [if_pos hwant]
        exact wpIn_of_runs hF (hnd i o2 ho2 hik) (howe w hw a' (fun t _ => hc.2 t)) fun u w' hq =>
          wpAnyIn_of_gAnyU hF (by assumption) hg n _ _ _ _ _ hnd (hw.trans hq.1) (hG.putG hl) (hc.step hG hq.1 hd hf hq.2) hK
      · rw [hwant]
        simp only [Bool.false_eq_true, if_false]
        refine ⟨fun f _ => hF.fn f, ?_⟩
        have hG0 : putG G o2.dst (.inl undef) = G := by cases o2.dst <;> rfl
        rw [hG0] at hK
        have hc0 := hc.step hG (Grows.refl w) hd (r := .inl undef) (u := undef) trivial rfl
        rw [hG0] at hc0
        exact wpAnyIn_of_gAnyU hF (by assumption) hg n _ _ _ _ _ hnd hw hG hc0 hK

theorem wpIn_region_tail (hF : WideF F) {id : Nat} {Q : Exit → Act → World → Prop} {a : Act} {w : World} {l : List Oper} {o : Oper} (hm : P.follows .mixedOrders = true) (hB : lexTail .any (l ++ [o]).toArray l.length l.length 0 (Array.replicate (l.length + 1) false) = true)
    (hu : usersB .any (l ++ [o]).toArray l.length = true) (hnd : noDefer l = true) (hg : o.guard = none)
    (h : gLex P (l ++ [o]).toArray w (fun a G => ∀ w', Grows w w' → ∀ a', Conc G a a' w' → o.wpIn F m P a' w' (fun a w => Q .normal a w) Q) l a Env.no) : (Code.region id (l ++ [o]).toArray true).wpIn F m P Q a w := by
  have hsz : (l ++ [o]).toArray.size = l.length + 1 := by simp
  refine wpIn_region_any hm ?_
  rw [hsz]
  refine wpAnyIn_of_gAnyU (w0 := w) (k := l.length) hF (o := o) (by simp) hg l.length _ a Env.no _ _ (fun i oi hi hik => ?_) (Grows.drawn w _) (fun t p h => by cases h) ⟨rfl, fun t => rfl⟩ ?_
  · have hlt : i < l.length := by
      have := (Array.getElem?_eq_some_iff.1 hi).1
      rw [hsz] at this
      omega
    have h2 : l[i]? = some oi := by
      rw [List.getElem?_toArray, List.getElem?_append_left hlt] at hi
      exact hi
    have h3 : oi ∈ l := List.mem_of_getElem? h2
    unfold noDefer at hnd
    rw [List.all_eq_true] at hnd
    exact hnd oi h3
  · refine gAnyU_of_lex hu l 0 _ a Env.no (fun j hj => ?_) (by omega) (fun j oj _ hj => ?_) hB h
    · rw [Nat.zero_add, List.getElem?_toArray, List.getElem?_append_left hj]
    · exfalso
      by_cases hj2 : j < l.length + 1
      · simp [hj2] at hj
      · simp [hj2] at hj
theorem wpIn_region_tailN (n : Nat) (hF : WideF F) {id : Nat} {Q : Exit → Act → World → Prop} {a : Act} {w : World} {ls : List Oper} {o : Oper} (ho : ls.drop n = [o]) (hm : P.follows .mixedOrders = true) (hB : lexTail .any ls.toArray n n 0 (Array.replicate (n + 1) false) = true)
    (hu : usersB .any ls.toArray n = true) (hnd : noDefer ls = true) (hg : o.guard = none)
    (h : gLex P ls.toArray w (fun a G => ∀ w', Grows w w' → ∀ a', Conc G a a' w' → o.wpIn F m P a' w' (fun a w => Q .normal a w) Q) (ls.take n) a Env.no) : (Code.region id ls.toArray true).wpIn F m P Q a w := by
  have hs : ls = ls.take n ++ [o] := by rw [← ho, List.take_append_drop]
  have hl : (ls.take n).length = n := by
    have h1 : (ls.drop n).length = 1 := by rw [ho]; rfl
    rw [List.length_drop] at h1
    rw [List.length_take]
    omega
  have hnd2 : noDefer (ls.take n) = true := by
    unfold noDefer at *
    rw [List.all_eq_true] at *
    exact fun x hx => hnd x (List.mem_of_mem_take hx)
  have key := wpIn_region_tail (m := m) (id := id) (Q := Q) (a := a) (w := w) (l := ls.take n) (o := o) hF hm (by rw [hl, ← hs]; exact hB) (by rw [hl, ← hs]; exact hu) hnd2 hg (by rw [← hs]; exact h)
  rw [← hs] at key
  exact key
theorem gLex_tail {Q : Exit → Act → World → Prop} {a : Act} {o : Oper} (h : ∀ x : Later w0, o.wpIn F m P a x.now (fun a w => Q .normal a w) Q) :
    gLex P ops w0 (fun a G => ∀ w', Grows w0 w' → ∀ a', Conc G a a' w' → o.wpIn F m P a' w' (fun a w => Q .normal a w) Q) [] a Env.no :=
  fun w' hw a' hc => by
    rw [conc_no hc]
    exact h ⟨w', hw⟩
end
end Go.Proofs.YtkfobolbilhjbaaGreat

