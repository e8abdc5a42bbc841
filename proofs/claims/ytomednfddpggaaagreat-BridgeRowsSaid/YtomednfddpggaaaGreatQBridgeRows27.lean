/- The values of a row of numbers, handed over one by one (slices.Values); collected (slices.AppendSeq, slices.Collect). -/
import Derived.Test.YtomednfddpggaaaGreatQBridgeRows08
import Derived.Test.YtomednfddpggaaaGreatQBridgeRows04
import Derived.Test.YtomednfddpggaaaGreatQBridgeRows03
import Derived.Shelf.SlGeneric
import Derived.Shelf.SlIterI.Nil
import Derived.Shelf.SlIterI.Sorted
import Derived.Shelf.SortM.Plain
import Derived.Shelf.SortM.SortNone
import Derived.Shelf.Slices.CompactI
import Derived.Ground.GgzProg
import Derived.Ground.SlgmProg
import Derived.Ground.Names2Prog
import Derived.Test.YtomednfddpggaaaGreatProg
import Derived.Test.YtomednfddpggaaaGreatQBridgeRows10
import Derived.Sort.OwnSortedInts
import Derived.Test.YtomednfddpggaaaGreatQBridgeRows26
import Derived.Test.YtomednfddpggaaaGreatQBridgeRows22
import Derived.Test.YtomednfddpggaaaGreatQBridgeRows02
import Derived.ArgAppend
import Derived.OwnWalkIn
import Derived.TacticsInMore
import Derived.Test.YtomednfddpggaaaGreatQBridgeRows07
import Derived.Test.YtomednfddpggaaaGreatQBridgeRows14
/- The values of a row of numbers, handed over one by one (slices.Values); collected (slices.AppendSeq, slices.Collect). -/
namespace Go.Proofs.YtomednfddpggaaaGreat
open Go Go.RowKit
attribute [local go_sem] Oper.semAt_some
theorem valuesI (A : Option Addr) (n c : Nat) (w : World) : Calls Tryz.prog 121 #[.slice A n c] w fun e w' =>
    e = .returned (.func (.func 150) #[] #[.pointer (some ⟨w.heap.size, 0, none⟩)]) ∧ w' = w.alloc (.cells #[.slice A n c] 36) := by
  go_enter Tryz.func121, Tryz.ntmps121
  go_wp2
  go_ret
  exact ⟨rfl, rfl⟩
theorem Rd.touchV {w w' : World} {S : Nat → Prop} {A : Option Addr} {size n : Nat} {xs : List Value} (h : Rd w A size n xs) (ht : Touch S w w') (hp : 0 < n → ∀ p, A = some p → ¬ S p.block) : Rd w' A size n xs :=
  ⟨h.1, fun h1 h2 => by
    obtain ⟨g, off, e, hc⟩ := h.2 h1 h2
    exact ⟨g, off, e, fun j u hu => ht.cell (p := ⟨g, off + j, none⟩) (hp h1 ⟨g, off, none⟩ e) (hc j u hu)⟩⟩
def encI (x : Int) : Array Value := #[.int .i64 x]
set_option maxRecDepth 20000 in
set_option maxHeartbeats 2000000 in
theorem valI_gives (B M0 : Nat → Prop) (bm : Nat) (A : Option Addr) (c : Nat) (l : List Int) (w : World) (hl : l.length ≤ 1000000) (h : Rd w A 1 l.length (l.map (.int .i64))) (hA : 0 < l.length → ∀ p, A = some p → B p.block ∨ M0 p.block)
    (hb : Arr w bm 36 [.slice A l.length c]) (m1 : B bm ∨ M0 bm) (hm : ∀ k, M0 k → k < w.heap.size) :
    Gives Tryz.prog 150 #[.pointer (some ⟨bm, 0, none⟩)] encI B M0 l w := by
  intro ln J Jx W hkW hJ hJx hY h0
  have HJ := hide hJ
  have HY := hide hY
  have H0 := hide h0
  have hA2 : 0 < l.length → ∀ p, A = some p → ¬ ¬ (B p.block ∨ M0 p.block) := fun hn p hp h1 => h1 (hA hn p hp)
  have HA := hide hA2
  have HR := hide (h.touchV hkW hA2)
  have i1 : Arr W bm 36 [.slice A l.length c] := ⟨hkW.at m1 hb.is⟩
  have hmW : ∀ k, M0 k → k < W.heap.size := fun k hk => Nat.lt_of_lt_of_le (hm k hk) hkW.size
  have HM := hide hmW
  clear hJ hY h0 hkW h hA hA2 hb hm hmW m1
  refine callsIn_of_wp Tryz.func150 rfl trivial ?_ rfl
  simp only [Tryz.ntmps150, List.size_toArray, List.length_cons, List.length_nil, Nat.reduceAdd, Nat.reduceSub, Array.replicate_succ, Array.replicate_zero, List.push_toArray, List.append_toArray, List.nil_append, List.cons_append]
  gi_wp2_with fail
  gi_loopw [7] (fun s wr => ∃ k : Nat, k ≤ l.length ∧ s = .int .i64 (k : Int) ∧ Keeps B M0 W wr ∧ J (l.take k) M0 wr) (fun s _ => l.length - (Go.RowKit.intOf s).toNat)
  case atStart => exact ⟨0, by omega, by go_num, Keeps.refl _ _ _, H0.out⟩
  case round =>
    obtain ⟨k, hk, rfl, hkp, hj⟩ := hrel
    have HJ1 := hide hj
    have HKP := hide hkp
    have HRr := hide (HR.out.touchV hkp HA.out)
    clear hj hkp H0
    by_cases hlt : k < l.length
    · obtain ⟨g, off, rfl, hc⟩ := HRr.out.intsH (by omega)
      have c1 := hc k hlt
      have hsp : l = l.take k ++ gi l k :: l.drop (k + 1) := by
        have : gi l k = l[k] := by simp [gi, hlt]
        rw [this, List.getElem_cons_drop, List.take_append_drop]
      obtain ⟨fn, tmps, assign, body, hy, hR⟩ := HY.out _ _ _ _ _ hsp HJ1.out
      unfold encI at hy
      have HRR := hide hR
      have HSP := hide hsp
      have HSN := hide (show l.take (k + 1) = l.take k ++ [gi l k] from by
        rw [List.take_succ_eq_append_getElem hlt]
        simp [gi, hlt])
      clear hc hR hsp
      gi_wp2
      refine HRR.out.mono ?_
      rintro e W3 (⟨rfl, hJ3, hk3⟩ | ⟨rfl, hJx3, _⟩)
      · have HJ3 := hide hJ3
        have HK3 := hide hk3
        clear hJ3 hk3
        gi_wp2
        go_roundw
        case rel => exact ⟨k + 1, by omega, by go_num, HKP.out.trans HK3.out, by rw [HSN.out]; exact HJ3.out⟩
        case measure => simp [Go.RowKit.intOf]; omega
      · have HJX := hide hJx3
        clear hJx3
        gi_wp2
        refine bodyPost_ret (results_none rfl _ _ _) rfl ?_
        exact ⟨⟨_, rfl⟩, .inr ⟨l.take k, gi l k, l.drop (k + 1), _, HSP.out, HJX.out⟩⟩
    · have hke : l.take k = l := List.take_of_length_le (by omega)
      have HJ2 := HJ1.out
      rw [hke] at HJ2
      have HJE := hide HJ2
      clear HJ2 hke
      gi_wp2
      go_end0
      exact ⟨⟨_, rfl⟩, .inl ⟨_, HJE.out⟩⟩
end Go.Proofs.YtomednfddpggaaaGreat

/-
  DERIVED: THE SHELF's CONTRACTS AT THIS DUMP, IN PLAIN WORDS (tools/lay-plain.mjs out of 'TryIter.lean', which tools/lay-shelf.mjs wrote): THE SAME DECLARATIONS UNDER THE SAME NAMES: 'import', 'namespace', 'open', 'def', 'theorem' AND NOTHING ELSE: no command of the shelf's: FOR A HAND-IN. Each laying: the table of numbers ('.._ren') and one theorem, a field a fact of the dump's own or the kernel's comparison; each contract: ONE APPLICATION.
-/
namespace Go.Proofs
open Go.Shelf
def Tryz.sortedA_ren : Go.Shelf.Ren := ⟨fun | 6 => 120 | 8 => 149 | 9 => 44 | 11 => 160 | 13 => 79 | 12 => 78 | 23 => 118 | 24 => 119 | 14 => 109 | 15 => 110 | 16 => 111 | 17 => 112 | 18 => 113 | 19 => 114 | 20 => 115 | 21 => 116 | 22 => 117 | 25 => 143 | 26 => 144 | 27 => 145 | 28 => 146 | 29 => 147 | 30 => 148 | 31 => 159 | n => n, fun | 26 => 3 | 28 => 178 | 24 => 36 | 0 => 0 | 3 => 3 | 37 => 126 | 48 => 174 | 50 => 38 | 4 => 4 | 40 => 167 | 39 => 166 | 45 => 90 | 5 => 5 | 9 => 9 | 51 => 206 | 55 => 209 | 57 => 218 | 58 => 120 | 33 => 37 | n => n, fun | n => n⟩
theorem Tryz.sortedA : Go.Proofs.SlLaysZI.n6 Tryz.prog Tryz.sortedA_ren := {
  mixed := by kernel_rfl
  f6 := ⟨Tryz.f120.name, by decide, Tryz.func120.trans (congrArg some (by kernel_rfl))⟩
  f8 := ⟨Tryz.f149.name, by decide, Tryz.func149.trans (congrArg some (by kernel_rfl))⟩
  f11 := ⟨Tryz.f160.name, by decide, Tryz.func160.trans (congrArg some (by kernel_rfl))⟩
  t0 := Tryz.underlying0
  a0 := Tryz.isAgg0
  z0 := Tryz.sizeOf0
  v0 := Tryz.zeroValue0
  t24 := Tryz.underlying36
  a24 := Tryz.isAgg36
  z24 := Tryz.sizeOf36
  v24 := Tryz.zeroValue36
  t26 := Tryz.underlying3
  a26 := Tryz.isAgg3
  z26 := Tryz.sizeOf3
  v26 := Tryz.zeroValue3
  t28 := Tryz.underlying178
  a28 := Tryz.isAgg178
  z28 := Tryz.sizeOf178
  v28 := Tryz.zeroValue178
  i26 := by kernel_rfl }
def Tryz.sortA_ren : Go.Shelf.Ren := ⟨fun | 5 => 44 | 8 => 79 | 7 => 78 | 19 => 118 | 20 => 119 | 10 => 109 | 11 => 110 | 12 => 111 | 13 => 112 | 14 => 113 | 15 => 114 | 16 => 115 | 17 => 116 | 18 => 117 | 30 => 143 | 31 => 144 | 32 => 145 | 33 => 146 | 34 => 147 | 35 => 148 | 40 => 159 | n => n, fun | 23 => 36 | 25 => 3 | 3 => 3 | 32 => 126 | 22 => 36 | 0 => 0 | 44 => 174 | 46 => 38 | 4 => 4 | 36 => 167 | 35 => 166 | 41 => 90 | 5 => 5 | 9 => 9 | 53 => 206 | 57 => 209 | 63 => 218 | 64 => 120 | n => n, fun | n => n⟩
theorem Tryz.sortA : Go.Proofs.SlLaysM.n5 Tryz.prog Tryz.sortA_ren := {
  mixed := by kernel_rfl
  f5 := ⟨Tryz.f44.name, by decide, Tryz.func44.trans (congrArg some (by kernel_rfl))⟩
  f7 := ⟨Tryz.f78.name, by decide, Tryz.func78.trans (congrArg some (by kernel_rfl))⟩
  f8 := Tryz.func79.trans (congrArg some (by kernel_rfl))
  f10 := ⟨Tryz.f109.name, by decide, Tryz.func109.trans (congrArg some (by kernel_rfl))⟩
  f11 := ⟨Tryz.f110.name, by decide, Tryz.func110.trans (congrArg some (by kernel_rfl))⟩
  f12 := ⟨Tryz.f111.name, by decide, Tryz.func111.trans (congrArg some (by kernel_rfl))⟩
  f13 := ⟨Tryz.f112.name, by decide, Tryz.func112.trans (congrArg some (by kernel_rfl))⟩
  f14 := ⟨Tryz.f113.name, by decide, Tryz.func113.trans (congrArg some (by kernel_rfl))⟩
  f15 := ⟨Tryz.f114.name, by decide, Tryz.func114.trans (congrArg some (by kernel_rfl))⟩
  f16 := ⟨Tryz.f115.name, by decide, Tryz.func115.trans (congrArg some (by kernel_rfl))⟩
  f17 := ⟨Tryz.f116.name, by decide, Tryz.func116.trans (congrArg some (by kernel_rfl))⟩
  f18 := ⟨Tryz.f117.name, by decide, Tryz.func117.trans (congrArg some (by kernel_rfl))⟩
  f19 := Tryz.func118.trans (congrArg some (by kernel_rfl))
  f20 := Tryz.func119.trans (congrArg some (by kernel_rfl))
  f30 := ⟨Tryz.f143.name, by decide, Tryz.func143.trans (congrArg some (by kernel_rfl))⟩
  f31 := Tryz.func144.trans (congrArg some (by kernel_rfl))
  f32 := Tryz.func145.trans (congrArg some (by kernel_rfl))
  f33 := ⟨Tryz.f146.name, by decide, Tryz.func146.trans (congrArg some (by kernel_rfl))⟩
  f34 := ⟨Tryz.f147.name, by decide, Tryz.func147.trans (congrArg some (by kernel_rfl))⟩
  f35 := ⟨Tryz.f148.name, by decide, Tryz.func148.trans (congrArg some (by kernel_rfl))⟩
  f40 := ⟨Tryz.f159.name, by decide, Tryz.func159.trans (congrArg some (by kernel_rfl))⟩
  t0 := Tryz.underlying0
  a0 := Tryz.isAgg0
  z0 := Tryz.sizeOf0
  v0 := Tryz.zeroValue0
  t3 := Tryz.underlying3
  a3 := Tryz.isAgg3
  z3 := Tryz.sizeOf3
  v3 := Tryz.zeroValue3
  t4 := Tryz.underlying4
  a4 := Tryz.isAgg4
  z4 := Tryz.sizeOf4
  v4 := Tryz.zeroValue4
  t5 := Tryz.underlying5
  a5 := Tryz.isAgg5
  z5 := Tryz.sizeOf5
  v5 := Tryz.zeroValue5
  t9 := Tryz.underlying9
  a9 := Tryz.isAgg9
  z9 := Tryz.sizeOf9
  v9 := Tryz.zeroValue9
  t22 := Tryz.underlying36
  a22 := Tryz.isAgg36
  z22 := Tryz.sizeOf36
  v22 := Tryz.zeroValue36
  t23 := Tryz.underlying36
  a23 := Tryz.isAgg36
  z23 := Tryz.sizeOf36
  v23 := Tryz.zeroValue36
  t25 := Tryz.underlying3
  a25 := Tryz.isAgg3
  z25 := Tryz.sizeOf3
  v25 := Tryz.zeroValue3
  t32 := Tryz.underlying126
  a32 := Tryz.isAgg126
  z32 := Tryz.sizeOf126
  v32 := Tryz.zeroValue126
  t35 := Tryz.underlying166
  a35 := Tryz.isAgg166
  z35 := Tryz.sizeOf166
  v35 := Tryz.zeroValue166
  t36 := Tryz.underlying167
  a36 := Tryz.isAgg167
  z36 := Tryz.sizeOf167
  v36 := Tryz.zeroValue167
  t41 := Tryz.underlying90
  a41 := Tryz.isAgg90
  z41 := Tryz.sizeOf90
  v41 := Tryz.zeroValue90
  t44 := Tryz.underlying174
  a44 := Tryz.isAgg174
  z44 := Tryz.sizeOf174
  v44 := Tryz.zeroValue174
  t46 := Tryz.underlying38
  a46 := Tryz.isAgg38
  z46 := Tryz.sizeOf38
  v46 := Tryz.zeroValue38
  t53 := Tryz.underlying206
  a53 := Tryz.isAgg206
  z53 := Tryz.sizeOf206
  v53 := Tryz.zeroValue206
  t57 := Tryz.underlying209
  a57 := Tryz.isAgg209
  z57 := Tryz.sizeOf209
  v57 := Tryz.zeroValue209
  t63 := Tryz.underlying218
  a63 := Tryz.isAgg218
  z63 := Tryz.sizeOf218
  v63 := Tryz.zeroValue218
  t64 := Tryz.underlying120
  a64 := Tryz.isAgg120
  z64 := Tryz.sizeOf120
  v64 := Tryz.zeroValue120 }
def Tryz.lays20_ren : Go.Shelf.Ren := ⟨fun | 20 => 122 | n => n, fun | 22 => 36 | 3 => 3 | 4 => 4 | 0 => 0 | n => n, fun | n => n⟩
theorem Tryz.lays20 : Go.Proofs.Lays2.n20 Tryz.prog Tryz.lays20_ren := {
  mixed := by kernel_rfl
  f20 := Tryz.func122.trans (congrArg some (by kernel_rfl))
  t0 := Tryz.underlying0
  a0 := Tryz.isAgg0
  z0 := Tryz.sizeOf0
  v0 := Tryz.zeroValue0
  t3 := Tryz.underlying3
  a3 := Tryz.isAgg3
  z3 := Tryz.sizeOf3
  v3 := Tryz.zeroValue3
  t4 := Tryz.underlying4
  a4 := Tryz.isAgg4
  z4 := Tryz.sizeOf4
  v4 := Tryz.zeroValue4
  t22 := Tryz.underlying36
  a22 := Tryz.isAgg36
  z22 := Tryz.sizeOf36
  v22 := Tryz.zeroValue36
  i3 := by kernel_rfl }
end Go.Proofs

/- Contracts: the values of a row, collected in a new row (slices.Collect of slices.Values), sorted (slices.Sorted). -/
namespace Go.Proofs.YtomednfddpggaaaGreat
open Go Go.RowKit
attribute [local go_sem] Oper.semAt_some
section
variable {F : Fence} {m : Nat} {w : World} {e : TypeId} {ops : Array Oper} {rest : List Oper} {o : Oper} {a : Act} {Q : Exit → Act → World → Prop}
theorem wp_appV {t : TypeId} (E : Elem t e 1) (hgd : o.guard = none) (s x : Operand) (ho : o.op = .call { callee := .builtin .append, args := #[s, x], argTypes := #[t, t] })
    (lo : Nat) (hlo : lo ≤ w.heap.size) (n c : Nat) (A : Option Addr) (xs : List Value) (hs : a.eval s = .slice A n c) (hown : Own w lo e 1 A n c xs) (g c' : Nat) (v : Value) (hx : a.eval x = .slice (some ⟨g, 0, none⟩) 1 c')
    (hv : Holds w ⟨g, 0, none⟩ v) (h1 : v.oneCell' = true) (hnm : n + 1 ≤ 1000000000000)
    (h : ∀ A' c'' w', Own w' lo e 1 A' (n + 1) c'' (xs ++ [v]) → Touch (fun k => ∃ p, A = some p ∧ p.block = k) w w' → (∀ p, A' = some p → (∃ q, A = some q ∧ q.block = p.block) ∨ New w w' p.block) → wpListIn F m Tryz.prog ops Q rest (a.put o.dst (.slice A' (n + 1) c'')) w') :
    wpListIn F m Tryz.prog ops Q (o :: rest) a w := by
  obtain ⟨i, z, bytes, hi, hz, hsz, hby, hzs, hb64⟩ := E.info
  refine wpListIn_plain hgd fun K hK' => ?_
  obtain ⟨v', w', hr, hown', hgr, _, hat⟩ := run_append_own_at (P := Tryz.prog) w lo t o.type e i z 1 bytes E.under hi hz hsz hby hzs E.pos (.slice A n c) n xs hown ⟨g, 0, none⟩ 1 c' [v] rfl (fun j u hu => by
    have hj : j = 0 := by
      have := (List.getElem?_eq_some_iff.1 hu).1
      simpa using this
    subst hj
    simp at hu
    subst hu
    simpa [Addr.add] using hv.cell) (by intro u hu; simp at hu; rw [hu]; exact h1) (by unfold maxLen; omega) (Nat.le_trans (Nat.mul_le_mul hnm hb64) (by omega)) hlo
  obtain ⟨A', c'', rfl⟩ := own_form hown'
  have ht : Touch (fun k => ∃ p, A = some p ∧ p.block = k) w w' := (Touch.refl _ w).grown hgr fun k hk => .inl (by
    cases A with
    | none => simp [Value.ownBlock] at hk
    | some p => simp [Value.ownBlock] at hk; exact ⟨p, rfl, hk⟩)
  have hloc : ∀ p, A' = some p → (∃ q, A = some q ∧ q.block = p.block) ∨ New w w' p.block := fun p hp => by
    have hlt := (hown'.lt p.block (by subst hp; rfl)).2
    subst hp
    simp only [Value.ownBlock] at hat
    rcases hat with hat | hat
    · left
      cases A with
      | none => simp at hat
      | some q => exact ⟨q, rfl, by simpa using hat.symm⟩
    · right
      have e9 : p.block = w.heap.size := by simpa using hat
      exact ⟨Nat.le_of_eq e9.symm, hlt⟩
  unfold Oper.wpIn
  refine ⟨?_, ?_⟩
  · simp [Oper.about, ho, resolve, Target.leads, Sem.run_pure]
  · rw [Oper.semAt_plain F _ _ (by rw [ho]; intro c hc'; cases hc')]
    simp [execOp, ho, resolve, invoke, builtin, hs, hx, hr, Result.andThen]
    exact hK' _ _ (h A' c'' w' hown' ht hloc)
end
theorem Own.inB {w : World} {B n c size : Nat} {e : TypeId} {A : Option Addr} {xs : List Value} (h : Own w B e size A n c xs) : ∀ p, A = some p → B ≤ p.block ∧ p.block < w.heap.size := fun p hp => World.ownsRow.lt h p.block (by subst hp; rfl)
def ApI (w : World) (lo b2 : Nat) (p : List Int) (Mi : Nat → Prop) (W : World) : Prop :=
  ∃ A c, (∃ y : Later w, W = y.now) ∧ Arr W b2 36 [.slice A p.length c] ∧ Own W lo 3 1 A p.length c (p.map (.int .i64)) ∧ (∀ q, A = some q → ¬ Mi q.block) ∧ (∀ k, Mi k → lo ≤ k ∧ k < W.heap.size) ∧ lo ≤ W.heap.size
theorem ApI.yields {w : World} {lo b2 : Nat} (h1 : b2 < lo) (hlo : w.heap.size ≤ lo) : Yields' (ApI w lo b2) := by
  rintro p Mi W Mi' W' ⟨A, c, ⟨y, rfl⟩, a1, a2, a3, a4, a5⟩ ht hM'
  refine ⟨A, c, ⟨⟨W', ht.later y.grows (fun k hk => Nat.le_trans hlo (a4 k hk).1)⟩, rfl⟩, a1.touch ht (fun e => by have := (a4 _ e).1; omega), a2.touch ht a3, fun q hq e => ?_, fun k hk => ?_, Nat.le_trans a5 ht.size⟩
  · rcases (hM' _ e).1 with h | h
    · exact a3 q hq h
    · have := (a2.inB q hq).2; omega
  · obtain ⟨h | h, h'⟩ := hM' k hk
    · exact ⟨(a4 k h).1, h'⟩
    · exact ⟨by omega, h'⟩
def FrameAp (b2 : Nat) (x : Int) (a' : Act) : Prop := ∃ u0 u1 u3 u4 u6 u7 u8 u9 u10 u11 u12 : Value, a' = { tmps := #[u0, u1, .pointer (some ⟨b2, 0, none⟩), u3, u4, .int .i64 x, u6, u7, u8, u9, u10, u11, u12], defers := [] }
def ApB (w : World) (lo b2 : Nat) (x : Int) (a' : Act) (p : List Int) (Mi : Nat → Prop) (W : World) : Prop := FrameAp b2 x a' ∧ ApI w lo b2 p Mi W
set_option maxRecDepth 40000 in
set_option maxHeartbeats 8000000 in
theorem appendSeqI (bm : Nat) (A : Option Addr) (c : Nat) (l : List Int) (w : World) (h : Rd w A 1 l.length (l.map (.int .i64))) (hA : 0 < l.length → ∀ p, A = some p → p.block < w.heap.size) (hb : Arr w bm 36 [.slice A l.length c]) (hl : l.length ≤ 1000000) :
    Calls Tryz.prog 160 #[.slice none 0 0, .func (.func 150) #[] #[.pointer (some ⟨bm, 0, none⟩)]] w fun e w' =>
      ∃ A' c', e = .returned (.slice A' l.length c') ∧ Own w' w.heap.size 3 1 A' l.length c' (l.map (.int .i64)) ∧ Grows w w' := by
  have HR := hide h
  have HAL := hide hA
  have hbl := hb.lt
  have HB := hide hb
  clear h hA hb
  refine calls_of_marks Tryz.func160 rfl ?_
  simp only [Tryz.ntmps160, List.size_toArray, List.length_cons, List.length_nil, Nat.reduceAdd, Nat.reduceSub, Array.replicate_succ, Array.replicate_zero, List.push_toArray, List.append_toArray, List.nil_append, List.cons_append]
  go_upto_region 1 with fail
  have q2 : Arr (w.alloc (.cells #[.slice none 0 0] 36)) w.heap.size 36 [.slice none 0 0] := Arr.make _ _ _
  have hgw : Grows w (w.alloc (.cells #[.slice none 0 0] 36)) := (Grows.refl _).new _
  have hz0 : (w.alloc (.cells #[.slice none 0 0] 36)).heap.size = w.heap.size + 1 := by simp
  generalize (w.alloc (.cells #[.slice none 0 0] 36)) = W0 at *
  have HB0 := hide (HB.out.grow hgw)
  have HR0 := hide (HR.out.grows hgw)
  have HAW := hide (show 0 < l.length → ∀ p, A = some p → p.block < w.heap.size from HAL.out)
  clear HB HR HAL
  obtain ⟨b2, hb2⟩ : ∃ b, b = w.heap.size := ⟨_, rfl⟩
  rw [← hb2] at q2 hz0
  rw [← hb2]
  have h0 : ApI w W0.heap.size b2 [] (fun _ => False) W0 := ⟨none, 0, ⟨⟨W0, hgw⟩, rfl⟩, q2, Own.nil _ _ _ _, fun q hq => (by cases hq), fun k hk => hk.elim, Nat.le_refl _⟩
  have hIy := ApI.yields (w := w) (lo := W0.heap.size) (b2 := b2) (by omega) (by omega)
  have hsz0 : w.heap.size ≤ W0.heap.size := by omega
  have g2 : w.heap.size ≤ b2 := by omega
  clear hb2
  have H0 := hide h0
  clear h0 q2
  go_wp2_with fail
  refine (wpIn_wide (n := 0)).1 ?_
  refine wp_rangeG (w0 := W0) (gf := 150) rfl (enters_of Tryz.func150 (by kernel_rfl) rfl)
    (valI_gives (fun k => k < w.heap.size) (fun _ => False) bm A c l W0 hl HR0.out (fun hn p hp => .inl (HAW.out hn p hp)) HB0.out (.inl (by omega)) (fun k hk => hk.elim))
    (Keeps.refl _ _ _) (fun k hk => by omega) (fun k hk => hk.elim) (fun _ => rfl)
    (ApI w W0.heap.size b2) (fun _ _ _ _ => False) hIy (fun c _ _ _ _ _ h _ _ => h.elim) H0.out (ApB w W0.heap.size b2) ?hIb ?assign ?body ?done ?stop
  case hIb =>
    rintro x a' p Mi W1 Mi' W' ⟨hf, hI⟩ ht hM'
    exact ⟨hf, hIy p Mi W1 Mi' W' hI ht hM'⟩
  case assign =>
    intro l2 p x rest Mi W1 hsp hI
    have HI := hide hI
    clear hI
    unfold encI
    gi_wp2
    refine ⟨⟨?_, HI.out⟩, Keeps.refl _ _ _⟩
    unfold FrameAp
    (repeat apply Exists.intro)
    rfl
  case body =>
    rintro l2 p x rest Mi a' W1 hsp hl2 hMl hrec ⟨⟨u0, u1, u3, u4, u6, u7, u8, u9, u10, u11, u12, rfl⟩, ⟨A9, c9, ⟨y, rfl⟩, q6, ho, hnM, hm, hlo⟩⟩
    have hpl : p.length < 1000000 := by
      rw [hsp] at hl
      simp at hl
      omega
    have HO := hide ho
    have HNM := hide hnM
    have HMM := hide hm
    clear hsp hl2 hMl hrec hm hIy ho hnM HR0 HB0 HAW H0
    have HNB : Hid (∀ q, A9 = some q → q.block ≠ b2) := fun q hq => HO.out.not_arr q6 (by decide) q hq
    have hyo : W0.heap.size ≤ (y.now.alloc (.cells #[.int .i64 x] 3)).heap.size := by simp; omega
    gi_wp2_with (refine wp_appV elemInt rfl _ _ rfl W0.heap.size hyo p.length c9 A9 _ rfl (HO.out.new _) _ _ _ rfl inferInstance rfl (by omega) ?_; intro A3 c3 w3 ho3 ht3 hn3; have q63 : Arr w3 b2 36 [.slice A9 p.length c9] := (q6.grow ((Grows.refl _).new _)).touch ht3 (fun e => by obtain ⟨q, hq, e2⟩ := e; exact HNB.out q hq e2); have HO3 := hide ho3; have HT3 := hide ht3; have HN3 := hide hn3; clear ho3 ht3 hn3)
    have htt : Touch (fun k => ¬ ((k < w.heap.size) ∨ Mi k)) y.now w3 := Touch.trans2 (((Grows.refl y.now).new _).touch _) HT3.out (fun k hk => by
      obtain ⟨q, hq, e2⟩ := hk
      have h1 := (HO.out.inB q hq).1
      refine .inl (fun e => ?_)
      rcases e with e | e
      · omega
      · exact HNM.out q hq (by rw [e2]; exact e))
    have hsz3 := htt.size
    have hyg3 : Grows w w3 := htt.later y.grows (fun k hk => by
      rcases Nat.lt_or_ge k w.heap.size with h | h
      · exact absurd (.inl h) hk
      · exact h)
    have hb6n : ¬ ((b2 < w.heap.size) ∨ Mi b2) := fun e => by
      rcases e with e | e
      · omega
      · have := (HMM.out _ e).1; omega
    refine ⟨htt.set (.inl hb6n) _, A3, c3, ⟨⟨_, hyg3.set g2 _⟩, rfl⟩, ?_, ?_, fun q hq e => ?_, fun k hk => ?_, ?_⟩
    · have := q63.set 0 (.slice A3 (p.length + 1) c3)
      rw [List.length_append, List.length_singleton]
      exact this
    · rw [List.length_append, List.length_singleton, List.map_append]
      exact HO3.out.low (q := ⟨b2, 0, none⟩) (by show b2 < _; omega) _
    · rcases HN3.out q hq with ⟨q2, hq2, e2⟩ | hnew
      · exact HNM.out q2 hq2 (by rw [e2]; exact e)
      · have h1 := (HMM.out _ e).2
        have h2 := hnew.1
        simp at h2
        omega
    · rw [size_setCell]
      have := HMM.out k hk
      exact ⟨this.1, by omega⟩
    · rw [size_setCell]; omega
  case done =>
    intro D Mi W1 hlD hMD hI hDW
    obtain ⟨A9, c9, ⟨y, rfl⟩, q6, ho, hnM, hm, hlo⟩ := hI
    have HO := hide (ho.base (B' := w.heap.size) hsz0)
    have HDW := hide hDW
    have HNB : Hid (∀ q, A9 = some q → q.block ≠ D) := fun q hq e => hnM q hq (by rw [e]; exact hMD)
    clear hm hDW hIy ho hnM HR0 HB0 HAW H0
    gi_wp2
    go_wp2_with fail
    refine marks_end [D] rfl ((Marks.nil _).cons HDW.out (by simp)) (fun W' htt => ?_)
    refine ⟨.slice A9 l.length c9, by simp (maxDischargeDepth := 6) [results, Tryz.results160, go_sem], A9, c9, rfl, ?_, htt.later y.grows (fun k hk => by rw [List.mem_singleton.1 hk]; omega)⟩
    exact HO.out.touch htt (fun q hq e => HNB.out q hq (List.mem_singleton.1 e))
  case stop =>
    intro D c' p i rest Mi W1 _ _ _ h _
    exact h.elim
theorem collectI (bm : Nat) (A : Option Addr) (c : Nat) (l : List Int) (w : World) (h : Rd w A 1 l.length (l.map (.int .i64))) (hA : 0 < l.length → ∀ p, A = some p → p.block < w.heap.size) (hb : Arr w bm 36 [.slice A l.length c]) (hl : l.length ≤ 1000000) :
    Calls Tryz.prog 149 #[.func (.func 150) #[] #[.pointer (some ⟨bm, 0, none⟩)]] w fun e w' =>
      ∃ A' c', e = .returned (.slice A' l.length c') ∧ Own w' w.heap.size 3 1 A' l.length c' (l.map (.int .i64)) ∧ Grows w w' := by
  have C := hide (appendSeqI bm A c l w h hA hb hl)
  clear h hA hb
  go_enter Tryz.func149, Tryz.ntmps149
  go_wp2_with (go_at_call 160; refine C.out.mono ?_; rintro e w' ⟨A', c', rfl, ho, hg⟩; have HO := hide ho; have HG := hide hg; clear ho hg)
  go_ret
  exact ⟨A', c', rfl, HO.out, HG.out⟩
def srtV (xs : List Int) : List Int := xs.mergeSort fun x y => decide (x ≤ y)
theorem srtV_len (xs : List Int) : (srtV xs).length = xs.length := List.length_mergeSort _
theorem sortOwnV (B : Nat) (w : World) (A : Option Addr) (n c : Nat) (xs : List Int) (ho : Own w B 3 1 A n c (xs.map (.int .i64))) (hn : n ≤ 1000000) :
    Calls Tryz.prog 44 #[.slice A n c] w fun e w' => e = .returned (.tuple #[]) ∧ Touch (fun k => ∃ p, A = some p ∧ p.block = k) w w' ∧ Own w' B 3 1 A n c ((srtV xs).map (.int .i64)) := by
  have hl : xs.length = n := by simpa using ho.len
  rcases Nat.eq_zero_or_pos n with h0 | h0
  · subst h0
    have hx : xs = [] := List.eq_nil_of_length_eq_zero hl
    subst hx
    refine (AnyM.slices_Sort_int_none Tryz.sortA A c w).mono ?_
    rintro e w' ⟨rfl, rfl⟩
    exact ⟨rfl, Touch.refl _ _, by simpa [srtV] using ho⟩
  · obtain ⟨g, cur, rfl, hB, hh, hc, hs, ht⟩ := ho.at_ h0
    have hm : c ≤ maxLen := by
      rcases ho.2 with ⟨h1, _⟩ | ⟨g2, cap, cur2, h1, _, _, _, h5, _⟩
      · cases h1
      · injection h1 with _ _ h7; subst h7; exact h5
    subst hl
    have hH := holds_of_blockI (ss := xs) hh (by rw [Nat.mul_one] at ht; exact ht)
    refine (AnyM.slices_Sort_int Tryz.sortA g 0 c xs w hH (Array.getElem?_eq_some_iff.1 hh).1 (by omega)).mono ?_
    rintro e w' ⟨rfl, k, os, rfl⟩
    have hg1 := grownBy_sortedI (w := w) (g := g) (n := k) (os := os) (srtV xs).toArray
    have ho1 := ownsRow_sortedI (w := w) (base := B) (g := g) (n := k) (cap := c) (os := os) (ss := xs) (ts := srtV xs) (srtV_len xs) hB hh hc hm hs
    exact ⟨rfl, (Touch.refl _ w).grown hg1 (fun k hk => .inl ⟨_, rfl, by simpa using hk⟩), ho1⟩
theorem sortedI (bm : Nat) (A : Option Addr) (c : Nat) (l : List Int) (w : World) (h : Rd w A 1 l.length (l.map (.int .i64))) (hA : 0 < l.length → ∀ p, A = some p → p.block < w.heap.size) (hb : Arr w bm 36 [.slice A l.length c]) (hl : l.length ≤ 1000000) :
    Calls Tryz.prog 120 #[.func (.func 150) #[] #[.pointer (some ⟨bm, 0, none⟩)]] w fun e w' =>
      ∃ A' c', e = .returned (.slice A' l.length c') ∧ Own w' w.heap.size 3 1 A' l.length c' ((srtV l).map (.int .i64)) ∧ Grows w w' := by
  have C := hide (collectI bm A c l w h hA hb hl)
  clear h hA hb
  go_enter Tryz.func120, Tryz.ntmps120
  go_wp2_with (go_at_call 149; refine C.out.mono ?_; rintro e w1 ⟨A', c', rfl, ho, hg⟩; have CS := hide (sortOwnV w.heap.size w1 A' l.length c' l ho hl); have HO := hide ho; have HG := hide hg; clear ho hg)
  refine CS.out.mono ?_
  rintro e w2 ⟨rfl, ht, ho2⟩
  have HG2 := hide (ht.later HG.out (fun k hk => by
    obtain ⟨p, hp, rfl⟩ := hk
    exact (HO.out.inB p hp).1))
  have HO2 := hide ho2
  clear ht ho2
  go_wp2_with fail
  go_ret
  exact ⟨A', c', rfl, HO2.out, HG2.out⟩
end Go.Proofs.YtomednfddpggaaaGreat

/- Contract: without which edges there are more parts, by the program. -/
namespace Go.Proofs.YtomednfddpggaaaGreat
open Go Go.RowKit
attribute [local go_sem] Oper.semAt_some
theorem bwWalkN (F : Nat → Prop) (b : BwB) (E : List Edg) (hE : InN b.N E) (hn : E.length ≤ 20000) (hN : b.N ≤ 4096) : ∀ (n v : Nat) (by_ : Int) (A : Option Addr) (c : Nat) (s : BwS) (w : World), BwAt w b A c s → AdjAt F w b.ba b.N E → (∀ k, F k → k < w.heap.size ∧ ¬ BwOwn b A k) → BwOk b.N s → v < b.N → gi s.met v = 0 → s.met.count 0 ≤ n →
    Calls Tryz.prog 88 #[.pointer (some ⟨b.bx, 0, none⟩), .int .i64 (v : Int), .int .i64 by_] w (BwGive b (br E n v by_ s) A w)
  | 0, v, by_, A, c, s, w, _, _, _, h, hv, h0, hc => by
    exfalso
    have hvl : v < s.met.length := by rw [h.m]; exact hv
    have e0 : s.met[v] = 0 := by simpa [gi, hvl] using h0
    have hpos : 0 < s.met.count 0 := List.count_pos_iff.2 (by rw [← e0]; exact List.getElem_mem _)
    omega
  | n + 1, v, by_, A, c, s, w, h, hA, hF, hs, hv, h0, hc => bwWalk F b E hE hn hN n (fun u by_ A c s w => bwWalkN F b E hE hn hN n u by_ A c s w) v by_ A c s w h hA hF hs hv h0 hc
def brAll (E : List Edg) (N : Nat) : Nat → BwS → BwS
  | 0, s => s
  | k + 1, s => if gi (brAll E N k s).met k = 0 then br E N k (-1) (brAll E N k s) else brAll E N k s
def brZero (N : Nat) : BwS := ⟨List.replicate N 0, List.replicate N 0, 0, []⟩
def cutsL (N : Nat) (E : List Edg) : List Int := srtV ((brAll E N N (brZero N)).cuts.map fun (i : Nat) => (i : Int))
theorem brZero_ok (N : Nat) : BwOk N (brZero N) := ⟨by simp [brZero], by simp [brZero], fun u => by
  have : gi (brZero N).met u = 0 := by
    unfold gi brZero
    by_cases h : u < N
    · simp [h]
    · simp [h]
  omega, by simp [brZero], by simp [brZero]⟩
theorem brAll_ok {N : Nat} {E : List Edg} (hE : InN N E) : ∀ k, k ≤ N → BwOk N (brAll E N k (brZero N))
  | 0, _ => brZero_ok N
  | k + 1, hk => by
    have h := brAll_ok hE k (by omega)
    unfold brAll
    split
    · rename_i h0
      exact (br_ok hE N k (-1) _ h (by omega) h0 (by have := List.count_le_length (a := (0 : Int)) (l := (brAll E N k (brZero N)).met); rw [h.m] at this; exact this)).1
    · exact h
def CutAt (w : World) (ba N : Nat) (v5 : Value) (wx : World) : Prop :=
  ∃ b : BwB, v5 = .pointer (some ⟨b.bx, 0, none⟩) ∧ b.ba = ba ∧ b.N = N ∧ BwAt wx b none 0 (brZero N) ∧ Grows w wx ∧ ∀ k, BwOwn b none k → w.heap.size ≤ k
theorem cut_at {w W' : World} {ba N bx bm bl : Nat} (hbx : bx = W'.heap.size)
    (hm : Arr W' bm 3 (List.replicate N (.int .i64 0))) (hl : Arr W' bl 3 (List.replicate N (.int .i64 0))) (hd : bm ≠ bl) (hg : Grows w W') (hb : w.heap.size ≤ bm ∧ w.heap.size ≤ bl) :
    CutAt w ba N (.pointer (some ⟨bx, 0, none⟩)) (W'.alloc (.cells #[.pointer (some ⟨ba, 0, none⟩), .slice (some ⟨bm, 0, none⟩) N N, .slice (some ⟨bl, 0, none⟩) N N, .int .i64 0, .slice none 0 0] 138)).drew := by
  subst hbx
  have hg1 : Grows W' (W'.alloc (.cells #[.pointer (some ⟨ba, 0, none⟩), .slice (some ⟨bm, 0, none⟩) N N, .slice (some ⟨bl, 0, none⟩) N N, .int .i64 0, .slice none 0 0] 138)) := (Grows.refl _).new _
  have hg2 := hg1.drew
  refine ⟨⟨W'.heap.size, ba, bm, bl, N⟩, rfl, rfl, rfl, ⟨(Arr.make _ _ _).grow (Grows.refl _).drew, ?_, ?_, Own.nil _ _ _ _, hd, fun p hp => by cases hp⟩, hg.trans hg2, ?_⟩
  · simpa [brZero] using hm.grow hg2
  · simpa [brZero] using hl.grow hg2
  · rintro k ((rfl | rfl | rfl) | ⟨p, hp, _⟩)
    · exact hg.size
    · exact hb.1
    · exact hb.2
    · cases hp
set_option maxRecDepth 40000 in
set_option maxHeartbeats 8000000 in
theorem bwCuts (N : Nat) (A : Option Addr) (c : Nat) (E : List Edg) (w : World) (h : Rd w A 3 E.length (esCells E)) (hr : rightF N E = 0) :
    Calls Tryz.prog 49 #[.agg #[.int .i64 (N : Int), .slice A E.length c]] w fun e w' => ∃ A' c', e = .returned (.slice A' (cutsL N E).length c') ∧ Rd w' A' 1 (cutsL N E).length ((cutsL N E).map (.int .i64)) ∧ Grows w w' := by
  obtain ⟨r1, r2, r3, r4, r5⟩ := right_in hr
  rw [Int.toNat_natCast] at r4
  have C1 := hide (fun (W : World) (hg : Grows w W) => adjNew N A E.length c E W (h.grows hg) (by omega) hr)
  have mb := fun (w : World) => run_makeInts N (by omega) w
  clear h hr r5
  have HE := hide r4
  clear r4
  go_enter Tryz.func49, Tryz.ntmps49
  go_wp2_with (go_at_call 33; refine (C1.out _ GG).mono ?_; rintro e w' ⟨ba, rfl, ha, hg⟩; obtain ⟨x, rfl⟩ := hg.later; have HA := hide ha; clear ha hg)
  go_upto_region 4 with fail
  have hb1 : Arr x.now w.heap.size 24 [.int .i64 (N : Int), .slice A E.length c] := (Arr.make w _ _).grow x.grows
  have hgw : Grows w x.now := GG
  have HFL : Hid (∀ k, New (w.alloc (Obj.cells #[.int .i64 (N : Int), .slice A E.length c] 24)) x.now k → k < x.now.heap.size) := fun k hk => hk.2
  have HSZ := hide x.size
  generalize New (w.alloc (Obj.cells #[.int .i64 (N : Int), .slice A E.length c] 24)) x.now = F at *
  generalize hw0 : w.heap.size = b1 at *
  go_cut [5] (fun s5 wx => CutAt x.now ba N s5 wx)
  case first =>
    go_region
    all_goals go_wp2_with fail
    all_goals go_meet
    all_goals (case rel =>
      refine cut_at (by simp) ?_ ?_ (by omega) GG (by omega)
      all_goals exact ⟨by simp [heap_drew, heap_push, Array.getElem_push, Array.getElem?_push, eq_add2] <;> omega⟩)
  case rest =>
    obtain ⟨b, rfl, rfl, hbN, hat, hgx, hlo⟩ := hcut
    subst hbN
    obtain ⟨y0, rfl⟩ := hgx.later
    have HAT := hide hat
    have HLO := hide hlo
    have HTO := hide (fun k (hk : k ≤ b.N) => brAll_ok HE.out k hk)
    have HW := hide (fun (v : Nat) (A2 : Option Addr) (c2 : Nat) (s : BwS) (W : World) (hg : Grows x.now W) (h1 : BwAt W b A2 c2 s) (h2 : ∀ k, BwOwn b A2 k → x.now.heap.size ≤ k) (h3 : BwOk b.N s) (h4 : v < b.N) (h5 : gi s.met v = 0) =>
      bwWalkN _ b E HE.out (by omega) (by omega) b.N v (-1) A2 c2 s W h1 (HA.out.grows hg) (fun k hk => ⟨Nat.lt_of_lt_of_le (HFL.out k hk) hg.size, fun e => by have := h2 k e; have := HFL.out k hk; omega⟩) h3 h4 h5 (by have := List.count_le_length (a := (0 : Int)) (l := s.met); rw [h3.m] at this; exact this))
    clear hat hlo hgx C1 mb HA hw0 HSZ
    go_wp2_with fail
    go_loopw [25] (fun s25 wr => ∃ k : Nat, k ≤ b.N ∧ s25 = .int .i64 (k : Int) ∧ ∃ y : Later x.now, wr = y.now ∧ ∃ A2 c2, BwAt y.now b A2 c2 (brAll E b.N k (brZero b.N)) ∧ ∀ j, BwOwn b A2 j → x.now.heap.size ≤ j) (fun i _ => b.N - (Go.RowKit.intOf i).toNat)
    case atStart => exact ⟨0, by omega, by go_num, y0, rfl, none, 0, HAT.out, HLO.out⟩
    case round =>
      obtain ⟨k, hk, rfl, y, rfl, A2, c2, hat, hlo⟩ := hrel
      have H := hide hat
      have HL := hide hlo
      have HK := hide (HTO.out k hk)
      have HSU := hide (show brAll E b.N (k + 1) (brZero b.N) = if gi (brAll E b.N k (brZero b.N)).met k = 0 then br E b.N k (-1) (brAll E b.N k (brZero b.N)) else brAll E b.N k (brZero b.N) from rfl)
      have hx := hat.x
      clear hat hlo HAT HLO
      by_cases hlt : k < b.N
      · have mk : Mine y.now ⟨b.bm, k, none⟩ (.int .i64 (gi (brAll E b.N k (brZero b.N)).met k)) := H.out.m.mine k (by simp [gi, show k < (brAll E b.N k (brZero b.N)).met.length by rw [HK.out.m]; exact hlt])
        by_cases h0 : gi (brAll E b.N k (brZero b.N)).met k = 0
        · have HST := hide (HSU.out.trans (if_pos h0))
          have CW := hide (HW.out k A2 c2 _ y.now y.grows H.out HL.out HK.out hlt h0)
          rw [h0] at mk
          clear h0 HSU
          generalize brAll E b.N k (brZero b.N) = s at *
          go_wp2_with (go_at_call 88; refine CW.out.mono ?_; rintro e w' ⟨rfl, A3, c3, hat3, ht3, ho3⟩; have HAT3 := hide hat3; have HT3 := hide ht3; have HO3 := hide ho3; clear hat3 ht3 ho3)
          go_roundw
          case measure => simp [Go.RowKit.intOf]; omega
          case rel => exact ⟨k + 1, by omega, by go_num, ⟨w', HT3.out.later y.grows HL.out⟩, rfl, A3, c3, by rw [HST.out]; exact HAT3.out, fun j hj => by
            rcases HO3.out j hj with h | h
            · exact HL.out j h
            · exact Nat.le_trans y.size h⟩
        · have HST := hide (HSU.out.trans (if_neg h0))
          have h1 : (gi (brAll E b.N k (brZero b.N)).met k == 0) = false := beq_eq_false_iff_ne.2 h0
          generalize brAll E b.N k (brZero b.N) = s at *
          generalize gi s.met k = m at *
          clear h0 HSU
          go_wp2_with fail
          go_roundw
          case measure => simp [Go.RowKit.intOf]; omega
          case rel => exact ⟨k + 1, by omega, by go_num, y, rfl, A2, c2, by rw [HST.out]; exact H.out, HL.out⟩
      · obtain rfl : k = b.N := by omega
        clear HSU
        have HP := hide (show cutsL b.N E = srtV ((brAll E b.N b.N (brZero b.N)).cuts.map fun (i : Nat) => (i : Int)) from rfl)
        generalize brAll E b.N b.N (brZero b.N) = s at *
        have hcl : s.cuts.length ≤ 4096 := by have h1 := HK.out.cl; have h2 := HK.out.le; omega
        have e1 : nv s.cuts = (s.cuts.map fun (i : Nat) => (i : Int)).map (.int .i64) := by simp [nv]
        have ho := H.out.o
        rw [e1] at ho
        have CS := hide (sortOwnV 0 y.now A2 s.cuts.length c2 (s.cuts.map fun (i : Nat) => (i : Int)) ho (by omega))
        have HNX := hide H.out.nes.2
        have hlen : (cutsL b.N E).length = s.cuts.length := by rw [HP.out, srtV_len, List.length_map]
        clear ho e1
        go_wp2_with (go_at_call 44; refine CS.out.mono ?_; rintro e w2 ⟨rfl, ht, ho2⟩; have hx2 := hx.touch ht (fun e => by obtain ⟨p, hp, e⟩ := e; exact HNX.out p hp e); have HT2 := hide ht; have HO2 := hide ho2; clear ht ho2)
        go_ret
        refine ⟨A2, c2, ?_, ?_, hgw.trans (HT2.out.later y.grows (fun j hj => HL.out j (.inr hj)))⟩
        · rw [hlen]; rfl
        · rw [hlen, HP.out]
          exact HO2.out.rd
end Go.Proofs.YtomednfddpggaaaGreat

/- Who is come to: node by node, from a row of those that wait. -/
namespace Go.Proofs.YtomednfddpggaaaGreat
open Go Go.RowKit
def rq (s : List Bool × List Nat) (u : Nat) : List Bool × List Nat := if bb s.1 u = true then s else (s.1.set u true, s.2 ++ [u])
def rqF (E : List Edg) (back : Bool) (p : List Nat) (s : List Bool × List Nat) : List Bool × List Nat := (p.map (oN E back)).foldl rq s
theorem rqF_snoc (E : List Edg) (back : Bool) (p : List Nat) (i : Nat) (s : List Bool × List Nat) : rqF E back (p ++ [i]) s = rq (rqF E back p s) (oN E back i) := by simp [rqF]
structure RqI (E : List Edg) (back : Bool) (N s v m : Nat) (p : List Nat) (d : List Bool × List Nat) : Prop where
  len : d.1.length = N
  here : bb d.1 s = true
  snd : SoundB E back s d.1
  at_ : bb d.1 v = true
  q : ∀ u ∈ d.2, u < N ∧ bb d.1 u = true
  cl : ∀ i, i < E.length → bb d.1 (nN E back i) = true → nN E back i ∈ d.2 ∨ bb d.1 (oN E back i) = true ∨ (nN E back i = v ∧ i ∉ p)
  m : d.1.count false + d.2.length = m
structure RqO (E : List Edg) (back : Bool) (N s m : Nat) (d : List Bool × List Nat) : Prop where
  len : d.1.length = N
  here : bb d.1 s = true
  snd : SoundB E back s d.1
  q : ∀ u ∈ d.2, u < N ∧ bb d.1 u = true
  cl : ∀ i, i < E.length → bb d.1 (nN E back i) = true → nN E back i ∈ d.2 ∨ bb d.1 (oN E back i) = true
  m : d.1.count false + d.2.length = m
section
variable {E : List Edg} {back : Bool} {N s v m : Nat} {p : List Nat} {d : List Bool × List Nat}
theorem cnt_set {l : List Bool} {u : Nat} (h : u < l.length) (h0 : bb l u = false) : (l.set u true).count false + 1 = l.count false := by
  have e0 : l[u] = false := by simpa [bb, h] using h0
  have : 0 < l.count false := List.count_pos_iff.2 (by rw [← e0]; exact List.getElem_mem _)
  rw [List.count_set h, e0]
  simp
  omega
theorem RqI.step (hE : InN N E) (h : RqI E back N s v m p d) {i : Nat} (hi : i < E.length) (hv : nN E back i = v) : RqI E back N s v m (p ++ [i]) (rq d (oN E back i)) := by
  have ho : oN E back i < d.1.length := by rw [h.len]; exact oN_lt hE hi
  unfold rq
  split
  · rename_i h1
    refine ⟨h.len, h.here, h.snd, h.at_, h.q, fun j hj hd => ?_, h.m⟩
    rcases h.cl j hj hd with h2 | h2 | ⟨h2, h3⟩
    · exact .inl h2
    · exact .inr (.inl h2)
    · by_cases e : j = i
      · subst e; exact .inr (.inl h1)
      · exact .inr (.inr ⟨h2, by simp [h3, e]⟩)
  · rename_i h1
    have h1' : bb d.1 (oN E back i) = false := by simpa using h1
    have hmono : ∀ u, bb d.1 u = true → bb (d.1.set (oN E back i) true) u = true := fun u hu => by
      rw [bb_set _ _ _ _ ho]
      split
      · rfl
      · exact hu
    refine ⟨by simp [h.len], hmono _ h.here, fun u hu => ?_, hmono _ h.at_, fun u hu => ?_, fun j hj hd => ?_, ?_⟩
    · simp only at hu
      rw [bb_set _ _ _ _ ho] at hu
      split at hu
      · rename_i e; subst e
        exact .step (h.snd _ h.at_) hi hv
      · exact h.snd u hu
    · simp only at hu ⊢
      rcases List.mem_append.1 hu with hu | hu
      · exact ⟨(h.q u hu).1, hmono _ (h.q u hu).2⟩
      · rw [List.mem_singleton] at hu
        subst hu
        exact ⟨by rw [← h.len]; exact ho, by rw [bb_set _ _ _ _ ho, if_pos rfl]⟩
    · simp only at hd ⊢
      rw [bb_set _ _ _ _ ho] at hd
      split at hd
      · rename_i e
        left
        rw [e]
        simp
      · rcases h.cl j hj hd with h2 | h2 | ⟨h2, h3⟩
        · left; simp [h2]
        · right; left; exact hmono _ h2
        · by_cases e : j = i
          · subst e
            right; left
            rw [bb_set _ _ _ _ ho, if_pos rfl]
          · right; right
            exact ⟨h2, by simp [h3, e]⟩
    · have := cnt_set ho h1'
      have := h.m
      simp only [List.length_append, List.length_singleton]
      omega
theorem RqO.take {l : List Bool} {q : List Nat} (h : RqO E back N s (m + 1) (l, v :: q)) : RqI E back N s v m [] (l, q) := by
  refine ⟨h.len, h.here, h.snd, (h.q v (by simp)).2, fun u hu => h.q u (by simp only [List.mem_cons]; exact .inr hu), fun i hi hd => ?_, by have := h.m; simp only [List.length_cons] at this ⊢; omega⟩
  rcases h.cl i hi hd with h2 | h2
  · simp only [List.mem_cons] at h2
    rcases h2 with h2 | h2
    · exact .inr (.inr ⟨h2, by simp⟩)
    · exact .inl h2
  · exact .inr (.inl h2)
theorem RqI.done (h : RqI E back N s v m p d) (hp : ∀ i, i < E.length → nN E back i = v → i ∈ p) : RqO E back N s m d := by
  refine ⟨h.len, h.here, h.snd, h.q, fun i hi hd => ?_, h.m⟩
  rcases h.cl i hi hd with h2 | h2 | ⟨h2, h3⟩
  · exact .inl h2
  · exact .inr h2
  · exact absurd (hp i hi h2) h3
theorem RqO.start (hs : s < N) : RqO E back N s N (begB N s, [s]) := by
  have h0 : bb (begB N s) s = true := by unfold begB; rw [bb_set _ _ _ _ (by simpa using hs), if_pos rfl]
  have hb : ∀ u, bb (begB N s) u = true → u = s := fun u hu => by
    unfold begB at hu
    rw [bb_set _ _ _ _ (by simpa using hs)] at hu
    split at hu
    · rename_i e; exact e
    · rw [bb_rep] at hu; cases hu
  refine ⟨by simp [begB], h0, fun u hu => by rw [hb u hu]; exact .here, fun u hu => ?_, fun i _ hd => .inl (by simp only; rw [hb _ hd]; simp), ?_⟩
  · simp only [List.mem_singleton] at hu
    subst hu
    exact ⟨hs, h0⟩
  · have := cnt_set (l := List.replicate N false) (u := s) (by simpa using hs) (bb_rep _ _)
    simp only [begB, List.length_singleton]
    rw [this]
    simp
theorem RqO.le (h : RqO E back N s m d) : d.2.length ≤ m := by have := h.m; omega
theorem RqO.end_ (h : RqO E back N s m d) (h0 : d.2 = []) (v : Nat) : bb d.1 v = true ↔ Rch E back s v :=
  closed_is h.here (fun i hi hd => by
    rcases h.cl i hi hd with h2 | h2
    · rw [h0] at h2; cases h2
    · exact h2) h.snd v
end
def reachL (N : Nat) (E : List Edg) (s : Nat) (back : Bool) : List Bool := rnKB E back (begB N s) N
theorem reachL_len (N : Nat) (E : List Edg) (s : Nat) (back : Bool) : (reachL N E s back).length = N := by unfold reachL; rw [rnKB_len]; simp [begB]
theorem RqO.is {E : List Edg} {back : Bool} {N s m : Nat} {d : List Bool × List Nat} (hE : InN N E) (hs : s < N) (h : RqO E back N s m d) (h0 : d.2 = []) : d.1 = reachL N E s back :=
  bb_ext (by rw [h.len, reachL_len]) fun i _ => by rw [h.end_ h0 i, reachL, rounds_is hE hs i]
end Go.Proofs.YtomednfddpggaaaGreat

/- A row of numbers from whose front one is taken, and to whose end one is appended. -/
namespace Go.Proofs.YtomednfddpggaaaGreat
open Go Go.RowKit
structure QAt (w : World) (g off n c : Nat) (xs : List Nat) : Prop where
  len : xs.length = n
  cap : n ≤ c
  big : c ≤ maxLen
  is : ∃ cur, w.heap[g]? = some (.cells cur 3 (0, 0)) ∧ (0 < c → off + c ≤ cur.size) ∧ ∀ j u, (nv xs)[j]? = some u → cur[off + j]? = some u
section
variable {w w' : World} {g off n c : Nat} {xs : List Nat} {S : Nat → Prop}
theorem QAt.lt (h : QAt w g off n c xs) : g < w.heap.size := by
  obtain ⟨cur, h1, _⟩ := h.is
  exact (Array.getElem?_eq_some_iff.1 h1).1
theorem QAt.touch (h : QAt w g off n c xs) (k : Touch S w w') (hS : ¬ S g) : QAt w' g off n c xs := by
  obtain ⟨cur, h1, h2⟩ := h.is
  exact ⟨h.len, h.cap, h.big, cur, k.at hS h1, h2⟩
theorem QAt.grow (h : QAt w g off n c xs) (k : Grows w w') : QAt w' g off n c xs := h.touch (k.touch fun _ => False) id
theorem QAt.other (h : QAt w g off n c xs) {p : Addr} (hp : p.block ≠ g) (u : Value) : QAt (w.setCell p u) g off n c xs := by
  obtain ⟨cur, h1, h2⟩ := h.is
  exact ⟨h.len, h.cap, h.big, cur, by rw [heap_setCell _ _ _ _ (Ne.symm hp)]; exact h1, h2⟩
theorem QAt.ne {g' : Nat} {t' : TypeId} {cs' : List Value} (h : QAt w g off n c xs) (k : Arr w g' t' cs') (ht : 3 ≠ t') : g ≠ g' := fun e' => by
  subst e'
  obtain ⟨cur, h1, _⟩ := h.is
  have := h1.symm.trans k.is
  injection this with this
  injection this with _ this
  exact ht this
theorem QAt.at (h : QAt w g off n c xs) {j : Nat} (hj : j < n) : Mine w ⟨g, off + j, none⟩ (.int .i64 (gn xs j : Int)) := by
  obtain ⟨cur, h1, _, h3⟩ := h.is
  exact ⟨by simp [World.cell?, h1, h3 j _ (nv_at (by have := h.len; omega))], by simp [World.frozen?, h1]⟩
theorem QAt.head {v : Nat} {r : List Nat} (h : QAt w g off n c (v :: r)) : Mine w ⟨g, off, none⟩ (.int .i64 (v : Int)) := h.at (j := 0) (by have := h.len; simp at this; omega)
theorem QAt.tail {v : Nat} {r : List Nat} (h : QAt w g off (n + 1) c (v :: r)) : QAt w g (if c = 1 then off else off + 1) n (c - 1) r := by
  obtain ⟨cur, h1, h2, h3⟩ := h.is
  have hl := h.len
  have hc := h.cap
  have hb := h.big
  simp only [List.length_cons] at hl
  refine ⟨by omega, by omega, by omega, cur, h1, fun h4 => ?_, fun j u hu => ?_⟩
  · rw [if_neg (by omega)]
    have := h2 (by omega)
    omega
  · have hj := (List.getElem?_eq_some_iff.1 hu).1
    simp only [nv_len] at hj
    rw [if_neg (by omega)]
    have := h3 (j + 1) u (by simpa [nv] using hu)
    rwa [show off + 1 + j = off + (j + 1) by omega]
theorem QAt.one {s : Nat} (h : Arr w g 3 [.int .i64 (s : Int)]) : QAt w g 0 1 1 [s] := by
  refine ⟨rfl, Nat.le_refl _, by unfold maxLen; omega, _, h.is, fun _ => by simp, fun j u hu => ?_⟩
  have hj := (List.getElem?_eq_some_iff.1 hu).1
  simp only [nv_len, List.length_singleton] at hj
  obtain rfl : j = 0 := by omega
  simpa [nv] using hu
theorem run_appQ (h : QAt w g off n c xs) (ty : TypeId) (b m' : Nat) (u : Nat) (hv : Holds w ⟨b, 0, none⟩ (.int .i64 (u : Int))) (hn : n + 1 ≤ 1000000000000) :
    ∃ g' off' c' w', (Builtin.append_ #[36, 36] ty #[.slice (some ⟨g, off, none⟩) n c, .slice (some ⟨b, 0, none⟩) 1 m']).run Tryz.prog w = .ok (.slice (some ⟨g', off', none⟩) (n + 1) c') w' ∧
      QAt w' g' off' (n + 1) c' (xs ++ [u]) ∧ Touch (fun k => k = g) w w' ∧ (g' = g ∨ New w w' g') := by
  obtain ⟨i, z, bytes, hi, hz, hsz, hby, hzs, hb64⟩ := elemInt.info
  obtain ⟨cur, k1, k2, k3⟩ := h.is
  have hl := h.len
  have hc := h.cap
  have hb := h.big
  have hnews : ∀ j x, [Value.int .i64 (u : Int)][j]? = some x → w.cell? ((⟨b, 0, none⟩ : Addr).add j) = some x := fun j x hx => by
    have hj : j = 0 := by
      have := (List.getElem?_eq_some_iff.1 hx).1
      simpa using this
    subst hj
    simp at hx
    subst hx
    simpa [Addr.add] using hv.cell
  by_cases hroom : n + 1 ≤ c
  · have hfit := k2 (by omega)
    have hcell : (w.cell? ⟨g, off + n, none⟩).isSome = true := by simp [World.cell?, k1]; omega
    have hr := run_append_room_cells (P := Tryz.prog) w 36 ty 3 i elemInt.under hi g off n c ⟨b, 0, none⟩ 1 m' [.int .i64 (u : Int)] (by simp [hsz]) hnews (by intro x hx; simp at hx; rw [hx]; rfl) hroom
      (fun j hj => by
        simp at hj; subst hj
        rw [hsz]; simpa using hcell) (fun j _ => by simp [World.frozen?, k1])
    rw [hsz, Nat.mul_one] at hr
    refine ⟨g, off, c, _, hr, ⟨by simp [hl], hroom, hb, cur.setIfInBounds (off + n) (.int .i64 (u : Int)), ?_, fun _ => by simpa using hfit, fun j x hx => ?_⟩, (Touch.refl (fun k => k = g) w).set (p := ⟨g, off + n, none⟩) (.inl rfl) _, .inl rfl⟩
    · simp [World.setCells, World.setCell, Array.getElem?_modify, k1]
    · have e2 : nv (xs ++ [u]) = nv xs ++ [.int .i64 (u : Int)] := by simp [nv]
      rw [e2] at hx
      by_cases hj : j < n
      · rw [List.getElem?_append_left (by rw [nv_len]; omega)] at hx
        rw [Array.getElem?_setIfInBounds_ne (by omega)]
        exact k3 j x hx
      · have hj2 := (List.getElem?_eq_some_iff.1 hx).1
        simp only [List.length_append, nv_len, List.length_singleton] at hj2
        obtain rfl : j = n := by omega
        rw [List.getElem?_append_right (by rw [nv_len]; omega), nv_len, hl] at hx
        simp at hx
        subst hx
        rw [Array.getElem?_setIfInBounds_self]
        rw [if_pos (by omega)]
  · obtain ⟨v', w', hr, ho, hg⟩ := run_append_arg_grows (P := Tryz.prog) w 36 ty 3 i z 1 bytes elemInt.under hi hz hsz hby hzs (by omega) ⟨g, off, none⟩ n c (nv xs) (by rw [nv_len]; omega)
      (fun j x hx => by
        have := k3 j x hx
        unfold Addr.add
        split
        · rename_i h0
          subst h0
          simpa [World.cell?, k1] using this
        · simpa [World.cell?, k1] using this) ⟨b, 0, none⟩ 1 m' [.int .i64 (u : Int)] rfl hnews (by omega) (by unfold maxLen; omega) (Nat.le_trans (Nat.mul_le_mul hn hb64) (by omega))
    obtain ⟨A', c'', rfl⟩ := own_form ho
    have ho' : Own w' w.heap.size 3 1 A' (n + 1) c'' (nv xs ++ [.int .i64 (u : Int)]) := ho
    obtain ⟨g', cur', rfl, hge, hh, hnc, hcs, ht⟩ := ho'.at_ (by omega)
    have hm : c'' ≤ maxLen := by
      rcases ho.2 with ⟨h1, _⟩ | ⟨g2, cap, cur2, h1, _, _, _, h5, _⟩
      · cases h1
      · injection h1 with _ _ h7; subst h7; exact h5
    refine ⟨g', 0, c'', w', hr, ⟨by simp [hl], hnc, hm, cur', hh, fun _ => by rw [hcs]; omega, fun j x hx => ?_⟩, (Touch.refl _ w).grown hg (fun k hk => by cases hk), .inr ⟨hge, (Array.getElem?_eq_some_iff.1 hh).1⟩⟩
    have e2 : nv (xs ++ [u]) = nv xs ++ [.int .i64 (u : Int)] := by simp [nv]
    rw [e2, ← ht] at hx
    have hj : j < (n + 1) * 1 := by
      rcases Nat.lt_or_ge j ((n + 1) * 1) with h | h
      · exact h
      · rw [List.getElem?_eq_none (by simp; omega)] at hx; cases hx
    rw [List.getElem?_take, if_pos hj] at hx
    rw [Nat.zero_add]
    simpa using hx
variable {F : Fence} {m : Nat} {ops : Array Oper} {rest : List Oper} {o : Oper} {a : Act} {Q : Exit → Act → World → Prop}
theorem wp_appQ (hgd : o.guard = none) (s x : Operand) (ho : o.op = .call { callee := .builtin .append, args := #[s, x], argTypes := #[36, 36] })
    (h : QAt w g off n c xs) (hs : a.eval s = .slice (some ⟨g, off, none⟩) n c) (b m' u : Nat) (hx : a.eval x = .slice (some ⟨b, 0, none⟩) 1 m') (hv : Holds w ⟨b, 0, none⟩ (.int .i64 (u : Int))) (hn : n + 1 ≤ 1000000000000)
    (hk : ∀ g' off' c' w', QAt w' g' off' (n + 1) c' (xs ++ [u]) → Touch (fun k => k = g) w w' → (g' = g ∨ New w w' g') → wpListIn F m Tryz.prog ops Q rest (a.put o.dst (.slice (some ⟨g', off', none⟩) (n + 1) c')) w') :
    wpListIn F m Tryz.prog ops Q (o :: rest) a w := by
  refine wpListIn_plain hgd fun K hK' => ?_
  obtain ⟨g', off', c', w', hr, h1, h2, h3⟩ := run_appQ h o.type b m' u hv hn
  unfold Oper.wpIn
  refine ⟨?_, ?_⟩
  · simp [Oper.about, ho, resolve, Target.leads, Sem.run_pure]
  · rw [Oper.semAt_plain F _ _ (by rw [ho]; intro c hc'; cases hc')]
    simp [execOp, ho, resolve, invoke, builtin, hs, hx, hr, Result.andThen]
    exact hK' _ _ (hk g' off' c' w' h1 h2 h3)
end
end Go.Proofs.YtomednfddpggaaaGreat

/- Contracts: the document's answer on who is come to; are two rows of truths the same? -/
namespace Go.Proofs.YtomednfddpggaaaGreat
open Go Go.RowKit
attribute [local go_sem] Oper.semAt_some
theorem run_makeBools2 (n : Nat) (hn : n ≤ 1000000000) (w : World) : (Instr.makeSlice 131 (.int .i64 (n : Int)) (.int .i64 (n : Int))).run Tryz.prog w = .ok (.slice (some ⟨w.heap.size, 0, none⟩) n n) (w.alloc (.cells (List.replicate n (Value.bool false)).toArray 4)) := by
  have h : (Tryz.prog.info? 4).map (fun i => (i.zero, i.size, i.bytes)) = some (some (.bool false), 1, 1) := by kernel_rfl
  obtain ⟨i, h1, h2, h3, h4⟩ := info_parts h
  have := run_make_row (P := Tryz.prog) 131 4 i (.bool false) Tryz.underlying131 h1 h2 h3 rfl .i64 .i64 n (by rw [h4]; omega) (by omega) w
  have e : madeCells #[Value.bool false] n = (List.replicate n (Value.bool false)).toArray := Array.ext' (by rw [toList_madeCells_one])
  rw [e] at this
  exact this
def RBAt (W0 : World) (gd : Nat) (L : List Bool) (wr : World) : Prop :=
  ∃ y : Later W0, wr = y.now ∧ Arr y.now gd 4 (L.map .bool) ∧ W0.heap.size ≤ gd
theorem RBAt.grow {W0 : World} {gd : Nat} {L : List Bool} {wr w2 : World} (h : RBAt W0 gd L wr) (hg : Grows wr w2) : RBAt W0 gd L w2 := by
  obtain ⟨y, rfl, h1, h2⟩ := h
  exact ⟨⟨w2, y.grows.trans hg⟩, rfl, h1.grow hg, h2⟩
theorem RBAt.put {W0 : World} {gd : Nat} {L : List Bool} {wr w2 : World} (h : RBAt W0 gd L wr) (hg : Grows wr w2) (j : Nat) (b : Bool) : RBAt W0 gd (L.set j b) (w2.setCell ⟨gd, j, none⟩ (.bool b)) := by
  obtain ⟨y, rfl, h1, h2⟩ := h.grow hg
  have hk : Grows W0 (y.now.setCell ⟨gd, j, none⟩ (.bool b)) := ((Touch.refl (fun k => k = gd) _).set (.inl rfl) _).later y.grows (fun k hk => by rw [hk]; exact h2)
  refine ⟨⟨_, hk⟩, rfl, ?_, h2⟩
  rw [List.map_set]
  exact h1.set j _
theorem bb_at {L : List Bool} {j : Nat} (h : j < L.length) : (L.map Value.bool)[j]? = some (.bool (bb L j)) := by simp [bb, h]
def tvs (l : List Bool) : List Value := l.map .bool
def light17 (N : Int) (n : Nat) : Bool := lightG N n && (decide (N ≤ 30) || decide (4096 < N)) && decide (n ≤ 100)
end Go.Proofs.YtomednfddpggaaaGreat
