/- Contracts: the answer's rows of edges; whether a number is there. -/
import Derived.Test.YtiljgkaffgclgaaQPartsReach05
import Derived.Test.YtiljgkaffgclgaaQPartsReach03
import Derived.Shelf.SlGeneric
import Derived.Shelf.SlIterI.Nil
import Derived.Shelf.SlIterI.Sorted
import Derived.Shelf.SortM.Plain
import Derived.Shelf.SortM.SortNone
import Derived.Shelf.Slices.CompactI
import Derived.Ground.GgzProg
import Derived.Ground.SlgmProg
import Derived.Ground.Names2Prog
import Derived.Test.YtiljgkaffgclgaaProg
import Derived.Test.YtiljgkaffgclgaaQPartsReach10
import Derived.Sort.OwnSortedInts
import Derived.Lib.SlicesCompact
import Derived.Test.YtiljgkaffgclgaaQPartsReach14
/- The values of a row of numbers, handed over one by one (slices.Values); collected (slices.AppendSeq, slices.Collect). -/
namespace Go.Proofs.Ytiljgkaffgclgaa
open Go Go.RowKit
attribute [local go_sem] Oper.semAt_some
theorem valuesI (A : Option Addr) (n c : Nat) (w : World) : Calls Try.prog 110 #[.slice A n c] w fun e w' =>
    e = .returned (.func (.func 160) #[] #[.pointer (some ⟨w.heap.size, 0, none⟩)]) ∧ w' = w.alloc (.cells #[.slice A n c] 25) := by
  go_enter Try.func110, Try.ntmps110
  go_wp2
  go_ret
  exact ⟨rfl, rfl⟩
theorem Rd.touchV {w w' : World} {S : Nat → Prop} {A : Option Addr} {size n : Nat} {xs : List Value} (h : Rd w A size n xs) (ht : Touch S w w') (hp : 0 < n → ∀ p, A = some p → ¬ S p.block) : Rd w' A size n xs :=
  ⟨h.1, fun h1 h2 => by
    obtain ⟨g, off, e, hc⟩ := h.2 h1 h2
    exact ⟨g, off, e, fun j u hu => ht.cell (p := ⟨g, off + j, none⟩) (hp h1 ⟨g, off, none⟩ e) (hc j u hu)⟩⟩
def encI (x : Int) : Array Value := #[.int .i64 x]
set_option maxRecDepth 20000 in
set_option maxHeartbeats 2000000 in
theorem valI_gives (B M0 : Nat → Prop) (bm : Nat) (A : Option Addr) (c : Nat) (l : List Int) (w : World) (hl : l.length ≤ 1000000) (h : Rd w A 1 l.length (l.map (.int .i64))) (hA : 0 < l.length → ∀ p, A = some p → B p.block ∨ M0 p.block)
    (hb : Arr w bm 25 [.slice A l.length c]) (m1 : B bm ∨ M0 bm) (hm : ∀ k, M0 k → k < w.heap.size) :
    Gives Try.prog 160 #[.pointer (some ⟨bm, 0, none⟩)] encI B M0 l w := by
  intro ln J Jx W hkW hJ hJx hY h0
  have HJ := hide hJ
  have HY := hide hY
  have H0 := hide h0
  have hA2 : 0 < l.length → ∀ p, A = some p → ¬ ¬ (B p.block ∨ M0 p.block) := fun hn p hp h1 => h1 (hA hn p hp)
  have HA := hide hA2
  have HR := hide (h.touchV hkW hA2)
  have i1 : Arr W bm 25 [.slice A l.length c] := ⟨hkW.at m1 hb.is⟩
  have hmW : ∀ k, M0 k → k < W.heap.size := fun k hk => Nat.lt_of_lt_of_le (hm k hk) hkW.size
  have HM := hide hmW
  clear hJ hY h0 hkW h hA hA2 hb hm hmW m1
  refine callsIn_of_wp Try.func160 rfl trivial ?_ rfl
  simp only [Try.ntmps160, List.size_toArray, List.length_cons, List.length_nil, Nat.reduceAdd, Nat.reduceSub, Array.replicate_succ, Array.replicate_zero, List.push_toArray, List.append_toArray, List.nil_append, List.cons_append]
  gi_wp2_with fail
  gi_loopw [7] (fun s wr => ∃ k : Nat, k ≤ l.length ∧ s = .int .i64 (k : Int) ∧ Keeps B M0 W wr ∧ J (l.take k) M0 wr) (fun s _ => l.length - (Go.RowKit.intOf s).toNat)
  case atStart => exact ⟨0, by omega, by go_num, Keeps.refl _ _ _, H0.out⟩
  case round =>
    obtain ⟨k, hk, rfl, hkp, hj⟩ := hrel
    have HJ1 := hide hj
    have HKP := hide hkp
    have HRr := hide (HR.out.touchV hkp HA.out)
    clear hj hkp H0
    by_cases hlt : k < l.length
    · obtain ⟨g, off, rfl, hc⟩ := HRr.out.intsH (by omega)
      have c1 := hc k hlt
      have hsp : l = l.take k ++ gi l k :: l.drop (k + 1) := by
        have : gi l k = l[k] := by simp [gi, hlt]
        rw [this, List.getElem_cons_drop, List.take_append_drop]
      obtain ⟨fn, tmps, assign, body, hy, hR⟩ := HY.out _ _ _ _ _ hsp HJ1.out
      unfold encI at hy
      have HRR := hide hR
      have HSP := hide hsp
      have HSN := hide (show l.take (k + 1) = l.take k ++ [gi l k] from by
        rw [List.take_succ_eq_append_getElem hlt]
        simp [gi, hlt])
      clear hc hR hsp
      gi_wp2
      refine HRR.out.mono ?_
      rintro e W3 (⟨rfl, hJ3, hk3⟩ | ⟨rfl, hJx3, _⟩)
      · have HJ3 := hide hJ3
        have HK3 := hide hk3
        clear hJ3 hk3
        gi_wp2
        go_roundw
        case rel => exact ⟨k + 1, by omega, by go_num, HKP.out.trans HK3.out, by rw [HSN.out]; exact HJ3.out⟩
        case measure => simp [Go.RowKit.intOf]; omega
      · have HJX := hide hJx3
        clear hJx3
        gi_wp2
        refine bodyPost_ret (results_none rfl _ _ _) rfl ?_
        exact ⟨⟨_, rfl⟩, .inr ⟨l.take k, gi l k, l.drop (k + 1), _, HSP.out, HJX.out⟩⟩
    · have hke : l.take k = l := List.take_of_length_le (by omega)
      have HJ2 := HJ1.out
      rw [hke] at HJ2
      have HJE := hide HJ2
      clear HJ2 hke
      gi_wp2
      go_end0
      exact ⟨⟨_, rfl⟩, .inl ⟨_, HJE.out⟩⟩
end Go.Proofs.Ytiljgkaffgclgaa

/-
  DERIVED: THE SHELF's CONTRACTS AT THIS DUMP, IN PLAIN WORDS (tools/lay-plain.mjs out of 'TryIter.lean', which tools/lay-shelf.mjs wrote): THE SAME DECLARATIONS UNDER THE SAME NAMES: 'import', 'namespace', 'open', 'def', 'theorem' AND NOTHING ELSE: no command of the shelf's: FOR A HAND-IN. Each laying: the table of numbers ('.._ren') and one theorem, a field a fact of the dump's own or the kernel's comparison; each contract: ONE APPLICATION.
-/
namespace Go.Proofs
open Go.Shelf
def Try.sortedA_ren : Go.Shelf.Ren := ⟨fun | 6 => 109 | 8 => 159 | 9 => 148 | 11 => 186 | 13 => 180 | 12 => 179 | 23 => 203 | 24 => 204 | 14 => 194 | 15 => 195 | 16 => 196 | 17 => 197 | 18 => 198 | 19 => 199 | 20 => 200 | 21 => 201 | 22 => 202 | 25 => 205 | 26 => 206 | 27 => 207 | 28 => 208 | 29 => 209 | 30 => 210 | 31 => 211 | n => n, fun | 26 => 3 | 28 => 142 | 24 => 25 | 0 => 0 | 3 => 3 | 37 => 187 | 48 => 220 | 50 => 33 | 4 => 4 | 40 => 230 | 39 => 229 | 45 => 234 | 5 => 5 | 9 => 9 | 51 => 238 | 55 => 242 | 57 => 244 | 58 => 109 | 33 => 97 | n => n, fun | n => n⟩
theorem Try.sortedA : Go.Proofs.SlLaysZI.n6 Try.prog Try.sortedA_ren := {
  mixed := by kernel_rfl
  f6 := ⟨Try.f109.name, by decide, Try.func109.trans (congrArg some (by kernel_rfl))⟩
  f8 := ⟨Try.f159.name, by decide, Try.func159.trans (congrArg some (by kernel_rfl))⟩
  f11 := ⟨Try.f186.name, by decide, Try.func186.trans (congrArg some (by kernel_rfl))⟩
  t0 := Try.underlying0
  a0 := Try.isAgg0
  z0 := Try.sizeOf0
  v0 := Try.zeroValue0
  t24 := Try.underlying25
  a24 := Try.isAgg25
  z24 := Try.sizeOf25
  v24 := Try.zeroValue25
  t26 := Try.underlying3
  a26 := Try.isAgg3
  z26 := Try.sizeOf3
  v26 := Try.zeroValue3
  t28 := Try.underlying142
  a28 := Try.isAgg142
  z28 := Try.sizeOf142
  v28 := Try.zeroValue142
  i26 := by kernel_rfl }
def Try.sortA_ren : Go.Shelf.Ren := ⟨fun | 5 => 148 | 8 => 180 | 7 => 179 | 19 => 203 | 20 => 204 | 10 => 194 | 11 => 195 | 12 => 196 | 13 => 197 | 14 => 198 | 15 => 199 | 16 => 200 | 17 => 201 | 18 => 202 | 30 => 205 | 31 => 206 | 32 => 207 | 33 => 208 | 34 => 209 | 35 => 210 | 40 => 211 | n => n, fun | 23 => 25 | 25 => 3 | 3 => 3 | 32 => 187 | 22 => 25 | 0 => 0 | 44 => 220 | 46 => 33 | 4 => 4 | 36 => 230 | 35 => 229 | 41 => 234 | 5 => 5 | 9 => 9 | 53 => 238 | 57 => 242 | 63 => 244 | 64 => 109 | n => n, fun | n => n⟩
theorem Try.sortA : Go.Proofs.SlLaysM.n5 Try.prog Try.sortA_ren := {
  mixed := by kernel_rfl
  f5 := ⟨Try.f148.name, by decide, Try.func148.trans (congrArg some (by kernel_rfl))⟩
  f7 := ⟨Try.f179.name, by decide, Try.func179.trans (congrArg some (by kernel_rfl))⟩
  f8 := Try.func180.trans (congrArg some (by kernel_rfl))
  f10 := ⟨Try.f194.name, by decide, Try.func194.trans (congrArg some (by kernel_rfl))⟩
  f11 := ⟨Try.f195.name, by decide, Try.func195.trans (congrArg some (by kernel_rfl))⟩
  f12 := ⟨Try.f196.name, by decide, Try.func196.trans (congrArg some (by kernel_rfl))⟩
  f13 := ⟨Try.f197.name, by decide, Try.func197.trans (congrArg some (by kernel_rfl))⟩
  f14 := ⟨Try.f198.name, by decide, Try.func198.trans (congrArg some (by kernel_rfl))⟩
  f15 := ⟨Try.f199.name, by decide, Try.func199.trans (congrArg some (by kernel_rfl))⟩
  f16 := ⟨Try.f200.name, by decide, Try.func200.trans (congrArg some (by kernel_rfl))⟩
  f17 := ⟨Try.f201.name, by decide, Try.func201.trans (congrArg some (by kernel_rfl))⟩
  f18 := ⟨Try.f202.name, by decide, Try.func202.trans (congrArg some (by kernel_rfl))⟩
  f19 := Try.func203.trans (congrArg some (by kernel_rfl))
  f20 := Try.func204.trans (congrArg some (by kernel_rfl))
  f30 := ⟨Try.f205.name, by decide, Try.func205.trans (congrArg some (by kernel_rfl))⟩
  f31 := Try.func206.trans (congrArg some (by kernel_rfl))
  f32 := Try.func207.trans (congrArg some (by kernel_rfl))
  f33 := ⟨Try.f208.name, by decide, Try.func208.trans (congrArg some (by kernel_rfl))⟩
  f34 := ⟨Try.f209.name, by decide, Try.func209.trans (congrArg some (by kernel_rfl))⟩
  f35 := ⟨Try.f210.name, by decide, Try.func210.trans (congrArg some (by kernel_rfl))⟩
  f40 := ⟨Try.f211.name, by decide, Try.func211.trans (congrArg some (by kernel_rfl))⟩
  t0 := Try.underlying0
  a0 := Try.isAgg0
  z0 := Try.sizeOf0
  v0 := Try.zeroValue0
  t3 := Try.underlying3
  a3 := Try.isAgg3
  z3 := Try.sizeOf3
  v3 := Try.zeroValue3
  t4 := Try.underlying4
  a4 := Try.isAgg4
  z4 := Try.sizeOf4
  v4 := Try.zeroValue4
  t5 := Try.underlying5
  a5 := Try.isAgg5
  z5 := Try.sizeOf5
  v5 := Try.zeroValue5
  t9 := Try.underlying9
  a9 := Try.isAgg9
  z9 := Try.sizeOf9
  v9 := Try.zeroValue9
  t22 := Try.underlying25
  a22 := Try.isAgg25
  z22 := Try.sizeOf25
  v22 := Try.zeroValue25
  t23 := Try.underlying25
  a23 := Try.isAgg25
  z23 := Try.sizeOf25
  v23 := Try.zeroValue25
  t25 := Try.underlying3
  a25 := Try.isAgg3
  z25 := Try.sizeOf3
  v25 := Try.zeroValue3
  t32 := Try.underlying187
  a32 := Try.isAgg187
  z32 := Try.sizeOf187
  v32 := Try.zeroValue187
  t35 := Try.underlying229
  a35 := Try.isAgg229
  z35 := Try.sizeOf229
  v35 := Try.zeroValue229
  t36 := Try.underlying230
  a36 := Try.isAgg230
  z36 := Try.sizeOf230
  v36 := Try.zeroValue230
  t41 := Try.underlying234
  a41 := Try.isAgg234
  z41 := Try.sizeOf234
  v41 := Try.zeroValue234
  t44 := Try.underlying220
  a44 := Try.isAgg220
  z44 := Try.sizeOf220
  v44 := Try.zeroValue220
  t46 := Try.underlying33
  a46 := Try.isAgg33
  z46 := Try.sizeOf33
  v46 := Try.zeroValue33
  t53 := Try.underlying238
  a53 := Try.isAgg238
  z53 := Try.sizeOf238
  v53 := Try.zeroValue238
  t57 := Try.underlying242
  a57 := Try.isAgg242
  z57 := Try.sizeOf242
  v57 := Try.zeroValue242
  t63 := Try.underlying244
  a63 := Try.isAgg244
  z63 := Try.sizeOf244
  v63 := Try.zeroValue244
  t64 := Try.underlying109
  a64 := Try.isAgg109
  z64 := Try.sizeOf109
  v64 := Try.zeroValue109 }
def Try.lays20_ren : Go.Shelf.Ren := ⟨fun | 20 => 111 | n => n, fun | 22 => 25 | 3 => 3 | 4 => 4 | 0 => 0 | n => n, fun | n => n⟩
theorem Try.lays20 : Go.Proofs.Lays2.n20 Try.prog Try.lays20_ren := {
  mixed := by kernel_rfl
  f20 := Try.func111.trans (congrArg some (by kernel_rfl))
  t0 := Try.underlying0
  a0 := Try.isAgg0
  z0 := Try.sizeOf0
  v0 := Try.zeroValue0
  t3 := Try.underlying3
  a3 := Try.isAgg3
  z3 := Try.sizeOf3
  v3 := Try.zeroValue3
  t4 := Try.underlying4
  a4 := Try.isAgg4
  z4 := Try.sizeOf4
  v4 := Try.zeroValue4
  t22 := Try.underlying25
  a22 := Try.isAgg25
  z22 := Try.sizeOf25
  v22 := Try.zeroValue25
  i3 := by kernel_rfl }
end Go.Proofs

/- Contracts: the values of a row, collected in a new row (slices.Collect of slices.Values), sorted (slices.Sorted). -/
namespace Go.Proofs.Ytiljgkaffgclgaa
open Go Go.RowKit
attribute [local go_sem] Oper.semAt_some
section
variable {F : Fence} {m : Nat} {w : World} {e : TypeId} {ops : Array Oper} {rest : List Oper} {o : Oper} {a : Act} {Q : Exit → Act → World → Prop}
/-- append of one element of one cell, inside a round; where the row lies behind it. -/
theorem wp_appV {t : TypeId} (E : Elem t e 1) (hgd : o.guard = none) (s x : Operand) (ho : o.op = .call { callee := .builtin .append, args := #[s, x], argTypes := #[t, t] })
    (lo : Nat) (hlo : lo ≤ w.heap.size) (n c : Nat) (A : Option Addr) (xs : List Value) (hs : a.eval s = .slice A n c) (hown : Own w lo e 1 A n c xs) (g c' : Nat) (v : Value) (hx : a.eval x = .slice (some ⟨g, 0, none⟩) 1 c')
    (hv : Holds w ⟨g, 0, none⟩ v) (h1 : v.oneCell' = true) (hnm : n + 1 ≤ 1000000000000)
    (h : ∀ A' c'' w', Own w' lo e 1 A' (n + 1) c'' (xs ++ [v]) → Touch (fun k => ∃ p, A = some p ∧ p.block = k) w w' → (∀ p, A' = some p → (∃ q, A = some q ∧ q.block = p.block) ∨ New w w' p.block) → wpListIn F m Try.prog ops Q rest (a.put o.dst (.slice A' (n + 1) c'')) w') :
    wpListIn F m Try.prog ops Q (o :: rest) a w := by
  obtain ⟨i, z, bytes, hi, hz, hsz, hby, hzs, hb64⟩ := E.info
  refine wpListIn_plain hgd fun K hK' => ?_
  obtain ⟨v', w', hr, hown', hgr, _, hat⟩ := run_append_own_at (P := Try.prog) w lo t o.type e i z 1 bytes E.under hi hz hsz hby hzs E.pos (.slice A n c) n xs hown ⟨g, 0, none⟩ 1 c' [v] rfl (fun j u hu => by
    have hj : j = 0 := by
      have := (List.getElem?_eq_some_iff.1 hu).1
      simpa using this
    subst hj
    simp at hu
    subst hu
    simpa [Addr.add] using hv.cell) (by intro u hu; simp at hu; rw [hu]; exact h1) (by unfold maxLen; omega) (Nat.le_trans (Nat.mul_le_mul hnm hb64) (by omega)) hlo
  obtain ⟨A', c'', rfl⟩ := own_form hown'
  have ht : Touch (fun k => ∃ p, A = some p ∧ p.block = k) w w' := (Touch.refl _ w).grown hgr fun k hk => .inl (by
    cases A with
    | none => simp [Value.ownBlock] at hk
    | some p => simp [Value.ownBlock] at hk; exact ⟨p, rfl, hk⟩)
  have hloc : ∀ p, A' = some p → (∃ q, A = some q ∧ q.block = p.block) ∨ New w w' p.block := fun p hp => by
    have hlt := (hown'.lt p.block (by subst hp; rfl)).2
    subst hp
    simp only [Value.ownBlock] at hat
    rcases hat with hat | hat
    · left
      cases A with
      | none => simp at hat
      | some q => exact ⟨q, rfl, by simpa using hat.symm⟩
    · right
      have e9 : p.block = w.heap.size := by simpa using hat
      exact ⟨Nat.le_of_eq e9.symm, hlt⟩
  unfold Oper.wpIn
  refine ⟨?_, ?_⟩
  · simp [Oper.about, ho, resolve, Target.leads, Sem.run_pure]
  · rw [Oper.semAt_plain F _ _ (by rw [ho]; intro c hc'; cases hc')]
    simp [execOp, ho, resolve, invoke, builtin, hs, hx, hr, Result.andThen]
    exact hK' _ _ (h A' c'' w' hown' ht hloc)
end
theorem Own.inB {w : World} {B n c size : Nat} {e : TypeId} {A : Option Addr} {xs : List Value} (h : Own w B e size A n c xs) : ∀ p, A = some p → B ≤ p.block ∧ p.block < w.heap.size := fun p hp => World.ownsRow.lt h p.block (by subst hp; rfl)
/-- Between two values. -/
def ApI (w : World) (lo b2 : Nat) (p : List Int) (Mi : Nat → Prop) (W : World) : Prop :=
  ∃ A c, (∃ y : Later w, W = y.now) ∧ Arr W b2 25 [.slice A p.length c] ∧ Own W lo 3 1 A p.length c (p.map (.int .i64)) ∧ (∀ q, A = some q → ¬ Mi q.block) ∧ (∀ k, Mi k → lo ≤ k ∧ k < W.heap.size) ∧ lo ≤ W.heap.size
theorem ApI.yields {w : World} {lo b2 : Nat} (h1 : b2 < lo) (hlo : w.heap.size ≤ lo) : Yields' (ApI w lo b2) := by
  rintro p Mi W Mi' W' ⟨A, c, ⟨y, rfl⟩, a1, a2, a3, a4, a5⟩ ht hM'
  refine ⟨A, c, ⟨⟨W', ht.later y.grows (fun k hk => Nat.le_trans hlo (a4 k hk).1)⟩, rfl⟩, a1.touch ht (fun e => by have := (a4 _ e).1; omega), a2.touch ht a3, fun q hq e => ?_, fun k hk => ?_, Nat.le_trans a5 ht.size⟩
  · rcases (hM' _ e).1 with h | h
    · exact a3 q hq h
    · have := (a2.inB q hq).2; omega
  · obtain ⟨h | h, h'⟩ := hM' k hk
    · exact ⟨(a4 k h).1, h'⟩
    · exact ⟨by omega, h'⟩
def FrameAp (b2 : Nat) (x : Int) (a' : Act) : Prop := ∃ u0 u1 u3 u4 u6 u7 u8 u9 u10 u11 u12 : Value, a' = { tmps := #[u0, u1, .pointer (some ⟨b2, 0, none⟩), u3, u4, .int .i64 x, u6, u7, u8, u9, u10, u11, u12], defers := [] }
def ApB (w : World) (lo b2 : Nat) (x : Int) (a' : Act) (p : List Int) (Mi : Nat → Prop) (W : World) : Prop := FrameAp b2 x a' ∧ ApI w lo b2 p Mi W
set_option maxRecDepth 40000 in
set_option maxHeartbeats 8000000 in
theorem appendSeqI (bm : Nat) (A : Option Addr) (c : Nat) (l : List Int) (w : World) (h : Rd w A 1 l.length (l.map (.int .i64))) (hA : 0 < l.length → ∀ p, A = some p → p.block < w.heap.size) (hb : Arr w bm 25 [.slice A l.length c]) (hl : l.length ≤ 1000000) :
    Calls Try.prog 186 #[.slice none 0 0, .func (.func 160) #[] #[.pointer (some ⟨bm, 0, none⟩)]] w fun e w' =>
      ∃ A' c', e = .returned (.slice A' l.length c') ∧ Own w' w.heap.size 3 1 A' l.length c' (l.map (.int .i64)) ∧ Grows w w' := by
  have HR := hide h
  have HAL := hide hA
  have hbl := hb.lt
  have HB := hide hb
  clear h hA hb
  refine calls_of_marks Try.func186 rfl ?_
  simp only [Try.ntmps186, List.size_toArray, List.length_cons, List.length_nil, Nat.reduceAdd, Nat.reduceSub, Array.replicate_succ, Array.replicate_zero, List.push_toArray, List.append_toArray, List.nil_append, List.cons_append]
  go_upto_region 1 with fail
  have q2 : Arr (w.alloc (.cells #[.slice none 0 0] 25)) w.heap.size 25 [.slice none 0 0] := Arr.make _ _ _
  have hgw : Grows w (w.alloc (.cells #[.slice none 0 0] 25)) := (Grows.refl _).new _
  have hz0 : (w.alloc (.cells #[.slice none 0 0] 25)).heap.size = w.heap.size + 1 := by simp
  generalize (w.alloc (.cells #[.slice none 0 0] 25)) = W0 at *
  have HB0 := hide (HB.out.grow hgw)
  have HR0 := hide (HR.out.grows hgw)
  have HAW := hide (show 0 < l.length → ∀ p, A = some p → p.block < w.heap.size from HAL.out)
  clear HB HR HAL
  obtain ⟨b2, hb2⟩ : ∃ b, b = w.heap.size := ⟨_, rfl⟩
  rw [← hb2] at q2 hz0
  rw [← hb2]
  have h0 : ApI w W0.heap.size b2 [] (fun _ => False) W0 := ⟨none, 0, ⟨⟨W0, hgw⟩, rfl⟩, q2, Own.nil _ _ _ _, fun q hq => (by cases hq), fun k hk => hk.elim, Nat.le_refl _⟩
  have hIy := ApI.yields (w := w) (lo := W0.heap.size) (b2 := b2) (by omega) (by omega)
  have hsz0 : w.heap.size ≤ W0.heap.size := by omega
  have g2 : w.heap.size ≤ b2 := by omega
  clear hb2
  have H0 := hide h0
  clear h0 q2
  go_wp2_with fail
  refine (wpIn_wide (n := 0)).1 ?_
  refine wp_rangeG (w0 := W0) (gf := 160) rfl (enters_of Try.func160 (by kernel_rfl) rfl)
    (valI_gives (fun k => k < w.heap.size) (fun _ => False) bm A c l W0 hl HR0.out (fun hn p hp => .inl (HAW.out hn p hp)) HB0.out (.inl (by omega)) (fun k hk => hk.elim))
    (Keeps.refl _ _ _) (fun k hk => by omega) (fun k hk => hk.elim) (fun _ => rfl)
    (ApI w W0.heap.size b2) (fun _ _ _ _ => False) hIy (fun c _ _ _ _ _ h _ _ => h.elim) H0.out (ApB w W0.heap.size b2) ?hIb ?assign ?body ?done ?stop
  case hIb =>
    rintro x a' p Mi W1 Mi' W' ⟨hf, hI⟩ ht hM'
    exact ⟨hf, hIy p Mi W1 Mi' W' hI ht hM'⟩
  case assign =>
    intro l2 p x rest Mi W1 hsp hI
    have HI := hide hI
    clear hI
    unfold encI
    gi_wp2
    refine ⟨⟨?_, HI.out⟩, Keeps.refl _ _ _⟩
    unfold FrameAp
    (repeat apply Exists.intro)
    rfl
  case body =>
    rintro l2 p x rest Mi a' W1 hsp hl2 hMl hrec ⟨⟨u0, u1, u3, u4, u6, u7, u8, u9, u10, u11, u12, rfl⟩, ⟨A9, c9, ⟨y, rfl⟩, q6, ho, hnM, hm, hlo⟩⟩
    have hpl : p.length < 1000000 := by
      rw [hsp] at hl
      simp at hl
      omega
    have HO := hide ho
    have HNM := hide hnM
    have HMM := hide hm
    clear hsp hl2 hMl hrec hm hIy ho hnM HR0 HB0 HAW H0
    have HNB : Hid (∀ q, A9 = some q → q.block ≠ b2) := fun q hq => HO.out.not_arr q6 (by decide) q hq
    have hyo : W0.heap.size ≤ (y.now.alloc (.cells #[.int .i64 x] 3)).heap.size := by simp; omega
    gi_wp2_with (refine wp_appV elemInt rfl _ _ rfl W0.heap.size hyo p.length c9 A9 _ rfl (HO.out.new _) _ _ _ rfl inferInstance rfl (by omega) ?_; intro A3 c3 w3 ho3 ht3 hn3; have q63 : Arr w3 b2 25 [.slice A9 p.length c9] := (q6.grow ((Grows.refl _).new _)).touch ht3 (fun e => by obtain ⟨q, hq, e2⟩ := e; exact HNB.out q hq e2); have HO3 := hide ho3; have HT3 := hide ht3; have HN3 := hide hn3; clear ho3 ht3 hn3)
    have htt : Touch (fun k => ¬ ((k < w.heap.size) ∨ Mi k)) y.now w3 := Touch.trans2 (((Grows.refl y.now).new _).touch _) HT3.out (fun k hk => by
      obtain ⟨q, hq, e2⟩ := hk
      have h1 := (HO.out.inB q hq).1
      refine .inl (fun e => ?_)
      rcases e with e | e
      · omega
      · exact HNM.out q hq (by rw [e2]; exact e))
    have hsz3 := htt.size
    have hyg3 : Grows w w3 := htt.later y.grows (fun k hk => by
      rcases Nat.lt_or_ge k w.heap.size with h | h
      · exact absurd (.inl h) hk
      · exact h)
    have hb6n : ¬ ((b2 < w.heap.size) ∨ Mi b2) := fun e => by
      rcases e with e | e
      · omega
      · have := (HMM.out _ e).1; omega
    refine ⟨htt.set (.inl hb6n) _, A3, c3, ⟨⟨_, hyg3.set g2 _⟩, rfl⟩, ?_, ?_, fun q hq e => ?_, fun k hk => ?_, ?_⟩
    · have := q63.set 0 (.slice A3 (p.length + 1) c3)
      rw [List.length_append, List.length_singleton]
      exact this
    · rw [List.length_append, List.length_singleton, List.map_append]
      exact HO3.out.low (q := ⟨b2, 0, none⟩) (by show b2 < _; omega) _
    · rcases HN3.out q hq with ⟨q2, hq2, e2⟩ | hnew
      · exact HNM.out q2 hq2 (by rw [e2]; exact e)
      · have h1 := (HMM.out _ e).2
        have h2 := hnew.1
        simp at h2
        omega
    · rw [size_setCell]
      have := HMM.out k hk
      exact ⟨this.1, by omega⟩
    · rw [size_setCell]; omega
  case done =>
    intro D Mi W1 hlD hMD hI hDW
    obtain ⟨A9, c9, ⟨y, rfl⟩, q6, ho, hnM, hm, hlo⟩ := hI
    have HO := hide (ho.base (B' := w.heap.size) hsz0)
    have HDW := hide hDW
    have HNB : Hid (∀ q, A9 = some q → q.block ≠ D) := fun q hq e => hnM q hq (by rw [e]; exact hMD)
    clear hm hDW hIy ho hnM HR0 HB0 HAW H0
    gi_wp2
    go_wp2_with fail
    refine marks_end [D] rfl ((Marks.nil _).cons HDW.out (by simp)) (fun W' htt => ?_)
    refine ⟨.slice A9 l.length c9, by simp (maxDischargeDepth := 6) [results, Try.results186, go_sem], A9, c9, rfl, ?_, htt.later y.grows (fun k hk => by rw [List.mem_singleton.1 hk]; omega)⟩
    exact HO.out.touch htt (fun q hq e => HNB.out q hq (List.mem_singleton.1 e))
  case stop =>
    intro D c' p i rest Mi W1 _ _ _ h _
    exact h.elim
theorem collectI (bm : Nat) (A : Option Addr) (c : Nat) (l : List Int) (w : World) (h : Rd w A 1 l.length (l.map (.int .i64))) (hA : 0 < l.length → ∀ p, A = some p → p.block < w.heap.size) (hb : Arr w bm 25 [.slice A l.length c]) (hl : l.length ≤ 1000000) :
    Calls Try.prog 159 #[.func (.func 160) #[] #[.pointer (some ⟨bm, 0, none⟩)]] w fun e w' =>
      ∃ A' c', e = .returned (.slice A' l.length c') ∧ Own w' w.heap.size 3 1 A' l.length c' (l.map (.int .i64)) ∧ Grows w w' := by
  have C := hide (appendSeqI bm A c l w h hA hb hl)
  clear h hA hb
  go_enter Try.func159, Try.ntmps159
  go_wp2_with (go_at_call 186; refine C.out.mono ?_; rintro e w' ⟨A', c', rfl, ho, hg⟩; have HO := hide ho; have HG := hide hg; clear ho hg)
  go_ret
  exact ⟨A', c', rfl, HO.out, HG.out⟩
def srtV (xs : List Int) : List Int := xs.mergeSort fun x y => decide (x ≤ y)
theorem srtV_len (xs : List Int) : (srtV xs).length = xs.length := List.length_mergeSort _
theorem sortOwnV (B : Nat) (w : World) (A : Option Addr) (n c : Nat) (xs : List Int) (ho : Own w B 3 1 A n c (xs.map (.int .i64))) (hn : n ≤ 1000000) :
    Calls Try.prog 148 #[.slice A n c] w fun e w' => e = .returned (.tuple #[]) ∧ Touch (fun k => ∃ p, A = some p ∧ p.block = k) w w' ∧ Own w' B 3 1 A n c ((srtV xs).map (.int .i64)) := by
  have hl : xs.length = n := by simpa using ho.len
  rcases Nat.eq_zero_or_pos n with h0 | h0
  · subst h0
    have hx : xs = [] := List.eq_nil_of_length_eq_zero hl
    subst hx
    refine (AnyM.slices_Sort_int_none Try.sortA A c w).mono ?_
    rintro e w' ⟨rfl, rfl⟩
    exact ⟨rfl, Touch.refl _ _, by simpa [srtV] using ho⟩
  · obtain ⟨g, cur, rfl, hB, hh, hc, hs, ht⟩ := ho.at_ h0
    have hm : c ≤ maxLen := by
      rcases ho.2 with ⟨h1, _⟩ | ⟨g2, cap, cur2, h1, _, _, _, h5, _⟩
      · cases h1
      · injection h1 with _ _ h7; subst h7; exact h5
    subst hl
    have hH := holds_of_blockI (ss := xs) hh (by rw [Nat.mul_one] at ht; exact ht)
    refine (AnyM.slices_Sort_int Try.sortA g 0 c xs w hH (Array.getElem?_eq_some_iff.1 hh).1 (by omega)).mono ?_
    rintro e w' ⟨rfl, k, os, rfl⟩
    have hg1 := grownBy_sortedI (w := w) (g := g) (n := k) (os := os) (srtV xs).toArray
    have ho1 := ownsRow_sortedI (w := w) (base := B) (g := g) (n := k) (cap := c) (os := os) (ss := xs) (ts := srtV xs) (srtV_len xs) hB hh hc hm hs
    exact ⟨rfl, (Touch.refl _ w).grown hg1 (fun k hk => .inl ⟨_, rfl, by simpa using hk⟩), ho1⟩
theorem sortedI (bm : Nat) (A : Option Addr) (c : Nat) (l : List Int) (w : World) (h : Rd w A 1 l.length (l.map (.int .i64))) (hA : 0 < l.length → ∀ p, A = some p → p.block < w.heap.size) (hb : Arr w bm 25 [.slice A l.length c]) (hl : l.length ≤ 1000000) :
    Calls Try.prog 109 #[.func (.func 160) #[] #[.pointer (some ⟨bm, 0, none⟩)]] w fun e w' =>
      ∃ A' c', e = .returned (.slice A' l.length c') ∧ Own w' w.heap.size 3 1 A' l.length c' ((srtV l).map (.int .i64)) ∧ Grows w w' := by
  have C := hide (collectI bm A c l w h hA hb hl)
  clear h hA hb
  go_enter Try.func109, Try.ntmps109
  go_wp2_with (go_at_call 159; refine C.out.mono ?_; rintro e w1 ⟨A', c', rfl, ho, hg⟩; have CS := hide (sortOwnV w.heap.size w1 A' l.length c' l ho hl); have HO := hide ho; have HG := hide hg; clear ho hg)
  refine CS.out.mono ?_
  rintro e w2 ⟨rfl, ht, ho2⟩
  have HG2 := hide (ht.later HG.out (fun k hk => by
    obtain ⟨p, hp, rfl⟩ := hk
    exact (HO.out.inB p hp).1))
  have HO2 := hide ho2
  clear ht ho2
  go_wp2_with fail
  go_ret
  exact ⟨A', c', rfl, HO2.out, HG2.out⟩
end Go.Proofs.Ytiljgkaffgclgaa

/- How many unlike numbers there are, and which is there most often (plain). -/
namespace Go.Proofs.Ytiljgkaffgclgaa
open Go Go.RowKit
theorem len_le_of_sub : ∀ (a b : List Int), a.Nodup → (∀ x ∈ a, x ∈ b) → a.length ≤ b.length
  | [], _, _, _ => Nat.zero_le _
  | x :: a, b, hn, hs => by
    rw [List.nodup_cons] at hn
    have hx : x ∈ b := hs x (by simp)
    have h1 := len_le_of_sub a (b.erase x) hn.2 (fun y hy => by
      have hne : y ≠ x := fun e => hn.1 (e ▸ hy)
      exact (List.mem_erase_of_ne hne).2 (hs y (by simp [hy])))
    have h2 := List.length_erase_of_mem hx
    have h3 : 0 < b.length := List.length_pos_of_mem hx
    simp only [List.length_cons]
    omega
theorem len_eq_of_mem {a b : List Int} (ha : a.Nodup) (hb : b.Nodup) (h : ∀ x, x ∈ a ↔ x ∈ b) : a.length = b.length :=
  Nat.le_antisymm (len_le_of_sub a b ha fun x hx => (h x).1 hx) (len_le_of_sub b a hb fun x hx => (h x).2 hx)
/-- The first ones of each kind, among the first k. -/
def fsts (l : List Int) : Nat → List Int
  | 0 => []
  | k + 1 => if gi l k ∈ l.take k then fsts l k else fsts l k ++ [gi l k]
theorem take_mem1 {l : List Int} {k : Nat} (hk : k < l.length) (x : Int) : x ∈ l.take (k + 1) ↔ x ∈ l.take k ∨ x = gi l k := by
  have e : gi l k = l[k] := by simp [gi, hk]
  rw [List.take_succ_eq_append_getElem hk, e, List.mem_append, List.mem_singleton]
theorem fsts_is (l : List Int) : ∀ k, k ≤ l.length → (fsts l k).Nodup ∧ ∀ x, x ∈ fsts l k ↔ x ∈ l.take k
  | 0, _ => by simp [fsts]
  | k + 1, hk => by
    obtain ⟨h1, h2⟩ := fsts_is l k (by omega)
    have h3 := take_mem1 (l := l) (k := k) (by omega)
    unfold fsts
    split
    · rename_i h
      refine ⟨h1, fun x => ?_⟩
      rw [h2, h3]
      exact ⟨.inl, fun e => e.elim id (fun e => e ▸ h)⟩
    · rename_i h
      refine ⟨?_, fun x => ?_⟩
      · rw [List.nodup_append]
        refine ⟨h1, by simp, fun a ha b hb e => ?_⟩
        simp only [List.mem_singleton] at hb
        subst hb e
        exact h ((h2 _).1 ha)
      · rw [List.mem_append, h2, h3, List.mem_singleton]
open Lib in
theorem compactUpTo_is (zs : List Int) (hs : zs.Pairwise (· ≤ ·)) : ∀ m, m ≤ zs.length → (compactUpTo zs.toArray m).Nodup ∧ ∀ x, x ∈ compactUpTo zs.toArray m ↔ x ∈ zs.take m
  | 0, _ => by simp [compactUpTo]
  | m + 1, hm => by
    obtain ⟨h1, h2⟩ := compactUpTo_is zs hs m (by omega)
    have h3 := take_mem1 (l := zs) (k := m) (by omega)
    have e1 : zs.toArray[m]! = gi zs m := by simp [gi, show m < zs.length by omega]
    rw [compactUpTo_succ]
    by_cases hk : keeps zs.toArray m = true
    · rw [if_pos hk, e1]
      have hnew : gi zs m ∉ zs.take m := by
        intro hx
        obtain ⟨j, hj, e⟩ := List.getElem_of_mem hx
        rw [List.length_take] at hj
        have hjm : j < m := by omega
        have e2 : zs[j]'(by omega) = gi zs m := by rw [← e]; simp
        unfold keeps at hk
        rw [decide_eq_true_eq] at hk
        rcases hk with hk | hk
        · omega
        · have e3 : zs.toArray[m - 1]! = zs[m - 1]'(by omega) := by simp [show m - 1 < zs.length by omega]
          rw [e1, e3] at hk
          have hle : zs[j]'(by omega) ≤ zs[m - 1]'(by omega) := by
            rcases Nat.lt_or_ge j (m - 1) with h | h
            · exact List.pairwise_iff_getElem.1 hs j (m - 1) (by omega) (by omega) h
            · have : j = m - 1 := by omega
              subst this
              exact Int.le_refl _
          have hle2 : zs[m - 1]'(by omega) ≤ zs[m]'(by omega) := List.pairwise_iff_getElem.1 hs (m - 1) m (by omega) (by omega) (by omega)
          have e4 : gi zs m = zs[m]'(by omega) := by simp [gi, show m < zs.length by omega]
          rw [e2] at hle
          rw [e4] at hle hk
          omega
      refine ⟨?_, fun x => ?_⟩
      · rw [List.nodup_append]
        refine ⟨h1, by simp, fun a ha b hb e => ?_⟩
        simp only [List.mem_singleton] at hb
        subst hb e
        exact hnew ((h2 _).1 ha)
      · rw [List.mem_append, h2, h3, List.mem_singleton]
    · rw [if_neg hk, List.append_nil]
      refine ⟨h1, fun x => ?_⟩
      rw [h2, h3]
      refine ⟨.inl, fun e => e.elim id (fun e => ?_)⟩
      have hk2 : ¬ (m = 0 ∨ zs.toArray[m]! ≠ zs.toArray[m - 1]!) := by
        intro h
        exact hk (by unfold keeps; exact decide_eq_true h)
      have hm0 : m ≠ 0 := fun h => hk2 (.inl h)
      have e5 : zs.toArray[m]! = zs.toArray[m - 1]! := Classical.byContradiction fun h => hk2 (.inr h)
      have e3 : zs.toArray[m - 1]! = zs[m - 1]'(by omega) := by simp [show m - 1 < zs.length by omega]
      rw [e1, e3] at e5
      rw [e, e5]
      exact List.mem_iff_getElem.2 ⟨m - 1, by simp; omega, by simp⟩
/-- How many unlike numbers there are. -/
theorem counts_is (l : List Int) : (Lib.compact (srtV l)).length = (fsts l l.length).length := by
  have hs : (srtV l).Pairwise (· ≤ ·) := by
    have := List.pairwise_mergeSort (le := fun x y : Int => decide (x ≤ y)) (fun a b c h1 h2 => by simp at *; omega) (fun a b => by simp; omega) l
    exact this.imp fun h => by simpa using h
  have h1 := compactUpTo_is (srtV l) hs (srtV l).length (Nat.le_refl _)
  have h2 := fsts_is l l.length (Nat.le_refl _)
  refine len_eq_of_mem h1.1 h2.1 fun x => ?_
  show x ∈ Lib.compactUpTo (srtV l).toArray (srtV l).length ↔ _
  rw [h1.2, h2.2, List.take_length, List.take_length]
  exact List.mem_mergeSort
/-- Among those of S: which is there most often, and how often; the least one of such. -/
def IsBest (f : Int → Nat) (S : Int → Prop) (b : Int) (m : Nat) : Prop := ((∀ x, ¬ S x) ∧ b = 0 ∧ m = 0) ∨ (S b ∧ f b = m ∧ ∀ x, S x → f x < m ∨ (f x = m ∧ b ≤ x))
theorem IsBest.none (f : Int → Nat) {S : Int → Prop} (h : ∀ x, ¬ S x) : IsBest f S 0 0 := .inl ⟨h, rfl, rfl⟩
theorem IsBest.congr {f : Int → Nat} {S S' : Int → Prop} {b : Int} {m : Nat} (h : IsBest f S b m) (e : ∀ x, S x ↔ S' x) : IsBest f S' b m := by
  rcases h with ⟨h1, h2⟩ | ⟨h1, h2, h3⟩
  · exact .inl ⟨fun x hx => h1 x ((e x).2 hx), h2⟩
  · exact .inr ⟨(e b).1 h1, h2, fun x hx => h3 x ((e x).2 hx)⟩
theorem IsBest.yes {f : Int → Nat} {S : Int → Prop} {b x : Int} {m : Nat} (h : IsBest f S b m) (hx : m < f x ∨ (f x = m ∧ x < b)) (h0 : 0 < f x) : IsBest f (fun z => S z ∨ z = x) x (f x) := by
  refine .inr ⟨.inr rfl, rfl, fun z hz => ?_⟩
  rcases hz with hz | rfl
  · rcases h with ⟨h1, _⟩ | ⟨h1, h2, h3⟩
    · exact absurd hz (h1 z)
    · rcases h3 z hz with h4 | h4 <;> omega
  · exact .inr ⟨rfl, Int.le_refl _⟩
theorem IsBest.no {f : Int → Nat} {S : Int → Prop} {b x : Int} {m : Nat} (h : IsBest f S b m) (hx : ¬ (m < f x ∨ (f x = m ∧ x < b))) (h0 : 0 < f x) : IsBest f (fun z => S z ∨ z = x) b m := by
  rcases h with ⟨h1, h2, h3⟩ | ⟨h1, h2, h3⟩
  · exact absurd (.inl (by omega)) hx
  · refine .inr ⟨.inl h1, h2, fun z hz => ?_⟩
    rcases hz with hz | rfl
    · exact h3 z hz
    · omega
theorem IsBest.uniq {f : Int → Nat} {S : Int → Prop} {b b' : Int} {m m' : Nat} (h : IsBest f S b m) (k : IsBest f S b' m') : b = b' ∧ m = m' := by
  rcases h with ⟨h1, h2, h3⟩ | ⟨h1, h2, h3⟩
  · rcases k with ⟨k1, k2, k3⟩ | ⟨k1, _⟩
    · exact ⟨by rw [h2, k2], by rw [h3, k3]⟩
    · exact absurd k1 (h1 _)
  · rcases k with ⟨k1, _⟩ | ⟨k1, k2, k3⟩
    · exact absurd h1 (k1 _)
    · have a := h3 _ k1
      have c := k3 _ h1
      omega
end Go.Proofs.Ytiljgkaffgclgaa

/- Contracts: how many unlike numbers there are, by the program; are two rows of truths the same? -/
namespace Go.Proofs.Ytiljgkaffgclgaa
open Go Go.RowKit
attribute [local go_sem] Oper.semAt_some
theorem compactI (B : Nat) (w : World) (A : Option Addr) (c : Nat) (zs : List Int) (hB : B ≤ w.heap.size) (ho : Own w B 3 1 A zs.length c (zs.map (.int .i64))) (hn : zs.length ≤ 1000000) (w0 : World) (hg : Grows w0 w) (hB0 : w0.heap.size ≤ B) :
    Calls Try.prog 111 #[.slice A zs.length c] w fun e w' => e = .returned (.slice A (Lib.compact zs).length c) ∧ Grows w0 w' := by
  rcases Nat.eq_zero_or_pos zs.length with h0 | h0
  · have hx : zs = [] := List.eq_nil_of_length_eq_zero h0
    subst hx
    refine (Any.slices_Compact_int_empty Try.lays20 A c w).mono ?_
    rintro e w' ⟨rfl, rfl⟩
    exact ⟨rfl, hg⟩
  · obtain ⟨g, cur, rfl, hBg, hh, hc, hs, ht⟩ := ho.at_ h0
    have hH := holds_of_blockI (ss := zs) hh (by rw [Nat.mul_one] at ht; exact ht)
    refine (Any.slices_Compact_int Try.lays20 g 0 c zs w hH (by omega) hc).mono ?_
    rintro e w' ⟨rfl, q, rfl⟩
    have hg1 := grownBy_sortedI (w := w) (g := g) (n := q) (os := #[]) (Lib.compact zs ++ List.replicate (zs.length - (Lib.compact zs).length) 0).toArray
    rw [Go.Sort.grow_empty] at hg1
    exact ⟨rfl, ((Touch.refl (fun k => k = g) w).grown hg1 (fun k hk => .inl (by simpa using hk.symm))).later hg (fun k hk => by rw [hk]; omega)⟩
set_option maxRecDepth 20000 in
set_option maxHeartbeats 2000000 in
theorem paCount (A : Option Addr) (c : Nat) (l : List Int) (w : World) (h : Rd w A 1 l.length (l.map (.int .i64))) (hA : 0 < l.length → ∀ p, A = some p → p.block < w.heap.size) (hl : l.length ≤ 1000000) :
    Calls Try.prog 59 #[.slice A l.length c] w fun e w' => e = .returned (.int .i64 (((fsts l l.length).length : Nat) : Int)) ∧ Grows w w' := by
  have CV := hide (fun (W : World) => valuesI A l.length c W)
  have hg1 : Grows w (w.alloc (.cells #[.slice A l.length c] 25)) := (Grows.refl w).new _
  have CS := hide (sortedI w.heap.size A c l _ (h.grows hg1) (fun hn p hp => Nat.lt_of_lt_of_le (hA hn p hp) hg1.size) (Arr.make w _ _) hl)
  have HG1 := hide hg1
  have HCN := hide (counts_is l)
  have hlb : (Lib.compact (srtV l)).length ≤ 1000000 := by
    rw [counts_is]
    have h1 := len_le_of_sub (fsts l l.length) l (fsts_is l l.length (Nat.le_refl _)).1 (fun x hx => by have := ((fsts_is l l.length (Nat.le_refl _)).2 x).1 hx; rwa [List.take_length] at this)
    omega
  clear h hA hg1
  go_enter Try.func59, Try.ntmps59
  go_wp2_with (first
    | (go_at_call 110; refine (CV.out _).mono ?_; rintro e w' ⟨rfl, rfl⟩)
    | (go_at_call 109; refine CS.out.mono ?_; rintro e w1 ⟨A1, c1, rfl, ho, hg⟩; have CC := hide (compactI (w.alloc (.cells #[.slice A l.length c] 25)).heap.size w1 A1 c1 (srtV l) hg.size (by rw [srtV_len]; exact ho) (by rw [srtV_len]; exact hl) w (HG1.out.trans hg) HG1.out.size); rw [srtV_len] at CC; clear ho hg))
  refine CC.out.mono ?_
  rintro e w2 ⟨rfl, hg2⟩
  have HG2 := hide hg2
  rw [HCN.out] at *
  clear hg2
  go_wp2_with fail
  go_ret
  exact ⟨rfl, HG2.out⟩
set_option maxRecDepth 20000 in
set_option maxHeartbeats 2000000 in
theorem tr17R (A B : Option Addr) (c d : Nat) (L : List Bool) (w : World) (h1 : Rd w A 1 L.length (L.map .bool)) (h2 : Rd w B 1 L.length (L.map .bool)) (hn : L.length ≤ 1000000) :
    Calls Try.prog 39 #[.slice A L.length c, .slice B L.length d] w fun e w' => e = .returned (.bool true) ∧ Grows w w' := by
  have H1 := hide h1
  have H2 := hide h2
  clear h1 h2
  go_enter Try.func39, Try.ntmps39
  go_wp2_with fail
  go_loopw [5] (fun i wr => ∃ k : Nat, k ≤ L.length ∧ i = .int .i64 (k : Int) ∧ ∃ y : Later w, wr = y.now) (fun i _ => L.length - (Go.RowKit.intOf i).toNat)
  case atStart => exact ⟨0, by omega, by go_num, ⟨w, Grows.refl _⟩, rfl⟩
  case round =>
    obtain ⟨k, hk, rfl, y, rfl⟩ := hrel
    by_cases hlt : k < L.length
    · obtain ⟨g1, o1, rfl, k1⟩ := (H1.out.grows y.grows).at_ (by omega)
      obtain ⟨g2, o2, rfl, k2⟩ := (H2.out.grows y.grows).at_ (by omega)
      have m1 : Holds y.now ⟨g1, o1 + k, none⟩ (.bool (bb L k)) := ⟨k1 k _ (bb_at hlt)⟩
      have m2 : Holds y.now ⟨g2, o2 + k, none⟩ (.bool (bb L k)) := ⟨k2 k _ (bb_at hlt)⟩
      clear k1 k2
      generalize bb L k = q at *
      go_upto_region 6 with fail
      ((first | refine wp_region_gen (by kernel_rfl) (by kernel_rfl) ?_); (repeat' (first | (refine gLex_val0 rfl (by kernel_rfl) (fun K hK => ?_); (go_simp; (try (simp only [↓IntWalk.iteOmega]; try go_simp)); (try simp (disch := omega) only [IntWalk.i64_in]); (try simp (disch := omega) only [IntWalk.u64_in]); first | (refine hK _ ?_; clear hK K) | (apply Exists.intro; refine ⟨fun x => ?_, hK _ ?_⟩; (first | fail); clear hK K))) | (refine gLex_undef rfl rfl rfl (by kernel_rfl) (fun K hK => ?_); go_simp; refine hK _ ?_; clear hK K) | (refine gLex_ask rfl rfl rfl ?_; first | (apply gAsk_yes; kernel_rfl; intro K hK; (go_simp; (try (simp only [↓IntWalk.iteOmega]; try go_simp)); (try simp (disch := omega) only [IntWalk.i64_in]); (try simp (disch := omega) only [IntWalk.u64_in]); first | (refine hK _ ?_; clear hK K) | (apply Exists.intro; refine ⟨fun x => ?_, hK _ ?_⟩; (first | fail); clear hK K))) | ((first | apply gAsk_no1 | apply gAsk_no2); kernel_rfl; intro K hK; simp [go_sem]; refine hK _ ?_; clear hK K) | (apply gAsk_part; kernel_rfl; all_goals (intro h K hK; (try simp only [Bool.not_true] at h); (try simp only [Bool.not_false] at h); (try simp only [decide_eq_true_eq] at h); (try simp only [decide_eq_false_iff_not] at h); first | (exfalso; first | contradiction | omega) | (go_simp; (try (simp only [↓IntWalk.iteOmega]; try go_simp)); (try simp (disch := omega) only [IntWalk.i64_in]); (try simp (disch := omega) only [IntWalk.u64_in]); first | (refine hK _ ?_; clear hK K) | (apply Exists.intro; refine ⟨fun x => ?_, hK _ ?_⟩; (first | fail); clear hK K))))))); all_goals ((apply gLex_end); intro y7))
      go_wp2_with fail
      go_roundw
      case measure => simp [Go.RowKit.intOf]; omega
      case rel => exact ⟨k + 1, by omega, by go_num, ⟨_, y.grows.trans y7.grows⟩, rfl⟩
    · obtain rfl : k = L.length := by omega
      go_wp2_with fail
      go_ret
      exact ⟨rfl, y.grows⟩
end Go.Proofs.Ytiljgkaffgclgaa

/- Contracts: the answer's rows of edges; whether a number is there. -/
namespace Go.Proofs.Ytiljgkaffgclgaa
open Go Go.RowKit
set_option maxHeartbeats 1000000 in
theorem r1Has (A : Option Addr) (n c : Nat) (l : List Int) (v : Int) (w : World) (h : Rd w A 1 n (l.map (.int .i64))) (hn : n ≤ 1000000) :
    Calls Try.prog 75 #[.slice A n c, .int .i64 v] w fun e w' => e = .returned (.bool (decide (v ∈ l))) ∧ w = w' := by
  have HL := hide (show l.length = n by simpa using h.len)
  have HR := hide h
  clear h
  go_enter Try.func75, Try.ntmps75
  go_wp2
  go_loop [5] (fun i => ∃ k : Nat, k ≤ n ∧ i = .int .i64 (k : Int) ∧ ∀ j, j < k → gi l j ≠ v) (fun i => n - (intOf i).toNat)
  case atStart => exact ⟨0, by omega, by go_num, fun j h1 => by omega⟩
  case round =>
    obtain ⟨q, hq, rfl, hall⟩ := hrel
    have HA := hide hall
    clear hall
    by_cases hend : n ≤ q
    · go_wp2
      go_ret
      refine ⟨ret_bool (decide_eq_false fun hm => ?_).symm, rfl⟩
      obtain ⟨j, hj, e⟩ := mem_gi hm
      exact HA.out j (by have := HL.out; omega) e
    · obtain ⟨b, off, rfl, hc⟩ := HR.out.ints (by omega)
      have hc1 := hc q (by omega)
      clear hc
      by_cases hv : gi l q = v
      · have HV := hide (show v ∈ l from hv ▸ gi_mem (by have := HL.out; omega))
        have hd : (gi l q == v) = true := by simpa using hv
        clear hv
        go_wp2
        go_ret
        exact ⟨ret_bool (decide_eq_true HV.out).symm, rfl⟩
      · have HV := hide hv
        have hd : (gi l q == v) = false := by simpa using hv
        clear hv
        go_wp2
        go_round
        case measure => simp [intOf]; omega
        case rel =>
          refine ⟨q + 1, by omega, by go_num, fun j h1 => ?_⟩
          by_cases hj : j = q
          · rw [hj]; exact HV.out
          · exact HA.out j (by omega)

theorem anyI_false {l : List Int} {p : Int → Bool} {n : Nat} (hl : l.length = n) (h : ∀ j, j < n → p (gi l j) = false) : l.any p = false := by
  rw [List.any_eq_false]
  intro e he
  obtain ⟨j, hj, rfl⟩ := mem_gi he
  rw [h j (by omega)]
  simp
theorem anyI_true {l : List Int} {p : Int → Bool} {j : Nat} (hj : j < l.length) (h : p (gi l j) = true) : l.any p = true := by
  rw [List.any_eq_true]
  exact ⟨gi l j, gi_mem hj, h⟩

set_option maxHeartbeats 2000000 in
theorem r8edges (N : Int) (A : Option Addr) (m c : Nat) (E : List Edg) (B : Option Addr) (n d : Nat) (l : List Int) (w : World) (h : Rd w A 3 m (esCells E)) (hm : m ≤ 1000000) (h' : Rd w B 1 n (l.map (.int .i64))) (hn : n ≤ 1000000) :
    Calls Try.prog 85 #[.agg #[.int .i64 N, .slice A m c], .slice B n d] w fun e w' => e = .returned (.bool (edgesB N E l)) ∧ Grows w w' := by
  have HL := hide h.elen
  have HL' := hide (show l.length = n by simpa using h'.len)
  have HR := hide h
  have HS := hide (h'.new (.cells #[.int .i64 N, .slice A m c] 24))
  clear h h'
  have C1 := fun (W : World) (g : Grows w W) => r5Right N A m c E W (HR.out.grows g) hm
  by_cases h0 : rightF N E = 0
  · have HW : Hid (edgesB N E l = !l.any fun e => !edgeB m e) := by unfold edgesB; rw [HL.out, decide_eq_true h0]; rfl
    rw [h0] at C1
    have H1 := hide C1
    clear C1 h0
    go_enter Try.func85, Try.ntmps85
    go_wp2_with (first | (go_at_call 16; refine (H1.out _ (by repeat (first | exact Grows.refl _ | refine Grows.now ?_ _ | refine Grows.new ?_ _ | refine Grows.drewN ?_ _ | refine Grows.drew ?_ | assumption | (refine Grows.set ?_ (by first | omega | (simp; done) | (simp; omega)) _)))).mono ?_; rintro e w' ⟨rfl, hg⟩; (first | obtain ⟨x, rfl⟩ := Grows.later2 hg | obtain ⟨x, rfl⟩ := Grows.later hg); clear hg))
    go_loopw [5] (fun i wr => ∃ k : Nat, k ≤ n ∧ i = .int .i64 (k : Int) ∧ (∃ x : Later (w.alloc (.cells #[.int .i64 N, .slice A m c] 24)), wr = x.now) ∧ ∀ j, j < k → (!edgeB m (gi l j)) = false) (fun i _ => n - (intOf i).toNat)
    case atStart => exact ⟨0, by omega, by go_num, ⟨_, rfl⟩, fun j h1 => by omega⟩
    case round =>
      obtain ⟨q, hq, rfl, ⟨y, rfl⟩, hall⟩ := hrel
      have HA := hide hall
      clear hall
      by_cases hend : n ≤ q
      · go_wp2
        go_ret
        refine ⟨ret_bool ?_, (by repeat (first | exact Grows.refl _ | refine Grows.now ?_ _ | refine Grows.new ?_ _ | refine Grows.drewN ?_ _ | refine Grows.drew ?_ | assumption | (refine Grows.set ?_ (by first | omega | (simp; done) | (simp; omega)) _)))⟩
        rw [HW.out, anyI_false (p := fun e => !edgeB m e) HL'.out fun j hj => HA.out j (by omega)]
        rfl
      · obtain ⟨b, off, rfl, hc⟩ := HS.out.ints (by omega)
        have hc1 := hc q (by omega)
        clear hc
        cases hp : edgeB m (gi l q) with
        | true =>
          have HP : Hid ((!edgeB m (gi l q)) = false) := by rw [show Hid ((!edgeB m (gi l q)) = false) = ((!edgeB m (gi l q)) = false) from rfl, hp]; rfl
          have hp' : 0 ≤ gi l q ∧ gi l q < m := by simpa [edgeB] using hp
          obtain ⟨hp1, hp2⟩ := hp'
          clear hp
          go_wp2_with fail
          ((first | refine wp_region_gen2 (by kernel_rfl) (by kernel_rfl) ?_ | refine wp_region_gen (by kernel_rfl) (by kernel_rfl) ?_); (repeat' (first | (refine gLex_val0 rfl (by kernel_rfl) (fun K hK => ?_); (go_simp; (try (simp only [↓IntWalk.iteOmega]; try go_simp)); (try simp (disch := omega) only [IntWalk.i64_in]); (try simp (disch := omega) only [IntWalk.u64_in]); first | (refine hK _ ?_; clear hK K) | (apply Exists.intro; refine ⟨fun x => ?_, hK _ ?_⟩; (first | fail); clear hK K))) | (refine gLex_undef rfl rfl rfl (by kernel_rfl) (fun K hK => ?_); go_simp; refine hK _ ?_; clear hK K) | (refine gLex_ask rfl rfl rfl ?_; first | (apply gAsk_yes; kernel_rfl; intro K hK; (go_simp; (try (simp only [↓IntWalk.iteOmega]; try go_simp)); (try simp (disch := omega) only [IntWalk.i64_in]); (try simp (disch := omega) only [IntWalk.u64_in]); first | (refine hK _ ?_; clear hK K) | (apply Exists.intro; refine ⟨fun x => ?_, hK _ ?_⟩; (first | fail); clear hK K))) | ((first | apply gAsk_no1 | apply gAsk_no2); kernel_rfl; intro K hK; simp [go_sem]; refine hK _ ?_; clear hK K) | (apply gAsk_part; kernel_rfl; all_goals (intro h K hK; (try simp only [Bool.not_true] at h); (try simp only [Bool.not_false] at h); (try simp only [decide_eq_true_eq] at h); (try simp only [decide_eq_false_iff_not] at h); first | (exfalso; first | contradiction | omega) | (go_simp; (try (simp only [↓IntWalk.iteOmega]; try go_simp)); (try simp (disch := omega) only [IntWalk.i64_in]); (try simp (disch := omega) only [IntWalk.u64_in]); first | (refine hK _ ?_; clear hK K) | (apply Exists.intro; refine ⟨fun x => ?_, hK _ ?_⟩; (first | fail); clear hK K))))))); all_goals ((apply gLex_end); intro x))
          go_wp2
          go_roundw
          case measure => simp [intOf]; omega
          case rel =>
            refine ⟨q + 1, by omega, by go_num, ⟨_, rfl⟩, fun j h1 => ?_⟩
            by_cases hj : j = q
            · rw [hj]; exact HP.out
            · exact HA.out j (by omega)
        | false =>
          have HW2 : Hid (edgesB N E l = false) := by
            rw [show Hid (edgesB N E l = false) = (edgesB N E l = false) from rfl, HW.out, anyI_true (p := fun e => !edgeB m e) (l := l) (j := q) (by have := HL'.out; omega) (by simp [hp])]; rfl
          have hp' : gi l q < 0 ∨ (m : Int) ≤ gi l q := by
            have : ¬ (0 ≤ gi l q ∧ gi l q < m) := by simpa [edgeB] using hp
            omega
          clear hp HW
          rcases hp' with hp | hp
          all_goals
            go_wp2_with fail
            ((first | refine wp_region_gen2 (by kernel_rfl) (by kernel_rfl) ?_ | refine wp_region_gen (by kernel_rfl) (by kernel_rfl) ?_); (repeat' (first | (refine gLex_val0 rfl (by kernel_rfl) (fun K hK => ?_); (go_simp; (try (simp only [↓IntWalk.iteOmega]; try go_simp)); (try simp (disch := omega) only [IntWalk.i64_in]); (try simp (disch := omega) only [IntWalk.u64_in]); first | (refine hK _ ?_; clear hK K) | (apply Exists.intro; refine ⟨fun x => ?_, hK _ ?_⟩; (first | fail); clear hK K))) | (refine gLex_undef rfl rfl rfl (by kernel_rfl) (fun K hK => ?_); go_simp; refine hK _ ?_; clear hK K) | (refine gLex_ask rfl rfl rfl ?_; first | (apply gAsk_yes; kernel_rfl; intro K hK; (go_simp; (try (simp only [↓IntWalk.iteOmega]; try go_simp)); (try simp (disch := omega) only [IntWalk.i64_in]); (try simp (disch := omega) only [IntWalk.u64_in]); first | (refine hK _ ?_; clear hK K) | (apply Exists.intro; refine ⟨fun x => ?_, hK _ ?_⟩; (first | fail); clear hK K))) | ((first | apply gAsk_no1 | apply gAsk_no2); kernel_rfl; intro K hK; simp [go_sem]; refine hK _ ?_; clear hK K) | (apply gAsk_part; kernel_rfl; all_goals (intro h K hK; (try simp only [Bool.not_true] at h); (try simp only [Bool.not_false] at h); (try simp only [decide_eq_true_eq] at h); (try simp only [decide_eq_false_iff_not] at h); first | (exfalso; first | contradiction | omega) | (go_simp; (try (simp only [↓IntWalk.iteOmega]; try go_simp)); (try simp (disch := omega) only [IntWalk.i64_in]); (try simp (disch := omega) only [IntWalk.u64_in]); first | (refine hK _ ?_; clear hK K) | (apply Exists.intro; refine ⟨fun x => ?_, hK _ ?_⟩; (first | fail); clear hK K))))))); all_goals ((apply gLex_end); intro x))
            go_wp2
            go_ret
            exact ⟨ret_bool HW2.out.symm, (by repeat (first | exact Grows.refl _ | refine Grows.now ?_ _ | refine Grows.new ?_ _ | refine Grows.drewN ?_ _ | refine Grows.drew ?_ | assumption | (refine Grows.set ?_ (by first | omega | (simp; done) | (simp; omega)) _)))⟩
  · have HW : Hid (edgesB N E l = false) := by unfold edgesB; rw [decide_eq_false h0]; rfl
    have hd : (rightF N E != 0) = true := by simpa using h0
    have H1 := hide C1
    clear C1 h0
    go_enter Try.func85, Try.ntmps85
    go_wp2_with (first | (go_at_call 16; refine (H1.out _ (by repeat (first | exact Grows.refl _ | refine Grows.now ?_ _ | refine Grows.new ?_ _ | refine Grows.drewN ?_ _ | refine Grows.drew ?_ | assumption | (refine Grows.set ?_ (by first | omega | (simp; done) | (simp; omega)) _)))).mono ?_; rintro e w' ⟨rfl, hg⟩; (first | obtain ⟨x, rfl⟩ := Grows.later2 hg | obtain ⟨x, rfl⟩ := Grows.later hg); clear hg))
    go_ret
    exact ⟨ret_bool HW.out.symm, (by repeat (first | exact Grows.refl _ | refine Grows.now ?_ _ | refine Grows.new ?_ _ | refine Grows.drewN ?_ _ | refine Grows.drew ?_ | assumption | (refine Grows.set ?_ (by first | omega | (simp; done) | (simp; omega)) _)))⟩

end Go.Proofs.Ytiljgkaffgclgaa
