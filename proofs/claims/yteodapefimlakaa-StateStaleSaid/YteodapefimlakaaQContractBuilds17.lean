/- Contract: arcs that are such are struck out of an own row (slices.DeleteFunc). -/
import Derived.Test.YteodapefimlakaaQContractBuilds16
import Derived.Test.YteodapefimlakaaQContractBuilds06
import Derived.Lib.SliceRun
import Derived.Test.YteodapefimlakaaQContractBuilds12
import Derived.Test.YteodapefimlakaaQContractBuilds05
/- Contract: arcs that are such are struck out of an own row (slices.DeleteFunc). -/
namespace Go.Proofs.Yteodapefimlakaa
open Go Go.RowKit
attribute [local go_sem] Oper.semAt_some
theorem gi2_mem {l : List Itm} {j : Nat} (h : j < l.length) : gi2 l j ∈ l := by
  unfold gi2
  rw [List.getD_eq_getElem?_getD, List.getElem?_eq_getElem h]
  exact List.getElem_mem h
theorem mem_gi2 {l : List Itm} {x : Itm} (h : x ∈ l) : ∃ j, j < l.length ∧ gi2 l j = x := by
  obtain ⟨j, hj, rfl⟩ := List.mem_iff_getElem.1 h
  exact ⟨j, hj, by simp [gi2, hj]⟩
theorem takeA {E : List Itm} {j : Nat} (h : j < E.length) : E.take (j + 1) = E.take j ++ [gi2 E j] := by
  rw [List.take_succ_eq_append_getElem h]
  simp [gi2, h]
structure KpA (p : Itm → Bool) (E L : List Itm) (i j : Nat) : Prop where
  len : L.length = E.length
  lt : i < j
  le : j ≤ E.length
  num : ((E.take j).filter fun x => !p x).length = i
  low : L.take i = (E.take j).filter fun x => !p x
  high : ∀ q, j ≤ q → L[q]? = E[q]?
theorem KpA.skip {p : Itm → Bool} {E L : List Itm} {i j : Nat} (h : KpA p E L i j) (hj : j < E.length) (hp : p (gi2 E j) = true) : KpA p E L i (j + 1) := by
  have e : (E.take (j + 1)).filter (fun x => !p x) = (E.take j).filter fun x => !p x := by rw [takeA hj]; simp [hp]
  exact ⟨h.len, by have := h.lt; omega, hj, by rw [e]; exact h.num, by rw [e]; exact h.low, fun q hq => h.high q (by omega)⟩
theorem KpA.keep {p : Itm → Bool} {E L : List Itm} {i j : Nat} (h : KpA p E L i j) (hj : j < E.length) (hp : p (gi2 E j) = false) : KpA p E (L.set i (gi2 E j)) (i + 1) (j + 1) := by
  have e : (E.take (j + 1)).filter (fun x => !p x) = ((E.take j).filter fun x => !p x) ++ [gi2 E j] := by rw [takeA hj]; simp [hp]
  have hl := h.len
  have hi : i < L.length := by have := h.lt; omega
  refine ⟨by simp [hl], by have := h.lt; omega, hj, by rw [e, List.length_append, h.num]; rfl, ?_, fun q hq => ?_⟩
  · rw [e, ← h.low]
    apply List.ext_getElem?
    intro q
    rw [List.getElem?_take, List.getElem?_set]
    rcases Nat.lt_trichotomy q i with h1 | h1 | h1
    · rw [if_pos (by omega), if_neg (by omega), List.getElem?_append_left (by rw [List.length_take]; omega), List.getElem?_take, if_pos h1]
    · subst h1
      rw [if_pos (by omega), if_pos rfl, if_pos hi, List.getElem?_append_right (by rw [List.length_take]; omega), List.length_take, Nat.min_eq_left (by omega), Nat.sub_self]
      rfl
    · rw [if_neg (by omega), List.getElem?_eq_none (by rw [List.length_append, List.length_take]; simp; omega)]
  · rw [List.getElem?_set, if_neg (by have := h.lt; omega)]
    exact h.high q (by omega)
theorem KpA.start {p : Itm → Bool} {E : List Itm} {k : Nat} (hk : k < E.length) (hp : p (gi2 E k) = true) (ha : ∀ j, j < k → p (gi2 E j) = false) : KpA p E E k (k + 1) := by
  have e0 : (E.take k).filter (fun x => !p x) = E.take k := by
    refine List.filter_eq_self.2 fun x hx => ?_
    obtain ⟨j, hj, rfl⟩ := List.mem_iff_getElem.1 hx
    rw [List.length_take] at hj
    have := ha j (by omega)
    rw [show gi2 E j = E[j]'(by omega) by simp [gi2, show j < E.length by omega]] at this
    simp [this]
  have e : (E.take (k + 1)).filter (fun x => !p x) = E.take k := by rw [takeA hk]; simp [hp, e0]
  exact ⟨rfl, by omega, hk, by rw [e, List.length_take]; omega, e.symm, fun _ _ => rfl⟩
theorem first_orA (p : Itm → Bool) (E : List Itm) : ∀ n, n ≤ E.length → (∀ j, j < n → p (gi2 E j) = false) ∨ ∃ k, k < n ∧ p (gi2 E k) = true ∧ ∀ j, j < k → p (gi2 E j) = false
  | 0, _ => .inl fun j hj => by omega
  | n + 1, hn => by
    rcases first_orA p E n (by omega) with h | ⟨k, h1, h2, h3⟩
    · cases hp : p (gi2 E n) with
      | true => exact .inr ⟨n, by omega, hp, h⟩
      | false =>
        refine .inl fun j hj => ?_
        by_cases e : j = n
        · rw [e]; exact hp
        · exact h j (by omega)
    · exact .inr ⟨k, by omega, h2, h3⟩
def firstA (p : Itm → Bool) (E : List Itm) (r : Int) : Prop := (r = -1 ∧ ∀ j : Nat, j < E.length → p (gi2 E j) = false) ∨ ∃ k : Nat, r = (k : Int) ∧ k < E.length ∧ p (gi2 E k) = true ∧ ∀ j, j < k → p (gi2 E j) = false
set_option maxRecDepth 20000 in
set_option maxHeartbeats 2000000 in
theorem indexFuncA (A : Option Addr) (n c : Nat) (E : List Itm) (k : FuncId) (cap : Array Value) (p : Itm → Bool) (w : World) (h : Rd w A 2 n (its E)) (hE : E.length = n) (hn : n ≤ 1000000) (hk : ∀ args W, (callFunc k args).run Try.prog W = .ok (.enter k args) W)
    (hf : ∀ W, Grows w W → ∀ e, e ∈ E → Calls Try.prog k (#[itVal e] ++ cap) W fun x w' => x = .returned (.bool (p e)) ∧ Grows W w') :
    Calls Try.prog 120 #[.slice A n c, .func (.func k) #[] cap] w fun e w' => (∃ r, e = .returned (.int .i64 r) ∧ firstA p E r) ∧ Grows w w' := by
  have HL := hide hE
  have HR := hide h
  have HF := hide hf
  clear h hf hE
  unfold itVal at HF
  go_enter Try.func120, Try.ntmps120
  go_wp2
  go_loopw [8] (fun i wr => ∃ k : Nat, k ≤ n ∧ i = .int .i64 (k : Int) ∧ (∃ x : Later w, wr = x.now) ∧ ∀ j, j < k → p (gi2 E j) = false) (fun i _ => n - (Go.RowKit.intOf i).toNat)
  case atStart => exact ⟨0, by omega, by go_num, ⟨⟨w, Grows.refl w⟩, rfl⟩, fun j h1 => by omega⟩
  case round =>
    obtain ⟨q, hq, rfl, ⟨x, rfl⟩, hall⟩ := hrel
    have HA := hide hall
    clear hall
    by_cases hend : q < n
    · obtain ⟨b, off, rfl, hc⟩ := HR.out.itemH (by omega) HL.out
      obtain ⟨c1, c2⟩ := hc q hend
      have HM := hide (gi2_mem (l := E) (j := q) (by rw [HL.out]; exact hend))
      have HQ := hide (fun (W : World) (g : Grows w W) => HF.out W g (gi2 E q) HM.out)
      have HPQ := hide (show ∀ b, p (gi2 E q) = b → p (gi2 E q) = b from fun _ h => h)
      clear hc
      cases hp : p (gi2 E q) with
      | true =>
        have HW : Hid (firstA p E (q : Int)) := hide (.inr ⟨q, rfl, by rw [HL.out]; exact hend, hp, HA.out⟩)
        rw [hp] at HQ
        clear hp HPQ
        generalize gi2 E q = ar at *
        obtain ⟨a1, a2⟩ := ar
        simp only at c1 c2 HQ
        go_wp2_with fail
        refine (HQ.out _ GG).mono ?_; rintro e w' ⟨rfl, hg⟩; obtain ⟨x1, rfl⟩ := Grows.later2 hg; clear hg
        go_wp2
        go_ret
        exact ⟨⟨_, rfl, HW.out⟩, GG⟩
      | false =>
        have HP := hide hp
        rw [hp] at HQ
        clear hp HPQ
        have HA2 := hide (show ∀ j, j < q + 1 → p (gi2 E j) = false from fun j h1 => by
          by_cases hj : j = q
          · rw [hj]; exact HP.out
          · exact HA.out j (by omega))
        clear HP
        generalize gi2 E q = ar at *
        obtain ⟨a1, a2⟩ := ar
        simp only at c1 c2 HQ
        go_wp2_with fail
        refine (HQ.out _ GG).mono ?_; rintro e w' ⟨rfl, hg⟩; obtain ⟨x1, rfl⟩ := Grows.later2 hg; clear hg
        go_wp2
        go_roundw
        case measure => simp [Go.RowKit.intOf]; omega
        case rel => exact ⟨q + 1, by omega, by go_num, ⟨_, rfl⟩, HA2.out⟩
    · obtain rfl : q = n := by omega
      go_wp2
      go_ret
      exact ⟨⟨_, rfl, .inl ⟨rfl, fun j hj => HA.out j (by rw [HL.out] at hj; exact hj)⟩⟩, GG⟩
theorem run_clearA (w : World) (ty : TypeId) (b o n c : Nat) (hn : 0 < n) (hc : ∀ j, j < n * 2 → (w.cell? ⟨b, o + j, none⟩).isSome = true) (hf : ∀ j, j < n * 2 → w.frozen? ⟨b, o + j, none⟩ = false) :
    ∃ vs : List Value, (Builtin.clear_ #[68] ty #[.slice (some ⟨b, o, none⟩) n c]).run Try.prog w = .ok (.tuple #[]) (w.setCells b o vs) := by
  have hv : ∀ w, (zeroValue 76).run Try.prog w = .ok (.agg #[.int .i64 0, .int .u64 0]) w := fun w => by kernel_rfl
  refine ⟨(Builtin.zeroCells (Value.agg #[.int .i64 0, .int .u64 0]).cells n).toList, ?_⟩
  have hcs : (Value.agg #[.int .i64 0, .int .u64 0]).cells = #[.int .i64 0, .int .u64 0] := by kernel_rfl
  have hsz : (Builtin.zeroCells (Value.agg #[.int .i64 0, .int .u64 0]).cells n).size = n * 2 := by rw [hcs]; simp [Builtin.zeroCells]
  have h1 : ∀ v ∈ (Builtin.zeroCells (Value.agg #[.int .i64 0, .int .u64 0]).cells n).toList, v.oneCell' = true := fun v hv' => by
    rw [hcs] at hv'
    simp only [Builtin.zeroCells, Array.toList_map, List.mem_map] at hv'
    obtain ⟨i, _, rfl⟩ := hv'
    have : i % 2 = 0 ∨ i % 2 = 1 := by omega
    simp only [List.size_toArray, List.length_cons, List.length_nil, Nat.zero_add, Nat.reduceAdd]
    rcases this with e | e <;> rw [e] <;> rfl
  have hst := run_storeCells_cells (P := Try.prog) b o (Builtin.zeroCells (Value.agg #[.int .i64 0, .int .u64 0]).cells n).toList 0 w (by rw [Array.length_toList, hsz]; simpa using hc) (by rw [Array.length_toList, hsz]; simpa using hf) h1
  simp only [Nat.add_zero] at hst
  obtain ⟨m, rfl⟩ : ∃ m, n = m + 1 := ⟨n - 1, by omega⟩
  simp [Builtin.clear_, run_underlying Try.underlying68, hv, hst]
theorem touchCells {g : Nat} (vs : List Value) : ∀ (w : World) (o : Nat), Touch (fun k => k = g) w (w.setCells g o vs) := by
  induction vs with
  | nil => exact fun w _ => Touch.refl _ w
  | cons v r ih => exact fun w o => ((Touch.refl (fun k => k = g) w).set (p := ⟨g, o, none⟩) (.inl rfl) v).trans (ih _ _)
theorem Own.putsA {B n c g size : Nat} {e : TypeId} (hn : 0 < n) : ∀ (vs : List Value) (o : Nat) (w : World) (xs : List Value), Own w B e size (some ⟨g, 0, none⟩) n c xs → ∃ xs', Own (w.setCells g o vs) B e size (some ⟨g, 0, none⟩) n c xs' ∧ ∀ q, q < o → xs'[q]? = xs[q]?
  | [], _, _, xs, h => ⟨xs, h, fun _ _ => rfl⟩
  | v :: r, o, w, xs, h => by
    obtain ⟨xs', h1, h2⟩ := Own.putsA hn r (o + 1) (w.setCell ⟨g, o, none⟩ v) (xs.set o v) (h.set rfl hn o v)
    unfold World.setCells
    refine ⟨xs', h1, fun q hq => ?_⟩
    rw [h2 q (by omega), List.getElem?_set, if_neg (by omega)]
def RowB (A : Option Addr) : Nat → Prop := fun k => ∃ p, A = some p ∧ p.block = k
set_option maxRecDepth 20000 in
set_option maxHeartbeats 8000000 in
theorem delFuncA (w : World) (A : Option Addr) (c : Nat) (E : List Itm) (k : FuncId) (cap : Array Value) (p : Itm → Bool) (ho : Own w 0 76 2 A E.length c (its E)) (hn : E.length ≤ 1000000) (hk : ∀ args W, (callFunc k args).run Try.prog W = .ok (.enter k args) W)
    (hf : ∀ W, Touch (RowB A) w W → ∀ e, e ∈ E → Calls Try.prog k (#[itVal e] ++ cap) W fun x w' => x = .returned (.bool (p e)) ∧ Grows W w') :
    Calls Try.prog 106 #[.slice A E.length c, .func (.func k) #[] cap] w fun e w' => Touch (RowB A) w w' ∧ e = .returned (.slice A (E.filter fun x => !p x).length c) ∧ Own w' 0 76 2 A (E.filter fun x => !p x).length c (its (E.filter fun x => !p x)) := by
  have CI := hide (indexFuncA A E.length c E k cap p w ho.rd rfl hn hk (fun W g e he => hf W (g.touch _) e he))
  have HO := hide ho
  have HF := hide hf
  obtain ⟨m, hm⟩ : ∃ m, m = E.length := ⟨_, rfl⟩
  rw [← hm] at hn
  have HM := hide hm
  simp only [← hm] at HO CI ⊢
  clear ho hf hm
  go_enter Try.func106, Try.ntmps106
  go_upto_region 2 with (go_at_call 120; refine (CI.out).mono ?_; rintro e w' ⟨⟨r, rfl, hr⟩, hg2⟩; obtain ⟨x0, rfl⟩ := hg2.later; have HR := hide hr; clear hg2 hr)
  rcases HR.out with ⟨rfl, hall⟩ | ⟨k0, rfl, hk0, hp0, ha0⟩
  · have hmem : ∀ e ∈ E, p e = false := fun e he => by
      obtain ⟨j, hj, rfl⟩ := mem_gi2 he
      exact hall j hj
    have e1 : E.filter (fun x => !p x) = E := List.filter_eq_self.2 fun x hx => by simp [hmem x hx]
    have HE1 := hide e1
    clear HR hall hmem e1 HF hk
    go_wp2_with fail
    go_ret
    rw [HE1.out, ← HM.out]
    exact ⟨x0.grows.touch _, rfl, HO.out.grows x0.grows⟩
  · have HK0 := hide (KpA.start hk0 hp0 ha0)
    have hne1 : ((k0 : Int) == -1) = false := beq_eq_false_iff_ne.2 (by omega)
    rw [← HM.out] at hk0
    obtain ⟨g, hA, hB, _⟩ := HO.out.at_ (by omega)
    have hcap := hide (show m ≤ c from by obtain ⟨_, _, _, _, _, hc, _⟩ := HO.out.at_ (by omega); exact hc)
    obtain ⟨rfl, _⟩ := hB
    clear hp0 ha0 HR CI
    go_wp2_with fail
    have HTX := hide (show Touch (RowB (some (⟨g, 0, none⟩ : Addr))) w x0.now from x0.grows.touch _)
    have HOX := hide (HO.out.grows x0.grows)
    generalize x0.now = W0 at *
    go_loopw [5, 6] (fun s5 s6 wr => ∃ i j : Nat, s5 = .int .i64 (i : Int) ∧ s6 = .int .i64 (j : Int) ∧ Touch (RowB (some (⟨g, 0, none⟩ : Addr))) w wr ∧ ∃ L, Hid (KpA p E L i j) ∧ Own wr 0 76 2 (some ⟨g, 0, none⟩) m c (its L)) (fun _ s6 _ => m - (Go.RowKit.intOf s6).toNat)
    case atStart => exact ⟨k0, k0 + 1, rfl, by go_num, HTX.out, E, HK0, HOX.out⟩
    case round =>
      obtain ⟨i, j, rfl, rfl, htt, L, HKP, hown⟩ := hrel
      have HO2 := hide hown
      have HTT := hide htt
      clear hown htt HTX HOX HO
      have hij := HKP.out.lt
      have hjm : j ≤ m := by have := HKP.out.le; have := HM.out; omega
      have hcc := hcap.out
      by_cases hlt : j < m
      · obtain ⟨_, e1, c1, c2⟩ := HO2.out.item hlt
        injection e1 with e1
        injection e1 with e1
        subst e1
        obtain ⟨_, e1, d1, d2⟩ := HO2.out.item (show i < m by omega)
        injection e1 with e1
        injection e1 with e1
        subst e1
        have eL : gi2 L j = gi2 E j := by unfold gi2; rw [List.getD_eq_getElem?_getD, List.getD_eq_getElem?_getD, HKP.out.high j (Nat.le_refl _)]
        rw [eL] at c1 c2
        have hjE : j < E.length := by have := HM.out; omega
        have HC := hide (fun (W : World) (g : Grows wr W) => HF.out W (HTT.out.grows g) (gi2 E j) (gi2_mem hjE))
        have hLl : L.length = m := by rw [HKP.out.len]; exact HM.out.symm
        have HLI := hide (show i < L.length by omega)
        unfold itVal at HC
        clear eL
        cases hq : p (gi2 E j) with
        | false =>
          have HKK := hide (HKP.out.keep hjE hq)
          rw [hq] at HC
          clear hq HKP hjE
          generalize gi2 E j = ar at *
          obtain ⟨a1, a2⟩ := ar
          simp only at c1 c2 HC
          have HIS := hide (its_set L i (a1, a2) HLI.out)
          go_wp2_with (refine (HC.out _ GG).mono ?_; rintro e w' ⟨rfl, hg2⟩; obtain ⟨x1, rfl⟩ := hg2.later; clear hg2)
          have hgx : Grows wr x1.now := GG
          have HO5 := hide (((HO2.out.grows hgx).set rfl (by omega) (i * 2) (.int .i64 (a1 : Int))).set rfl (by omega) (i * 2 + 1) (.int .u64 (a2 : Int)))
          have HT5 := hide (((HTT.out.grows hgx).set (p := ⟨g, i * 2, none⟩) (.inl ⟨_, rfl, rfl⟩) (.int .i64 (a1 : Int))).set (p := ⟨g, i * 2 + 1, none⟩) (.inl ⟨_, rfl, rfl⟩) (.int .u64 (a2 : Int)))
          go_roundw
          case measure => simp [Go.RowKit.intOf]; omega
          case rel => exact ⟨i + 1, j + 1, by go_num, by go_num, HT5.out, _, HKK, by rw [← HIS.out]; exact HO5.out⟩
        | true =>
          have HKK := hide (HKP.out.skip hjE hq)
          rw [hq] at HC
          clear hq HKP hjE
          generalize gi2 E j = ar at *
          obtain ⟨a1, a2⟩ := ar
          simp only at c1 c2 HC
          go_wp2_with (refine (HC.out _ GG).mono ?_; rintro e w' ⟨rfl, hg2⟩; obtain ⟨x1, rfl⟩ := hg2.later; clear hg2)
          have hgx : Grows wr x1.now := GG
          go_roundw
          case measure => simp [Go.RowKit.intOf]; omega
          case rel => exact ⟨i, j + 1, by go_num, by go_num, HTT.out.grows hgx, L, HKK, HO2.out.grows hgx⟩
      · obtain rfl : j = m := by omega
        have HFL := hide (show L.take i = E.filter (fun x => !p x) from by have := HKP.out.low; rw [HM.out, List.take_length] at this; exact this)
        have HFN := hide (show (E.filter (fun x => !p x)).length = i from by have := HKP.out.num; rw [HM.out, List.take_length] at this; exact this)
        have hLl : L.length = j := by rw [HKP.out.len]; exact HM.out.symm
        obtain ⟨vs, hcl⟩ : ∃ f : TypeId → List Value, ∀ ty, (Builtin.clear_ #[68] ty #[.slice (some ⟨g, i * 2, none⟩) (j - i) (c - i)]).run Try.prog wr = .ok (.tuple #[]) (wr.setCells g (i * 2) (f ty)) := by
          have h1 : ∀ ty, ∃ vs : List Value, (Builtin.clear_ #[68] ty #[.slice (some ⟨g, i * 2, none⟩) (j - i) (c - i)]).run Try.prog wr = .ok (.tuple #[]) (wr.setCells g (i * 2) vs) := fun ty => run_clearA wr ty g (i * 2) (j - i) (c - i) (by omega)
            (fun t ht => by rw [HO2.out.cell rfl (List.getElem?_eq_getElem (show i * 2 + t < (its L).length by rw [its_len, hLl]; omega))]; rfl)
            (fun t ht => HO2.out.frozen rfl (by omega) _)
          exact ⟨fun ty => (h1 ty).choose, fun ty => (h1 ty).choose_spec⟩
        have HO3 := hide (fun ty => show Own (wr.setCells g (i * 2) (vs ty)) 0 76 2 (some ⟨g, 0, none⟩) i c (its (L.take i)) from by
          obtain ⟨xs', ho3, hlow⟩ := Own.putsA (by omega) (vs ty) (i * 2) _ _ HO2.out
          have := ho3.cut (m := i) (by omega) (by omega)
          have e : xs'.take (i * 2) = its (L.take i) := by
            rw [its_take]
            apply List.ext_getElem?
            intro q
            rw [List.getElem?_take, List.getElem?_take]
            by_cases hqi : q < i * 2
            · rw [if_pos hqi, if_pos hqi, hlow q hqi]
            · rw [if_neg hqi, if_neg hqi]
          rwa [e] at this)
        have HT3 := hide (fun ty => show Touch (RowB (some (⟨g, 0, none⟩ : Addr))) w (wr.setCells g (i * 2) (vs ty)) from HTT.out.trans ((touchCells (vs ty) wr (i * 2)).mono (fun k hk => ⟨_, rfl, hk.symm⟩)))
        rw [HFL.out] at HO3
        clear HKP hk
        go_wp2
        go_ret
        rw [HFN.out]
        exact ⟨HT3.out _, rfl, HO3.out _⟩
end Go.Proofs.Yteodapefimlakaa

/- Contract: a core in memory. -/
namespace Go.Proofs.Yteodapefimlakaa
open Go Go.RowKit
def hsCells (x : Sc) : List Value := [.int .i64 (x.f : Int), .int .i64 (x.t : Int), .int .u64 (x.w : Int), .int .i64 x.e, .int .i64 x.a, .int .i64 x.b]
def hss (L : List Sc) : List Value := L.flatMap hsCells
def scVal (x : Sc) : Value := .agg #[.int .i64 (x.f : Int), .int .i64 (x.t : Int), .int .u64 (x.w : Int), .int .i64 x.e, .int .i64 x.a, .int .i64 x.b]
theorem hss_len (L : List Sc) : (hss L).length = L.length * 6 := flat_len hsCells 6 (fun _ => rfl) L
theorem hss_at (L : List Sc) (i j : Nat) (hi : i < L.length) (hj : j < 6) : (hss L)[i * 6 + j]? = (hsCells (gs L i))[j]? := flat_get hsCells 6 (fun _ => rfl) sc0 L i j hi hj
theorem hss_app (L : List Sc) (x : Sc) : hss (L ++ [x]) = hss L ++ hsCells x := by simp [hss]
theorem elemSc : Elem 26 45 6 := by
  have h : (Try.prog.info? 45).map (fun i => (i.zero, i.size, i.bytes)) = some (some (.agg #[.int .i64 0, .int .i64 0, .int .u64 0, .int .i64 0, .int .i64 0, .int .i64 0]), 6, 48) := by kernel_rfl
  obtain ⟨i, hi, hz, hs, hb⟩ := info_parts h
  exact ⟨Try.underlying26, ⟨i, _, 48, hi, hz, hs, hb, rfl, by omega⟩, by omega⟩
def mpC (at_ : Nat → Nat → Option Nat) (p q : Int) : Option Int := if 0 ≤ p ∧ 0 ≤ q then (at_ p.toNat q.toNat).map (fun i : Nat => (i : Int)) else none
theorem mpC_at (at_ : Nat → Nat → Option Nat) (p q : Nat) : mpC at_ (p : Int) (q : Int) = (at_ p q).map (fun i : Nat => (i : Int)) := by
  unfold mpC
  rw [if_pos ⟨by omega, by omega⟩]
  rfl
theorem mpC_put (at_ : Nat → Nat → Option Nat) (f t n : Nat) : (fun p q => if p = (f : Int) ∧ q = (t : Int) then some (n : Int) else mpC at_ p q) = mpC (fun p q => if p = f ∧ q = t then some n else at_ p q) := by
  funext p q
  unfold mpC
  by_cases h0 : 0 ≤ p ∧ 0 ≤ q
  · obtain ⟨p', rfl⟩ : ∃ m : Nat, p = (m : Int) := ⟨p.toNat, by omega⟩
    obtain ⟨q', rfl⟩ : ∃ m : Nat, q = (m : Int) := ⟨q.toNat, by omega⟩
    rw [if_pos h0]
    by_cases e : p' = f ∧ q' = t
    · obtain ⟨rfl, rfl⟩ := e
      simp
    · rw [if_neg (by omega)]
      simp only [h0, and_self, if_true, Int.toNat_natCast, if_neg e]
  · rw [if_neg h0, if_neg (by omega)]
    simp [h0]
set_option maxRecDepth 20000 in
theorem MapPV.lookOk {w : World} {b n : Nat} {f : Int → Int → Option Int} (h : MapPV w b n f) {k1 k2 : Int} (w1 : I64 k1) (w2 : I64 k2) :
    (Instr.lookup 108 (.map (some b)) (.agg #[.int .i64 k1, .int .i64 k2]) true).run Try.prog w = .ok (.tuple #[.int .i64 ((f k1 k2).getD 0), .bool (f k1 k2).isSome]) w := by
  obtain ⟨D, h1, h3, h4⟩ := h
  obtain ⟨v, ps, hrun, hv⟩ := h1.look_ok (t := 108) keyedP Try.underlying108 (zeroI w) (plainElem_int Try.underlying3 (by decide)) (keyOfP w1 w2)
  obtain ⟨c, rfl, hc, _⟩ := plainElem_int_inv Try.underlying3 hv
  have hc := congrArg Prod.fst hc
  simp only at hc
  rw [h4 k1 k2 w1 w2] at hc
  injection hc with hc
  injection hc with _ hc
  rw [hc, ← h3 k1 k2 w1 w2]
  exact hrun
set_option maxRecDepth 20000 in
theorem MapPV.look {w : World} {b n : Nat} {f : Int → Int → Option Int} (h : MapPV w b n f) {k1 k2 : Int} (w1 : I64 k1) (w2 : I64 k2) :
    (Instr.lookup 108 (.map (some b)) (.agg #[.int .i64 k1, .int .i64 k2]) false).run Try.prog w = .ok (.int .i64 ((f k1 k2).getD 0)) w := by
  obtain ⟨D, h1, h3, h4⟩ := h
  obtain ⟨c, hrun, hat, _⟩ := h1.lookup_int (t := 108) keyedP Try.underlying108 Try.underlying3 (zeroI w) (keyOfP w1 w2)
  rw [h4 k1 k2 w1 w2] at hat
  injection hat with hc
  injection hc with _ hc
  rw [hc]
  exact hrun
theorem MapPV.grow {w w' : World} {b n : Nat} {f : Int → Int → Option Int} (h : MapPV w b n f) (hg : Grows w w') : MapPV w' b n f := h.touch (hg.touch (fun _ => False)) id
theorem MapPV.not_arr {w : World} {b n g : Nat} {f : Int → Int → Option Int} {t : TypeId} {cs : List Value} (h : MapPV w b n f) (k : Arr w g t cs) : g ≠ b := by
  rintro rfl
  obtain ⟨D, ⟨es, clock, hb, _⟩, _⟩ := h
  have := hb.symm.trans k.is
  injection this with this
  cases this
theorem MapPV.not_own {w : World} {b n B n' c size : Nat} {f : Int → Int → Option Int} {e : TypeId} {A : Option Addr} {xs : List Value} (h : MapPV w b n f) (k : Own w B e size A n' c xs) : ∀ p, A = some p → p.block ≠ b := by
  rintro p rfl
  rcases k.2 with ⟨h1, _⟩ | ⟨g', cap, cur, h1, _, h3, _⟩
  · cases h1
  · injection h1 with h1 _ _
    injection h1 with h1
    subst h1
    rintro rfl
    obtain ⟨D, ⟨es, clock, hb, _⟩, _⟩ := h
    have := hb.symm.trans h3
    injection this with this
    cases this
theorem Own.unlike {w : World} {B B2 n n2 c c2 size size2 : Nat} {e t : TypeId} {A A2 : Option Addr} {xs ys : List Value} (h : Own w B e size A n c xs) (k : Own w B2 t size2 A2 n2 c2 ys) (hne : e ≠ t) : ∀ p q, A = some p → A2 = some q → p.block ≠ q.block := by
  rintro p q rfl rfl
  rcases h.2 with ⟨h1, _⟩ | ⟨g', cap, cur, h1, _, h3, _⟩
  · cases h1
  · injection h1 with h1 _ _
    injection h1 with h1
    subst h1
    rcases k.2 with ⟨k1, _⟩ | ⟨g2, cap2, cur2, k1, _, k3, _⟩
    · cases k1
    · injection k1 with k1 _ _
      injection k1 with k1
      subst k1
      rintro e'
      simp only at e'
      rw [← e', h3] at k3
      injection k3 with k3
      injection k3 with _ k3
      exact hne k3
structure CorePl where
  b : Nat
  go : Nat
  gg : Nat
  bm : Nat
  gd : Nat
  N : Nat
  hops : Nat
  settles : Nat
  rk : Value
structure CoreRw where
  As : Option Addr
  cs : Nat
  Af : Nat → Option Addr
  cf : Nat → Nat
  ln : Nat → Nat
def CorePl.cells (P : CorePl) (R : CoreRw) (n : Nat) : List Value :=
  [.slice (some ⟨P.go, 0, none⟩) P.N P.N, .slice (some ⟨P.gg, 0, none⟩) P.N P.N, .map (some P.bm), .slice R.As n R.cs, .int .i64 (P.hops : Int), .int .i64 (P.settles : Int), P.rk, .slice (some ⟨P.gd, 0, none⟩) P.N P.N]
def CoreRw.hdr (R : CoreRw) (x : Nat) : Value := .slice (R.Af x) (R.ln x) (R.cf x)
def CoreBl (P : CorePl) (R : CoreRw) (k : Nat) : Prop := k = P.b ∨ k = P.go ∨ k = P.gg ∨ k = P.bm ∨ k = P.gd ∨ RowB R.As k ∨ ∃ x, x < P.N ∧ RowB (R.Af x) k
structure CoreX (w : World) (P : CorePl) (R : CoreRw) (ok : Nat → Prop) (c : Ctr) (nm nl : Nat) (L : List Sc) : Prop where
  olen : c.O.length = P.N
  glen : c.G.length = P.N
  dlen : c.D.length = P.N
  core : Arr w P.b 110 (P.cells R nl)
  out : Arr w P.go 68 ((List.range P.N).map R.hdr)
  gone : Arr w P.gg 4 (c.G.map .bool)
  deep : Arr w P.gd 3 (nv c.D)
  map : MapPV w P.bm nm (mpC c.at_)
  list : Own w 0 45 6 R.As L.length R.cs (hss L)
  rows : ∀ x, x < P.N → ok x → R.ln x = (ga c.O x).length ∧ Own w 0 76 2 (R.Af x) (ga c.O x).length (R.cf x) (its (ga c.O x))
  lt : ∀ x, x < P.N → ∀ p, R.Af x = some p → p.block < w.heap.size ∧ ∃ cs, w.heap[p.block]? = some (.cells cs 76 (0, 0))
  apart : ∀ x y p q, x < P.N → y < P.N → x ≠ y → R.Af x = some p → R.Af y = some q → p.block ≠ q.block
section
variable {w w' : World} {P : CorePl} {R : CoreRw} {ok : Nat → Prop} {c : Ctr} {nm nl : Nat} {L : List Sc} {S : Nat → Prop}
theorem CoreX.touch (h : CoreX w P R ok c nm nl L) (ht : Touch S w w') (hs : ∀ k, CoreBl P R k → ¬ S k) : CoreX w' P R ok c nm nl L :=
  ⟨h.olen, h.glen, h.dlen, h.core.touch ht (hs _ (.inl rfl)), h.out.touch ht (hs _ (.inr (.inl rfl))), h.gone.touch ht (hs _ (.inr (.inr (.inl rfl)))), h.deep.touch ht (hs _ (.inr (.inr (.inr (.inr (.inl rfl)))))),
    h.map.touch ht (hs _ (.inr (.inr (.inr (.inl rfl))))), h.list.touch ht (fun p hp => hs _ (.inr (.inr (.inr (.inr (.inr (.inl ⟨p, hp, rfl⟩))))))),
    fun x hx ho => ⟨(h.rows x hx ho).1, (h.rows x hx ho).2.touch ht (fun p hp => hs _ (.inr (.inr (.inr (.inr (.inr (.inr ⟨x, hx, p, hp, rfl⟩)))))))⟩,
    fun x hx p hp => by
      obtain ⟨h1, cs, h2⟩ := h.lt x hx p hp
      exact ⟨Nat.lt_of_lt_of_le h1 ht.size, cs, ht.at (hs _ (.inr (.inr (.inr (.inr (.inr (.inr ⟨x, hx, p, hp, rfl⟩))))))) h2⟩, h.apart⟩
theorem CoreX.grow (h : CoreX w P R ok c nm nl L) (hg : Grows w w') : CoreX w' P R ok c nm nl L := h.touch (hg.touch (fun _ => False)) (fun _ _ => id)
theorem CoreX.row_arr (h : CoreX w P R ok c nm nl L) {x : Nat} (hx : x < P.N) {p : Addr} (hp : R.Af x = some p) {g : Nat} {t : TypeId} {cs : List Value} (k : Arr w g t cs) (hne : 76 ≠ t) : p.block ≠ g := by
  rintro rfl
  obtain ⟨_, cs', h2⟩ := h.lt x hx p hp
  have := h2.symm.trans k.is
  injection this with this
  injection this with _ this
  exact hne this
theorem CoreX.row_own (h : CoreX w P R ok c nm nl L) {x : Nat} (hx : x < P.N) {p : Addr} (hp : R.Af x = some p) {B n c' size : Nat} {t : TypeId} {A : Option Addr} {cs : List Value} (k : Own w B t size A n c' cs) (hne : 76 ≠ t) : ∀ q, A = some q → p.block ≠ q.block := by
  rintro q rfl
  obtain ⟨_, cs', h2⟩ := h.lt x hx p hp
  rcases k.2 with ⟨h1, _⟩ | ⟨g', cap, cur, h1, _, h3, _⟩
  · cases h1
  · injection h1 with h1 _ _
    injection h1 with h1
    subst h1
    rintro e
    simp only at e
    rw [e] at h2
    have := h2.symm.trans h3
    injection this with this
    injection this with _ this
    exact hne this
theorem CoreX.row_map (h : CoreX w P R ok c nm nl L) {x : Nat} (hx : x < P.N) {p : Addr} (hp : R.Af x = some p) : p.block ≠ P.bm := by
  intro e
  obtain ⟨_, cs', h2⟩ := h.lt x hx p hp
  obtain ⟨D, ⟨es, clock, hb, _⟩, _⟩ := h.map
  rw [e] at h2
  have := hb.symm.trans h2
  injection this with this
  cases this
theorem CoreX.bl_lt (h : CoreX w P R ok c nm nl L) : ∀ k, CoreBl P R k → k < w.heap.size := by
  rintro k (rfl | rfl | rfl | rfl | rfl | ⟨p, hp, rfl⟩ | ⟨x, hx, p, hp, rfl⟩)
  · exact h.core.lt
  · exact h.out.lt
  · exact h.gone.lt
  · exact h.map.lt
  · exact h.deep.lt
  · exact (World.ownsRow.lt h.list p.block (by rw [hp]; rfl)).2
  · exact (h.lt x hx p hp).1
theorem CoreX.mapped (h : CoreX w P R ok c nm nl L) {at_ : Nat → Nat → Option Nat} {nm' : Nat} (hm : MapPV w' P.bm nm' (mpC at_)) (ht : Touch (fun k => k = P.bm) w w') : CoreX w' P R ok ⟨c.O, c.G, at_, c.S, c.D⟩ nm' nl L :=
  ⟨h.olen, h.glen, h.dlen, h.core.touch ht (h.map.not_arr h.core), h.out.touch ht (h.map.not_arr h.out), h.gone.touch ht (h.map.not_arr h.gone), h.deep.touch ht (h.map.not_arr h.deep), hm,
    h.list.touch ht (h.map.not_own h.list), fun x hx ho => ⟨(h.rows x hx ho).1, (h.rows x hx ho).2.touch ht (h.map.not_own (h.rows x hx ho).2)⟩,
    fun x hx p hp => by
      obtain ⟨h1, cs, h2⟩ := h.lt x hx p hp
      exact ⟨Nat.lt_of_lt_of_le h1 ht.size, cs, ht.at (h.row_map hx hp) h2⟩, h.apart⟩
theorem CoreX.listed (h : CoreX w P R ok c nm nl L) {A' : Option Addr} {c' nl' : Nat} {L' : List Sc} (ho : Own w' 0 45 6 A' L'.length c' (hss L')) (ht : Touch (RowB R.As) w w') :
    Arr w' P.b 110 (P.cells R nl) ∧ CoreX (w'.setCell ⟨P.b, 3, none⟩ (.slice A' nl' c')) P ⟨A', c', R.Af, R.cf, R.ln⟩ ok c nm nl' L' := by
  have na : ∀ {g : Nat} {t : TypeId} {cs : List Value}, Arr w g t cs → 45 ≠ t → ¬ RowB R.As g := fun k hne => by
    rintro ⟨p, hp, rfl⟩
    exact h.list.not_arr k hne p hp rfl
  have nr : ∀ x, x < P.N → ∀ p, R.Af x = some p → ¬ RowB R.As p.block := fun x hx p hp => by
    rintro ⟨q, hq, e⟩
    exact h.row_own hx hp h.list (by decide) q hq e.symm
  have q1 : Arr w' P.b 110 (P.cells R nl) := h.core.touch ht (na h.core (by decide))
  have q2 := h.out.touch ht (na h.out (by decide))
  have q3 := h.gone.touch ht (na h.gone (by decide))
  have q4 := h.deep.touch ht (na h.deep (by decide))
  have q5 := h.map.touch ht (by rintro ⟨p, hp, e⟩; exact h.map.not_own h.list p hp e)
  have ts : Touch (fun k => k = P.b) w' (w'.setCell ⟨P.b, 3, none⟩ (.slice A' nl' c')) := (Touch.refl (fun k => k = P.b) w').set (p := ⟨P.b, 3, none⟩) (.inl rfl) _
  refine ⟨q1, ⟨h.olen, h.glen, h.dlen, q1.set 3 _, q2.touch ts (q2.ne q1 (by decide)), q3.touch ts (q3.ne q1 (by decide)), q4.touch ts (q4.ne q1 (by decide)), q5.touch ts (fun e => q5.not_arr q1 e.symm), ho.touch ts (ho.not_arr q1 (by decide)),
    fun x hx hk => ⟨(h.rows x hx hk).1, ?_⟩, fun x hx p hp => ?_, h.apart⟩⟩
  · have r := (h.rows x hx hk).2.touch ht (nr x hx)
    exact r.touch ts (r.not_arr q1 (by decide))
  · obtain ⟨h1, cs, h2⟩ := h.lt x hx p hp
    have h3 := ht.at (nr x hx p hp) h2
    refine ⟨Nat.lt_of_lt_of_le h1 (Nat.le_trans ht.size ts.size), cs, ts.at ?_ h3⟩
    intro e
    rw [e, q1.is] at h3
    injection h3 with h3
    injection h3 with _ h3
    exact absurd h3 (by decide)
theorem CoreX.any (h : CoreX w P R ok c nm nl L) (S2 : List Sc) : CoreX w P R ok ⟨c.O, c.G, c.at_, S2, c.D⟩ nm nl L := ⟨h.olen, h.glen, h.dlen, h.core, h.out, h.gone, h.deep, h.map, h.list, h.rows, h.lt, h.apart⟩
theorem Own.cells_ {B n c' size : Nat} {e : TypeId} {p : Addr} {xs : List Value} (h : Own w B e size (some p) n c' xs) : ∃ cs, w.heap[p.block]? = some (.cells cs e (0, 0)) := by
  rcases h.2 with ⟨h1, _⟩ | ⟨g', cap, cur, h1, _, h3, _⟩
  · cases h1
  · injection h1 with h1 _ _
    injection h1 with h1
    subst h1
    exact ⟨cur, h3⟩
theorem CoreX.turned (h : CoreX w P R ok c nm nl L) {u : Nat} (hu : u < P.N) (ht : Touch (RowB (R.Af u)) w w') (hl : ∀ p, R.Af u = some p → ∃ cs, w'.heap[p.block]? = some (.cells cs 76 (0, 0))) : CoreX w' P R (fun x => ok x ∧ x ≠ u) c nm nl L := by
  have na : ∀ {g : Nat} {t : TypeId} {cs : List Value}, Arr w g t cs → 76 ≠ t → ¬ RowB (R.Af u) g := fun k hne => by
    rintro ⟨p, hp, rfl⟩
    exact h.row_arr hu hp k hne rfl
  have nr : ∀ x, x < P.N → x ≠ u → ∀ p, R.Af x = some p → ¬ RowB (R.Af u) p.block := fun x hx hne p hp => by
    rintro ⟨q, hq, e⟩
    exact h.apart x u p q hx hu hne hp hq e.symm
  refine ⟨h.olen, h.glen, h.dlen, h.core.touch ht (na h.core (by decide)), h.out.touch ht (na h.out (by decide)), h.gone.touch ht (na h.gone (by decide)), h.deep.touch ht (na h.deep (by decide)),
    h.map.touch ht (by rintro ⟨p, hp, e⟩; exact h.row_map hu hp e), h.list.touch ht (fun p hp => by rintro ⟨q, hq, e⟩; exact h.row_own hu hq h.list (by decide) p hp e),
    fun x hx hk => ⟨(h.rows x hx hk.1).1, (h.rows x hx hk.1).2.touch ht (nr x hx hk.2)⟩, fun x hx p hp => ?_, h.apart⟩
  obtain ⟨h1, cs, h2⟩ := h.lt x hx p hp
  refine ⟨Nat.lt_of_lt_of_le h1 ht.size, ?_⟩
  by_cases e : x = u
  · subst e; exact hl p hp
  · exact ⟨cs, ht.at (nr x hx e p hp) h2⟩
